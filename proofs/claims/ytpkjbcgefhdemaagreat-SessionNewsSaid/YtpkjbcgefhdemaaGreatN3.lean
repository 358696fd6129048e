import Derived.Test.YtpkjbcgefhdemaaGreatN2
import Derived.Test.YtpkjbcgefhdemaaGreatN1
import Derived.Deep.Slices
import Derived.SizedLaws
set_option linter.unusedVariables false
set_option linter.unusedSimpArgs false
set_option linter.unusedSectionVars false
set_option maxRecDepth 100000
namespace Go.Proofs
open Go Go.Sx
open aq
structure ir(K0:Kd)(S0:Nat→aq.Fn)(U:aq.Fn→Prop)(ord:List Nat)(K:Kd)(S:Nat→aq.Fn)(made:List Nat):Prop where
 n:K.n=K0.n
 cap:K.cap=K0.cap
 N:∀s d,K0.N s=some d→K.N s=some d
 fn:∀s,live K0.N s→S s=S0 s
 hold:∀s,K.hold s=K0.hold s+made.count s
 two:∀s∈made,2≤s
 U:∀g,aA K0.n ord (K.held S) g→U g
theorem ir.refl{K0:Kd}{S0:Nat→aq.Fn}{U:aq.Fn→Prop}{ord:List Nat}(h:∀g,aA K0.n ord (K0.held S0) g→U g):ir K0 S0 U ord K0 S0 []:=⟨rfl,rfl,fun _ _ h=>h,fun _ _=>rfl,fun s=>by simp,by simp,h⟩
def Fits(U:aq.Fn→Prop)(cap:Nat):Prop:=∃ku,xg U ku∧ku+2≤cap
section
variable {kp:Nat} {K0 K:Kd} {S0 S:Nat→aq.Fn} {U:aq.Fn→Prop} {ord af tr:List Nat} {made:List Nat} {C:Hp}
theorem ir.eC(h:ir K0 S0 U ord K S made)(hK:ct kp K S ord af tr C){s:Nat}(hs:s∈made):live K.N s:=by
 refine .inr (hK.ok.mid.held s ?_)
 rw[h.hold]
 have:=List.count_pos_iff.2 hs
 omega
theorem l5{b:Nat}:∀(m:Nat) (l:List Nat),(∀x∈l,x<m)→(∀x,l.count x≤b)→l.length≤m*b
 |0,l,h1,_=>by
  cases l with
  |nil=>simp
  |cons x l=>exact absurd (h1 x (List.mem_cons_self ..)) (Nat.not_lt_zero _)
 |m+1,l,h1,h2=>by
  have ih:=l5 m (l.filter fun x=> !(x==m)) (fun x hx=>by
   obtain⟨hx,hne⟩:=List.mem_filter.1 hx
   have:=h1 x hx
   have:x≠m:=by simpa using hne
   omega) (fun x=>Nat.le_trans (List.filter_sublist.count_le x) (h2 x))
  have e:=List.length_eq_countP_add_countP (fun x=>x==m) (l:=l)
  have h3:=h2 m
  rw[List.count]at h3
  rw[List.countP_eq_length_filter (l:=l) (p:=fun a=>decide ¬(a==m)=true)]at e
  rw[Nat.succ_mul]
  have e2:(l.filter fun a=>decide ¬(a==m)=true)=l.filter fun x=> !(x==m):=List.filter_congr fun x _=>by cases x==m<;>rfl
  rw[e2]at e
  omega
theorem ir.nV(h:ir K0 S0 U ord K S made)(hK:ct kp K S ord af tr C):made.length≤1048576*65535:=
 l5 _ _ (fun x hx=>by
  have hc:=List.count_pos_iff.2 hx
  have:=h.hold x
  obtain⟨d,hd⟩:=hK.ok.mid.held x (by omega)
  have:=(hK.ok.mid.two hd).2
  have:=hK.ok.mid.cap
  omega) (fun x=>by have:=h.hold x;have:=hK.ok.mid.mx x;omega)
theorem ir.full(h:ir K0 S0 U ord K S made){r:Nat}(hr:K.hold r=65535):r∈made∨K0.hold r=65535:=by
 by_cases hm:r∈made
 ·exact .inl hm
 ·have:=h.hold r
  rw[List.count_eq_zero.2 hm]at this
  exact .inr (by omega)
theorem ir.live(h:ir K0 S0 U ord K S made){s:Nat}(hs:live K0.N s):live K.N s:=gb h.N hs
theorem ir.step(h:ir K0 S0 U ord K S made)(hK:ct kp K S ord af tr C){K':Kd}{S':Nat→aq.Fn}{f:aq.Fn}{r:Nat}(m:jr K S K' S' f r)(h2:2≤r)(hU:∀g,aA K0.n ord (fun g=>g=f) g→U g):ir K0 S0 U ord K' S' (made++[r]):=by
 refine⟨m.n.trans h.n,m.cap.trans h.cap,fun s d hd=>m.N s d (h.N s d hd),fun s hs=>(m.fn s (h.live hs)).trans (h.fn s hs),fun s=>?_,fun s hs=>?_,fun g hg=>?_⟩
 ·rw[m.hold,List.count_append,List.count_singleton,h.hold]
  by_cases e:s=r
  ·subst e;simp[h2];omega
  ·have:(r==s)=false:=by simpa using fun e'=>e e'.symm
   simp[e,this]
 ·rcases List.mem_append.1 hs with hs|hs
  ·exact h.two s hs
  ·simp at hs;subst hs;exact h2
 ·have tp:∀g,K'.held S' g→K.held S g∨g=f:=by
   rintro g ⟨s,hs,rfl⟩
   have hs':K'.hold s≠0:=hs
   rw[m.hold]at hs'
   by_cases e:s=r∧2≤r
   ·right;rw[e.1];exact m.is
   ·rw[if_neg e]at hs'
    exact .inl ⟨s,hs',m.fn s (.inr (hK.ok.mid.held s hs'))⟩
  rcases(nR g).1 (c5 tp hg)with h1|h1
  ·exact h.U g h1
  ·exact hU g h1
end
def ng(jo b1 b5 iD:Nat):Value:=.func (.func 252) #[] #[ptr jo,ptr b1,ptr b5,ptr iD]
structure qd(fv:Value)(LB:Hp)(t:Bool→Bool→Bool→Bool):Prop where
 is:∃f first cap,fv=.func (.func f) first cap∧aG Tryz.prog f=true∧∀x y z:Bool,Rd Tryz.prog f (first++ #[.bool x,.bool y,.bool z]++cap) LB (· =.bool (t x y z))
def C8(K0:Kd)(S0 S:Nat→aq.Fn)(t:Bool→Bool→Bool→Bool)(made:List Nat)(m:List (Q3×Nat)):Prop:=∀y∈m,S y.2=jA t S0 (l3 y.1)∧(y.2<2∨y.2∈made∨K0.hold y.2=65535)
section
variable {kp jo b1 b5 iD bm bw:Nat} {vl fv:Value} {LB CL:Hp} {lvl:List Nat} {K0:Kd} {S0:Nat→aq.Fn} {U:aq.Fn→Prop} {ord af:List Nat} {t:Bool→Bool→Bool→Bool}
abbrev zE(jo b1 b5 iD bm bw kp:Nat)(fv vl vm:Value)(LB CL CM C:Hp)(es:Array MapEntry)(ck:Nat):Hp:=
 (jo,.cells #[.map (some bm)] 307 (0,0))::(b1,.cells #[ptr bw] 231 (0,0))::(b5,.cells #[fv] 237 (0,0))::(iD,.cells #[ng jo b1 b5 iD] 308 (0,0))::
 (LB++((bm,.map es ck)::(cR bw kp vl vm::(CL++(CM++C)))))
structure Fy(kp:Nat)(K0:Kd)(S0:Nat→aq.Fn)(U:aq.Fn→Prop)(ord af z5:List Nat)(t:Bool→Bool→Bool→Bool)(K:Kd)(S:Nat→aq.Fn)(made:List Nat)(es:Array MapEntry)(ck:Nat)(vm:Value)(CM C:Hp):Prop where
 ks:∃tr,ct kp K S ord af tr C∧(tr=[]∨(tr=z5∧made=[]))
 dU:ir K0 S0 U ord K S made
 Dg:au 110 .u32 vm (iw made) CM
 kn:∃m,aH kq y5 es ck m∧C8 K0 S0 S t made m
structure cJ(K:Kd)(S:Nat→aq.Fn)(made:List Nat)(K':Kd)(S':Nat→aq.Fn)(made':List Nat)(c:Nat):Prop where
 N:∀s d,K.N s=some d→K'.N s=some d
 fn:∀s,live K.N s→S' s=S s
 ext:∃ext,made'=made++ext∧ext.length≤c
theorem cJ.refl{K:Kd}{S:Nat→aq.Fn}{made:List Nat}{c:Nat}:cJ K S made K S made c:=⟨fun _ _ h=>h,fun _ _=>rfl,[],by simp,Nat.zero_le _⟩
section
variable {K K' K2:Kd} {S S' S2:Nat→aq.Fn} {made made' eD:List Nat} {c c':Nat}
theorem cJ.sP(h:cJ K S made K' S' made' c)(hc:c≤c'):cJ K S made K' S' made' c':=⟨h.N,h.fn,let ⟨e,h1,h2⟩:=h.ext;⟨e,h1,by omega⟩⟩
theorem cJ.mem{s:Nat}(h:cJ K S made K' S' made' c)(hs:s∈made):s∈made':=by
 obtain⟨e,rfl,_⟩:=h.ext;exact List.mem_append_left _ hs
theorem cJ.count(h:cJ K S made K' S' made' c)(s:Nat):made'.count s≤made.count s+c∧made'.length≤made.length+c:=by
 obtain⟨e,rfl,he⟩:=h.ext
 have:=List.count_le_length (a:=s) (l:=e)
 rw[List.count_append,List.length_append];omega
theorem cJ.trans(h:cJ K S made K' S' made' c)(h':cJ K' S' made' K2 S2 eD c'):cJ K S made K2 S2 eD (c+c'):=by
 obtain⟨e,rfl,he⟩:=h.ext
 obtain⟨e',rfl,he'⟩:=h'.ext
 exact⟨fun s d hd=>h'.N s d (h.N s d hd),fun s hs=>(h'.fn s (gb h.N hs)).trans (h.fn s hs),e++e',by rw[List.append_assoc],by rw[List.length_append];omega⟩
end
theorem jR{κ β:Type}[DecidableEq κ]{m:List (κ×β)}{k:κ}{x:β}{y:κ×β}(h:y∈dV m k x):y=(k,x)∨y∈m:=by
 unfold dV at h
 split at h
 ·obtain⟨z,hz,rfl⟩:=List.mem_map.1 h
  split
  ·exact .inl rfl
  ·exact .inr hz
 ·rcases List.mem_append.1 h with h|h
  ·exact .inr h
  ·simp at h;exact .inl h
def nM(N:cP)(v:Nat)(b:Bool)(q:Q3):Q3:=(dk N v b q.1,dk N v b q.2.1,dk N v b q.2.2)
theorem yj(N:cP)(v:Nat)(b:Bool)(q:Q3):l3 (nM N v b q)=dH N v b (l3 q):=rfl
theorem oh{N N':cP}(hN:∀s d,N s=some d→N' s=some d)(h2:∀r,r<2→N r=none)(mg:∀r,r<2→N' r=none){r:Nat}(hr:live N r):got N' r=got N r:=by
 rcases hr with hr|⟨d,hd⟩
 ·rw[dL hr,dL hr]
 ·by_cases h:r<2
  ·rw[h2 r h]at hd;cases hd
  ·rw[dh hd (by omega),dh (hN r d hd) (by omega)]
def Je(kp jo b1 b5 iD bm bw:Nat)(fv vl:Value)(LB CL:Hp)(K0:Kd)(S0:Nat→aq.Fn)(U:aq.Fn→Prop)(ord af z5:List Nat)(t:Bool→Bool→Bool→Bool)(ql:List Nat)(c:Nat)(K:Kd)(S:Nat→aq.Fn)(made:List Nat)(r:Value)(H:Hp):Prop:=
 ∃K' S' made' es' cY zY AY C',H=zE jo b1 b5 iD bm bw kp fv vl zY LB CL AY C' es' cY∧Fy kp K0 S0 U ord af z5 t K' S' made' es' cY zY AY C'∧cJ K S made K' S' made' c∧
   ((∃x:Nat,r=.tuple #[u32 x,.int .i64 0]∧S' x=jA t S0 ql∧(x<2∨x∈made'∨K0.hold x=65535))∨(r=.tuple #[u32 0,.int .i64 9]∧¬Fits U K0.cap))
theorem AJ(dF:aG Tryz.prog 252=true)(DD:qd fv LB t)(Be:au 3 .i64 vl (iw lvl) CL)(ti:lvl.length=K0.n)(hlv:∀v,v<K0.n→lvl.getD v 0=lv af v)(vR:K0.n≤64)(xu:WF K0.n (lv af) K0.N)(AI:Interp K0.N S0)(wj:kX K0.n (lv af))(DF:∀r,live K0.N r→r<4294967296)(Du:∀s,K0.hold s=65535→live K0.N s){z5:List Nat}:
  ∀(ql:List Nat) (c:Nat),Tree K0.n (lv af) K0.N ql c→∀(q:Q3),l3 q=ql→∀(K:Kd) (S:Nat→aq.Fn) (made:List Nat) (es:Array MapEntry) (ck:Nat) (vm:Value) (CM C:Hp),Fy kp K0 S0 U ord af z5 t K S made es ck vm CM C→
  (∀r∈ql,live K0.N r)→(∀g,aA K0.n ord (fun g=>g=jA t S0 ql) g→U g)→
  Fc Tryz.prog 252 #[kq q,ptr jo,ptr b1,ptr b5,ptr iD] (zE jo b1 b5 iD bm bw kp fv vl vm LB CL CM C es ck) (fun r H=>Je kp jo b1 b5 iD bm bw fv vl LB CL K0 S0 U ord af z5 t ql c K S made r H):=by
 have hc0:∀r,r<2→K0.N r=none:=fun r hr=>xu.const hr
 intro ql c hT
 induction hT with
 | @leaf ql hnone=>
  intro q hq K S made es ck vm CM C hS eJ hU g
  subst hq
  obtain⟨tr,hK,BE⟩:=hS.ks
  obtain⟨m,hE,hkn⟩:=hS.kn
  have EL:∀r,r<2→K.N r=none:=fun r hr=>hK.ok.wf.const hr
  refine kP (R:=aY _) ?_
  unfold L252
  intro bq _
  refine Ld.q ?_
  refine aB.q ?_
  have BT:(bm,Obj.map es ck)∈(bq,Obj.cells (ai .u32 (iw (l3 q))) 236 (0,0))::zE jo b1 b5 iD bm bw kp fv vl vm LB CL CM C es ck:=.tail _ (.tail _ (.tail _ (.tail _ (.tail _ (List.mem_append_right _ (.head _))))))
  cases hg:aU m q with
  |some x=>
   refine aH.yz (ke:=kq) (k:=q) jX gI hE BT hg ?_
   rintro v rfl
   obtain⟨h1,h2⟩:=hkn _ ((eB hE.nd).1 hg)
   refine Ext.mk rfl (Ext.mk rfl (Br.yes ?_))
   exact aY.mk .tail ⟨K,S,made,es,ck,vm,CM,C,rfl,hS,.refl,.inl ⟨x,rfl,h1,h2⟩⟩
  |none=>
   refine aH.rY (ke:=kq) (k:=q) jX gI hE BT hg ?_
   refine Ext.mk rfl (Ext.mk rfl (Br.no ?_))
   refine Ld.q ?_
   refine aB.q ?_
   refine aa.fq (args:=#[ptr bw,kq q]) (mr hK.rep q (fun r hr=>DF r (eJ r hr))) ?_
   rintro vn H ⟨CN,rfl,hN⟩
   have eN:(l3 q).map (got K.N)=(l3 q).map (got K0.N):=List.map_congr_left fun r hr=>oh hS.dU.N hc0 EL (eJ r hr)
   rw[eN]at hN
   refine Ld.q ?_
   refine aa.rq (sC (bw:=bw) (kp:=kp) (vl:=vl) (vm:=vm) (lvl:=lvl) (n:=K0.n) (nW:=lv af) (N:=K0.N) (.tail _ (.tail _ (.tail _ (.tail _ (.tail _ (List.mem_append_right _ (.tail _ (List.mem_append_right _ (.head _))))))))) (Be.ints.mono fun _ h=>.tail _ (.tail _ (.tail _ (.tail _ (.tail _ (List.mem_append_right _ (.tail _ (List.mem_append_right _ (.tail _ (List.mem_append_left _ h)))))))))) ti hlv q ((Sl.lF hN (by decide)).mono fun _ h=>.tail _ (.tail _ (.tail _ (.tail _ (.tail _ (List.mem_append_right _ (.tail _ (List.mem_append_left _ h)))))))) xu wj eJ vR) ?_
   rintro w (⟨_,rfl⟩|⟨v,hv,rfl⟩)
   rotate_left
   ·obtain⟨s,hs,d,hd,_⟩:=hv.ex
    rw[hnone s hs]at hd;cases hd
   refine ae.lss (Br.T ?_)
   have Ay:∀r∈l3 q,r<2:=fun r hr=>by
    rcases eJ r hr with h|⟨d,hd⟩
    ·exact h
    ·rw[hnone r hr]at hd;cases hd
   obtain⟨f,first,cap,EC,HW,hL⟩:=DD.is
   refine Ld.q ?_
   refine dy.nat (j:=0) (by decide) (Ld.q ?_)
   refine ae.lg (b:=1) ?_
   refine dy.nat (j:=1) (by decide) (Ld.q ?_)
   refine ae.lg (b:=1) ?_
   refine dy.nat (j:=2) (by decide) (Ld.q ?_)
   refine ae.lg (b:=1) ?_
   refine bj.of EC HW ?_
   refine aa.eq (hL _ _ _) ?_
   have zx:=fun x=>tF AI (q:=l3 q) rfl Ay t x
   have hint:=hK.ok.mid.int
   have zy:aS ((bq,Obj.cells (ai .u32 (iw (l3 q))) 236 (0,0))::(jo,.cells #[.map (some bm)] 307 (0,0))::(b1,.cells #[ptr bw] 231 (0,0))::(b5,.cells #[fv] 237 (0,0))::(iD,.cells #[ng jo b1 b5 iD] 308 (0,0))::(LB++((bm,.map es ck)::(CN++(cR bw kp vl vm::(CL++(CM++C))))))) (zE jo b1 b5 iD bm bw kp fv vl vm LB CL CM C es ck):=
    .skip (.cons (.cons (.cons (.cons (.cZ (.cons .right) _)))))
   refine Br.mk (fun hb=>?_) (fun hb=>?_)
   ·refine aY.mk zy ⟨K,S,made,es,ck,vm,CM,C,rfl,hS,.refl,.inl ⟨1,rfl,funext fun x=>?_,.inl (by omega)⟩⟩
    rw[hint.one,zx x];exact hb.symm
   ·refine aY.mk zy ⟨K,S,made,es,ck,vm,CM,C,rfl,hS,.refl,.inl ⟨0,rfl,funext fun x=>?_,.inl (by omega)⟩⟩
    rw[hint.zero,zx x];exact hb.symm
 | @node ql v a b hv ha hb Hf He=>
  intro q hq K S made es ck vm CM C hS eJ hU g
  subst hq
  obtain⟨tr,hK,BE⟩:=hS.ks
  obtain⟨m,hE,hkn⟩:=hS.kn
  have EL:∀r,r<2→K.N r=none:=fun r hr=>hK.ok.wf.const hr
  refine kP (R:=aY _) ?_
  unfold L252
  intro bq _
  refine Ld.q ?_
  refine aB.q ?_
  have BT:(bm,Obj.map es ck)∈(bq,Obj.cells (ai .u32 (iw (l3 q))) 236 (0,0))::zE jo b1 b5 iD bm bw kp fv vl vm LB CL CM C es ck:=.tail _ (.tail _ (.tail _ (.tail _ (.tail _ (List.mem_append_right _ (.head _))))))
  cases hg:aU m q with
  |some x=>
   refine aH.yz (ke:=kq) (k:=q) jX gI hE BT hg ?_
   rintro v rfl
   obtain⟨h1,h2⟩:=hkn _ ((eB hE.nd).1 hg)
   refine Ext.mk rfl (Ext.mk rfl (Br.yes ?_))
   exact aY.mk .tail ⟨K,S,made,es,ck,vm,CM,C,rfl,hS,.refl,.inl ⟨x,rfl,h1,h2⟩⟩
  |none=>
  refine aH.rY (ke:=kq) (k:=q) jX gI hE BT hg ?_
  refine Ext.mk rfl (Ext.mk rfl (Br.no ?_))
  refine Ld.q ?_
  refine aB.q ?_
  refine aa.fq (args:=#[ptr bw,kq q]) (mr hK.rep q (fun r hr=>DF r (eJ r hr))) ?_
  rintro vn H ⟨CN,rfl,hN⟩
  have eN:(l3 q).map (got K.N)=(l3 q).map (got K0.N):=List.map_congr_left fun r hr=>oh hS.dU.N hc0 EL (eJ r hr)
  rw[eN]at hN
  refine Ld.q ?_
  refine aa.rq (sC (bw:=bw) (kp:=kp) (vl:=vl) (vm:=vm) (lvl:=lvl) (n:=K0.n) (nW:=lv af) (N:=K0.N) (.tail _ (.tail _ (.tail _ (.tail _ (.tail _ (List.mem_append_right _ (.tail _ (List.mem_append_right _ (.head _))))))))) (Be.ints.mono fun _ h=>.tail _ (.tail _ (.tail _ (.tail _ (.tail _ (List.mem_append_right _ (.tail _ (List.mem_append_right _ (.tail _ (List.mem_append_left _ h)))))))))) ti hlv q ((Sl.lF hN (by decide)).mono fun _ h=>.tail _ (.tail _ (.tail _ (.tail _ (.tail _ (List.mem_append_right _ (.tail _ (List.mem_append_left _ h)))))))) xu wj eJ vR) ?_
  rintro w (⟨aF,_⟩|⟨v',xk,rfl⟩)
  ·obtain⟨s,hs,d,hd,_⟩:=hv.ex
   rw[aF s hs]at hd;cases hd
  obtain rfl:v'=v:=xk.uniq wj hv
  refine ae.lss (Br.F ?_)
  refine DR.of (R:=[(bq,Obj.cells (ai .u32 (iw (l3 q))) 236 (0,0))]) (aS.left (A:=[_])) ?_
  refine aB.q ?_
  refine aB.q ?_
  intro Ft _ Bf _ JW
  have hone:∀x∈(iw (l3 q)).map fun n=>Value.int .u32 n,x.oneCell'=true:=fun x hx=>by obtain⟨n,_,rfl⟩:=List.mem_map.1 hx;rfl
  refine St.p hone ?_
  refine⟨.skip (.skip (aS.left (A:=[_]))),?_⟩
  intro JV
  refine St.p hone ?_
  refine hN.cN ?_
  rw[List.length_map]
  refine⟨fun vs H=>∃i:Nat,vs=[.int .i64 (i:Int)]∧i≤3∧H=(Bf,.cells (ai .u32 (iw (eY K0.N v' true (l3 q) i))) 236 (0,0))::(Ft,.cells (ai .u32 (iw (eY K0.N v' false (l3 q) i))) 236 (0,0))::
    (bq,Obj.cells (ai .u32 (iw (l3 q))) 236 (0,0))::(jo,.cells #[.map (some bm)] 307 (0,0))::(b1,.cells #[ptr bw] 231 (0,0))::(b5,.cells #[fv] 237 (0,0))::(iD,.cells #[ng jo b1 b5 iD] 308 (0,0))::(LB++((bm,.map es ck)::(CN++(cR bw kp vl vm::(CL++(CM++C)))))),
   fun vs _=>3-cj vs 0,JE.mk ⟨0,rfl,by omega,by rw[lJ,lJ];rfl⟩,?_⟩
  rintro Jf H ⟨i,hvs,hi,rfl⟩ gs
  simp only[List.cons.injEq,and_true]at hvs
  subst hvs
  have JB:(l3 q).length=3:=rfl
  refine ae.jB (b:=3) (Br.dec (fun hlt=>?_) (fun hlt=>?_))
  ·-- a part of the question
   intro J hJ
   obtain⟨r,hr⟩:∃r,(l3 q)[i]? =some r:=⟨_,List.getElem?_eq_getElem (show i<(l3 q).length from hlt)⟩
   have hlr:=eJ r (List.mem_of_getElem? hr)
   have hrow:((l3 q).map (got K0.N))[i]? =some (got K0.N r):=by rw[List.getElem?_map,hr];rfl
   refine ah.sl (Sl.lF hN (by decide)) hrow fun p hp=>?_
   refine aB.at hp (aJ _ _).1 (by decide) (fun _ h=>.tail _ (.tail _ (.tail _ (.tail _ (.tail _ (.tail _ (.tail _ (List.mem_append_right _ (.tail _ (List.mem_append_left _ h)))))))))) ?_
   intro IJ _
   refine St.whole (r:=got K0.N r) (by exact .head _) rfl (aJ _ _).1 (aJ _ _).2 ?_
   have stay:dk K0.N v' false r=r→dk K0.N v' true r=r→∀Z:Hp,JE J [] (Z++((Bf,.cells (ai .u32 (iw (eY K0.N v' true (l3 q) i))) 236 (0,0))::(Ft,.cells (ai .u32 (iw (eY K0.N v' false (l3 q) i))) 236 (0,0))::
    (bq,Obj.cells (ai .u32 (iw (l3 q))) 236 (0,0))::(jo,.cells #[.map (some bm)] 307 (0,0))::(b1,.cells #[ptr bw] 231 (0,0))::(b5,.cells #[fv] 237 (0,0))::(iD,.cells #[ng jo b1 b5 iD] 308 (0,0))::(LB++((bm,.map es ck)::(CN++(cR bw kp vl vm::(CL++(CM++C)))))))):=fun e1 e2 Z=>by
    refine JE.of .right (hJ _ fun gs=>?_)
    refine ae.inc ?_
    exact av.of (.refl _) ⟨i+1,rfl,by omega,by rw[lK hr e1,lK hr e2]⟩ (by simp only[cj];omega)
   cases AE:K0.N r with
   |none=>
    have oa:r<2:=by rcases hlr with h2|⟨d,hd⟩;exact h2;rw[AE]at hd;cases hd
    rw[dL oa]
    refine Ld.f ?_
    refine ae.iR (Br.F ?_)
    have ec:∀b,dk K0.N v' b r=r:=fun b=>by unfold dk;rw[AE]
    exact stay (ec false) (ec true) [_]
   |some d=>
    have h2:=xu.two AE
    rw[dh AE h2]
    refine Ld.f ?_
    refine ae.lg (Br.dec (fun tt=>?_) (fun tt=>?_))
    ·refine DR.of (R:=[(IJ,Obj.cells (dB d).toArray 226 (0,0))]) (aS.left (A:=[_])) ?_
     refine Ld.f ?_
     refine Ld.f ?_
     have ID:dk K0.N v' false r=d.lo:=by unfold dk;rw[AE];simp[tt]
     have IE:dk K0.N v' true r=d.hi:=by unfold dk;rw[AE];simp[tt]
     refine dy.nat hlt ?_
     refine St.ints (l:=iw (eY K0.N v' false (l3 q) i)) (x:=(d.lo:Int)) (by exact .tail (.tail (.head _))) (by rw[aE,nT (by omega)];omega) ?_
     refine⟨aS.left (A:=[_]),?_⟩
     refine dy.nat hlt ?_
     refine St.ints (l:=iw (eY K0.N v' true (l3 q) i)) (x:=(d.hi:Int)) (by exact .tail (.head _)) (by rw[aE,nT (by omega)];omega) ?_
     rw[ej,ej,←ID,←IE,iK hr,iK hr]
     refine JE.of .tail (hJ _ fun gs=>?_)
     refine ae.inc ?_
     exact av.of (.refl _) ⟨i+1,rfl,by omega,rfl⟩ (by simp only[cj];omega)
    ·have ec:∀b,dk K0.N v' b r=r:=fun b=>by unfold dk;rw[AE];simp[tt]
     exact stay (ec false) (ec true) [_]
  obtain rfl:i=3:=by omega
  have em:∀b,eY K0.N v' b (l3 q) 3=l3 (nM K0.N v' b q):=fun b=>by rw[yj,←vv];rfl
  rw[em,em]
  obtain⟨f1,f2⟩:=jF (S:=S0) xu wj AI eJ hv false
  obtain⟨t1,t2⟩:=jF (S:=S0) xu wj AI eJ hv true
  have ec:∀b,jA t S0 (dH K0.N v' b (l3 q))=fun x=>jA t S0 (l3 q) (dQ.aQ x v' b):=fun b=>yN xu wj AI rfl eJ hv t b
  have oS:Ord K0.n (lv af) ord:=by rw[←hS.dU.n];exact hK.od
  have jx:=wj.lt v' hv.lt
  have BP:=oS.of wj hv.lt
  have vV:=tE xu wj AI oS (q:=l3 q) rfl eJ (Nat.le_of_lt jx) hv.le t
  obtain⟨i1,DY⟩:=lz (n:=K0.n) (ord:=ord) (c:=jA t S0 (dH K0.N v' false (l3 q))) vV (b:=false) (by rw[BP];exact ec false)
  obtain⟨i2,DX⟩:=lz (n:=K0.n) (ord:=ord) (c:=jA t S0 (dH K0.N v' true (l3 q))) vV (b:=true) (by rw[BP];exact ec true)
  refine Ld.q ?_
  refine aB.q ?_
  refine bj.of rfl dF ?_
  refine aa.pre (H':=(Bf,.cells (ai .u32 (iw (l3 (nM K0.N v' true q)))) 236 (0,0))::(Ft,.cells (ai .u32 (iw (l3 (nM K0.N v' false q)))) 236 (0,0))::(bq,Obj.cells (ai .u32 (iw (l3 q))) 236 (0,0))::zE jo b1 b5 iD bm bw kp fv vl vm LB CL CM C es ck) (.cons (.cons (.cons (.cons (.cons (.cons (.cons (.cZ (.cons .right) _)))))))) ?_
  refine aa.fq (args:=#[kq (nM K0.N v' false q),ptr jo,ptr b1,ptr b5,ptr iD]) (Hf (nM K0.N v' false q) rfl K S made es ck vm CM C hS f1 (fun g hg=>hU g (DY g hg))) ?_
  rintro w H ⟨K1,S1,zg,AL,AM,FN,GW,C1,rfl,xw,Fe,wc⟩
  rcases wc with⟨x1,rfl,Ho,th⟩|⟨rfl,hno⟩
  rotate_left
  ·refine Ext.mk rfl (Ext.mk rfl (ae.ep (Br.T ?_)))
   exact aY.mk (.skip (.skip .tail)) ⟨K1,S1,zg,AL,AM,FN,GW,C1,rfl,xw,Fe.sP (by omega),.inr ⟨rfl,hno⟩⟩
  refine Ext.mk rfl (Ext.mk rfl (ae.ep (Br.F ?_)))
  refine Ld.q ?_
  refine aB.q ?_
  refine bj.of rfl dF ?_
  have Gj:=fun s=>Fe.count s
  have JD:∀s,K1.hold s≤K.hold s+a:=fun s=>by rw[xw.dU.hold,hS.dU.hold];have:=(Gj s).1;omega
  refine aa.fq (args:=#[kq (nM K0.N v' true q),ptr jo,ptr b1,ptr b5,ptr iD]) (He (nM K0.N v' true q) rfl K1 S1 zg AL AM FN GW C1 xw t1 (fun g hg=>hU g (DX g hg))) ?_
  rintro w H ⟨K2,S2,eD,xx,xy,Df,DQ,C2,rfl,ki,Fb,wc⟩
  have wo:=Fe.trans Fb
  rcases wc with⟨x2,rfl,zj,pH⟩|⟨rfl,hno⟩
  rotate_left
  ·refine Ext.mk rfl (Ext.mk rfl (ae.ep (Br.T ?_)))
   exact aY.mk (.skip (.skip .tail)) ⟨K2,S2,eD,xx,xy,Df,DQ,C2,rfl,ki,wo.sP (by omega),.inr ⟨rfl,hno⟩⟩
  refine Ext.mk rfl (Ext.mk rfl (ae.ep (Br.F ?_)))
  refine Ld.q ?_
  obtain⟨DV,oU,yq⟩:=xw.ks
  obtain⟨oQ,fw,k9⟩:=ki.ks
  have B1:=fw.ok.mid.int
  have G7:live K1.N x1:=by rcases th with h|h|h;exact .inl h;exact xw.dU.eC oU h;exact xw.dU.live (Du _ h)
  have e1:S2 x1=jA t S0 (dH K0.N v' false (l3 q)):=(Fb.fn x1 G7).trans Ho
  have l1:live K2.N x1:=by rcases th with h|h|h;exact .inl h;exact ki.dU.eC fw (Fb.mem h);exact ki.dU.live (Du _ h)
  have l2:live K2.N x2:=by rcases pH with h|h|h;exact .inl h;exact ki.dU.eC fw h;exact ki.dU.live (Du _ h)
  have n2:=ki.dU.n
  have vU:ite S2 ⟨v',x1,x2⟩=jA t S0 (l3 q):=by
   funext x
   unfold aq.ite
   rw[e1,zj,ec,ec]
   conv=>rhs;rw[←dQ.fW x v']
   simp only
   cases x.testBit v'<;>rfl
  obtain⟨m2,Cy,yy⟩:=ki.kn
  have HH:∀y∈m2,live K2.N y.2:=fun y hy=>by
   rcases(yy y hy).2 with h|h|h
   ·exact .inl h
   ·exact ki.dU.eC fw h
   ·exact ki.dU.live (Du _ h)
  by_cases hx:x1=x2
  ·subst hx
   refine aa.eq (p8 x1 v' _) ?_
   refine Ext.two ?_
   intro J hJ
   refine ae.iR (Br.T ?_)
   refine Ld.q ?_
   refine aB.q ?_
   refine aH.xB (ke:=kq) (k:=q) (vr:=y5) (x:=x1) jX gI mV Cy rfl fun es' cY he=>⟨_,.tail (.tail (.tail (.tail (.tail (.tail (.tail ((cv.head _).cm LB))))))),?_⟩
   refine JE.mk (hJ _ fun gs=>?_)
   have hr:S2 x1=jA t S0 (l3 q):=by
    rw[←vU]
    funext x
    unfold aq.ite
    split<;>rfl
   have zn:x1<2∨x1∈eD∨K0.hold x1=65535:=pH
   exact aY.mk (.skip (.skip .tail)) ⟨K2,S2,eD,es',cY,Df,DQ,C2,rfl,⟨ki.ks,ki.dU,ki.Dg,_,he,fun y hy=>(jR hy).elim (fun e=>by rw[e];exact⟨hr,zn⟩) (fun hy=>yy y hy)⟩,wo.sP (by omega),.inl ⟨x1,rfl,hr,zn⟩⟩
  ·have zw:cU (jA t S0 (l3 q)) (ord.getD (lv af v') 0):=by
    rw[BP]
    refine Classical.byContradiction fun hno=>hx ?_
    refine fw.ok.wf.same fw.ok.lv B1 l1 l2 fun x=>?_
    rw[e1,zj,ec,ec]
    exact(c8 hno x false).trans (c8 hno x true).symm
   have JT:=fw.ok.below fw.od (l:=lv af v'+1) l1 (by omega) (by rw[e1];exact i1)
   have JR:=fw.ok.below fw.od (l:=lv af v'+1) l2 (by omega) (by rw[zj];exact i2)
   have wg:∀g,aA K0.n ord (fun g=>g=ite S2 ⟨v',x1,x2⟩) g→U g:=by rw[vU];exact hU
   refine aa.fq (args:=#[ptr bw,.int .i64 (v':Int),u32 x1,u32 x2]) (wT fw (v:=v') (by rw[n2];exact hv.lt) l1 l2 hx ⟨by omega,by omega⟩ ki.Dg (by have:=ki.dU.nV fw;omega)) ?_
   rintro w H (⟨r,K3,S3,C3,GX,Jb,rfl,rfl,yF,mk,DB⟩|⟨rfl,rfl,JI,hT⟩|⟨r,rfl,rfl,hlr,Cz,hfull,A9⟩)
   ·refine Ext.two ?_
    intro J hJ
    refine ae.iR (Br.T ?_)
    refine Ld.q ?_
    refine aB.q ?_
    refine aH.xB (ke:=kq) (k:=q) (vr:=y5) (x:=r) jX gI mV Cy rfl fun es' cY he=>⟨_,.tail (.tail (.tail (.tail (.tail (.tail (.tail ((cv.head _).cm LB))))))),?_⟩
    refine JE.mk (hJ _ fun gs=>?_)
    have hr:S3 r=jA t S0 (l3 q):=mk.is.trans vU
    have oa:2≤r:=Nat.le_of_not_lt fun h=>by
     obtain⟨x,hx⟩:=zw
     apply hx
     rw[←hr]
     have Av:=yF.ok.mid.int
     have:r=0∨r=1:=by omega
     rcases this with rfl|rfl
     ·rw[Av.zero,Av.zero]
     ·rw[Av.one,Av.one]
    have jD:=ki.dU.step fw mk oa wg
    have Fa:cJ K2 S2 eD K3 S3 (eD++[r]) 1:=⟨mk.N,mk.fn,[r],rfl,Nat.le_refl _⟩
    have zn:r<2∨r∈eD++[r]∨K0.hold r=65535:=.inr (.inl (by simp))
    refine aY.mk (.skip (.skip .tail)) ⟨K3,S3,eD++[r],es',cY,GX,Jb,C3,rfl,⟨⟨[],yF,.inl rfl⟩,jD,DB,_,he,fun y hy=>(jR hy).elim (fun e=>by rw[e];exact⟨hr,zn⟩) (fun hy=>?_)⟩,(wo.trans Fa).sP (by omega),.inl ⟨r,rfl,hr,zn⟩⟩
    obtain⟨k1,k2⟩:=yy y hy
    exact⟨by rw[Fa.fn y.2 (HH y hy),k1],k2.imp id (Or.imp Fa.mem id)⟩
   ·refine Ext.two ?_
    intro J hJ
    refine ae.iR (Br.F (JE.mk (hJ _ fun gs=>?_)))
    refine aY.mk (.skip (.skip .tail)) ⟨K2,S2,eD,xx,xy,Df,DQ,C2,rfl,ki,wo.sP (by omega),.inr ⟨rfl,?_⟩⟩
    rintro⟨ku,yx,hfit⟩
    have:=fw.ok.roomFor fw.od yx (by rw[ki.dU.cap];exact hfit) (by rw[n2];exact ki.dU.U) (d:=⟨v',x1,x2⟩) l1 l2 hx (by rw[n2];exact hv.lt) ⟨by show lv af v'<dep K2.n (lv af) K2.N x1;omega,by show lv af v'<dep K2.n (lv af) K2.N x2;omega⟩ (wg _ (by rw[vU];exact lB vV jx zw)) hT
    omega
   ·refine Ext.two ?_
    intro J hJ
    refine ae.iR (Br.T ?_)
    refine Ld.q ?_
    refine aB.q ?_
    refine aH.xB (ke:=kq) (k:=q) (vr:=y5) (x:=r) jX gI mV Cy rfl fun es' cY he=>⟨_,.tail (.tail (.tail (.tail (.tail (.tail (.tail ((cv.head _).cm LB))))))),?_⟩
    refine JE.mk (hJ _ fun gs=>?_)
    have hr:S2 r=jA t S0 (l3 q):=A9.trans vU
    have zn:r<2∨r∈eD∨K0.hold r=65535:=.inr (ki.dU.full hfull)
    exact aY.mk (.skip (.skip .tail)) ⟨K2,S2,eD,es',cY,Df,DQ,C2,rfl,⟨ki.ks,ki.dU,ki.Dg,_,he,fun y hy=>(jR hy).elim (fun e=>by rw[e];exact⟨hr,zn⟩) (fun hy=>yy y hy)⟩,wo.sP (by omega),.inl ⟨r,rfl,hr,zn⟩⟩
end
section
variable {kp bw:Nat} {vl vm:Value} {K:Kd} {S:Nat→aq.Fn} {ord af tr:List Nat} {C:Hp}
theorem tU{Y:Hp}{vr:Value}{refs:List Nat}(hK:ct kp K S ord af tr C)(hr:dw .u32 Y vr (iw refs))(hl:∀r∈refs,live K.N r)(bL:refs.length≤1048576):
  Fc Tryz.prog 177 #[ptr kp,vr] (Y++C) (fun w H=>∃bw vl CL lvl,w=.tuple #[ptr bw,.int .i64 0]∧H=cR bw kp vl (.slice none 0 0)::(CL++(Y++C))∧au 3 .i64 vl (iw lvl) CL∧lvl.length=K.n∧∀v,v<K.n→lvl.getD v 0=lv af v):=by
 have hn:K.n≤64:=hK.ik.ze
 have oS:=hK.od
 refine aX fun g=>rm ?_
 refine ae.bC (Br.no (hr.cN ?_))
 rw[aE]
 refine⟨fun vs H=>∃i:Nat,vs=[.int .i64 (i:Int)]∧i≤refs.length∧H=Y++C,fun vs _=>refs.length-cj vs 0,JE.mk ⟨0,rfl,Nat.zero_le _,rfl⟩,?_⟩
 rintro w7 H ⟨i,⟨⟩,hi,rfl⟩ gs
 refine ae.jB (Br.dec (fun hlt=>?_) (fun hlt=>?_))
 ·have hlr:=hl _ (List.getElem_mem hlt)
  refine hr.ld (n:=((refs[i]:Nat):Int)) (iM (List.getElem?_eq_getElem hlt)) (fun _ h=>List.mem_append_left _ h) ?_
  refine aa.eq (args:=#[ptr kp,u32 refs[i]]) (g8 hK.rep (by have:=hK.cT hlr;omega)) ?_
  rw[bc.2 hlr]
  refine Ext.two ?_
  intro IL _
  refine St.whole (r:=got K.N refs[i]) (by exact .head _) rfl (aJ _ _).1 (aJ _ _).2 ?_
  refine ae.ep (Br.F ?_)
  refine ae.inc ?_
  exact av.of .tail ⟨i+1,rfl,hlt,rfl⟩ (by simp only[cj];omega)
 ·refine aa.eq (nY hK.rep) ?_
  refine da.ints (by omega) (by omega) fun bl=>?_
  refine Build.mk (cs:=[ptr kp,.slice (some ⟨bl,0,none⟩) K.n K.n,.slice none 0 0]) (by kernel_rfl) ?_
  intro bw _
  refine aa.fq (l6 hK.rep) ?_
  rintro vo H ⟨N,rfl,ho⟩
  refine ho.cN ?_
  rw[aE,oS.len]
  have hz:List.replicate K.n (0:Int)=iw (List.replicate K.n 0):=by simp[iw]
  have hm:=au.made (T:=3) (kd:=.i64) (b:=bl) (iw (List.replicate K.n 0))
  rw[aE,List.length_replicate]at hm
  rw[hz]
  generalize hvl:Value.slice (some ⟨bl,0,none⟩) K.n K.n=vl at*
  refine⟨fun vs H=>∃(i:Nat) (L:List Nat) (CL:Hp),vs=[.int .i64 (i:Int)]∧i≤K.n∧H=cR bw kp vl (.slice none 0 0)::(CL++(Y++(N++C)))∧au 3 .i64 vl (iw L) CL∧L.length=K.n∧∀j,j<i→L.getD (ord.getD j 0) 0=j,fun vs _=>K.n-cj vs 0,
   JE.mk ⟨0,_,_,rfl,Nat.zero_le _,rfl,hm,by simp,fun j hj=>absurd hj (Nat.not_lt_zero _)⟩,?_⟩
  rintro Jg H ⟨i,L,CL,⟨⟩,hi,rfl,hL,Gt,Gs⟩ gs
  refine ae.jB (Br.dec (fun hlt=>?_) (fun hlt=>?_))
  ·have gf:=(oS.ik i hlt).1
   refine ho.ld (x:=((ord.getD i 0:Nat):Int)) (bH (by rw[oS.len];exact hlt)) (fun _ h=>.tail _ (List.mem_append_right _ (List.mem_append_right _ (List.mem_append_left _ h)))) ?_
   refine Ld.n ?_
   refine hL.iI (x:=(i:Int)) (.cons .left) (by rw[aE];omega) fun Jc Gu=>?_
   rw[ej]at Gu
   refine ae.inc ?_
   refine av.mk ⟨i+1,L.set (ord.getD i 0) i,Jc,rfl,hlt,rfl,Gu,by simp[Gt],fun j hj=>?_⟩ (by simp only[cj];omega)
   by_cases e:j=i
   ·subst e
    rw[List.getD_eq_getElem?_getD,List.getElem?_set_self (by omega)];rfl
   ·have hj':j<i:=by omega
    have hne:ord.getD i 0≠ord.getD j 0:=fun h=>by
     have a:=(oS.ik i hlt).2
     have b:=(oS.ik j (by omega)).2
     rw[h,b]at a;exact e a
    rw[List.getD_eq_getElem?_getD,List.getElem?_set_ne hne,←List.getD_eq_getElem?_getD,Gs j hj']
  ·obtain rfl:i=K.n:=by omega
   refine aY.mk (.cons (.cZ (.cZ .right _) _)) ⟨bw,vl,CL,L,rfl,rfl,hL,Gt,fun v hv=>?_⟩
   have h1:=Gs (lv af v) (hK.ok.lv.lt v hv)
   rwa [oS.of hK.ok.lv hv]at h1
structure sL(K K':Kd)(made:List Nat)(x:Nat)(ok:Bool):Prop where
 n:K'.n=K.n
 cap:K'.cap=K.cap
 N:∀s d,K'.N s=some d→K.N s=some d
 hold:∀s,K'.hold s+made.count s=K.hold s+if ok=true∧s=x∧2≤x then 1 else 0
theorem yZ{X CM:Hp}{made:List Nat}{x:Nat}{ok fu:Bool}(hK:ct kp K S ord af tr C)(hM:au 110 .u32 vm (iw made) CM)(hc:∀s,made.count s≤K.hold s)(h2:∀s∈made,2≤s)(DF:∀s∈made,s<4294967296)(hx:ok=true→((x<2∨x∈made)↔fu=false))(bL:made.length≤1099511627776):
  Fc Tryz.prog 251 #[ptr bw,u32 x,.int .i64 (if ok then 0 else 9)] (cR bw kp vl vm::(X++(CM++C))) (fun w H=>∃K' C' de,w=.tuple #[u32 (if ok&& !fu then x else 0),.int .i64 (if ok then(if fu then 8 else 0)else 9)]∧H=cR bw kp vl (.slice none 0 0)::(X++(CM++C'))∧ct kp K' S ord af de C'∧(de=[]∨(de=tr∧((ok&& !fu)=true→made≠[])))∧sL K K' made x (ok&& !fu)):=by
 refine aX fun g=>qF ?_
 refine ae.lg (b:=0) ?_
 refine cW.or (decide (x=1)) (fun _=>ae.lg (b:=1) ⟨rfl,rfl⟩) (by simp) fun gs=>?_
 rw[←Bool.decide_or]
 refine Ld.n (hM.cN ?_)
 rw[aE]
 refine⟨fun vs H=>∃(i:Nat) (Ki:Kd) (Ci:Hp) (y7:List Nat) (kept:Bool),vs=[.bool kept,.int .i64 (i:Int)]∧i≤made.length∧H=cR bw kp vl vm::(X++(CM++Ci))∧ct kp Ki S ord af y7 Ci∧(y7=[]∨y7=tr)∧Ki.n=K.n∧Ki.cap=K.cap∧(∀s d,Ki.N s=some d→K.N s=some d)∧
   (∀s,Ki.hold s+(made.take i).count s=K.hold s+if kept=true∧s=x∧2≤x then 1 else 0)∧(x<2→kept=true)∧(kept=true→x<2∨(ok=true∧x∈made.take i))∧(ok=true→x∈made.take i→kept=true),fun vs _=>made.length-cj vs 1,
  JE.mk ⟨0,K,C,tr,_,rfl,Nat.zero_le _,rfl,hK,.inr rfl,rfl,rfl,fun _ _ h=>h,fun s=>?_,fun h=>decide_eq_true (by omega),fun h=>.inl (by have:=of_decide_eq_true h;omega),fun _ h=>by simp at h⟩,?_⟩
 ·rw[List.take_zero,List.count_nil,if_neg (fun h=>by have:=of_decide_eq_true h.1;omega)]
 rintro Ji Jh H ⟨i,Ki,Ci,y7,kept,⟨⟩,hi,rfl,Bd,yp,hn,hcap,hN,hh,j7,jy,gJ⟩ gs
 refine ae.jB (Br.dec (fun hlt=>?_) (fun hlt=>?_))
 ·intro J hJ
  have r9:made.take (i+1)=made.take i++[made[i]]:=List.take_succ_eq_append_getElem hlt
  have EE:made[i]∈made:=List.getElem_mem hlt
  have gk:(made.take i).count made[i]+1≤made.count made[i]:=by
   have h1:=(List.take_sublist (i+1) made).count_le made[i]
   rw[r9,List.count_append,List.count_singleton_self]at h1;exact h1
  refine hM.ld (x:=((made[i]:Nat):Int)) (iM (List.getElem?_eq_getElem hlt)) (fun _ h=>.tail _ (List.mem_append_right _ (List.mem_append_left _ h))) ?_
  generalize hf:made[i]=f at*
  refine ae.lg ?_
  refine cW.and (!kept) (fun _=>Un.not ⟨rfl,rfl⟩) (by simp) fun gs=>?_
  refine cW.and ok (fun _=>ae.iR ⟨rfl,by cases ok<;>rfl⟩) (by simp) fun gs=>?_
  refine Br.mk (fun hb=>?_) (fun hb=>?_)
  ·simp only[Bool.and_eq_true,decide_eq_true_eq,Bool.not_eq_true']at hb
   obtain⟨⟨rfl,Dn⟩,hok⟩:=hb
   refine JE.mk (hJ _ _ fun gs=>?_)
   refine ae.inc ?_
   refine av.mk ⟨i+1,Ki,Ci,y7,true,rfl,hlt,rfl,Bd,yp,hn,hcap,hN,fun s=>?_,fun _=>rfl,fun _=>.inr ⟨hok,by rw[r9];simp⟩,fun _ _=>rfl⟩ (by simp only[cj];omega)
   have h0:=hh s
   rw[r9,List.count_append,List.count_singleton]
   rw[if_neg (fun h=>by rw[Dn]at h;cases h.1)]at h0
   by_cases e:s=f
   ·subst e
    have:=h2 s EE
    simp[this];omega
   ·have:(f==s)=false:=by simpa using fun e'=>e e'.symm
    simp[e,this];omega
  ·refine Ld.n ?_
   have HM:Ki.hold f≠0:=by
    have h0:=hh f
    have:=hc f
    split at h0<;>omega
   refine aa.fq (args:=#[ptr kp,u32 f]) (yP Bd (r:=f) (DF f EE) (fun _=>HM)) ?_
   rintro w C2 ⟨rfl,K2,fw,f2⟩
   refine JE.mk (hJ _ _ fun gs=>?_)
   refine ae.inc ?_
   refine av.mk ⟨i+1,K2,C2,[],kept,rfl,hlt,rfl,fw,.inl rfl,f2.n.trans hn,f2.cap.trans hcap,fun s d hd=>hN s d (f2.N s d hd),fun s=>?_,j7,fun h=>(jy h).imp id (fun h=>⟨h.1,by rw[r9];exact List.mem_append_left _ h.2⟩),fun h1 h3=>?_⟩ (by simp only[cj];omega)
   ·have h0:=hh s
    rw[f2.hold,r9,List.count_append,List.count_singleton]
    by_cases e:s=f
    ·subst e
     have:=h2 s EE
     simp[this];omega
    ·have:(f==s)=false:=by simpa using fun e'=>e e'.symm
     simp[e,this];omega
   ·rw[r9,List.mem_append,List.mem_singleton]at h3
    rcases h3 with h3|h3
    ·exact gJ h1 h3
    ·subst h3
     cases hkk:kept
     ·rw[hkk,h1]at hb;simp at hb
     ·rfl
 ·obtain rfl:i=made.length:=by omega
  rw[List.take_length]at hh jy gJ
  refine Nil.ptr (aj.mk (St.one (by exact .head _) rfl (by simp) rfl ?_))
  intro J hJ
  refine ae.ep ?_
  cases ok with
  |false=>
   refine Br.T ?_
   have hE:sL K Ki made x false:=⟨hn,hcap,hN,fun s=>by
    have h0:=hh s
    rw[if_neg (fun h=>by cases h.1)]
    rw[if_neg (fun h=>by
     rcases jy h.1 with h3|h3
     ·omega
     ·cases h3.1)]at h0
    exact h0⟩
   refine aY.here ⟨Ki,Ci,y7,?_,rfl,Bd,yp.imp id fun h=>⟨h,fun h=>by cases h⟩,hE⟩
   rfl
  |true=>
   have hx:=hx rfl
   cases fu with
   |true=>
    have Dn:kept=false:=by
     cases hkk:kept
     ·rfl
     ·have:(true=false):=hx.1 ((jy hkk).imp id fun h=>h.2)
      cases this
    refine Br.F ?_
    rw[Dn]
    refine Un.not (Br.yes (aY.here ⟨Ki,Ci,y7,rfl,rfl,Bd,yp.imp id fun h=>⟨h,fun h=>by cases h⟩,⟨hn,hcap,hN,fun s=>?_⟩⟩))
    have h0:=hh s
    rw[Dn]at h0
    rw[if_neg (fun h=>by cases h.1)]at h0⊢
    exact h0
   |false=>
   have hx:=hx.2 rfl
   have si:kept=true:=by
    rcases hx with h|h
    ·exact j7 h
    ·exact gJ rfl h
   refine Br.F ?_
   rw[si]
   refine Un.not (Br.no ?_)
   have hE:∀K3:Kd,K3.n=Ki.n→K3.cap=Ki.cap→K3.N=Ki.N→(∀s,K3.hold s=Ki.hold s)→sL K K3 made x true:=fun K3 a1 a2 a3 a4=>⟨a1.trans hn,a2.trans hcap,by rw[a3];exact hN,fun s=>by rw[a4,hh s,si]⟩
   refine ae.lg (b:=0) ?_
   refine cW.or (decide (x=1)) (fun _=>ae.lg (b:=1) ⟨rfl,rfl⟩) (by simp) fun gs=>?_
   rw[←Bool.decide_or]
   refine Br.dec (fun Ay=>?_) (fun Ay=>?_)
   ·refine Ld.n ?_
    refine aa.fq (r7 Bd (r:=x) (.inl (by omega)) (fun h=>by omega)) ?_
    rintro w C3 ⟨rfl,K3,yF,mo⟩
    refine JE.mk (hJ _ fun gs=>aY.here ⟨K3,C3,[],by simp,rfl,yF,.inl rfl,hE K3 mo.n mo.cap mo.N fun s=>?_⟩)
    rw[mo.hold,if_neg (by omega)]
   ·refine JE.mk (hJ _ fun gs=>aY.here ⟨Ki,Ci,y7,by simp,rfl,Bd,yp.imp id fun h=>⟨h,fun _ hm=>?_⟩,hE Ki rfl rfl rfl fun _=>rfl⟩)
    rcases hx with h|h
    ·omega
    ·rw[hm]at h;cases h
end
theorem Bq{α:Type}(a b c d e f g h:α)(L R:List α):(a::b::c::d::e::f::g::h::(L++R)).Perm (g::d::e::b::h::f::a::(L++c::R)):=by
 classical
 rw[List.perm_iff_count];intro x
 simp only[List.count_append,List.count_cons]
 omega
def FH(kp:Nat)(K:Kd)(S:Nat→aq.Fn)(ord af tr:List Nat)(f:aq.Fn)(w:Value)(H:Hp):Prop:=
 (∃x K' S',w=.tuple #[u32 x,.int .i64 0]∧ct kp K' S' ord af [] H∧mG K S K' S' f x)∨
 (w=.tuple #[u32 0,.int .i64 9]∧(∃K' S' de,ct kp K' S' ord af de H∧(de=[]∨de=tr)∧Kept K S K' S')∧¬Fits (aA K.n ord (fun g=>K.held S g∨g=f)) K.cap)
def iA(kp:Nat)(K:Kd)(S:Nat→aq.Fn)(ord af tr:List Nat)(f:aq.Fn)(w:Value)(H:Hp):Prop:=
 FH kp K S ord af tr f w H∨(w=.tuple #[u32 0,.int .i64 8]∧(∃K' S' de,ct kp K' S' ord af de H∧(de=[]∨de=tr)∧Kept K S K' S')∧∃r,2≤r∧K.hold r=65535∧S r=f)
section
variable {kp bw:Nat} {vl fv:Value} {K:Kd} {S:Nat→aq.Fn} {ord af tr lvl:List Nat} {LB CL C:Hp} {t:Bool→Bool→Bool→Bool}
theorem yV(hK:ct kp K S ord af tr C)(DD:qd fv LB t)(Be:au 3 .i64 vl (iw lvl) CL)(ti:lvl.length=K.n)(hlv:∀v,v<K.n→lvl.getD v 0=lv af v)(q:Q3)(hq:∀r∈l3 q,live K.N r){c:Nat}(hT:Tree K.n (lv af) K.N (l3 q) c):
  Fc Tryz.prog 178 #[ptr bw,kq q,fv] (LB++(cR bw kp vl (.slice none 0 0)::(CL++C))) (iA kp K S ord af tr (jA t S (l3 q))):=by
 have hrb:aG Tryz.prog 252=true:=by kernel_rfl
 obtain⟨fl,Fj,IC,EC,hfr⟩:=DD.is
 refine aX fun g=>rj ?_
 intro b1 _ b3 _ b5 _ b7 _ b9 _ bm _ jo _
 refine St.one (by exact .head _) rfl (by simp) rfl ?_
 intro iD _
 refine St.one (by exact .head _) rfl (by simp) rfl ?_
 refine Ld.q ?_
 refine aB.q ?_
 refine bj.of rfl hrb ?_
 refine aa.pre (H':=(b9,.cells #[.int .i64 0] 27 (0,0))::(b7,.cells #[.int .u32 0] 110 (0,0))::zE jo b1 b5 iD bm bw kp fv vl (.slice none 0 0) LB CL [] C #[] 0) ?_ ?_
 ·rw[EC]
  exact(aS.perm (Bq _ _ _ _ _ _ _ _ _ _)).trans .tail
 have oS:=hK.od
 have xu:=hK.ok.wf
 have wj:=hK.ok.lv
 have AI:=hK.ok.mid.int
 have hS:Fy kp K S (aA K.n ord (fun g=>K.held S g∨g=jA t S (l3 q))) ord af tr t K S [] #[] 0 (.slice none 0 0) [] C:=
  ⟨⟨tr,hK,.inr ⟨rfl,rfl⟩⟩,.refl fun g hg=>c5 (fun g h=>.inl h) hg,au.nil,[],aH.empty,fun y hy=>by cases hy⟩
 refine aa.fq (args:=#[kq q,ptr jo,ptr b1,ptr b5,ptr iD]) (AJ hrb DD Be ti hlv hK.ik.ze xu AI wj (fun r hr=>by have:=hK.cT hr;omega) (fun s hs=>.inr (hK.ok.mid.held s (by omega))) (z5:=tr) (l3 q) c hT q rfl K S [] #[] 0 (.slice none 0 0) [] C hS hq (fun g hg=>c5 (fun g h=>.inr h) hg)) ?_
 rintro w H ⟨K1,S1,made,es,ck,vm,CM,C1,rfl,xw,hA,wc⟩
 obtain⟨DV,oU,yq⟩:=xw.ks
 have jD:=xw.dU
 have Jy:=jD.nV oU
 have Ep:∀s∈made,s<4294967296:=fun s hs=>by have:=oU.cT (jD.eC oU hs);omega
 have HD:∀s,made.count s≤K1.hold s:=fun s=>by rw[jD.hold];omega
 have fin:∀(x:Nat) (ok fu:Bool),w=.tuple #[u32 (if ok then x else 0),.int .i64 (if ok then 0 else 9)]→(ok=true→((x<2∨x∈made)↔fu=false))→(∀K2 C2 oQ,ct kp K2 S1 ord af oQ C2→(oQ=[]∨(oQ=DV∧((ok&& !fu)=true→made≠[])))→sL K1 K2 made (if ok then x else 0) (ok&& !fu)→iA kp K S ord af tr (jA t S (l3 q)) (.tuple #[u32 (if ok&& !fu then(if ok then x else 0)else 0),.int .i64 (if ok then(if fu then 8 else 0)else 9)]) C2)→(ok=false→x=0)→
   Ext 0 w fun G1=>Ext 1 w fun G0=>St 1 ((b9,.cells #[.int .i64 0] 27 (0,0))::(b7,.cells #[.int .u32 0] 110 (0,0))::zE jo b1 b5 iD bm bw kp fv vl vm LB CL CM C1 es ck) (ptr b7) G1 fun I8=>St 1 I8 (ptr b9) G0 fun I7=>
   AW Tryz.prog g 250 #[ptr b1,ptr b7,ptr b9] I7 fun FG=>Ld FG (ptr b7) fun GZ=>Ld FG (ptr b9) fun GY=>aY (iA kp K S ord af tr (jA t S (l3 q))) (.returned (.tuple #[GZ,GY])) FG:=by
  intro x ok fu hw hx hd h0
  subst hw
  refine Ext.two ?_
  refine St.one (by exact .tail (.head _)) rfl (by simp) rfl ?_
  refine St.one (by exact .head _) rfl (by simp) rfl ?_
  refine oO (R:=_) ?_
  unfold L250
  refine Ld.q ?_
  refine Ld.q ?_
  refine Ld.q ?_
  refine aa.fq (yZ (X:=CL) (x:=if ok then x else 0) (ok:=ok) (fu:=fu) oU xw.Dg HD jD.two Ep (fun h=>by rw[if_pos h];exact hx h) (by omega)) ?_
  rintro w H ⟨K2,C2,oQ,rfl,rfl,fw,k9,hE⟩
  refine Ext.two ?_
  refine St.one (by exact .tail (.head _)) rfl (by simp) rfl ?_
  refine St.one (by exact .head _) rfl (by simp) rfl ?_
  refine⟨⟨_,rfl⟩,?_⟩
  refine Ld.q ?_
  refine Ld.q ?_
  exact aY.mk (.skip (.skip (.skip (.skip (.skip (.skip (aS.right.trans (.skip (.skip (aS.right.trans .right)))))))))) (hd K2 C2 oQ fw k9 hE)
 have An:∀s,K.hold s≠0→live K.N s:=fun s hs=>.inr (hK.ok.mid.held s hs)
 rcases wc with⟨x,rfl,hx,Hi⟩|⟨rfl,hno⟩
 ·by_cases Dj:x<2∨x∈made
  rotate_left
  ·have zj:2≤x:=by omega
   have hfull:K.hold x=65535:=by
    rcases Hi with h|h|h
    ·exact absurd (.inl h) Dj
    ·exact absurd (.inr h) Dj
    ·exact h
   refine fin x true true rfl (fun _=>⟨fun h=>absurd h Dj,fun h=>by cases h⟩) (fun K2 C2 oQ fw k9 hE=>.inr ⟨rfl,⟨K2,S1,oQ,fw,?_,?_⟩,x,zj,hfull,?_⟩) (fun h=>by cases h)
   ·rcases k9 with h|⟨h,_⟩
    ·exact .inl h
    ·rcases yq with h2|⟨h2,_⟩
     ·exact .inl (h.trans h2)
     ·exact .inr (h.trans h2)
   ·have fK:∀s,K2.hold s=K.hold s:=fun s=>by
     have a:=hE.hold s
     have b:=jD.hold s
     rw[if_neg (fun h=>by cases h.1)]at a
     omega
    refine⟨hE.n.trans jD.n,hE.cap.trans jD.cap,fK,fun g=>?_,fun r hr=>jD.fn r (An r hr)⟩
    constructor
    ·rintro⟨s,hs,rfl⟩
     have hs':K.hold s≠0:=by rw[←fK];exact hs
     exact⟨s,hs',jD.fn s (An s hs')⟩
    ·rintro⟨s,hs,rfl⟩
     exact⟨s,by show K2.hold s≠0;rw[fK];exact hs,(jD.fn s (An s hs)).symm⟩
   ·rw[←hx];exact(jD.fn x (An x (by omega))).symm
  refine fin x true false rfl (fun _=>⟨fun _=>rfl,fun _=>Dj⟩) (fun K2 C2 oQ fw k9 hE=>.inl (.inl ⟨x,K2,S1,rfl,?_,?_⟩)) (fun h=>by cases h)
  ·have:oQ=[]:=by
    rcases k9 with h|⟨h,h'⟩
    ·exact h
    ·rcases yq with h2|⟨_,h2⟩
     ·rw[h,h2]
     ·exact absurd h2 (h' rfl)
   rw[this]at fw;exact fw
  ·have fK:∀s,K2.hold s=K.hold s+if s=x∧2≤x then 1 else 0:=fun s=>by
    have a:=hE.hold s
    have b:=jD.hold s
    simp only[Bool.not_false,Bool.and_true,if_true,true_and]at a
    omega
   have hl:live K2.N x:=by
    by_cases h2:x<2
    ·exact .inl h2
    ·refine .inr (fw.ok.mid.held x ?_)
     rw[fK,if_pos ⟨rfl,by omega⟩];omega
   exact⟨hE.n.trans jD.n,hE.cap.trans jD.cap,fun s d hs=>pE hK.ok fw.ok (fun s h=>by rw[fK];omega) (fun s d d' h h'=>by
    have a:=hE.N s d' h'
    rw[jD.N s d h]at a;exact(Option.some.inj a).symm) _ s d hs (Nat.le_refl _),fun s hs=>jD.fn s hs,hl,hx,fK⟩
 ·refine fin 0 false false rfl (fun h=>by cases h) (fun K2 C2 oQ fw k9 hE=>.inl (.inr ⟨rfl,⟨K2,S1,oQ,fw,?_,?_⟩,hno⟩)) (fun _=>rfl)
  ·rcases k9 with h|⟨h,_⟩
   ·exact .inl h
   ·rcases yq with h2|⟨h2,_⟩
    ·exact .inl (h.trans h2)
    ·exact .inr (h.trans h2)
  ·have fK:∀s,K2.hold s=K.hold s:=fun s=>by
    have a:=hE.hold s
    have b:=jD.hold s
    rw[if_neg (fun h=>by cases h.1)]at a
    omega
   refine⟨hE.n.trans jD.n,hE.cap.trans jD.cap,fK,fun g=>?_,fun r hr=>jD.fn r (An r hr)⟩
   constructor
   ·rintro⟨s,hs,rfl⟩
    have hs':K.hold s≠0:=by rw[←fK];exact hs
    exact⟨s,hs',jD.fn s (An s hs')⟩
   ·rintro⟨s,hs,rfl⟩
    exact⟨s,by show K2.hold s≠0;rw[fK];exact hs,(jD.fn s (An s hs)).symm⟩
end
end Go.Proofs
namespace Go.Sx
open Go
section
variable {P:Program} {g:Gh}
theorem Build.Bk{t e:TypeId}{q:IntKind}{x y:Int}{K:Value→Prop}(ht:P.underlying t=some (.array 3 e))(hz:bR P e=some 1)(h0:dc P t=some (.agg (ai q [0,0,0])))(h:K (.agg (ai q [x,y,0]))):
  Build P t [(0,.int q x),(1,.int q y)] K:=by
 refine⟨_,fun w=>?_,h⟩
 obtain⟨i,hi,hs⟩:=aI hz
 obtain⟨i0,Ex,Hg⟩:=bK h0
 simp only[Instr.build,Sem.run_bind,cy Ex Hg,Result.andThen_ok,run_underlying ht,run_sizeOf hi,hs]
 simp[Instr.fill,Value.cells,ai]
end
end Go.Sx
set_option maxRecDepth 100000
namespace Go.Proofs
open Go Go.Sx
open aq
theorem sF(x:Bool)(B:Hp):Rd Tryz.prog 248 #[.bool x] B (· =.int .u8 ((x.toNat:Nat):Int)):=by
 refine aX fun g=>qH ?_
 cases x
 ·exact Br.no (bF.mk (.refl _) rfl)
 ·exact Br.yes (bF.mk (.refl _) rfl)
def Bv(op:Nat)(a b:Bool):Bool:=op.testBit (2*a.toNat+b.toNat)
abbrev s0(b op:Nat):Hp:=[(b,.cells #[.int .u8 (op:Int)] 5 (0,0))]
theorem pX{b op:Nat}(hop:op<16):qd (.func (.func 247) #[] #[ptr b]) (s0 b op) (fun x y _=>Bv op x y):=by
 refine⟨_,_,_,rfl,by kernel_rfl,fun x y z=>?_⟩
 refine aX fun g=>qI ?_
 refine DR.of (R:=s0 b op) (.refl _) ?_
 refine Ld.q ?_
 refine aa.eq (sF x _) ?_
 refine⟨.refl _,?_⟩
 have hx:x.toNat≤1:=by cases x<;>decide
 have hy:y.toNat≤1:=by cases y<;>decide
 refine ae.py (a:=2) ?_
 refine aa.eq (sF y _) ?_
 refine⟨.refl _,?_⟩
 refine ae.dX ?_
 refine ae.pg (by simp[cO];omega) ?_
 refine ae.yY (b:=1) (by simp[cO];exact Nat.lt_of_le_of_lt (Nat.shiftRight_le _ _) (by omega)) (by simp[cO]) ?_
 refine ae.lg (b:=1) ?_
 refine bF.mk (.refl _) ?_
 congr 1
 unfold Bv
 rw[Nat.and_one_is_mod]
 rw[Nat.testBit_eq_decide_div_mod_eq,Nat.shiftRight_eq_div_pow]
section
variable {kp:Nat} {K:Kd} {S:Nat→aq.Fn} {ord af tr:List Nat} {C:Hp}
theorem Bs{α:Type}(w a b:α)(L R:List α):(w::(L++(a::b::R))).Perm (a::([b]++w::(L++R))):=by
 classical
 rw[List.perm_iff_count];intro x
 simp only[List.count_append,List.count_cons,List.count_nil]
 omega
theorem wR(hK:ct kp K S ord af tr C){q:List Nat}(hq:∀r∈q,live K.N r):∃c,Tree K.n (lv af) K.N q c:=by
 obtain⟨c,h1,_⟩:=xE (S:=S) hK.ok.wf hK.ok.lv hK.ok.mid.int K.n 0 q (by omega) (by omega) hq (fun r _=>Nat.zero_le _)
 exact⟨c,h1⟩
theorem iA.two{f:aq.Fn}{w:Value}{H:Hp}(h:iA kp K S ord af tr f w H):∃x e,w=.tuple #[x,e]:=by
 rcases h with(⟨x,K',S',rfl,_⟩|⟨rfl,_⟩)|⟨rfl,_⟩
 ·exact⟨_,_,rfl⟩
 ·exact⟨_,_,rfl⟩
 ·exact⟨_,_,rfl⟩
theorem nj(hK:ct kp K S ord af tr C){op a b:Nat}(hop:op<16)(ha:live K.N a)(hb:live K.N b):
  Fc Tryz.prog 176 #[ptr kp,.int .u8 (op:Int),u32 a,u32 b] C (iA kp K S ord af tr (fun x=>Bv op (S a x) (S b x))):=by
 refine aX fun g=>rp ?_
 intro b1 _
 refine ae.bC (Br.no ?_)
 refine Ld.q ?_
 refine ae.og (b:=15) (Br.F ?_)
 refine an.zh (e:=110) (x:=(a:Int)) (y:=(b:Int)) (by kernel_rfl) (by kernel_rfl) (by kernel_rfl) fun bs=>?_
 have hq:∀r∈l3 (a,b,0),live K.N r:=fun r hr=>by
  simp only[l3,List.mem_cons,List.not_mem_nil,or_false]at hr
  rcases hr with rfl|rfl|rfl
  ·exact ha
  ·exact hb
  ·exact .inl (by omega)
 have hI:dw .u32 ((bs,Obj.cells (ai .u32 [(a:Int),(b:Int)]) 110 (0,0))::s0 b1 op) (.slice (some ⟨bs,0,none⟩) 2 2) (iw [a,b]):=(au.made (T:=110) (kd:=.u32) (b:=bs) (iw [a,b])).ints.mono fun _ h=>List.mem_append_left (s0 b1 op) h
 refine aa.fq (args:=#[ptr kp,.slice (some ⟨bs,0,none⟩) 2 2]) (C:=((bs,Obj.cells (ai .u32 [(a:Int),(b:Int)]) 110 (0,0))::s0 b1 op)++C) (tU hK hI (fun r hr=>?_) (by show 2≤1048576;omega)) ?_
 ·simp only[List.mem_cons,List.not_mem_nil,or_false]at hr
  rcases hr with rfl|rfl
  ·exact ha
  ·exact hb
 rintro w H ⟨bw,vl,CL,lvl,rfl,rfl,Be,ti,hlv⟩
 refine Ext.mk rfl (Ext.mk rfl (ae.ep (Br.F ?_)))
 refine Build.Bk (e:=110) (q:=.u32) (x:=(a:Int)) (y:=(b:Int)) (by kernel_rfl) (by kernel_rfl) (by kernel_rfl) ?_
 obtain⟨c,hT⟩:=wR hK hq
 refine aa.pre (H':=(bs,Obj.cells (ai .u32 [(a:Int),(b:Int)]) 110 (0,0))::(s0 b1 op++cR bw kp vl (.slice none 0 0)::(CL++C))) (.perm (Bs _ _ _ _ _)) ?_
 refine aa.fq (args:=#[ptr bw,kq (a,b,0),.func (.func 247) #[] #[ptr b1]]) (yV (t:=fun x y _=>Bv op x y) hK (pX hop) Be ti hlv (a,b,0) hq hT) ?_
 intro w H hD
 obtain⟨x,e,rfl⟩:=hD.two
 exact Ext.mk rfl (Ext.mk rfl (aY.mk .tail hD))
theorem jr.grow(hK:ct kp K S ord af tr C){K':Kd}{S':Nat→aq.Fn}{f:aq.Fn}{r:Nat}{C':Hp}{de:List Nat}(h:jr K S K' S' f r)(eP:ct kp K' S' ord af de C')(hl:r<2∨2≤r):mG K S K' S' f r:=
 ⟨h.n,h.cap,h.N,h.fn,by
  by_cases h2:r<2
  ·exact .inl h2
  ·refine .inr (eP.ok.mid.held r ?_)
   rw[h.hold,if_pos ⟨rfl,by omega⟩];omega,h.is,fun s=>by rw[h.hold];split<;>omega⟩
theorem tO(hK:ct kp K S ord af tr C){v:Nat}(hv:v<K.n):
  Fc Tryz.prog 120 #[ptr kp,.int .i64 (v:Int)] C (iA kp K S ord af tr (fun x=>x.testBit v)):=by
 refine aX fun g=>rI ?_
 refine ae.bC (Br.no ?_)
 have hint:=hK.ok.mid.int
 have hL:=hK.ok.lv
 have oS:=hK.od
 have h0:live K.N 0:=.inl (by omega)
 have h1:live K.N 1:=.inl (by omega)
 have d0:dep K.n (lv af) K.N 0=K.n:=aO (hK.ok.wf.const (by omega))
 have d1:dep K.n (lv af) K.N 1=K.n:=aO (hK.ok.wf.const (by omega))
 have hl:=hL.lt v hv
 have eI:ite S ⟨v,0,1⟩=fun x=>x.testBit v:=by
  funext x
  unfold aq.ite
  simp only[hint.zero,hint.one]
  cases x.testBit v<;>rfl
 refine aa.fq (args:=#[ptr kp,.int .i64 (v:Int),u32 0,u32 1]) (r3 hK hv h0 h1 (.inr ⟨by rw[d0];exact hl,by rw[d1];exact hl⟩)) ?_
 rintro w C' (⟨r,K',S',rfl,eP,mk⟩|⟨r,rfl,rfl,_,Cz,hfull,A9⟩|⟨rfl,rfl,hcap,hne,hT⟩)
 ·rw[eI]at mk
  exact Ext.mk rfl (Ext.mk rfl (aY.mk (.refl _) (.inl (.inl ⟨r,K',S',rfl,eP,mk.grow hK eP (by omega)⟩))))
 ·exact Ext.mk rfl (Ext.mk rfl (aY.mk (.refl _) (.inr ⟨rfl,⟨K,S,tr,hK,.inr rfl,.refl K S⟩,r,Cz,hfull,by rw[A9,eI]⟩)))
 ·refine Ext.mk rfl (Ext.mk rfl (aY.mk (.refl _) (.inl (.inr ⟨rfl,⟨K,S,tr,hK,.inr rfl,.refl K S⟩,?_⟩))))
  rintro⟨ku,yx,hfit⟩
  have BP:=oS.of hL hv
  have vV:∀j,j<lv af v→¬cU (fun x:Nat=>x.testBit v) (ord.getD j 0):=by
   rintro j hj ⟨x,hx⟩
   apply hx
   have As:j<K.n:=by omega
   obtain⟨o1,o2⟩:=oS.ik j As
   show Nat.testBit _ v=Nat.testBit _ v
   rw[dQ.ak,dQ.ak,if_neg (fun h=>by rw[h]at hj;omega),if_neg (fun h=>by rw[h]at hj;omega)]
  have hh:cU (fun x:Nat=>x.testBit v) (ord.getD (lv af v) 0):=by
   rw[BP]
   exact⟨0,by show Nat.testBit _ v≠Nat.testBit _ v;rw[dQ.ak,dQ.ak,if_pos rfl,if_pos rfl];decide⟩
  have:=hK.ok.roomFor oS yx hfit (fun g hg=>c5 (fun g h=>.inl h) hg) (d:=⟨v,0,1⟩) h0 h1 (show(0:Nat)≠1 by omega) hv ⟨by rw[d0];exact hl,by rw[d1];exact hl⟩ (c5 (fun g h=>.inr h) (by rw[eI];exact lB vV hl hh)) hT
  omega
end
end Go.Proofs
namespace aq
open dQ
def QF(t:Bool→Bool→Bool)(v:Nat)(f:Fn):Fn:=fun x=>t (f (aQ x v false)) (f (aQ x v true))
section
variable {t:Bool→Bool→Bool} {v u:Nat} {f:Fn}
theorem sS{x v:Nat}{b c:Bool}:aQ (aQ x v b) v c=aQ x v c:=by
 apply Nat.eq_of_testBit_eq;intro k
 rw[ak,ak,ak]
 split<;>rfl
end
def G9(e:Bool):Bool→Bool→Bool→Bool:=fun x y _=>if e then x||y else x&&y
def jf(e:Bool)(S:Nat→Fn)(a b:Nat):Fn:=jA (G9 e) S [a,b,0]
section
variable {N:cP} {S:Nat→Fn} {n:Nat} {af:Nat→Nat}
theorem sy{r:Nat}{d:Nd}(e:N r=some d):dk N d.v false r=d.lo∧dk N d.v true r=d.hi:=by
 unfold dk
 rw[e]
 simp
end
end aq
set_option maxRecDepth 100000
namespace Go.Proofs
open Go Go.Sx
open aq
section
variable {kp:Nat} {K:Kd} {ord af tr:List Nat} {C:Hp} {S:Nat→aq.Fn}
theorem l9(h:cB kp K ord af tr C)(v:Int):Rd Tryz.prog 150 #[ptr kp,.int .i64 v] C (· =if 0≤v∧v<K.n then .tuple #[.int .i64 ((af.getD v.toNat 0:Nat):Int),.int .i64 0]else .tuple #[.int .i64 0,.int .i64 2]):=by
 have h0:=h
 obtain⟨b,rfl,hO⟩:=h
 refine aX fun g=>rz ?_
 refine ae.bC (Br.no ?_)
 refine aa.eq (r6 h0 v) ?_
 refine Un.not ?_
 by_cases vM:0≤v∧v<K.n
 ·rw[decide_eq_true vM,if_pos vM]
  refine Br.no (Nil.ptr ?_)
  refine Ld.f ?_
  have hlen:=hO.ol.2
  obtain⟨n,rfl⟩:∃n:Nat,v=n:=⟨v.toNat,by omega⟩
  refine hO.lv.ld (x:=((af.getD n 0:Nat):Int)) (bH (by omega)) (aT.sub (.cons (.app (.app (.app (.app (.app .left))))))) ?_
  exact bF.mk (.refl _) rfl
 ·rw[decide_eq_false vM,if_neg vM]
  exact Br.yes (bF.mk (.refl _) rfl)
end
end Go.Proofs
set_option maxRecDepth 100000
namespace Go.Proofs
open Go Go.Sx
open aq
section
variable {kp:Nat} {K:Kd} {S:Nat→aq.Fn} {ord af tr:List Nat} {C:Hp}
def qf(e:Bool)(v:Nat)(f:aq.Fn):aq.Fn:=QF (fun x y=>if e then x||y else x&&y) v f
end
theorem Fits.mono{A B:aq.Fn→Prop}{cap:Nat}(h:∀g,A g→B g)(hB:Fits B cap):Fits A cap:=by
 classical
 obtain⟨ku,⟨l,h1,h2,h3⟩,hc⟩:=hB
 refine⟨(l.filter fun g=>decide (A g)).length,⟨l.filter fun g=>decide (A g),h1.filter _,rfl,fun g=>?_⟩,?_⟩
 ·rw[List.mem_filter,decide_eq_true_eq,←h3]
  exact⟨fun x=>⟨h g x,x⟩,fun x=>x.2⟩
 ·have:=List.length_filter_le (fun g=>decide (A g)) l
  omega
def bitsOf(mask n:Nat):List Nat:=(List.range n).filter fun i=>mask.testBit i
def za(e:Bool)(vs:List Nat)(f:aq.Fn):aq.Fn:=vs.foldl (fun g v=>qf e v g) f
end Go.Proofs
set_option maxRecDepth 100000
namespace Go.Proofs
open Go Go.Sx
def C0(ts:List Tb):Prop:=∀t∈ts,TF t∧some t.n=ts.head?.map Tb.n
instance (ts:List Tb):Decidable (C0 ts):=by unfold C0;infer_instance
open aq
section
variable {kp b f d:Nat} {K:Kd} {S:Nat→aq.Fn} {ord tr:List Nat} {C:Hp}
def yd(p:Nat):Nat→Nat→Nat
 |0,_=>p
 |_,k=>p-k
def tn(n p:Nat):Nat→Nat→Nat
 |0,k=>p+k
 |_,_=>n-1
end
end Go.Proofs
set_option maxRecDepth 100000
namespace Go.Proofs
open Go Go.Sx
section
open Go.ChangeShapes Go.WideShapes Go.Deep
variable {H:Type} {enc:TypeId×Value→H} {W:World} {base:Nat} {spare:Nat→Bool} {held:Bool}
theorem yg{f:FuncId}{args:Array Value}{W:World}(h:Rd Tryz.prog f args (whole W) (· =.bool true)):
  Calls Tryz.prog f args W fun e W'=>e=.returned (.bool true)∧Go.RowKit.Below W.heap.size W W':=
 Af (h.mono fun _ _ ⟨h1,h2⟩=>⟨by rw[h1];exact .refl _,h2⟩)
end
end Go.Proofs
namespace aq
def dst(x y:Nat):Nat:=(x-y)+(y-x)
end aq
namespace dQ
open Go.Sx
def zf:List Nat→Nat
 | []=>0
 |x::r=>r.foldl min x
def vw(n a:Nat):List Nat:=(List.range n).filter fun v=> !a.testBit v
def has(n a:Nat):List Nat:=(List.range n).filter fun v=>a.testBit v
def GI(n:Nat)(c:Nat→Nat→Nat):Nat→Nat→Nat
 |0,_=>0
 |f+1,a=>zf ((vw n a).map fun v=>c a v+GI n c f (aQ a v true))
def par(n:Nat)(c:Nat→Nat→Nat):Nat→Nat→Nat
 |0,_=>0
 |f+1,s=>zf ((has n s).map fun v=>c (aQ s v false) v+par n c f (aQ s v false))
def B(n:Nat)(c:Nat→Nat→Nat)(a:Nat):Nat:=GI n c n a
def W(n:Nat)(c:Nat→Nat→Nat)(s:Nat):Nat:=par n c n s
structure Used(n:Nat)(c:Nat→Nat→Nat)(U:Nat):Prop where
 zero:∀a v,v<n→a.testBit v=false→U.testBit v=false→c a v=0
 mask:∀a v,v<n→a.testBit v=false→c a v=c (a&&&U) v
def ord(n:Nat)(c:Nat→Nat→Nat):Nat→Nat→List Nat
 |0,_=>[]
 |f+1,a=>match(vw n a).find? fun v=>c a v+B n c (aQ a v true)==B n c a with
  |some v=>v::ord n c f (aQ a v true)
  |none=>[]
end dQ
namespace dQ
open Go.Sx
theorem iG{x u v:Nat}{b c:Bool}(h:u≠v):aQ (aQ x u b) v c=aQ (aQ x v c) u b:=by
 apply Nat.eq_of_testBit_eq;intro k
 rw[ak,ak,ak,ak]
 by_cases e1:k=u<;>by_cases e2:k=v
 ·exact absurd (e1.symm.trans e2) h
 ·simp[e1,h]
 ·simp[e2,Ne.symm h]
 ·simp[e1,e2]
end dQ
set_option maxRecDepth 100000
namespace Go.Proofs
open Go Go.Sx
def kp(x:Nat×Nat):Value:=.agg (ai .i64 [(x.1:Int),(x.2:Int)])
end Go.Proofs
namespace Bi
abbrev It:=Int×Int
def prec(a b:It):Bool:=decide (a.2<b.2)||(a.2==b.2&&decide (a.1<b.1))
def E(V:Nat→It)(j:Nat):Prop:=prec (V j) (V ((j-1) /2))=false
def Ord(n:Nat)(V:Nat→It):Prop:=∀j,0<j→j<n→E V j
def ik(l:List It)(j:Nat):It:=l.getD j (0,0)
theorem swap_perm{l:List It}{i q:Nat}(hi:i<l.length)(hq:q<l.length)(hne:q≠i):((l.set i (ik l q)).set q (ik l i)).Perm l:=by
 rw[List.perm_iff_count]
 intro x
 have g1:l[i]=ik l i:=by simp[ik,List.getD,hi]
 have g2:l[q]=ik l q:=by simp[ik,List.getD,hq]
 have g3:(l.set i (ik l q))[q]'(by simp[hq])=ik l q:=by rw[List.getElem_set_ne (fun e=>hne e.symm)];exact g2
 rw[List.count_set (by simp[hq]),List.count_set hi,g1,g3]
 have hc:ik l i=x→0<l.count x:=fun e=>by rw[List.count_pos_iff,←e,←g1];exact List.getElem_mem hi
 by_cases e1:ik l i=x
 ·have:=hc e1
  by_cases e2:ik l q=x<;>simp[e1,e2]<;>omega
 ·by_cases e2:ik l q=x<;>simp[e1,e2]
def FA(l:List It):Prop:=(l.map Prod.fst).Nodup
def Cons(l:List It)(f:Int→Option Nat):Prop:=(∀j,j<l.length→f (ik l j).1=some j)∧∀x,x∉l.map Prod.fst→f x=none
end Bi
namespace Bi
open Go Go.Sx
def enc(kd:IntKind)(a:It):List Value:=[.int kd a.1,.int .i64 a.2]
def Fl(kd:IntKind)(l:List It):List (List Value):=l.map (enc kd)
def idx(i:Nat):Value:=.int .i64 (i:Int)
def HO(kd:IntKind)(TI TH:TypeId)(h:Value)(l:List It)(f:Int→Option Nat)(C:Hp):Prop:=
 ∃bh sv mv Cs Cm,h=.pointer (some ⟨bh,0,none⟩)∧C=(bh,Obj.cells #[sv,mv] TH (0,0))::(Cs++Cm)∧aD TI 2 sv (Fl kd l) Cs∧FD kd idx mv f Cm∧(mv=.map none→l=[])
end Bi
namespace Bi
open Go Go.Sx
def HI(kd:IntKind)(TI TH:TypeId)(h:Value)(l:List It)(C:Hp):Prop:=∃f,HO kd TI TH h l f C∧Cons l f∧Ord l.length (ik l)∧FA l
end Bi
namespace dQ
open Go.Sx Bi
def nn(s k:Nat):It:=((s:Int),(k:Int))
variable {n:Nat} {c:Nat→Nat→Nat} {T:Nat} {D:List Nat} {l l':List It} {s i:Nat}
end dQ
set_option maxRecDepth 100000
namespace Go.Proofs
open Go Go.Sx
open aq
section
variable {kp mb GJ b1 b7 JQ bn:Nat} {K:Kd} {S:Nat→aq.Fn} {ord af tr:List Nat} {C:Hp}
def kr(r:Nat):Value:=u32 r
theorem jW(a b:Nat):Instr.sameNow (.int .u32) (kr a) (kr b)=some (decide (a=b)):=by
 simp only[Instr.sameNow,kr,u32,if_true,Option.some.injEq]
 rw[Bool.eq_iff_iff];simp;omega
theorem mU(a:Nat):Instr.sameBits 10000 (kr a) (kr a)=true:=by simp[Instr.sameBits,kr,u32]
theorem z9{n:Nat}{s:Value}(h:s.oneCell'=true):∀u∈[Value.int .i64 (n:Int),s],u.oneCell'=true:=fun u hu=>by
 simp only[List.mem_cons,List.not_mem_nil,or_false]at hu
 rcases hu with rfl|rfl
 ·rfl
 ·exact h
theorem fZ(d:Nd):∀u∈dB d,u.oneCell'=true:=fun u hu=>by
 simp only[dB,List.mem_cons,List.not_mem_nil,or_false]at hu
 rcases hu with rfl|rfl|rfl<;>rfl
theorem oF{X:Hp}(h:ct kp K S ord af tr C){r:Nat}{d:Nd}(hd:K.N r=some d):Px Tryz.prog 202 #[ptr kp,u32 r] (X++C) (fun v _=>v=.agg (dB d).toArray):=by
 have hlt:=h.cT (.inr ⟨d,hd⟩)
 refine aX fun g=>q5 ?_
 intro b1 _
 refine aa.eq (args:=#[ptr kp,u32 r]) (g8 h.rep (by omega)) ?_
 rw[dh hd (h.ok.mid.two hd).1]
 refine Ext.two ?_
 intro b7 _
 refine St.p (fZ d) ?_
 refine aB.q ?_
 refine St.p (fZ d) ?_
 refine aB.q ?_
 exact GK.mk (by repeat (first|exact fD.refl _|apply fD.cons|apply fD.app)) rfl
theorem oH{X:Hp}{v:Value}(h:ct kp K S ord af tr C){rs:List Nat}(hv:dw .u32 (X++C) v (iw rs))(hr:∀r∈rs,live K.N r)(hl:rs.length<4611686018427387904):Px Tryz.prog 200 #[ptr kp,v] (X++C) (fun w _=>w=.int .i64 0):=by
 refine aX fun g=>q7 ?_
 refine ae.bC (Br.no ?_)
 refine hv.cN ?_
 rw[aE]
 refine⟨fun vs H=>∃(i:Nat) (N:Hp),vs=[.int .i64 (i:Int)]∧i≤rs.length∧H=N++(X++C),fun vs _=>rs.length-cj vs 0,JE.mk ⟨0,[],rfl,Nat.zero_le _,rfl⟩,?_⟩
 rintro w H ⟨i,N,hw,hi,rfl⟩ gs
 simp only[List.cons.injEq,and_true]at hw
 subst hw
 refine ae.jB (Br.dec (fun hlt=>?_) (fun hge=>?_))
 ·have uH:=hr _ (List.getElem_mem hlt)
  have BV:=h.cT uH
  refine hv.ld (n:=((rs[i]:Nat):Int)) (iM (List.getElem?_eq_getElem hlt)) (fun _ h=>List.mem_append_right _ h) ?_
  refine aa.eq (args:=#[ptr kp,u32 rs[i]]) (g8 h.rep (by omega)) ?_
  rw[if_pos (bc.2 uH)]
  refine Ext.two ?_
  intro IL _
  refine St.whole (r:=got K.N rs[i]) (by exact .head _) rfl (aJ _ _).1 (aJ _ _).2 ?_
  refine ae.ep (Br.F ?_)
  refine ae.inc ?_
  exact av.mk ⟨i+1,_::N,rfl,hlt,rfl⟩ (by simp only[cj];omega)
 ·exact GK.mk (by repeat (first|exact fD.refl _|apply fD.cons|apply fD.app)) rfl
end
end Go.Proofs
namespace dQ
open Go.Sx
variable {n:Nat}
variable {φ:List Nat→List Nat} {π:Nat→Nat}
def lay(n:Nat)(F:Nat→Nat):List Nat:=(List.range (wN n)).map fun i=>F i&&&sq n
def neg(n:Nat)(ws:List Nat):List Nat:=lay n fun i=>18446744073709551615-ws.getD i 0
end dQ
namespace aq
open dQ
variable {n:Nat}
def sat(n:Nat)(f:Fn):Nat:=(List.range (2^n)).countP f
def flip(v x:Nat):Nat:=aQ x v (!x.testBit v)
theorem flip_flip(v x:Nat):flip v (flip v x)=x:=by
 unfold flip
 rw[ak,if_pos rfl,sS]
 simpa using fW x v
theorem sr{v x:Nat}(hv:v<n)(hx:x<2^n):flip v x<2^n:=xK hx hv
theorem tB{v:Nat}(hv:v<n):((List.range (2^n)).map (flip v)).Perm (List.range (2^n)):=by
 refine(List.perm_ext_iff_of_nodup ?_ List.nodup_range).2 fun x=>?_
 ·refine List.pairwise_map.2 (List.nodup_range.imp fun{a b} h e=>h ?_)
  rw[←flip_flip v a,e,flip_flip]
 ·rw[List.mem_map]
  constructor
  ·rintro⟨y,hy,rfl⟩
   exact List.mem_range.2 (sr hv (List.mem_range.1 hy))
  ·intro hx
   exact⟨flip v x,List.mem_range.2 (sr hv (List.mem_range.1 hx)),flip_flip v x⟩
theorem kD{f g p q:Nat→Bool}(h:∀x,(p x).toNat+(q x).toNat=(f x).toNat+(g x).toNat):∀l:List Nat,l.countP p+l.countP q=l.countP f+l.countP g
 | []=>rfl
 |x::l=>by
  have:=h x
  have:=kD h l
  simp only[List.countP_cons]
  cases hp:p x<;>cases hq:q x<;>cases hf:f x<;>cases hg:g x<;>simp_all<;>omega
theorem u4{v:Nat}(hv:v<n)(f:Fn):sat n (fun x=>f (aQ x v false))+sat n (fun x=>f (aQ x v true))=2*sat n f:=by
 unfold sat
 rw[kD (f:=f) (g:=fun x=>f (flip v x)) (fun x=>?_)]
 ·have:List.countP (fun x=>f (flip v x)) (List.range (2^n))=List.countP f (List.range (2^n)):=by
   have h:=(tB hv).countP_eq f
   rw[List.countP_map]at h
   exact h
  omega
 ·unfold flip
  have:=fW x v
  cases hb:x.testBit v<;>rw[hb]at this<;>simp only[Bool.not_true,Bool.not_false]<;>rw[this]<;>omega
theorem iH:sat n (fun _=>false)=0:=by simp[sat]
theorem sat_true:sat n (fun _=>true)=2^n:=by simp[sat]
variable {N:cP} {S:Nat→Fn} {af:Nat→Nat}
theorem u3(h:WF n af N)(hl:kX n af)(hi:Interp N S){r a b:Nat}{d:Nd}(hd:N r=some d)(hv:d.v<n)(ha:a*2^dep n af N d.lo=sat n (S d.lo))(hb:b*2^dep n af N d.hi=sat n (S d.hi)):
  (a*2^(dep n af N d.lo-af d.v-1)+b*2^(dep n af N d.hi-af d.v-1))*2^dep n af N r=sat n (S r):=by
 have h1:=(h.lo hd).2
 have h2:=(h.hi hd).2
 rw[ag hd]
 have e1:(fun x=>S r (aQ x d.v false))=S d.lo:=by
  have:=(ig h hl hi (r:=r) (.inr ⟨d,hd⟩) hv (by rw[ag hd];exact Nat.le_refl _) false)
  rw[(sy hd).1]at this
  exact(funext this.1).symm
 have e2:(fun x=>S r (aQ x d.v true))=S d.hi:=by
  have:=(ig h hl hi (r:=r) (.inr ⟨d,hd⟩) hv (by rw[ag hd];exact Nat.le_refl _) true)
  rw[(sy hd).2]at this
  exact(funext this.1).symm
 have hh:=u4 hv (S r)
 rw[e1,e2,←ha,←hb]at hh
 have p1:2^dep n af N d.lo=2^(dep n af N d.lo-af d.v-1)*(2*2^af d.v):=by
  rw[←Nat.pow_succ',←Nat.pow_add];congr 1;omega
 have p2:2^dep n af N d.hi=2^(dep n af N d.hi-af d.v-1)*(2*2^af d.v):=by
  rw[←Nat.pow_succ',←Nat.pow_add];congr 1;omega
 rw[p1,p2]at hh
 rw[←Nat.mul_assoc a,←Nat.mul_assoc b,←Nat.add_mul,Nat.mul_left_comm]at hh
 omega
end aq
set_option maxRecDepth 100000
namespace Go.Proofs
open Go Go.Sx
open aq
theorem xR{P:Program}{f:FuncId}{args:Array Value}{B:Hp}{Q:Value→Prop}(h:Px P f args B (fun v _=>Q v)):Rd P f args B Q:=fun g=>(h g).mono fun e H h=>by
 obtain⟨v,H2,rfl,he,hg,hq⟩:=h
 exact⟨v,B,rfl,he.trans hg.gK,rfl,hq⟩
theorem ae.Fw{a b:Nat}{k:Value→Prop}(h:k (.int .u64 (((a+b)%18446744073709551616:Nat):Int))):ae .num .add (.int .u64 (a:Int)) (.int .u64 (b:Int)) k:=by
 refine ae.add ?_
 rw[wrap_u64]
 have:(((a:Int)+(b:Int))%18446744073709551616)=((((a+b)%18446744073709551616:Nat)):Int):=by omega
 rw[this];exact h
section
variable {kp:Nat} {K:Kd} {S:Nat→aq.Fn} {ord af tr:List Nat} {C:Hp}
theorem mq(r:Nat)(B:Hp):Rd Tryz.prog 201 #[u32 r] B (· =.bool (decide (r<2))):=by
 refine aX fun g=>q6 ?_
 refine ae.lg (b:=0) ?_
 refine cW.or (a:=decide (r=0)) (decide (r=1)) (fun _=>ae.lg (b:=1) ⟨rfl,rfl⟩) rfl fun _=>?_
 refine bF.mk (.refl _) ?_
 rw[←Bool.decide_or]
 congr 1
 exact decide_eq_decide.2 (by omega)
theorem wL(h:ct kp K S ord af tr C){r v:Nat}(hr:live K.N r)(hv:v<18446744073709551616):
  Rd Tryz.prog 144 #[ptr kp,u32 r,.int .u64 (v:Int)] C (· =.tuple #[.bool (S r v),.int .i64 0]):=by
 have vR:K.n≤64:=h.ik.ze
 refine aX fun g=>rC ?_
 refine an.int (e:=110) (by kernel_rfl) (by kernel_rfl) (by kernel_rfl) fun bx=>?_
 refine aa.eh .here (xR (oH (X:=[(bx,_)]) (rs:=[r]) h (dw.block (by exact .head _) (by simp)) (fun x hx=>by rw[List.mem_singleton.1 hx];exact hr) (by simp))) ?_
 refine ae.ep (Br.F ?_)
 refine⟨fun vs H=>∃q:Nat,vs=[u32 q]∧H=C∧live K.N q∧S q v=S r v,fun vs _=>K.n-dep K.n (lv af) K.N (cj vs 0),JE.of .tail ⟨r,rfl,rfl,hr,rfl⟩,?_⟩
 rintro w H ⟨q,⟨⟩,rfl,hq,he⟩ gs
 refine aa.eq (mq q _) ?_
 refine Un.not (Br.mk (fun hb=>?_) (fun hb=>?_))
 ·have h2:2≤q:=by simpa using hb
  obtain⟨d,hN⟩:∃d,K.N q=some d:=by
   rcases hq with hq|hq
   ·omega
   ·exact hq
  have tt:=h.ok.mid.var hN
  have hlo:=h.ok.wf.lo hN
  have hhi:=h.ok.wf.hi hN
  have hvl:=h.ok.lv.lt _ tt
  refine aa.eh .here (xR (oF (X:=[]) h hN)) ?_
  intro iD _
  refine St.p (fZ d) ?_
  refine Ld.f ?_
  refine Ld.f ?_
  refine ae.pg (by simpa[cO]using hv) (ae.yY (by simp[cO];exact Nat.lt_of_le_of_lt (Nat.shiftRight_le _ _) hv) (by decide) (ae.lg (b:=1) ?_))
  rw[Nat.and_one_is_mod]
  rw[yQ]
  have sg:=h.ok.mid.int.node hN v
  refine Br.mk (fun hb=>?_) (fun hb=>?_)
  ·rw[hb,if_pos rfl]at sg
   refine Ld.f ?_
   refine av.of .tail ⟨d.hi,rfl,rfl,hhi.1,sg.symm.trans he⟩ ?_
   show K.n-dep K.n (lv af) K.N d.hi<K.n-dep K.n (lv af) K.N q
   rw[ag hN];omega
  ·rw[hb,if_neg (by decide)]at sg
   refine av.of .tail ⟨d.lo,rfl,rfl,hlo.1,sg.symm.trans he⟩ ?_
   show K.n-dep K.n (lv af) K.N d.lo<K.n-dep K.n (lv af) K.N q
   rw[ag hN];omega
 ·have h2:q<2:=by simpa using hb
  refine ae.lg (b:=1) (bF.mk (.refl _) ?_)
  rw[←he]
  have hint:=h.ok.mid.int
  have:q=0∨q=1:=by omega
  rcases this with rfl|rfl
  ·rw[hint.zero];rfl
  ·rw[hint.one];rfl
end
end Go.Proofs
set_option maxRecDepth 100000
namespace Go.Proofs
open Go Go.Sx
open aq
section
variable {kp mb b1 b9 c9 c1 c3 tL:Nat} {K:Kd} {S:Nat→aq.Fn} {ord af tr:List Nat} {C Z:Hp}
abbrev nr:Nat:=18446744073709551616
abbrev u64(x:Nat):Value:=.int .u64 (x:Int)
theorem oE(h:ct kp K S ord af tr C){r:Nat}{d:Nd}(hd:K.N r=some d):Rd Tryz.prog 202 #[ptr kp,u32 r] C (· =.agg (dB d).toArray):=xR (oF (X:=[]) h hd)
theorem wJ(h:ct kp K S ord af tr C){X:Hp}{r b:Nat}(hm:(b,Obj.cells (ai .u32 [(r:Int)]) 110 (0,0))∈X)(hr:live K.N r):Rd Tryz.prog 200 #[ptr kp,.slice (some ⟨b,0,none⟩) 1 1] (X++C) (· =.int .i64 0):=
 xR (oH (X:=X) (rs:=[r]) h (dw.block (List.mem_append_left _ hm) (by simp)) (fun x hx=>by rw[List.mem_singleton.1 hx];exact hr) (by simp))
def cw(K:Kd)(af:List Nat)(S:Nat→aq.Fn)(r:Nat):Nat:=sat K.n (S r) /2^dep K.n (lv af) K.N r
theorem ie(h:ct kp K S ord af tr C){r:Nat}(hr:r<2):cw K af S r=r:=by
 have hi:=h.ok.mid.int
 have h0:K.N r=none:=by
  cases hN:K.N r with
  |none=>rfl
  |some d=>have:=h.ok.mid.two hN;omega
 unfold cw
 rw[aO h0]
 have:r=0∨r=1:=by omega
 rcases this with rfl|rfl
 ·rw[show S 0=fun _=>false from funext hi.zero,iH,Nat.zero_div]
 ·rw[show S 1=fun _=>true from funext hi.one,sat_true,Nat.div_self (Nat.two_pow_pos _)]
theorem wF(h:ct kp K S ord af tr C):∀(k r:Nat),K.n-dep K.n (lv af) K.N r≤k→live K.N r→cw K af S r*2^dep K.n (lv af) K.N r=sat K.n (S r)∧
  (∀d,K.N r=some d→cw K af S r=cw K af S d.lo*2^(dep K.n (lv af) K.N d.lo-lv af d.v-1)+cw K af S d.hi*2^(dep K.n (lv af) K.N d.hi-lv af d.v-1)):=by
 have hi:=h.ok.mid.int
 intro k
 induction k with
 |zero=>
  intro r hk hr
  cases hN:K.N r with
  |some d=>
   rw[ag hN]at hk
   have:=h.ok.lv.lt _ (h.ok.mid.var hN);omega
  |none=>
   have h2:r<2:=by
    rcases hr with hr|⟨d,e⟩
    ·exact hr
    ·rw[hN]at e;cases e
   refine⟨?_,fun d hd=>by cases hd⟩
   rw[ie h h2,aO hN]
   have:r=0∨r=1:=by omega
   rcases this with rfl|rfl
   ·rw[show S 0=fun _=>false from funext hi.zero,iH,Nat.zero_mul]
   ·rw[show S 1=fun _=>true from funext hi.one,sat_true,Nat.one_mul]
 |succ k ih=>
  intro r hk hr
  cases hN:K.N r with
  |none=>
   rw[aO hN]at*
   have h2:r<2:=by
    rcases hr with hr|⟨d,e⟩
    ·exact hr
    ·rw[hN]at e;cases e
   refine⟨?_,fun d hd=>by cases hd⟩
   rw[ie h h2]
   have:r=0∨r=1:=by omega
   rcases this with rfl|rfl
   ·rw[show S 0=fun _=>false from funext hi.zero,iH,Nat.zero_mul]
   ·rw[show S 1=fun _=>true from funext hi.one,sat_true,Nat.one_mul]
  |some d=>
   have hlo:=h.ok.wf.lo hN
   have hhi:=h.ok.wf.hi hN
   have hvl:=h.ok.lv.lt _ (h.ok.mid.var hN)
   have e1:=ag (n:=K.n) (af:=lv af) hN
   have q:=u3 h.ok.wf h.ok.lv hi hN (h.ok.mid.var hN) (ih d.lo (by omega) hlo.1).1 (ih d.hi (by omega) hhi.1).1
   have e2:cw K af S r=cw K af S d.lo*2^(dep K.n (lv af) K.N d.lo-lv af d.v-1)+cw K af S d.hi*2^(dep K.n (lv af) K.N d.hi-lv af d.v-1):=by
    show sat K.n (S r) /_=_
    rw[←q,Nat.mul_div_cancel _ (Nat.two_pow_pos _)]
   exact⟨by rw[e2];exact q,fun d' hd=>by cases hd;exact e2⟩
theorem iF(h:ct kp K S ord af tr C){r:Nat}(hr:live K.N r)(h1:(b1,Obj.cells #[ptr kp] 85 (0,0))∈Z):
  Rd Tryz.prog 203 #[u32 r,ptr b1] (Z++C) (· =.int .i64 ((dep K.n (lv af) K.N r:Nat):Int)):=by
 have so:=List.mem_append_left C h1
 refine aX fun g=>q4 ?_
 refine aa.eq (mq r _) ?_
 refine Br.mk (fun hb=>?_) (fun hb=>?_)
 ·have h2:r<2:=of_decide_eq_true hb
  refine Ld.mk so rfl ?_
  refine aa.eq (nY h.rep) ?_
  refine bF.mk (.refl _) ?_
  have h0:K.N r=none:=by
   cases hN:K.N r with
   |none=>rfl
   |some d=>have:=h.ok.mid.two hN;omega
  rw[aO h0]
 ·have h2:¬r<2:=of_decide_eq_false hb
  obtain⟨d,hN⟩:∃d,K.N r=some d:=by
   rcases hr with hr|hr
   ·omega
   ·exact hr
  have tt:=h.ok.mid.var hN
  refine DR.of (.refl _) ?_
  refine Ld.mk so rfl ?_
  refine Ld.mk so rfl ?_
  intro F
  refine aa.eq (args:=#[ptr kp,u32 r]) (oE h hN) ?_
  refine⟨.refl _,?_⟩
  refine zP.mk (off:=0) (cs:=(dB d).toArray) (v:=.int .i64 (d.v:Int)) rfl ?_
  intro F
  refine aa.eq (args:=#[ptr kp,.int .i64 (d.v:Int)]) (l9 h.rep _) ?_
  refine⟨.refl _,?_⟩
  rw[if_pos ⟨by omega,by omega⟩]
  refine Ext.two ?_
  refine bF.mk (.refl _) ?_
  rw[ag hN];rfl
theorem mN(a k:Nat):((a%nr)<<<k)%nr=(a*2^k)%nr:=by
 rw[Nat.shiftLeft_eq,Nat.mod_mul_mod]
theorem xO(h:ct kp K S ord af tr C){r:Nat}{d:Nd}(hN:K.N r=some d)(h1:(b1,Obj.cells #[ptr kp] 85 (0,0))∈Z)(h9:(b9,Obj.cells #[.func (.func 203) #[] #[ptr b1]] 260 (0,0))∈Z):
  Rd Tryz.prog 205 #[.agg (dB d).toArray,u64 (cw K af S d.lo%nr),u64 (cw K af S d.hi%nr),ptr b1,ptr b9] (Z++C) (· =u64 (cw K af S r%nr)):=by
 have so:=List.mem_append_left C h1
 have Gz:=List.mem_append_left C h9
 have tt:=h.ok.mid.var hN
 have hlo:=h.ok.wf.lo hN
 have hhi:=h.ok.wf.hi hN
 have hn:=h.ik.ze
 have JF:=h.ok.wf.fj h.ok.lv d.lo
 have JG:=h.ok.wf.fj h.ok.lv d.hi
 refine aX fun g=>qY ?_
 intro c1 _
 refine Ld.mk (.tail _ so) rfl ?_
 refine Ld.f (v:=.int .i64 (d.v:Int)) ?_
 refine aa.eq (l9 h.rep _) ?_
 rw[if_pos ⟨by omega,by omega⟩]
 refine Ext.two ?_
 refine DR.of (.refl _) ?_
 refine Ld.mk (.tail _ Gz) rfl ?_
 refine Ld.f (v:=u32 d.lo) ?_
 refine Ld.mk (.tail _ Gz) rfl ?_
 refine Ld.f (v:=u32 d.hi) ?_
 intro F
 refine bj.of rfl (by kernel_rfl) ?_
 refine aa.eq (args:=#[u32 d.lo,ptr b1]) (iF (Z:=Z) h hlo.1 h1) ?_
 refine⟨.refl _,?_⟩
 rw[Int.toNat_natCast]
 show ae _ _ (.int .i64 ((dep K.n (lv af) K.N d.lo:Nat):Int)) (.int .i64 ((lv af d.v:Nat):Int)) _
 refine ae.bp ?_
 refine ae.bp (b:=1) ?_
 refine ae.sR ?_
 intro F
 refine bj.of rfl (by kernel_rfl) ?_
 refine aa.eq (args:=#[u32 d.hi,ptr b1]) (iF (Z:=Z) h hhi.1 h1) ?_
 show ae _ _ (.int .i64 ((dep K.n (lv af) K.N d.hi:Nat):Int)) (.int .i64 ((lv af d.v:Nat):Int)) _
 refine ae.bp ?_
 refine ae.bp (b:=1) ?_
 refine ae.sR ?_
 refine ae.Fw ?_
 refine bF.mk .tail ?_
 rw[mN,mN,←Nat.add_mod,(wF h K.n r (Nat.sub_le _ _) (.inr ⟨d,hN⟩)).2 d hN]
structure DN(K:Kd)(af:List Nat)(S:Nat→aq.Fn)(es:Array MapEntry)(ck:Nat)(m:List (Nat×Nat)):Prop where
 gK:aH kr (fun v (x:Nat)=>v=u64 x) es ck m
 val:∀r x,aU m r=some x→x=cw K af S r%nr
 low:∀r,r<2→aU m r≠none
theorem sU(h:ct kp K S ord af tr C)(h9:(c9,Obj.cells #[.map (some mb)] 349 (0,0))∈Z)(h1:(c1,Obj.cells #[ptr kp] 85 (0,0))∈Z)(h3:(c3,Obj.cells #[.func (.func 205) #[] #[ptr b1,ptr b9]] 265 (0,0))∈Z)
 (DH:(tL,Obj.cells #[.func (.func 290) #[] #[ptr c9,ptr c1,ptr c3,ptr tL]] 350 (0,0))∈Z)(EO:(b1,Obj.cells #[ptr kp] 85 (0,0))∈Z)(Ig:(b9,Obj.cells #[.func (.func 203) #[] #[ptr b1]] 260 (0,0))∈Z):
  ∀(k r:Nat) (es:Array MapEntry) (ck:Nat) (m:List (Nat×Nat)),K.n-dep K.n (lv af) K.N r≤k→live K.N r→DN K af S es ck m→
  Fc Tryz.prog 290 #[u32 r,ptr c9,ptr c1,ptr c3,ptr tL] ((mb,.map es ck)::(Z++C)) (fun v H=>v=u64 (cw K af S r%nr)∧∃es' cY m',H=(mb,.map es' cY)::(Z++C)∧DN K af S es' cY m'):=by
 have hit:∀{r:Nat} {es:Array MapEntry} {ck:Nat} {m:List (Nat×Nat)} {x:Nat},DN K af S es ck m→aU m r=some x→
   Fc Tryz.prog 290 #[u32 r,ptr c9,ptr c1,ptr c3,ptr tL] ((mb,.map es ck)::(Z++C)) (fun v H=>v=u64 (cw K af S r%nr)∧∃es' cY m',H=(mb,.map es' cY)::(Z++C)∧DN K af S es' cY m'):=by
  intro r es ck m x hm hv
  refine aX fun g=>kN ?_
  refine Ld.mk (v:=.map (some mb)) (.tail _ (List.mem_append_left _ h9)) rfl ?_
  refine hm.gK.hit (k:=r) jW (b:=mb) (by exact .head _) hv fun v' e=>?_
  subst e
  refine Ext.two ?_
  refine Br.yes ?_
  exact aY.mk (.refl _) ⟨by rw[hm.val r x hv],es,ck,m,rfl,hm⟩
 intro k
 induction k with
 |zero=>
  intro r es ck m hk hr hm
  have oa:r<2:=by
   cases hN:K.N r with
   |some d=>
    rw[ag hN]at hk
    have:=h.ok.lv.lt _ (h.ok.mid.var hN);omega
   |none=>
    rcases hr with hr|⟨d,e⟩
    ·exact hr
    ·rw[hN]at e;cases e
  cases hv:aU m r with
  |none=>exact absurd hv (hm.low r oa)
  |some v=>exact hit hm hv
 |succ k ih=>
  intro r es ck m hk hr hm
  cases hv:aU m r with
  |some v=>exact hit hm hv
  |none=>
  have oa:¬r<2:=fun h2=>hm.low r h2 hv
  obtain⟨d,hN⟩:∃d,K.N r=some d:=by
   rcases hr with hr|hr
   ·omega
   ·exact hr
  have hlo:=h.ok.wf.lo hN
  have hhi:=h.ok.wf.hi hN
  rw[ag hN]at hk
  have hvl:=h.ok.lv.lt _ (h.ok.mid.var hN)
  refine aX fun g=>kN ?_
  refine Ld.mk (v:=.map (some mb)) (.tail _ (List.mem_append_left _ h9)) rfl ?_
  refine hm.gK.vw (k:=r) jW (b:=mb) (by exact .head _) hv ?_
  refine Ext.two ?_
  refine Br.no ?_
  refine Ld.mk (v:=ptr kp) (.tail _ (List.mem_append_left _ h1)) rfl ?_
  refine aa.eq (args:=#[ptr kp,u32 r]) (oE h hN) ?_
  intro b8 _
  refine St.p (fZ d) ?_
  refine DR.of (R:=(b8,Obj.cells (dB d).toArray 226 (0,0))::Z) (.cons (.skip .left)) ?_
  refine Ld.mk (v:=.func (.func 205) #[] #[ptr b1,ptr b9]) (.tail _ h3) rfl ?_
  refine aB.q ?_
  refine Ld.mk (v:=.func (.func 290) #[] #[ptr c9,ptr c1,ptr c3,ptr tL]) (.tail _ DH) rfl ?_
  refine Ld.f (v:=u32 d.lo) ?_
  refine Ld.mk (v:=.func (.func 290) #[] #[ptr c9,ptr c1,ptr c3,ptr tL]) (.tail _ DH) rfl ?_
  refine Ld.f (v:=u32 d.hi) ?_
  intro F
  refine bj.of rfl (by kernel_rfl) ?_
  refine aa.fq (args:=#[u32 d.lo,ptr c9,ptr c1,ptr c3,ptr tL]) (ih d.lo es ck m (by omega) hlo.1 hm) ?_
  rintro v1 H ⟨rfl,AL,AM,m1,rfl,th⟩
  refine⟨.cons (.skip .left),?_⟩
  intro F
  refine bj.of rfl (by kernel_rfl) ?_
  refine aa.fq (args:=#[u32 d.hi,ptr c9,ptr c1,ptr c3,ptr tL]) (ih d.hi AL AM m1 (by omega) hhi.1 th) ?_
  rintro v2 H ⟨rfl,xx,xy,m2,rfl,pH⟩
  refine⟨.cons (.skip .left),?_⟩
  intro F
  refine bj.of rfl (by kernel_rfl) ?_
  refine aa.eq (args:=#[.agg (dB d).toArray,u64 (cw K af S d.lo%nr),u64 (cw K af S d.hi%nr),ptr b1,ptr b9]) (xO (Z:=Z) h hN EO Ig) ?_
  refine Ld.mk (v:=.map (some mb)) (.tail _ (.tail _ (List.mem_append_left _ h9))) rfl ?_
  refine pH.gK.aP (k:=r) (b:=mb) (x:=cw K af S r%nr) jW mU rfl fun GB GC he=>⟨_,.tail (.head _),?_⟩
  refine aY.mk .tail ⟨rfl,GB,GC,_,rfl,he,fun r' x' xk=>?_,fun r' hr'=>?_⟩
  ·rw[bY]at xk
   split at xk
   ·rename_i e
    subst e
    cases xk;rfl
   ·exact pH.val r' x' xk
  ·rw[bY]
   split
   ·simp
   ·exact pH.low r' hr'
theorem wG(h:ct kp K S ord af tr C){r:Nat}(hr:live K.N r):
  Rd Tryz.prog 146 #[ptr kp,u32 r] C (· =.tuple #[u64 (sat K.n (S r)%nr),.int .i64 0]):=by
 have hi:=h.ok.mid.int
 refine aX fun g=>rA ?_
 intro b1 _
 refine Ld.q ?_
 refine an.int (e:=110) (by kernel_rfl) (by kernel_rfl) (by kernel_rfl) fun bx=>?_
 refine aa.eh .here (wJ (X:=[(bx,_),(b1,_)]) h (by exact .head _) hr) ?_
 refine ae.ep (Br.F ?_)
 intro b9 _
 refine St.one (c':=#[.func (.func 203) #[] #[ptr b1]]) (by exact .head _) rfl (by simp) rfl ?_
 refine Ld.q ?_
 refine aa.fq (args:=#[ptr kp,u32 r,u64 0,u64 1,.func (.func 205) #[] #[ptr b1,ptr b9]]) (C:=(b9,Obj.cells #[.func (.func 203) #[] #[ptr b1]] 260 (0,0))::(bx,_)::(b1,Obj.cells #[ptr kp] 85 (0,0))::C) (Q:=fun v H=>v=u64 (cw K af S r%nr)∧H=(b9,Obj.cells #[.func (.func 203) #[] #[ptr b1]] 260 (0,0))::(bx,Obj.cells (ai .u32 [(r:Int)]) 110 (0,0))::(b1,Obj.cells #[ptr kp] 85 (0,0))::C) (aX fun g=>qZ ?_) ?_
 ·intro c1 _ c3 _ mb _
  refine aH.aP (ke:=kr) (vr:=fun v (x:Nat)=>v=u64 x) (k:=0) (b:=mb) (x:=0) jW mU aH.empty rfl fun AL AM EJ=>⟨_,.head _,?_⟩
  refine aH.aP (ke:=kr) (vr:=fun v (x:Nat)=>v=u64 x) (k:=1) (b:=mb) (x:=1) jW mU EJ rfl fun xx xy B6=>⟨_,.head _,?_⟩
  intro c9 _
  refine St.one (c':=#[.map (some mb)]) (by exact .head _) rfl (by simp) rfl ?_
  intro tL _
  refine St.one (c':=#[.func (.func 290) #[] #[ptr c9,ptr c1,ptr c3,ptr tL]]) (by exact .head _) rfl (by simp) rfl ?_
  refine Ld.q ?_
  refine bj.of rfl (by kernel_rfl) ?_
  obtain⟨Z,hZ⟩:∃Z:Hp,Z=[(tL,Obj.cells #[.func (.func 290) #[] #[ptr c9,ptr c1,ptr c3,ptr tL]] 350 (0,0)),(c9,.cells #[.map (some mb)] 349 (0,0)),(c3,.cells #[.func (.func 205) #[] #[ptr b1,ptr b9]] 265 (0,0)),(c1,.cells #[ptr kp] 85 (0,0)),
   (b9,Obj.cells #[.func (.func 203) #[] #[ptr b1]] 260 (0,0)),(bx,Obj.cells (ai .u32 [(r:Int)]) 110 (0,0)),(b1,Obj.cells #[ptr kp] 85 (0,0))]:=⟨_,rfl⟩
  refine aa.pre (H':=(mb,Obj.map xx xy)::(Z++C)) (.perm ?_) ?_
  ·rw[hZ]
   exact(List.Perm.cons _ (List.Perm.swap _ _ _)).trans (List.Perm.swap _ _ _)
  refine aa.fq (args:=#[u32 r,ptr c9,ptr c1,ptr c3,ptr tL]) (sU (Z:=Z) (b1:=b1) (b9:=b9) h (by rw[hZ];exact .tail _ (.head _)) (by rw[hZ];exact .tail _ (.tail _ (.tail _ (.head _)))) (by rw[hZ];exact .tail _ (.tail _ (.head _))) (by rw[hZ];exact .head _) (by rw[hZ];exact .tail _ (.tail _ (.tail _ (.tail _ (.tail _ (.tail _ (.head _))))))) (by rw[hZ];exact .tail _ (.tail _ (.tail _ (.tail _ (.head _))))) K.n r xx xy _ (Nat.sub_le _ _) hr ⟨B6,fun r' x hm=>?_,fun r' hr'=>?_⟩) ?_
  ·rw[bY,bY]at hm
   split at hm
   ·rename_i e;subst e;cases hm;rw[ie h (by decide)];rfl
   split at hm
   ·rename_i e;subst e;cases hm;rw[ie h (by decide)];rfl
   ·simp[aU]at hm
  ·rw[bY,bY]
   have:r'=0∨r'=1:=by omega
   rcases this with rfl|rfl<;>simp
  rintro v H ⟨rfl,GB,GC,m3,rfl,_⟩
  refine aY.mk ?_ ⟨rfl,rfl⟩
  rw[hZ]
  exact .skip (.skip (.skip (.skip (.skip (.refl _)))))
 rintro v H ⟨rfl,rfl⟩
 refine Ld.q ?_
 refine bj.of rfl (by kernel_rfl) ?_
 refine aa.eh (args:=#[u32 r,ptr b1]) .here (iF (Z:=[(b9,_),(bx,_),(b1,_)]) h hr (by exact .tail _ (.tail _ (.head _)))) ?_
 refine ae.sR ?_
 refine bF.mk (.skip (.skip .tail)) ?_
 rw[mN,(wF h K.n r (Nat.sub_le _ _) hr).1]
end
end Go.Proofs
namespace Go.Sx
open Go
section
variable {P:Program} {g:Gh} {H:Hp}
def kG:Nat→List (List Value)→List (Nat×Value)
 |_,[]=>[]
 |i,r::rs=>(i,.agg r.toArray)::kG (i+1) rs
theorem kx{k:Nat}:∀(rs:List (List Value)) (i:Nat) (pre aK:List Value),(∀r∈rs,r.length=k)→pre.length=i*k→aK.length=rs.length*k→gy (fun i=>some (i*k,k)) (pre++aK) (kG i rs)=some (pre++rs.flatten)
 | [],i,pre,aK,_,_,hj=>by
  have:aK=[]:=List.length_eq_zero_iff.1 (by simpa using hj)
  subst this;simp[kG,gy]
 |r::rs,i,pre,aK,hr,hp,hj=>by
  have Ei:=hr r (List.mem_cons_self ..)
  have Au:aK.length=k+rs.length*k:=by rw[hj,List.length_cons,Nat.succ_mul,Nat.add_comm]
  simp only[kG,gy,Value.cells]
  have hb:(Nat.beq r.toArray.toList.length k&&Nat.ble (i*k+r.toArray.toList.length) (pre++aK).length)=true:=by
   have e1:r.toArray.toList.length=k:=Ei
   rw[e1,List.length_append]
   simp;omega
  rw[hb,cond_true]
  have h1:=fY r (pre++aK) (i*k) (by rw[List.length_append];omega)
  rw[eU]at h1
  have h2:jL (pre++aK) (i*k) r=pre++r++aK.drop k:=by
   have:=congrArg Array.toList h1
   simp only at this
   rw[this,←hp]
   simp[List.take_append,Ei,List.drop_append]
  show gy _ (jL (pre++aK) (i*k) r) _=_
  rw[h2,kx rs (i+1) (pre++r) (aK.drop k) (fun x hx=>hr x (List.mem_cons_of_mem _ hx)) (by rw[List.length_append,hp,Ei,Nat.succ_mul]) (by rw[List.length_drop];omega)]
  simp
theorem an.many{t e k:Nat}{z:Value}(rs:List (List Value)){len:Nat}{parts:List (Nat×Value)}{K:Value→Hp→Prop}(h1:P.underlying t=some (.slice e))(h2:bR P e=some k)(h3:dc P e=some z)(hk:rs.length*k≤16777216)(hr:∀r∈rs,r.length=k)
 (hl:rs.length=len)(hp:kG 0 rs=parts)(h:∀b,K (.slice (some ⟨b,0,Option.none⟩) len len) ((b,.cells (rows rs) e (0,0))::H)):an P t len parts H K:=by
 subst hl hp
 refine⟨rows rs,e,k,z,h1,h2,h3,by omega,?_,fun b _=>h b⟩
 have:((Array.range (rs.length*k)).map (z.cells[· %z.cells.size]!))=(((Array.range (rs.length*k)).map (z.cells[· %z.cells.size]!)).toList).toArray:=by rw[Array.toArray_toList]
 rw[this]
 generalize hc:((Array.range (rs.length*k)).map (z.cells[· %z.cells.size]!)).toList=c
 have hlen:c.length=rs.length*k:=by rw[←hc];simp
 refine fg _ _ _ ?_
 have:=kx rs 0 [] c hr (by simp) hlen
 simpa using this
def kI(kd:IntKind)(a:Int):Value:=.int kd a
theorem ei(kd:IntKind)(a b:Int):Instr.sameNow (.int kd) (kI kd a) (kI kd b)=some (decide (a=b)):=by
 simp only[Instr.sameNow,kI,if_true,Option.some.injEq]
 rw[Bool.eq_iff_iff];simp
theorem mY(kd:IntKind)(a:Int):Instr.sameBits 10000 (kI kd a) (kI kd a)=true:=by simp[Instr.sameBits,kI]
theorem aH.look{κ β:Type}[DecidableEq κ]{ke:κ→Value}{vr:Value→β→Prop}{es:Array MapEntry}{ck b:Nat}{m:List (κ×β)}{kd:TypeDesc}{zero:Value}{ok:Bool}{k:κ}{K:Value→Prop}(hk:∀a b,Instr.sameNow kd (ke a) (ke b)=some (decide (a=b)))(h:aH ke vr es ck m)(hm:(b,Obj.map es ck)∈H)
 (h1:∀x v,aU m k=some x→vr v x→K (cond ok (.tuple #[v,.bool true]) v))(h2:aU m k=none→K (cond ok (.tuple #[zero,.bool false]) zero)):fU kd zero ok H (.map (some b)) (ke k) K:=by
 cases hx:aU m k with
 |none=>exact h.vw hk hm hx (h2 hx)
 |some x=>exact h.hit hk hm hx fun v hv=>h1 x v hx hv
end
end Go.Sx
set_option maxRecDepth 100000
namespace Go.Proofs
open Go Go.Sx
open aq
section
variable {B:Hp}
abbrev i64(a:Int):Value:=.int .i64 a
abbrev iY(e h:Int)(n:Nat)(t:Int):Value:=.agg #[i64 e,i64 h,u64 n,i64 t]
theorem b6(e h:Int)(n:Nat)(t:Int):∀u∈[i64 e,i64 h,u64 n,i64 t],u.oneCell'=true:=fun u hu=>by
 simp only[List.mem_cons,List.not_mem_nil,or_false]at hu
 rcases hu with rfl|rfl|rfl|rfl<;>rfl
theorem cF(e:Int)(B:Hp):Rd Tryz.prog 41 #[i64 e] B (· =iY e (-1) 0 0):=by
 refine aX fun g=>ux ?_
 intro b1 _
 refine Build.mk (cs:=[i64 e,i64 (-1),u64 0,i64 0]) (by kernel_rfl) ?_
 refine St.p (b6 _ _ _ _) ?_
 refine aB.q ?_
 exact bF.mk .tail rfl
theorem nD(n:Nat)(e:Int)(B:Hp):Rd Tryz.prog 143 #[u64 n,i64 e] B (· =if e=0 then iY 0 (-1) n 0 else iY e (-1) 0 0):=by
 refine aX fun g=>rD ?_
 intro b1 _
 refine ae.neq ?_
 by_cases he:e=0
 ·subst he
  refine Br.D3 rfl ?_
  refine Build.mk (cs:=[i64 0,i64 (-1),u64 n,i64 0]) (by kernel_rfl) ?_
  refine St.p (b6 _ _ _ _) ?_
  refine aB.q ?_
  exact bF.mk .tail rfl
 ·refine Br.zV (by simpa using he) ?_
  refine aa.eq (cF e _) ?_
  refine St.p (r:=[i64 e,i64 (-1),u64 0,i64 0]) (b6 _ _ _ _) ?_
  refine aB.q ?_
  exact bF.mk .tail (by rw[if_neg he])
theorem xM(b:Bool)(B:Hp):Rd Tryz.prog 145 #[.bool b] B (· =u64 b.toNat):=by
 refine aX fun g=>rB ?_
 cases b
 ·exact Br.no (bF.mk (.refl _) rfl)
 ·exact Br.yes (bF.mk (.refl _) rfl)
structure dJ where
 op:Nat
 a:Int
 b:Int
 c:Int
 x:Nat
def dJ.cells(s:dJ):List Value:=[.int .u8 (s.op:Int),i64 s.a,i64 s.b,i64 s.c,u64 s.x]
abbrev dJ.v(s:dJ):Value:=.agg s.cells.toArray
theorem dJ.one(s:dJ):∀u∈s.cells,u.oneCell'=true:=fun u hu=>by
 simp only[dJ.cells,List.mem_cons,List.not_mem_nil,or_false]at hu
 rcases hu with rfl|rfl|rfl|rfl|rfl<;>rfl
structure dJ.Ok(s:dJ):Prop where
 op:s.op<256
 a: -9223372036854775808≤s.a∧s.a≤9223372036854775807
 b: -9223372036854775808≤s.b∧s.b≤9223372036854775807
 c: -9223372036854775808≤s.c∧s.c≤9223372036854775807
 x:s.x<18446744073709551616
structure Cf where
 n:Nat
 cap:Nat
 str:Nat
 gr:Nat
 rs:Nat
def Cf.cells(c:Cf):List Value:=[i64 c.n,i64 c.cap,.int .u8 (c.str:Int),i64 c.gr,i64 c.rs]
abbrev nG(sp:Nat)(c:Cf)(kp mb nx:Nat):Nat×Obj:=(sp,.cells (c.cells++[ptr kp,.map (some mb),i64 (nx:Int)]).toArray 90 (0,0))
structure fx(kp nx:Nat)(c:Cf)(K:Kd)(S:Nat→aq.Fn)(ord af tr:List Nat)(hs:List (Int×Nat))(es:Array MapEntry)(ck:Nat)(C:Hp):Prop where
 ks:ct kp K S ord af tr C
 n:K.n=c.n
 cap:K.cap=c.cap
 gK:aH (kI .i64) (fun v (r:Nat)=>v=u32 r) es ck hs
 live:∀p∈hs,live K.N p.2
 hold:∀r,K.hold r=if 2≤r then(hs.map Prod.snd).count r else 0
 lt:∀p∈hs,0≤p.1∧p.1<nx
abbrev gS(sp:Nat)(c:Cf)(kp mb nx:Nat)(es:Array MapEntry)(ck:Nat)(C:Hp):Hp:=nG sp c kp mb nx::(mb,.map es ck)::C
end
section
variable {sp kp mb nx:Nat} {c:Cf} {K:Kd} {S:Nat→aq.Fn} {ord af tr:List Nat} {hs:List (Int×Nat)} {es:Array MapEntry} {ck:Nat} {C:Hp}
theorem eH(h:fx kp nx c K S ord af tr hs es ck C)(a:Int):Rd Tryz.prog 133 #[ptr sp,i64 a] (gS sp c kp mb nx es ck C) (· =.bool (aU hs a).isSome):=by
 refine aX fun g=>rE ?_
 refine Ld.n (v:=.map (some mb)) ?_
 refine h.gK.look (k:=a) (ei _) (by exact .tail _ (.head _)) (fun x v hx hv=>?_) (fun hx=>?_)
 ·exact Ext.two (bF.mk (.refl _) (by rw[hx];rfl))
 ·exact Ext.two (bF.mk (.refl _) (by rw[hx];rfl))
theorem nu(a:Int):Rd Tryz.prog 132 #[ptr sp,i64 a] (gS sp c kp mb nx es ck C) (· =.bool (decide (0≤a∧a<c.n))):=by
 refine aX fun g=>rF ?_
 refine ae.geq ?_
 refine cW.and (a:=decide (0≤a)) (decide (a<c.n)) (fun _=>?_) rfl fun _=>?_
 ·refine Nil.ptr (aj.mk (Ld.f (v:=i64 c.n) ?_))
  exact ae.lss ⟨rfl,rfl⟩
 ·exact bF.mk (.refl _) (by rw[←Bool.decide_and])
theorem r5(a:Int)(B:Hp):Rd Tryz.prog 131 #[i64 a] B (· =.bool (decide (a=0∨a=1))):=by
 refine aX fun g=>rG ?_
 refine ae.eql ?_
 refine cW.or (a:=a==0) (a==1) (fun _=>ae.eql ⟨rfl,rfl⟩) rfl fun _=>?_
 refine bF.mk (.refl _) ?_
 rw[Bool.decide_or];rfl
def pY(w:Nat)(x:dJ):Bool:=decide (w&&&32≠0) && !decide (x.a=0∨x.a=1)
def tN(w:Nat)(x:dJ):Bool:=decide (w&&&64≠0) && !decide (x.c=0∨x.c=1)
def pw(n w:Nat)(x:dJ):Bool:=decide (w&&&8≠0) && !decide (0≤x.a∧x.a<n)
def pq(n w:Nat)(x:dJ):Bool:=decide (w&&&16≠0) && !decide (0≤x.b∧x.b<n)
def xX(n w:Nat)(x:dJ):Bool:=decide (w&&&128≠0) &&decide (x.x>>>n≠0)
def kC(hs:List (Int×Nat))(w:Nat)(x:dJ):Bool:=decide (w&&&1≠0) && !(aU hs x.a).isSome
def kB(hs:List (Int×Nat))(w:Nat)(x:dJ):Bool:=decide (w&&&2≠0) && !(aU hs x.b).isSome
def mm(hs:List (Int×Nat))(w:Nat)(x:dJ):Bool:=decide (w&&&4≠0) && !(aU hs x.c).isSome
def ed(n:Nat)(hs:List (Int×Nat))(w:Nat)(x:dJ):Int:=
 if(pY w x||tN w x)=true then 1 else if(pw n w x||pq n w x||xX n w x)=true then 2 else if(kC hs w x||kB hs w x||mm hs w x)=true then 3 else 0
theorem ae.has{w m:Nat}{k:Value→Prop}(hw:w<256)(hm:m<256)(h:k (.bool (decide (w&&&m≠0)))):ae .num .and (.int .u8 (w:Int)) (.int .u8 (m:Int)) fun v=>ae .num .neq v (.int .u8 0) k:=by
 refine ae.yY (by simpa[cO]using hw) (by simpa[cO]using hm) (ae.neq ?_)
 have:(((w&&&m:Nat):Int) !=0)=decide (w&&&m≠0):=by
  rw[Bool.eq_iff_iff];simp
 rw[this];exact h
theorem look_ok(h:fx kp nx c K S ord af tr hs es ck C){x:dJ}{w:Nat}(hw:w<256)(hx:x.x<18446744073709551616):Rd Tryz.prog 83 #[ptr sp,x.v,.int .u8 (w:Int)] (gS sp c kp mb nx es ck C) (· =i64 (ed c.n hs w x)):=by
 refine aX fun g=>ue ?_
 intro b1 _ J3 h3
 have wD:∀b:Bool,(pY w x||tN w x)=b→J3 [.bool b] ((b1,.cells (Value.cells x.v) 35 (0,0))::gS sp c kp mb nx es ck C):=fun b hb=>by
  refine h3 _ _ fun _=>?_
  cases b
  rotate_left
  ·exact Br.yes (bF.mk .tail (by unfold ed;rw[if_pos hb]))
  refine Br.no ?_
  intro J7 h7
  have wC:∀b:Bool,(pw c.n w x||pq c.n w x||xX c.n w x)=b→J7 [.bool b] ((b1,.cells (Value.cells x.v) 35 (0,0))::gS sp c kp mb nx es ck C):=fun b' hb'=>by
   refine h7 _ _ fun _=>?_
   cases b'
   rotate_left
   ·exact Br.yes (bF.mk .tail (by unfold ed;rw[hb,if_neg (by decide),if_pos hb']))
   refine Br.no ?_
   intro I5 Iz
   have sx:∀b:Bool,(kC hs w x||kB hs w x||mm hs w x)=b→I5 [.bool b] ((b1,.cells (Value.cells x.v) 35 (0,0))::gS sp c kp mb nx es ck C):=fun b2 nm=>by
    refine Iz _ _ fun _=>?_
    cases b2
    ·exact Br.no (bF.mk .tail (by unfold ed;rw[hb,hb',nm];rfl))
    ·exact Br.yes (bF.mk .tail (by unfold ed;rw[hb,hb',if_neg (by decide),if_neg (by decide),if_pos nm]))
   intro I3 Iy
   have F5:∀b:Bool,kC hs w x=b→I3 [.bool b] ((b1,.cells (Value.cells x.v) 35 (0,0))::gS sp c kp mb nx es ck C):=fun b2 nm=>by
    refine Iy _ _ fun _=>?_
    cases b2
    rotate_left
    ·exact Br.yes (JE.mk (sx true (by rw[nm];rfl)))
    refine Br.no ?_
    intro DP Ix
    have F3:∀b:Bool,kB hs w x=b→DP [.bool b] ((b1,.cells (Value.cells x.v) 35 (0,0))::gS sp c kp mb nx es ck C):=fun b3 A8=>by
     refine Ix _ _ fun _=>?_
     cases b3
     rotate_left
     ·exact Br.yes (JE.mk (sx true (by rw[A8,Bool.or_true];rfl)))
     refine Br.no ?_
     refine ae.has (m:=4) hw (by decide) ?_
     refine Split.mk (fun e=>?_) (fun e=>?_)
     ·refine Ld.f (v:=i64 x.c) ?_
      refine aa.eq (eH h x.c) ?_
      refine Un.not (ax.mk (JE.mk (sx _ ?_)))
      rw[nm,A8];unfold mm;rw[e];rfl
     ·refine ax.mk (JE.mk (sx false ?_))
      rw[nm,A8];unfold mm;rw[e];rfl
    refine ae.has (m:=2) hw (by decide) ?_
    refine Split.mk (fun e=>?_) (fun e=>?_)
    ·refine Ld.f (v:=i64 x.b) ?_
     refine aa.eq (eH h x.b) ?_
     refine Un.not (ax.mk (JE.mk (F3 _ ?_)))
     unfold kB;rw[e];rfl
    ·refine ax.mk (JE.mk (F3 false ?_))
     unfold kB;rw[e];rfl
   refine ae.has (m:=1) hw (by decide) ?_
   refine Split.mk (fun e=>?_) (fun e=>?_)
   ·refine Ld.f (v:=i64 x.a) ?_
    refine aa.eq (eH h x.a) ?_
    refine Un.not (ax.mk (JE.mk (F5 _ ?_)))
    unfold kC;rw[e];rfl
   ·refine ax.mk (JE.mk (F5 false ?_))
    unfold kC;rw[e];rfl
  intro IW GA
  have FY:∀b:Bool,pw c.n w x=b→IW [.bool b] ((b1,.cells (Value.cells x.v) 35 (0,0))::gS sp c kp mb nx es ck C):=fun b2 nm=>by
   refine GA _ _ fun _=>?_
   cases b2
   rotate_left
   ·exact Br.yes (JE.mk (wC true (by rw[nm];rfl)))
   refine Br.no ?_
   intro IV Iu
   have FX:∀b:Bool,pq c.n w x=b→IV [.bool b] ((b1,.cells (Value.cells x.v) 35 (0,0))::gS sp c kp mb nx es ck C):=fun b3 A8=>by
    refine Iu _ _ fun _=>?_
    cases b3
    rotate_left
    ·exact Br.yes (JE.mk (wC true (by rw[A8,Bool.or_true];rfl)))
    refine Br.no ?_
    refine ae.has (m:=128) hw (by decide) ?_
    refine cW.and (decide (x.x>>>c.n≠0)) (fun _=>?_) rfl fun gs=>?_
    ·refine Ld.f (v:=u64 x.x) ?_
     refine Nil.ptr (aj.mk (Ld.f (v:=i64 c.n) ?_))
     refine ae.pg (by simpa[cO]using hx) (ae.neq ⟨rfl,?_⟩)
     congr 1
     generalize x.x>>>c.n=y
     rw[Bool.eq_iff_iff];simp
    ·refine JE.mk (wC _ ?_)
     rw[nm,A8];rfl
   refine ae.has (m:=16) hw (by decide) ?_
   refine Split.mk (fun e=>?_) (fun e=>?_)
   ·refine Ld.f (v:=i64 x.b) ?_
    refine aa.eq (nu x.b) ?_
    refine Un.not (ax.mk (JE.mk (FX _ ?_)))
    unfold pq;rw[e];rfl
   ·refine ax.mk (JE.mk (FX false ?_))
    unfold pq;rw[e];rfl
  refine ae.has (m:=8) hw (by decide) ?_
  refine Split.mk (fun e=>?_) (fun e=>?_)
  ·refine Ld.f (v:=i64 x.a) ?_
   refine aa.eq (nu x.a) ?_
   refine Un.not (ax.mk (JE.mk (FY _ ?_)))
   unfold pw;rw[e];rfl
  ·refine ax.mk (JE.mk (FY false ?_))
   unfold pw;rw[e];rfl
 intro IU Is
 have FW:∀b:Bool,pY w x=b→IU [.bool b] ((b1,.cells (Value.cells x.v) 35 (0,0))::gS sp c kp mb nx es ck C):=fun b hb=>by
  refine Is _ _ fun _=>?_
  cases b
  rotate_left
  ·exact Br.yes (JE.mk (wD true (by rw[hb];rfl)))
  refine Br.no ?_
  refine ae.has (m:=64) hw (by decide) ?_
  refine Split.mk (fun e=>?_) (fun e=>?_)
  ·refine Ld.f (v:=i64 x.c) ?_
   refine bj.of rfl (by kernel_rfl) ?_
   refine aa.eq (args:=#[i64 x.c]) (r5 x.c _) ?_
   refine Un.not (ax.mk (JE.mk (wD _ ?_)))
   rw[hb];unfold tN;rw[e];rfl
  ·refine ax.mk (JE.mk (wD false ?_))
   rw[hb];unfold tN;rw[e];rfl
 refine ae.has (m:=32) hw (by decide) ?_
 refine Split.mk (fun e=>?_) (fun e=>?_)
 ·refine Ld.f (v:=i64 x.a) ?_
  refine bj.of rfl (by kernel_rfl) ?_
  refine aa.eq (args:=#[i64 x.a]) (r5 x.a _) ?_
  refine Un.not (ax.mk (JE.mk (FW _ ?_)))
  unfold pY;rw[e];rfl
 ·refine ax.mk (JE.mk (FW false ?_))
  unfold pY;rw[e];rfl
end
end Go.Proofs
set_option maxRecDepth 100000
namespace Go.Proofs
open Go Go.Sx
open aq
section
theorem n8{n:Int}(hn:n<0∨64<n)(B:Hp):Rd Tryz.prog 68 #[.int .i64 n] B (· =.tuple #[.slice none 0 0,.int .i64 1]):=by
 refine aX fun g=>my ?_
 refine ae.lss ?_
 refine cW.or (a:=decide (n<0)) (decide (64<n)) (fun _=>ae.gtr ⟨rfl,rfl⟩) rfl fun _=>?_
 rw[←Bool.decide_or,decide_eq_true hn]
 exact Br.yes (bF.mk (.refl _) rfl)
theorem Ac{n cap:Int}(hb:n<1∨64<n∨cap<2∨1048576<cap):Rd Tryz.prog 40 #[i64 n,i64 cap] [] (· =.tuple #[.pointer none,i64 1]):=by
 refine aX fun g=>mA ?_
 by_cases hn:n<0∨64<n
 ·refine aa.eq (n8 hn _) ?_
  refine Ext.two ?_
  refine ae.ep ?_
  refine cW.or true (fun h=>absurd h (by decide)) rfl fun gs=>?_
  refine cW.or true (fun h=>absurd h (by decide)) rfl fun gs=>?_
  refine cW.or true (fun h=>absurd h (by decide)) rfl fun gs=>Br.yes ?_
  exact bF.mk (.refl _) rfl
 ·obtain⟨m,rfl⟩:∃m:Nat,n=m:=⟨n.toNat,by omega⟩
  refine aa.fq (jh (n:=m) (by omega)) ?_
  rintro v CO ⟨s,rfl,hO⟩
  refine Ext.two ?_
  refine ae.ep ?_
  refine cW.or (decide ((m:Int)<1)) (fun _=>ae.lss ⟨rfl,rfl⟩) rfl fun gs=>?_
  refine cW.or (decide (cap<2)) (fun _=>ae.lss ⟨rfl,rfl⟩) rfl fun gs=>?_
  refine cW.or (decide (1048576<cap)) (fun _=>ae.gtr ⟨rfl,rfl⟩) rfl fun gs=>?_
  refine Br.zV (by simp only[Bool.or_eq_true,decide_eq_true_eq];omega) ?_
  exact bF.mk (fun _ _ h=>h.bu) rfl
structure kT where
 n:Int
 cap:Int
 str:Nat
 gr:Int
 rs:Int
def kT.cells(c:kT):List Value:=[i64 c.n,i64 c.cap,.int .u8 (c.str:Int),i64 c.gr,i64 c.rs]
theorem kT.one(c:kT):∀u∈c.cells,u.oneCell'=true:=fun u hu=>by
 simp only[kT.cells,List.mem_cons,List.not_mem_nil,or_false]at hu
 rcases hu with rfl|rfl|rfl|rfl|rfl<;>rfl
def cc(c:kT):Bool:=decide (6<c.str)||decide (c.gr<100)||decide (1000<c.gr)||decide (c.rs<0)||decide (16<c.rs)
def bT(c:kT):Bool:=decide (c.n<1∨64<c.n∨c.cap<2∨1048576<c.cap)
def bU(c:kT):Int:=if cc c=true then 1 else if bT c=true then 1 else if c.str=6∧12<c.n then 6 else 0
structure Cf.Ok(c:Cf):Prop where
 n:1≤c.n∧c.n≤64
 cap:2≤c.cap∧c.cap≤1048576
 str:c.str≤6
 gr:100≤c.gr∧c.gr≤1000
 rs:c.rs≤16
 ex:c.str=6→c.n≤12
def Cf.i(c:Cf):kT:=⟨c.n,c.cap,c.str,c.gr,c.rs⟩
theorem x4{c:kT}(h:bU c=0):∃d:Cf,c=d.i∧d.Ok:=by
 unfold bU at h
 split at h
 ·cases h
 rename_i h1
 split at h
 ·cases h
 rename_i h2
 split at h
 ·cases h
 rename_i h3
 simp only[cc,bT,Bool.or_eq_true,decide_eq_true_eq]at h1 h2
 obtain⟨n,cap,str,gr,rs⟩:=c
 simp only at h1 h2 h3
 exact⟨⟨n.toNat,cap.toNat,str,gr.toNat,rs.toNat⟩,by simp only[Cf.i,kT.mk.injEq];exact⟨by omega,by omega,trivial,by omega,by omega⟩,⟨by simp only;omega,by simp only;omega,by simp only;omega,by simp only;omega,by simp only;omega,fun e=>by simp only at e⊢;omega⟩⟩
theorem nE(c:kT){Q:Value→Hp→Prop}(hno:bU c≠0→Q (.tuple #[.pointer none,i64 (bU c)]) [])
 (hok:∀d:Cf,c=d.i→d.Ok→∀(sp kp mb:Nat) (C:Hp),ct kp (K0 d.n d.cap) S0 (List.range d.n) (List.range d.n) [] C→Q (.tuple #[ptr sp,i64 0]) (gS sp d kp mb 0 #[] 0 C)):
  Fc Tryz.prog 14 #[.agg c.cells.toArray] [] Q:=by
 refine aX fun g=>uE ?_
 intro b1 _ J3 h3
 have jt:cc c=true→J3 [.bool true] [(b1,.cells (Value.cells (.agg c.cells.toArray)) 23 (0,0))]:=fun hb=>by
  refine h3 _ _ fun _=>Br.yes ?_
  have e:bU c=1:=by unfold bU;rw[if_pos hb]
  rw[e]at hno
  exact aY.mk .tail (hno (by decide))
 have jf:cc c=false→J3 [.bool false] [(b1,.cells (Value.cells (.agg c.cells.toArray)) 23 (0,0))]:=fun hb=>by
  refine h3 _ _ fun _=>Br.no ?_
  refine Ld.f (v:=i64 c.n) ?_
  refine Ld.f (v:=i64 c.cap) ?_
  cases nm:bT c
  rotate_left
  ·refine aa.eh hnew (Ac (by simpa[bT]using nm)) ?_
   refine Ext.two ?_
   refine ae.ep (Br.T ?_)
   have e:bU c=1:=by unfold bU;rw[hb,if_neg (by decide),if_pos nm]
   rw[e]at hno
   exact aY.mk .tail (hno (by decide))
  ·simp only[bT,decide_eq_false_iff_not]at nm
   simp only[cc,Bool.or_eq_false_iff,decide_eq_false_iff_not]at hb
   obtain⟨m,hm⟩:∃m:Nat,c.n=m:=⟨c.n.toNat,by omega⟩
   obtain⟨q,hq⟩:∃q:Nat,c.cap=q:=⟨c.cap.toNat,by omega⟩
   rw[hm,hq]
   refine aa.fn hnew (Ab (n:=m) (cap:=q) (by omega) (by omega)) ?_
   rintro w C ⟨kp,rfl,hK⟩
   refine Ext.two ?_
   refine ae.ep (Br.F ?_)
   refine Ld.u (v:=.int .u8 (c.str:Int)) (List.mem_append_right _ (.head _)) ?_
   refine ae.lg (b:=6) ?_
   refine cW.and (decide (12<c.n)) (fun _=>?_) rfl fun gs=>?_
   ·exact Ld.u (v:=i64 c.n) (List.mem_append_right _ (.head _)) (ae.gtr ⟨rfl,rfl⟩)
   rw[←Bool.decide_and]
   refine Br.dec (fun h6=>?_) (fun h6=>?_)
   ·have e:bU c=6:=by
     unfold bU
     rw[if_neg (by simp only[cc,Bool.or_eq_true,decide_eq_true_eq];omega),if_neg (by simp only[bT,decide_eq_true_eq];omega),if_pos h6]
    rw[e]at hno
    exact aY.mk (fun _ _ h=>h.bu) (hno (by decide))
   ·have e:bU c=0:=by
     unfold bU
     rw[if_neg (by simp only[cc,Bool.or_eq_true,decide_eq_true_eq];omega),if_neg (by simp only[bT,decide_eq_true_eq];omega),if_neg h6]
    obtain⟨d,rfl,hd⟩:=x4 e
    have em:m=d.n:=by simp only[Cf.i]at hm;omega
    have eq:q=d.cap:=by simp only[Cf.i]at hq;omega
    subst em eq
    refine aB.whole (r:=d.i.cells) (List.mem_append_right _ (.head _)) rfl ?_
    intro mb _
    refine Build.mk (cs:=d.cells++[ptr kp,.map (some mb),i64 ((0:Nat):Int)]) (by kernel_rfl) ?_
    intro sp _
    refine aY.mk ?_ (hok d rfl hd sp kp mb C hK)
    exact .cons (.cons .left)
 refine Ld.f (v:=.int .u8 (c.str:Int)) ?_
 refine ae.og (b:=6) (Br.dec (fun h=>by rw[decide_eq_true h];exact JE.mk (jt (by simp[cc,h]))) (fun h1=>?_))
 refine Ld.f (v:=i64 c.gr) ?_
 refine ae.lss (Br.dec (fun h=>by rw[decide_eq_true h];exact JE.mk (jt (by simp[cc,h]))) (fun h2=>?_))
 refine Ld.f (v:=i64 c.gr) ?_
 refine ae.gtr (Br.dec (fun h=>by rw[decide_eq_true h];exact JE.mk (jt (by simp[cc,h]))) (fun pM=>?_))
 refine Ld.f (v:=i64 c.rs) ?_
 refine ae.lss (Br.dec (fun h=>by rw[decide_eq_true h];exact JE.mk (jt (by simp[cc,h]))) (fun h4=>?_))
 refine Ld.f (v:=i64 c.rs) ?_
 refine ae.gtr ?_
 cases hb:decide (16<c.rs)
 ·exact JE.mk (jf (by simp only[cc,hb,decide_eq_false h1,decide_eq_false h2,decide_eq_false pM,decide_eq_false h4];rfl))
 ·exact JE.mk (jt (by simp only[cc,hb,Bool.or_true]))
end
section
variable {sp kp mb nx:Nat} {c:Cf} {K:Kd} {S:Nat→aq.Fn} {ord af tr:List Nat} {hs:List (Int×Nat)} {es:Array MapEntry} {ck:Nat} {C:Hp}
theorem vq{κ β:Type}[DecidableEq κ]{m:List (κ×β)}{k:κ}{x:β}(h:k∉m.map Prod.fst):dV m k x=m++[(k,x)]:=by
 unfold dV;rw[if_neg h]
theorem tv(hE:aH (kI .i64) (fun v (r:Nat)=>v=u32 r) es ck hs)(hk:(nx:Int)∉hs.map Prod.fst)(Ao:nx+1<9223372036854775808)(r:Nat)(t:Int):
  Fc Tryz.prog 84 #[ptr sp,u32 r,i64 t] (gS sp c kp mb nx es ck C) (fun v H=>v=iY 0 nx 0 t∧∃es' cY,H=gS sp c kp mb (nx+1) es' cY C∧aH (kI .i64) (fun v (r:Nat)=>v=u32 r) es' cY (hs++[((nx:Int),r)])):=by
 refine aX fun g=>ud ?_
 intro b1 _
 refine Ld.n (v:=i64 (nx:Int)) ?_
 refine Ld.n (v:=i64 (nx:Int)) ?_
 refine ae.inc ?_
 refine Nil.ptr (aj.mk (St.one (c':=(c.cells++[ptr kp,.map (some mb),i64 ((nx+1:Nat):Int)]).toArray) (by exact .tail (.head _)) rfl (by simp[Cf.cells]) rfl ?_))
 refine Ld.n (v:=.map (some mb)) ?_
 refine hE.aP (k:=(nx:Int)) (b:=mb) (x:=r) (ei _) (mY _) rfl fun es' cY he=>⟨_,.tail (.tail (.head _)),?_⟩
 rw[vq hk]at he
 refine Build.mk (cs:=[i64 0,i64 (nx:Int),u64 0,i64 t]) (by kernel_rfl) ?_
 refine St.p (b6 _ _ _ _) ?_
 refine aB.q ?_
 exact aY.mk .tail ⟨rfl,es',cY,rfl,he⟩
def eZ(op:Nat):Option (Nat×Nat):=
 if op=11 then some (21,82)else if op=10 then some (129,81)else if op=9 then some (129,80)else if op=8 then some (81,79)else
 if op=7 then some (7,78)else if op=6 then some (3,77)else if op=5 then some (3,76)else if op=4 then some (3,75)else
 if op=3 then some (1,74)else if op=2 then some (32,73)else if op=1 then some (8,72)else none
def rX(p:Nat×Nat):List Value:=[.int .u8 (p.1:Int),.func (.func p.2) #[] #[]]
theorem s6:Fc Tryz.prog 42 #[] [] (fun v H=>∃b es ck m,v=.map (some b)∧H=[(b,.map es ck)]∧aH (kI .u8) (fun v (p:Nat×Nat)=>v=.agg (rX p).toArray) es ck m∧∀op:Nat,aU m (op:Int)=eZ op):=by
 refine aX fun g=>uw ?_
 intro b _
 have aP:∀{k:Int} {p:Nat×Nat} {es:Array MapEntry} {ck:Nat} {m:List (Int×(Nat×Nat))} {Q:Hp→Prop},aH (kI .u8) (fun v (p:Nat×Nat)=>v=.agg (rX p).toArray) es ck m→(∀es' cY,aH (kI .u8) (fun v (p:Nat×Nat)=>v=.agg (rX p).toArray) es' cY (dV m k p)→Q [(b,.map es' cY)])→
   Build Tryz.prog 95 [(0,.int .u8 (p.1:Int)),(1,.func (.func p.2) #[] #[])] fun v=>aN (.int .u8) [(b,.map es ck)] (.map (some b)) (kI .u8 k) v Q:=fun{k p es ck m Q} he hq=>by
  refine Build.mk (cs:=rX p) (by kernel_rfl) ?_
  exact aH.aP (ei _) (mY _) he rfl fun es' cY he'=>⟨_,.head _,hq es' cY he'⟩
 refine aP (k:=1) (p:=(8,72)) aH.empty fun _ _ h=>?_
 refine aP (k:=2) (p:=(32,73)) h fun _ _ h=>?_
 refine aP (k:=3) (p:=(1,74)) h fun _ _ h=>?_
 refine aP (k:=4) (p:=(3,75)) h fun _ _ h=>?_
 refine aP (k:=5) (p:=(3,76)) h fun _ _ h=>?_
 refine aP (k:=6) (p:=(3,77)) h fun _ _ h=>?_
 refine aP (k:=7) (p:=(7,78)) h fun _ _ h=>?_
 refine aP (k:=8) (p:=(81,79)) h fun _ _ h=>?_
 refine aP (k:=9) (p:=(129,80)) h fun _ _ h=>?_
 refine aP (k:=10) (p:=(129,81)) h fun _ _ h=>?_
 refine aP (k:=11) (p:=(21,82)) h fun _ _ h=>?_
 refine aY.mk (.refl _) ⟨b,_,_,_,rfl,rfl,h,fun op=>?_⟩
 simp only[bY]
 have:∀j:Nat,((op:Int)=(j:Int))=(op=j):=fun j=>propext (by omega)
 have e:=this 11;have e2:=this 10;have e3:=this 9;have e4:=this 8;have e5:=this 7;have e6:=this 6;have e7:=this 5;have e8:=this 4;have e9:=this 3;have Fm:=this 2;have CC:=this 1
 simp only[Int.cast_ofNat_Int]at*
 simp only[e,e2,e3,e4,e5,e6,e7,e8,e9,Fm,CC]
 rfl
end
section
variable {sp kp mb nx:Nat} {c:Cf} {K K':Kd} {S S':Nat→aq.Fn} {ord af di tr de o:List Nat} {hs:List (Int×Nat)} {es:Array MapEntry} {ck:Nat} {C C':Hp}
theorem Kept.const(hK:ct kp K S ord af tr C)(eP:ct kp K' S' o di de C')(r:Nat)(hr:r<2):S' r=S r:=by
  have h1:=hK.ok.mid.int
  have h2:=eP.ok.mid.int
  have:r=0∨r=1:=by omega
  rcases this with rfl|rfl
  · exact funext fun x=>by rw[h1.zero,h2.zero]
  · exact funext fun x=>by rw[h1.one,h2.one]
theorem fx.kept(h:fx kp nx c K S ord af tr hs es ck C)(eP:ct kp K' S' o di de C')(hk:Kept K S K' S'):fx kp nx c K' S' o di de hs es ck C'∧∀p∈hs,S' p.2=S p.2:=by
  have hh:∀p∈hs,2≤p.2→K.hold p.2≠0:=fun p hp h2=>by
    rw[h.hold,if_pos h2]
    exact Nat.ne_of_gt (List.count_pos_iff.2 (List.mem_map_of_mem hp))
  refine⟨⟨eP,hk.n.trans h.n,hk.cap.trans h.cap,h.gK,fun p hp=>?_,fun r=>by rw[hk.hold,h.hold],h.lt⟩,fun p hp=>?_⟩
  · by_cases h2:2≤p.2
    · exact .inr (eP.ok.mid.held p.2 (by rw[hk.hold];exact hh p hp h2))
    · exact .inl (by omega)
  · by_cases h2:2≤p.2
    · exact hk.fn _ (hh p hp h2)
    · exact Kept.const h.ks eP _ (by omega)
theorem fx.key(h:fx kp nx c K S ord af tr hs es ck C):(nx:Int)∉hs.map Prod.fst:=fun hm=>by
  obtain⟨p,hp,e⟩:=List.mem_map.1 hm
  have:=h.lt p hp
  omega
theorem fx.grow(h:fx kp nx c K S ord af tr hs es ck C){f:aq.Fn}{r:Nat}{es':Array MapEntry}{cY:Nat}(eP:ct kp K' S' o di de C')(hg:mG K S K' S' f r)(he:aH (kI .i64) (fun v (r:Nat)=>v=u32 r) es' cY (hs++[((nx:Int),r)])):
    fx kp (nx+1) c K' S' o di de (hs++[((nx:Int),r)]) es' cY C'∧∀p∈hs,S' p.2=S p.2:=by
  refine⟨⟨eP,hg.n.trans h.n,hg.cap.trans h.cap,he,fun p hp=>?_,fun s=>?_,fun p hp=>?_⟩,fun p hp=>hg.fn _ (h.live p hp)⟩
  · rcases List.mem_append.1 hp with hp|hp
    · exact gb hg.N (h.live p hp)
    · rw[List.mem_singleton.1 hp];exact hg.live
  · rw[hg.hold,h.hold,List.map_append,List.count_append]
    by_cases e:s=r
    · subst e
      by_cases h2:2≤s
      · simp[h2]
      · simp[h2]
    · have:List.count s (List.map Prod.snd [((nx:Int),r)])=0:=by
        simp only[List.map_cons,List.map_nil,List.count_eq_zero,List.mem_singleton]
        exact e
      have e2:(if s=r∧2≤r then 1 else 0)=0:=if_neg fun h=>e h.1
      rw[this,e2]
      split<;>rfl
  · rcases List.mem_append.1 hp with hp|hp
    · have:=h.lt p hp;omega
    · rw[List.mem_singleton.1 hp];simp only;omega
def qb(kp:Nat)(K:Kd)(S:Nat→aq.Fn)(ord af tr:List Nat)(f:aq.Fn)(T:Nat→Prop)(w:Value)(H:Hp):Prop:=
  (∃r K' S',w=.tuple #[u32 r,i64 0]∧ct kp K' S' ord af [] H∧mG K S K' S' f r∧T 0)∨
  (∃(e:Nat) (K':Kd) (S':Nat→aq.Fn) (de:List Nat),w=.tuple #[u32 0,i64 e]∧(e=8∨e=9)∧ct kp K' S' ord af de H∧(de=[]∨de=tr)∧Kept K S K' S'∧T e)
theorem qb.two{f:aq.Fn}{T:Nat→Prop}{w:Value}{H:Hp}(h:qb kp K S ord af tr f T w H):∃x y,w=.tuple #[x,y]:=by
  rcases h with⟨r,_,_,rfl,_⟩|⟨e,_,_,_,rfl,_⟩
  · exact⟨_,_,rfl⟩
  · exact⟨_,_,rfl⟩
inductive mu(T:List Nat→Nat→Prop)(R:List Nat→List Nat→Prop)(o:List Nat):Nat→List Nat→Prop
  |one:mu T R o 1 o
  |more {t:Nat} {p ls:List Nat}:mu T R o t p→T p 9→R p ls→mu T R o (t+1) (o8 p ls)
def sH(sp kp mb nx:Nat)(c:Cf)(S:Nat→aq.Fn)(sz:List Nat→Nat)(ord tr:List Nat)(hs:List (Int×Nat))(f:aq.Fn)(T:List Nat→Nat→Prop)(R:List Nat→List Nat→Prop)(v:Value)(H:Hp):Prop:=
  ∃(t:Nat) (o di de:List Nat) (K':Kd) (S':Nat→aq.Fn) (es':Array MapEntry) (cY:Nat) (C':Hp),t≤c.rs+1∧mu T R ord t o∧(∀p∈hs,S' p.2=S p.2)∧
    ((∃r,v=iY 0 nx 0 t∧H=gS sp c kp mb (nx+1) es' cY C'∧fx kp (nx+1) c K' S' o di de (hs++[((nx:Int),r)]) es' cY C'∧S' r=f∧T o 0∧de=[])∨
     (∃e:Nat,(e=8∨e=9)∧v=iY e (-1) 0 t∧H=gS sp c kp mb nx es' cY C'∧fx kp nx c K' S' o di de hs es' cY C'∧T o e∧(e=9→t=c.rs+1)∧de.length+8192*sz o≤tr.length+8192*sz ord))
theorem yb{f w:Nat}{x:dJ}{fn:aq.Fn}{T:List Nat→Nat→Prop}{R:List Nat→List Nat→Prop}(dF:aG Tryz.prog f=true)(h:fx kp nx c K S ord af tr hs es ck C)(hc:c.Ok)(Ao:nx+1<9223372036854775808)(hw:w<256)(hx:x.x<18446744073709551616)(hl:ed c.n hs w x=0)
   (sj:∀{K':Kd} {S':Nat→aq.Fn} {o di de:List Nat} {C':Hp},fx kp nx c K' S' o di de hs es ck C'→(∀p∈hs,S' p.2=S p.2)→Fc Tryz.prog f #[ptr sp,x.v] (gS sp c kp mb nx es ck C') (fun v H=>∃C2,H=gS sp c kp mb nx es ck C2∧qb kp K' S' o di de fn (T o) v C2))
   (hrun:∀{K':Kd} {S':Nat→aq.Fn} {o di de:List Nat} {C':Hp},T o 9→fx kp nx c K' S' o di de hs es ck C'→(∀p∈hs,S' p.2=S p.2)→de.length≤tr.length+8192*nZ K S ord→
      Fc Tryz.prog 85 #[ptr kp,.int .u8 (c.str:Int),i64 c.gr] C' (fun v H=>∃ls a b,v=.tuple #[a,b]∧R o ls∧At kp K' S' (o8 o ls) (de++ls) H∧ls.length+8192*nZ K' S' (o8 o ls)≤8192*nZ K' S' o)):
    Fc Tryz.prog 43 #[ptr sp,x.v,.agg (rX (w,f)).toArray] (gS sp c kp mb nx es ck C) (sH sp kp mb nx c S (nZ K S) ord tr hs fn T R):=by
  refine aX fun g=>mz ?_
  intro b1 _ b3 _ b5 _
  refine aB.q (r:=x.cells) ?_
  refine Ld.f (v:=.int .u8 (w:Int)) ?_
  refine aa.eq (look_ok h hw hx) ?_
  rw[hl]
  refine ae.ep (Br.F ?_)
  refine⟨fun vs H=>∃(t:Nat) (o di de:List Nat) (K':Kd) (S':Nat→aq.Fn) (C':Hp),vs=[i64 (t:Int)]∧t≤c.rs+1∧H=(b5,.cells #[i64 0,i64 0,u64 0,i64 0] 37 (0,0))::(b3,.cells (rX (w,f)).toArray 95 (0,0))::(b1,.cells x.cells.toArray 35 (0,0))::gS sp c kp mb nx es ck C'∧
      fx kp nx c K' S' o di de hs es ck C'∧Kept K S K' S'∧mu T R ord t o∧de.length+8192*nZ K S o≤tr.length+8192*nZ K S ord,fun vs _=>20-cj vs 0,JE.mk ⟨1,ord,af,tr,K,S,C,rfl,by omega,rfl,h,.refl _ _,.one,Nat.le_refl _⟩,?_⟩
  rintro w0 H ⟨t,o,By,DV,K1,S1,C1,⟨⟩,ht,rfl,h1,j7,hT,hb⟩ gs
  have Ju:=hc.rs
  have hsame:=(h.kept h1.ks j7).2
  refine Ld.f (v:=.func (.func f) #[] #[]) ?_
  refine aB.q (r:=x.cells) ?_
  refine bj.of rfl dF ?_
  refine aa.fq (args:=#[ptr sp,x.v]) (sj h1 hsame) ?_
  rintro w H ⟨C2,rfl,hQ⟩
  rcases hQ with⟨r,K2,S2,rfl,fw,hg,h0⟩|⟨e,K2,S2,oQ,rfl,he,fw,k9,jy,zD⟩
  · refine Ext.two ?_
    refine ae.iR (Br.T ?_)
    refine aa.fq (tv h1.gK h.key Ao r t) ?_
    rintro w H ⟨rfl,xx,xy,rfl,hE⟩
    refine St.p (r:=[i64 0,i64 nx,u64 0,i64 t]) (b6 _ _ _ _) ?_
    refine aB.q ?_
    obtain⟨h3,h4⟩:=h1.grow fw hg hE
    exact aY.mk (.skip (.skip .tail)) ⟨t,o,By,[],K2,S2,xx,xy,C2,ht,hT,fun p hp=>(h4 p hp).trans (hsame p hp),.inl ⟨r,rfl,rfl,h3,hg.is,h0,rfl⟩⟩
  · obtain⟨h3,h4⟩:=h1.kept fw jy
    have nm:oQ.length+8192*nZ K S o≤tr.length+8192*nZ K S ord:=by
      rcases k9 with rfl|rfl
      · rw[List.length_nil];omega
      · exact hb
    have fin:(e=9→t=c.rs+1)→sH sp kp mb nx c S (nZ K S) ord tr hs fn T R (iY e (-1) 0 t) (gS sp c kp mb nx es ck C2):=fun het=>
      ⟨t,o,By,oQ,K2,S2,es,ck,C2,ht,hT,fun p hp=>(h4 p hp).trans (hsame p hp),.inr ⟨e,he,rfl,rfl,h3,zD,het,nm⟩⟩
    refine Ext.two ?_
    refine ae.iR (Br.F ?_)
    refine ae.ep ?_
    refine cW.or (decide (c.rs<t)) (fun _=>?_) rfl fun gs=>?_
    · refine Nil.ptr (aj.mk (Ld.f (v:=i64 c.rs) ?_))
      exact ae.og ⟨rfl,rfl⟩
    rw[←Bool.decide_or]
    refine Br.dec (fun HN=>?_) (fun HN=>?_)
    · refine aa.eq (cF e _) ?_
      intro JN _
      refine St.p (r:=[i64 e,i64 (-1),u64 0,i64 0]) (b6 _ _ _ _) ?_
      refine aj.mk (St.one (c':=#[i64 e,i64 (-1),u64 0,i64 t]) (by exact .head _) rfl (by simp) rfl ?_)
      refine aB.q (r:=[i64 e,i64 (-1),u64 0,i64 t]) ?_
      refine St.p (b6 _ _ _ _) ?_
      refine aB.q ?_
      exact aY.mk (.skip (.skip (.skip .tail))) (fin fun _=>by omega)
    · have HY:e=9:=by omega
      subst HY
      refine DR.of (R:=(b5,.cells #[i64 0,i64 0,u64 0,i64 0] 37 (0,0))::(b3,.cells (rX (w,f)).toArray 95 (0,0))::(b1,.cells x.cells.toArray 35 (0,0))::gS sp c kp mb nx es ck C2) (.refl _) ?_
      refine Ld.n (v:=ptr kp) ?_
      refine Nil.ptr (aj.mk (Ld.f (v:=.int .u8 (c.str:Int)) ?_))
      refine Nil.ptr (aj.mk (Ld.f (v:=i64 c.gr) ?_))
      intro F
      refine aa.fq (hrun zD h3 (fun p hp=>(h4 p hp).trans (hsame p hp)) (by omega)) ?_
      rintro w2 H2 ⟨ls,a,b,rfl,hR,hA,hlen⟩
      refine ae.inc ?_
      obtain⟨K3,S3,D8,yF,gJ⟩:=hA
      obtain⟨h5,h6⟩:=h3.kept yF gJ
      rw[n6 (j7.trans jy),n6 (j7.trans jy)]at hlen
      refine av.mk ⟨t+1,o8 o ls,D8,oQ++ls,K3,S3,H2,rfl,by omega,rfl,h5,(j7.trans jy).trans gJ,.more hT zD hR,by rw[List.length_append];omega⟩ (by simp only[cj];omega)
end
section
def HF(L:List aq.Fn)(g:aq.Fn):Prop:=g∈L∧∃v,cU g v
noncomputable def pU(L:List aq.Fn)(f:aq.Fn):Nat:=L.countP fun g=> @decide (g=f) (Classical.propDecidable _)
def xe(L:List aq.Fn)(f:aq.Fn):Prop:=(∃v,cU f v)∧65535≤pU L f
def AO(n cap:Nat)(L:List aq.Fn)(f:aq.Fn)(ord:List Nat)(e:Nat):Prop:=
 (e=0∧Fits (aA n ord (fun g=>HF L g∨g=f)) cap∧¬xe L f)∨(e=9∧¬Fits (aA n ord (fun g=>HF L g∨g=f)) cap)∨(e=8∧xe L f)
def zJ(n cap:Nat)(L:List aq.Fn)(q:Bool)(mask:Nat)(f:aq.Fn)(ord:List Nat)(e:Nat):Prop:=
 e=0∨(e=9∧∃i,i<n∧mask.testBit i=true∧¬Fits (aA n ord (fun g=>(HF L g∨(bitsOf mask i≠[]∧g=za q (bitsOf mask i) f))∨g=qf q i (za q (bitsOf mask i) f))) cap)∨(e=8∧∃g,65534≤pU L g)
def CI(n cap:Nat)(L:List aq.Fn)(lo hi f:aq.Fn)(ord:List Nat)(e:Nat):Prop:=
 e=0∨(e=9∧(¬Fits (aA n ord (fun g=>HF L g∨g=lo)) cap∨¬Fits (aA n ord (fun g=>(HF L g∨g=lo)∨g=hi)) cap∨¬Fits (aA n ord (fun g=>((HF L g∨g=lo)∨g=hi)∨g=f)) cap))∨(e=8∧∃g,65533≤pU L g)
def gH(n:Nat)(F:Int→aq.Fn)(x:dJ):aq.Fn:=match x.op with
 |1=>fun y=>y.testBit x.a.toNat
 |2=>fun _=>decide (x.a=1)
 |3=>fun y=> !F x.a y
 |4=>fun y=>F x.a y&&F x.b y
 |5=>fun y=>F x.a y||F x.b y
 |6=>fun y=>F x.a y^^F x.b y
 |7=>fun y=>if F x.a y then F x.b y else F x.c y
 |8=>fun y=>F x.a (dQ.aQ y x.b.toNat (decide (x.c=1)))
 |9=>za true (bitsOf x.x n) (F x.a)
 |10=>za false (bitsOf x.x n) (F x.a)
 |_=>fun y=>if F x.c y then F x.a (dQ.aQ y x.b.toNat true)else F x.a (dQ.aQ y x.b.toNat false)
def po(n cap:Nat)(L:List aq.Fn)(F:Int→aq.Fn)(x:dJ)(ord:List Nat)(e:Nat):Prop:=
 if x.op=9 then zJ n cap L true x.x (F x.a) ord e else if x.op=10 then zJ n cap L false x.x (F x.a) ord e else
 if x.op=11 then CI n cap L (fun y=>F x.a (dQ.aQ y x.b.toNat false)) (fun y=>F x.a (dQ.aQ y x.b.toNat true)) (gH n F x) ord e else AO n cap L (gH n F x) ord e
def fL(S:Nat→aq.Fn)(hs:List (Int×Nat)):List aq.Fn:=hs.map fun p=>S p.2
def eo(S:Nat→aq.Fn)(hs:List (Int×Nat))(a:Int):aq.Fn:=match aU hs a with|some r=>S r|none=>fun _=>false
variable {sp kp mb nx:Nat} {c:Cf} {K K':Kd} {S S':Nat→aq.Fn} {ord af di tr de o:List Nat} {hs:List (Int×Nat)} {es:Array MapEntry} {ck:Nat} {C C':Hp}
theorem mI{n:Nat}{ord:List Nat}{f:aq.Fn}(hf:∀v,¬cU f v)(g:aq.Fn):¬aA n ord (fun g=>g=f) g:=by
 rintro⟨l,hl,hg,hh⟩
 rw[jE (l:=n) (fun j _=>hf _) l (by omega) g hg]at hh
 exact hf _ hh
theorem mG.CB{K':Kd}{S':Nat→aq.Fn}{f:aq.Fn}{x:Nat}{de:List Nat}{C':Hp}(h:mG K S K' S' f x)(hK:ct kp K S ord af tr C)(eP:ct kp K' S' ord af de C'):Fits (aA K.n ord (fun g=>K.held S g∨g=f)) K.cap:=by
 have hc:=eP.ok.size eP.od
 have hr:=eP.ok.mid.room
 have h2:=eP.ok.mid.cap
 rw[h.n]at hc
 refine Fits.mono (fun g hg=>?_) ⟨K'.used-2,hc,by rw[←h.cap];omega⟩
 have old:∀g,K.held S g→K'.held S' g:=fun g ⟨s,hs,e⟩=>⟨s,by show K'.hold s≠0;have:K.hold s≠0:=hs;rw[h.hold];omega,by rw[h.fn s (.inr (hK.ok.mid.held s hs)),e]⟩
 by_cases h2:2≤x
 ·refine c5 (fun g hg=>?_) hg
  rcases hg with hg|rfl
  ·exact old g hg
  ·exact⟨x,by show K'.hold x≠0;rw[h.hold,if_pos ⟨rfl,h2⟩];omega,h.is.symm⟩
 ·rcases(nR g).1 hg with hg|hg
  ·exact c5 old hg
  ·refine absurd hg (mI (fun v=>?_) g)
   rintro⟨y,hy⟩
   rw[←h.is]at hy
   have hi:=eP.ok.mid.int
   obtain rfl|rfl:x=0∨x=1:=by omega
   ·exact hy (by rw[hi.zero,hi.zero])
   ·exact hy (by rw[hi.one,hi.one])
theorem yM(h:∀p∈hs,S' p.2=S p.2):fL S' hs=fL S hs:=List.map_congr_left h
theorem gg{a:Int}{r:Nat}(h:aU hs a=some r):eo S hs a=S r:=by unfold eo;rw[h]
theorem fx.find(h:fx kp nx c K S ord af tr hs es ck C){a:Int}{r:Nat}(hm:aU hs a=some r):(a,r)∈hs:=(eB h.gK.nd).1 hm
theorem tA(j6:(hs.map Prod.fst).Nodup)(h:∀p∈hs,S' p.2=S p.2):eo S' hs=eo S hs:=funext fun a=>by
 unfold eo
 cases hm:aU hs a with
 |none=>rfl
 |some r=>exact h _ ((eB j6).1 hm)
theorem fb(hK:ct kp K S ord af tr C){r:Nat}(hl:live K.N r):2≤r↔∃v,cU (S r) v:=by
 constructor
 ·intro h2
  obtain⟨d,hd⟩:∃d,K.N r=some d:=by
   rcases hl with hl|hl
   ·omega
   ·exact hl
  exact⟨d.v,eW hK.ok.wf hK.ok.lv hK.ok.mid.int hd⟩
 ·rintro⟨v,y,hy⟩
  have hi:=hK.ok.mid.int
  by_cases h2:2≤r
  ·exact h2
  ·exfalso
   obtain rfl|rfl:r=0∨r=1:=by omega
   ·exact hy (by rw[hi.zero,hi.zero])
   ·exact hy (by rw[hi.one,hi.one])
theorem fx.same(h:fx kp nx c K S ord af tr hs es ck C){a b:Nat}(ha:aq.live K.N a)(hb:aq.live K.N b):S a=S b↔a=b:=
 ⟨fun e=>h.ks.ok.wf.same h.ks.ok.lv h.ks.ok.mid.int ha hb fun x=>congrFun e x,fun e=>by rw[e]⟩
theorem fx.held(h:fx kp nx c K S ord af tr hs es ck C):K.held S=HF (fL S hs):=funext fun g=>propext (by
 constructor
 ·rintro⟨s,hs0,rfl⟩
  have h0:K.hold s≠0:=hs0
  rw[h.hold]at h0
  by_cases h2:2≤s
  ·rw[if_pos h2]at h0
   obtain⟨p,hp,e⟩:=List.mem_map.1 (List.count_pos_iff.1 (Nat.pos_of_ne_zero h0))
   subst e
   exact⟨List.mem_map.2 ⟨p,hp,rfl⟩,(fb h.ks (h.live p hp)).1 h2⟩
  ·rw[if_neg h2]at h0;exact absurd rfl h0
 ·rintro⟨hm,hv⟩
  obtain⟨p,hp,rfl⟩:=List.mem_map.1 hm
  have h2:=(fb h.ks (h.live p hp)).2 hv
  refine⟨p.2,?_,rfl⟩
  show K.hold p.2≠0
  rw[h.hold,if_pos h2]
  exact Nat.ne_of_gt (List.count_pos_iff.2 (List.mem_map_of_mem hp)))
theorem fx.count(h:fx kp nx c K S ord af tr hs es ck C){r:Nat}(hr:aq.live K.N r)(h2:2≤r):K.hold r=pU (fL S hs) (S r):=by
 rw[h.hold,if_pos h2]
 unfold pU fL
 rw[List.countP_map,List.count,List.countP_map]
 refine List.countP_congr fun p hp=>?_
 have:=h.same (h.live p hp) hr
 simp only[Function.comp_apply,beq_iff_eq,decide_eq_true_eq]
 exact this.symm
theorem fx.full(h:fx kp nx c K S ord af tr hs es ck C){r:Nat}(hr:K.hold r=65535)(h2:2≤r):xe (fL S hs) (S r):=by
 have hl:aq.live K.N r:=.inr (h.ks.ok.mid.held r (by omega))
 exact⟨(fb h.ks hl).1 h2,by rw[←h.count hl h2,hr];exact Nat.le_refl _⟩
theorem fx.done(h:fx kp nx c K S ord af tr hs es ck C){f:aq.Fn}{w:Value}(hD:iA kp K S ord af tr f w C'):qb kp K S ord af tr f (AO K.n K.cap (fL S hs) f ord) w C':=by
 rcases hD with(⟨x,K',S',rfl,eP,hg⟩|⟨rfl,⟨K',S',de,eP,BE,hk⟩,hf⟩)|⟨rfl,⟨K',S',de,eP,BE,hk⟩,r,h2,hr,rfl⟩
 ·refine .inl ⟨x,K',S',rfl,eP,hg,.inl ⟨rfl,by rw[←h.held];exact hg.CB h.ks eP,?_⟩⟩
  rintro⟨hv,hc⟩
  have zj:2≤x:=(fb eP hg.live).2 (by rw[hg.is];exact hv)
  have hle:=eP.g9 x
  rw[hg.hold,if_pos ⟨rfl,zj⟩]at hle
  obtain⟨p,hp,e⟩:∃p∈hs,S p.2=f:=by
   have:0<pU (fL S hs) f:=by omega
   obtain⟨g,HU,HT⟩:=List.countP_pos_iff.1 this
   obtain⟨p,hp,rfl⟩:=List.mem_map.1 HU
   exact⟨p,hp,by simpa using HT⟩
  have Hz:p.2=x:=eP.ok.wf.same eP.ok.lv eP.ok.mid.int (gb hg.N (h.live p hp)) hg.live fun y=>by rw[hg.fn _ (h.live p hp),e,hg.is]
  subst Hz
  have:=h.count (h.live p hp) zj
  rw[e]at this
  omega
 ·exact .inr ⟨9,K',S',de,rfl,.inr rfl,eP,BE,hk,.inr (.inl ⟨rfl,by rw[←h.held];exact hf⟩)⟩
 ·exact .inr ⟨8,K',S',de,rfl,.inl rfl,eP,BE,hk,.inr (.inr ⟨rfl,h.full hr h2⟩)⟩
end
section
variable {sp kp mb nx:Nat} {c:Cf} {K:Kd} {S:Nat→aq.Fn} {ord af tr:List Nat} {hs:List (Int×Nat)} {es:Array MapEntry} {ck:Nat} {C:Hp} {x:dJ}
theorem tV(hK:ct kp K S ord af tr C){a b:Nat}(ha:live K.N a)(hb:live K.N b):Fc Tryz.prog 123 #[ptr kp,u32 a,u32 b] C (iA kp K S ord af tr (fun y=>S a y&&S b y)):=by
 refine aX fun g=>rH ?_
 refine aa.fq (nj hK (op:=8) (by decide) ha hb) ?_
 intro w H hD
 rw[show(fun y=>Bv 8 (S a y) (S b y))=fun y=>S a y&&S b y from funext fun y=>by cases S a y<;>cases S b y<;>rfl]at hD
 obtain⟨x,e,rfl⟩:=hD.two
 exact Ext.two (aY.here hD)
theorem jV{n w:Nat}(h:ed n hs w x=0):(pY w x=false∧tN w x=false)∧(pw n w x=false∧pq n w x=false∧xX n w x=false)∧(kC hs w x=false∧kB hs w x=false∧mm hs w x=false):=by
 unfold ed at h
 split at h
 ·cases h
 split at h
 ·cases h
 split at h
 ·cases h
 rename_i h1 h2 h3
 simp only[Bool.not_eq_true,Bool.or_eq_false_iff]at h1 h2 h3
 exact⟨h1,⟨h2.1.1,h2.1.2,h2.2⟩,⟨h3.1.1,h3.1.2,h3.2⟩⟩
theorem rQ{m:List (Int×Nat)}{a:Int}{p:Bool}(h:(p&& !(aU m a).isSome)=false)(hp:p=true):∃r,aU m a=some r:=by
 subst hp
 cases hm:aU m a with
 |none=>rw[hm]at h;cases h
 |some r=>exact⟨r,rfl⟩
theorem zZ{n:Nat}{a:Int}{p:Bool}(h:(p&& !decide (0≤a∧a<n))=false)(hp:p=true):∃v:Nat,a=v∧v<n:=by
 subst hp
 have:0≤a∧a<n:=by simpa using h
 exact⟨a.toNat,by omega,by omega⟩
theorem rT{n cap:Nat}{L:List aq.Fn}{F:Int→aq.Fn}(h:x.op<9):po n cap L F x ord=AO n cap L (gH n F x) ord:=funext fun e=>by
 unfold po;rw[if_neg (by omega),if_neg (by omega),if_neg (by omega)]
def mH(f:Nat)(op w:Nat):Prop:=∀{sp kp mb nx:Nat} {c:Cf} {K:Kd} {S:Nat→aq.Fn} {ord af tr:List Nat} {hs:List (Int×Nat)} {es:Array MapEntry} {ck:Nat} {C:Hp} {x:dJ},fx kp nx c K S ord af tr hs es ck C→x.op=op→x.x<18446744073709551616→ed c.n hs w x=0→
 Fc Tryz.prog f #[ptr sp,x.v] (gS sp c kp mb nx es ck C) (fun v H=>∃C2,H=gS sp c kp mb nx es ck C2∧qb kp K S ord af tr (gH c.n (eo S hs) x) (po c.n c.cap (fL S hs) (eo S hs) x ord) v C2)
theorem mM:mH 72 1 8:=by
 intro sp kp mb nx c K S ord af tr hs es ck C x h hop Hh hl
 obtain⟨⟨Ie,Ic⟩,⟨F8,Hs,Hr⟩,Gg,Gf,H6⟩:=jV hl
 obtain⟨v,hv,Hq⟩:=zZ F8 (by decide)
 refine aX fun g=>ug ?_
 intro b1 _
 refine DR.of (R:=[(b1,.cells (Value.cells x.v) 35 (0,0)),nG sp c kp mb nx,(mb,.map es ck)]) (.cons (.cons (.cons fun _ _ h=>h.bu))) ?_
 refine Ld.n (v:=ptr kp) ?_
 refine Ld.f (v:=i64 x.a) ?_
 rw[hv]
 intro F
 refine aa.fq (tO h.ks (v:=v) (by rw[h.n];exact Hq)) ?_
 rintro w H hD
 have hQ:qb kp K S ord af tr (gH c.n (eo S hs) x) (po c.n c.cap (fL S hs) (eo S hs) x ord) w H:=by
  have hq:=h.done hD
  rw[h.n,h.cap]at hq
  rw[rT (by omega)]
  have e:gH c.n (eo S hs) x=fun y=>y.testBit x.a.toNat:=by simp only[gH,hop]
  rw[e]
  simp only[hv,Int.toNat_natCast]
  exact hq
 obtain⟨y,e,rfl⟩:=hQ.two
 refine⟨.cons (.cons (.cons fun _ _ h=>h.bu)),?_⟩
 exact Ext.two (aY.mk .tail ⟨_,rfl,hQ⟩)
theorem xP:mH 75 4 3:=by
 intro sp kp mb nx c K S ord af tr hs es ck C x h hop Hh hl
 obtain⟨⟨Ie,Ic⟩,⟨F8,Hs,Hr⟩,Gg,Gf,H6⟩:=jV hl
 obtain⟨ra,ha⟩:=rQ Gg (by decide)
 have la:=h.live _ (h.find ha)
 obtain⟨rb,hb⟩:=rQ Gf (by decide)
 have lb:=h.live _ (h.find hb)
 refine aX fun g=>uf ?_
 intro b1 _
 refine DR.of (R:=[(b1,.cells (Value.cells x.v) 35 (0,0)),nG sp c kp mb nx,(mb,.map es ck)]) (.cons (.cons (.cons fun _ _ h=>h.bu))) ?_
 refine Ld.n (v:=ptr kp) ?_
 refine Ld.n (v:=.map (some mb)) ?_
 refine Ld.f (v:=i64 x.a) ?_
 refine h.gK.hit (k:=x.a) (ei _) (b:=mb) (by exact .tail _ (.tail _ (.head _))) ha fun v e=>?_
 subst e
 refine Ld.n (v:=.map (some mb)) ?_
 refine Ld.f (v:=i64 x.b) ?_
 refine h.gK.hit (k:=x.b) (ei _) (b:=mb) (by exact .tail _ (.tail _ (.head _))) hb fun v e=>?_
 subst e
 intro F
 refine aa.fq (tV h.ks la lb) ?_
 rintro w H hD
 have hQ:qb kp K S ord af tr (gH c.n (eo S hs) x) (po c.n c.cap (fL S hs) (eo S hs) x ord) w H:=by
  have hq:=h.done hD
  rw[h.n,h.cap]at hq
  rw[rT (by omega)]
  have e:gH c.n (eo S hs) x=fun y=>eo S hs x.a y&&eo S hs x.b y:=by simp only[gH,hop]
  rw[e]
  simp only[gg ha,gg hb]
  exact hq
 obtain⟨y,e,rfl⟩:=hQ.two
 refine⟨.cons (.cons (.cons fun _ _ h=>h.bu)),?_⟩
 exact Ext.two (aY.mk .tail ⟨_,rfl,hQ⟩)
end
section
variable {sp kp mb nx:Nat} {c:Cf} {K:Kd} {S:Nat→aq.Fn} {ord af tr:List Nat} {hs:List (Int×Nat)} {es:Array MapEntry} {ck:Nat} {C:Hp} {x:dJ}
theorem yc{w f:Nat}(h:fx kp nx c K S ord af tr hs es ck C)(hw:w<256)(hx:x.x<18446744073709551616)(hl:ed c.n hs w x≠0):
  Rd Tryz.prog 43 #[ptr sp,x.v,.agg (rX (w,f)).toArray] (gS sp c kp mb nx es ck C) (· =iY (ed c.n hs w x) (-1) 0 0):=by
 refine aX fun g=>mz ?_
 intro b1 _ b3 _ b5 _
 refine aB.q (r:=x.cells) ?_
 refine Ld.f (v:=.int .u8 (w:Int)) ?_
 refine aa.eq (look_ok h hw hx) ?_
 refine ae.ep (Br.T ?_ hl)
 refine aa.eq (cF _ _) ?_
 refine St.p (r:=[i64 (ed c.n hs w x),i64 (-1),u64 0,i64 0]) (b6 _ _ _ _) ?_
 refine aB.q ?_
 exact bF.mk (.skip (.skip .tail)) rfl
def iq(op:Nat):Option Nat:=
 if op=23 then some 97 else if op=22 then some 96 else if op=21 then some 95 else if op=20 then some 94 else
 if op=19 then some 93 else if op=18 then some 92 else if op=17 then some 91 else if op=16 then some 90 else
 if op=15 then some 89 else if op=14 then some 88 else if op=13 then some 87 else if op=12 then some 86 else none
theorem tQ:Fc Tryz.prog 44 #[] [] (fun v H=>∃b es ck m,v=.map (some b)∧H=[(b,.map es ck)]∧aH (kI .u8) (fun v (p:Nat)=>v=.func (.func p) #[] #[]) es ck m∧∀op:Nat,aU m (op:Int)=iq op):=by
 refine aX fun g=>uv ?_
 intro b _
 have aP:∀{k:Int} {p:Nat} {es:Array MapEntry} {ck:Nat} {m:List (Int×Nat)} {Q:Hp→Prop},aH (kI .u8) (fun v (p:Nat)=>v=.func (.func p) #[] #[]) es ck m→(∀es' cY,aH (kI .u8) (fun v (p:Nat)=>v=.func (.func p) #[] #[]) es' cY (dV m k p)→Q [(b,.map es' cY)])→
   aN (.int .u8) [(b,.map es ck)] (.map (some b)) (kI .u8 k) (.func (.func p) #[] #[]) Q:=fun{k p es ck m Q} he hq=>
  aH.aP (ei _) (mY _) he rfl fun es' cY he'=>⟨_,.head _,hq es' cY he'⟩
 refine aP (k:=12) aH.empty fun _ _ h=>?_
 refine aP (k:=13) h fun _ _ h=>?_
 refine aP (k:=14) h fun _ _ h=>?_
 refine aP (k:=15) h fun _ _ h=>?_
 refine aP (k:=16) h fun _ _ h=>?_
 refine aP (k:=17) h fun _ _ h=>?_
 refine aP (k:=18) h fun _ _ h=>?_
 refine aP (k:=19) h fun _ _ h=>?_
 refine aP (k:=20) h fun _ _ h=>?_
 refine aP (k:=21) h fun _ _ h=>?_
 refine aP (k:=22) h fun _ _ h=>?_
 refine aP (k:=23) h fun _ _ h=>?_
 refine aY.mk (.refl _) ⟨b,_,_,_,rfl,rfl,h,fun op=>?_⟩
 simp only[bY]
 have:∀j:Nat,((op:Int)=(j:Int))=(op=j):=fun j=>propext (by omega)
 have e:=this 12;have e2:=this 13;have e3:=this 14;have e4:=this 15;have e5:=this 16;have e6:=this 17;have e7:=this 18;have e8:=this 19;have e9:=this 20;have Fm:=this 21;have CC:=this 22;have IF:=this 23
 simp only[Int.cast_ofNat_Int]at*
 simp only[e,e2,e3,e4,e5,e6,e7,e8,e9,Fm,CC,IF]
 rfl
theorem uV(x:dJ)(B:Hp):Rd Tryz.prog 16 #[.pointer none,x.v] B (· =iY 10 (-1) 0 0):=by
 refine aX fun g=>mD ?_
 intro b1 _ b3 _
 refine ae.mQ (Br.yes ?_)
 refine aa.eq (cF _ _) ?_
 refine St.p (r:=[i64 10,i64 (-1),u64 0,i64 0]) (b6 _ _ _ _) ?_
 refine aB.q ?_
 exact bF.mk (.skip .tail) rfl
def Dd(v:Value):Prop:=∃(e h:Int) (n:Nat) (t:Int),v=iY e h n t
set_option maxHeartbeats 1000000 in
theorem jI{C:Hp}{Q:Value→Hp→Prop}(hQ:∀v H,Q v H→Dd v)
 (h1:∀w f,eZ x.op=some (w,f)→Fc Tryz.prog 43 #[ptr sp,x.v,.agg (rX (w,f)).toArray] C Q)
 (h2:∀f,eZ x.op=none→iq x.op=some f→aG Tryz.prog f=true→Fc Tryz.prog f #[ptr sp,x.v] C Q)
 (h3:eZ x.op=none→iq x.op=none→Q (iY 12 (-1) 0 0) C):Fc Tryz.prog 16 #[ptr sp,x.v] C Q:=by
 refine aX fun g=>mD ?_
 intro b1 _ b3 _
 refine ae.bC (Br.no ?_)
 refine DR.of (R:=(b1,.cells x.cells.toArray 35 (0,0))::[]) (.skip (.cons fun _ _ h=>h.bu)) ?_
 refine Ld.f (v:=.int .u8 (x.op:Int)) ?_
 intro F
 refine aa.fn hnew s6 ?_
 rintro w H ⟨bm,AL,AM,m1,rfl,rfl,Ip,th⟩
 refine⟨.skip (.skip (.cons fun _ _ h=>h.bu)),?_⟩
 refine⟨[(b1,.cells x.cells.toArray 35 (0,0)),(bm,.map AL AM)],(aS.perm (List.Perm.swap _ _ _)).trans (.skip ?_),.cons (fun _ _ h=>h.bu),?_⟩
 ·exact(aS.perm (List.Perm.swap _ _ _)).trans (.cons (.cons fun _ _ h=>h.bu))
 refine Ip.look (k:=(x.op:Int)) (ei _) (by exact .tail _ (.head _)) (fun p v hp hv=>?_) (fun hp=>?_)
 ·subst hv
  obtain⟨w,f⟩:=p
  rw[th]at hp
  refine Ext.two ?_
  intro IK _
  intro F
  refine St.p (r:=rX (w,f)) (fun u hu=>by simp only[rX,List.mem_cons,List.not_mem_nil,or_false]at hu;rcases hu with rfl|rfl<;>rfl) ?_
  refine⟨.skip ((aS.perm (List.Perm.swap _ _ _)).trans (.skip ((aS.perm (List.Perm.swap _ _ _)).trans (.cons (.cons fun _ _ h=>h.bu))))),?_⟩
  refine Br.yes ?_
  refine aB.q (r:=x.cells) ?_
  refine aB.q (r:=rX (w,f)) ?_
  refine aa.fq (h1 w f hp) ?_
  intro v H hv
  obtain⟨e,h,n,t,rfl⟩:=hQ v H hv
  refine St.p (r:=[i64 e,i64 h,u64 n,i64 t]) (b6 _ _ _ _) ?_
  refine aB.q ?_
  exact aY.mk (.skip (.skip (.skip .tail))) hv
 ·rw[th]at hp
  refine Ext.two ?_
  intro IK _
  intro F
  refine St.p (r:=[.int .u8 0,.nilFunc]) (by simp[Value.oneCell']) ?_
  refine⟨.skip ((aS.perm (List.Perm.swap _ _ _)).trans (.skip ((aS.perm (List.Perm.swap _ _ _)).trans (.cons (.cons fun _ _ h=>h.bu))))),?_⟩
  refine Br.no ?_
  refine DR.of (R:=(b1,.cells x.cells.toArray 35 (0,0))::[]) (.skip (.skip (.skip (.cons fun _ _ h=>h.bu)))) ?_
  refine Ld.f (v:=.int .u8 (x.op:Int)) ?_
  intro F
  refine aa.fn hnew tQ ?_
  rintro w H ⟨ba,xx,xy,m2,rfl,rfl,Cy,pH⟩
  refine⟨.skip (.skip (.skip (.skip (.cons fun _ _ h=>h.bu)))),?_⟩
  refine⟨[(b1,.cells x.cells.toArray 35 (0,0)),(ba,.map xx xy)],?_,.cons (fun _ _ h=>h.bu),?_⟩
  ·refine(aS.perm ((List.Perm.cons _ (List.Perm.cons _ (List.Perm.cons _ (List.Perm.swap _ _ _)))).trans ((List.Perm.cons _ (List.Perm.cons _ (List.Perm.swap _ _ _))).trans ((List.Perm.cons _ (List.Perm.swap _ _ _)).trans (List.Perm.swap _ _ _))))).trans ?_
   exact .cons ((aS.perm (List.Perm.swap _ _ _)).trans (.skip ((aS.perm (List.Perm.swap _ _ _)).trans (.skip ((aS.perm (List.Perm.swap _ _ _)).trans (.skip (.cons fun _ _ h=>h.bu)))))))
  refine Cy.look (k:=(x.op:Int)) (ei _) (by exact .tail _ (.head _)) (fun f v hf hv=>?_) (fun hf=>?_)
  ·subst hv
   rw[pH]at hf
   have dF:aG Tryz.prog f=true:=by
    unfold iq at hf
    repeat' split at hf
    all_goals first|(cases hf;kernel_rfl)|cases hf
   refine Ext.two (Br.yes ?_)
   refine aB.q (r:=x.cells) ?_
   refine bj.of rfl dF ?_
   refine aa.fq (args:=#[ptr sp,x.v]) (h2 f hp hf dF) ?_
   intro v H hv
   obtain⟨e,h,n,t,rfl⟩:=hQ v H hv
   refine St.p (r:=[i64 e,i64 h,u64 n,i64 t]) (b6 _ _ _ _) ?_
   refine aB.q ?_
   exact aY.mk (.skip (.skip (.skip (.skip .tail)))) hv
  ·rw[pH]at hf
   refine Ext.two (Br.no ?_)
   refine aa.eq (cF _ _) ?_
   refine St.p (r:=[i64 12,i64 (-1),u64 0,i64 0]) (b6 _ _ _ _) ?_
   refine aB.q ?_
   exact aY.mk (.skip (.skip (.skip (.skip .tail)))) (h3 hp hf)
end
section
variable {sp kp mb nx:Nat} {c:Cf} {K:Kd} {S:Nat→aq.Fn} {ord af tr:List Nat} {hs:List (Int×Nat)} {es:Array MapEntry} {ck:Nat} {C:Hp} {x:dJ}
theorem uZ(h:fx kp nx c K S ord af tr hs es ck C)(hx:x.x<18446744073709551616):
  Rd Tryz.prog 88 #[ptr sp,x.v] (gS sp c kp mb nx es ck C) (· =if(aU hs x.a).isSome then iY 0 (-1) (eo S hs x.a x.x).toNat 0 else iY 3 (-1) 0 0):=by
 refine aX fun g=>uc ?_
 intro b1 _ b3 _
 refine Ld.f (v:=i64 x.a) ?_
 refine aa.eq (eH h x.a) ?_
 refine Un.not ?_
 cases hm:aU hs x.a with
 |none=>
  refine Br.yes ?_
  refine aa.eq (cF _ _) ?_
  refine St.p (r:=[i64 3,i64 (-1),u64 0,i64 0]) (b6 _ _ _ _) ?_
  refine aB.q ?_
  exact bF.mk (.skip .tail) rfl
 |some r=>
  refine Br.no ?_
  have hl:=h.live _ (h.find hm)
  refine DR.of (.refl _) ?_
  refine Ld.n (v:=ptr kp) ?_
  refine Ld.n (v:=.map (some mb)) ?_
  refine Ld.f (v:=i64 x.a) ?_
  refine h.gK.hit (k:=x.a) (ei _) (b:=mb) (by exact .tail _ (.tail _ (.tail _ (.head _)))) hm fun v e=>?_
  subst e
  refine Ld.f (v:=u64 x.x) ?_
  intro F
  refine aa.eq (args:=#[ptr kp,u32 r,u64 x.x]) (wL h.ks hl hx) ?_
  refine⟨.refl _,?_⟩
  refine Ext.two ?_
  refine aa.eq (xM _ _) ?_
  refine aa.eq (nD _ 0 _) ?_
  refine St.p (r:=[i64 0,i64 (-1),u64 (S r x.x).toNat,i64 0]) (b6 _ _ _ _) ?_
  refine aB.q ?_
  exact bF.mk (.skip .tail) (by rw[gg hm];rfl)
theorem uX(h:fx kp nx c K S ord af tr hs es ck C){e:Int}{n:Nat}(EP:∀r,aU hs x.a=some r→Rd Tryz.prog 146 #[ptr kp,u32 r] C (· =.tuple #[u64 n,i64 e])):
  Rd Tryz.prog 90 #[ptr sp,x.v] (gS sp c kp mb nx es ck C) (· =if(aU hs x.a).isSome then(if e=0 then iY 0 (-1) n 0 else iY e (-1) 0 0)else iY 3 (-1) 0 0):=by
 refine aX fun g=>ua ?_
 intro b1 _ b3 _
 refine Ld.f (v:=i64 x.a) ?_
 refine aa.eq (eH h x.a) ?_
 refine Un.not ?_
 cases hm:aU hs x.a with
 |none=>
  refine Br.yes ?_
  refine aa.eq (cF _ _) ?_
  refine St.p (r:=[i64 3,i64 (-1),u64 0,i64 0]) (b6 _ _ _ _) ?_
  refine aB.q ?_
  exact bF.mk (.skip .tail) rfl
 |some r=>
  refine Br.no ?_
  refine DR.of (.refl _) ?_
  refine Ld.n (v:=ptr kp) ?_
  refine Ld.n (v:=.map (some mb)) ?_
  refine Ld.f (v:=i64 x.a) ?_
  refine h.gK.hit (k:=x.a) (ei _) (b:=mb) (by exact .tail _ (.tail _ (.tail _ (.head _)))) hm fun v e=>?_
  subst e
  intro F
  refine aa.eq (args:=#[ptr kp,u32 r]) (EP r hm) ?_
  refine⟨.refl _,?_⟩
  refine Ext.two ?_
  intro F
  refine aa.eq (nD n e _) ?_
  intro F
  by_cases he:e=0
  ·rw[if_pos he]
   refine St.p (r:=[i64 0,i64 (-1),u64 n,i64 0]) (b6 _ _ _ _) ?_
   refine aB.q ?_
   exact bF.mk (.skip .tail) rfl
  ·rw[if_neg he]
   refine St.p (r:=[i64 e,i64 (-1),u64 0,i64 0]) (b6 _ _ _ _) ?_
   refine aB.q ?_
   exact bF.mk (.skip .tail) rfl
end
structure Rp where
 e:Int
 h:Int
 n:Nat
 t:Int
def Rp.cells(r:Rp):List Value:=[i64 r.e,i64 r.h,u64 r.n,i64 r.t]
abbrev Rp.v(r:Rp):Value:=.agg r.cells.toArray
def Rp.eq(a b:Rp):Bool:=decide (a.e=b.e) && (decide (a.h=b.h) && (decide (a.n=b.n) &&decide (a.t=b.t)))
theorem Rp.eq_iff{a b:Rp}:Rp.eq a b=true↔a=b:=by
 obtain⟨a1,a2,a3,a4⟩:=a
 obtain⟨b1,b2,b3,b4⟩:=b
 simp[Rp.eq]
theorem Rp.one(r:Rp):∀u∈r.cells,u.oneCell'=true:=b6 _ _ _ _
theorem wz:(Tryz.prog.fieldsOf 37).toList.map (fun f=>(f.name,f.type,f.offset))=[("E",27,0),("H",3,1),("N",33,2),("Tries",3,3)]:=by kernel_rfl
theorem xJ:Tryz.prog.underlying 3=some (.int .i64):=by kernel_rfl
theorem xL:Tryz.prog.underlying 27=some (.int .i64):=by kernel_rfl
theorem xH:Tryz.prog.underlying 33=some (.int .u64):=by kernel_rfl
theorem Bo{g:Gh}{H:Hp}{o:Oper}{ρ:Operand→Value}{k:Value→Prop}{neq:Bool}{x y:Operand}{a b:Rp}(ho:o.op=.binOp (cond neq .neq .eql) 37 x y 37)(hx:ρ x=a.v)(hy:ρ y=b.v)
 (hk:k (.bool (cond neq (!Rp.eq a b) (Rp.eq a b)))):dn Tryz.prog g o ρ H k:=by
 refine dn.struct (neq:=neq) ho hx hy (by kernel_rfl) (by kernel_rfl) (by kernel_rfl) (b:=Rp.eq a b) ?_ hk
 intro w
 have h:=wz
 generalize (Tryz.prog.fieldsOf 37).toList=fs at h
 rcases fs with _|⟨f1,_|⟨f2,_|⟨f3,_|⟨f4,_|⟨f5,fs⟩⟩⟩⟩⟩<;>simp only[List.map_cons,List.map_nil,List.cons.injEq,Prod.mk.injEq,and_true,reduceCtorEq,and_false]at h
 obtain⟨⟨n1,t1,o1⟩,⟨n2,t2,o2⟩,⟨n3,t3,o3⟩,n4,t4,o4⟩:=h
 have p1:∀(r:Rp) w,(part 27 r.cells.toArray 0).run Tryz.prog w=.ok (i64 r.e) w:=fun r w=>run_part_plain (w:=w) (by kernel_rfl) rfl
 have p2:∀(r:Rp) w,(part 3 r.cells.toArray 1).run Tryz.prog w=.ok (i64 r.h) w:=fun r w=>run_part_plain (w:=w) (by kernel_rfl) rfl
 have p3:∀(r:Rp) w,(part 33 r.cells.toArray 2).run Tryz.prog w=.ok (u64 r.n) w:=fun r w=>run_part_plain (w:=w) (by kernel_rfl) rfl
 have p4:∀(r:Rp) w,(part 3 r.cells.toArray 3).run Tryz.prog w=.ok (i64 r.t) w:=fun r w=>run_part_plain (w:=w) (by kernel_rfl) rfl
 have dq:∀x y:Int,(x==y)=decide (x=y):=fun x y=>by rw[Bool.eq_iff_iff];simp
 have q1:∀(x y:Int) w,(Op.equalIn 9999 27 (i64 x) (i64 y)).run Tryz.prog w=.ok (decide (x=y)) w:=fun x y w=>by
  rw[run_equalIn_int w 9998 27 .i64 _ _ _ xL,dq]
 have q2:∀(x y:Int) w,(Op.equalIn 9999 3 (i64 x) (i64 y)).run Tryz.prog w=.ok (decide (x=y)) w:=fun x y w=>by
  rw[run_equalIn_int w 9998 3 .i64 _ _ _ xJ,dq]
 have q3:∀(x y:Nat) w,(Op.equalIn 9999 33 (u64 x) (u64 y)).run Tryz.prog w=.ok (decide (x=y)) w:=fun x y w=>by
  rw[run_equalIn_int w 9998 33 .u64 _ _ _ xH,dq]
  congr 1
  exact decide_eq_decide.2 Int.ofNat_inj
 show(Op.eqFields 9999 a.cells.toArray b.cells.toArray [f1,f2,f3,f4]).run Tryz.prog w=_
 simp only[Op.eqFields,n1,n2,n3,n4,t1,t2,t3,t4,o1,o2,o3,o4,Sem.run_bind,p1,p2,p3,p4,q1,q2,q3,Result.andThen_ok,Sem.run_ite,Sem.run_pure]
 unfold Rp.eq
 by_cases h1:a.e=b.e<;>by_cases h2:a.h=b.h<;>by_cases h3:a.n=b.n<;>by_cases h4:a.t=b.t<;>simp[h1,h2,h3,h4]
def gW:List Rp→List Rp→Bool
 | [],[]=>true
 |a::l,b::r=>Rp.eq a b&&gW l r
 |_,_=>false
theorem ew:∀{l r:List Rp},gW l r=true↔l=r
 | [],[]=>by simp[gW]
 | [],_::_=>by simp[gW]
 |_::_,[]=>by simp[gW]
 |a::l,b::r=>by simp[gW,Rp.eq_iff,ew]
theorem sV{B:Hp}{va vb:Value}{l r:List Rp}(hl:Sl 4 B va (l.map Rp.cells))(hr:Sl 4 B vb (r.map Rp.cells))(bL:l.length<9223372036854775807):Rd Tryz.prog 17 #[va,vb] B (· =.bool (gW l r)):=by
 refine aX fun g=>uC ?_
 refine hl.cN ?_
 refine hr.cN ?_
 rw[List.length_map,List.length_map]
 refine ae.D4 ?_
 refine Br.dec (fun hne=>?_) (fun heq=>?_)
 ·refine bF.mk (.refl _) ?_
  cases he:gW l r
  ·rfl
  ·rw[ew.1 he]at hne;exact absurd rfl hne
 have heq:l.length=r.length:=by simpa using heq
 refine⟨fun vs H=>∃i:Nat,vs=[i64 (i:Int)]∧i≤l.length∧H=B∧l.take i=r.take i,fun vs _=>l.length-cj vs 0,JE.mk ⟨0,rfl,Nat.zero_le _,rfl,rfl⟩,?_⟩
 rintro w H ⟨i,⟨⟩,hi,rfl,he⟩ gs
 refine hl.cN ?_
 rw[List.length_map]
 refine ae.jB (Br.dec (fun hlt=>?_) (fun hge=>?_))
 ·have hlr:i<r.length:=by omega
  refine ah.sl hl (i:=i) (r:=l[i].cells) (by rw[List.getElem?_map,List.getElem?_eq_getElem hlt];rfl) fun p hp=>?_
  refine aB.at hp rfl (by decide) (fun _ h=>h) ?_
  refine ah.sl hr (i:=i) (r:=r[i].cells) (by rw[List.getElem?_map,List.getElem?_eq_getElem hlr];rfl) fun p hp=>?_
  refine aB.at hp rfl (by decide) (fun _ h=>h) ?_
  refine Bo (neq:=true) (x:=.tmp 20) (y:=.tmp 24) (a:=l[i]) (b:=r[i]) (by kernel_rfl) rfl rfl ?_
  simp only[cond_true]
  refine Br.mk (fun hb=>?_) (fun hb=>?_)
  ·refine bF.mk (.refl _) ?_
   cases B6:gW l r
   ·rfl
   ·have h2:=ew.1 B6
    have:Rp.eq l[i] r[i]=true:=Rp.eq_iff.2 (by subst h2;rfl)
    rw[this]at hb;cases hb
  ·have h2:l[i]=r[i]:=Rp.eq_iff.1 (by simpa using hb)
   refine ae.inc ?_
   refine av.of (.refl _) ⟨i+1,rfl,hlt,rfl,?_⟩ (by simp only[cj];omega)
   rw[List.take_add_one,List.take_add_one,he,List.getElem?_eq_getElem hlt,List.getElem?_eq_getElem hlr,h2]
 ·refine bF.mk (.refl _) ?_
  have h2:l=r:=by rwa [List.take_of_length_le (by omega),List.take_of_length_le (by omega)]at he
  rw[ew.2 h2]
theorem u6(n:Nat)(B:Hp):Rd Tryz.prog 18 #[i64 (n:Int)] B (· =.agg (kT.cells ⟨n,1048576,0,100,0⟩).toArray):=by
 refine aX fun g=>uB ?_
 intro b1 _
 refine Build.mk (cs:=kT.cells ⟨n,1048576,0,100,0⟩) (by kernel_rfl) ?_
 refine St.p (kT.one _) ?_
 refine aB.q (r:=kT.cells ⟨n,1048576,0,100,0⟩) ?_
 exact bF.mk .tail rfl
theorem Cf.Ok.bU{d:Cf}(h:d.Ok):bU d.i=0:=by
 obtain⟨h1,h2,h3,h4,h5,h6⟩:=h
 have a1:cc d.i=false:=by
  show(decide (6<d.str)||decide ((d.gr:Int)<100)||decide (1000<(d.gr:Int))||decide ((d.rs:Int)<0)||decide (16<(d.rs:Int)))=false
  simp only[Bool.or_eq_false_iff,decide_eq_false_iff_not];omega
 have a2:bT d.i=false:=by
  show decide ((d.n:Int)<1∨64<(d.n:Int)∨(d.cap:Int)<2∨1048576<(d.cap:Int))=false
  rw[decide_eq_false_iff_not];omega
 have a3:¬(d.i.str=6∧12<d.i.n):=by
  show¬(d.str=6∧12<(d.n:Int))
  omega
 unfold Proofs.bU
 rw[a1,a2,if_neg (by decide),if_neg (by decide),if_neg a3]
theorem rS{c:kT}{steps:List dJ}{sv:Value}{Y:Hp}(hs:Sl 5 Y sv (steps.map dJ.cells))(bL:steps.length<4398046511104)(I:Nat→Nat→List Rp→Hp→Prop)
 (h0:∀d:Cf,c=d.i→d.Ok→∀(sp kp mb:Nat) (C:Hp),ct kp (K0 d.n d.cap) S0 (List.range d.n) (List.range d.n) [] C→I 0 sp [] (gS sp d kp mb 0 #[] 0 C))
 (hstep:∀(i sp:Nat) (l:List Rp) (H:Hp) (x:dJ),bU c=0→steps[i]? =some x→I i sp l H→l.length=i→Fc Tryz.prog 16 #[ptr sp,x.v] H (fun v H'=>∃r:Rp,v=r.v∧I (i+1) sp (l++[r]) H')):
  Fc Tryz.prog 15 #[.agg c.cells.toArray,sv] Y (fun w H=>(bU c≠0∧w=.tuple #[.slice none 0 0,i64 (bU c)]∧H=Y)∨
   (bU c=0∧∃(sp:Nat) (l:List Rp) (s:Value) (CR HS:Hp),w=.tuple #[s,i64 0]∧H=CR++Y∧aD 37 4 s (l.map Rp.cells) CR∧l.length=steps.length∧I steps.length sp l HS)):=by
 refine aX fun g=>uD ?_
 intro b1 _
 refine aB.q (r:=c.cells) ?_
 refine aa.fn hnew (nE c (Q:=fun v H=>(bU c≠0∧v=.tuple #[.pointer none,i64 (bU c)]∧H=[])∨(bU c=0∧∃sp,v=.tuple #[ptr sp,i64 0]∧I 0 sp [] H)) (fun h=>.inl ⟨h,rfl,rfl⟩) (fun d hd hok sp kp mb C hK=>.inr ⟨?_,sp,rfl,h0 d hd hok sp kp mb C hK⟩)) ?_
 ·subst hd
  exact hok.bU
 rintro w H (⟨hne,rfl,rfl⟩|⟨he,sp,rfl,hI⟩)
 ·refine Ext.two ?_
  refine ae.ep (Br.T ?_ hne)
  exact aY.mk (.tail) (.inl ⟨hne,rfl,rfl⟩)
 refine Ext.two ?_
 refine ae.ep (Br.F ?_)
 refine hs.cN ?_
 rw[List.length_map]
 refine⟨fun vs H'=>∃(i:Nat) (s:Value) (l:List Rp) (CR HS:Hp),vs=[s,i64 (i:Int)]∧i≤steps.length∧l.length=i∧H'=CR++(HS++((b1,.cells (Value.cells (.agg c.cells.toArray)) 23 (0,0))::Y))∧aD 37 4 s (l.map Rp.cells) CR∧I i sp l HS,
  fun vs _=>steps.length-cj vs 1,JE.mk ⟨0,_,[],[],H,rfl,Nat.zero_le _,rfl,rfl,aD.nil _ _,hI⟩,?_⟩
 rintro w1 w2 H' ⟨i,s,l,CR,HS,⟨⟩,hi,hl,rfl,hR,hI⟩ gs
 refine ae.jB (Br.dec (fun hlt=>?_) (fun hge=>?_))
 ·refine ah.sl hs (i:=i) (r:=steps[i].cells) (by rw[List.getElem?_map,List.getElem?_eq_getElem hlt];rfl) fun p hp=>?_
  refine aB.at hp rfl (by decide) (fun _ h=>List.mem_append_right _ (List.mem_append_right _ (.tail _ h))) ?_
  intro GJ _
  refine St.p (r:=steps[i].cells) (dJ.one _) ?_
  refine aB.q (r:=steps[i].cells) ?_
  refine aa.fn (.cons (.app .left)) (hstep i sp l HS steps[i] he (List.getElem?_eq_getElem hlt) hI hl) ?_
  rintro v I6 ⟨r,rfl,Im⟩
  refine an.one (z:=.agg #[i64 0,i64 0,u64 0,i64 0]) (e:=37) (k:=4) (r:=r.cells) (by kernel_rfl) (by kernel_rfl) (by kernel_rfl) (by decide) rfl fun bx=>?_
  refine aD.oN (r:=r.cells) hR (.cons (.cons .left)) (by exact .head _) rfl (Rp.one r) ⟨[i64 0,i64 0,u64 0,i64 0],rfl,rfl⟩ (by rw[List.length_map];omega) (by rw[List.length_map];omega) fun v' Ja AD=>?_
  refine ae.inc ?_
  refine av.of (.skip .tail) ⟨i+1,v',l++[r],Ja,I6,rfl,hlt,by rw[List.length_append,hl];rfl,rfl,by rw[List.map_append];exact AD,Im⟩ (by simp only[cj];omega)
 ·obtain rfl:i=steps.length:=by omega
  exact aY.mk (aS.cZ (aS.right.trans .tail) CR) (.inr ⟨he,sp,l,w1,CR,HS,rfl,rfl,hR,hl,hI⟩)
abbrev FS:=List (Int×aq.Fn)
def fS(S:Nat→aq.Fn)(hs:List (Int×Nat)):FS:=hs.map fun p=>(p.1,S p.2)
def fF(F:FS)(a:Int):aq.Fn:=match aU F a with|some f=>f|none=>fun _=>false
def mi(F:FS):List aq.Fn:=F.map Prod.snd
def pJ(F:FS)(a:Int):Bool:=(aU F a).isSome
theorem jT{S:Nat→aq.Fn}{a:Int}:∀hs:List (Int×Nat),aU (fS S hs) a=(aU hs a).map S
  | []=>rfl
  |p::hs=>by
    have ih:=jT (S:=S) (a:=a) hs
    unfold aU fS at*
    rw[List.map_cons,List.find?_cons,List.find?_cons]
    by_cases e:p.1=a
    · simp[e]
    · simp only[e,decide_false]
      exact ih
theorem nc{S:Nat→aq.Fn}{hs:List (Int×Nat)}:fF (fS S hs)=eo S hs:=funext fun a=>by
  unfold fF eo
  rw[jT]
  cases aU hs a<;>rfl
theorem m9{S:Nat→aq.Fn}{hs:List (Int×Nat)}:mi (fS S hs)=fL S hs:=by
  unfold mi fS fL
  rw[List.map_map];rfl
theorem fO{S:Nat→aq.Fn}{hs:List (Int×Nat)}(a:Int):pJ (fS S hs) a=(aU hs a).isSome:=by
  unfold pJ
  rw[jT]
  cases aU hs a<;>rfl
theorem iT{S S':Nat→aq.Fn}{hs:List (Int×Nat)}(h:∀p∈hs,S' p.2=S p.2):fS S' hs=fS S hs:=List.map_congr_left fun p hp=>by rw[h p hp]
def jd(n:Nat)(F:FS)(w:Nat)(x:dJ):Int:=
  if(pY w x||tN w x)=true then 1 else if(pw n w x||pq n w x||xX n w x)=true then 2 else
  if((decide (w&&&1≠0) && !pJ F x.a)||(decide (w&&&2≠0) && !pJ F x.b)||(decide (w&&&4≠0) && !pJ F x.c))=true then 3 else 0
theorem lY{S:Nat→aq.Fn}{hs:List (Int×Nat)}{n w:Nat}{x:dJ}:jd n (fS S hs) w x=ed n hs w x:=by
  unfold jd ed kC kB mm
  rw[fO,fO,fO]
noncomputable def yI(n:Nat)(F:FS)(ord:List Nat):Nat:=sz n ord (HF (mi F))
def oW(sp:Nat)(c:Cf)(nx:Nat)(F:FS)(ord tr:List Nat)(H:Hp):Prop:=
  ∃(kp mb:Nat) (K:Kd) (S:Nat→aq.Fn) (af:List Nat) (hs:List (Int×Nat)) (es:Array MapEntry) (ck:Nat) (C:Hp),H=gS sp c kp mb nx es ck C∧fx kp nx c K S ord af tr hs es ck C∧fS S hs=F
section
variable {sp nx:Nat} {c:Cf} {F:FS} {ord tr:List Nat} {H:Hp} {x:dJ}
theorem fx.yI{kp:Nat}{K:Kd}{S:Nat→aq.Fn}{af:List Nat}{hs:List (Int×Nat)}{es:Array MapEntry}{ck:Nat}{C:Hp}(h:fx kp nx c K S ord af tr hs es ck C)(o:List Nat):nZ K S o=Proofs.yI c.n (fS S hs) o:=by
  unfold nZ Proofs.yI
  rw[h.held,m9,h.n]
theorem r8{d:Cf}{kp mb:Nat}{C:Hp}(hK:ct kp (K0 d.n d.cap) S0 (List.range d.n) (List.range d.n) [] C):oW sp d 0 [] (List.range d.n) [] (gS sp d kp mb 0 #[] 0 C):=
  ⟨kp,mb,_,_,_,[],_,_,C,rfl,⟨hK,rfl,rfl,aH.empty,by simp,fun r=>by
    show([]:List Nat).getD r 0=_
    simp,by simp⟩,rfl⟩
def zO(sp:Nat)(c:Cf)(nx:Nat)(F:FS)(ord tr:List Nat)(x:dJ)(R:List Nat→List Nat→Prop)(v:Value)(H:Hp):Prop:=
  ∃(t:Nat) (o de:List Nat),t≤c.rs+1∧mu (po c.n c.cap (mi F) (fF F) x) R ord t o∧
    ((v=iY 0 nx 0 t∧oW sp c (nx+1) (F++[((nx:Int),gH c.n (fF F) x)]) o [] H∧po c.n c.cap (mi F) (fF F) x o 0)∨
     (∃e:Nat,(e=8∨e=9)∧v=iY e (-1) 0 t∧oW sp c nx F o de H∧po c.n c.cap (mi F) (fF F) x o e∧(e=9→t=c.rs+1)∧de.length+8192*yI c.n F o≤tr.length+8192*yI c.n F ord))
theorem ij(hx:x.op=1):mH 72 x.op 8∧aG Tryz.prog 72=true:=by
  rw[hx];exact⟨mM,by kernel_rfl⟩
theorem oJ(hx:x.op=4):mH 75 x.op 3∧aG Tryz.prog 75=true:=by
  rw[hx];exact⟨xP,by kernel_rfl⟩
def AR(c:Cf)(nx:Nat)(F:FS)(T:List Nat→Nat→Prop)(R:List Nat→List Nat→Prop)(b:Nat):Prop:=
  ∀{kp:Nat} {K:Kd} {S:Nat→aq.Fn} {o af tr:List Nat} {hs:List (Int×Nat)} {es:Array MapEntry} {ck:Nat} {C:Hp},T o 9→fx kp nx c K S o af tr hs es ck C→fS S hs=F→tr.length≤b→
    Fc Tryz.prog 85 #[ptr kp,.int .u8 (c.str:Int),i64 c.gr] C (fun v H=>∃ls a b,v=.tuple #[a,b]∧R o ls∧At kp K S (o8 o ls) (tr++ls) H∧ls.length+8192*nZ K S (o8 o ls)≤8192*nZ K S o)
theorem ya{w f:Nat}{R:List Nat→List Nat→Prop}(h:oW sp c nx F ord tr H)(hc:c.Ok)(Ao:nx+1<9223372036854775808)(hx:x.x<18446744073709551616)(hf:mH f x.op w)(dF:aG Tryz.prog f=true)(hw:w<256)(hl:jd c.n F w x=0)
   (hrun:AR c nx F (po c.n c.cap (mi F) (fF F) x) R (tr.length+8192*yI c.n F ord)):
    Fc Tryz.prog 43 #[ptr sp,x.v,.agg (rX (w,f)).toArray] H (zO sp c nx F ord tr x R):=by
  obtain⟨kp,mb,K,S,af,hs,es,ck,C,rfl,h,rfl⟩:=h
  rw[lY]at hl
  rw[nc,m9,←h.yI]at hrun
  refine(yb dF h hc Ao hw hx hl (fn:=gH c.n (eo S hs) x) (T:=po c.n c.cap (fL S hs) (eo S hs) x) (R:=R) (fun{K' S' o di de C'} h' hS=>?_) (fun{K' S' o di de C'} hT h' hS hb=>?_)).mono ?_
  · have:=hf (sp:=sp) (mb:=mb) h' rfl hx hl
    rwa [yM hS,tA h.gK.nd hS]at this
  · exact hrun hT h' (iT hS) hb
  · rintro v H ⟨t,o,di,de,K',S',es',cY,C',ht,hT,hS,hq⟩
    unfold zO
    have ez:yI c.n (fS S hs)=nZ K S:=funext fun o=>(h.yI o).symm
    rw[nc,m9,ez]
    refine⟨t,o,de,ht,hT,?_⟩
    rcases hq with⟨r,rfl,rfl,h',hr,h0,rfl⟩|⟨e,he,rfl,rfl,h',zD,h9,hb⟩
    · refine .inl ⟨rfl,⟨kp,mb,K',S',di,_,es',cY,C',rfl,h',?_⟩,h0⟩
      rw[←iT hS]
      unfold fS
      rw[List.map_append,←hr];rfl
    · exact .inr ⟨e,he,rfl,⟨kp,mb,K',S',di,_,es',cY,C',rfl,h',iT hS⟩,zD,h9,hb⟩
theorem pA{w f:Nat}(h:oW sp c nx F ord tr H)(hx:x.x<18446744073709551616)(hw:w<256)(hl:jd c.n F w x≠0):
    Rd Tryz.prog 43 #[ptr sp,x.v,.agg (rX (w,f)).toArray] H (· =iY (jd c.n F w x) (-1) 0 0):=by
  obtain⟨kp,mb,K,S,af,hs,es,ck,C,rfl,h,rfl⟩:=h
  rw[lY]at hl⊢
  exact yc h hw hx hl
theorem yO(h:oW sp c nx F ord tr H)(hx:x.x<18446744073709551616):Rd Tryz.prog 88 #[ptr sp,x.v] H (· =if pJ F x.a then iY 0 (-1) (fF F x.a x.x).toNat 0 else iY 3 (-1) 0 0):=by
  obtain⟨kp,mb,K,S,af,hs,es,ck,C,rfl,h,rfl⟩:=h
  rw[fO,nc]
  exact uZ h hx
theorem xN(h:oW sp c nx F ord tr H):Rd Tryz.prog 90 #[ptr sp,x.v] H (· =if pJ F x.a then iY 0 (-1) (sat c.n (fF F x.a)%nr) 0 else iY 3 (-1) 0 0):=by
  obtain⟨kp,mb,K,S,af,hs,es,ck,C,rfl,h,rfl⟩:=h
  rw[fO,nc]
  refine(uX h (x:=x) (e:=0) (n:=sat c.n (eo S hs x.a)%nr) fun r hr=>?_).mono fun v H hv=>?_
  · rw[gg hr,←h.n]
    exact wG h.ks (h.live _ (h.find hr))
  · rw[if_pos rfl]at hv;exact hv
end
end Go.Proofs
namespace aq
open dQ
variable {n:Nat} {ord:List Nat}
def zF(ord:List Nat)(L:List Fn):Nat→List Fn
 |0=>L
 |l+1=>(zF ord L l).flatMap fun f=>[fun x=>f (aQ x (ord.getD l 0) false),fun x=>f (aQ x (ord.getD l 0) true)]
theorem ko(L:List Fn):∀l,(zF ord L l).length=L.length*2^l
 |0=>by simp[zF]
 |l+1=>by
  rw[zF,List.length_flatMap]
  simp only[List.length_cons,List.length_nil]
  rw[List.map_const',List.sum_replicate_nat,ko L l,Nat.pow_succ,Nat.mul_assoc]
theorem wu{F:Fn→Prop}{L:List Fn}(h:∀g,F g→g∈L):∀l g,fs ord F l g→g∈zF ord L l
 |0,g,hg=>h g hg
 |l+1,g,⟨f,hf,b,e⟩=>by
  rw[zF,List.mem_flatMap]
  refine⟨f,wu h l f hf,?_⟩
  subst e
  cases b<;>simp
def qa(ord:List Nat)(L:List Fn):Nat→List Fn
 |0=>[]
 |k+1=>qa ord L k++zF ord L k
theorem jq{ord:List Nat}(L:List Fn):∀k,(qa ord L k).length+L.length=L.length*2^k
 |0=>by simp[qa]
 |k+1=>by
  have:=jq (ord:=ord) L k
  rw[qa,List.length_append,ko,Nat.pow_succ]
  have e:L.length*(2^k*2)=L.length*2^k+L.length*2^k:=by rw[←Nat.mul_assoc,Nat.mul_two]
  omega
theorem nU{L:List Fn}{g:Fn}{l:Nat}(h:g∈zF ord L l):∀k,l<k→g∈qa ord L k
 |0,hk=>by omega
 |k+1,hk=>by
  rw[qa,List.mem_append]
  by_cases e:l=k
  ·subst e;exact .inr h
  ·exact .inl (nU h k (by omega))
theorem s3{F:Fn→Prop}{L:List Fn}(h:∀g,F g→g∈L):∀g,aA n ord F g→g∈qa ord L n:=by
 rintro g ⟨l,hl,hg,_⟩
 exact nU (wu h l g hg) n hl
theorem nQ:∀l:List Fn,∃l':List Fn,l'.Nodup∧l'.length≤l.length∧∀g,g∈l↔g∈l'
 | []=>⟨[],List.nodup_nil,Nat.le_refl _,fun _=>Iff.rfl⟩
 |f::l=>by
  obtain⟨l',h1,h2,h3⟩:=nQ l
  by_cases hm:f∈l'
  ·refine⟨l',h1,Nat.le_succ_of_le h2,fun g=>?_⟩
   rw[List.mem_cons,h3]
   exact⟨fun h=>h.elim (fun e=>e▸hm) id,.inr⟩
  ·exact⟨f::l',List.nodup_cons.2 ⟨hm,h1⟩,Nat.succ_le_succ h2,fun g=>by rw[List.mem_cons,List.mem_cons,h3]⟩
theorem yR{U:Fn→Prop}{l:List Fn}(h:∀g,U g→g∈l):∃k,k≤l.length∧xg U k:=by
 classical
 obtain⟨l',h1,h2,h3⟩:=nQ l
 refine⟨(l'.filter fun g=>decide (U g)).length,Nat.le_trans (List.length_filter_le _ _) h2,_,h1.filter _,rfl,fun g=>?_⟩
 rw[List.mem_filter,decide_eq_true_eq,←h3]
 exact⟨fun x=>⟨h g x,x⟩,fun x=>x.2⟩
theorem px{F:Fn→Prop}{L:List Fn}{cap:Nat}(h:∀g,F g→g∈L)(hc:L.length*2^n+2≤cap):∃ku,xg (aA n ord F) ku∧ku+2≤cap:=by
 obtain⟨k,h1,h2⟩:=yR (s3 (n:=n) (ord:=ord) h)
 have:=jq (ord:=ord) L n
 exact⟨k,h2,by omega⟩
end aq
set_option maxRecDepth 100000
namespace Go.Proofs
open Go Go.Sx
open aq
theorem y9{b k len:Nat}{rs:List (List Value)}{T:TypeId}(hr:∀r∈rs,r.length=k)(hk:0<k)(hl:rs.length=len):Sl k [(b,.cells (rows rs) T (0,0))] (.slice (some ⟨b,0,none⟩) len len) rs:=by
 have h:=aD.mk' (T:=T) (k:=k) (b:=b) (rs:=rs) (aK:=[]) (n:=len) (c:=len) (by simpa using hr) hl.symm (by simp[hl])
 rw[List.append_nil]at h
 exact Sl.lF h hk
section
variable {sp nx n cap:Nat} {c:Cf} {F:FS} {ord tr o:List Nat} {H:Hp} {x:dJ}
theorem vg(h:((mi F).length+3)*2^n+2≤cap):¬po n cap (mi F) (fF F) x o 9:=by
 have room:∀(L2:List aq.Fn) (P:aq.Fn→Prop),L2.length≤3→(∀g,P g→HF (mi F) g∨g∈L2)→Fits (aA n o P) cap:=fun L2 P hl hP=>by
  refine px (L:=mi F++L2) (fun g hg=>?_) ?_
  ·rcases hP g hg with h|h
   ·exact List.mem_append_left _ h.1
   ·exact List.mem_append_right _ h
  ·rw[List.length_append]
   exact Nat.le_trans (Nat.add_le_add_right (Nat.mul_le_mul_right _ (by omega)) 2) h
 unfold po
 split
 ·rintro(h|⟨_,i,_,_,hf⟩|⟨h,_⟩)
  ·cases h
  ·refine hf (room [za true (bitsOf x.x i) (fF F x.a),qf true i (za true (bitsOf x.x i) (fF F x.a))] _ (by simp) fun g hg=>?_)
   rcases hg with(h|⟨_,h⟩)|h
   ·exact .inl h
   ·exact .inr (by simp[h])
   ·exact .inr (by simp[h])
  ·cases h
 split
 ·rintro(h|⟨_,i,_,_,hf⟩|⟨h,_⟩)
  ·cases h
  ·refine hf (room [za false (bitsOf x.x i) (fF F x.a),qf false i (za false (bitsOf x.x i) (fF F x.a))] _ (by simp) fun g hg=>?_)
   rcases hg with(h|⟨_,h⟩)|h
   ·exact .inl h
   ·exact .inr (by simp[h])
   ·exact .inr (by simp[h])
  ·cases h
 split
 ·rintro(h|⟨_,hf|hf|hf⟩|⟨h,_⟩)
  ·cases h
  ·exact hf (room [_] _ (by simp) fun g hg=>hg.imp id fun h=>by simpa using h)
  ·refine hf (room [fun y=>fF F x.a (dQ.aQ y x.b.toNat false),fun y=>fF F x.a (dQ.aQ y x.b.toNat true)] _ (by simp) fun g hg=>?_)
   rcases hg with(h|h)|h
   ·exact .inl h
   ·exact .inr (by simp[h])
   ·exact .inr (by simp[h])
  ·refine hf (room [fun y=>fF F x.a (dQ.aQ y x.b.toNat false),fun y=>fF F x.a (dQ.aQ y x.b.toNat true),gH n (fF F) x] _ (by simp) fun g hg=>?_)
   rcases hg with((h|h)|h)|h
   ·exact .inl h
   ·exact .inr (by simp[h])
   ·exact .inr (by simp[h])
   ·exact .inr (by simp[h])
  ·cases h
 ·rintro(⟨h,_⟩|⟨_,hf⟩|⟨h,_⟩)
  ·cases h
  ·exact hf (room [_] _ (by simp) fun g hg=>hg.imp id fun h=>by simpa using h)
  ·cases h
theorem nf(L:List aq.Fn)(g:aq.Fn):pU L g≤L.length:=List.countP_le_length
theorem xW(h:(mi F).length<65533):¬po n cap (mi F) (fF F) x o 8:=by
 unfold po
 split
 ·rintro(h|⟨h,_⟩|⟨_,g,hg⟩)
  ·cases h
  ·cases h
  ·have:=nf (mi F) g;omega
 split
 ·rintro(h|⟨h,_⟩|⟨_,g,hg⟩)
  ·cases h
  ·cases h
  ·have:=nf (mi F) g;omega
 split
 ·rintro(h|⟨h,_⟩|⟨_,g,hg⟩)
  ·cases h
  ·cases h
  ·have:=nf (mi F) g;omega
 ·rintro(⟨h,_⟩|⟨h,_⟩|⟨_,h⟩)
  ·cases h
  ·cases h
  ·have:=nf (mi F) (gH n (fF F) x)
   have:=h.2
   omega
theorem iL{w f:Nat}(h:oW sp c nx F ord tr H)(hc:c.Ok)(Ao:nx+1<9223372036854775808)(hx:x.x<18446744073709551616)(hm:eZ x.op=some (w,f))(hf:mH f x.op w)(dF:aG Tryz.prog f=true)(hw:w<256)(hl:jd c.n F w x=0)
 (hr:(F.length+3)*2^c.n+2≤c.cap)(h8:F.length<65533):
  Fc Tryz.prog 16 #[ptr sp,x.v] H (fun v H'=>v=iY 0 nx 0 1∧oW sp c (nx+1) (F++[((nx:Int),gH c.n (fF F) x)]) ord [] H'):=by
 have hlen:(mi F).length=F.length:=by unfold mi;rw[List.length_map]
 have D2:∀o,¬po c.n c.cap (mi F) (fF F) x o 9:=fun o=>vg (by rw[hlen];exact hr)
 refine jI (fun v H h=>?_) (fun w' f' hm'=>?_) (fun f hn=>by rw[hm]at hn;cases hn) (fun hn=>by rw[hm]at hn;cases hn)
 ·obtain⟨rfl,_⟩:=h;exact⟨_,_,_,_,rfl⟩
 ·rw[hm]at hm'
  cases hm'
  refine(ya (R:=fun _ _=>False) h hc Ao hx hf dF hw hl fun hT _ _=>absurd hT (D2 _)).mono ?_
  rintro v H' ⟨t,o,de,ht,hT,hq⟩
  have h1:t=1∧o=ord:=by
   cases hT with
   |one=>exact⟨rfl,rfl⟩
   |more h h9 _=>exact absurd h9 (D2 _)
  obtain⟨rfl,rfl⟩:=h1
  rcases hq with⟨rfl,h',_⟩|⟨e,he,_,_,zD,_⟩
  ·exact⟨rfl,h'⟩
  ·rcases he with rfl|rfl
   ·exact absurd zD (xW (by rw[hlen];exact h8))
   ·exact absurd zD (D2 _)
theorem x9{w f:Nat}(h:oW sp c nx F ord tr H)(hx:x.x<18446744073709551616)(hm:eZ x.op=some (w,f))(hw:w<256)(hl:jd c.n F w x≠0):
  Fc Tryz.prog 16 #[ptr sp,x.v] H (fun v H'=>v=iY (jd c.n F w x) (-1) 0 0∧H'=H):=by
 refine jI (fun v H h=>?_) (fun w' f' hm'=>?_) (fun f hn=>by rw[hm]at hn;cases hn) (fun hn=>by rw[hm]at hn;cases hn)
 ·obtain⟨rfl,_⟩:=h;exact⟨_,_,_,_,rfl⟩
 ·rw[hm]at hm'
  cases hm'
  exact Fc.mono (pA h hx hw hl) fun v H ⟨e1,e2⟩=>⟨e2,e1⟩
theorem oL{f:Nat}{Q:Value→Hp→Prop}(hm:eZ x.op=none)(ha:iq x.op=some f)(hQ:∀v H,Q v H→Dd v)(h:Fc Tryz.prog f #[ptr sp,x.v] H Q):Fc Tryz.prog 16 #[ptr sp,x.v] H Q:=
 jI hQ (fun w f hn=>by rw[hm]at hn;cases hn) (fun f' _ cf _=>by rw[ha]at cf;cases cf;exact h) (fun _ hn=>by rw[ha]at hn;cases hn)
end
def Fu:List dJ:=[⟨1,0,0,0,0⟩,⟨1,1,0,0,0⟩,⟨4,0,1,0,0⟩,⟨16,2,0,0,0⟩,⟨14,2,0,0,3⟩,⟨1,2,0,0,0⟩]
def Bg:List Rp:=[⟨0,0,0,1⟩,⟨0,1,0,1⟩,⟨0,2,0,1⟩,⟨0, -1,1,0⟩,⟨0, -1,1,0⟩,⟨2, -1,0,0⟩]
def Fv:FS:=[(0,fun y=>y.testBit 0),(1,fun y=>y.testBit 1),(2,fun y=>y.testBit 0&&y.testBit 1)]
def zK:Cf:=⟨2,1048576,0,100,0⟩
theorem ni:zK.Ok:=⟨by decide,by decide,by decide,by decide,by decide,by decide⟩
theorem yU{i sp:Nat}{H:Hp}{x:dJ}(hx:Fu[i]? =some x)(h:oW sp zK (min i 3) (Fv.take i) [0,1] [] H):
  Fc Tryz.prog 16 #[ptr sp,x.v] H (fun v H'=>∃r,Bg[i]? =some r∧v=r.v∧oW sp zK (min (i+1) 3) (Fv.take (i+1)) [0,1] [] H'):=by
 have hi:i<6:=(List.getElem?_eq_some_iff.1 hx).1
 obtain rfl|rfl|rfl|rfl|rfl|rfl:i=0∨i=1∨i=2∨i=3∨i=4∨i=5:=by omega
 ·cases hx
  refine(iL h ni (by decide) (by decide) (w:=8) rfl (ij rfl).1 (ij (x:=⟨1,0,0,0,0⟩) rfl).2 (by decide) rfl (by decide) (by decide)).mono ?_
  rintro v H' ⟨rfl,h'⟩
  exact⟨_,rfl,rfl,h'⟩
 ·cases hx
  refine(iL h ni (by decide) (by decide) (w:=8) rfl (ij rfl).1 (ij (x:=⟨1,1,0,0,0⟩) rfl).2 (by decide) rfl (by decide) (by decide)).mono ?_
  rintro v H' ⟨rfl,h'⟩
  exact⟨_,rfl,rfl,h'⟩
 ·cases hx
  refine(iL h ni (by decide) (by decide) (w:=3) rfl (oJ rfl).1 (oJ (x:=⟨4,0,1,0,0⟩) rfl).2 (by decide) rfl (by decide) (by decide)).mono ?_
  rintro v H' ⟨rfl,h'⟩
  exact⟨_,rfl,rfl,h'⟩
 ·cases hx
  refine oL (f:=90) rfl rfl (fun v H h=>?_) (Fc.mono (xN h) ?_)
  ·obtain⟨r,_,rfl,_⟩:=h;exact⟨_,_,_,_,rfl⟩
  rintro v H' ⟨rfl,rfl⟩
  refine⟨_,rfl,?_,h⟩
  have:sat 2 (fun y=>y.testBit 0&&y.testBit 1)%nr=1:=by decide+kernel
  show iY 0 (-1) (sat 2 (fun y=>y.testBit 0&&y.testBit 1)%nr) 0=_
  rw[this];rfl
 ·cases hx
  refine oL (f:=88) rfl rfl (fun v H h=>?_) (Fc.mono (yO h (by decide)) ?_)
  ·obtain⟨r,_,rfl,_⟩:=h;exact⟨_,_,_,_,rfl⟩
  rintro v H' ⟨rfl,rfl⟩
  exact⟨_,rfl,rfl,h⟩
 ·cases hx
  refine(x9 h (by decide) (w:=8) rfl (by decide) (by decide)).mono ?_
  rintro v H' ⟨rfl,rfl⟩
  exact⟨_,rfl,rfl,h⟩
set_option maxHeartbeats 1000000 in
theorem pZ(B:Hp):Rd Tryz.prog 13 #[] B (· =.bool true):=by
 refine aX fun g=>uF ?_
 refine aa.eq (u6 2 _) ?_
 refine Build.mk (cs:=dJ.cells ⟨1,0,0,0,0⟩) (by kernel_rfl) ?_
 refine Build.mk (cs:=dJ.cells ⟨1,1,0,0,0⟩) (by kernel_rfl) ?_
 refine Build.mk (cs:=dJ.cells ⟨4,0,1,0,0⟩) (by kernel_rfl) ?_
 refine Build.mk (cs:=dJ.cells ⟨16,2,0,0,0⟩) (by kernel_rfl) ?_
 refine Build.mk (cs:=dJ.cells ⟨14,2,0,0,3⟩) (by kernel_rfl) ?_
 refine Build.mk (cs:=dJ.cells ⟨1,2,0,0,0⟩) (by kernel_rfl) ?_
 refine an.many (e:=35) (k:=5) (z:=.agg #[.int .u8 0,i64 0,i64 0,i64 0,u64 0]) (Fu.map dJ.cells) (by kernel_rfl) (by kernel_rfl) (by kernel_rfl) (by decide) (by decide) rfl rfl fun bx=>?_
 refine aa.fn (aT.left (A:=B)) (rS (c:=zK.i) (steps:=Fu) (Y:=[(bx,_)]) (y9 (by decide) (by decide) rfl) (by decide) (fun i sp l H=>l=Bg.take i∧oW sp zK (min i 3) (Fv.take i) [0,1] [] H) (fun d hd hok sp kp mb C hK=>?_) (fun i sp l H x he hx hI hl=>?_)) ?_
 ·have:d=zK:=by
   obtain⟨a1,a2,a3,a4,a5⟩:=d
   simp only[zK,Cf.i,kT.mk.injEq]at hd
   simp only[zK,Cf.mk.injEq]
   omega
  subst this
  exact⟨rfl,r8 hK⟩
 ·obtain⟨rfl,hI⟩:=hI
  refine(yU hx hI).mono ?_
  rintro v H' ⟨r,hr,rfl,h'⟩
  exact⟨r,rfl,by rw[List.take_add_one,hr];rfl,h'⟩
 ·rintro w H (⟨hne,_⟩|⟨_,sp,l,s,CR,HS,rfl,rfl,hR,hl,hI⟩)
  ·exact absurd ni.bU hne
  have HG:l=Bg:=hI.1
  subst HG
  refine Ext.two ?_
  refine Build.mk (cs:=Rp.cells ⟨0,0,0,1⟩) (by kernel_rfl) ?_
  refine Build.mk (cs:=Rp.cells ⟨0,1,0,1⟩) (by kernel_rfl) ?_
  refine Build.mk (cs:=Rp.cells ⟨0,2,0,1⟩) (by kernel_rfl) ?_
  refine Build.mk (cs:=Rp.cells ⟨0, -1,1,0⟩) (by kernel_rfl) ?_
  refine Build.mk (cs:=Rp.cells ⟨0, -1,1,0⟩) (by kernel_rfl) ?_
  refine Build.mk (cs:=Rp.cells ⟨2, -1,0,0⟩) (by kernel_rfl) ?_
  refine an.many (e:=37) (k:=4) (z:=.agg #[i64 0,i64 0,u64 0,i64 0]) (Bg.map Rp.cells) (by kernel_rfl) (by kernel_rfl) (by kernel_rfl) (by decide) (by decide) rfl rfl fun II=>?_
  intro FF Iw
  refine ae.iR ?_
  refine Split.go (by decide) ?_
  refine aa.eh .here (sV (l:=Bg) (r:=Bg) ((Sl.lF hR (by decide)).mono fun _ h=>?_) ((y9 (T:=37) (by decide) (by decide) rfl).mono fun _ h=>?_) (by decide)) ?_
  ·exact .tail _ (List.mem_append_left _ (List.mem_append_left _ h))
  ·rw[List.mem_singleton.1 h];exact .head _
  rw[ew.2 rfl]
  refine ax.mk (JE.mk (Iw _ _ fun _=>?_))
  exact bF.mk (.skip aS.right) rfl
end Go.Proofs
set_option maxRecDepth 100000
namespace Go.Proofs
open Go Go.Sx
def nI(x:Nat):Value:=.int .i64 (x:Int)
abbrev er(v:Value)(l0:List Int)(C:Hp):Prop:=Dt 3 .i64 v l0 C
def Bh(v:Value)(l0:List Int):Value→Hp→Prop:=fun r C'=>r=.tuple #[]∧er v l0 C'
section
variable {v:Value} {l0:List Int} {C:Hp}
theorem x5(x:Int)(B:Hp):Rd Tryz.prog 308 #[.int .i64 x] B (· =.bool false):=by
 refine aX fun g=>qq ?_
 refine ae.ep ?_
 exact bF.mk (.refl _) (by simp)
theorem bG(x y:Int)(B:Hp):Rd Tryz.prog 218 #[.int .i64 x,.int .i64 y] B (· =.bool (decide (x<y))):=by
 refine aX fun g=>qQ ?_
 intro J1 E7
 refine aa.eq (x5 x B) ?_
 refine Split.Bt rfl ?_
 refine ax.mk ?_
 refine ae.lss ?_
 refine ax.mk ?_
 exact JE.mk (E7 _ _ fun gs=>bF.mk (.refl _) rfl)
theorem mc(h:er v l0 C){a b:Nat}(hab:a≤b)(hb:b≤l0.length)(bL:l0.length<1152921504606846976):Fc Tryz.prog 212 #[v,.int .i64 (a:Int),.int .i64 (b:Int)] C (Bh v l0):=by
 refine aX fun g=>qW ?_
 refine ae.inc ?_
 refine⟨fun vs H=>∃i:Nat,vs=[.int .i64 (i:Int)]∧a<i∧er v l0 H,fun vs _=>l0.length-cj vs 0,JE.mk ⟨a+1,rfl,by omega,h⟩,?_⟩
 rintro w H ⟨i,hw,hi,hd⟩ gs
 simp only[List.cons.injEq,and_true]at hw
 subst hw
 refine ae.jB (Br.dec (fun hlt=>?_) (fun _=>aY.here ⟨rfl,hd⟩))
 refine⟨fun vs H=>∃j:Nat,vs=[.int .i64 (j:Int)]∧a≤j∧j≤i∧er v l0 H,fun vs _=>cj vs 0,JE.mk ⟨i,rfl,by omega,Nat.le_refl _,hd⟩,?_⟩
 rintro w H ⟨j,hw,zB,BY,hd⟩ gs
 simp only[List.cons.injEq,and_true]at hw
 subst hw
 intro J hJ
 have no:J [.bool false] H:=hJ _ _ fun gs=>Br.no (ae.inc (av.mk ⟨i+1,rfl,by omega,hd⟩ (by simp[cj];omega)))
 have yes:a<j→J [.bool true] H:=fun zB=>hJ _ _ fun gs=>Br.yes (DR.self (ae.bp (b:=1) (ae.bp (b:=1)
  (hd.swap .here (by omega) (by omega) fun C' dj=>ae.bp (b:=1) (av.mk ⟨j-1,rfl,by omega,by omega,dj⟩ (by simp[cj];omega))))))
 refine DR.self (ae.og (Br.dec (fun hgt=>?_) fun _=>JE.mk no))
 refine hd.ld (fun _ h=>h) (by omega) fun x=>?_
 refine ae.bp (b:=1) ?_
 refine hd.ld (fun _ h=>h) (by omega) fun y=>?_
 intro F
 refine aa.eq (bG x y _) ?_
 refine ax.mk ?_
 by_cases e:x<y
 ·rw[decide_eq_true e];exact JE.mk (yes hgt)
 ·rw[decide_eq_false e];exact JE.mk no
theorem xQ(h:er v l0 C){a b:Nat}(hab:a<b)(hb:b≤l0.length)(bL:l0.length<1152921504606846976):Fc Tryz.prog 216 #[v,.int .i64 (a:Int),.int .i64 (b:Int)] C (Bh v l0):=by
 refine aX fun g=>qS ?_
 refine ae.bp (b:=1) ?_
 refine⟨fun vs H=>∃i j:Nat,vs=[.int .i64 (i:Int),.int .i64 (j:Int)]∧j<l0.length∧er v l0 H,fun vs _=>cj vs 1-cj vs 0,JE.mk ⟨a,b-1,rfl,by omega,h⟩,?_⟩
 rintro w w' H ⟨i,j,hw,hj,hd⟩ gs
 simp only[List.cons.injEq,and_true]at hw
 obtain⟨rfl,rfl⟩:=hw
 refine ae.jB (Br.dec (fun hlt=>?_) (fun _=>aY.here ⟨rfl,hd⟩))
 refine DR.self (hd.swap .here (by omega) (by omega) fun C' dj=>?_)
 refine ae.inc ?_
 refine ae.bp (b:=1) ?_
 exact av.mk ⟨i+1,j-1,rfl,by omega,dj⟩ (by simp[cj];omega)
theorem u7(h:er v l0 C){a b:Nat}(hab:a<b)(hb:b≤l0.length)(bL:l0.length<1152921504606846976):Fc Tryz.prog 217 #[v,.int .i64 (a:Int),.int .i64 (b:Int)] C (fun r C'=>(∃t,r=.bool t)∧er v l0 C'):=by
 refine aX fun g=>qR ?_
 refine ae.inc ?_
 refine⟨fun vs H=>∃i k:Nat,vs=[.int .i64 (i:Int),.int .i64 (k:Int)]∧a<i∧i≤b∧er v l0 H,fun vs _=>5-cj vs 1,JE.mk ⟨a+1,0,rfl,by omega,by omega,h⟩,?_⟩
 rintro w w' H ⟨i,k,hw,xp,j8,hd⟩ gs
 simp only[List.cons.injEq,and_true]at hw
 obtain⟨rfl,rfl⟩:=hw
 refine ae.jB (b:=5) (Br.dec (fun hk=>?_) (fun _=>aY.here ⟨⟨_,rfl⟩,hd⟩))
 intro J9 wk
 have next:∀(i':Nat) H',a<i'→i'≤b→er v l0 H'→J9 [.int .i64 (i':Int)] H':=fun i' H' h1 h2 dj=>wk _ _ fun gs=>ae.inc (av.mk ⟨i',k+1,rfl,h1,h2,dj⟩ (by simp[cj];omega))
 refine⟨fun vs H=>∃i:Nat,vs=[.int .i64 (i:Int)]∧a<i∧i≤b∧er v l0 H,fun vs _=>b-cj vs 0,JE.mk ⟨i,rfl,xp,j8,hd⟩,?_⟩
 clear hd xp j8
 rintro w H ⟨i,hw,xp,j8,hd⟩ gs
 simp only[List.cons.injEq,and_true]at hw
 subst hw
 intro DP Cv
 have yes:i<b→DP [.bool true] H:=fun hlt=>Cv _ _ fun gs=>Br.yes (ae.inc (av.mk ⟨i+1,rfl,by omega,by omega,hd⟩ (by simp[cj];omega)))
 have no:DP [.bool false] H:=by
  refine Cv _ _ fun gs=>Br.no ?_
  refine ae.lg (Br.dec (fun he=>aY.here ⟨⟨_,rfl⟩,hd⟩) (fun hne=>?_))
  refine ae.bp ?_
  refine ae.jB (b:=50) (Br.dec (fun he=>aY.here ⟨⟨_,rfl⟩,hd⟩) (fun _=>?_))
  refine DR.self ?_
  refine ae.bp (b:=1) ?_
  refine ae.bp (b:=1) ?_
  refine hd.swap .here (by omega) (by omega) fun C1 xo=>?_
  intro IX EZ
  have tail:∀H',er v l0 H'→IX [] H':=fun H' dj=>by
   refine EZ _ fun gs=>?_
   refine ae.bp ?_
   refine ae.m6 (b:=2) (Br.dec (fun h2=>?_) (fun _=>JE.mk (next i _ xp j8 dj)))
   refine ae.inc ?_
   refine⟨fun vs H=>∃j:Nat,vs=[.int .i64 (j:Int)]∧0<j∧er v l0 H,fun vs _=>b-cj vs 0,JE.mk ⟨i+1,rfl,by omega,dj⟩,?_⟩
   rintro w H ⟨j,hw,HJ,v5⟩ gs
   simp only[List.cons.injEq,and_true]at hw
   subst hw
   refine ae.jB (Br.dec (fun hlt=>?_) (fun _=>JE.mk (next i _ xp j8 v5)))
   refine DR.self ?_
   refine v5.ld (fun _ h=>h) (by omega) fun x=>?_
   refine ae.bp (b:=1) ?_
   refine v5.ld (fun _ h=>h) (by omega) fun y=>?_
   refine aa.eq (bG x y _) ?_
   refine Un.not ?_
   refine Br.mk (fun _=>JE.mk (next i _ xp j8 v5)) (fun _=>?_)
   refine DR.self ?_
   refine ae.bp (b:=1) ?_
   refine ae.bp (b:=1) ?_
   refine v5.swap .here (by omega) (by omega) fun C2 oT=>?_
   refine ae.inc ?_
   exact av.mk ⟨j+1,rfl,by omega,oT⟩ (by simp[cj];omega)
  refine ae.bp ?_
  refine ae.m6 (b:=2) (Br.dec (fun h2=>?_) (fun _=>JE.mk (tail _ xo)))
  refine ae.bp (b:=1) ?_
  refine⟨fun vs H=>∃j:Nat,vs=[.int .i64 (j:Int)]∧j<l0.length∧er v l0 H,fun vs _=>cj vs 0,JE.mk ⟨i-1,rfl,by omega,xo⟩,?_⟩
  rintro w H ⟨j,hw,HJ,v5⟩ gs
  simp only[List.cons.injEq,and_true]at hw
  subst hw
  refine ae.m6 (b:=1) (Br.dec (fun hlt=>?_) (fun _=>JE.mk (tail _ v5)))
  refine DR.self ?_
  refine v5.ld (fun _ h=>h) (by omega) fun x=>?_
  refine ae.bp (b:=1) ?_
  refine v5.ld (fun _ h=>h) (by omega) fun y=>?_
  refine aa.eq (bG x y _) ?_
  refine Un.not ?_
  refine Br.mk (fun _=>JE.mk (tail _ v5)) (fun _=>?_)
  refine DR.self ?_
  refine ae.bp (b:=1) ?_
  refine ae.bp (b:=1) ?_
  refine v5.swap .here (by omega) (by omega) fun C2 oT=>?_
  refine ae.bp (b:=1) ?_
  exact av.mk ⟨j-1,rfl,by omega,oT⟩ (by simp[cj];omega)
 refine DR.self (ae.jB (Br.dec (fun hlt=>?_) fun _=>JE.mk no))
 refine hd.ld (fun _ h=>h) (by omega) fun x=>?_
 refine ae.bp (b:=1) ?_
 refine hd.ld (fun _ h=>h) (by omega) fun y=>?_
 intro F
 refine aa.eq (bG x y _) ?_
 refine Un.not ?_
 refine ax.mk ?_
 by_cases e:x<y
 ·rw[decide_eq_true e];exact JE.mk no
 ·rw[decide_eq_false e];exact JE.mk (yes hlt)
theorem pn(h:er v l0 C){a b p:Nat}(hp:a≤p∧p<b)(hb:b≤l0.length)(bL:l0.length<1152921504606846976):Fc Tryz.prog 219 #[v,.int .i64 (a:Int),.int .i64 (b:Int),.int .i64 (p:Int)] C
  (fun r C'=>(∃m:Nat,r=.int .i64 (m:Int)∧a<m∧m≤b)∧er v l0 C'):=by
 refine aX fun g=>qP ?_
 refine DR.self (h.swap .here (by omega) (by omega) fun C1 hd=>?_)
 refine ae.inc ?_
 refine ae.bp (b:=1) ?_
 refine⟨fun vs H=>∃i j:Nat,vs=[.int .i64 (i:Int),.int .i64 (j:Int)]∧a<i∧i≤b∧a≤j∧j<b∧er v l0 H,fun vs _=>b-cj vs 0,JE.mk ⟨a+1,b-1,rfl,by omega,by omega,by omega,by omega,hd⟩,?_⟩
 clear hd
 rintro w w' H0 ⟨i0,j0,hw,xp,j8,zB,A6,hd⟩ gs
 simp only[List.cons.injEq,and_true]at hw
 obtain⟨rfl,rfl⟩:=hw
 refine⟨fun vs H=>∃i:Nat,vs=[.int .i64 (i:Int)]∧i0≤i∧i≤b∧er v l0 H,fun vs _=>b-cj vs 0,JE.mk ⟨i0,rfl,Nat.le_refl _,j8,hd⟩,?_⟩
 clear hd j8
 rintro w H ⟨i,hw,Ex,j8,hd⟩ gs
 simp only[List.cons.injEq,and_true]at hw
 subst hw
 intro FF Cu
 have yes:i≤j0→FF [.bool true] H:=fun hle=>Cu _ _ fun gs=>Br.yes (ae.inc (av.mk ⟨i+1,rfl,by omega,by omega,hd⟩ (by simp[cj];omega)))
 have no:FF [.bool false] H:=by
  refine Cu _ _ fun gs=>Br.no ?_
  refine⟨fun vs H=>∃j:Nat,vs=[.int .i64 (j:Int)]∧a≤j∧j<b∧er v l0 H,fun vs _=>cj vs 0,JE.mk ⟨j0,rfl,zB,A6,hd⟩,?_⟩
  rintro w H' ⟨j,hw,Cc,B0,dj⟩ gs
  simp only[List.cons.injEq,and_true]at hw
  subst hw
  intro DO yG
  have sN:i≤j→DO [.bool true] H':=fun hle=>yG _ _ fun gs=>Br.yes (ae.bp (b:=1) (av.mk ⟨j-1,rfl,by omega,by omega,dj⟩ (by simp[cj];omega)))
  have zc:DO [.bool false] H':=by
   refine yG _ _ fun gs=>Br.no ?_
   refine ae.og (Br.dec (fun _=>aY.here ⟨⟨i,rfl,by omega,j8⟩,dj⟩) (fun hle=>?_))
   refine DR.self (dj.swap .here (by omega) (by omega) fun C2 oT=>?_)
   refine ae.inc ?_
   refine ae.bp (b:=1) ?_
   exact av.mk ⟨i+1,j-1,rfl,by omega,by omega,by omega,by omega,oT⟩ (by simp[cj];omega)
  refine DR.self (ae.uG (Br.dec (fun hle=>?_) fun _=>JE.mk zc))
  refine dj.ld (fun _ h=>h) (by omega) fun x=>?_
  refine dj.ld (fun _ h=>h) (by omega) fun y=>?_
  intro F
  refine aa.eq (bG x y _) ?_
  refine ax.mk ?_
  by_cases e:x<y
  ·rw[decide_eq_true e];exact JE.mk (sN hle)
  ·rw[decide_eq_false e];exact JE.mk zc
 refine DR.self (ae.uG (Br.dec (fun hle=>?_) fun _=>JE.mk no))
 refine hd.ld (fun _ h=>h) (by omega) fun x=>?_
 refine hd.ld (fun _ h=>h) (by omega) fun y=>?_
 intro F
 refine aa.eq (bG x y _) ?_
 refine Un.not ?_
 refine ax.mk ?_
 by_cases e:x<y
 ·rw[decide_eq_true e];exact JE.mk no
 ·rw[decide_eq_false e];exact JE.mk (yes hle)
end
section
variable {v:Value} {l0:List Int} {C:Hp}
def IP(v:Value)(l0:List Int)(a b:Nat):Value→Hp→Prop:=fun r C'=>(∃(m:Nat) (t:Bool),r=.tuple #[.int .i64 (m:Int),.bool t]∧a≤m∧m<b)∧er v l0 C'
theorem vc(h:er v l0 C){a b p:Nat}(hp:a≤p∧p<b)(hb:b≤l0.length)(bL:l0.length<1152921504606846976):Fc Tryz.prog 220 #[v,.int .i64 (a:Int),.int .i64 (b:Int),.int .i64 (p:Int)] C (IP v l0 a b):=by
 refine aX fun g=>qO ?_
 refine DR.self (h.swap .here (by omega) (by omega) fun C1 hd=>?_)
 refine ae.inc ?_
 refine ae.bp (b:=1) ?_
 refine⟨fun vs H=>∃i:Nat,vs=[.int .i64 (i:Int)]∧a<i∧i≤b∧er v l0 H,fun vs _=>b-cj vs 0,JE.mk ⟨a+1,rfl,by omega,by omega,hd⟩,?_⟩
 clear hd
 rintro w H ⟨i,hw,xp,j8,hd⟩ gs
 simp only[List.cons.injEq,and_true]at hw
 subst hw
 intro Dc wm
 have yes:i<b→Dc [.bool true] H:=fun hle=>wm _ _ fun gs=>Br.yes (ae.inc (av.mk ⟨i+1,rfl,by omega,by omega,hd⟩ (by simp[cj];omega)))
 have no:Dc [.bool false] H:=by
  refine wm _ _ fun gs=>Br.no ?_
  refine⟨fun vs H=>∃j:Nat,vs=[.int .i64 (j:Int)]∧a≤j∧j<b∧er v l0 H,fun vs _=>cj vs 0,JE.mk ⟨b-1,rfl,by omega,by omega,hd⟩,?_⟩
  clear hd
  rintro w H ⟨j,hw,zB,A6,hd⟩ gs
  simp only[List.cons.injEq,and_true]at hw
  subst hw
  intro FE AG
  have sN:i≤j→FE [.bool true] H:=fun hle=>AG _ _ fun gs=>Br.yes (ae.bp (b:=1) (av.mk ⟨j-1,rfl,by omega,by omega,hd⟩ (by simp[cj];omega)))
  have zc:FE [.bool false] H:=by
   refine AG _ _ fun gs=>Br.no ?_
   refine ae.og (Br.dec (fun _=>?_) (fun hle=>?_))
   ·refine DR.self (hd.swap .here (by omega) (by omega) fun C2 oT=>?_)
    exact aY.here ⟨⟨j,true,rfl,zB,A6⟩,oT⟩
   ·refine DR.self (hd.swap .here (by omega) (by omega) fun C2 oT=>?_)
    refine ae.inc ?_
    refine ae.bp (b:=1) ?_
    refine⟨fun vs H=>∃i j:Nat,vs=[.int .i64 (i:Int),.int .i64 (j:Int)]∧a<i∧i≤b∧a≤j∧j<b∧er v l0 H,fun vs _=>b-cj vs 0,JE.mk ⟨i+1,j-1,rfl,by omega,by omega,by omega,by omega,oT⟩,?_⟩
    clear oT hd xp j8 zB A6 hle sN AG FE wm Dc yes
    rintro w w' H0 ⟨i0,j0,hw,xp,j8,zB,A6,hd⟩ gs
    simp only[List.cons.injEq,and_true]at hw
    obtain⟨rfl,rfl⟩:=hw
    refine⟨fun vs H=>∃i:Nat,vs=[.int .i64 (i:Int)]∧i0≤i∧i≤b∧er v l0 H,fun vs _=>b-cj vs 0,JE.mk ⟨i0,rfl,Nat.le_refl _,j8,hd⟩,?_⟩
    clear hd j8
    rintro w H ⟨i,hw,Ex,j8,hd⟩ gs
    simp only[List.cons.injEq,and_true]at hw
    subst hw
    intro GO Cq
    have yes:i≤j0→GO [.bool true] H:=fun hle=>Cq _ _ fun gs=>Br.yes (ae.inc (av.mk ⟨i+1,rfl,by omega,by omega,hd⟩ (by simp[cj];omega)))
    have no:GO [.bool false] H:=by
     refine Cq _ _ fun gs=>Br.no ?_
     refine⟨fun vs H=>∃j:Nat,vs=[.int .i64 (j:Int)]∧a≤j∧j<b∧er v l0 H,fun vs _=>cj vs 0,JE.mk ⟨j0,rfl,zB,A6,hd⟩,?_⟩
     rintro w H' ⟨j,hw,Cc,B0,dj⟩ gs
     simp only[List.cons.injEq,and_true]at hw
     subst hw
     intro GN Cp
     have sN:i≤j→GN [.bool true] H':=fun hle=>Cp _ _ fun gs=>Br.yes (ae.bp (b:=1) (av.mk ⟨j-1,rfl,by omega,by omega,dj⟩ (by simp[cj];omega)))
     have zc:GN [.bool false] H':=by
      refine Cp _ _ fun gs=>Br.no ?_
      refine ae.og (Br.dec (fun _=>?_) (fun hle=>?_))
      ·refine DR.self (dj.swap .here (by omega) (by omega) fun C2 oT=>?_)
       exact aY.here ⟨⟨j,false,rfl,Cc,B0⟩,oT⟩
      ·refine DR.self (dj.swap .here (by omega) (by omega) fun C2 oT=>?_)
       refine ae.inc ?_
       refine ae.bp (b:=1) ?_
       exact av.mk ⟨i+1,j-1,rfl,by omega,by omega,by omega,by omega,oT⟩ (by simp[cj];omega)
     refine DR.self (ae.uG (Br.dec (fun hle=>?_) fun _=>JE.mk zc))
     refine dj.ld (fun _ h=>h) (by omega) fun x=>?_
     refine dj.ld (fun _ h=>h) (by omega) fun y=>?_
     intro F
     refine aa.eq (bG x y _) ?_
     refine Un.not ?_
     refine ax.mk ?_
     by_cases e:x<y
     ·rw[decide_eq_true e];exact JE.mk zc
     ·rw[decide_eq_false e];exact JE.mk (sN hle)
    refine DR.self (ae.uG (Br.dec (fun hle=>?_) fun _=>JE.mk no))
    refine hd.ld (fun _ h=>h) (by omega) fun x=>?_
    refine hd.ld (fun _ h=>h) (by omega) fun y=>?_
    intro F
    refine aa.eq (bG x y _) ?_
    refine ax.mk ?_
    by_cases e:x<y
    ·rw[decide_eq_true e];exact JE.mk (yes hle)
    ·rw[decide_eq_false e];exact JE.mk no
  refine DR.self (ae.uG (Br.dec (fun hle=>?_) fun _=>JE.mk zc))
  refine hd.ld (fun _ h=>h) (by omega) fun x=>?_
  refine hd.ld (fun _ h=>h) (by omega) fun y=>?_
  intro F
  refine aa.eq (bG x y _) ?_
  refine Un.not ?_
  refine ax.mk ?_
  by_cases e:x<y
  ·rw[decide_eq_true e];exact JE.mk zc
  ·rw[decide_eq_false e];exact JE.mk (sN hle)
 refine DR.self (ae.uG (Br.dec (fun hle=>?_) fun _=>JE.mk no))
 refine hd.ld (fun _ h=>h) (by omega) fun x=>?_
 refine hd.ld (fun _ h=>h) (by omega) fun y=>?_
 intro F
 refine aa.eq (bG x y _) ?_
 refine ax.mk ?_
 by_cases e:x<y
 ·rw[decide_eq_true e];exact JE.mk (yes (by omega))
 ·rw[decide_eq_false e];exact JE.mk no
theorem nF(h:er v l0 C){lo hi f:Nat}(hlo:lo≤l0.length)(hb:f+hi≤l0.length)(bL:l0.length<1152921504606846976):Fc Tryz.prog 303 #[v,.int .i64 (lo:Int),.int .i64 (hi:Int),.int .i64 (f:Int)] C (Bh v l0):=by
 refine aX fun g=>qw ?_
 refine⟨fun vs H=>∃i:Nat,vs=[.int .i64 (i:Int)]∧i≤l0.length∧er v l0 H,fun vs _=>l0.length-cj vs 0,JE.mk ⟨lo,rfl,hlo,h⟩,?_⟩
 rintro w H ⟨r,hw,hr,hd⟩ gs
 simp only[List.cons.injEq,and_true]at hw
 subst hw
 refine ae.py (a:=2) ?_
 refine ae.inc ?_
 refine ae.m6 (Br.dec (fun _=>aY.here ⟨rfl,hd⟩) (fun hlt=>?_))
 intro J9 wk
 have go:∀c:Nat,r<c→c<hi→J9 [.int .i64 (c:Int)] H:=fun c hrc H9=>by
  refine wk _ _ fun gs=>?_
  refine DR.self ?_
  refine ae.dX ?_
  refine hd.ld (fun _ h=>h) (by omega) fun x=>?_
  refine ae.dX ?_
  refine hd.ld (fun _ h=>h) (by omega) fun y=>?_
  refine aa.eq (bG x y _) ?_
  refine Un.not ?_
  refine Br.mk (fun _=>aY.here ⟨rfl,hd⟩) (fun _=>?_)
  refine DR.self ?_
  refine ae.dX ?_
  refine ae.dX ?_
  refine ae.dX ?_
  refine hd.Bl .here (i:=f+r) (j:=f+c) (B:=fun k=>ae .num .add (.int .i64 (f:Int)) (.int .i64 (r:Int)) k) (by omega) (by omega) (fun k hk=>ae.dX hk) fun C1 xo=>?_
  exact av.mk ⟨c,rfl,by omega,xo⟩ (by simp[cj];omega)
 intro IY Cr
 have stay:IY [.bool false] H:=Cr _ _ fun gs=>Br.no (JE.mk (go _ (by omega) (by omega)))
 refine DR.self ?_
 refine ae.inc ?_
 refine ae.jB (Br.dec (fun hc=>?_) fun _=>JE.mk stay)
 refine ae.dX ?_
 refine hd.ld (fun _ h=>h) (by omega) fun x=>?_
 refine ae.dX ?_
 refine ae.inc ?_
 refine hd.ld (fun _ h=>h) (by omega) fun y=>?_
 intro F
 refine aa.eq (bG x y _) ?_
 refine ax.mk ?_
 by_cases e:x<y
 ·rw[decide_eq_true e]
  exact JE.mk (Cr _ _ fun gs=>Br.yes (ae.inc (JE.mk (go _ (by omega) hc))))
 ·rw[decide_eq_false e];exact JE.mk stay
theorem tf(h:er v l0 C){a b:Nat}(hab:a<b)(hb:b≤l0.length)(bL:l0.length<1152921504606846976):Fc Tryz.prog 213 #[v,.int .i64 (a:Int),.int .i64 (b:Int)] C (Bh v l0):=by
 refine aX fun g=>qV ?_
 refine ae.bp ?_
 refine ae.bp (b:=1) ?_
 refine ae.pP (b:=2) (by simp[cO];omega) (by omega) ?_
 refine⟨fun vs H=>∃q:Int,vs=[.int .i64 q]∧ -1≤q∧q<(b:Int) -a∧er v l0 H,fun vs _=>DT vs,JE.mk ⟨(((b-a-1) /2:Nat):Int),rfl,by omega,by omega,h⟩,?_⟩
 rintro w H ⟨q,hw,En,Em,hd⟩ gs
 simp only[List.cons.injEq,and_true]at hw
 subst hw
 refine ae.geq (Br.dec (fun h0=>?_) (fun _=>?_))
 ·obtain⟨i,rfl⟩:∃i:Nat,q=i:=⟨q.toNat,by omega⟩
  refine aa.fq (nF hd (by omega) (by omega) bL) ?_
  rintro w C1 ⟨rfl,xo⟩
  refine ae.y8 (c:=(i:Int) -1) rfl (by omega) ?_
  exact av.mk ⟨(i:Int) -1,rfl,by omega,by omega,xo⟩ (by rw[mL,mL];omega)
 ·refine ae.bp (b:=1) ?_
  refine⟨fun vs H=>∃q:Int,vs=[.int .i64 q]∧ -1≤q∧q<(b:Int) -a∧er v l0 H,fun vs _=>DT vs,JE.mk ⟨((b-a-1:Nat):Int),rfl,by omega,by omega,hd⟩,?_⟩
  clear hd
  rintro w H ⟨q,hw,En,Em,hd⟩ gs
  simp only[List.cons.injEq,and_true]at hw
  subst hw
  refine ae.geq (Br.dec (fun h0=>?_) (fun _=>aY.here ⟨rfl,hd⟩))
  obtain⟨i,rfl⟩:∃i:Nat,q=i:=⟨q.toNat,by omega⟩
  refine DR.self ?_
  refine ae.dX ?_
  refine ae.dX ?_
  refine hd.swap .here (by omega) (by omega) fun C1 xo=>?_
  refine aa.fq (nF xo (lo:=0) (by omega) (by omega) bL) ?_
  rintro w C2 ⟨rfl,oT⟩
  refine ae.y8 (c:=(i:Int) -1) rfl (by omega) ?_
  exact av.mk ⟨(i:Int) -1,rfl,by omega,by omega,oT⟩ (by rw[mL,mL];omega)
end
section
variable {v:Value} {l0:List Int} {C:Hp}
theorem zX{a b:Nat}(ha:a<18446744073709551616)(hb:b<18446744073709551616):a^^^b<18446744073709551616:=Nat.xor_lt_two_pow (n:=64) ha hb
theorem sO(b x:Nat)(hx:x<18446744073709551616):Fc Tryz.prog 305 #[ptr b] [(b,.cells #[.int .u64 (x:Int)] 371 (0,0))]
  (fun r H=>∃y:Nat,y<18446744073709551616∧r=.int .u64 (y:Int)∧H=[(b,.cells #[.int .u64 (y:Int)] 371 (0,0))]):=by
 refine aX fun g=>qu ?_
 refine DR.self ?_
 refine Nil.ptr (Ld.q ?_)
 refine Nil.ptr (Ld.q ?_)
 refine ae.sR (b:=13) ?_
 refine ae.zW hx (Nat.mod_lt _ (by decide)) ?_
 have h1:=zX hx (Nat.mod_lt (x<<<13) (show 0<18446744073709551616 by decide))
 generalize x^^^x<<<13%18446744073709551616=x1 at h1
 refine Nil.ptr (St.one (by exact .head _) rfl (by simp) rfl ?_)
 refine DR.self ?_
 refine Nil.ptr (Ld.q ?_)
 refine Nil.ptr (Ld.q ?_)
 refine ae.pg (b:=7) h1 ?_
 have h2:x1>>>7<18446744073709551616:=by rw[Nat.shiftRight_eq_div_pow];omega
 refine ae.zW h1 h2 ?_
 have h3:=zX h1 h2
 generalize x1^^^x1>>>7=x2 at h3
 refine Nil.ptr (St.one (by exact .head _) rfl (by simp) rfl ?_)
 refine DR.self ?_
 refine Nil.ptr (Ld.q ?_)
 refine Nil.ptr (Ld.q ?_)
 refine ae.sR (b:=17) ?_
 refine ae.zW h3 (Nat.mod_lt _ (by decide)) ?_
 have h4:=zX h3 (Nat.mod_lt (x2<<<17) (show 0<18446744073709551616 by decide))
 generalize x2^^^x2<<<17%18446744073709551616=x3 at h4
 refine Nil.ptr (St.one (by exact .head _) rfl (by simp) rfl ?_)
 refine Nil.ptr (Ld.q ?_)
 exact aY.here ⟨x3,h4,rfl,rfl⟩
theorem oK{x:Nat}(hx:x<18446744073709551616)(B:Hp):Rd Tryz.prog 154 #[.int .u64 (x:Int)] B (fun v=>∃r:Nat,mF x r∧v=.int .i64 (r:Int)):=by
 refine aX fun g=>ry ?_
 refine Br.no ?_
 refine aa.rq (vz hx B) ?_
 rintro w hw
 exact bF.mk (.refl _) hw
theorem vi{x:Nat}(h0:0<x)(hx:x<1152921504606846976)(B:Hp):Rd Tryz.prog 304 #[.int .i64 (x:Int)] B (fun v=>∃r:Nat,0<r∧r≤2*x∧v=.int .u64 (r:Int)):=by
 refine aX fun g=>qv ?_
 refine bt.q ?_
 refine aa.rq (oK (by omega) B) ?_
 rintro w ⟨r,hr,rfl⟩
 have BI:0<r:=by
  rcases Nat.eq_zero_or_pos r with e|e
  ·subst e;have:=hr.1;omega
  ·exact e
 have h2:2^(r-1)≤x:=by
  rcases hr.2 with e|e
  ·omega
  ·exact e
 have h3:2^r=2*2^(r-1):=by
  obtain⟨k,rfl⟩:∃k,r=k+1:=⟨r-1,by omega⟩
  rw[Nat.add_sub_cancel,Nat.pow_succ];omega
 refine ae.sR (a:=1) ?_
 have e:1<<<r%18446744073709551616=2^r:=by
  rw[Nat.shiftLeft_eq,Nat.one_mul]
  exact Nat.mod_eq_of_lt (by omega)
 rw[e]
 exact bF.mk (.refl _) ⟨2^r,Nat.two_pow_pos r,by omega,rfl⟩
theorem yS(h:er v l0 C){a b:Nat}(hab:a<b)(hb:b≤l0.length)(bL:l0.length<1152921504606846976):Fc Tryz.prog 214 #[v,.int .i64 (a:Int),.int .i64 (b:Int)] C (Bh v l0):=by
 refine aX fun g=>qU ?_
 refine ae.bp ?_
 refine ae.m6 (b:=8) (Br.dec (fun h8=>?_) (fun _=>aY.here ⟨rfl,h⟩))
 refine bt.q ?_
 intro b4 _
 refine St.one (by exact .head _) rfl (by simp) rfl ?_
 refine aa.rq (vi (by omega) (by omega) C) ?_
 rintro w ⟨m,hm0,hm,rfl⟩
 refine ae.pP (b:=4) (by simp[cO];omega) (by omega) ?_
 refine ae.py (b:=2) ?_
 refine ae.dX ?_
 refine ae.bp (b:=1) ?_
 refine⟨fun vs H=>∃(i x:Nat) (C':Hp),vs=[.int .i64 (i:Int)]∧x<18446744073709551616∧H=(b4,.cells #[.int .u64 (x:Int)] 371 (0,0))::C'∧er v l0 C',fun vs _=>b-cj vs 0,
  JE.mk ⟨_,b-a,C,rfl,by omega,rfl,h⟩,?_⟩
 rintro w H ⟨i,x,C',hw,hx,rfl,hd⟩ gs
 simp only[List.cons.injEq,and_true]at hw
 subst hw
 refine ae.pP (b:=4) (by simp[cO];omega) (by omega) ?_
 refine ae.py (b:=2) ?_
 refine ae.dX ?_
 refine ae.inc ?_
 refine ae.uG (Br.dec (fun hle=>?_) (fun _=>aY.mk .tail ⟨rfl,hd⟩))
 refine aa.fn (.left (A:=C')) (sO b4 x hx) ?_
 rintro w H' ⟨y,hy,rfl,rfl⟩
 refine ae.bp (b:=1) ?_
 refine ae.yY (by simp[cO];omega) (by simp[cO];omega) ?_
 have hand:y&&& (m-1)<m:=by have:=Nat.and_le_right (n:=y) (m:=m-1);omega
 generalize y&&& (m-1)=z at hand
 refine bt.q ?_
 intro I0 E3
 have go:∀o:Nat,o<b-a→I0 [.int .i64 (o:Int)] ([(b4,Obj.cells #[.int .u64 (y:Int)] 371 (0,0))]++C'):=fun o ho=>by
  refine E3 _ _ fun gs=>?_
  refine DR.self ?_
  refine ae.dX ?_
  refine ae.dX ?_
  refine hd.swap (.cons .here) (by omega) (by omega) fun C1 xo=>?_
  refine ae.inc ?_
  exact av.mk ⟨i+1,y,C1,rfl,hy,rfl,xo⟩ (by simp[cj];omega)
 refine ae.m6 (Br.dec (fun hge=>?_) (fun hlt=>JE.mk (go z (by omega))))
 refine ae.bp ?_
 exact JE.mk (go _ (by omega))
def IS(b:Nat)(C:Hp)(i j:Nat):Value→Hp→Prop:=fun r H=>(r=.tuple #[.int .i64 (i:Int),.int .i64 (j:Int)]∨r=.tuple #[.int .i64 (j:Int),.int .i64 (i:Int)])∧∃z:Int,H=(b,.cells #[.int .i64 z] 3 (0,0))::C
theorem jM(h:er v l0 C){b:Nat}{z:Int}{i j:Nat}(hi:i<l0.length)(hj:j<l0.length):
  Fc Tryz.prog 369 #[v,.int .i64 (i:Int),.int .i64 (j:Int),ptr b] ((b,.cells #[.int .i64 z] 3 (0,0))::C) (IS b C i j):=by
 refine aX fun g=>qe ?_
 refine DR.self ?_
 refine h.ld (fun _ h=>.tail _ h) hj fun x=>?_
 refine h.ld (fun _ h=>.tail _ h) hi fun y=>?_
 refine aa.eq (bG x y _) ?_
 refine Br.mk (fun _=>?_) (fun _=>aY.here ⟨.inl rfl,z,rfl⟩)
 refine Nil.ptr (Ld.q ?_)
 refine ae.add ?_
 refine Nil.ptr (St.one (by exact .head _) rfl (by simp) rfl ?_)
 exact aY.here ⟨.inr rfl,_,rfl⟩
def GL(b:Nat)(C:Hp)(p:Nat→Prop):Value→Hp→Prop:=fun r H=>(∃m:Nat,r=.int .i64 (m:Int)∧p m)∧∃z:Int,H=(b,.cells #[.int .i64 z] 3 (0,0))::C
theorem rZ(h:er v l0 C){b:Nat}{z:Int}{i j k:Nat}(hi:i<l0.length)(hj:j<l0.length)(hk:k<l0.length):
  Fc Tryz.prog 307 #[v,.int .i64 (i:Int),.int .i64 (j:Int),.int .i64 (k:Int),ptr b] ((b,.cells #[.int .i64 z] 3 (0,0))::C) (GL b C fun m=>m=i∨m=j∨m=k):=by
 refine aX fun g=>qs ?_
 refine aa.fq (jM h hi hj) ?_
 rintro w H ⟨hw,z1,rfl⟩
 obtain⟨i1,j1,rfl,hij⟩:∃i1 j1:Nat,w=.tuple #[.int .i64 (i1:Int),.int .i64 (j1:Int)]∧((i1=i∧j1=j)∨(i1=j∧j1=i)):=by
  rcases hw with rfl|rfl
  ·exact⟨i,j,rfl,.inl ⟨rfl,rfl⟩⟩
  ·exact⟨j,i,rfl,.inr ⟨rfl,rfl⟩⟩
 refine Ext.two ?_
 refine aa.fq (jM h (i:=j1) (j:=k) (by omega) hk) ?_
 rintro w H ⟨hw,z2,rfl⟩
 obtain⟨j2,k2,rfl,zv⟩:∃j2 k2:Nat,w=.tuple #[.int .i64 (j2:Int),.int .i64 (k2:Int)]∧((j2=j1∧k2=k)∨(j2=k∧k2=j1)):=by
  rcases hw with rfl|rfl
  ·exact⟨_,_,rfl,.inl ⟨rfl,rfl⟩⟩
  ·exact⟨_,_,rfl,.inr ⟨rfl,rfl⟩⟩
 refine Ext.two ?_
 refine aa.fq (jM h (i:=i1) (j:=j2) (by omega) (by omega)) ?_
 rintro w H ⟨hw,z3,rfl⟩
 rcases hw with rfl|rfl
 ·exact Ext.mk rfl (Ext.mk rfl (aY.here ⟨⟨_,rfl,by omega⟩,_,rfl⟩))
 ·exact Ext.mk rfl (Ext.mk rfl (aY.here ⟨⟨_,rfl,by omega⟩,_,rfl⟩))
theorem jU(h:er v l0 C){b:Nat}{z:Int}{i:Nat}(h0:0<i)(hi:i+1<l0.length)(bL:l0.length<1152921504606846976):
  Fc Tryz.prog 306 #[v,.int .i64 (i:Int),ptr b] ((b,.cells #[.int .i64 z] 3 (0,0))::C) (GL b C fun m=>i≤m+1∧m≤i+1):=by
 refine aX fun g=>qt ?_
 refine ae.bp (b:=1) ?_
 refine ae.inc ?_
 refine aa.fq (rZ h (by omega) (by omega) hi) ?_
 rintro w H ⟨⟨m,rfl,hm⟩,z',rfl⟩
 exact aY.here ⟨⟨m,rfl,by omega⟩,z',rfl⟩
theorem xS(h:er v l0 C){a b:Nat}(hab:a<b)(hb:b≤l0.length)(bL:l0.length<1152921504606846976):
  Rd Tryz.prog 215 #[v,.int .i64 (a:Int),.int .i64 (b:Int)] C (fun r=>∃(p:Nat) (q:Int),r=.tuple #[.int .i64 (p:Int),.int .i64 q]∧a≤p∧p<b):=by
 refine aX fun g=>qT ?_
 refine ae.bp ?_
 intro b2 _
 refine ae.pP (b:=4) (by simp[cO];omega) (by omega) ?_
 refine ae.py (b:=1) ?_
 refine ae.dX ?_
 refine ae.pP (b:=4) (by simp[cO];omega) (by omega) ?_
 refine ae.py (b:=2) ?_
 refine ae.dX ?_
 refine ae.pP (b:=4) (by simp[cO];omega) (by omega) ?_
 refine ae.py (b:=3) ?_
 refine ae.dX ?_
 intro I4 E6
 have fin:∀(p:Nat) (z:Int),a≤p→p<b→I4 [.int .i64 (p:Int)] ((b2,.cells #[.int .i64 z] 3 (0,0))::C):=fun p z zo me=>by
  refine E6 _ _ fun gs=>?_
  refine Ld.q ?_
  refine ae.iR (Br.dec (fun _=>bF.mk .tail ⟨p,_,rfl,zo,me⟩) (fun _=>?_))
  exact ae.iR (Br.dec (fun _=>bF.mk .tail ⟨p,_,rfl,zo,me⟩) (fun _=>bF.mk .tail ⟨p,_,rfl,zo,me⟩))
 refine ae.m6 (b:=8) (Br.dec (fun h8=>?_) (fun _=>JE.mk (fin _ _ (by omega) (by omega))))
 intro I2 E5
 have three:∀(x y u:Nat) (z:Int),a≤x∧x<b→a≤y∧y<b→a≤u∧u<b→I2 [.int .i64 (x:Int),.int .i64 (y:Int),.int .i64 (u:Int)] ((b2,.cells #[.int .i64 z] 3 (0,0))::C):=fun x y u z hx hy hu=>by
  refine E5 _ _ _ _ fun gs=>?_
  refine aa.fq (rZ h (by omega) (by omega) (by omega)) ?_
  rintro w H ⟨⟨m,rfl,hm⟩,z',rfl⟩
  exact JE.mk (fin _ _ (by omega) (by omega))
 refine ae.m6 (b:=50) (Br.dec (fun GA=>?_) (fun _=>JE.mk (three _ _ _ _ (by omega) (by omega) (by omega))))
 refine aa.fq (jU h (by omega) (by omega) bL) ?_
 rintro w H ⟨⟨m1,rfl,th⟩,z1,rfl⟩
 refine aa.fq (jU h (by omega) (by omega) bL) ?_
 rintro w H ⟨⟨m2,rfl,pH⟩,z2,rfl⟩
 refine aa.fq (jU h (by omega) (by omega) bL) ?_
 rintro w H ⟨⟨m3,rfl,JA⟩,z3,rfl⟩
 exact JE.mk (three _ _ _ _ (by omega) (by omega) (by omega))
theorem xV:∀(N:Nat) {C:Hp} (h:er v l0 C) {a b:Nat} (hN:b-a≤N) (hab:a≤b) (hb:b≤l0.length) (bL:l0.length<1152921504606846976) (z:Int),Fc Tryz.prog 153 #[v,.int .i64 (a:Int),.int .i64 (b:Int),.int .i64 z] C (Bh v l0):=by
 intro N
 induction N with
 |zero=>
  intro C h a b hN hab hb bL z g
  refine kQ (R:=aY _) ?_
  unfold L153
  refine⟨fun vs H=>vs=[.int .i64 (a:Int),.int .i64 (b:Int),.int .i64 z,.bool true,.bool true]∧H=C,fun _ _=>0,JE.mk ⟨rfl,rfl⟩,?_⟩
  rintro w1 w2 w3 w4 w5 H ⟨hw,rfl⟩ gs
  simp only[List.cons.injEq,and_true]at hw
  obtain⟨rfl,rfl,rfl,rfl,rfl⟩:=hw
  refine ae.bp ?_
  refine ae.uG (b:=12) (Br.T ?_)
  refine aa.fq (mc h hab hb bL) ?_
  rintro w C' ⟨rfl,hd⟩
  exact aY.here ⟨rfl,hd⟩
 |succ N ih=>
  intro C h a b hN hab hb bL z g
  refine kQ (R:=aY _) ?_
  unfold L153
  refine⟨fun vs H=>∃(a b:Nat) (z:Int) (t1 t2:Bool),vs=[.int .i64 (a:Int),.int .i64 (b:Int),.int .i64 z,.bool t1,.bool t2]∧b-a≤N+1∧a≤b∧b≤l0.length∧er v l0 H,fun vs _=>cj vs 1-cj vs 0,JE.mk ⟨a,b,z,true,true,rfl,hN,hab,hb,h⟩,?_⟩
  clear h hN hab hb
  rintro w1 w2 w3 w4 w5 H ⟨a,b,z,t1,t2,hw,hN,hab,hb,h⟩ gs
  simp only[List.cons.injEq,and_true]at hw
  obtain⟨rfl,rfl,rfl,rfl,rfl⟩:=hw
  refine ae.bp ?_
  refine ae.uG (b:=12) (Br.dec (fun DH=>?_) (fun DH=>?_))
  ·refine aa.fq (mc h hab hb bL) ?_
   rintro w C' ⟨rfl,hd⟩
   exact aY.here ⟨rfl,hd⟩
  refine ae.iR (Br.dec (fun _=>?_) (fun _=>?_))
  ·refine aa.fq (tf h (by omega) hb bL) ?_
   rintro w C' ⟨rfl,hd⟩
   exact aY.here ⟨rfl,hd⟩
  intro Dc wm
  have F4:∀(z1:Int) H1,er v l0 H1→Dc [.int .i64 z1] H1:=fun z1 H1 h1=>by
   refine wm _ _ fun gs=>?_
   refine aa.rq (xS h1 (a:=a) (b:=b) (by omega) hb bL) ?_
   rintro w ⟨p,q,rfl,zo,me⟩
   refine Ext.two ?_
   intro I1 E4
   have F1:∀(p:Nat) (q:Int) H2,a≤p→p<b→er v l0 H2→I1 [.int .i64 (p:Int),.int .i64 q] H2:=fun p q H2 zo me h2=>by
    refine E4 _ _ _ fun gs=>?_
    intro IZ E0
    have F0:∀H3,er v l0 H3→IZ [] H3:=fun H3 h3=>by
     refine E0 _ fun gs=>?_
     intro DO yG
     have FZ:∀(t:Bool),DO [.bool t] H3:=fun t=>by
      refine yG _ _ fun gs=>?_
      refine Br.mk (fun _=>?_) (fun _=>?_)
      ·refine aa.fq (pn h3 ⟨zo,me⟩ hb bL) ?_
       rintro w C' ⟨⟨m,rfl,th,pH⟩,hd⟩
       exact av.mk ⟨m,b,z1,t1,t2,rfl,by omega,by omega,hb,hd⟩ (by simp[cj];omega)
      ·refine aa.fq (vc h3 ⟨zo,me⟩ hb bL) ?_
       rintro w C' ⟨⟨m,t,rfl,th,pH⟩,hd⟩
       refine Ext.two ?_
       refine ae.bp ?_
       refine ae.bp ?_
       refine ae.pP (b:=8) (by simp[cO];omega) (by omega) ?_
       refine ae.jB (Br.dec (fun _=>?_) (fun _=>?_))
       ·refine ae.m6 ?_
        refine aa.fq (ih hd (a:=a) (b:=m) (by omega) (by omega) (by omega) bL z1) ?_
        rintro w C' ⟨rfl,dj⟩
        refine ae.inc ?_
        exact av.mk ⟨m+1,b,z1,_,t,rfl,by omega,by omega,hb,dj⟩ (by simp[cj];omega)
       ·refine ae.m6 ?_
        refine ae.inc ?_
        refine aa.fq (ih hd (a:=m+1) (b:=b) (by omega) (by omega) (by omega) bL z1) ?_
        rintro w C' ⟨rfl,dj⟩
        exact av.mk ⟨a,m,z1,_,t,rfl,by omega,by omega,by omega,dj⟩ (by simp[cj];omega)
     refine DR.self ?_
     refine ae.og (b:=0) (Br.dec (fun h0=>?_) (fun _=>JE.mk (FZ false)))
     refine ae.bp (b:=1) ?_
     refine h3.ld (fun _ h=>h) (by omega) fun x=>?_
     refine h3.ld (fun _ h=>h) (by omega) fun y=>?_
     intro F
     refine aa.eq (bG x y _) ?_
     exact Un.not (ax.mk (JE.mk (FZ _)))
    refine cW.and t2 (fun _=>⟨rfl,rfl⟩) rfl fun gs=>?_
    refine cW.and (decide (q=1)) (fun _=>ae.iR ⟨rfl,rfl⟩) rfl fun gs=>?_
    refine Br.mk (fun _=>?_) (fun _=>JE.mk (F0 _ h2))
    refine aa.fq (u7 h2 (by omega) hb bL) ?_
    rintro w C' ⟨⟨t,rfl⟩,hd⟩
    exact Br.mk (fun _=>aY.here ⟨rfl,hd⟩) (fun _=>JE.mk (F0 _ hd))
   refine ae.iR (Br.dec (fun _=>?_) (fun _=>JE.mk (F1 p q _ zo me h1)))
   refine aa.fq (xQ h1 (a:=a) (b:=b) (by omega) hb bL) ?_
   rintro w C' ⟨rfl,hd⟩
   refine ae.bp (b:=1) ?_
   refine ae.bp ?_
   refine ae.bp ?_
   exact JE.mk (F1 _ _ _ (by omega) (by omega) hd)
  refine Un.not ?_
  refine Br.mk (fun _=>?_) (fun _=>JE.mk (F4 _ _ h))
  refine aa.fq (yS h (a:=a) (b:=b) (by omega) hb bL) ?_
  rintro w C' ⟨rfl,hd⟩
  exact ae.sub (JE.mk (F4 _ _ hd))
theorem uY{l:List Int}(h:au 3 .i64 v l C)(bL:l.length<1152921504606846976):Fc Tryz.prog 99 #[v] C (fun r C'=>r=.tuple #[]∧∃l',l'.Perm l∧au 3 .i64 v l' C'):=by
 refine aX fun g=>tY ?_
 refine h.cN ?_
 refine bt.q ?_
 refine aa.rq (oK (by omega) C) ?_
 rintro w ⟨r,_,rfl⟩
 refine aa.fq (xV l.length h.dt (a:=0) (b:=l.length) (by omega) (by omega) (Nat.le_refl _) bL _) ?_
 rintro w C' ⟨rfl,hd⟩
 exact aY.here ⟨rfl,hd⟩
end
open aq
section
noncomputable abbrev FL:Func:=Tryz.f152
variable {f:FuncId} {cap:Array Value} {B:Hp} {N:Nat} {S:List Nat→Prop}
noncomputable def bg:Code:=match FL.body with|some (.seq _ (.seq (.seq _ (.block _ (.rangeFunc _ _ c _))) _))=>c|_=>.skip
noncomputable def bO:Code:=match FL.body with|some (.seq _ (.seq (.seq _ (.block _ (.rangeFunc _ _ _ c))) _))=>c|_=>.skip
noncomputable def sD(i:Nat):Oper:=match bO with| .block _ (.region _ ops _)=>(match ops[i]? with|some o=>o|none=>default)|_=>default
def c7(fn:FuncId)(tmps:Array Value)(assign body:Code)(D:Nat):Loop:={state:=.ready,pending:=none,fn,tmps,params:=#[7],assign,body,defers:=D}
def AZ(l D bs:Nat)(fn:FuncId)(tmps:Array Value)(assign body:Code)(ss:List Nat)(A:Hp):Prop:=
 ∃v C',A=(l,.loop (c7 fn tmps assign body D))::(D,.deferred (some []))::(bs,.cells #[v] 43 (0,0))::C'∧au 3 .i64 v (iw ss) C'
theorem tR{g:Gh}{l D bs:Nat}{fn:FuncId}{tmps:Array Value}{fr:Fr}(hsz:tmps.size=13)(fC:∀s,tmps.getD s undef=fr s)(f2:fr 2=ptr bs){ss:List Nat}{x:Nat}{A X:Hp}{W:World}
 (hG:AZ l D bs fn tmps bg bO ss A)(hl:ss.length<1099511627776)(hW:Own g (A++X) W):
  YieldAt Fence.wide 0 Tryz.prog l #[nI x] W (fun e W'=>e=.returned (.bool true)∧∃A',AZ l D bs fn tmps bg bO (ss++[x]) A'∧Own g (A'++X) W'):=by
 obtain⟨v,C',rfl,ho⟩:=hG
 have hF:∀f,(Fence.wide.inRound l).fn f:=fun _=>trivial
 have hL:W.heap[l]? =some (.loop (c7 fn tmps bg bO D)):=hW.has _ (.head _)
 refine⟨fn,_,bg,bO,run_yield hL rfl,roundIn_of_wpIn trivial ?_⟩
 have ha:oP [] 13 {tmps:=tmps.setIfInBounds 7 (nI x),defers:=[]} (aP fr (some 7) (nI x)):=(oP.put (a:={tmps:=tmps,defers:=[]}) (d:=some 7) ⟨rfl,hsz,fC⟩ rfl (nI x))
 have ha:oP [] 13 {tmps:=(#[7].zip #[nI x]).foldl (fun tmps (t,a)=>tmps.setIfInBounds t a) tmps,defers:=[]} (aP fr (some 7) (nI x)):=by simpa using ha
 change Code.wpIn _ 0 Tryz.prog (.region _ #[_] false) _ _ _
 refine wpIn_region_lit ?_
 refine dM (g:=g) (n:=13) (v0:=nI x) hF rfl (by intro c h;cases h) rfl ha hW rfl fun a1 we=>?_
 refine wpListIn_nil ?_
 have Ib:=run_beginRound (P:=Tryz.prog) hL rfl
 refine⟨_,Ib,?_⟩
 have zC:=hW.putObj (o':=.loop {c7 fn tmps bg bO D with state:=.busy}) (.head _)
 change Code.wpIn _ 0 Tryz.prog (.block _ (.region _ #[_,_,_,_,_] false)) _ _ _
 refine wpIn_block ?_
 refine wpIn_region_lit ?_
 obtain⟨H1,E9⟩:∃H1,H1=(l,Obj.loop {c7 fn tmps bg bO D with state:=.busy})::(((D,.deferred (some []))::(bs,.cells #[v] 43 (0,0))::C')++X):=⟨_,rfl⟩
 replace zC:Own g H1 (W.putObj l (.loop {c7 fn tmps bg bO D with state:=.busy})):=by rw[E9];exact zC
 have e0:rV Tryz.prog g (sD 0) (ev (aP (aP fr (some 7) (nI x)) (some 5) (nI x))) H1 (fun z=>z=v)=Ld H1 (fr 2) (fun z=>z=v):=by kernel_rfl
 refine dM (g:=g) (n:=13) (v0:=v) hF rfl (by intro c h;cases h) rfl we zC (e0.mpr (by rw[f2];exact Ld.mk (by rw[E9];exact .tail _ (.tail _ (.head _))) rfl rfl)) fun a2 tw=>?_
 refine dM (g:=g) (n:=13) (v0:=nI x) hF rfl (by intro c h;cases h) rfl tw zC rfl fun a3 xq=>?_
 have eb:∀K:Value→Hp→Prop,an Tryz.prog 43 1 [(0,.int .i64 (x:Int))] H1 K=xj Tryz.prog g (sD 2) (ev (aP (aP (aP (aP fr (some 7) (nI x)) (some 5) (nI x)) (some 8) v) (some 9) (nI x))) H1 K (fun _ _=>False):=fun K=>by kernel_rfl
 refine uW (g:=g) (n:=13) (s:=_) (K:=fun v H=>∃b,v=.slice (some ⟨b,0,none⟩) 1 1∧H=(b,.cells (ai .i64 [(x:Int)]) 3 (0,0))::H1) hF rfl (by intro c h;cases h) rfl xq zC rfl
  ((eb _).mp (an.int (by kernel_rfl) (by kernel_rfl) (by kernel_rfl) fun b=>⟨b,rfl,rfl⟩)) fun v1 H2 w2 a4 hv Ch Cg=>?_
 obtain⟨b,rfl,rfl⟩:=hv
 have hn:(iw ss).length=ss.length:=aE ss
 obtain⟨H2,Gv⟩:∃H2,H2=(b,Obj.cells (ai .i64 [(x:Int)]) 3 (0,0))::H1:=⟨_,rfl⟩
 rw[←Gv]at Ch
 refine uW (g:=g) (n:=13) (s:=_) (K:=fun v' H=>∃C2,au 3 .i64 v' (iw (ss++[x])) C2∧H=(b,Obj.cells (ai .i64 [(x:Int)]) 3 (0,0))::(l,Obj.loop {c7 fn tmps bg bO D with state:=.busy})::(D,.deferred (some []))::(bs,.cells #[v] 43 (0,0))::(C2++X))
  hF rfl (by intro c h;cases h) rfl Cg Ch (by simp only[execOp,resolve,invoke,builtin];simp[bind,Sem.bind];rfl) ?_ fun v2 H3 w3 a5 hv yE Ce=>?_
 ·have e1:∀K:Value→Hp→Prop,App Tryz.prog 3 1 8 (.int .i64 0) H2 v (.slice (some ⟨b,0,none⟩) 1 1) K=
   xj Tryz.prog g (sD 3) (ev (aP (aP (aP (aP (aP fr (some 7) (nI x)) (some 5) (nI x)) (some 8) v) (some 9) (nI x)) (some 10) (.slice (some ⟨b,0,none⟩) 1 1))) H2 K (fun _ _=>False):=fun K=>by kernel_rfl
  refine(e1 _).mp ?_
  rw[Gv,E9]
  refine ho.oN (.cons (.cons (.cons (.cons .left)))) (by exact .head _) (by omega) (by omega) fun v' C2 zq=>⟨C2,?_,rfl⟩
  rw[cM];exact zq
 obtain⟨C2,zq,rfl⟩:=hv
 have es:∀(H:Hp) (K:Value→Hp→Prop),St 1 H (fr 2) v2 (fun H'=>K undef H')=xj Tryz.prog g (sD 4) (ev (aP (aP (aP (aP (aP (aP fr (some 7) (nI x)) (some 5) (nI x)) (some 8) v) (some 9) (nI x)) (some 10) (.slice (some ⟨b,0,none⟩) 1 1)) (some 11) v2)) H K (fun _ _=>False):=fun H K=>by kernel_rfl
 refine Bm (g:=g) (n:=13) (s:=_) (K:=fun _ H=>H=(b,Obj.cells (ai .i64 [(x:Int)]) 3 (0,0))::(l,Obj.loop {c7 fn tmps bg bO D with state:=.busy})::(D,.deferred (some []))::(bs,.cells #[v2] 43 (0,0))::(C2++X))
  hF rfl (by intro c h;cases h) rfl Ce yE rfl ((es _ _).mp ?_) fun H4 w4 a6 hv Dx Cd=>?_
 ·rw[f2]
  exact St.one (.tail (.tail (.tail (.head _)))) zq.one (by simp) rfl rfl
 subst hv
 refine wpListIn_nil ?_
 simp only[Exit.inBlock,roundPost]
 refine⟨_,_,run_endRound none (Dx.has _ (.tail _ (.head _))),rfl,_,⟨v2,C2,rfl,zq⟩,?_⟩
 exact(Dx.putObj (.tail (.head _))).tail
theorem p5(hg:sJ Tryz.prog f cap B nI N S)(hc:aG Tryz.prog f=true)(hN:N≤1099511627776):
  Fc Tryz.prog 152 #[.slice none 0 0,.func (.func f) #[] cap] B (fun v H=>∃ss C',S ss∧H=C'++B∧au 3 .i64 v (iw ss) C'):=by
 intro g w hw
 rw[←callsIn_wide (n:=0)]
 have hF:∀f,Fence.wide.fn f:=fun _=>trivial
 refine callsIn_of_wp_marks Tryz.func152 rfl trivial ?_
 have ha:=kH (m:=13) (args:=[.slice none 0 0,.func (.func f) #[] cap]) (by simp)
 refine wpIn_seq ?_
 refine wpIn_region_lit ?_
 refine uW (g:=g) (n:=13) (s:=_) (K:=fun v H=>∃bs,v=ptr bs∧H=(bs,.cells #[.slice none 0 0] 43 (0,0))::B) hF rfl (by intro c h;cases h) rfl ha hw rfl (fun bs _=>⟨bs,rfl,rfl⟩) fun v H1 w1 a1 hv ji we=>?_
 obtain⟨bs,rfl,rfl⟩:=hv
 refine dM (g:=g) (n:=13) (v0:=.slice none 0 0) hF rfl (by intro c h;cases h) rfl we ji rfl fun a2 tw=>?_
 refine wpListIn_nil ?_
 refine wpIn_seq ?_
 refine wpIn_seq ?_
 refine wpIn_region_lit ?_
 refine dM (g:=g) (n:=13) (v0:=.func (.func f) #[] cap) hF rfl (by intro c h;cases h) rfl tw ji rfl fun a3 xq=>?_
 refine wpListIn_nil ?_
 refine wpIn_block ?_
 refine wpIn_rangeFunc fun fn hfn=>?_
 have zu:=(ji.alloc (.deferred (some []))).alloc (.loop (c7 fn a3.tmps bg bO w1.heap.size))
 have f6:a3.tmps[6]?.getD undef=.func (.func f) #[] cap:=by have:=xq.get 6;rw[Array.getD_eq_getD_getElem?]at this;exact this
 obtain⟨W1,zC⟩:∃W1,W1=(w1.alloc (.deferred (some []))).alloc (.loop (c7 fn a3.tmps bg bO w1.heap.size)):=⟨_,rfl⟩
 rw[←zC]at zu
 refine⟨w1.heap.size+1,[{target:=.collected w1.heap.size,args:=#[]}],W1,{target:=.fn (.func f) cap,args:=#[.func (.yield (w1.heap.size+1)) #[] #[]]},W1,f,#[.func (.yield (w1.heap.size+1)) #[] #[]]++cap,W1,?_,?_,fun _ _=>trivial,?_,fun h=>(by cases h),?_⟩
 ·rw[zC];exact run_enterLoop_outer fn a3.tmps #[7] _ _
 ·simp[resolve,Deferred.ofValue,f6,go_sem]
 ·simp[invoke,go_sem]
  exact cq hc _ _
 have hsz:(w1.alloc (.deferred (some []))).heap.size=w1.heap.size+1:=by simp
 rw[hsz]at zu
 refine CallsIn.mono (hg g (w1.heap.size+1) (AZ (w1.heap.size+1) w1.heap.size bs fn a3.tmps bg bO) (fun ss x A X W hG hl hW=>tR xq.size xq.get rfl hG (by omega) hW) [_,_,_] W1 ⟨_,[],rfl,au.nil⟩ zu) ?_
 rintro e W2 ⟨⟨v0,rfl⟩,ss,A',hS,⟨v,C',rfl,ho⟩,Ch⟩
 refine⟨none,_,run_endLoop (Ch.has _ (.head _)) (by simp[c7]),?_⟩
 have yE:=Ch.putObj (o':=.loop {c7 fn a3.tmps bg bO w1.heap.size with state:=.exhausted}) (.head _)
 simp only[Exit.then,Exit.inBlock]
 have Cg:oP [{target:=.collected w1.heap.size,args:=#[]}] 13 {a3 with defers:=[{target:=.collected w1.heap.size,args:=#[]}]++a3.defers} (aP (aP (aP (dO [.slice none 0 0,.func (.func f) #[] cap] 0) (some 2) (ptr bs)) (some 4) (.slice none 0 0)) (some 6) (.func (.func f) #[] cap)):=
  ⟨by rw[xq.defers];rfl,xq.size,xq.get⟩
 refine wpIn_seq ?_
 refine wpIn_region_lit ?_
 obtain⟨H3,E8⟩:∃H3,H3=(w1.heap.size+1,Obj.loop {c7 fn a3.tmps bg bO w1.heap.size with state:=.exhausted})::(((w1.heap.size,.deferred (some []))::(bs,.cells #[v] 43 (0,0))::C')++B):=⟨_,rfl⟩
 replace yE:Own g H3 (W2.putObj (w1.heap.size+1) (.loop {c7 fn a3.tmps bg bO w1.heap.size with state:=.exhausted})):=by rw[E8];exact yE
 have e0:rV Tryz.prog g (nO FL 4 0) (ev (aP (aP (aP (dO [.slice none 0 0,.func (.func f) #[] cap] 0) (some 2) (ptr bs)) (some 4) (.slice none 0 0)) (some 6) (.func (.func f) #[] cap))) H3 (fun z=>z=v)=Ld H3 (ptr bs) (fun z=>z=v):=by kernel_rfl
 refine dM (g:=g) (n:=13) (v0:=v) hF rfl (by intro c h;cases h) rfl Cg yE (e0.mpr (Ld.mk (by rw[E8];exact .tail _ (.tail _ (.head _))) rfl rfl)) fun a5 Ce=>?_
 refine dM (g:=g) (n:=13) (v0:=v) hF rfl (by intro c h;cases h) rfl Ce yE rfl fun a6 Cd=>?_
 refine wpListIn_nil ?_
 refine wpIn_ret ?_
 simp only[Exit.then,bodyPostM]
 rw[Cd.defers]
 rw[E8]at yE
 refine⟨by simp,.inl ⟨w1.heap.size,_,rfl,run_takeDeferred (yE.has _ (.tail _ (.head _))),?_⟩⟩
 have Dx:=yE.putObj (o':=.deferred none) (.tail (.head _))
 refine⟨_,results_tmp rfl _ _ _,C'++B,Dx.tail.tail.tail,v,C'++B,?_,.refl _,ss,C',hS,rfl,ho⟩
 have:=Cd.get 4
 rw[this]
 rfl
end
section
variable {f:FuncId} {cap:Array Value} {B:Hp} {N:Nat} {S:List Nat→Prop}
theorem oC(hg:sJ Tryz.prog f cap B nI N S)(hc:aG Tryz.prog f=true)(hN:N≤1099511627776):
  Fc Tryz.prog 98 #[.func (.func f) #[] cap] B (fun v H=>∃ss C',S ss∧H=C'++B∧au 3 .i64 v (iw ss) C'):=by
 refine aX fun g=>tZ ?_
 refine aa.fq (p5 hg hc hN) ?_
 rintro v H h
 exact aY.here h
theorem pc(hg:sJ Tryz.prog f cap B nI N S)(hS:∀ss,S ss→ss.length≤N)(hc:aG Tryz.prog f=true)(hN:N≤1099511627776):
  Fc Tryz.prog 46 #[.func (.func f) #[] cap] B (fun v H=>∃ss l C',S ss∧l.Perm ss∧H=C'++B∧au 3 .i64 v (iw l) C'):=by
 refine aX fun g=>uu ?_
 refine aa.fq (oC hg hc hN) ?_
 rintro v H ⟨ss,C',hs,rfl,ho⟩
 have hlen:=hS ss hs
 refine aa.fn (.left (A:=B)) (uY ho (by rw[aE];omega)) ?_
 rintro w C2 ⟨rfl,l',hp,bV⟩
 obtain⟨l,hl,rfl⟩:=xU hp
 exact aY.here ⟨ss,l,C2,hs,hl,rfl,bV⟩
end
section
theorem o5{κ β:Type}{es:Array MapEntry}{m:List (κ×β)}{seen:Array Nat}{x:κ×β}(h:x∈bQ es m seen):x∈m:=by
 obtain⟨p,hp,rfl⟩:=List.mem_map.1 h
 exact(List.of_mem_zip (List.mem_filter.1 hp).1).2
theorem Ea{v:Value}{a:Int}(h:v=kI .i64 a)(ha:0≤a):v=nI a.toNat:=by
 rw[h];unfold nI kI;rw[Int.toNat_of_nonneg ha]
variable {es:Array MapEntry} {ck b:Nat} {m:List (Int×Nat)}
theorem oZ(B:Hp):Fc Tryz.prog 47 #[.map (some b)] B
  (fun v H=>∃bm,v=.func (.func 100) #[] #[ptr bm]∧H=(bm,.cells #[.map (some b)] 88 (0,0))::B):=by
 refine aX fun g=>ur ?_
 intro b1 _
 exact aY.here ⟨b1,rfl,rfl⟩
noncomputable abbrev DL:Func:=Tryz.f100
def Fx(g:Gh)(bi b:Nat)(l:Nat)(es:Array MapEntry)(ck:Nat)(m:List (Int×Nat))(G:List Nat→Hp→Prop)(B:Hp)(k:Nat)(a:Act)(w:World):Prop:=
 ∃(fr:Fr) (ss:List Nat) (A:Hp) (seen:Array Nat),oP [] 14 a fr∧fr 0=.func (.yield l) #[] #[]∧fr 5=ptr bi∧G ss A∧Own g (A++((bi,.mapIter (some b) ck seen ck)::B)) w∧
  (ss++(bQ es m seen).map (fun p=>p.1.toNat)).Perm (m.map (fun p=>p.1.toNat))∧k=(bQ es m seen).length
theorem nv{bm:Nat}{fz:Nat×Nat}(h:aH (kI .i64) (fun v (r:Nat)=>v=u32 r) es ck m)(hpos:∀p∈m,0≤p.1):sJ Tryz.prog 100 #[ptr bm] [(bm,.cells #[.map (some b)] 88 fz),(b,.map es ck)] nI m.length
  (fun ss=>ss.Perm (m.map (fun p=>p.1.toNat))):=by
 intro g l G hY A W h0 hW
 have hF:∀f,Fence.wide.fn f:=fun _=>trivial
 refine callsIn_of_wp Tryz.func100 rfl trivial ?_
 have ha:=kH (m:=14) (args:=[.func (.yield l) #[] #[],ptr bm]) (by simp)
 refine wpIn_seq ?_
 refine wpIn_region_lit ?_
 obtain⟨B,hB⟩:∃B,B=[(bm,Obj.cells #[.map (some b)] 88 fz),(b,.map es ck)]:=⟨_,rfl⟩
 rw[←hB]at hW
 have th:(bm,Obj.cells #[.map (some b)] 88 fz)∈A++B:=by rw[hB];exact List.mem_append_right _ (.head _)
 have pH:(b,Obj.map es ck)∈A++B:=by rw[hB];exact List.mem_append_right _ (.tail _ (.head _))
 have Jz:∀{X:Hp},(b,Obj.map es ck)∈X++B:=by intro X;rw[hB];exact List.mem_append_right _ (.tail _ (.head _))
 rw[←hB]
 have e0:rV Tryz.prog g (nO DL 0 0) (ev (dO [.func (.yield l) #[] #[],ptr bm] 0)) (A++B) (fun x=>x=.map (some b))=Ld (A++B) (ptr bm) (fun x=>x=.map (some b)):=by kernel_rfl
 refine dM (g:=g) (n:=14) (v0:=.map (some b)) hF rfl (by intro c h;cases h) rfl ha hW (e0.mpr (Ld.mk th rfl rfl)) fun a1 we=>?_
 refine rP (g:=g) (n:=14) (s:=Instr.range 88 (.map (some b))) (K:=fun v H=>∃bi,v=ptr bi∧H=(bi,.mapIter (some b) ck #[] ck)::(A++B)) hF rfl (by intro c h;cases h) rfl we rfl
  (DM.run (.inr ⟨b,es,ck,rfl,pH,fun bi _=>⟨bi,rfl,rfl⟩⟩) hW (t:=88) (kt:=3) (e:=110) (by kernel_rfl)) fun v H' w1 a2 hv ji tw=>?_
 obtain⟨bi,rfl,rfl⟩:=hv
 refine wpListIn_nil ?_
 have zk:Own g (A++((bi,.mapIter (some b) ck #[] ck)::B)) w1:=ji.perm (List.perm_middle).symm
 clear ji we ha hW th pH
 refine wpIn_block ?_
 refine oY (Fx g bi b l es ck m G B) (k:=(bQ es m #[]).length) ⟨_,[],A,#[],tw,rfl,rfl,h0,zk,by rw[o6 h];exact .refl _,rfl⟩ ?_
 clear tw zk h0 e0 A
 rintro k a w ⟨fr,ss,A,seen,ha,f0,f6,hG,hw,sb,hk⟩
 refine wpIn_seq ?_
 refine wpIn_region_lit ?_
 have e6:ev fr (.tmp 5)=ptr bi:=f6
 refine rP (g:=g) (n:=14) (s:=Instr.next (ptr bi) false 0)
  (K:=fun v H=>(bQ es m seen=[]∧v=.tuple #[.bool false]∧H=A++((bi,.mapIter (some b) ck seen ck)::B))∨
   ∃(e:MapEntry) (x:Int×Nat) (seen':Array Nat),v=.tuple #[.bool true,e.key,e.val]∧e.key=nI x.1.toNat∧(bQ es m seen).Perm (x::bQ es m seen')∧seen'.back?=some e.born∧es.find? (·.born==e.born)=some e∧
    H=A++((bi,.mapIter (some b) ck seen' ck)::B)) hF rfl (by intro c h;cases h) rfl ha ?_
  (C4.run (h.next (bi:=bi) (bm:=b) (seen:=seen) (H:=A++((bi,.mapIter (some b) ck seen ck)::B)) (List.mem_append_right _ (.tail _ (by rw[hB];exact .tail _ (.head _)))) (List.mem_append_right _ (.head _))
   (fun e x seen' he hk hv hp hb hf=>⟨_,(cv.head _).cm A,.inr ⟨e,x,seen',rfl,Ea hk (hpos x (o5 (hp.mem_iff.2 (.head _)))),hp,hb,hf,rfl⟩⟩) (fun hu=>.inl ⟨hu,rfl,rfl⟩)) hw) fun v H' w1 a1 hv ji we=>?_
 ·rw[e6.symm];rfl
 rcases hv with⟨hu,rfl,rfl⟩|⟨e,x,seen',rfl,zx,hp,Gk,HV,rfl⟩
 ·refine dM (g:=g) (n:=14) (v0:=.bool false) hF rfl (by intro c h;cases h) rfl we ji ⟨_,_,rfl,rfl,rfl⟩ fun a2 tw=>?_
  refine wpListIn_nil ?_
  refine wpIn_seq ?_
  refine wpIn_cond_false (by rw[tw.eval];rfl) ?_
  refine wpIn_exit ?_
  simp only[Exit.then,Exit.inBlock,if_true,bodyPost]
  refine⟨tw.defers,_,results_none rfl _ _ _,⟨_,rfl⟩,ss,A,?_,hG,(ji.perm List.perm_middle).tail⟩
  rw[hu,List.map_nil,List.append_nil]at sb
  exact sb
 ·refine dM (g:=g) (n:=14) (v0:=.bool true) hF rfl (by intro c h;cases h) rfl we ji ⟨_,_,rfl,rfl,rfl⟩ fun a2 tw=>?_
  refine wpListIn_nil ?_
  refine wpIn_seq ?_
  refine wpIn_cond_true (by rw[tw.eval];rfl) ?_
  refine wpIn_skip ?_
  refine wpIn_block ?_
  refine wpIn_seq ?_
  refine wpIn_region_lit ?_
  refine rP (g:=g) (n:=14) (s:=Instr.entry (ptr bi)) (K:=fun v H=>v=.tuple #[e.key,e.val]∧H=A++((bi,.mapIter (some b) ck seen' ck)::B)) hF rfl (by intro c h;cases h) rfl tw ?_ ?_ fun v H' w2 a3 hv zk xq=>?_
  ·rw[e6.symm];rfl
  ·obtain⟨v,hr,hv⟩:=y3.run (P:=Tryz.prog) (k:=fun v=>v=.tuple #[e.key,e.val]) ⟨bi,b,ck,seen',e.born,ck,es,e,rfl,List.mem_append_right _ (.head _),Gk,List.mem_append_right _ (.tail _ (by rw[hB];exact .tail _ (.head _))),HV,rfl⟩ ji
   exact⟨v,w1,_,hr,ji,hv,rfl⟩
  obtain⟨rfl,rfl⟩:=hv
  refine dM (g:=g) (n:=14) (v0:=nI x.1.toNat) hF rfl (by intro c h;cases h) rfl xq zk ⟨_,_,rfl,rfl,zx⟩ fun a4 Cg=>?_
  refine dM (g:=g) (n:=14) (v0:=nI x.1.toNat) hF rfl (by intro c h;cases h) rfl Cg zk (show nI x.1.toNat=nI x.1.toNat from rfl) fun a5 Ce=>?_
  refine wpListIn_nil ?_
  refine wpIn_seq ?_
  refine wpIn_region_lit ?_
  refine dM (g:=g) (n:=14) (v0:=.func (.yield l) #[] #[]) hF rfl (by intro c h;cases h) rfl Ce zk f0 fun a6 Cd=>?_
  refine dM (g:=g) (n:=14) (v0:=nI x.1.toNat) hF rfl (by intro c h;cases h) rfl Cd zk (show nI x.1.toNat=nI x.1.toNat from rfl) fun a7 Gm=>?_
  have hlen:(bQ es m seen).length=(bQ es m seen').length+1:=by rw[hp.length_eq];rfl
  have hlt:ss.length<m.length:=by
   have:=sb.length_eq
   simp only[List.length_append,List.length_map]at this⊢
   omega
  obtain⟨fn,tmps,assign,body,hy,hR⟩:=hY _ x.1.toNat A _ w2 hG hlt zk
  refine wpListIn_plain rfl fun K hK=>⟨fun _ _=>trivial,?_⟩
  rw[Oper.semAt_eq _ _ _ (by intro c h;cases h),Gm.eval]
  have hex:∀F7:Fr,F7=aP (aP (aP (aP (aP (aP (aP fr (some 6) (.tuple #[.bool true,e.key,e.val])) (some 7) (.bool true)) (some 8) (.tuple #[e.key,e.val])) (some 9) (nI x.1.toNat)) (some 3) (nI x.1.toNat)) (some 10) (.func (.yield l) #[] #[])) (some 11) (nI x.1.toNat)→(execOp (ev F7) (nO DL 3 2)).run Tryz.prog w2=.ok (.round l fn tmps assign body) w2:=fun F7 Gw=>by
   have v11:ev F7 (.tmp 10)=.func (.yield l) #[] #[]:=by rw[Gw];rfl
   have G3:ev F7 (.tmp 11)=nI x.1.toNat:=by rw[Gw];rfl
   have CC:execOp (ev F7) (nO DL 3 2)=(do let d ←resolve (ev F7) {callee:=.value (.tmp 10),args:=#[.tmp 11],argTypes:=#[3]} 4;invoke d.target d.args):=rfl
   rw[CC]
   simp[resolve,Deferred.ofValue,v11,G3,invoke,go_sem,hy]
  refine(congrArg (Oper.uponIn Fence.wide 0 Tryz.prog (nO DL 3 2) a7 K _) (hex _ rfl)).mpr ⟨fun h=>(by cases h),hR.mono ?_⟩
  rintro e' w3 ⟨rfl,A',Io,F6⟩
  refine hK _ _ ?_
  have Ii:=Gm.put (d:=some 12) rfl (.bool true)
  refine dM (g:=g) (n:=14) (v0:=.bool false) hF rfl (by intro c h;cases h) rfl Ii F6 ⟨_,rfl,rfl⟩ fun a9 Gl=>?_
  refine wpListIn_nil ?_
  refine wpIn_cond_false (by rw[Gl.eval];rfl) ?_
  refine wpIn_skip ?_
  refine⟨(bQ es m seen').length,by omega,_,ss++[x.1.toNat],A',seen',Gl,f0,f6,Io,F6,?_,rfl⟩
  rw[List.append_assoc]
  exact((hp.map (fun p=>p.1.toNat)).append_left ss).symm.trans sb
end
section
variable {sp kp mb nx:Nat} {c:Cf} {K:Kd} {S:Nat→aq.Fn} {ord af tr:List Nat} {hs:List (Int×Nat)} {es:Array MapEntry} {ck:Nat} {C:Hp}
theorem oe(B:Hp):Rd Tryz.prog 20 #[.pointer none] B (· =.slice none 0 0):=by
 refine aX fun g=>mC ?_
 exact ae.mQ (Br.yes (bF.mk (.refl _) rfl))
theorem pe(B:Hp):Rd Tryz.prog 27 #[.pointer none] B (· =.slice none 0 0):=by
 refine aX fun g=>mB ?_
 exact ae.mQ (Br.yes (bF.mk (.refl _) rfl))
theorem pL(h:fx kp nx c K S ord af tr hs es ck C)(hl:hs.length≤1099511627776):
  Fc Tryz.prog 20 #[ptr sp] (gS sp c kp mb nx es ck C) (fun v H=>∃l N,H=N++gS sp c kp mb nx es ck C∧l.Perm (hs.map fun p=>p.1.toNat)∧au 3 .i64 v (iw l) N):=by
 refine aX fun g=>mC ?_
 refine ae.bC (Br.no ?_)
 refine Ld.n (v:=.map (some mb)) ?_
 refine aa.fq (oZ _) ?_
 rintro w H ⟨bm,rfl,rfl⟩
 refine aa.pre (H':=[(bm,.cells #[.map (some mb)] 88 (0,0)),(mb,.map es ck)]++(nG sp c kp mb nx::C)) (.perm (List.Perm.cons _ (List.Perm.swap _ _ _))) ?_
 refine aa.fn .left (pc (S:=fun ss=>ss.Perm (hs.map fun p=>p.1.toNat)) (N:=hs.length) (nv (bm:=bm) (fz:=(0,0)) h.gK fun p hp=>(h.lt p hp).1) (fun ss Eg=>by have:=Eg.length_eq;rw[List.length_map]at this;omega) (by kernel_rfl) hl) ?_
 rintro v H ⟨ss,l,N,Eg,hls,rfl,ho⟩
 refine aY.mk ?_ ⟨l,N,rfl,hls.trans Eg,ho⟩
 rw[List.append_assoc]
 refine .cZ ?_ N
 exact .skip (.perm (List.Perm.swap _ _ _))
theorem sQ(h:fx kp nx c K S ord af tr hs es ck C):
  Fc Tryz.prog 27 #[ptr sp] (gS sp c kp mb nx es ck C) (fun v H=>∃N,H=N++gS sp c kp mb nx es ck C∧au 3 .i64 v (iw ord) N):=by
 refine aX fun g=>mB ?_
 refine ae.bC (Br.no ?_)
 refine Ld.n (v:=ptr kp) ?_
 refine aa.fq (wS h.ks.ik) ?_
 rintro v H ⟨N,rfl,ho⟩
 exact aY.mk (aS.uU [nG sp c kp mb nx,(mb,.map es ck)] N C) ⟨N,rfl,ho⟩
end
section
variable {sp nx:Nat} {c:Cf} {F:FS} {ord tr:List Nat} {H:Hp}
theorem pK(h:oW sp c nx F ord tr H)(hl:F.length≤1099511627776):Fc Tryz.prog 20 #[ptr sp] H (fun v H'=>∃l N,H'=N++H∧l.Perm (F.map fun p=>p.1.toNat)∧au 3 .i64 v (iw l) N):=by
 obtain⟨kp,mb,K,S,af,hs,es,ck,C,rfl,h,rfl⟩:=h
 have e:(fS S hs).map (fun p=>p.1.toNat)=hs.map fun p=>p.1.toNat:=by unfold fS;rw[List.map_map];rfl
 rw[e]
 exact pL h (by unfold fS at hl;rwa [List.length_map]at hl)
theorem ve(h:oW sp c nx F ord tr H):Fc Tryz.prog 27 #[ptr sp] H (fun v H'=>∃N,H'=N++H∧au 3 .i64 v (iw ord) N):=by
 obtain⟨kp,mb,K,S,af,hs,es,ck,C,rfl,h,rfl⟩:=h
 exact sQ h
end
theorem pO(n cap:Int)(B:Hp):Rd Tryz.prog 66 #[i64 n,i64 cap] B (· =i64 (if n<1∨64<n∨cap<2∨1048576<cap then 1 else 0)):=by
 refine aX fun g=>um ?_
 refine ae.lss ?_
 refine cW.or (decide (64<n)) (fun _=>ae.gtr ⟨rfl,rfl⟩) rfl fun _=>?_
 refine cW.or (decide (cap<2)) (fun _=>ae.lss ⟨rfl,rfl⟩) rfl fun _=>?_
 refine cW.or (decide (1048576<cap)) (fun _=>ae.gtr ⟨rfl,rfl⟩) rfl fun _=>?_
 rw[←Bool.decide_or,←Bool.decide_or,←Bool.decide_or]
 refine Br.dec (fun hb=>?_) (fun hb=>?_)
 ·exact bF.mk (.refl _) (by rw[if_pos (by omega)])
 ·exact bF.mk (.refl _) (by rw[if_neg (by omega)])
theorem lj(c:kT)(B:Hp):Rd Tryz.prog 28 #[.agg c.cells.toArray] B (· =i64 (bU c)):=by
 refine aX fun g=>uz ?_
 intro b1 _
 refine Ld.f (v:=i64 c.n) ?_
 refine Ld.f (v:=i64 c.cap) ?_
 refine aa.eq (pO _ _ _) ?_
 refine ae.ep ?_
 refine cW.or (decide (6<c.str)) (fun _=>Ld.f (v:=.int .u8 (c.str:Int)) (ae.og (b:=6) ⟨rfl,rfl⟩)) rfl fun _=>?_
 refine cW.or (decide (c.gr<100)) (fun _=>Ld.f (v:=i64 c.gr) (ae.lss ⟨rfl,rfl⟩)) rfl fun _=>?_
 refine cW.or (decide (1000<c.gr)) (fun _=>Ld.f (v:=i64 c.gr) (ae.gtr ⟨rfl,rfl⟩)) rfl fun _=>?_
 refine cW.or (decide (c.rs<0)) (fun _=>Ld.f (v:=i64 c.rs) (ae.lss ⟨rfl,rfl⟩)) rfl fun _=>?_
 refine cW.or (decide (16<c.rs)) (fun _=>Ld.f (v:=i64 c.rs) (ae.gtr ⟨rfl,rfl⟩)) rfl fun _=>?_
 have e:((((decide ((if c.n<1∨64<c.n∨c.cap<2∨1048576<c.cap then(1:Int)else 0)≠0)||decide (6<c.str))||decide (c.gr<100))||decide (1000<c.gr))||decide (c.rs<0)||decide (16<c.rs))=(bT c||cc c):=by
  have:decide ((if c.n<1∨64<c.n∨c.cap<2∨1048576<c.cap then(1:Int)else 0)≠0)=bT c:=by
   unfold bT
   by_cases hb:c.n<1∨64<c.n∨c.cap<2∨1048576<c.cap
   ·rw[if_pos hb,decide_eq_true hb];rfl
   ·rw[if_neg hb,decide_eq_false hb];rfl
  rw[this]
  unfold cc
  simp only[Bool.or_assoc]
 rw[e]
 cases hb:(bT c||cc c)
 rotate_left
 ·refine Br.yes (bF.mk .tail ?_)
  unfold bU
  cases h1:cc c
  ·rw[h1,Bool.or_false]at hb;rw[hb];rfl
  ·rfl
 ·rw[Bool.or_eq_false_iff]at hb
  refine Br.no ?_
  refine Ld.f (v:=.int .u8 (c.str:Int)) ?_
  refine ae.lg (b:=6) ?_
  refine cW.and (decide (12<c.n)) (fun _=>Ld.f (v:=i64 c.n) (ae.gtr ⟨rfl,rfl⟩)) rfl fun _=>?_
  rw[←Bool.decide_and]
  refine Br.dec (fun h6=>bF.mk .tail ?_) (fun h6=>bF.mk .tail ?_)
  ·unfold bU;rw[hb.1,hb.2,if_neg (by decide),if_neg (by decide),if_pos h6]
  ·unfold bU;rw[hb.1,hb.2,if_neg (by decide),if_neg (by decide),if_neg h6]
theorem kA{n:Nat}(hn:n≤64)(B:Hp):Fc Tryz.prog 29 #[i64 (n:Int)] B (fun v H=>∃s N,v=.tuple #[s,i64 0]∧H=N++B∧au 3 .i64 s (iw (List.range n)) N):=by
 refine aX fun g=>uy ?_
 refine ae.lss ?_
 rw[decide_eq_false (by omega)]
 refine cW.or false (fun _=>ae.gtr ⟨rfl,by rw[decide_eq_false (by omega)]⟩) rfl fun _=>Br.no ?_
 refine⟨fun vs H=>∃(i:Nat) (s:Value) (N:Hp),vs=[s,i64 (i:Int)]∧i≤n∧H=N++B∧au 3 .i64 s (iw (List.range i)) N,fun vs _=>n-cj vs 1,JE.mk ⟨0,_,[],rfl,Nat.zero_le _,rfl,au.nil⟩,?_⟩
 rintro w1 w2 H ⟨i,s,N,⟨⟩,hi,rfl,ho⟩ gs
 refine ae.jB (Br.dec (fun hlt=>?_) (fun hge=>?_))
 ·refine an.int (e:=3) (x:=(i:Int)) (by kernel_rfl) (by kernel_rfl) (by kernel_rfl) fun bx=>?_
  refine ho.oN (x:=(i:Int)) (.cons .left) (by exact .head _) (by rw[aE,List.length_range];omega) (by rw[aE,List.length_range];omega) fun v' N' bV=>?_
  refine ae.inc ?_
  exact av.of .tail ⟨i+1,v',N',rfl,hlt,rfl,by rw[List.range_succ,cM];exact bV⟩ (by simp only[cj];omega)
 ·obtain rfl:i=n:=by omega
  exact aY.here ⟨w1,N,rfl,rfl,ho⟩
theorem js{c:kT}{x:dJ}(Y:Hp):Rd Tryz.prog 9 #[.agg c.cells.toArray,x.v] Y (· =.bool true):=by
 refine aX fun g=>xd ?_
 intro b1 _ b3 _
 refine aa.eq (pZ _) ?_
 refine Un.not (Br.no ?_)
 intro J8 h8
 have main:J8 [.bool false] ((b3,.cells (Value.cells x.v) 35 (0,0))::(b1,.cells (Value.cells (.agg c.cells.toArray)) 23 (0,0))::Y):=by
  refine h8 _ _ fun _=>Br.no ?_
  refine aB.q (r:=c.cells) ?_
  refine aa.fn hnew (nE c (Q:=fun v H=>(bU c≠0∧v=.tuple #[.pointer none,i64 (bU c)]∧H=[])∨(bU c=0∧∃(d:Cf) (sp:Nat),c=d.i∧d.Ok∧v=.tuple #[ptr sp,i64 0]∧oW sp d 0 [] (List.range d.n) [] H)) (fun h=>.inl ⟨h,rfl,rfl⟩) (fun d hd hok sp kp mb C hK=>.inr ⟨by rw[hd];exact hok.bU,d,sp,hd,hok,rfl,r8 hK⟩)) ?_
  rintro w HS hS
  obtain⟨pv,rfl⟩:∃pv,w=.tuple #[pv,i64 (bU c)]:=by
   rcases hS with⟨_,rfl,_⟩|⟨h0,d,sp,_,_,rfl,_⟩
   ·exact⟨_,rfl⟩
   ·exact⟨_,by rw[h0]⟩
  refine Ext.two ?_
  refine aB.q (r:=c.cells) ?_
  refine aa.fn hnew (rS (c:=c) (steps:=[]) (Y:=[]) (Sl.nil 5 []) (by decide) (fun _ _ l _=>l=[]) (fun _ _ _ _ _ _ _ _=>rfl) (fun i sp l H x _ hx=>by simp at hx)) ?_
  rintro w HP hP
  obtain⟨s,rfl,hs⟩:∃s,w=.tuple #[s,i64 (bU c)]∧∀{K:Value→Prop},K (i64 0)→bM s K:=by
   rcases hP with⟨_,rfl,_⟩|⟨h0,_,l,s,CR,_,rfl,_,hR,hl,rfl⟩
   ·exact⟨_,rfl,fun hk=>bM.mk hk⟩
   ·exact⟨s,by rw[h0],fun hk=>hR.cN hk⟩
  refine Ext.two ?_
  refine aB.q (r:=c.cells) ?_
  refine aa.eq (lj c _) ?_
  refine ae.ep ?_
  refine cW.or (decide (bU c≠bU c)) (fun _=>ae.ep ⟨rfl,rfl⟩) rfl fun _=>?_
  refine cW.or false (fun _=>hs (ae.ep ⟨rfl,rfl⟩)) rfl fun _=>?_
  rw[decide_eq_false (fun h=>h rfl:¬bU c≠bU c)]
  refine Br.no ?_
  refine ae.ep ?_
  rcases hS with⟨hne,hw,_⟩|⟨h0,d,sp,hd,hok,hw,Gn⟩
  ·have:pv=.pointer none:=by
    simp only[Value.tuple.injEq]at hw
    have:=congrArg (fun a=>a[0]?) hw
    simpa using this
   subst this
   refine Br.T ?_ hne
   refine ae.mQ ?_
   exact bF.mk (aS.right.trans (aS.right.trans (.skip .tail))) rfl
  ·have:pv=ptr sp:=by
    simp only[Value.tuple.injEq]at hw
    have:=congrArg (fun a=>a[0]?) hw
    simpa using this
   subst this
   refine Br.F ?_ (by rw[h0];simp)
   refine Ld.u (v:=i64 c.n) (List.mem_append_right _ (List.mem_append_right _ (.tail _ (.head _)))) ?_
   subst hd
   have hn:=hok.n
   refine aa.fn hnew (kA (n:=d.n) (by omega) []) ?_
   rintro w HI ⟨s2,N2,rfl,rfl,zq⟩
   refine Ext.two ?_
   intro JU Iv
   refine aa.fq (pK Gn (by simp)) ?_
   rintro hv H2 ⟨l,N3,rfl,HE,HC⟩
   have:l=[]:=by simpa using HE
   subst this
   refine HC.cN ?_
   refine ae.iR ?_
   refine Split.go rfl ?_
   refine aa.pre (.cZ (.cZ .assoc _) _) ?_
   refine aa.fn (.app (.app (.app .left))) (ve Gn) ?_
   rintro ov H4 ⟨N4,rfl,HB⟩
   refine aa.eh .here (vG (a:=iw (List.range d.n)) (b:=iw (List.range d.n)) (HB.ints.mono fun _ h=>?_) (zq.ints.mono fun _ h=>?_) (by rw[aE,List.length_range];omega)) ?_
   ·exact List.mem_append_right _ (List.mem_append_right _ (List.mem_append_right _ (List.mem_append_left _ (List.mem_append_left _ h))))
   ·exact List.mem_append_left _ (List.mem_append_left _ h)
   rw[decide_eq_true rfl]
   refine ax.mk (JE.mk (Iv _ _ fun _=>?_))
   exact bF.mk (aS.right.trans (aS.right.trans (aS.right.trans (aS.right.trans (.skip .tail))))) rfl
 refine aB.q (r:=x.cells) ?_
 refine aa.eq (uV x _) ?_
 refine Build.mk (cs:=Rp.cells ⟨10, -1,0,0⟩) (by kernel_rfl) ?_
 refine Bo (neq:=true) (x:=.tmp 16) (y:=.tmp 17) (a:=⟨10, -1,0,0⟩) (b:=⟨10, -1,0,0⟩) (by kernel_rfl) rfl rfl ?_
 refine Split.go rfl ?_
 refine aa.eq (oe _) ?_
 refine bM.mk (ae.ep (ax.mk (Split.go rfl ?_)))
 refine aa.eq (pe _) ?_
 refine bM.mk (ae.ep (ax.mk (JE.mk main)))
section
open Go.ChangeShapes Go.WideShapes Go.Deep
variable {H:Type} {enc:TypeId×Value→H} {W:World} {base:Nat} {spare:Nat→Bool} {held:Bool}
theorem tK{fuel:Nat}{cs:List Value}{x:DataW H×List MemPlace}(hl:cs.length=5)(h:DataW.trod enc Tryz.prog W base spare held fuel 23 cs=some x):∃c:kT,cs=c.cells∧c.str<256:=by
 obtain⟨xs,n,_,_,_,hx,hf⟩:=DataW.trod_struct Tryz.underlying23 h
 match cs,hl with
 | [c0,c1,c2,c3,c4],_=>
  have Hl:xs.length=5:=hx
  have jg:Tryz.prog.cellsOf 3=1:=by kernel_rfl
  have mX:Tryz.prog.cellsOf 5=1:=by kernel_rfl
  have g0:DataW.trod enc Tryz.prog W base spare held n 3 (List.take (Tryz.prog.cellsOf 3) [c0,c1,c2,c3,c4])=xs[0]? :=hf 0 _ rfl
  have g1:DataW.trod enc Tryz.prog W base spare held n 3 (List.take (Tryz.prog.cellsOf 3) [c1,c2,c3,c4])=xs[1]? :=hf 1 _ rfl
  have g2:DataW.trod enc Tryz.prog W base spare held n 5 (List.take (Tryz.prog.cellsOf 5) [c2,c3,c4])=xs[2]? :=hf 2 _ rfl
  have g3:DataW.trod enc Tryz.prog W base spare held n 3 (List.take (Tryz.prog.cellsOf 3) [c3,c4])=xs[3]? :=hf 3 _ rfl
  have g4:DataW.trod enc Tryz.prog W base spare held n 3 (List.take (Tryz.prog.cellsOf 3) [c4])=xs[4]? :=hf 4 _ rfl
  rw[jg,List.getElem?_eq_getElem (by omega)]at g0
  rw[jg,List.getElem?_eq_getElem (by omega)]at g1
  rw[mX,List.getElem?_eq_getElem (by omega)]at g2
  rw[jg,List.getElem?_eq_getElem (by omega)]at g3
  rw[jg,List.getElem?_eq_getElem (by omega)]at g4
  simp only[List.take_succ_cons,List.take_zero]at g0 g1 g2 g3 g4
  obtain⟨n0,e0,_,w0⟩:=DataW.trod_int Tryz.underlying3 g0
  obtain⟨n1,e1,_,w1⟩:=DataW.trod_int Tryz.underlying3 g1
  obtain⟨n2,e2,_,w2⟩:=DataW.trod_int Tryz.underlying5 g2
  obtain⟨n3,e3,_,w3⟩:=DataW.trod_int Tryz.underlying3 g3
  obtain⟨n4,e4,_,w4⟩:=DataW.trod_int Tryz.underlying3 g4
  have b0:=bounds_i64 w0
  have b1:=bounds_i64 w1
  have b2:=bounds_u8 w2
  have b3:=bounds_i64 w3
  have b4:=bounds_i64 w4
  simp only[List.cons.injEq,and_true]at e0 e1 e2 e3 e4
  have z2:((n2.toNat:Nat):Int)=n2:=by omega
  exact⟨⟨n0,n1,n2.toNat,n3,n4⟩,by unfold kT.cells;simp only;rw[e0,e1,e2,e3,e4,z2],by simp only;omega⟩
theorem o9{fuel:Nat}{cs:List Value}{x:DataW H×List MemPlace}(hl:cs.length=5)(h:DataW.trod enc Tryz.prog W base spare held fuel 35 cs=some x):∃s:dJ,cs=s.cells∧s.Ok:=by
 obtain⟨xs,n,_,_,_,hx,hf⟩:=DataW.trod_struct Tryz.underlying35 h
 match cs,hl with
 | [c0,c1,c2,c3,c4],_=>
  have Hl:xs.length=5:=hx
  have jg:Tryz.prog.cellsOf 3=1:=by kernel_rfl
  have vD:Tryz.prog.cellsOf 33=1:=by kernel_rfl
  have mX:Tryz.prog.cellsOf 5=1:=by kernel_rfl
  have g0:DataW.trod enc Tryz.prog W base spare held n 5 (List.take (Tryz.prog.cellsOf 5) [c0,c1,c2,c3,c4])=xs[0]? :=hf 0 _ rfl
  have g1:DataW.trod enc Tryz.prog W base spare held n 3 (List.take (Tryz.prog.cellsOf 3) [c1,c2,c3,c4])=xs[1]? :=hf 1 _ rfl
  have g2:DataW.trod enc Tryz.prog W base spare held n 3 (List.take (Tryz.prog.cellsOf 3) [c2,c3,c4])=xs[2]? :=hf 2 _ rfl
  have g3:DataW.trod enc Tryz.prog W base spare held n 3 (List.take (Tryz.prog.cellsOf 3) [c3,c4])=xs[3]? :=hf 3 _ rfl
  have g4:DataW.trod enc Tryz.prog W base spare held n 33 (List.take (Tryz.prog.cellsOf 33) [c4])=xs[4]? :=hf 4 _ rfl
  rw[mX,List.getElem?_eq_getElem (by omega)]at g0
  rw[jg,List.getElem?_eq_getElem (by omega)]at g1
  rw[jg,List.getElem?_eq_getElem (by omega)]at g2
  rw[jg,List.getElem?_eq_getElem (by omega)]at g3
  rw[vD,List.getElem?_eq_getElem (by omega)]at g4
  simp only[List.take_succ_cons,List.take_zero]at g0 g1 g2 g3 g4
  obtain⟨n0,e0,_,w0⟩:=DataW.trod_int Tryz.underlying5 g0
  obtain⟨n1,e1,_,w1⟩:=DataW.trod_int Tryz.underlying3 g1
  obtain⟨n2,e2,_,w2⟩:=DataW.trod_int Tryz.underlying3 g2
  obtain⟨n3,e3,_,w3⟩:=DataW.trod_int Tryz.underlying3 g3
  obtain⟨n4,e4,_,w4⟩:=DataW.trod_int Tryz.underlying33 g4
  have b0:=bounds_u8 w0
  have b1:=bounds_i64 w1
  have b2:=bounds_i64 w2
  have b3:=bounds_i64 w3
  have b4:=bounds_u64 w4
  simp only[List.cons.injEq,and_true]at e0 e1 e2 e3 e4
  have z0:((n0.toNat:Nat):Int)=n0:=by omega
  have z4:((n4.toNat:Nat):Int)=n4:=by omega
  exact⟨⟨n0.toNat,n1,n2,n3,n4.toNat⟩,by simp only[dJ.cells,u64];rw[e0,e1,e2,e3,e4,z0,z4],⟨by simp only;omega,by simp only;omega,by simp only;omega,by simp only;omega,by simp only;omega⟩⟩
theorem AN{v:Value}{d:DataW H}{ps:List MemPlace}(h:DataW.Trod enc Tryz.prog W base spare held 23 v d ps)(hv:∃cs,v=.agg cs∧cs.size=Tryz.prog.cellsOf 23):∃c:kT,v=.agg c.cells.toArray∧c.str<256:=by
 obtain⟨fuel,hf⟩:=h
 obtain⟨cs,rfl,hsz⟩:=hv
 rw[show Tryz.prog.cellsOf 23=5 by kernel_rfl]at hsz
 obtain⟨l⟩:=cs
 obtain⟨s,hs,hok⟩:=tK (cs:=l) hsz hf
 subst hs
 exact⟨s,rfl,hok⟩
theorem xI{v:Value}{d:DataW H}{ps:List MemPlace}(h:DataW.Trod enc Tryz.prog W base spare held 35 v d ps)(hv:∃cs,v=.agg cs∧cs.size=Tryz.prog.cellsOf 35):∃s:dJ,v=s.v∧s.Ok:=by
 obtain⟨fuel,hf⟩:=h
 obtain⟨cs,rfl,hsz⟩:=hv
 rw[show Tryz.prog.cellsOf 35=5 by kernel_rfl]at hsz
 obtain⟨l⟩:=cs
 obtain⟨s,hs,hok⟩:=o9 (cs:=l) hsz hf
 subst hs
 exact⟨s,rfl,hok⟩
end
end Go.Proofs
