import Derived.Test.YtpndkbhmngcmfaaGreatDoorJ2
import Derived.Test.YtpndkbhmngcmfaaGreatDoorJ1
import Derived.Test.YtpndkbhmngcmfaaGreatDoorProg
import Derived.Deep.Slices
import Derived.SizedLaws
import Derived.WalkSmall
import Derived.Lib.Builder
import Derived.Lib.AppendStr
import Derived.Lib.UnsafeStr
import Derived.Laws.Externs
import Derived.Laws.StructEq
import Derived.ChangeKeysEq
set_option linter.unusedVariables false
set_option linter.unusedSimpArgs false
set_option linter.unusedSectionVars false
set_option maxRecDepth 100000
namespace Go.Proofs
open Go Go.Sx Tryz
open au
structure jQ(K0:Kd)(S0:Nat->au.Fn)(U:au.Fn->Prop)(ord:zL)(K:Kd)(S:Nat->au.Fn)(made:zL):Prop where
 n:K.n=K0.n
 cap:K.cap=K0.cap
 N:∀s d,K0.N s=some d->K.N s=some d
 fn:∀s,live K0.N s->S s=S0 s
 hold:∀s,K.hold s=K0.hold s+made.count s
 two:∀s∈made,2<=s
 U:∀g,aC K0.n ord (K.held S) g->U g
theorem jQ.refl{K0:Kd}{S0:Nat->au.Fn}{U:au.Fn->Prop}{ord:zL}(h:∀g,aC K0.n ord (K0.held S0) g->U g):jQ K0 S0 U ord K0 S0 []:=⟨rfl,rfl,λ_ _ h=>h,λ_ _=>rfl,λs=>by simp,by simp,h⟩
def Fits(U:au.Fn->Prop)(cap:Nat):Prop:=∃ku,nP U ku/\ku+2<=cap
section
variable {kp:Nat} {K0 K:Kd} {S0 S:Nat->au.Fn} {U:au.Fn->Prop} {ord af tr:zL} {made:zL} {C:Hp}
theorem jQ.fD(h:jQ K0 S0 U ord K S made)(hK:cc kp K S ord af tr C){s:Nat}(hs:s∈made):live K.N s:=by
 refine .inr (hK.ok.mid.held s ?_);rw[h.hold];have:=xcc.2 hs;omega
theorem oI{b:Nat}:∀(m:Nat) (l:zL),(∀x∈l,x<m)->(∀x,l.count x<=b)->l.length<=m*b
 |0,l,h1,_=>by
  cases l with
  |nil=>simp
  |cons x l=>exact absurd (h1 x (xdn ..)) (xcv _)
 |m+1,l,h1,h2=>by
  have ih:=oI m (l.filter λx=> !(x==m)) (λx hx=>by
   obtain⟨hx,hne⟩:=xca.1 hx;have:=h1 x hx;have:x≠m:=by simpa using hne
   omega) (λx=>xbs (List.filter_sublist.count_le x) (h2 x))
  have e:=List.length_eq_countP_add_countP (λx=>x==m) (l:=l);have h3:=h2 m;rw[List.count]at h3;rw[List.countP_eq_length_filter (l:=l) (p:=λa=>decide ¬(a==m)=true)]at e;rw[xbe];have e2:(l.filter λa=>decide ¬(a==m)=true)=l.filter λx=> !(x==m):=List.filter_congr λx _=>by cases x==m<;>rfl
  rw[e2]at e;omega
theorem jQ.qP(h:jQ K0 S0 U ord K S made)(hK:cc kp K S ord af tr C):made.length<=1048576*65535:=
 oI _ _ (λx hx=>by
  have hc:=xcc.2 hx;have:=h.hold x;obtain⟨d,hd⟩:=hK.ok.mid.held x zO;have:=(hK.ok.mid.two hd).2;have:=hK.ok.mid.cap;omega) (λx=>by have:=h.hold x;have:=hK.ok.mid.mx x;omega)
theorem jQ.full(h:jQ K0 S0 U ord K S made){r:Nat}(hr:K.hold r=65535):r∈made\/K0.hold r=65535:=by
 by_cases hm:r∈made
 ·exact .inl hm
 have:=h.hold r;rw[List.count_eq_zero.2 hm]at this;exact .inr zO
theorem jQ.live(h:jQ K0 S0 U ord K S made){s:Nat}(hs:live K0.N s):live K.N s:=oF h.N hs
theorem jQ.step(h:jQ K0 S0 U ord K S made)(hK:cc kp K S ord af tr C){K':Kd}{S':Nat->au.Fn}{f:au.Fn}{r:Nat}(m:lF K S K' S' f r)(h2:2<=r)(hU:∀g,aC K0.n ord (λg=>g=f) g->U g):jQ K0 S0 U ord K' S' (made++[r]):=by
 refine⟨m.n.trans h.n,m.cap.trans h.cap,λs d hd=>m.N s d (h.N s d hd),λs hs=>(m.fn s (h.live hs)).trans (h.fn s hs),λs=>?_,λs hs=>?_,λg hg=>?_⟩
 ·rw[m.hold,xa3,xbK,h.hold];by_cases e:s=r
  ·subst e;simp[h2];omega
  have:(r==s)=false:=by simpa using λe'=>e e'.symm
  simp[e,this]
 ·rcases xaw.1 hs with hs|hs
  ·exact h.two s hs
  simp at hs;subst hs;exact h2
 have wY:∀g,K'.held S' g->K.held S g\/g=f:=by
  rintro g ⟨s,hs,rfl⟩;have hs':K'.hold s≠0:=hs;rw[m.hold]at hs';by_cases e:s=r/\2<=r
  ·right;rw[e.1];exact m.is
  rw[xab e]at hs';exact .inl ⟨s,hs',m.fn s (.inr (hK.ok.mid.held s hs'))⟩
 rcases(zy g).1 (cr wY hg)with h1|h1
 ·exact h.U g h1
 exact hU g h1
end
def pY(kK b1 b5 kJ:Nat):zV:=.func (.func 207) #[] #[ptr kK,ptr b1,ptr b5,ptr kJ]
structure p6(fv:zV)(LB:Hp)(t:Bool->Bool->Bool->Bool):Prop where
 is:∃f first cap,fv=.func (.func f) first cap/\bE zQ f=true/\∀x y z:Bool,Rd zQ f (first++ #[.bool x,.bool y,.bool z]++cap) LB (· =.bool (t x y z))
def IF(K0:Kd)(S0 S:Nat->au.Fn)(t:Bool->Bool->Bool->Bool)(made:zL)(m:List (Q3×Nat)):Prop:=∀y∈m,S y.2=mj t S0 (l3 y.1)/\(y.2<2\/y.2∈made\/K0.hold y.2=65535)
section
variable {kp kK b1 b5 kJ bm bw:Nat} {vl fv:zV} {LB CL:Hp} {lvl:zL} {K0:Kd} {S0:Nat->au.Fn} {U:au.Fn->Prop} {ord af:zL} {t:Bool->Bool->Bool->Bool}
abbrev En(kK b1 b5 kJ bm bw kp:Nat)(fv vl vm:zV)(LB CL CM C:Hp)(es:Array MapEntry)(ck:Nat):Hp:=
 (kK,.cells #[.map (some bm)] 291 zZ)::(b1,.cells #[ptr bw] 232 zZ)::(b5,.cells #[fv] 239 zZ)::(kJ,.cells #[pY kK b1 b5 kJ] 292 zZ)::
 (LB++((bm,.map es ck)::(dc bw kp vl vm::(CL++(CM++C)))))
structure Lw(kp:Nat)(K0:Kd)(S0:Nat->au.Fn)(U:au.Fn->Prop)(ord af EB:zL)(t:Bool->Bool->Bool->Bool)(K:Kd)(S:Nat->au.Fn)(made:zL)(es:Array MapEntry)(ck:Nat)(vm:zV)(CM C:Hp):Prop where
 ks:∃tr,cc kp K S ord af tr C/\(tr=[]\/(tr=EB/\made=[]))
 eZ:jQ K0 S0 U ord K S made
 IT:aO 82 .u32 vm (iw made) CM
 kn:∃m,bh kq DU es ck m/\IF K0 S0 S t made m
structure c8(K:Kd)(S:Nat->au.Fn)(made:zL)(K':Kd)(S':Nat->au.Fn)(made':zL)(c:Nat):Prop where
 N:∀s d,K.N s=some d->K'.N s=some d
 fn:∀s,live K.N s->S' s=S s
 ext:∃ext,made'=made++ext/\ext.length<=c
theorem c8.refl{K:Kd}{S:Nat->au.Fn}{made:zL}{c:Nat}:c8 K S made K S made c:=⟨λ_ _ h=>h,λ_ _=>rfl,[],by simp,xaE _⟩
section
variable {K K' K2:Kd} {S S' S2:Nat->au.Fn} {made made' fE:zL} {c c':Nat}
theorem c8.wg(h:c8 K S made K' S' made' c)(hc:c<=c'):c8 K S made K' S' made' c':=⟨h.N,h.fn,let ⟨e,h1,h2⟩:=h.ext;⟨e,h1,by omega⟩⟩
theorem c8.mem{s:Nat}(h:c8 K S made K' S' made' c)(hs:s∈made):s∈made':=by
 obtain⟨e,rfl,_⟩:=h.ext;exact xac _ hs
theorem c8.count(h:c8 K S made K' S' made' c)(s:Nat):made'.count s<=made.count s+c/\made'.length<=made.length+c:=by
 obtain⟨e,rfl,he⟩:=h.ext;have:=List.count_le_length (a:=s) (l:=e);rw[xa3,xaq];omega
theorem c8.trans(h:c8 K S made K' S' made' c)(h':c8 K' S' made' K2 S2 fE c'):c8 K S made K2 S2 fE (c+c'):=by
 obtain⟨e,rfl,he⟩:=h.ext;obtain⟨e',rfl,he'⟩:=h'.ext;exact⟨λs d hd=>h'.N s d (h.N s d hd),λs hs=>(h'.fn s (oF h.N hs)).trans (h.fn s hs),e++e',by rw[xau],by rw[xaq];omega⟩
end
theorem mJ{κ β:Type}[DecidableEq κ]{m:List (κ×β)}{k:κ}{x:β}{y:κ×β}(h:y∈bQ m k x):y=(k,x)\/y∈m:=by
 unfold bQ at h;split at h
 ·obtain⟨z,hz,rfl⟩:=xan.1 h;split
  ·exact .inl rfl
  exact .inr hz
 rcases xaw.1 h with h|h
 ·exact .inr h
 simp at h;exact .inl h
def qy(N:cY)(v:Nat)(b:Bool)(q:Q3):Q3:=(dU N v b q.1,dU N v b q.2.1,dU N v b q.2.2)
theorem C7(N:cY)(v:Nat)(b:Bool)(q:Q3):l3 (qy N v b q)=ez N v b (l3 q):=rfl
theorem q6{N N':cY}(hN:∀s d,N s=some d->N' s=some d)(h2:∀r,r<2->N r=none)(nO:∀r,r<2->N' r=none){r:Nat}(hr:live N r):got N' r=got N r:=by
 rcases hr with hr|⟨d,hd⟩
 ·rw[eE hr,eE hr]
 by_cases h:r<2
 ·rw[h2 r h]at hd;cases hd
 rw[dL hd zO,dL (hN r d hd) zO]
def Ph(kp kK b1 b5 kJ bm bw:Nat)(fv vl:zV)(LB CL:Hp)(K0:Kd)(S0:Nat->au.Fn)(U:au.Fn->Prop)(ord af EB:zL)(t:Bool->Bool->Bool->Bool)(ql:zL)(c:Nat)(K:Kd)(S:Nat->au.Fn)(made:zL)(r:zV)(H:Hp):Prop:=
 ∃K' S' made' es' dO Ey F3 C',H=En kK b1 b5 kJ bm bw kp fv vl Ey LB CL F3 C' es' dO/\Lw kp K0 S0 U ord af EB t K' S' made' es' dO Ey F3 C'/\c8 K S made K' S' made' c/\
   ((∃x:Nat,r=.tuple #[u32 x,iv 0]/\S' x=mj t S0 ql/\(x<2\/x∈made'\/K0.hold x=65535))\/(r=.tuple #[u32 0,iv 9]/\¬Fits U K0.cap))
theorem FD(fO:bE zQ 207=true)(Jm:p6 fv LB t)(El:aO 3 .i64 vl (iw lvl) CL)(rZ:lvl.length=K0.n)(hlv:∀v,v<K0.n->lvl.getD v 0=lv af v)(Dg:K0.n<=64)(B8:WF K0.n (lv af) K0.N)(Fz:Interp K0.N S0)(AS:mr K0.n (lv af))(vz:∀r,live K0.N r->r<4294967296)(I9:∀s,K0.hold s=65535->live K0.N s){EB:zL}:
  ∀(ql:zL) (c:Nat),Tree K0.n (lv af) K0.N ql c->∀(q:Q3),l3 q=ql->∀(K:Kd) (S:Nat->au.Fn) (made:zL) (es:Array MapEntry) (ck:Nat) (vm:zV) (CM C:Hp),Lw kp K0 S0 U ord af EB t K S made es ck vm CM C->
  (∀r∈ql,live K0.N r)->(∀g,aC K0.n ord (λg=>g=mj t S0 ql) g->U g)->
  Fc zQ 207 #[kq q,ptr kK,ptr b1,ptr b5,ptr kJ] (En kK b1 b5 kJ bm bw kp fv vl vm LB CL CM C es ck) (λr H=>Ph kp kK b1 b5 kJ bm bw fv vl LB CL K0 S0 U ord af EB t ql c K S made r H):=by
 have hc0:∀r,r<2->K0.N r=none:=λr hr=>B8.const hr;intro ql c hT;induction hT with
 | @leaf ql hnone=>
  intro q hq K S made es ck vm CM C hS fI hU g;subst hq;obtain⟨tr,hK,Ka⟩:=hS.ks;obtain⟨m,hE,hkn⟩:=hS.kn;have KJ:∀r,r<2->K.N r=none:=λr hr=>hK.ok.wf.const hr;refine nB (R:=aZ _) ?_;unfold L207;intro bq _;refine Ld.q ?_;refine az.q ?_;have HC:(bm,Obj.map es ck)∈(bq,Obj.cells (aq .u32 (iw (l3 q))) 237 zZ)::En kK b1 b5 kJ bm bw kp fv vl vm LB CL CM C es ck:=.tail _ (.tail _ (.tail _ (.tail _ (.tail _ (xaa _ (.head _))))));cases hg:aN m q with
  |some x=>
   refine bh.Dk (ke:=kq) (k:=q) mO ja hE HC hg ?_;rintro v rfl;obtain⟨h1,h2⟩:=hkn _ ((gH hE.nd).1 hg);exact Ext.mk rfl (Ext.mk rfl (Br.yes (aZ.mk .tail ⟨K,S,made,es,ck,vm,CM,C,rfl,hS,.refl,.inl ⟨x,rfl,h1,h2⟩⟩)))
  |none=>
   refine bh.uZ (ke:=kq) (k:=q) mO ja hE HC hg ?_;refine Ext.mk rfl (Ext.mk rfl (Br.no (Ld.q ?_)));refine az.q ?_;refine aa.fq (args:=#[ptr bw,kq q]) (oZ hK.rep q (λr hr=>vz r (fI r hr))) ?_;rintro vn H ⟨CN,rfl,hN⟩;have eN:(l3 q).map (got K.N)=(l3 q).map (got K0.N):=xbA λr hr=>q6 hS.eZ.N hc0 KJ (fI r hr);rw[eN]at hN;refine Ld.q ?_;refine aa.rq (vP (bw:=bw) (kp:=kp) (vl:=vl) (vm:=vm) (lvl:=lvl) (n:=K0.n) (kZ:=lv af) (N:=K0.N) (.tail _ (.tail _ (.tail _ (.tail _ (.tail _ (xaa _ (.tail _ (xaa _ (.head _))))))))) (El.ints.mono λ_ h=>.tail _ (.tail _ (.tail _ (.tail _ (.tail _ (xaa _ (.tail _ (xaa _ (.tail _ (xac _ h)))))))))) rZ hlv q ((Sl.dV hN zD).mono λ_ h=>.tail _ (.tail _ (.tail _ (.tail _ (.tail _ (xaa _ (.tail _ (xac _ h)))))))) B8 AS fI Dg) ?_;rintro w (⟨_,rfl⟩|⟨v,hv,rfl⟩);rotate_left
   ·obtain⟨s,hs,d,hd,_⟩:=hv.ex;rw[hnone s hs]at hd;cases hd
   refine ae.lss (Br.T ?_);have Ft:∀r∈l3 q,r<2:=λr hr=>by
    rcases fI r hr with h|⟨d,hd⟩
    ·exact h
    rw[hnone r hr]at hd;cases hd
   obtain⟨f,first,cap,KA,N7,hL⟩:=Jm.is;refine Ld.q ?_;refine di.nat (j:=0) zD (Ld.q ?_);refine ae.bN (b:=1) (di.nat (j:=1) zD (Ld.q ?_));refine ae.bN (b:=1) (di.nat (j:=2) zD (Ld.q ?_));refine ae.bN (b:=1) (bp.of KA N7 ?_);refine aa.eq (hL _ _ _) ?_;have q4:=λx=>xo Fz (q:=l3 q) rfl Ft t x;have hint:=hK.ok.mid.int;have Ej:aM ((bq,Obj.cells (aq .u32 (iw (l3 q))) 237 zZ)::(kK,.cells #[.map (some bm)] 291 zZ)::(b1,.cells #[ptr bw] 232 zZ)::(b5,.cells #[fv] 239 zZ)::(kJ,.cells #[pY kK b1 b5 kJ] 292 zZ)::(LB++((bm,.map es ck)::(CN++(dc bw kp vl vm::(CL++(CM++C))))))) (En kK b1 b5 kJ bm bw kp fv vl vm LB CL CM C es ck):=
    .skip (.cons (.cons (.cons (.cons (.cA (.cons .right) _)))))
   refine Br.mk (λhb=>?_) (λhb=>?_)
   ·refine aZ.mk Ej ⟨K,S,made,es,ck,vm,CM,C,rfl,hS,.refl,.inl ⟨1,rfl,funext λx=>?_,.inl zO⟩⟩;rw[hint.one,q4 x];exact hb.symm
   refine aZ.mk Ej ⟨K,S,made,es,ck,vm,CM,C,rfl,hS,.refl,.inl ⟨0,rfl,funext λx=>?_,.inl zO⟩⟩;rw[hint.zero,q4 x];exact hb.symm
 | @node ql v a b hv ha hb Np No=>
  intro q hq K S made es ck vm CM C hS fI hU g;subst hq;obtain⟨tr,hK,Ka⟩:=hS.ks;obtain⟨m,hE,hkn⟩:=hS.kn;have KJ:∀r,r<2->K.N r=none:=λr hr=>hK.ok.wf.const hr;refine nB (R:=aZ _) ?_;unfold L207;intro bq _;refine Ld.q ?_;refine az.q ?_;have HC:(bm,Obj.map es ck)∈(bq,Obj.cells (aq .u32 (iw (l3 q))) 237 zZ)::En kK b1 b5 kJ bm bw kp fv vl vm LB CL CM C es ck:=.tail _ (.tail _ (.tail _ (.tail _ (.tail _ (xaa _ (.head _))))));cases hg:aN m q with
  |some x=>
   refine bh.Dk (ke:=kq) (k:=q) mO ja hE HC hg ?_;rintro v rfl;obtain⟨h1,h2⟩:=hkn _ ((gH hE.nd).1 hg);exact Ext.mk rfl (Ext.mk rfl (Br.yes (aZ.mk .tail ⟨K,S,made,es,ck,vm,CM,C,rfl,hS,.refl,.inl ⟨x,rfl,h1,h2⟩⟩)))
  |none=>
  refine bh.uZ (ke:=kq) (k:=q) mO ja hE HC hg ?_;refine Ext.mk rfl (Ext.mk rfl (Br.no (Ld.q ?_)));refine az.q ?_;refine aa.fq (args:=#[ptr bw,kq q]) (oZ hK.rep q (λr hr=>vz r (fI r hr))) ?_;rintro vn H ⟨CN,rfl,hN⟩;have eN:(l3 q).map (got K.N)=(l3 q).map (got K0.N):=xbA λr hr=>q6 hS.eZ.N hc0 KJ (fI r hr);rw[eN]at hN;refine Ld.q ?_;refine aa.rq (vP (bw:=bw) (kp:=kp) (vl:=vl) (vm:=vm) (lvl:=lvl) (n:=K0.n) (kZ:=lv af) (N:=K0.N) (.tail _ (.tail _ (.tail _ (.tail _ (.tail _ (xaa _ (.tail _ (xaa _ (.head _))))))))) (El.ints.mono λ_ h=>.tail _ (.tail _ (.tail _ (.tail _ (.tail _ (xaa _ (.tail _ (xaa _ (.tail _ (xac _ h)))))))))) rZ hlv q ((Sl.dV hN zD).mono λ_ h=>.tail _ (.tail _ (.tail _ (.tail _ (.tail _ (xaa _ (.tail _ (xac _ h)))))))) B8 AS fI Dg) ?_;rintro w (⟨aL,_⟩|⟨v',sC,rfl⟩)
  ·obtain⟨s,hs,d,hd,_⟩:=hv.ex;rw[aL s hs]at hd;cases hd
  obtain rfl:v'=v:=sC.uniq AS hv;refine ae.lss (Br.F (DR.of (R:=[(bq,Obj.cells (aq .u32 (iw (l3 q))) 237 zZ)]) (aM.left (A:=[_])) (az.q ?_)));refine az.q ?_;intro Ls _ GA _ Qe;have hone:∀x∈(iw (l3 q)).map λn=>Value.int .u32 n,x.oneCell'=true:=λx hx=>by obtain⟨n,_,rfl⟩:=xan.1 hx;rfl
  refine St.p hone ?_;refine⟨.skip (.skip (aM.left (A:=[_]))),?_⟩;intro Qd;refine St.p hone ?_;refine hN.c6 ?_;rw[xav];refine⟨λvs H=>∃i:Nat,vs=[iv (i:Int)]/\i<=3/\H=(GA,.cells (aq .u32 (iw (fW K0.N v' true (l3 q) i))) 237 zZ)::(Ls,.cells (aq .u32 (iw (fW K0.N v' false (l3 q) i))) 237 zZ)::
    (bq,Obj.cells (aq .u32 (iw (l3 q))) 237 zZ)::(kK,.cells #[.map (some bm)] 291 zZ)::(b1,.cells #[ptr bw] 232 zZ)::(b5,.cells #[fv] 239 zZ)::(kJ,.cells #[pY kK b1 b5 kJ] 292 zZ)::(LB++((bm,.map es ck)::(CN++(dc bw kp vl vm::(CL++(CM++C)))))),
   λvs _=>3-dR vs 0,JE.mk ⟨0,rfl,by omega,by rw[oz,oz];rfl⟩,?_⟩
  rintro Pk H ⟨i,hvs,hi,rfl⟩ gs;simp only[xa0,xdl]at hvs;subst hvs;have NM:(l3 q).length=3:=rfl;refine ae.fN (b:=3) (Br.dec (λhlt=>?_) (λhlt=>?_))
  ·-- a part of the question
   intro J hJ;obtain⟨r,hr⟩:∃r,(l3 q)[i]? =some r:=⟨_,xad (show i<(l3 q).length from hlt)⟩;have hlr:=fI r (xaJ hr);have hrow:((l3 q).map (got K0.N))[i]? =some (got K0.N r):=by rw[xaB,hr];rfl
   refine ai.sl (Sl.dV hN zD) hrow λp hp=>?_;refine az.at hp (aP _ _).1 zD (λ_ h=>.tail _ (.tail _ (.tail _ (.tail _ (.tail _ (.tail _ (.tail _ (xaa _ (.tail _ (xac _ h)))))))))) ?_;intro OS _;refine St.whole (r:=got K0.N r) (by exact .head _) rfl (aP _ _).1 (aP _ _).2 ?_;have stay:dU K0.N v' false r=r->dU K0.N v' true r=r->∀Z:Hp,JE J [] (Z++((GA,.cells (aq .u32 (iw (fW K0.N v' true (l3 q) i))) 237 zZ)::(Ls,.cells (aq .u32 (iw (fW K0.N v' false (l3 q) i))) 237 zZ)::
    (bq,Obj.cells (aq .u32 (iw (l3 q))) 237 zZ)::(kK,.cells #[.map (some bm)] 291 zZ)::(b1,.cells #[ptr bw] 232 zZ)::(b5,.cells #[fv] 239 zZ)::(kJ,.cells #[pY kK b1 b5 kJ] 292 zZ)::(LB++((bm,.map es ck)::(CN++(dc bw kp vl vm::(CL++(CM++C)))))))):=λe1 e2 Z=>by
    refine JE.of .right (hJ _ λgs=>?_);exact ae.inc (aR.of (.refl _) ⟨i+1,rfl,by omega,by rw[oB hr e1,oB hr e2]⟩ (by simp only[dR];omega))
   cases Fv:K0.N r with
   |none=>
    have pI:r<2:=by rcases hlr with h2|⟨d,hd⟩;exact h2;rw[Fv]at hd;cases hd
    rw[eE pI];refine Ld.f ?_;refine ae.qd (Br.F ?_);have ec:∀b,dU K0.N v' b r=r:=λb=>by unfold dU;rw[Fv]
    exact stay (ec false) (ec true) [_]
   |some d=>
    have h2:=B8.two Fv;rw[dL Fv h2];refine Ld.f ?_;refine ae.bN (Br.dec (λAF=>?_) (λAF=>?_))
    ·refine DR.of (R:=[(OS,Obj.cells (dQ d).toArray 201 zZ)]) (aM.left (A:=[_])) (Ld.f ?_);refine Ld.f ?_;have OJ:dU K0.N v' false r=d.lo:=by unfold dU;rw[Fv];simp[AF]
     have OK:dU K0.N v' true r=d.hi:=by unfold dU;rw[Fv];simp[AF]
     refine di.nat hlt ?_;refine St.ints (l:=iw (fW K0.N v' false (l3 q) i)) (x:=(d.lo:Int)) (by exact .tail (.tail (.head _))) (by rw[aQ,qM zO];omega) ?_;refine⟨aM.left (A:=[_]),?_⟩;refine di.nat hlt ?_;refine St.ints (l:=iw (fW K0.N v' true (l3 q) i)) (x:=(d.hi:Int)) (by exact .tail (.head _)) (by rw[aQ,qM zO];omega) ?_;rw[fj,fj,<-OJ,<-OK,j9 hr,j9 hr];refine JE.of .tail (hJ _ λgs=>?_);exact ae.inc (aR.of (.refl _) ⟨i+1,rfl,by omega,rfl⟩ (by simp only[dR];omega))
    have ec:∀b,dU K0.N v' b r=r:=λb=>by unfold dU;rw[Fv];simp[AF]
    exact stay (ec false) (ec true) [_]
  obtain rfl:i=3:=by omega
  have em:∀b,fW K0.N v' b (l3 q) 3=l3 (qy K0.N v' b q):=λb=>by rw[C7,<-zW];rfl
  rw[em,em];obtain⟨f1,f2⟩:=mq (S:=S0) B8 AS Fz fI hv false;obtain⟨t1,t2⟩:=mq (S:=S0) B8 AS Fz fI hv true;have ec:∀b,mj t S0 (ez K0.N v' b (l3 q))=λx=>mj t S0 (l3 q) (cI.aK x v' b):=λb=>Dz B8 AS Fz rfl fI hv t b;have lY:Ord K0.n (lv af) ord:=by rw[<-hS.eZ.n];exact hK.od
  have lZ:=AS.lt v' hv.lt;have Hz:=lY.of AS hv.lt;have AA:=xn B8 AS Fz lY (q:=l3 q) rfl fI (xbR lZ) hv.le t;obtain⟨i1,JQ⟩:=oe (n:=K0.n) (ord:=ord) (c:=mj t S0 (ez K0.N v' false (l3 q))) AA (b:=false) (by rw[Hz];exact ec false);obtain⟨i2,JP⟩:=oe (n:=K0.n) (ord:=ord) (c:=mj t S0 (ez K0.N v' true (l3 q))) AA (b:=true) (by rw[Hz];exact ec true);refine Ld.q ?_;refine az.q ?_;refine bp.of rfl fO ?_;refine aa.pre (H':=(GA,.cells (aq .u32 (iw (l3 (qy K0.N v' true q)))) 237 zZ)::(Ls,.cells (aq .u32 (iw (l3 (qy K0.N v' false q)))) 237 zZ)::(bq,Obj.cells (aq .u32 (iw (l3 q))) 237 zZ)::En kK b1 b5 kJ bm bw kp fv vl vm LB CL CM C es ck) (.cons (.cons (.cons (.cons (.cons (.cons (.cons (.cA (.cons .right) _)))))))) ?_;refine aa.fq (args:=#[kq (qy K0.N v' false q),ptr kK,ptr b1,ptr b5,ptr kJ]) (Np (qy K0.N v' false q) rfl K S made es ck vm CM C hS f1 (λg hg=>hU g (JQ g hg))) ?_;rintro w H ⟨K1,S1,D6,FH,FL,LO,MN,C1,rfl,mi,La,AO⟩;rcases AO with⟨x1,rfl,An,I3⟩|⟨rfl,hno⟩;rotate_left
  ·exact Ext.mk rfl (Ext.mk rfl (ae.j7 (Br.T (aZ.mk (.skip (.skip .tail)) ⟨K1,S1,D6,FH,FL,LO,MN,C1,rfl,mi,La.wg zO,.inr ⟨rfl,hno⟩⟩))))
  refine Ext.mk rfl (Ext.mk rfl (ae.j7 (Br.F (Ld.q ?_))));refine az.q ?_;refine bp.of rfl fO ?_;have B7:=λs=>La.count s;have qZ:∀s,K1.hold s<=K.hold s+a:=λs=>by rw[mi.eZ.hold,hS.eZ.hold];have:=(B7 s).1;omega
  refine aa.fq (args:=#[kq (qy K0.N v' true q),ptr kK,ptr b1,ptr b5,ptr kJ]) (No (qy K0.N v' true q) rfl K1 S1 D6 FH FL LO MN C1 mi t1 (λg hg=>hU g (JP g hg))) ?_;rintro w H ⟨K2,S2,fE,Ca,Cc,IQ,JC,C2,rfl,gT,K9,AO⟩;have AU:=La.trans K9;rcases AO with⟨x2,rfl,Hl,Ge⟩|⟨rfl,hno⟩;rotate_left
  ·exact Ext.mk rfl (Ext.mk rfl (ae.j7 (Br.T (aZ.mk (.skip (.skip .tail)) ⟨K2,S2,fE,Ca,Cc,IQ,JC,C2,rfl,gT,AU.wg zO,.inr ⟨rfl,hno⟩⟩))))
  refine Ext.mk rfl (Ext.mk rfl (ae.j7 (Br.F (Ld.q ?_))));obtain⟨EA,iy,De⟩:=mi.ks;obtain⟨eG,dP,nZ⟩:=gT.ks;have HJ:=dP.ok.mid.int;have Nl:live K1.N x1:=by rcases I3 with h|h|h;exact .inl h;exact mi.eZ.fD iy h;exact mi.eZ.live (I9 _ h)
  have e1:S2 x1=mj t S0 (ez K0.N v' false (l3 q)):=(K9.fn x1 Nl).trans An;have l1:live K2.N x1:=by rcases I3 with h|h|h;exact .inl h;exact gT.eZ.fD dP (K9.mem h);exact gT.eZ.live (I9 _ h)
  have l2:live K2.N x2:=by rcases Ge with h|h|h;exact .inl h;exact gT.eZ.fD dP h;exact gT.eZ.live (I9 _ h)
  have n2:=gT.eZ.n;have Az:ite S2 ⟨v',x1,x2⟩=mj t S0 (l3 q):=by
   funext x
   unfold au.ite;rw[e1,Hl,ec,ec]
   conv=>rhs;rw[<-cI.fA x v']
   simp only;cases x.testBit v'<;>rfl
  obtain⟨m2,FA,Dj⟩:=gT.kn;have Ma:∀y∈m2,live K2.N y.2:=λy hy=>by
   rcases(Dj y hy).2 with h|h|h
   ·exact .inl h
   ·exact gT.eZ.fD dP h
   exact gT.eZ.live (I9 _ h)
  by_cases hx:x1=x2
  ·subst hx;refine aa.eq (sU x1 v' _) (Ext.two λJ hJ=>(ae.qd (Br.T (Ld.q ?_))));refine az.q ?_;refine bh.Cn (ke:=kq) (k:=q) (vr:=DU) (x:=x1) mO ja pE FA rfl λes' dO he=>⟨_,.tail (.tail (.tail (.tail (.tail (.tail (.tail ((cm.head _).ax LB))))))),?_⟩;refine JE.mk (hJ _ λgs=>?_);have hr:S2 x1=mj t S0 (l3 q):=by
    rw[<-Az]
    funext x
    unfold au.ite;split<;>rfl
   have Ed:x1<2\/x1∈fE\/K0.hold x1=65535:=Ge;exact aZ.mk (.skip (.skip .tail)) ⟨K2,S2,fE,es',dO,IQ,JC,C2,rfl,⟨gT.ks,gT.eZ,gT.IT,_,he,λy hy=>(mJ hy).elim (λe=>by rw[e];exact⟨hr,Ed⟩) (λhy=>Dj y hy)⟩,AU.wg zO,.inl ⟨x1,rfl,hr,Ed⟩⟩
  have Eh:cU (mj t S0 (l3 q)) (ord.getD (lv af v') 0):=by
   rw[Hz];refine xaX λhno=>hx ?_;refine dP.ok.wf.same dP.ok.lv HJ l1 l2 λx=>?_;rw[e1,Hl,ec,ec];exact(cT hno x false).trans (cT hno x true).symm
  have Qa:=dP.ok.below dP.od (l:=lv af v'+1) l1 zO (by rw[e1];exact i1);have P8:=dP.ok.below dP.od (l:=lv af v'+1) l2 zO (by rw[Hl];exact i2);have AQ:∀g,aC K0.n ord (λg=>g=ite S2 ⟨v',x1,x2⟩) g->U g:=by rw[Az];exact hU
  refine aa.fq (args:=#[ptr bw,iv (v':Int),u32 x1,u32 x2]) (BN dP (v:=v') (by rw[n2];exact hv.lt) l1 l2 hx ⟨by omega,by omega⟩ gT.IT (by have:=gT.eZ.qP dP;omega)) ?_;rintro w H (⟨r,K3,S3,C3,MP,Pf,rfl,rfl,qb,mk,Jk⟩|⟨rfl,rfl,PU,hT⟩|⟨r,rfl,rfl,hlr,Ib,hfull,Gn⟩)
  ·refine Ext.two λJ hJ=>(ae.qd (Br.T (Ld.q ?_)));refine az.q ?_;refine bh.Cn (ke:=kq) (k:=q) (vr:=DU) (x:=r) mO ja pE FA rfl λes' dO he=>⟨_,.tail (.tail (.tail (.tail (.tail (.tail (.tail ((cm.head _).ax LB))))))),?_⟩;refine JE.mk (hJ _ λgs=>?_);have hr:S3 r=mj t S0 (l3 q):=mk.is.trans Az;have pI:2<=r:=xcP λh=>by
    obtain⟨x,hx⟩:=Eh;apply hx;rw[<-hr];have Fl:=qb.ok.mid.int;have:r=0\/r=1:=by omega
    rcases this with rfl|rfl
    ·rw[Fl.zero,Fl.zero]
    rw[Fl.one,Fl.one]
   have mg:=gT.eZ.step dP mk pI AQ;have K8:c8 K2 S2 fE K3 S3 (fE++[r]) 1:=⟨mk.N,mk.fn,[r],rfl,xak _⟩;have Ed:r<2\/r∈fE++[r]\/K0.hold r=65535:=.inr (.inl zI);refine aZ.mk (.skip (.skip .tail)) ⟨K3,S3,fE++[r],es',dO,MP,Pf,C3,rfl,⟨⟨[],qb,.inl rfl⟩,mg,Jk,_,he,λy hy=>(mJ hy).elim (λe=>by rw[e];exact⟨hr,Ed⟩) (λhy=>?_)⟩,(AU.trans K8).wg zO,.inl ⟨r,rfl,hr,Ed⟩⟩;obtain⟨k1,k2⟩:=Dj y hy;exact⟨by rw[K8.fn y.2 (Ma y hy),k1],k2.imp id (Or.imp K8.mem id)⟩
  ·refine Ext.two λJ hJ=>(ae.qd (Br.F (JE.mk (hJ _ λgs=>?_))));refine aZ.mk (.skip (.skip .tail)) ⟨K2,S2,fE,Ca,Cc,IQ,JC,C2,rfl,gT,AU.wg zO,.inr ⟨rfl,?_⟩⟩;rintro⟨ku,Di,hfit⟩;have:=dP.ok.roomFor dP.od Di (by rw[gT.eZ.cap];exact hfit) (by rw[n2];exact gT.eZ.U) (d:=⟨v',x1,x2⟩) l1 l2 hx (by rw[n2];exact hv.lt) ⟨by show lv af v'<dep K2.n (lv af) K2.N x1;omega,by show lv af v'<dep K2.n (lv af) K2.N x2;omega⟩ (AQ _ (by rw[Az];exact oo AA lZ Eh)) hT;omega
  refine Ext.two λJ hJ=>(ae.qd (Br.T (Ld.q ?_)));refine az.q ?_;refine bh.Cn (ke:=kq) (k:=q) (vr:=DU) (x:=r) mO ja pE FA rfl λes' dO he=>⟨_,.tail (.tail (.tail (.tail (.tail (.tail (.tail ((cm.head _).ax LB))))))),?_⟩;refine JE.mk (hJ _ λgs=>?_);have hr:S2 r=mj t S0 (l3 q):=Gn.trans Az;have Ed:r<2\/r∈fE\/K0.hold r=65535:=.inr (gT.eZ.full hfull);exact aZ.mk (.skip (.skip .tail)) ⟨K2,S2,fE,es',dO,IQ,JC,C2,rfl,⟨gT.ks,gT.eZ,gT.IT,_,he,λy hy=>(mJ hy).elim (λe=>by rw[e];exact⟨hr,Ed⟩) (λhy=>Dj y hy)⟩,AU.wg zO,.inl ⟨r,rfl,hr,Ed⟩⟩
end
section
variable {kp bw:Nat} {vl vm:zV} {K:Kd} {S:Nat->au.Fn} {ord af tr:zL} {C:Hp}
theorem o3{Y:Hp}{vr:zV}{refs:zL}(hK:cc kp K S ord af tr C)(hr:e7 .u32 Y vr (iw refs))(hl:∀r∈refs,live K.N r)(mU:refs.length<=1048576):
  Fc zQ 159 #[ptr kp,vr] (Y++C) (λw H=>∃bw vl CL lvl,w=.tuple #[ptr bw,iv 0]/\H=dc bw kp vl (.slice none 0 0)::(CL++(Y++C))/\aO 3 .i64 vl (iw lvl) CL/\lvl.length=K.n/\∀v,v<K.n->lvl.getD v 0=lv af v):=by
 have hn:K.n<=64:=hK.at'.ES;have lY:=hK.od;refine aW λg=>tW (ae.bB (Br.no (hr.c6 ?_)));rw[aQ];refine⟨λvs H=>∃i:Nat,vs=[iv (i:Int)]/\i<=refs.length/\H=Y++C,λvs _=>refs.length-dR vs 0,JE.mk ⟨0,rfl,xaE _,rfl⟩,?_⟩;rintro w7 H ⟨i,⟨⟩,hi,rfl⟩ gs;refine ae.fN (Br.dec (λhlt=>?_) (λhlt=>?_))
 ·have hlr:=hl _ (xaN hlt);refine hr.ld (n:=((refs[i]:Nat):Int)) (gO (xad hlt)) (λ_ h=>xac _ h) ?_;refine aa.eq (args:=#[ptr kp,u32 refs[i]]) (jD hK.rep (by have:=hK.cH hlr;omega)) ?_;rw[bF.2 hlr];refine Ext.two λOX _=>(St.whole (r:=got K.N refs[i]) (by exact .head _) rfl (aP _ _).1 (aP _ _).2 ?_);exact ae.j7 (Br.F (ae.inc (aR.of .tail ⟨i+1,rfl,hlt,rfl⟩ (by simp only[dR];omega))))
 refine aa.eq (mN hK.rep) (dJ.ints zO zO λbl=>?_);refine Build.mk (cs:=[ptr kp,.slice (some ⟨bl,0,none⟩) K.n K.n,.slice none 0 0]) zK λbw _=>?_;refine aa.fq (wO hK.rep) ?_;rintro vo H ⟨N,rfl,ho⟩;refine ho.c6 ?_;rw[aQ,lY.len];have hz:List.replicate K.n (0:Int)=iw (List.replicate K.n 0):=by simp[iw]
 have hm:=aO.made (T:=3) (kd:=.i64) (b:=bl) (iw (List.replicate K.n 0));rw[aQ,xch]at hm;rw[hz];generalize hvl:Value.slice (some ⟨bl,0,none⟩) K.n K.n=vl at*;refine⟨λvs H=>∃(i:Nat) (L:zL) (CL:Hp),vs=[iv (i:Int)]/\i<=K.n/\H=dc bw kp vl (.slice none 0 0)::(CL++(Y++(N++C)))/\aO 3 .i64 vl (iw L) CL/\L.length=K.n/\∀j,j<i->L.getD (ord.getD j 0) 0=j,λvs _=>K.n-dR vs 0,
  JE.mk ⟨0,_,_,rfl,xaE _,rfl,hm,by simp,λj hj=>absurd hj (xcv _)⟩,?_⟩
 rintro MO H ⟨i,L,CL,⟨⟩,hi,rfl,hL,Mp,Mo⟩ gs;refine ae.fN (Br.dec (λhlt=>?_) (λhlt=>?_))
 ·have ic:=(lY.at' i hlt).1;refine ho.ld (x:=((ord.getD i 0:Nat):Int)) (bV (by rw[lY.len];exact hlt)) (λ_ h=>.tail _ (xaa _ (xaa _ (xac _ h)))) (Ld.n ?_);refine hL.px (x:=(i:Int)) (.cons .left) (by rw[aQ];omega) λPg Mq=>?_;rw[fj]at Mq;refine ae.inc (aR.mk ⟨i+1,L.set (ord.getD i 0) i,Pg,rfl,hlt,rfl,Mq,by simp[Mp],λj hj=>?_⟩ (by simp only[dR];omega));by_cases e:j=i
  ·subst e;rw[xaA,xbm zO];rfl
  have hj':j<i:=by omega
  have hne:ord.getD i 0≠ord.getD j 0:=λh=>by
   have a:=(lY.at' i hlt).2;have b:=(lY.at' j zO).2;rw[h,b]at a;exact e a
  rw[xaA,xbw hne,<-xaA,Mo j hj']
 obtain rfl:i=K.n:=by omega
 refine aZ.mk (.cons (.cA (.cA .right _) _)) ⟨bw,vl,CL,L,rfl,rfl,hL,Mp,λv hv=>?_⟩;have h1:=Mo (lv af v) (hK.ok.lv.lt v hv);rwa [lY.of hK.ok.lv hv]at h1
structure vZ(K K':Kd)(made:zL)(x:Nat)(ok:Bool):Prop where
 n:K'.n=K.n
 cap:K'.cap=K.cap
 N:∀s d,K'.N s=some d->K.N s=some d
 hold:∀s,K'.hold s+made.count s=K.hold s+if ok=true/\s=x/\2<=x then 1 else 0
theorem DK{X CM:Hp}{made:zL}{x:Nat}{ok fu:Bool}(hK:cc kp K S ord af tr C)(hM:aO 82 .u32 vm (iw made) CM)(hc:∀s,made.count s<=K.hold s)(h2:∀s∈made,2<=s)(vz:∀s∈made,s<4294967296)(hx:ok=true->((x<2\/x∈made)↔fu=false))(mU:made.length<=1099511627776):
  Fc zQ 206 #[ptr bw,u32 x,iv (if ok then 0 else 9)] (dc bw kp vl vm::(X++(CM++C))) (λw H=>∃K' C' eH,w=.tuple #[u32 (if ok&& !fu then x else 0),iv (if ok then(if fu then 8 else 0)else 9)]/\H=dc bw kp vl (.slice none 0 0)::(X++(CM++C'))/\cc kp K' S ord af eH C'/\(eH=[]\/(eH=tr/\((ok&& !fu)=true->made≠[])))/\vZ K K' made x (ok&& !fu)):=by
 refine aW λg=>tB (ae.bN (b:=0) (bL.or (decide (x=1)) (λ_=>ae.bN (b:=1) ⟨rfl,rfl⟩) zI λgs=>?_));rw[<-xaV];refine Ld.n (hM.c6 ?_);rw[aQ];refine⟨λvs H=>∃(i:Nat) (Ki:Kd) (Ci:Hp) (DW:zL) (kept:Bool),vs=[.bool kept,iv (i:Int)]/\i<=made.length/\H=dc bw kp vl vm::(X++(CM++Ci))/\cc kp Ki S ord af DW Ci/\(DW=[]\/DW=tr)/\Ki.n=K.n/\Ki.cap=K.cap/\(∀s d,Ki.N s=some d->K.N s=some d)/\
   (∀s,Ki.hold s+(made.take i).count s=K.hold s+if kept=true/\s=x/\2<=x then 1 else 0)/\(x<2->kept=true)/\(kept=true->x<2\/(ok=true/\x∈made.take i))/\(ok=true->x∈made.take i->kept=true),λvs _=>made.length-dR vs 1,
  JE.mk ⟨0,K,C,tr,_,rfl,xaE _,rfl,hK,.inr rfl,rfl,rfl,λ_ _ h=>h,λs=>?_,λh=>xaL zO,λh=>.inl (by have:=xbV h;omega),λ_ h=>by simp at h⟩,?_⟩
 ·rw[List.take_zero,xdm,xab (λh=>by have:=xbV h.1;omega)]
 rintro IP Po H ⟨i,Ki,Ci,DW,kept,⟨⟩,hi,rfl,Gt,Dd,hn,hcap,hN,hh,jW,n4,jG⟩ gs;refine ae.fN (Br.dec (λhlt=>?_) (λhlt=>?_))
 ·intro J hJ;have qX:made.take (i+1)=made.take i++[made[i]]:=List.take_succ_eq_append_getElem hlt;have KB:made[i]∈made:=xaN hlt;have ir:(made.take i).count made[i]+1<=made.count made[i]:=by
   have h1:=(List.take_sublist (i+1) made).count_le made[i];rw[qX,xa3,List.count_singleton_self]at h1;exact h1
  refine hM.ld (x:=((made[i]:Nat):Int)) (gO (xad hlt)) (λ_ h=>.tail _ (xaa _ (xac _ h))) ?_;generalize hf:made[i]=f at*;refine ae.bN (bL.and (!kept) (λ_=>Un.not ⟨rfl,rfl⟩) zI λgs=>?_);refine bL.and ok (λ_=>ae.qd ⟨rfl,by cases ok<;>rfl⟩) zI λgs=>?_;refine Br.mk (λhb=>?_) (λhb=>?_)
  ·simp only[xam,xaD,xbj]at hb;obtain⟨⟨rfl,I4⟩,hok⟩:=hb;refine JE.mk (hJ _ _ λgs=>?_);refine ae.inc (aR.mk ⟨i+1,Ki,Ci,DW,true,rfl,hlt,rfl,Gt,Dd,hn,hcap,hN,λs=>?_,λ_=>rfl,λ_=>.inr ⟨hok,by rw[qX];simp⟩,λ_ _=>rfl⟩ (by simp only[dR];omega));have h0:=hh s;rw[qX,xa3,xbK];rw[xab (λh=>by rw[I4]at h;cases h.1)]at h0;by_cases e:s=f
   ·subst e;have:=h2 s KB;simp[this];omega
   have:(f==s)=false:=by simpa using λe'=>e e'.symm
   simp[e,this];omega
  refine Ld.n ?_;have NX:Ki.hold f≠0:=by
   have h0:=hh f;have:=hc f;split at h0<;>omega
  refine aa.fq (args:=#[ptr kp,u32 f]) (pV Gt (r:=f) (vz f KB) (λ_=>NX)) ?_;rintro w C2 ⟨rfl,K2,dP,f2⟩;refine JE.mk (hJ _ _ λgs=>?_);refine ae.inc (aR.mk ⟨i+1,K2,C2,[],kept,rfl,hlt,rfl,dP,.inl rfl,f2.n.trans hn,f2.cap.trans hcap,λs d hd=>hN s d (f2.N s d hd),λs=>?_,jW,λh=>(n4 h).imp id (λh=>⟨h.1,by rw[qX];exact xac _ h.2⟩),λh1 h3=>?_⟩ (by simp only[dR];omega))
  ·have h0:=hh s;rw[f2.hold,qX,xa3,xbK];by_cases e:s=f
   ·subst e;have:=h2 s KB;simp[this];omega
   have:(f==s)=false:=by simpa using λe'=>e e'.symm
   simp[e,this];omega
  rw[qX,xaw,xaH]at h3;rcases h3 with h3|h3
  ·exact jG h1 h3
  subst h3;cases hkk:kept
  ·rw[hkk,h1]at hb;simp at hb
  rfl
 obtain rfl:i=made.length:=by omega
 rw[xb3]at hh n4 jG;refine Nil.ptr (ag.mk (St.one (by exact .head _) rfl zI rfl ?_));intro J hJ;refine ae.j7 ?_;cases ok with
 |false=>
  refine Br.T ?_;have hE:vZ K Ki made x false:=⟨hn,hcap,hN,λs=>by
   have h0:=hh s;rw[xab (λh=>by cases h.1)];rw[xab (λh=>by
    rcases n4 h.1 with h3|h3
    ·omega
    cases h3.1)]at h0
   exact h0⟩
  refine aZ.here ⟨Ki,Ci,DW,?_,rfl,Gt,Dd.imp id λh=>⟨h,λh=>by cases h⟩,hE⟩;rfl
 |true=>
  have hx:=hx rfl;cases fu with
  |true=>
   have I4:kept=false:=by
    cases hkk:kept
    ·rfl
    have:(true=false):=hx.1 ((n4 hkk).imp id λh=>h.2);cases this
   refine Br.F ?_;rw[I4];refine Un.not (Br.yes (aZ.here ⟨Ki,Ci,DW,rfl,rfl,Gt,Dd.imp id λh=>⟨h,λh=>by cases h⟩,⟨hn,hcap,hN,λs=>?_⟩⟩));have h0:=hh s;rw[I4]at h0;rw[xab (λh=>by cases h.1)]at h0⊢;exact h0
  |false=>
  have hx:=hx.2 rfl;have vj:kept=true:=by
   rcases hx with h|h
   ·exact jW h
   exact jG rfl h
  refine Br.F ?_;rw[vj];refine Un.not (Br.no ?_);have hE:∀K3:Kd,K3.n=Ki.n->K3.cap=Ki.cap->K3.N=Ki.N->(∀s,K3.hold s=Ki.hold s)->vZ K K3 made x true:=λK3 a1 a2 a3 a4=>⟨a1.trans hn,a2.trans hcap,by rw[a3];exact hN,λs=>by rw[a4,hh s,vj]⟩;refine ae.bN (b:=0) (bL.or (decide (x=1)) (λ_=>ae.bN (b:=1) ⟨rfl,rfl⟩) zI λgs=>?_);rw[<-xaV];refine Br.dec (λFt=>?_) (λFt=>?_)
  ·refine Ld.n ?_;refine aa.fq (pF Gt (r:=x) (.inl zO) (λh=>by omega)) ?_;rintro w C3 ⟨rfl,K3,qb,mo⟩;refine JE.mk (hJ _ λgs=>aZ.here ⟨K3,C3,[],by simp,rfl,qb,.inl rfl,hE K3 mo.n mo.cap mo.N λs=>?_⟩);rw[mo.hold,xab zO]
  refine JE.mk (hJ _ λgs=>aZ.here ⟨Ki,Ci,DW,by simp,rfl,Gt,Dd.imp id λh=>⟨h,λ_ hm=>?_⟩,hE Ki rfl rfl rfl λ_=>rfl⟩);rcases hx with h|h
  ·omega
  rw[hm]at h;cases h
end
theorem GX{α:Type}(a b c d e f g h:α)(L R:List α):(a::b::c::d::e::f::g::h::(L++R)).Perm (g::d::e::b::h::f::a::(L++c::R)):=by
 classical
 rw[xdf];intro x;simp only[xa3,xcb];omega
def jj(kp:Nat)(K:Kd)(S:Nat->au.Fn)(ord af tr:zL)(f:au.Fn)(w:zV)(H:Hp):Prop:=
 (∃x K' S',w=.tuple #[u32 x,iv 0]/\cc kp K' S' ord af [] H/\BY K S K' S' f x)\/
 (w=.tuple #[u32 0,iv 9]/\(∃K' S' eH,cc kp K' S' ord af eH H/\(eH=[]\/eH=tr)/\Kept K S K' S')/\¬Fits (aC K.n ord (λg=>K.held S g\/g=f)) K.cap)
def g6(kp:Nat)(K:Kd)(S:Nat->au.Fn)(ord af tr:zL)(f:au.Fn)(w:zV)(H:Hp):Prop:=
 jj kp K S ord af tr f w H\/(w=.tuple #[u32 0,iv 8]/\(∃K' S' eH,cc kp K' S' ord af eH H/\(eH=[]\/eH=tr)/\Kept K S K' S')/\∃r,2<=r/\K.hold r=65535/\S r=f)
theorem g6.small{kp:Nat}{K:Kd}{S:Nat->au.Fn}{ord af tr:zL}{f:au.Fn}{w:zV}{H:Hp}(h:g6 kp K S ord af tr f w H)(hB:∀s,K.hold s<65535):jj kp K S ord af tr f w H:=by
 rcases h with h|⟨_,_,r,_,h,_⟩
 ·exact h
 have:=hB r;omega
section
variable {kp bw:Nat} {vl fv:zV} {K:Kd} {S:Nat->au.Fn} {ord af tr lvl:zL} {LB CL C:Hp} {t:Bool->Bool->Bool->Bool}
theorem vQ(hK:cc kp K S ord af tr C)(Jm:p6 fv LB t)(El:aO 3 .i64 vl (iw lvl) CL)(rZ:lvl.length=K.n)(hlv:∀v,v<K.n->lvl.getD v 0=lv af v)(q:Q3)(hq:∀r∈l3 q,live K.N r){c:Nat}(hT:Tree K.n (lv af) K.N (l3 q) c):
  Fc zQ 160 #[ptr bw,kq q,fv] (LB++(dc bw kp vl (.slice none 0 0)::(CL++C))) (g6 kp K S ord af tr (mj t S (l3 q))):=by
 have hrb:bE zQ 207=true:=by kernel_rfl
 obtain⟨fl,Ll,OH,KA,hfr⟩:=Jm.is;refine aW λg=>tV λb1 _ b3 _ b5 _ b7 _ b9 _ bm _ kK _=>?_;refine St.one (by exact .head _) rfl zI rfl ?_;intro kJ _;refine St.one (by exact .head _) rfl zI rfl ?_;refine Ld.q ?_;refine az.q ?_;refine bp.of rfl hrb (aa.pre (H':=(b9,.cells #[iv 0] 25 zZ)::(b7,.cells #[.int .u32 0] 82 zZ)::En kK b1 b5 kJ bm bw kp fv vl (.slice none 0 0) LB CL [] C #[] 0) ?_ ?_)
 ·rw[KA];exact(aM.perm (GX _ _ _ _ _ _ _ _ _ _)).trans .tail
 have lY:=hK.od;have B8:=hK.ok.wf;have AS:=hK.ok.lv;have Fz:=hK.ok.mid.int;have hS:Lw kp K S (aC K.n ord (λg=>K.held S g\/g=mj t S (l3 q))) ord af tr t K S [] #[] 0 (.slice none 0 0) [] C:=
  ⟨⟨tr,hK,.inr ⟨rfl,rfl⟩⟩,.refl λg hg=>cr (λg h=>.inl h) hg,aO.nil,[],bh.empty,λy hy=>by cases hy⟩
 refine aa.fq (args:=#[kq q,ptr kK,ptr b1,ptr b5,ptr kJ]) (FD hrb Jm El rZ hlv hK.at'.ES B8 Fz AS (λr hr=>by have:=hK.cH hr;omega) (λs hs=>.inr (hK.ok.mid.held s zO)) (EB:=tr) (l3 q) c hT q rfl K S [] #[] 0 (.slice none 0 0) [] C hS hq (λg hg=>cr (λg h=>.inr h) hg)) ?_;rintro w H ⟨K1,S1,made,es,ck,vm,CM,C1,rfl,mi,hA,AO⟩;obtain⟨EA,iy,De⟩:=mi.ks;have mg:=mi.eZ;have PK:=mg.qP iy;have Ko:∀s∈made,s<4294967296:=λs hs=>by have:=iy.cH (mg.fD iy hs);omega
 have NK:∀s,made.count s<=K1.hold s:=λs=>by rw[mg.hold];omega
 have fin:∀(x:Nat) (ok fu:Bool),w=.tuple #[u32 (if ok then x else 0),iv (if ok then 0 else 9)]->(ok=true->((x<2\/x∈made)↔fu=false))->(∀K2 C2 eG,cc kp K2 S1 ord af eG C2->(eG=[]\/(eG=EA/\((ok&& !fu)=true->made≠[])))->vZ K1 K2 made (if ok then x else 0) (ok&& !fu)->g6 kp K S ord af tr (mj t S (l3 q)) (.tuple #[u32 (if ok&& !fu then(if ok then x else 0)else 0),iv (if ok then(if fu then 8 else 0)else 9)]) C2)->(ok=false->x=0)->
   Ext 0 w λJD=>Ext 1 w λLQ=>St 1 ((b9,.cells #[iv 0] 25 zZ)::(b7,.cells #[.int .u32 0] 82 zZ)::En kK b1 b5 kJ bm bw kp fv vl vm LB CL CM C1 es ck) (ptr b7) JD λLH=>St 1 LH (ptr b9) LQ λFW=>
   gC zQ g 205 #[ptr b1,ptr b7,ptr b9] FW λLG=>Ld LG (ptr b7) λM8=>Ld LG (ptr b9) λM7=>aZ (g6 kp K S ord af tr (mj t S (l3 q))) (.returned (.tuple #[M8,M7])) LG:=by
  intro x ok fu hw hx hd h0;subst hw;refine Ext.two (St.one (by exact .tail (.head _)) rfl zI rfl ?_);refine St.one (by exact .head _) rfl zI rfl ?_;refine rU (R:=_) ?_;unfold L205;refine Ld.q ?_;refine Ld.q ?_;refine Ld.q ?_;refine aa.fq (DK (X:=CL) (x:=if ok then x else 0) (ok:=ok) (fu:=fu) iy mi.IT NK mg.two Ko (λh=>by rw[xae h];exact hx h) zO) ?_;rintro w H ⟨K2,C2,eG,rfl,rfl,dP,nZ,hE⟩;refine Ext.two (St.one (by exact .tail (.head _)) rfl zI rfl ?_);refine St.one (by exact .head _) rfl zI rfl ?_;refine⟨⟨_,rfl⟩,?_⟩;refine Ld.q ?_;refine Ld.q ?_;exact aZ.mk (.skip (.skip (.skip (.skip (.skip (.skip (aM.right.trans (.skip (.skip (aM.right.trans .right)))))))))) (hd K2 C2 eG dP nZ hE)
 have Fa:∀s,K.hold s≠0->live K.N s:=λs hs=>.inr (hK.ok.mid.held s hs);rcases AO with⟨x,rfl,hx,J4⟩|⟨rfl,hno⟩
 ·by_cases IV:x<2\/x∈made;rotate_left
  ·have Hl:2<=x:=by omega
   have hfull:K.hold x=65535:=by
    rcases J4 with h|h|h
    ·exact absurd (.inl h) IV
    ·exact absurd (.inr h) IV
    exact h
   refine fin x true true rfl (λ_=>⟨λh=>absurd h IV,λh=>by cases h⟩) (λK2 C2 eG dP nZ hE=>.inr ⟨rfl,⟨K2,S1,eG,dP,?_,?_⟩,x,Hl,hfull,?_⟩) (λh=>by cases h)
   ·rcases nZ with h|⟨h,_⟩
    ·exact .inl h
    rcases De with h2|⟨h2,_⟩
    ·exact .inl (h.trans h2)
    exact .inr (h.trans h2)
   ·have gQ:∀s,K2.hold s=K.hold s:=λs=>by
     have a:=hE.hold s;have b:=mg.hold s;rw[xab (λh=>by cases h.1)]at a;omega
    refine⟨hE.n.trans mg.n,hE.cap.trans mg.cap,gQ,λg=>?_,λr hr=>mg.fn r (Fa r hr)⟩;constructor
    ·rintro⟨s,hs,rfl⟩;have hs':K.hold s≠0:=by rw[<-gQ];exact hs
     exact⟨s,hs',mg.fn s (Fa s hs')⟩
    rintro⟨s,hs,rfl⟩;exact⟨s,by show K2.hold s≠0;rw[gQ];exact hs,(mg.fn s (Fa s hs)).symm⟩
   rw[<-hx];exact(mg.fn x (Fa x zO)).symm
  refine fin x true false rfl (λ_=>⟨λ_=>rfl,λ_=>IV⟩) (λK2 C2 eG dP nZ hE=>.inl (.inl ⟨x,K2,S1,rfl,?_,?_⟩)) (λh=>by cases h)
  ·have:eG=[]:=by
    rcases nZ with h|⟨h,h'⟩
    ·exact h
    rcases De with h2|⟨_,h2⟩
    ·rw[h,h2]
    exact absurd h2 (h' rfl)
   rw[this]at dP;exact dP
  have gQ:∀s,K2.hold s=K.hold s+if s=x/\2<=x then 1 else 0:=λs=>by
   have a:=hE.hold s;have b:=mg.hold s;simp only[Bool.not_false,Bool.and_true,xaS,xdi]at a;omega
  have hl:live K2.N x:=by
   by_cases h2:x<2
   ·exact .inl h2
   refine .inr (dP.ok.mid.held x ?_);rw[gQ,xae ⟨rfl,by omega⟩];omega
  exact⟨hE.n.trans mg.n,hE.cap.trans mg.cap,λs d hs=>sx hK.ok dP.ok (λs h=>by rw[gQ];omega) (λs d d' h h'=>by
   have a:=hE.N s d' h';rw[mg.N s d h]at a;exact(xbd a).symm) _ s d hs (xak _),λs hs=>mg.fn s hs,hl,hx,gQ⟩
 refine fin 0 false false rfl (λh=>by cases h) (λK2 C2 eG dP nZ hE=>.inl (.inr ⟨rfl,⟨K2,S1,eG,dP,?_,?_⟩,hno⟩)) (λ_=>rfl)
 ·rcases nZ with h|⟨h,_⟩
  ·exact .inl h
  rcases De with h2|⟨h2,_⟩
  ·exact .inl (h.trans h2)
  exact .inr (h.trans h2)
 have gQ:∀s,K2.hold s=K.hold s:=λs=>by
  have a:=hE.hold s;have b:=mg.hold s;rw[xab (λh=>by cases h.1)]at a;omega
 refine⟨hE.n.trans mg.n,hE.cap.trans mg.cap,gQ,λg=>?_,λr hr=>mg.fn r (Fa r hr)⟩;constructor
 ·rintro⟨s,hs,rfl⟩;have hs':K.hold s≠0:=by rw[<-gQ];exact hs
  exact⟨s,hs',mg.fn s (Fa s hs')⟩
 rintro⟨s,hs,rfl⟩;exact⟨s,by show K2.hold s≠0;rw[gQ];exact hs,(mg.fn s (Fa s hs)).symm⟩
end
end Go.Proofs
namespace Go.Sx
open Go
section
variable {P:Program} {g:Gh}
theorem Build.three{t e:TypeId}{q:IntKind}{x y z:Int}{K:zV->Prop}(ht:P.underlying t=some (.array 3 e))(hz:bU P e=some 1)(h0:da P t=some (.agg (aq q [0,0,0])))(h:K (.agg (aq q [x,y,z]))):
  Build P t [(0,.int q x),(1,.int q y),(2,.int q z)] K:=by
 refine⟨_,λw=>?_,h⟩;obtain⟨i,hi,hs⟩:=aG hz;obtain⟨i0,Kw,Hi⟩:=bP h0;simp only[Instr.build,Sem.run_bind,cK Kw Hi,Result.andThen_ok,run_underlying ht,run_sizeOf hi,hs];simp[Instr.fill,Value.cells,aq]
theorem Build.GM{t e:TypeId}{q:IntKind}{x y:Int}{K:zV->Prop}(ht:P.underlying t=some (.array 3 e))(hz:bU P e=some 1)(h0:da P t=some (.agg (aq q [0,0,0])))(h:K (.agg (aq q [x,y,0]))):
  Build P t [(0,.int q x),(1,.int q y)] K:=by
 refine⟨_,λw=>?_,h⟩;obtain⟨i,hi,hs⟩:=aG hz;obtain⟨i0,Kw,Hi⟩:=bP h0;simp only[Instr.build,Sem.run_bind,cK Kw Hi,Result.andThen_ok,run_underlying ht,run_sizeOf hi,hs];simp[Instr.fill,Value.cells,aq]
end
end Go.Sx
set_option maxRecDepth 100000
namespace Go.Proofs
open Go Go.Sx Tryz
open au
theorem vV(x:Bool)(B:Hp):Rd zQ 162 #[.bool x] B (· =.int .u8 ((x.toNat:Nat):Int)):=by
 refine aW λg=>tT ?_;cases x
 ·exact Br.no (bS.mk (.refl _) rfl)
 exact Br.yes (bS.mk (.refl _) rfl)
def CJ(op:Nat)(a b:Bool):Bool:=op.testBit (2*a.toNat+b.toNat)
abbrev wB(b op:Nat):Hp:=[(b,.cells #[.int .u8 (op:Int)] 5 zZ)]
theorem sQ{b op:Nat}(hop:op<16):p6 (.func (.func 161) #[] #[ptr b]) (wB b op) (λx y _=>CJ op x y):=by
 refine⟨_,_,_,rfl,by kernel_rfl,λx y z=>?_⟩;refine aW λg=>tU (DR.of (R:=wB b op) (.refl _) (Ld.q ?_));refine aa.eq (vV x _) (⟨.refl _,?_⟩);have hx:x.toNat<=1:=by cases x<;>decide
 have hy:y.toNat<=1:=by cases y<;>decide
 refine ae.JW (a:=2) (aa.eq (vV y _) (⟨.refl _,?_⟩));refine ae.xI (ae.zi (by simp[cv];omega) (ae.Lu (b:=1) (by simp[cv];exact xbg (Nat.shiftRight_le _ _) zO) (by simp[cv]) (ae.bN (b:=1) (bS.mk (.refl _) ?_))));congr 1;unfold CJ;rw[Nat.and_one_is_mod];rw[Nat.testBit_eq_decide_div_mod_eq,xa8]
theorem sy:p6 (.func (.func 163) #[] #[]) [] (λx y z=>if x then y else z):=by
 refine⟨_,_,_,rfl,by kernel_rfl,λx y z=>?_⟩;refine aW λg=>tS ?_;cases x
 ·refine bL.mk false (λh=>by simp at h) (λ_=>rfl) λgs=>?_;refine bL.mk (by exact z) (λ_=>Un.not (bL.and z (λ_=>⟨rfl,rfl⟩) zI λgs=>⟨rfl,by simp⟩)) (λh=>by simp at h) λgs=>?_;exact bS.mk (.refl _) rfl
 refine bL.and y (λ_=>⟨rfl,rfl⟩) zI λgs=>?_;refine bL.or false (λ_=>Un.not (bL.and z (λ_=>⟨rfl,rfl⟩) zI λgs=>⟨rfl,by simp⟩)) zI λgs=>?_;refine bS.mk (.refl _) ?_;cases y<;>rfl
section
variable {kp:Nat} {K:Kd} {S:Nat->au.Fn} {ord af tr:zL} {C:Hp}
theorem GY{α:Type}(w a b:α)(L R:List α):(w::(L++(a::b::R))).Perm (a::([b]++w::(L++R))):=by
 classical
 rw[xdf];intro x;simp only[xa3,xcb,xdm];omega
theorem rO(hK:cc kp K S ord af tr C){q:zL}(hq:∀r∈q,live K.N r):∃c,Tree K.n (lv af) K.N q c:=by
 obtain⟨c,h1,_⟩:=Cq (S:=S) hK.ok.wf hK.ok.lv hK.ok.mid.int K.n 0 q zO zO hq (λr _=>xaE _);exact⟨c,h1⟩
theorem g6.two{f:au.Fn}{w:zV}{H:Hp}(h:g6 kp K S ord af tr f w H):∃x e,w=.tuple #[x,e]:=by
 rcases h with(⟨x,K',S',rfl,_⟩|⟨rfl,_⟩)|⟨rfl,_⟩
 ·exact⟨_,_,rfl⟩
 ·exact⟨_,_,rfl⟩
 exact⟨_,_,rfl⟩
theorem jc(hB:∀s,K.hold s+2^K.n<=65535):∀s,K.hold s<65535:=λs=>by
 have:=hB s;have:=xcH (n:=K.n);omega
theorem jP(hK:cc kp K S ord af tr C){op a b:Nat}(hop:op<16)(ha:live K.N a)(hb:live K.N b):
  Fc zQ 127 #[ptr kp,.int .u8 (op:Int),u32 a,u32 b] C (g6 kp K S ord af tr (λx=>CJ op (S a x) (S b x))):=by
 refine aW λg=>uw λb1 _=>?_;refine ae.bB (Br.no (Ld.q ?_));refine ae.mY (b:=15) (Br.F (ak.D7 (e:=82) (x:=(a:Int)) (y:=(b:Int)) zK zK zK λbs=>?_));have hq:∀r∈l3 (a,b,0),live K.N r:=λr hr=>by
  simp only[l3,xaf,xat,xaZ]at hr;rcases hr with rfl|rfl|rfl
  ·exact ha
  ·exact hb
  exact .inl zO
 have hI:e7 .u32 ((bs,Obj.cells (aq .u32 [(a:Int),(b:Int)]) 82 zZ)::wB b1 op) (.slice (some ⟨bs,0,none⟩) 2 2) (iw [a,b]):=(aO.made (T:=82) (kd:=.u32) (b:=bs) (iw [a,b])).ints.mono λ_ h=>xac (wB b1 op) h;refine aa.fq (args:=#[ptr kp,.slice (some ⟨bs,0,none⟩) 2 2]) (C:=((bs,Obj.cells (aq .u32 [(a:Int),(b:Int)]) 82 zZ)::wB b1 op)++C) (o3 hK hI (λr hr=>?_) (by show 2<=1048576;omega)) ?_
 ·simp only[xaf,xat,xaZ]at hr;rcases hr with rfl|rfl
  ·exact ha
  exact hb
 rintro w H ⟨bw,vl,CL,lvl,rfl,rfl,El,rZ,hlv⟩;refine Ext.mk rfl (Ext.mk rfl (ae.j7 (Br.F (Build.GM (e:=82) (q:=.u32) (x:=(a:Int)) (y:=(b:Int)) zK zK zK ?_))));obtain⟨c,hT⟩:=rO hK hq;refine aa.pre (H':=(bs,Obj.cells (aq .u32 [(a:Int),(b:Int)]) 82 zZ)::(wB b1 op++dc bw kp vl (.slice none 0 0)::(CL++C))) (.perm (GY _ _ _ _ _)) (aa.fq (args:=#[ptr bw,kq (a,b,0),.func (.func 161) #[] #[ptr b1]]) (vQ (t:=λx y _=>CJ op x y) hK (sQ hop) El rZ hlv (a,b,0) hq hT) ?_);intro w H hD;obtain⟨x,e,rfl⟩:=hD.two;exact Ext.mk rfl (Ext.mk rfl (aZ.mk .tail hD))
theorem eW(hK:cc kp K S ord af tr C){op a b:Nat}(hop:op<16)(ha:live K.N a)(hb:live K.N b)(hB:∀s,K.hold s+2^K.n<=65535):
  Fc zQ 127 #[ptr kp,.int .u8 (op:Int),u32 a,u32 b] C (jj kp K S ord af tr (λx=>CJ op (S a x) (S b x))):=
 (jP hK hop ha hb).mono λ_ _ h=>h.small (jc hB)
theorem jj.two{f:au.Fn}{w:zV}{H:Hp}(h:jj kp K S ord af tr f w H):∃x e,w=.tuple #[x,e]:=by
 rcases h with⟨x,K',S',rfl,_⟩|⟨rfl,_⟩
 ·exact⟨_,_,rfl⟩
 exact⟨_,_,rfl⟩
theorem xF(hK:cc kp K S ord af tr C){a:Nat}(ha:live K.N a):
  Fc zQ 101 #[ptr kp,u32 a] C (g6 kp K S ord af tr (λx=> !S a x)):=by
 refine aW λg=>uG (aa.fq (args:=#[ptr kp,.int .u8 ((3:Nat):Int),u32 a,u32 0]) (jP hK (op:=3) zD ha (.inl zO)) ?_);intro w H hD;have e:(λx=>CJ 3 (S a x) (S 0 x))=λx=> !S a x:=by
  funext x
  rw[hK.ok.mid.int.zero];cases S a x<;>rfl
 rw[e]at hD;obtain⟨x,e,rfl⟩:=hD.two;exact Ext.mk rfl (Ext.mk rfl (aZ.mk (.refl _) hD))
theorem vR(hK:cc kp K S ord af tr C){a:Nat}(ha:live K.N a)(hB:∀s,K.hold s+2^K.n<=65535):
  Fc zQ 101 #[ptr kp,u32 a] C (jj kp K S ord af tr (λx=> !S a x)):=
 (xF hK ha).mono λ_ _ h=>h.small (jc hB)
theorem GW{α:Type}(w a:α)(L R:List α):(w::(L++(a::R))).Perm (a::([]++w::(L++R))):=by
 classical
 rw[xdf];intro x;simp only[xa3,xcb,xdm];omega
theorem xH(hK:cc kp K S ord af tr C){a b c:Nat}(ha:live K.N a)(hb:live K.N b)(hc:live K.N c):
  Fc zQ 128 #[ptr kp,u32 a,u32 b,u32 c] C (g6 kp K S ord af tr (λx=>if S a x then S b x else S c x)):=by
 refine aW λg=>uv (ak.Hg (e:=82) (x:=(a:Int)) (y:=(b:Int)) (z:=(c:Int)) zK zK zK λbs=>?_);have hq:∀r∈l3 (a,b,c),live K.N r:=λr hr=>by
  simp only[l3,xaf,xat,xaZ]at hr;rcases hr with rfl|rfl|rfl
  ·exact ha
  ·exact hb
  exact hc
 refine aa.fq (args:=#[ptr kp,.slice (some ⟨bs,0,none⟩) 3 3]) (C:=[(bs,Obj.cells (aq .u32 [(a:Int),(b:Int),(c:Int)]) 82 zZ)]++C) (o3 hK (refs:=l3 (a,b,c)) ((aO.made (T:=82) (kd:=.u32) (b:=bs) (iw (l3 (a,b,c)))).ints) hq (by show 3<=1048576;omega)) ?_;rintro w H ⟨bw,vl,CL,lvl,rfl,rfl,El,rZ,hlv⟩;refine Ext.mk rfl (Ext.mk rfl (ae.j7 (Br.F (Build.three (e:=82) (q:=.u32) (x:=(a:Int)) (y:=(b:Int)) (z:=(c:Int)) zK zK zK ?_))));obtain⟨k,hT⟩:=rO hK hq;refine aa.pre (H':=(bs,Obj.cells (aq .u32 [(a:Int),(b:Int),(c:Int)]) 82 zZ)::([]++dc bw kp vl (.slice none 0 0)::(CL++C))) (.perm (GW _ _ _ _)) (aa.fq (args:=#[ptr bw,kq (a,b,c),.func (.func 163) #[] #[]]) (vQ (t:=λx y z=>if x then y else z) hK sy El rZ hlv (a,b,c) hq hT) ?_);intro w H hD;obtain⟨x,e,rfl⟩:=hD.two;exact Ext.mk rfl (Ext.mk rfl (aZ.mk .tail hD))
theorem DI(hK:cc kp K S ord af tr C){a b c:Nat}(ha:live K.N a)(hb:live K.N b)(hc:live K.N c)(hB:∀s,K.hold s+2^K.n<=65535):
  Fc zQ 128 #[ptr kp,u32 a,u32 b,u32 c] C (jj kp K S ord af tr (λx=>if S a x then S b x else S c x)):=
 (xH hK ha hb hc).mono λ_ _ h=>h.small (jc hB)
theorem lF.grow(hK:cc kp K S ord af tr C){K':Kd}{S':Nat->au.Fn}{f:au.Fn}{r:Nat}{C':Hp}{eH:zL}(h:lF K S K' S' f r)(gU:cc kp K' S' ord af eH C')(hl:r<2\/2<=r):BY K S K' S' f r:=
 ⟨h.n,h.cap,h.N,h.fn,by
  by_cases h2:r<2
  ·exact .inl h2
  refine .inr (gU.ok.mid.held r ?_);rw[h.hold,xae ⟨rfl,by omega⟩];omega,h.is,λs=>by rw[h.hold];split<;>omega⟩
theorem xE(hK:cc kp K S ord af tr C){v:Nat}(hv:v<K.n):
  Fc zQ 126 #[ptr kp,iv (v:Int)] C (g6 kp K S ord af tr (λx=>x.testBit v)):=by
 refine aW λg=>ux (ae.bB (Br.no ?_));have hint:=hK.ok.mid.int;have hL:=hK.ok.lv;have lY:=hK.od;have h0:live K.N 0:=.inl zO;have h1:live K.N 1:=.inl zO;have d0:dep K.n (lv af) K.N 0=K.n:=aU (hK.ok.wf.const zO);have d1:dep K.n (lv af) K.N 1=K.n:=aU (hK.ok.wf.const zO);have hl:=hL.lt v hv;have eI:ite S ⟨v,0,1⟩=λx=>x.testBit v:=by
  funext x
  unfold au.ite;simp only[hint.zero,hint.one];cases x.testBit v<;>rfl
 refine aa.fq (args:=#[ptr kp,iv (v:Int),u32 0,u32 1]) (u3 hK hv h0 h1 (.inr ⟨by rw[d0];exact hl,by rw[d1];exact hl⟩)) ?_;rintro w C' (⟨r,K',S',rfl,gU,mk⟩|⟨r,rfl,rfl,_,Ib,hfull,Gn⟩|⟨rfl,rfl,hcap,hne,hT⟩)
 ·rw[eI]at mk;exact Ext.mk rfl (Ext.mk rfl (aZ.mk (.refl _) (.inl (.inl ⟨r,K',S',rfl,gU,mk.grow hK gU zO⟩))))
 ·exact Ext.mk rfl (Ext.mk rfl (aZ.mk (.refl _) (.inr ⟨rfl,⟨K,S,tr,hK,.inr rfl,.refl K S⟩,r,Ib,hfull,by rw[Gn,eI]⟩)))
 refine Ext.mk rfl (Ext.mk rfl (aZ.mk (.refl _) (.inl (.inr ⟨rfl,⟨K,S,tr,hK,.inr rfl,.refl K S⟩,?_⟩))));rintro⟨ku,Di,hfit⟩;have Hz:=lY.of hL hv;have AA:∀j,j<lv af v->¬cU (λx:Nat=>x.testBit v) (ord.getD j 0):=by
  rintro j hj ⟨x,hx⟩;apply hx;have Fi:j<K.n:=by omega
  obtain⟨o1,o2⟩:=lY.at' j Fi;show Nat.testBit _ v=Nat.testBit _ v;rw[cI.aj,cI.aj,xab (λh=>by rw[h]at hj;omega),xab (λh=>by rw[h]at hj;omega)]
 have hh:cU (λx:Nat=>x.testBit v) (ord.getD (lv af v) 0):=by
  rw[Hz];exact⟨0,by show Nat.testBit _ v≠Nat.testBit _ v;rw[cI.aj,cI.aj,xae rfl,xae rfl];decide⟩
 have:=hK.ok.roomFor lY Di hfit (λg hg=>cr (λg h=>.inl h) hg) (d:=⟨v,0,1⟩) h0 h1 (show(0:Nat)≠1 by omega) hv ⟨by rw[d0];exact hl,by rw[d1];exact hl⟩ (cr (λg h=>.inr h) (by rw[eI];exact oo AA hl hh)) hT;omega
theorem DE(hK:cc kp K S ord af tr C){v:Nat}(hv:v<K.n)(hB:∀s,K.hold s<65535):
  Fc zQ 126 #[ptr kp,iv (v:Int)] C (jj kp K S ord af tr (λx=>x.testBit v)):=
 (xE hK hv).mono λ_ _ h=>h.small hB
end
end Go.Proofs
namespace au
open cI
section
variable {t:Bool->Bool->Bool} {v u:Nat} {f:Fn}
theorem j4{x v:Nat}{b c:Bool}:aK (aK x v b) v c=aK x v c:=by
 apply xa6;intro k;rw[aj,aj,aj];split<;>rfl
end
section
variable {N:cY} {S:Nat->Fn} {n:Nat} {af:Nat->Nat}
theorem vM{r:Nat}{d:Nd}(e:N r=some d):dU N d.v false r=d.lo/\dU N d.v true r=d.hi:=by
 unfold dU;rw[e];simp
end
end au
set_option maxRecDepth 100000
namespace Go.Proofs
open Go Go.Sx Tryz
section
open au
section
variable {kp:Nat} {K:Kd} {ord af tr:zL} {C:Hp} {S:Nat->au.Fn}
theorem oS(h:cW kp K ord af tr C)(v:Int):Rd zQ 140 #[ptr kp,iv v] C (· =if 0<=v/\v<K.n then .tuple #[iv ((af.getD v.toNat 0:Nat):Int),iv 0]else .tuple #[iv 0,iv 2]):=by
 have h0:=h;obtain⟨b,rfl,hO⟩:=h;refine aW λg=>ue (ae.bB (Br.no (aa.eq (u9 h0 v) (Un.not ?_))));by_cases rY:0<=v/\v<K.n
 ·rw[xaL rY,xae rY];refine Br.no (Nil.ptr (Ld.f ?_));have hlen:=hO.ol.2;obtain⟨n,rfl⟩:∃n:Nat,v=n:=⟨v.toNat,by omega⟩;exact hO.lv.ld (x:=((af.getD n 0:Nat):Int)) (bV zO) (bf.sub (.cons (.app (.app (.app (.app (.app .left))))))) (bS.mk (.refl _) rfl)
 rw[xay rY,xab rY];exact Br.yes (bS.mk (.refl _) rfl)
end
end
section
open au
theorem Fits.mono{A B:au.Fn->Prop}{cap:Nat}(h:∀g,A g->B g)(hB:Fits B cap):Fits A cap:=by
 classical
 obtain⟨ku,⟨l,h1,h2,h3⟩,hc⟩:=hB;refine⟨(l.filter λg=>decide (A g)).length,⟨l.filter λg=>decide (A g),h1.filter _,rfl,λg=>?_⟩,?_⟩
 ·rw[xca,xaD,<-h3];exact⟨λx=>⟨h g x,x⟩,λx=>x.2⟩
 have:=xc1 (λg=>decide (A g)) l;omega
end
section
def IA(ts:List Tb):Prop:=∀t∈ts,TF t/\some t.n=ts.head?.map Tb.n
instance (ts:List Tb):Decidable (IA ts):=by unfold IA;infer_instance
end
end Go.Proofs
namespace au
theorem kU{α:Type}[DecidableEq α]:∀{l p:List α},l.Nodup->(∀x∈l,x∈p)->p.length<=l.length->l.Perm p
 | [],p,_,_,h=>by
  have:p=[]:=xb6.1 (by simpa using h);subst this;exact .refl _
 |x::t,p,hn,hs,hl=>by
  have hx:=hs x zI;have hp:=List.perm_cons_erase hx;have hlen:(p.erase x).length=p.length-1:=List.length_erase_of_mem hx;have hpos:=List.length_pos_of_mem hx;refine(List.Perm.cons x (kU (xaT.1 hn).2 (λy hy=>?_) (by simp only[xai]at hl;omega))).trans hp.symm;refine(List.mem_erase_of_ne λe=>?_).2 (hs y (by simp[hy]));subst e;exact(xaT.1 hn).1 hy
end au
set_option maxRecDepth 100000
namespace Go.Proofs
open Go Go.Sx Tryz
open au
theorem z9(n:Nat)(ord:zL)(L:cI.Fs)(k:Nat):(lR n ord L k).length<=2^k*L.length:=xbs (xc1 _ _) (vL k)
theorem om(n:Nat)(ord:zL)(L:cI.Fs):∀m,gE n ord L m+L.length<=2^m*L.length
 |0=>by show 0+L.length<=1*L.length;omega
 |m+1=>by
  have ih:=om n ord L m;have h:=z9 n ord L m;show gE n ord L m+(lR n ord L m).length+L.length<=_;rw[xcl];have:2^m*2*L.length=2*(2^m*L.length):=by rw[xbf (2^m) 2,xcs]
  omega
end Go.Proofs
namespace Go.Sx
open Go
section
variable {P:Program} {g:Gh} {H:Hp}
theorem ay.made{T:TypeId}{k b:Nat}(rs:List (List zV))(h:∀r∈rs,r.length=k):ay T k (.slice (some ⟨b,0,none⟩) rs.length rs.length) rs [(b,.cells (rows rs) T zZ)]:=
 .inr ⟨b,[],by simp,by simp,by simpa using h⟩
end
end Go.Sx
namespace au
open cI
variable {n:Nat} {F:Nat->Nat} {ws us rs:zL}
def gM(n:Nat)(F:Nat->Nat):zL:=(List.range (wN n)).map λi=>F i&&&eR n
theorem oJ(hn:n<=16):iO n (gM n F):=by
 refine⟨hn,by simp[gM],λw hw=>?_⟩;obtain⟨i,_,rfl⟩:=xan.1 hw;exact Nat.and_le_right
theorem wM{x:Nat}(hx:x<2^n):bit (gM n F) x=(F (x/64)).testBit (x%64):=by
 have hi:=qQ hx;unfold bit;have er:(gM n F).getD (x/64) 0=F (x/64) &&&eR n:=by simp[gM,hi]
 rw[er,xbH,fR];have HN:decide (x%64<if 6<=n then 64 else 2^n)=true:=by
  rw[xaD];split
  ·exact xbG _ zD
  have h1:2^n<=32:=xaI (n:=2) zD (by omega:n<=5);omega
 rw[HN,Bool.and_true]
theorem rf{f:Fn}(h:∀x,x<2^n->(F (x/64)).testBit (x%64)=f x)(hf:∀x,f (x%2^n)=f x):fo n (gM n F)=f:=by
 funext x
 unfold fo;have hx:x%2^n<2^n:=xbG _ (xbI n);rw[wM hx,h _ hx,hf]
end au
namespace Go.Sx
open Go
section
variable {P:Program} {g:Gh} {H C:Hp} {c:Hp->Hp}
theorem ae.CB{kd:IntKind}{a b:Nat}{k:zV->Prop}(hb:b≠0)(h:k (.int kd ((a%b:Nat):Int))):ae .num .rem (.int kd a) (.int kd b) k:=
 ae.D0 zO rfl (by have:((a:Int)).tmod (b:Int)=((a%b:Nat):Int):=rfl;rw[this];exact h)
end
end Go.Sx
namespace Go.Sx
open Go
section
variable {P:Program} {g:Gh} {H B:Hp} {c:Hp->Hp}
theorem aM.ki{x:Nat×Obj}(h:x∈H):aM H [x]:=by
 obtain⟨A,D,rfl⟩:=xcD h;exact .cq (aM.left (A:=[x]))
end
end Go.Sx
set_option maxRecDepth 100000
namespace Go.Proofs
open Go Go.Sx Tryz
section
open au
section
variable {kp gb n:Nat} {vr vf:zV} {refs:zL} {fs:List (zL)} {K:Kd} {S:Nat->au.Fn} {ord af tr:zL} {C B:Hp}
theorem cc.perm(hK:cc kp K S ord af tr C):ord.Perm (List.range K.n):=by
 have lY:=hK.od;refine kU ?_ (λx hx=>?_) (by rw[xbN,lY.len];exact xak _)
 ·refine List.pairwise_iff_getElem.2 λi j hi hj hij e=>?_;have g1:=(lY.at' i (by rw[<-lY.len];exact hi)).2;have g2:=(lY.at' j (by rw[<-lY.len];exact hj)).2;rw[xaA,xad hi,e]at g1;rw[xaA,xad hj]at g2;omega
 obtain⟨i,hi,rfl⟩:=xdc.1 hx;rw[lY.len]at hi;have:=(lY.at' i hi).1;rw[xaA,xad (by rw[lY.len];exact hi)]at this;exact xaP.2 this
end
end
section
open au
section
variable {kp b f d:Nat} {K:Kd} {S:Nat->au.Fn} {ord tr:zL} {C:Hp}
def CX(p:Nat):Nat->Nat->Nat
 |0,_=>p
 |_,k=>p-k
def wX(n p:Nat):Nat->Nat->Nat
 |0,k=>p+k
 |_,_=>n-1
end
end
end Go.Proofs
namespace au
open cI
section
variable {n:Nat} {ord:zL} {L:cI.Fs}
theorem zx{n v:Nat}{t:zL}(hn:n<=16)(hf:iO n t)(hv:v<n)(h:∀u,u<n->u≠v->¬cU (fo n t) u)(x:Nat):fo n t x=fo n t (aK 0 v (x.testBit v)):=by
 have key:∀b,fo n t (aK x v b)=fo n t (aK 0 v b):=λb=>by
  have e:=pU hf hv b;have HM:=Bc (n:=n) (ws:=l7 n t v b) (λu hu=>by
   rw[e];rintro⟨y,hy⟩;simp only at hy;by_cases IX:u=v
   ·subst IX;rw[j4,j4]at hy;exact hy rfl
   rw[fB IX,fB IX]at hy;exact h u hu IX ⟨_,hy⟩)
  have:=HM x;rw[e]at this;exact this
 have:=key (x.testBit v);rwa [fA]at this
theorem z8(hL:∀t∈L,iO n t)(hn:n<=16)(Gd:1<=n)(hp:ord.Perm (List.range n)):(lR n ord L (n-1)).length<=2:=by
 have I1:ord.length=n:=by rw[hp.length_eq,xbN]
 have hmem:∀i,i<n->ord.getD i 0<n:=λi hi=>by
  have:ord.getD i 0∈ord:=by rw[xaA,xad zO];exact xaN _
  exact xaP.1 (hp.mem_iff.1 this)
 have aL:∀u,u<n->∃j,j<n/\ord.getD j 0=u:=λu hu=>by
  obtain⟨j,hj,e⟩:=xdc.1 (hp.mem_iff.2 (xaP.2 hu));exact⟨j,by omega,by rw[xaA,xad hj];exact e⟩
 have hv:=hmem (n-1) zO;have facts:∀t∈lR n ord L (n-1),iO n t/\(∀x,fo n t x=if x.testBit (ord.getD (n-1) 0)then !fo n t 0 else fo n t 0):=by
  intro t ht;obtain⟨h1,h2⟩:=gI.1 ht;have hf:=ig hL hn (n-1) t h1;have iH:=(pS hL hn hmem (n-1) zO (fo n t)).2 ⟨t,h1,rfl⟩;have hone:=zx hn hf hv (λu hu hne=>by
   obtain⟨j,hj,e⟩:=aL u hu;rw[<-e];exact jI (n-1) _ iH j (by
    have:j≠n-1:=λh=>hne (by rw[<-e,h]);omega))
  have h0:fo n t (aK 0 (ord.getD (n-1) 0) false)=fo n t 0:=by
   have:=hone 0;rw[Nat.zero_testBit]at this;exact this.symm
  obtain⟨x,hx⟩:=(kD hf hv).2 h2;have e1:=hone (aK x (ord.getD (n-1) 0) false);have e2:=hone (aK x (ord.getD (n-1) 0) true);rw[aj,xae rfl]at e1 e2;rw[e1,e2,h0]at hx;refine⟨hf,λy=>?_⟩;rw[hone y];cases hb:y.testBit (ord.getD (n-1) 0)
  ·rw[h0];simp
  rw[xae rfl];have key:∀a b:Bool,a≠b->b= !a:=by decide
  exact key _ _ hx
 have n3:(lR n ord L (n-1)).Nodup:=(oY (n-1)).filter _;have h1:((lR n ord L (n-1)).map λt=>fo n t 0).Nodup:=by
  refine xcf.2 (n3.imp_of_mem λ{a b} ha hb hne heq=>hne ?_);obtain⟨fa,ga⟩:=facts a ha;obtain⟨fb,gb⟩:=facts b hb;exact vC fa fb (funext λx=>by rw[ga,gb,heq])
 have:=bG h1 (l':=[true,false]) λb _=>by cases b<;>simp
 simpa using this
end
end au
set_option maxRecDepth 100000
namespace Go.Proofs
open Go Go.Sx Tryz
section
open au
section
variable {kp gb n:Nat} {vr vf:zV} {refs:zL} {fs:List (zL)} {K:Kd} {S:Nat->au.Fn} {ord tr:zL} {C Z:Hp}
theorem uT{ord:zL}(hp:ord.Perm (List.range n)):∀i,i<n->ord.getD i 0<n:=λi hi=>by
 have I1:ord.length=n:=by rw[hp.length_eq,xbN]
 have:ord.getD i 0∈ord:=by rw[xaA,xad zO];exact xaN _
 exact xaP.1 (hp.mem_iff.1 this)
end
end
section
section
open Go.ChangeShapes Go.WideShapes Go.Deep
variable {H:Type} {enc:TypeId×zV->H} {W:World} {base:Nat} {spare:Nat->Bool} {held:Bool}
theorem C5{f:FuncId}{args:Array zV}{W:World}(h:Rd zQ f args (whole W) (· =.bool true)):
  Calls zQ f args W λe W'=>e=.returned (.bool true)/\Go.RowKit.Below W.heap.size W W':=
 EW (h.mono λ_ _ ⟨h1,h2⟩=>⟨by rw[h1];exact .refl _,h2⟩)
end
end
end Go.Proofs
namespace Go.Sx
open Go
section
variable {P:Program} {g:Gh} {H:Hp} {K:zV->Hp->Prop} {KP:List PanicEntry->Hp->Prop}
theorem dX.panic{o:Oper}{ρ:Operand->zV}{x:Operand}{T:TypeId}{v:zV}(ho:o.op=.panic x)(hx:ρ x=.iface T v)(hk:KP [{v:=.iface T v,recovered:=false}] H):dX P g o ρ H K KP:=by
 intro w hw;have:(execOp ρ o).run P w=.halt (.panic (.iface T v)) w:=by
  simp only[execOp,ho,hx,Sem.run_bind,Instr.panic];rfl
 rw[this];exact⟨H,hw,hk⟩
theorem br.assert{o:Oper}{ρ:Operand->zV}{k:zV->Prop}{x:Operand}{xT T:TypeId}{v:zV}{d:TypeDesc}(ho:o.op=.typeAssert x xT T true)(hx:ρ x=.iface T v)(hd:P.underlying T=some d)(hi:∀m,d≠.interface m)
 (hk:k (.tuple #[v,.bool true])):br P g o ρ H k:=by
 refine⟨_,λw _=>?_,hk⟩;have:(Instr.typeAssert (.iface T v) xT T true).run P w=.ok (.tuple #[v,.bool true]) w:=by
  unfold Instr.typeAssert;simp only[Sem.run_bind,run_underlying hd,Result.andThen_ok];cases d<;>first|(exact absurd rfl (hi _))|simp
 simp only[execOp,ho,hx,Sem.run_bind,this,Result.andThen_ok,Sem.run_pure]
theorem br.ve{o:Oper}{ρ:Operand->zV}{k:zV->Prop}{x y:Operand}{t yt:TypeId}{a:zV}(ho:o.op=.binOp .neq t x y yt)(hx:ρ x=a)(hy:ρ y=.nilIface)(hd:∃m,P.underlying t=some (.interface m)){b:Bool}(ha:(a=.nilIface/\b=false/\∃v,y=.const v)\/∃T v,a=.iface T v/\b=true)
 (hk:k (.bool b)):br P g o ρ H k:=by
 obtain⟨m,hd⟩:=hd;refine⟨_,λw _=>?_,hk⟩;have e1:eqGuard .neq t x y a .nilIface=pure ():=by
  rcases ha with⟨rfl,_,v,rfl⟩|⟨T,v,rfl,_⟩
  ·unfold eqGuard;simp
  rfl
 have e2:(Op.equal t a .nilIface).run P w=.ok (!b) w:=by
  have key:∀n,(Op.equalIn (n+1) t a .nilIface).run P w=.ok (!b) w:=λn=>by
   unfold Op.equalIn;rcases ha with⟨rfl,rfl,_⟩|⟨T,v,rfl,rfl⟩<;>simp only[Sem.run_bind,run_underlying hd,Result.andThen_ok,Sem.run_pure]<;>rfl
  exact key 9999
 have e3:binOp .neq t a .nilIface=(do pure (.bool !(<-Op.equal t a .nilIface))):=by
  rcases ha with⟨rfl,_⟩|⟨T,v,rfl,_⟩<;>rfl
 have e4:(execOp ρ o).run P w=.ok (.value (.bool b)) w:=by
  simp only[execOp,ho,hx,hy,e1,e3,Sem.run_bind,Sem.run_pure,Result.andThen_ok,e2,Bool.not_not]
 exact e4
theorem br.iR{o:Oper}{ρ:Operand->zV}{k:zV->Prop}{x:Operand}{t:TypeId}{lo hi:Option Operand}{l:List UInt8}{i j:Nat}(ho:o.op=.slice t x lo hi none)(hd:P.underlying t=some .string)(hx:ρ x=ah l)
 (hlo:(lo=none/\i=0)\/∃q kd,lo=some q/\ρ q=.int kd (i:Int))(hhi:(hi=none/\j=l.length)\/∃q kd,hi=some q/\ρ q=.int kd (j:Int))(hij:i<=j)(hj:j<=l.length)(hk:k (ah ((l.take j).drop i))):br P g o ρ H k:=by
 refine⟨_,λw _=>?_,hk⟩;have sz:(⟨l.toArray⟩:ByteArray).size=l.length:=by simp[ByteArray.size]
 have cut:(⟨l.toArray⟩:ByteArray).extract i j=⟨((l.take j).drop i).toArray⟩:=by
  apply ByteArray.ext;rw[ByteArray.data_extract];apply xb8;simp[List.drop_take]
 have:(Instr.sliceAt t (ah l) (lo.map ρ) (hi.map ρ) none).run P w=.ok (ah ((l.take j).drop i)) w:=by
  have b1:∀kd cd,(Instr.sliceBound (.int kd (i:Int)) j cd).run P w=.ok i w:=λkd cd=>by simp[Instr.sliceBound,asIntOf,hij]
  have b2:∀kd cd,(Instr.sliceBound (.int kd (j:Int)) l.length cd).run P w=.ok j w:=λkd cd=>by simp[Instr.sliceBound,asIntOf,hj]
  rcases hlo with⟨rfl,rfl⟩|⟨q,kd,rfl,hq⟩<;>rcases hhi with⟨rfl,rfl⟩|⟨q2,Nm,rfl,gP⟩
  ·simp only[Instr.sliceAt,Instr.slice,Instr.sliceBounds,ah,Sem.run_bind,run_underlying hd,Result.andThen_ok,xbl,xba,xbt,xas,xaG,Sem.run_pure,sz,b1,b2,  cut]
  ·simp only[Instr.sliceAt,Instr.slice,Instr.sliceBounds,ah,Sem.run_bind,run_underlying hd,Result.andThen_ok,xbl,xba,xbt,xas,xaG,Sem.run_pure,sz,b1,b2,gP,cut]
  ·simp only[Instr.sliceAt,Instr.slice,Instr.sliceBounds,ah,Sem.run_bind,run_underlying hd,Result.andThen_ok,xbl,xba,xbt,xas,xaG,Sem.run_pure,sz,b1,b2,hq,cut]
  simp only[Instr.sliceAt,Instr.slice,Instr.sliceBounds,ah,Sem.run_bind,run_underlying hd,Result.andThen_ok,xbl,xba,xbt,xas,xaG,Sem.run_pure,sz,b1,b2,hq,gP,cut]
 simp only[execOp,ho,hx,Sem.run_bind,xbl,this,Result.andThen_ok,Sem.run_pure]
theorem mC{w:World}(hw:Own g H w){b p:Nat}{s:ByteArray}{o':Obj}{H':Hp}(hu:cm b (.stringIter s p) o' H H'):∃w',(setObj b o').run P w=.ok () w'/\Own g H' w':=by
 have hm:w.heap[b]? =some (.stringIter s p):=hw.has _ hu.mem;have hlt:b<w.heap.size:=(xax.1 hm).1;refine⟨{w with heap:=w.heap.setIfInBounds b o'},by simp[setObj,Sem.run,hm],?_⟩;refine hw.cz hu rfl rfl rfl ?_ λc hc=>?_
 ·simp[hlt]
 exact xaY (xbQ hc)
theorem mD{w:World}(hw:Own g H w){b p:Nat}{s:ByteArray}(hm:(b,Obj.stringIter s p)∈H):(getObj b).run P w=.ok (.stringIter s p) w:=by
 have:=hw.has _ hm;simp only at this;simp[getObj,Sem.run,this]
theorem dX.zn{o:Oper}{ρ:Operand->zV}{x:Operand}{t:TypeId}{l:List UInt8}(ho:o.op=.range t x)(ht:P.underlying t=some .string)(hx:ρ x=ah l)(hk:∀b,K (.pointer (some ⟨b,0,none⟩)) ((b,.stringIter ⟨l.toArray⟩ 0)::H)):dX P g o ρ H K KP:=by
 refine dX.ofValue (s:=Instr.range t (ah l)) (by simp only[execOp,ho,hx]) λw hw=>?_;refine⟨_,w.alloc (.stringIter ⟨l.toArray⟩ 0),_,?_,hw.alloc _,hk w.heap.size⟩;simp only[Instr.range,ah,Sem.run_bind,run_underlying ht,Result.andThen_ok,Sem.run_pure];rfl
theorem dX.D4{o:Oper}{ρ:Operand->zV}{x:Operand}{b pos:Nat}{l:List UInt8}{C H:Hp}{c:Hp->Hp}(ho:o.op=.next x true)(hx:ρ x=.pointer (some ⟨b,0,none⟩))(hh:bf [(b,.stringIter ⟨l.toArray⟩ pos)] H c)
 (h1:pos<l.length->K (.tuple #[.bool true,.int .i64 (pos:Int),.int .i32 ((Utf8.decode ⟨l.toArray⟩ pos).1:Int)]) (c [(b,.stringIter ⟨l.toArray⟩ (pos+(Utf8.decode ⟨l.toArray⟩ pos).2))]))
 (h2:l.length<=pos->K (.tuple #[.bool false]) H):dX P g o ρ H K KP:=by
 have sz:(⟨l.toArray⟩:ByteArray).size=l.length:=by simp[ByteArray.size]
 have hm:=hh.sub _ (xaH.2 rfl);refine dX.ofValue (s:=Instr.next (.pointer (some ⟨b,0,none⟩)) true o.type) (by simp only[execOp,ho,hx]) λw hw=>?_;have hg:=mD (P:=P) hw hm;by_cases hp:pos<l.length
 ·obtain⟨w',hs,cB⟩:=mC (P:=P) hw (hh.cz (cm.head (o':=.stringIter ⟨l.toArray⟩ (pos+(Utf8.decode ⟨l.toArray⟩ pos).2)) []));refine⟨_,w',_,?_,cB,h1 hp⟩;simp only[Instr.next,Sem.run_bind,hg,Result.andThen_ok,sz,hp,xaS,hs,Sem.run_pure,goInt]
 refine⟨_,w,H,?_,hw,h2 zO⟩;simp only[Instr.next,Sem.run_bind,hg,Result.andThen_ok,sz,hp,xaG,Sem.run_pure]
end
theorem oW{l:List UInt8}{pos:Nat}{b:UInt8}(h:l[pos]? =some b)(hb:b.toNat<128):Utf8.decode ⟨l.toArray⟩ pos=(b.toNat,1):=by
 have hg:(⟨l.toArray⟩:ByteArray).get! pos=b:=by
  have hlt:=(xag.1 h).1;have:l[pos]=b:=(xag.1 h).2;simp[ByteArray.get!,hlt,this]
 unfold Utf8.decode;simp only[xci,hg,hb,xaS]
theorem oX{l:List UInt8}{pos:Nat}{b:UInt8}(h:l[pos]? =some b)(hb:128<=b.toNat):128<=(Utf8.decode ⟨l.toArray⟩ pos).1/\(Utf8.decode ⟨l.toArray⟩ pos).1<2147483648/\1<=(Utf8.decode ⟨l.toArray⟩ pos).2:=by
 have hg:(⟨l.toArray⟩:ByteArray).get! pos=b:=by
  have hlt:=(xag.1 h).1;have:l[pos]=b:=(xag.1 h).2;simp[ByteArray.get!,hlt,this]
 have h4:∀n:Nat,n%64<64:=λn=>xbG _ zD;unfold Utf8.decode;simp only[xci,hg,show¬b.toNat<128 by omega,xaG]
 repeat' split
 all_goals first|(simp only[Utf8.runeError];omega)|skip
 all_goals
  rename_i h5;first|(have a1:=h4 ((⟨l.toArray⟩:ByteArray).get! (pos+1)).toNat;simp only[ge_iff_le]at h5⊢;omega)|skip
 all_goals
  simp only[ge_iff_le,xam,xaD]at h5;have a1:=h4 ((⟨l.toArray⟩:ByteArray).get! (pos+1)).toNat;have a2:=h4 ((⟨l.toArray⟩:ByteArray).get! (pos+2)).toNat;have a3:=h4 ((⟨l.toArray⟩:ByteArray).get! (pos+3)).toNat;refine⟨by omega,by omega,by simp⟩
theorem aA.of{l:List UInt8}{k:zV->Prop}(h:k (.int .i64 (l.length:Int))):aA (ah l) k:=⟨⟨l.toArray⟩,rfl,by
 have:(⟨l.toArray⟩:ByteArray).size=l.length:=by simp[ByteArray.size]
 rw[this];exact h⟩
theorem ae.kR{a b:List UInt8}{k:zV->Prop}(h:k (.bool (decide (a=b)))):ae .str .eql (ah a) (ah b) k:=by
 refine⟨_,rfl,?_⟩;have:((⟨a.toArray⟩:ByteArray).toList==(⟨b.toArray⟩:ByteArray).toList)=decide (a=b):=by
  rw[<-beq_toListBytes,jv]
 rw[this];exact h
theorem ae.eK{a b:List UInt8}{k:zV->Prop}(hl:a.length+b.length<=9223372036854775807)(h:k (ah (a++b))):ae .str .add (ah a) (ah b) k:=by
 have e:(⟨a.toArray⟩:ByteArray)++⟨b.toArray⟩=⟨(a++b).toArray⟩:=by
  apply ByteArray.ext;simp
 refine⟨ah (a++b),?_,h⟩;unfold ah eV;have s1:(⟨a.toArray⟩:ByteArray).size=a.length:=by simp[ByteArray.size]
 have s2:(⟨b.toArray⟩:ByteArray).size=b.length:=by simp[ByteArray.size]
 simp only[s1,s2,hl,xaS,e]
theorem xM.nat{kd:IntKind}{a b:Nat}{k:zV->Prop}(h:k (.int kd ((min a b:Nat):Int))):xM (.int kd (a:Int)) (.int kd (b:Int)) k:=by
 refine⟨kd,a,b,rfl,rfl,?_⟩;have:(if(b:Int)<(a:Int)then(b:Int)else(a:Int))=((min a b:Nat):Int):=by split<;>omega
 rw[this];exact h
end Go.Sx
namespace Go.Proofs.Fm
structure Tok where
 k:Nat
 p:Nat
 v:Nat
def digit(b:UInt8):Bool:=decide (48<=b.toNat) &&decide (b.toNat<=57)
def num:Nat->Nat->List UInt8->Nat×Nat
 |n,k,[]=>(n,k)
 |n,k,b::r=>if digit b=false\/(k=1/\n=0)then(n,k)else num (min (10*n+(b.toNat-48)) 1048576) (k+1) r
def cG:List (List UInt8×Nat):=[([60,45,62],9),([45,62],8),([48],1),([49],2),([33],4),([38],5),([94],6),([124],7),([40],10),([41],11),([91],12),([63],13),([58],14),([93],15)]
def nQ(l:List UInt8):List (List UInt8×Nat)->Option (Nat×Nat)
 | []=>none
 |s::r=>if s.1.isPrefixOf l=true then some (s.2,s.1.length)else nQ l r
def fQ:List UInt8->Option (Nat×Nat)
 |b::r=>if b=120/\0<(num 0 0 r).2 then some ((num 0 0 r).1,(num 0 0 r).2+1)else none
 | []=>none
def bM(l:List UInt8):Nat×Nat×Nat:=
 match fQ l with
 |some (n,w)=>(3,n,w)
 |none=>match nQ l cG with
  |some (k,w)=>(k,0,w)
  |none=>(16,0,0)
inductive cu:Nat->List UInt8->List Tok->Prop
 |fin {p:Nat}:cu p [] [⟨0,p,0⟩]
 |blank {p:Nat} {r:List UInt8} {o:List Tok}:cu (p+1) r o->cu p (32::r) o
 |wrong {p:Nat} {b:UInt8} {r:List UInt8}:b≠32->(bM (b::r)).1=16->cu p (b::r) [⟨16,p,0⟩]
 |tok {p:Nat} {b:UInt8} {r:List UInt8} {o:List Tok}:b≠32->(bM (b::r)).1≠16->cu (p+(bM (b::r)).2.2) ((b::r).drop (bM (b::r)).2.2) o->cu p (b::r) (⟨(bM (b::r)).1,p,(bM (b::r)).2.1⟩::o)
theorem cu.uniq{p:Nat}{l:List UInt8}{o o':List Tok}(h:cu p l o)(h':cu p l o'):o=o':=by
 induction h generalizing o' with
 |fin=>cases h';rfl
 |blank _ ih=>
  cases h' with
  |blank h=>exact ih h
  |wrong h=>exact absurd rfl h
  |tok h=>exact absurd rfl h
 |wrong hb h=>
  cases h' with
  |blank _=>exact absurd rfl hb
  |wrong _ _=>rfl
  |tok _ h2=>exact absurd h h2
 |tok hb h _ ih=>
  cases h' with
  |blank _=>exact absurd rfl hb
  |wrong _ h2=>exact absurd h2 h
  |tok _ _ h3=>rw[ih h3]
theorem cu.last{p:Nat}{l:List UInt8}{o:List Tok}(h:cu p l o):∃i t,o=i++[t]/\(t.k=0\/t.k=16)/\∀u∈i,u.k≠0/\u.k≠16:=by
 induction h with
 |fin=>exact⟨[],_,rfl,.inl rfl,nofun⟩
 |blank _ ih=>exact ih
 |wrong _ _=>exact⟨[],_,rfl,.inr rfl,nofun⟩
 | @tok p b r o hb h _ ih=>
  obtain⟨i,t,rfl,ht,hi⟩:=ih;refine⟨_::i,t,rfl,ht,λu hu=>?_⟩;rcases xaf.1 hu with rfl|hu
  ·refine⟨?_,h⟩;show(bM (b::r)).1≠0;unfold bM;cases hx:fQ (b::r)with
   |some q=>simp
   |none=>
    simp only;have hs:∀(L:List (List UInt8×Nat)),(∀s∈L,s.2≠0)->∀q,nQ (b::r) L=some q->q.1≠0:=by
     intro L;induction L with
     |nil=>intro _ q h;cases h
     |cons s L ih=>
      intro hL q h;unfold nQ at h;split at h
      ·cases h;exact hL s (.head _)
      exact ih (λs hs=>hL s (.tail _ hs)) q h
    cases hg:nQ (b::r) cG with
    |none=>simp
    |some q=>exact hs cG zD q hg
  ·exact hi u hu
theorem mG:∀(l:List UInt8) (n k:Nat),k<=(num n k l).2/\(num n k l).2<=k+l.length/\∀j,j<(num n k l).2-k->∃b,l[j]? =some b/\digit b=true
 | [],n,k=>⟨xak _,xak _,λj hj=>by simp[num]at hj⟩
 |b::r,n,k=>by
  unfold num;split
  ·exact⟨xak _,by simp,λj hj=>by simp at hj⟩
  rename_i h;obtain⟨h1,h2,h3⟩:=mG r (min (10*n+(b.toNat-48)) 1048576) (k+1);refine⟨by omega,by simp only[xai];omega,λj hj=>?_⟩;cases j with
  |zero=>exact⟨b,rfl,by simpa using λhd=>h (.inl hd)⟩
  |succ j=>exact h3 j zO
theorem Bo{b:UInt8}(h:digit b=true):b.toNat<128:=by
 unfold digit at h;simp only[xam,xaD]at h;omega
theorem r8{l:List UInt8}:∀(L:List (List UInt8×Nat)),(∀s∈L,s.1≠[]/\∀b∈s.1,b.toNat<128)->∀q,nQ l L=some q->1<=q.2/\q.2<=l.length/\∀j,j<q.2->∃b,l[j]? =some b/\b.toNat<128
 | [],_,q,h=>by cases h
 |s::L,hL,q,h=>by
  unfold nQ at h;split at h
  ·rename_i hp;cases h;obtain⟨t,rfl⟩:=List.isPrefixOf_iff_prefix.1 hp;obtain⟨h1,h2⟩:=hL s (.head _);have:1<=s.1.length:=by cases hs:s.1 with|nil=>exact absurd hs h1|cons a b=>simp
   refine⟨this,by simp,λj hj=>?_⟩;have hj:j<s.1.length:=hj;exact⟨s.1[j],by rw[xaQ hj,xad hj],h2 _ (xaN hj)⟩
  exact r8 L (λs hs=>hL s (.tail _ hs)) q h
theorem jr{l:List UInt8}(h:(bM l).1≠16):1<=(bM l).2.2/\(bM l).2.2<=l.length/\∀j,j<(bM l).2.2->∃b,l[j]? =some b/\b.toNat<128:=by
 unfold bM at h⊢;cases hx:fQ l with
 |some q=>
  obtain⟨n,w⟩:=q;cases l with
  |nil=>simp[fQ]at hx
  |cons b r=>
   by_cases hb:b=120/\0<(num 0 0 r).2
   ·rw[show fQ (b::r)=some ((num 0 0 r).1,(num 0 0 r).2+1)from xae hb]at hx;cases hx;obtain⟨h1,h2,h3⟩:=mG r 0 0;refine⟨by simp,by simp only[xai];omega,λj hj=>?_⟩;cases j with
    |zero=>exact⟨b,rfl,by rw[hb.1];decide⟩
    |succ j=>
     obtain⟨c,hc,hd⟩:=h3 j (by simp only at hj;omega);exact⟨c,hc,Bo hd⟩
   rw[show fQ (b::r)=none from xab hb]at hx;cases hx
 |none=>
  rw[hx]at h;simp only at h⊢;cases hg:nQ l cG with
  |none=>rw[hg]at h;simp at h
  |some q=>exact r8 cG zD q hg
theorem Cr{b:UInt8}{r:List UInt8}(h:128<=b.toNat):(bM (b::r)).1=16:=by
 cases Nat.decEq (bM (b::r)).1 16 with
 |isTrue h=>exact h
 |isFalse hn=>
  obtain⟨h1,_,h3⟩:=jr hn;obtain⟨c,hc,hl⟩:=h3 0 zO;cases hc;omega
end Go.Proofs.Fm
set_option maxRecDepth 100000
namespace Go.Proofs
open Go Go.Sx Tryz
open Fm
abbrev nI(a:Nat):zV:=iv (a:Int)
theorem nX(a b:List UInt8):(decide (b.length<=a.length) &&decide (a.take b.length=b))=b.isPrefixOf a:=by
 rw[xcy,List.isPrefixOf_iff_prefix,List.prefix_iff_eq_take];simp only[xam,xaD];constructor
 ·rintro⟨_,h⟩;exact h.symm
 intro h;refine⟨?_,h.symm⟩;have:=xb1 List.length h;rw[xdx]at this;omega
theorem CI(a b:List UInt8)(B:Hp):Rd zQ 121 #[ah a,ah b] B (· =.bool (b.isPrefixOf a)):=by
 refine aW λg=>uz (aA.of (aA.of (ae.n5 (bL.and (decide (a.take b.length=b)) (λh=>?_) rfl λ_=>?_))))
 ·refine aA.of (br.iR (l:=a) (i:=0) (j:=b.length) rfl zK rfl (.inl ⟨rfl,rfl⟩) (.inr ⟨_,.i64,rfl,rfl⟩) (xaE _) (xbV h) ?_);exact ae.kR ⟨rfl,rfl⟩
 exact bS.mk (.refl _) (by rw[nX])
theorem EL(a b:List UInt8)(B:Hp):Rd zQ 70 #[ah a,ah b] B (· =.bool (b.isPrefixOf a)):=by
 refine aW λg=>ya (aa.eq (CI a b B) (bS.mk (.refl _) rfl))
theorem Dx(l:List UInt8)(hl:l.length<4611686018427387904)(B:Hp):Rd zQ 78 #[ah l] B (· =.tuple #[nI (num 0 0 l).1,nI (num 0 0 l).2]):=by
 refine aW λg=>x3 λJ1 h1=>?_;have fin:∀(n k:Nat) (H:Hp),aM H B->num 0 0 l=(n,k)->J1 [nI n,nI k] H:=λn k H he hn=>by
  refine h1 _ _ _ λ_=>?_;rw[hn];exact bS.mk he rfl
 refine dX.zn rfl zK rfl λb=>?_;refine⟨λvs H=>∃n k:Nat,vs=[nI n,nI k]/\k<=l.length/\n<=1048576/\num 0 0 l=num n k (l.drop k)/\H=(b,.stringIter ⟨l.toArray⟩ k)::B,λvs _=>l.length-dR vs 1,
  JE.mk ⟨0,0,rfl,xaE _,by decide,rfl,rfl⟩,?_⟩
 rintro w1 w2 H ⟨n,k,⟨⟩,hk,hn,he,rfl⟩ gs;refine dX.D4 (C:=B) (c:=λX=>X++B) rfl rfl (bf.left (C:=[_])) (λhlt=>?_) (λhge=>?_);rotate_left
 ·refine Ext.mk rfl (Br.no (JE.mk (fin n k _ .tail ?_)));rw[he,xaO hge];rfl
 obtain⟨c,hc⟩:∃c,l[k]? =some c:=⟨_,xad hlt⟩;have hd:l.drop k=c::l.drop (k+1):=by
  rw[xaW hlt];rw[xad hlt]at hc;cases hc;rfl
 rw[hd]at he;refine Ext.mk rfl (Br.yes (Ext.mk rfl ?_));by_cases Dn:c.toNat<128
 ·rw[oW hc Dn];refine ae.fN (b:=48) (bL.or (decide (57<c.toNat)) (λ_=>ae.mY (b:=57) ⟨rfl,rfl⟩) rfl λ_=>?_);refine bL.or (decide (k=1) &&decide (n=0)) (λ_=>ae.bN (b:=1) (bL.and (decide (n=0)) (λ_=>ae.bN (b:=0) ⟨rfl,rfl⟩) rfl λ_=>⟨rfl,rfl⟩)) rfl λ_=>?_;have Me:digit c=false↔c.toNat<48\/57<c.toNat:=by
   unfold digit;rw[xcm,xaU,xaU];omega
  rw[<-xaV,<-xdD,<-xaV];refine Br.dec (λhs=>?_) (λhs=>?_)
  ·refine JE.mk (fin n k _ .tail ?_);rw[he];unfold num;exact xae (by rw[Me];omega)
  refine ae.pA (a:=10) (by simp only[cv];omega) (ae.ju (b:=48) (by simp only[cv];omega) zO (bj.q (ae.iA (by simp only[cv];omega) (xM.nat (b:=1048576) ?_))));refine ae.inc (aR.of (.refl _) ⟨min (10*n+(c.toNat-48)) 1048576,k+1,rfl,hlt,Nat.min_le_right ..,?_,rfl⟩ (by simp only[dR];omega));rw[he]
  conv=>lhs;unfold num
  rw[xab (by rw[Me];omega)]
 obtain⟨h2,h3,h4⟩:=oX hc zO;generalize Utf8.decode ⟨l.toArray⟩ k=d at h2 h3 h4⊢;refine ae.fN (b:=48) (bL.or (decide (57<d.1)) (λ_=>ae.mY (b:=57) ⟨rfl,rfl⟩) rfl λ_=>?_);refine bL.or (decide (k=1) &&decide (n=0)) (λ_=>ae.bN (b:=1) (bL.and (decide (n=0)) (λ_=>ae.bN (b:=0) ⟨rfl,rfl⟩) rfl λ_=>⟨rfl,rfl⟩)) rfl λ_=>?_;rw[<-xaV,<-xdD,<-xaV];refine Br.T (JE.mk (fin n k _ .tail ?_)) zO;have Oa:digit c=false:=by
  unfold digit;rw[xcm,xaU,xaU];omega
 rw[he];unfold num;exact xae (.inl Oa)
end Go.Proofs
namespace Go.Sx
open Go
section
variable {P:Program} {g:Gh} {H:Hp} {K:zV->Hp->Prop} {KP:List PanicEntry->Hp->Prop}
def l8(Q:zV->Hp->Prop)(QP:List PanicEntry->Hp->Prop):Ending->Hp->Prop:=λe H'=>(∃v dY,e=.returned v/\aM H' dY/\Q v dY)\/∃c dY,e=.panicked c/\aM H' dY/\QP c dY
def FX(P:Program)(f:FuncId)(args:Array zV)(C:Hp)(Q:zV->Hp->Prop)(QP:List PanicEntry->Hp->Prop):Prop:=∀g,aT P g f args C (l8 Q QP)
theorem Ij{f:FuncId}{args:Array zV}{C:Hp}{Q:zV->Hp->Prop}{QP:List PanicEntry->Hp->Prop}(h:∀g,aT P g f args C (l8 Q QP)):FX P f args C Q QP:=h
theorem l8.ret{Q:zV->Hp->Prop}{QP:List PanicEntry->Hp->Prop}{v:zV}{H dY:Hp}(he:aM H dY)(h:Q v dY):l8 Q QP (.returned v) H:=.inl ⟨v,dY,rfl,he,h⟩
theorem l8.sj{Q:zV->Hp->Prop}{QP:List PanicEntry->Hp->Prop}{c:List PanicEntry}{H dY:Hp}(he:aM H dY)(h:QP c dY):dj (l8 Q QP) c H:=λ_=>.inr ⟨c,dY,rfl,he,h⟩
theorem aa.fp{f:FuncId}{args:Array zV}{C H:Hp}{c:Hp->Hp}{Q:zV->Hp->Prop}{QP:List PanicEntry->Hp->Prop}(hh:bf C H c)(hc:FX P f args C Q QP)
 (hk:∀v C',Q v C'->K v (c C'))(hp:∀ch C',QP ch C'->KP ch (c C')):aa P g f args H K KP:=
 (aT.hole hh hc).post λe H' ⟨C',h1,h⟩=>by
  rcases h with⟨v,IL,h2,h3,h4⟩|⟨v,IL,h2,h3,h4⟩
  ·exact⟨c IL,by rw[h1];exact hh.dF h3,by subst h2;exact hk _ _ h4⟩
  exact⟨c IL,by rw[h1];exact hh.dF h3,by subst h2;exact hp _ _ h4⟩
theorem cF.tail{k:Nat}{B:Hp}{v:zV}{r:List zV}{rs:List (List zV)}{K:zV->Prop}(h:Sl k B v (r::rs))(hk:∀v',Sl k B v' rs->K v'):cF k v (some (.int .i64 1)) none K:=by
 obtain⟨h0,h⟩:=h;rcases h with⟨_,_,_,h⟩|⟨b,o,cap,c,T,fz,rfl,h2,h3,h4,h5⟩
 ·cases h
 have hl:(r::rs).length=rs.length+1:=rfl;refine⟨some ⟨b,o,none⟩,(r::rs).length,cap,1,(((r::rs).length:Nat):Int),rfl,rfl,rfl,by decide,by omega,by omega,hk _ ⟨λx hx=>h0 x (.tail _ hx),?_⟩⟩;rw[show(((r::rs).length:Nat):Int).toNat-(1:Int).toNat=rs.length by omega];by_cases h1:cap=1
 ·have hn:rs=[]:=xb6.1 zO;subst hn;exact .inl ⟨_,_,rfl,rfl⟩
 rw[xab (by show¬cap=1;exact h1)];refine .inr ⟨b,o+1*k,cap-1,c,T,fz,?_,?_,h3,?_,λi r' hr j v hj=>?_⟩
 ·simp[Addr.add]
 ·show rs.length<=cap-1;omega
 ·rw[hl,xbe]at h4;omega
 have:=h5 (i+1) r' (by simpa using hr) j v hj;rw[xbe]at this;rw[<-this];congr 1;omega
def kI:Nat->List zV->List (Nat×zV)
 |_,[]=>[]
 |i,x::rs=>(i,x)::kI (i+1) rs
theorem nU{x:zV}(hx:x.oneCell'=true):x.cells=#[x]:=by cases x<;>first|rfl|(simp[Value.oneCell']at hx)
theorem lq:∀(rs:List zV) (i:Nat) (pre aF:List zV),(∀r∈rs,r.oneCell'=true)->pre.length=i->aF.length=rs.length->fK (λi=>some (i*1,1)) (pre++aF) (kI i rs)=some (pre++rs)
 | [],i,pre,aF,_,_,hj=>by
  have:aF=[]:=xb6.1 hj;subst this;simp[kI,fK]
 |r::rs,i,pre,aF,hr,hp,hj=>by
  have hc:=nU (hr r (.head _));cases aF with
  |nil=>simp at hj
  |cons y aF=>
   simp only[kI,fK,hc,xb0];have hb:(Nat.beq (#[r]:Array zV).toList.length 1&&Nat.ble (i+(#[r]:Array zV).toList.length) (pre++y::aF).length)=true:=by
    have e1:(#[r]:Array zV).toList.length=1:=rfl;rw[e1,xaq,xai];simp;omega
   rw[hb,xal];have h2:kV (pre++y::aF) i (#[r]:Array zV).toList=(pre++[r])++aF:=by
    subst hp;have h1:=fT [r] (pre++y::aF) pre.length zI;rw[eM]at h1;have:=xb1 Array.toList h1;simp only at this;rw[this];simp
   have:=lq rs (i+1) (pre++[r]) aF (λx hx=>hr x (.tail _ hx)) (by simp[hp]) (by simpa using hj);simp only[xb0]at this;rw[h2,this];simp
theorem ak.jg{t e:TypeId}{z:zV}(rs:List zV){len:Nat}{parts:List (Nat×zV)}{K:zV->Hp->Prop}(h1:P.underlying t=some (.slice e))(h2:bU P e=some 1)(h3:da P e=some z)(hk:rs.length<=16777216)(hr:∀r∈rs,r.oneCell'=true)
 (hl:rs.length=len)(hp:kI 0 rs=parts)(h:∀b,K (.slice (some ⟨b,0,Option.none⟩) len len) ((b,.cells rs.toArray e zZ)::H)):ak P t len parts H K:=by
 subst hl hp;refine⟨rs.toArray,e,1,z,h1,h2,h3,by omega,?_,λb _=>h b⟩;have:((Array.range (rs.length*1)).map (z.cells[· %z.cells.size]!))=(((Array.range (rs.length*1)).map (z.cells[· %z.cells.size]!)).toList).toArray:=by rw[xbY]
 rw[this];refine eS _ _ _ ?_;exact lq rs 0 [] _ hr rfl zI
def zf(P:Program)(T:TypeId):Bool:=match P.underlying T with
 |some (.interface _)=>false
 |some _=>true
 |Option.none=>false
theorem br.DF{o:Oper}{ρ:Operand->zV}{k:zV->Prop}{x:Operand}{xT T:TypeId}{v:zV}(ho:o.op=.typeAssert x xT T true)(hx:ρ x=.iface T v)(hd:zf P T=true)
 (hk:k (.tuple #[v,.bool true])):br P g o ρ H k:=by
 unfold zf at hd;cases hu:P.underlying T with
 |none=>rw[hu]at hd;cases hd
 |some d=>
  refine br.assert ho hx hu (λm h=>?_) hk;subst h;rw[hu]at hd;cases hd
end
end Go.Sx
namespace Go.Sx
open Go
section
variable {P:Program} {g:Gh} {H:Hp}
def ni:Nat->List (List zV)->List (Nat×zV)
 |_,[]=>[]
 |i,r::rs=>(i,.agg r.toArray)::ni (i+1) rs
theorem m8{k:Nat}:∀(rs:List (List zV)) (i:Nat) (pre aF:List zV),(∀r∈rs,r.length=k)->pre.length=i*k->aF.length=rs.length*k->fK (λi=>some (i*k,k)) (pre++aF) (ni i rs)=some (pre++rs.flatten)
 | [],i,pre,aF,_,_,hj=>by
  have:aF=[]:=xb6.1 (by simpa using hj);subst this;simp[ni,fK]
 |r::rs,i,pre,aF,hr,hp,hj=>by
  have Kj:=hr r (xdn ..);have Fj:aF.length=k+rs.length*k:=by rw[hj,xai,xbe,xcE]
  simp only[ni,fK,Value.cells];have hb:(Nat.beq r.toArray.toList.length k&&Nat.ble (i*k+r.toArray.toList.length) (pre++aF).length)=true:=by
   have e1:r.toArray.toList.length=k:=Kj;rw[e1,xaq];simp;omega
  rw[hb,xal];have h1:=fT r (pre++aF) (i*k) (by rw[xaq];omega);rw[eM]at h1;have h2:kV (pre++aF) (i*k) r=pre++r++aF.drop k:=by
   have:=xb1 Array.toList h1;simp only at this;rw[this,<-hp];simp[List.take_append,Kj,xcS]
  show fK _ (kV (pre++aF) (i*k) r) _=_;rw[h2,m8 rs (i+1) (pre++r) (aF.drop k) (λx hx=>hr x (xbZ _ hx)) (by rw[xaq,hp,Kj,xbe]) (by rw[xbu];omega)];simp
theorem ak.many{t e k:Nat}{z:zV}(rs:List (List zV)){len:Nat}{parts:List (Nat×zV)}{K:zV->Hp->Prop}(h1:P.underlying t=some (.slice e))(h2:bU P e=some k)(h3:da P e=some z)(hk:rs.length*k<=16777216)(hr:∀r∈rs,r.length=k)
 (hl:rs.length=len)(hp:ni 0 rs=parts)(h:∀b,K (.slice (some ⟨b,0,Option.none⟩) len len) ((b,.cells (rows rs) e zZ)::H)):ak P t len parts H K:=by
 subst hl hp;refine⟨rows rs,e,k,z,h1,h2,h3,by omega,?_,λb _=>h b⟩;have:((Array.range (rs.length*k)).map (z.cells[· %z.cells.size]!))=(((Array.range (rs.length*k)).map (z.cells[· %z.cells.size]!)).toList).toArray:=by rw[xbY]
 rw[this];generalize hc:((Array.range (rs.length*k)).map (z.cells[· %z.cells.size]!)).toList=c;have hlen:c.length=rs.length*k:=by rw[<-hc];simp
 refine eS _ _ _ ?_;have:=m8 rs 0 [] c hr zI hlen;simpa using this
theorem bh.look{κ β:Type}[DecidableEq κ]{ke:κ->zV}{vr:zV->β->Prop}{es:Array MapEntry}{ck b:Nat}{m:List (κ×β)}{kd:TypeDesc}{zero:zV}{ok:Bool}{k:κ}{K:zV->Prop}(hk:∀a b,Instr.sameNow kd (ke a) (ke b)=some (decide (a=b)))(h:bh ke vr es ck m)(hm:(b,Obj.map es ck)∈H)
 (h1:∀x v,aN m k=some x->vr v x->K (cond ok (.tuple #[v,.bool true]) v))(h2:aN m k=none->K (cond ok (.tuple #[zero,.bool false]) zero)):gp kd zero ok H (.map (some b)) (ke k) K:=by
 cases hx:aN m k with
 |none=>exact h.so hk hm hx (h2 hx)
 |some x=>exact h.hit hk hm hx λv hv=>h1 x v hx hv
end
end Go.Sx
namespace Go.Sx
open Go
section
variable {P:Program} {g:Gh} {H:Hp} {K:zV->Hp->Prop}
theorem aV.of{l:List UInt8}{i:Nat}{kd:IntKind}{b:UInt8}{k:zV->Prop}(h:l[i]? =some b)(hk:k (.int .u8 (b.toNat:Int))):aV (ah l) (.int kd (i:Int)) k:=by
 refine⟨_,kd,i,b,rfl,rfl,xbp _,?_,hk⟩;rw[xbx];obtain⟨hi,rfl⟩:=xag.1 h;have sz:(⟨l.toArray⟩:ByteArray).size=l.length:=by simp[ByteArray.size]
 rw[getElem?_pos (⟨l.toArray⟩:ByteArray) i (by rw[sz];exact hi)];rfl
theorem br.p4{o:Oper}{ρ:Operand->zV}{k:zV->Prop}{x:Operand}{t e:TypeId}{lo hi:Option Operand}{b n i j:Nat}(ho:o.op=.slice t x lo hi none)(hd:P.underlying t=some (.array n e))(hz:bU P e=some 1)(hx:ρ x=.pointer (some ⟨b,0,none⟩))
 (hlo:(lo=none/\i=0)\/∃q kd,lo=some q/\ρ q=.int kd (i:Int))(hhi:(hi=none/\j=n)\/∃q kd,hi=some q/\ρ q=.int kd (j:Int))(hij:i<=j)(hj:j<=n)(hin:i<n)(hk:k (.slice (some ⟨b,i,none⟩) (j-i) (n-i))):br P g o ρ H k:=by
 refine⟨_,λw _=>?_,hk⟩;obtain⟨inf,wW,hs⟩:=aG hz;have hne:¬n=i:=by omega
 have b1:∀kd cd,(Instr.sliceBound (.int kd (i:Int)) j cd).run P w=.ok i w:=λkd cd=>by simp[Instr.sliceBound,asIntOf,hij]
 have b2:∀kd cd,(Instr.sliceBound (.int kd (j:Int)) n cd).run P w=.ok j w:=λkd cd=>by simp[Instr.sliceBound,asIntOf,hj]
 have ha:(Addr.add ⟨b,0,none⟩ (i*1))=⟨b,i,none⟩:=by rw[Addr.add_lit];simp
 have:(Instr.sliceAt t (.pointer (some ⟨b,0,none⟩)) (lo.map ρ) (hi.map ρ) none).run P w=.ok (.slice (some ⟨b,i,none⟩) (j-i) (n-i)) w:=by
  rcases hlo with⟨rfl,rfl⟩|⟨q,kd,rfl,hq⟩<;>rcases hhi with⟨rfl,rfl⟩|⟨q2,Nm,rfl,gP⟩
  ·simp only[Instr.sliceAt,Instr.sureAddr,Instr.sliceBounds,Sem.run_bind,run_underlying hd,run_sizeOf wW,hs,Result.andThen_ok,xbl,xba,xbt,xas,xaG,Sem.run_pure,b1,b2,xab hne,ha]
  ·simp only[Instr.sliceAt,Instr.sureAddr,Instr.sliceBounds,Sem.run_bind,run_underlying hd,run_sizeOf wW,hs,Result.andThen_ok,xbl,xba,xbt,xas,xaG,Sem.run_pure,b1,b2,gP,xab hne,ha]
  ·simp only[Instr.sliceAt,Instr.sureAddr,Instr.sliceBounds,Sem.run_bind,run_underlying hd,run_sizeOf wW,hs,Result.andThen_ok,xbl,xba,xbt,xas,xaG,Sem.run_pure,b1,b2,hq,xab hne,ha]
  simp only[Instr.sliceAt,Instr.sureAddr,Instr.sliceBounds,Sem.run_bind,run_underlying hd,run_sizeOf wW,hs,Result.andThen_ok,xbl,xba,xbt,xas,xaG,Sem.run_pure,b1,b2,hq,gP,xab hne,ha]
 simp only[execOp,ho,hx,Sem.run_bind,xbl,this,Result.andThen_ok,Sem.run_pure]
theorem dH.cut{b o n c:Nat}{cs:Array zV}{T:TypeId}{fz:Nat×Nat}{l:List UInt8}{K:zV->Prop}(hm:(b,Obj.cells cs T fz)∈H)(hn:l.length=n)(h0:0<n)(hc:∀j u,l[j]? =some u->cs[o+j]? =some (.int .u8 (u.toNat:Int)))(hk:K (ah l)):dH H (.slice (some ⟨b,o,none⟩) n c) K:=by
 refine⟨_,n,c,l,rfl,?_,hn,hk⟩;have hl:n-1<l.length:=by omega
 have h1:=hc (n-1) _ (xad hl);have h2:o+(n-1)<cs.size:=(xax.1 h1).1;refine .inr ⟨rfl,cs,T,fz,hm,by show o+n<=cs.size;omega,?_⟩;refine Array.ext (by rw[Array.size_extract];simp;omega) λj h3 h4=>?_;have h5:j<l.length:=by simpa using h3
 have h6:=hc j _ (xad h5);obtain⟨h7,h8⟩:=xax.1 h6;rw[xcX];simp only[List.getElem_toArray,List.getElem_map];exact h8.symm
end
end Go.Sx
namespace Go.Proofs.Fm
inductive Tr
 |c(k:Nat)
 |v(n:Nat)
 |no(a:Tr)
 |bin(k:Nat)(a b:Tr)
 |ite(a b c:Tr)
inductive Rs
 |ok(t:Tr)(l:List Tok)
 |bad(p e:Nat)
inductive Gl
 |dz(lv dp:Nat)(l:List Tok)
 |more(lv dp:Nat)(a:Tr)(l:List Tok)
 |tight(dp:Nat)(l:List Tok)
inductive Pl
 |done(r:Rs)
 |call(g:Gl)(k:Rs->Pl)
def Rs.thn(r:Rs)(f:Tr->List Tok->Pl):Pl:=
 match r with
 | .ok t l=>f t l
 | .bad p e=>.done (.bad p e)
def Rs.bD(r:Rs)(k:Nat)(f:Tr->List Tok->Pl):Pl:=r.thn λt l=>
 match l with
 | []=>.done (.bad 0 14)
 |x::l'=>if x.k=k then f t l' else .done (.bad x.p 14)
def bZ:Nat->Nat
 |0=>9
 |1=>8
 |2=>7
 |3=>6
 |_=>5
def cj(n:Nat):Gl->Pl
 | .dz lv dp l=>if lv=5 then .call (.tight dp l) .done else .call (.dz (lv+1) dp l) λr=>r.thn λa l1=>.call (.more lv dp a l1) .done
 | .more lv dp a []=>.done (.bad 0 14)
 | .more lv dp a (x::l)=>
  if x.k=bZ lv then
   if bZ lv=8 then .call (.dz lv dp l) λr=>r.thn λb l2=>.done (.ok (.bin 8 a b) l2)
   else .call (.dz (lv+1) dp l) λr=>r.thn λb l2=>.call (.more lv dp (.bin (bZ lv) a b) l2) .done
  else .done (.ok a (x::l))
 | .tight dp []=>.done (.bad 0 14)
 | .tight dp (x::l)=>
  if x.k=1\/x.k=2 then .done (.ok (.c x.k) l)
  else if x.k=3 then(if n<=x.v then .done (.bad x.p 2)else .done (.ok (.v x.v) l))
  else if x.k=4 then(if 1000<=dp then .done (.bad x.p 7)else .call (.tight (dp+1) l) λr=>r.thn λa l2=>.done (.ok (.no a) l2))
  else if x.k=10 then(if 1000<=dp then .done (.bad x.p 7)else .call (.dz 0 (dp+1) l) λr=>r.bD 11 λa l2=>.done (.ok a l2))
  else if x.k=12 then(if 1000<=dp then .done (.bad x.p 7)else .call (.dz 0 (dp+1) l) λr=>r.bD 13 λa l2=>.call (.dz 0 (dp+1) l2) λr=>r.bD 14 λb l3=>.call (.dz 0 (dp+1) l3) λr=>r.bD 15 λc l4=>.done (.ok (.ite a b c) l4))
  else .done (.bad x.p 14)
inductive Ev(n:Nat):Pl->Rs->Prop
 |done {r:Rs}:Ev n (.done r) r
 |call {g:Gl} {k:Rs->Pl} {r r2:Rs}:Ev n (cj n g) r->Ev n (k r) r2->Ev n (.call g k) r2
theorem Ev.uniq{n:Nat}{p:Pl}{r r':Rs}(h:Ev n p r)(h':Ev n p r'):r=r':=by
 induction h generalizing r' with
 |done=>cases h';rfl
 |call _ _ i1 i2=>
  cases h' with
  |call a b=>
   have:=i1 a;subst this;exact i2 b
def Rs.fit:Rs->Prop
 | .ok _ _=>True
 | .bad _ e=>e≠0
inductive Pl.Fit:Pl->Prop
 |done {r:Rs}:r.fit->Fit (.done r)
 |call {g:Gl} {k:Rs->Pl}:(∀r,r.fit->Fit (k r))->Fit (.call g k)
theorem Pl.Fit.thn{r:Rs}{f:Tr->List Tok->Pl}(hr:r.fit)(h:∀t l,Fit (f t l)):Fit (r.thn f):=by
 cases r with
 |ok t l=>exact h t l
 |bad p e=>exact .done hr
theorem Pl.Fit.bD{r:Rs}{k:Nat}{f:Tr->List Tok->Pl}(hr:r.fit)(h:∀t l,Fit (f t l)):Fit (r.bD k f):=by
 refine .thn hr λt l=>?_;cases l with
 |nil=>exact .done (by show(14:Nat)≠0;decide)
 |cons x l=>
  show Fit (if x.k=k then _ else _);split
  ·exact h t l
  exact .done (by show(14:Nat)≠0;decide)
theorem zu(n:Nat)(g:Gl):(cj n g).Fit:=by
 have D:∀(p e:Nat),e≠0->Pl.Fit (.done (.bad p e)):=λp e h=>.done h;have O:∀t l,Pl.Fit (.done (.ok t l)):=λt l=>.done trivial;cases g with
 |dz lv dp l=>
  show Pl.Fit (if lv=5 then _ else _);split
  ·exact .call λr h=>.done h
  exact .call λr h=>.thn h λt l=>.call λr h=>.done h
 |more lv dp a l=>
  cases l with
  |nil=>exact D _ _ zD
  |cons x l=>
   show Pl.Fit (if x.k=bZ lv then(if bZ lv=8 then _ else _)else _);split
   ·split
    ·exact .call λr h=>.thn h λt l=>O _ _
    exact .call λr h=>.thn h λt l=>.call λr h=>.done h
   exact O _ _
 |tight dp l=>
  cases l with
  |nil=>exact D _ _ zD
  |cons x l=>
   unfold cj
   repeat' split
   all_goals first
    |exact O _ _
    |exact D _ _ zD
    |exact .call λr h=>.thn h λt l=>O _ _
    |exact .call λr h=>.bD h λt l=>O _ _
    |exact .call λr h=>.bD h λt l=>.call λr h=>.bD h λt l=>.call λr h=>.bD h λt l=>O _ _
    |exact .call λr h=>.done h
    |exact .call λr h=>.thn h λt l=>.call λr h=>.done h
theorem Ev.fit{n:Nat}{p:Pl}{r:Rs}(h:Ev n p r)(hp:p.Fit):r.fit:=by
 induction h with
 |done=>cases hp with|done h=>exact h
 |call _ _ i1 i2=>cases hp with|call h=>exact i2 (h _ (i1 (zu n _)))
def jU(l:List Tok):Prop:=∃i t,l=i++[t]/\(t.k=0\/t.k=16)/\∀u∈i,u.k≠0/\u.k≠16
theorem jU.tail{x:Tok}{l:List Tok}(h:jU (x::l))(h0:x.k≠0)(h1:x.k≠16):jU l:=by
 obtain⟨i,t,e,ht,hi⟩:=h;cases i with
 |nil=>
  simp only[xa2,xa0]at e;obtain⟨rfl,rfl⟩:=e;omega
 |cons y i=>
  simp only[xaF,xa0]at e;obtain⟨rfl,rfl⟩:=e;exact⟨i,t,rfl,ht,λu hu=>hi u (.tail _ hu)⟩
theorem jU.split{l:List Tok}(h:jU l):∃x l',l=x::l':=by
 obtain⟨i,t,rfl,_⟩:=h;cases i with
 |nil=>exact⟨_,_,rfl⟩
 |cons y i=>exact⟨_,_,rfl⟩
inductive Reads(n:Nat)(l:List UInt8):Rs->Prop
 |wH:65536<l.length->Reads n l (.bad 0 13)
 |mk {o:List Tok} {r:Rs}:l.length<=65536->cu 0 l o->Ev n (.call (.dz 0 0 o) λr=>r.bD 0 λt l'=>.done (.ok t l')) r->Reads n l r
theorem Reads.fit{n:Nat}{l:List UInt8}{p e:Nat}(h:Reads n l (.bad p e)):e≠0:=by
 cases h with
 |wH _=>decide
 |mk _ _ h=>exact h.fit (.call λr hr=>.bD hr λt l=>.done trivial)
theorem Reads.uniq{n:Nat}{l:List UInt8}{r r':Rs}(h:Reads n l r)(h':Reads n l r'):r=r':=by
 cases h with
 |wH h=>
  cases h' with
  |wH _=>rfl
  |mk h' _ _=>omega
 |mk h h1 h2=>
  cases h' with
  |wH h'=>omega
  |mk _ h3 h4=>
   have:=h1.uniq h3;subst this;exact h2.uniq h4
end Go.Proofs.Fm
namespace Go.Proofs.Fm
def Tr.kids:Tr->List Tr
 | .no a=>[a]
 | .bin _ a b=>[a,b]
 | .ite a b d=>[a,b,d]
 |_=>[]
def Tr.kd:Tr->Nat
 | .c k=>k
 | .v _=>3
 | .no _=>4
 | .bin k _ _=>k
 | .ite .. =>12
def Tr.vl:Tr->Nat
 | .v n=>n
 |_=>0
def zw(k:Nat):Nat:=if k=5 then 8 else if k=6 then 6 else if k=7 then 14 else if k=8 then 11 else 9
def Tr.fn:Tr->Nat->Bool
 | .c k=>λ_=>decide (k=2)
 | .v n=>λx=>x.testBit n
 | .no a=>λx=> !a.fn x
 | .bin k a b=>λx=>(zw k).testBit (2*(a.fn x).toNat+(b.fn x).toNat)
 | .ite a b d=>λx=>if a.fn x then b.fn x else d.fn x
def Tr.Fit(n:Nat):Tr->Prop
 | .c k=>k=1\/k=2
 | .v m=>m<n
 | .no a=>a.Fit n
 | .bin k a b=>(5<=k/\k<=9)/\a.Fit n/\b.Fit n
 | .ite a b d=>a.Fit n/\b.Fit n/\d.Fit n
def Tr.dI:Tr->Nat
 | .c _=>1
 | .v _=>1
 | .no a=>a.dI
 | .bin _ a b=>a.dI+b.dI
 | .ite a b d=>a.dI+b.dI+d.dI
theorem Tr.ep:∀t:Tr,1<=t.dI
 | .c _=>xak _
 | .v _=>xak _
 | .no a=>a.ep
 | .bin _ a b=>xbs a.ep (by show a.dI<=a.dI+b.dI;omega)
 | .ite a b d=>xbs a.ep (by show a.dI<=a.dI+b.dI+d.dI;omega)
def Tr.ei:Tr->(Nat->Bool)->Prop
 | .c k=>λg=>g=(Tr.c k).fn
 | .v n=>λg=>g=(Tr.v n).fn
 | .no a=>λg=>g=(Tr.no a).fn\/a.ei g
 | .bin k a b=>λg=>g=(Tr.bin k a b).fn\/a.ei g\/b.ei g
 | .ite a b d=>λg=>g=(Tr.ite a b d).fn\/a.ei g\/b.ei g\/d.ei g
theorem Tr.oc(t:Tr):t.ei t.fn:=by
 cases t<;>first|exact rfl|exact Or.inl rfl
theorem Tr.qn{t k:Tr}(h:k∈t.kids){g:Nat->Bool}(hg:k.ei g):t.ei g:=by
 cases t with
 |c=>cases h
 |v=>cases h
 |no a=>
  simp only[Tr.kids,xaf,xat,xaZ]at h;subst h;exact Or.inr hg
 |bin k a b=>
  simp only[Tr.kids,xaf,xat,xaZ]at h;rcases h with rfl|rfl
  ·exact Or.inr (Or.inl hg)
  exact Or.inr (Or.inr hg)
 |ite a b d=>
  simp only[Tr.kids,xaf,xat,xaZ]at h;rcases h with rfl|rfl|rfl
  ·exact Or.inr (Or.inl hg)
  ·exact Or.inr (Or.inr (Or.inl hg))
  exact Or.inr (Or.inr (Or.inr hg))
def Gl.pre(n:Nat):Gl->Prop
 | .more _ _ a _=>a.Fit n
 |_=>True
def Gl.cap:Gl->Nat
 | .dz _ _ l=>l.length+1
 | .more _ _ a l=>2*a.dI+l.length
 | .tight _ l=>l.length+1
def Rs.good(n c:Nat):Rs->Prop
 | .ok t l=>t.Fit n/\2*t.dI+l.length<=c
 | .bad _ _=>True
inductive Pl.Wt(n:Nat):Nat->Pl->Prop
 |done {c:Nat} {r:Rs}:r.good n c->Wt n c (.done r)
 |call {c:Nat} {g:Gl} {k:Rs->Pl}:g.pre n->(∀r,r.good n g.cap->Wt n c (k r))->Wt n c (.call g k)
theorem Pl.Wt.thn{n c c':Nat}{r:Rs}{f:Tr->List Tok->Pl}(hr:r.good n c')(h:∀t l,t.Fit n->2*t.dI+l.length<=c'->Wt n c (f t l)):Wt n c (r.thn f):=by
 cases r with
 |ok t l=>exact h t l hr.1 hr.2
 |bad p e=>exact .done trivial
theorem Pl.Wt.bD{n c c' k:Nat}{r:Rs}{f:Tr->List Tok->Pl}(hr:r.good n c')(h:∀t l,t.Fit n->2*t.dI+l.length+1<=c'->Wt n c (f t l)):Wt n c (r.bD k f):=by
 refine .thn hr λt l h1 h2=>?_;cases l with
 |nil=>exact .done trivial
 |cons x l=>
  show Wt n c (if x.k=k then _ else _);split
  ·exact h t l h1 h2
  exact .done trivial
theorem l9(lv:Nat):5<=bZ lv/\bZ lv<=9:=by
 match lv with
 |0=>decide
 |1=>decide
 |2=>decide
 |3=>decide
 |n+4=>exact⟨xak 5,by show 5<=9;decide⟩
theorem CD(n:Nat)(g:Gl)(hp:g.pre n):Pl.Wt n g.cap (cj n g):=by
 cases g with
 |dz lv dp l=>
  show Pl.Wt n _ (if lv=5 then _ else _);split
  ·exact .call trivial λr h=>.done h
  exact .call trivial λr h=>.thn h λt l1 h1 h2=>.call h1 λr h=>.done (by
   cases r with
   |ok t' l'=>exact⟨h.1,xbs h.2 h2⟩
   |bad=>trivial)
 |more lv dp a l=>
  cases l with
  |nil=>exact .done trivial
  |cons x l=>
   show Pl.Wt n _ (if x.k=bZ lv then(if bZ lv=8 then _ else _)else _);split
   ·split
    ·refine .call trivial λr h=>.thn h λt l1 h1 h2=>.done ⟨⟨by decide,hp,h1⟩,?_⟩;simp only[Tr.dI,Gl.cap,xai]at h2⊢;omega
    refine .call trivial λr h=>.thn h λt l1 h1 h2=>.call ⟨l9 lv,hp,h1⟩ λr h=>.done ?_;cases r with
    |ok t' l'=>
     refine⟨h.1,?_⟩;have:=h.2;simp only[Tr.dI,Gl.cap,xai]at h2 this⊢;omega
    |bad=>trivial
   ·exact .done ⟨hp,xak _⟩
 |tight dp l=>
  cases l with
  |nil=>exact .done trivial
  |cons x l=>
   have hc:Gl.cap (.tight dp (x::l))=l.length+2:=rfl;rw[hc];show Pl.Wt n _ (if x.k=1\/x.k=2 then _ else if x.k=3 then(if n<=x.v then _ else _)else if x.k=4 then(if 1000<=dp then _ else _)else if x.k=10 then(if 1000<=dp then _ else _)else if x.k=12 then(if 1000<=dp then _ else _)else _);split
   ·rename_i h;exact .done ⟨h,by simp only[Tr.dI];omega⟩
   split
   ·split
    ·exact .done trivial
    exact .done ⟨by show x.v<n;omega,by simp only[Tr.dI];omega⟩
   split
   ·split
    ·exact .done trivial
    exact .call trivial λr h=>.thn h λt l1 h1 h2=>.done ⟨h1,by simp only[Tr.dI,Gl.cap]at h2⊢;omega⟩
   split
   ·split
    ·exact .done trivial
    exact .call trivial λr h=>.bD h λt l1 h1 h2=>.done ⟨h1,by simp only[Gl.cap]at h2⊢;omega⟩
   split
   ·split
    ·exact .done trivial
    refine .call trivial λr h=>.bD h λt l1 h1 h2=>.call trivial λr h=>.bD h λt2 l2 h3 h4=>.call trivial λr h=>.bD h λt3 l3 h5 h6=>.done ⟨⟨h1,h3,h5⟩,?_⟩;simp only[Tr.dI,Gl.cap]at h2 h4 h6⊢;omega
   exact .done trivial
theorem Ev.wt{n c:Nat}{p:Pl}{r:Rs}(h:Ev n p r)(hp:p.Wt n c):r.good n c:=by
 induction h generalizing c with
 |done=>cases hp with|done h=>exact h
 |call _ _ i1 i2=>cases hp with|call h0 h=>exact i2 (h _ (i1 (CD n _ h0)))
theorem Reads.wt{n:Nat}{l:List UInt8}{t:Tr}{l':List Tok}(h:Reads n l (.ok t l'))(hlen:∀o,cu 0 l o->o.length<=l.length+1):t.Fit n/\t.dI<=32769:=by
 cases h with
 |mk hl ht h=>
  have h1:=hlen _ ht;have:=h.wt (c:=l.length+2) (.call trivial λr hr=>.bD hr λt l2 h2 h3=>.done ⟨h2,by simp only[Gl.cap]at h3;omega⟩);exact⟨this.1,by have:=this.2;omega⟩
end Go.Proofs.Fm
namespace Go.Proofs.Fm
theorem cu.step{p k v w:Nat}{b:UInt8}{r:List UInt8}{o:List Tok}(h:bM (b::r)=(k,v,w))(hb:b≠32)(hk:k≠16)(ht:cu (p+w) ((b::r).drop w) o):cu p (b::r) (⟨k,p,v⟩::o):=by
 have:=cu.tok (p:=p) (b:=b) (r:=r) (o:=o) hb (by rw[h];exact hk) (by rw[h];exact ht);rw[h]at this;exact this
theorem Ev.bD{n k:Nat}{t:Tr}{x:Tok}{l:List Tok}{f:Tr->List Tok->Pl}{r:Rs}(hk:x.k=k)(h:Ev n (f t l) r):Ev n ((Rs.ok t (x::l)).bD k f) r:=by
 show Ev n (if x.k=k then _ else _) r;rw[xae hk];exact h
end Go.Proofs.Fm
namespace Go.Proofs.Sw
structure Wd where
 t:List UInt8
 a:Nat
 e:Nat
def jV:Nat->Option (List UInt8)->List UInt8->List Wd
 |_,none,[]=>[]
 |i,some c,[]=>[⟨c,i-c.length,i⟩]
 |i,none,b::r=>if b=32 then jV (i+1) none r else jV (i+1) (some [b]) r
 |i,some c,b::r=>if b=32 then⟨c,i-c.length,i⟩::jV (i+1) none r else jV (i+1) (some (c++[b])) r
def sN:List UInt8->Nat
 | []=>0
 |b::r=>if b=32 then sN r+1 else 0
def Gx:Nat->List UInt8->Option Nat
 |n,[]=>some n
 |n,b::r=>if 48<=b.toNat/\b.toNat<=57 then Gx (10*n+(b.toNat-48)) r else none
def EO(s:List UInt8):Option Nat:=if s.length<1\/18<s.length then none else Gx 0 s
def low(b:UInt8):Bool:=decide (97<=b.toNat) &&decide (b.toNat<=122)
def IU(s:List UInt8):Bool:=s.all low&&decide (1<=s.length) &&decide (s.length<=16)
def kG:List (List UInt8×List UInt8):=[([110,101,119],[110,110]),([97,110,100],[100,115,115]),([111,114],[100,115,115]),([120,111,114],[100,115,115]),([110,111,116],[100,115]),
 ([100,114,111,112],[115]),([115,104,111,119],[115]),([101,118,97,108],[115,110]),([115,97,116,115],[115]),([108,101,97,115,116],[115]),
 ([115,97,109,101],[115,115]),([108,105,118,101],[]),([111,114,100,101,114],[43]),([115,119,97,112],[110]),
 ([115,105,102,116],[110]),([115,101,116,116,108,101],[110]),([119,105,110,100,111,119],[110]),([101,120,97,99,116],[]),([110,97,109,101,115],[])]
def idx(s:List UInt8):Nat->List (List UInt8×List UInt8)->Option Nat
 |_,[]=>none
 |i,a::r=>if a.1=s then some i else idx s (i+1) r
def cmd(s:List UInt8):Option Nat:=idx s 0 kG
def nY(s:List UInt8):Bool:=IU s&& (cmd s).isNone
def vU(c:UInt8)(t:List UInt8):Option Nat:=if c=110 then EO t else if nY t then some 0 else none
def ot(m:Nat):List UInt8->List Wd->Option Nat
 | [],[]=>none
 |_::_,[]=>some m
 | [],w::_=>some w.a
 |c::r,w::l=>if(vU c w.t).isNone then some w.a else ot m r l
def rdv:List UInt8->List Wd->List (Wd×Nat)
 |c::r,w::l=>(w,(vU c w.t).getD 0)::rdv r l
 |_,_=>[]
def nL(b:List UInt8->Bool):List UInt8->List Wd->Option Nat
 |c::r,w::l=>if c=115/\b w.t=false then some w.a else nL b r l
 |_,_=>none
def wq(s:List UInt8)(l:List Wd):List UInt8:=if s=[43]then List.replicate l.length 110 else s
theorem g7:∀(l:List UInt8) (i:Nat) (c:Option (List UInt8)),(jV i c l).length<=l.length+1/\∀w∈jV i c l,w.t.length<=(c.getD []).length+l.length/\w.e<=i+l.length
 | [],i,none=>⟨xaE _,λw hw=>by cases hw⟩
 | [],i,some c=>⟨xak _,λw hw=>by
  have hw:w∈[⟨c,i-c.length,i⟩]:=hw;rw[xaH.1 hw];exact⟨xak _,xak _⟩⟩
 |b::r,i,none=>by
  have h1:=g7 r (i+1) none;have h2:=g7 r (i+1) (some [b]);unfold jV;split
  ·refine⟨by rw[xai];omega,λw hw=>?_⟩;have:=h1.2 w hw;rw[xai];exact⟨by omega,by omega⟩
  refine⟨by rw[xai];omega,λw hw=>?_⟩;have:=h2.2 w hw;simp only[xcp,xco,xai,xa5]at this⊢;exact⟨by omega,by omega⟩
 |b::r,i,some c=>by
  have h1:=g7 r (i+1) none;have h2:=g7 r (i+1) (some (c++[b]));unfold jV;split
  ·refine⟨by simp only[xai];omega,λw hw=>?_⟩;rcases xaf.1 hw with rfl|hw
   ·simp only[xcp,xai];exact⟨by omega,by omega⟩
   have:=h1.2 w hw;simp only[xcp,xco,xai,xa5]at this⊢;exact⟨by omega,by omega⟩
  refine⟨by simp only[xai];omega,λw hw=>?_⟩;have:=h2.2 w hw;simp only[xcp,xai,xaq,xa5]at this⊢;exact⟨by omega,by omega⟩
theorem BI:∀l:List UInt8,sN l<=l.length
 | []=>xak _
 |b::r=>by
  have:=BI r;unfold sN;rw[xai];split<;>omega
end Go.Proofs.Sw
set_option maxRecDepth 100000
namespace Go.Proofs
open Go Go.Sx Tryz
section
open Fm Sw
def Sw.Wd.cells(w:Wd):List zV:=[ah w.t,nI w.a,nI w.e]
theorem Sw.Wd.one(w:Wd):∀u∈w.cells,u.oneCell'=true:=λu hu=>by
 simp only[Wd.cells,xaf,xat,xaZ]at hu;rcases hu with rfl|rfl|rfl<;>rfl
def rD(i:Nat):Option (List UInt8)->Int
 |none=> -1
 |some c=>((i-c.length:Nat):Int)
theorem y3(b:UInt8)(k:Nat)(hk:k<256):b.toNat=k↔b=UInt8.ofNat k:=by
 constructor
 ·intro h;apply xdE.1;rw[h,xdq,xbb (by simpa using hk)]
 rintro rfl;rw[xdq,xbb (by simpa using hk)]
theorem gV{l:List UInt8}{i:Nat}(h:i<l.length):∃b,l[i]? =some b/\l.drop i=b::l.drop (i+1):=⟨l[i],xad h,xaW h⟩
set_option maxHeartbeats 1000000 in
theorem ob(l:List UInt8)(hl:l.length<=400)(B:Hp):Fc zQ 17 #[ah l] B (λv H=>∃N,H=N++B/\ay 58 3 v ((jV 0 none l).map Wd.cells) N):=by
 refine aW λg=>yI ?_;refine⟨λvs H=>∃(i:Nat) (cur:Option (List UInt8)) (acc:List Wd) (C:Hp) (v:zV),vs=[v,iv (rD i cur),nI i]/\i<=l.length+1/\acc.length<=i/\(∀c,cur=some c->1<=c.length/\c.length<=i/\c=(l.take i).drop (i-c.length))/\(i<=l.length->jV 0 none l=acc++jV i cur (l.drop i))/\(i=l.length+1->jV 0 none l=acc)/\ay 58 3 v (acc.map Wd.cells) C/\H=C++B,λvs _=>l.length+1-dR vs 2,
  JE.mk ⟨0,none,[],[],_,rfl,xaE _,xaE _,nofun,λ_=>rfl,λh=>absurd h zO,ay.nil _ _,rfl⟩,?_⟩
 rintro w5 w6 w7 H ⟨i,cur,acc,C,v,⟨⟩,hi,ha,hc,hw,qW,hs,rfl⟩ gs;refine aA.of (ae.ET (Br.dec (λhle=>?_) (λhgt=>?_)));rotate_left
 ·have e:i=l.length+1:=by omega
  exact aZ.mk (.refl _) ⟨C,rfl,by rw[qW e];exact hs⟩
 have hw:=hw hle;have mU:((acc.map Wd.cells).length+1)*32<=140737488355328:=by rw[xav];omega
 have hz:∃z:List zV,(Value.agg #[ah [],nI 0,nI 0]).cells=z.toArray/\z.length=3:=⟨[_,_,_],rfl,rfl⟩;intro O7 h10
 /- a word ends -/
 have close:∀c,cur=some c->(jV i cur (l.drop i)=⟨c,i-c.length,i⟩::jV (i+1) none (l.drop (i+1)))->
   br zQ g (e6 Tryz.f17 8 4) (ev (λs=>cond (Nat.beq s 30) (ah l) (cond (Nat.beq s 31) (iv (rD i cur)) (cond (Nat.beq s 32) (nI i) (undef))))) (C++B) λNa=>
   Build zQ 58 [(0,Na),(1,iv (rD i cur)),(2,nI i)] λM9=>
   ak zQ 50 1 [(0,M9)] (C++B) λGJ Pa=>
   App zQ 58 3 32 (.agg #[(.string (ByteArray.mk #[])),(iv 0),(iv 0)]) Pa w5 GJ λM6 O9=>
   JE O7 [M6,(iv (-1))] O9:=λc e hn=>by
  subst e;obtain⟨h1,h2,h3⟩:=hc c rfl;refine br.iR (l:=l) (i:=i-c.length) (j:=i) rfl zK rfl (.inr ⟨_,.i64,rfl,rfl⟩) (.inr ⟨_,.i64,rfl,rfl⟩) (xc9 _ _) hle ?_;rw[<-h3];refine Build.mk (cs:=(⟨c,i-c.length,i⟩:Wd).cells) zK (ak.one (e:=58) (z:=.agg #[ah [],nI 0,nI 0]) (k:=3) zK zK zK zD rfl λbs=>?_);refine hs.n8 (.cons .left) (.head _) rfl (Wd.one _) hz mU (by rw[xav];omega) λv' C' ho=>?_;refine JE.mk (h10 _ _ _ λ_=>ae.inc (aR.of .tail ⟨i+1,none,acc++[⟨c,i-c.length,i⟩],C',v',rfl,by omega,by simp;omega,nofun,λh=>?_,λh=>?_,by rw[xaz];exact ho,rfl⟩ (by simp only[dR];omega)))
  ·rw[hw,hn,xau];rfl
  rw[hw,hn,xaO zO];rfl
 refine aA.of (ae.bN ?_);by_cases he:i=l.length
 ·subst he;refine bL.or true (λh=>absurd h zI) rfl λ_=>?_;rw[xaL rfl,xbF]at*;cases cur with
  |none=>
   refine bL.and false (λ_=>ae.geq ⟨rfl,rfl⟩) rfl λ_=>Br.no ?_;refine Un.not (bL.and false (λh=>absurd h zD) rfl λ_=>Br.no ?_);refine JE.mk (h10 _ _ _ λ_=>ae.inc (aR.of (.refl _) ⟨l.length+1,none,acc,C,w5,rfl,xak _,by omega,nofun,λh=>absurd h zO,λ_=>?_,hs,rfl⟩ (by simp only[dR];omega)));rw[hw];exact xaR _
  |some c=>
   refine bL.and true (λ_=>ae.geq ⟨rfl,by rw[xaL (show(0:Int)<=rD l.length (some c)from xbp _)]⟩) rfl λ_=>Br.yes ?_;exact close c rfl (by rw[xaO (Nat.le_succ _)];rfl)
 obtain⟨b,hb,hd⟩:=gV (l:=l) (i:=i) zO;rw[xay he];refine bL.or (decide (b.toNat=32)) (λ_=>aV.of hb (ae.bN (b:=32) ⟨rfl,rfl⟩)) rfl λ_=>?_;rw[xdr];have Ik:b.toNat=32↔b=32:=y3 b 32 zD;rw[hd]at hw;by_cases vz:b=32
 ·rw[xaL (Ik.2 vz)];subst vz;cases cur with
  |none=>
   refine bL.and false (λ_=>ae.geq ⟨rfl,rfl⟩) rfl λ_=>Br.no ?_;refine Un.not (bL.and false (λh=>absurd h zD) rfl λ_=>Br.no ?_);refine JE.mk (h10 _ _ _ λ_=>ae.inc (aR.of (.refl _) ⟨i+1,none,acc,C,w5,rfl,by omega,by omega,nofun,λh=>?_,λh=>absurd h zO,hs,rfl⟩ (by simp only[dR];omega)));rw[hw];rfl
  |some c=>
   refine bL.and true (λ_=>ae.geq ⟨rfl,by rw[xaL (show(0:Int)<=rD i (some c)from xbp _)]⟩) rfl λ_=>Br.yes ?_;exact close c rfl (by rw[hd];rfl)
 rw[xay λh=>vz (Ik.1 h)];refine bL.and false (λh=>absurd h zD) rfl λ_=>Br.no ?_;have qX:l.take (i+1)=l.take i++[b]:=by rw[xbX,hb];rfl
 cases cur with
 |none=>
  refine Un.not (bL.and true (λ_=>ae.lss ⟨rfl,rfl⟩) rfl λ_=>Br.yes ?_);refine JE.mk (h10 _ _ _ λ_=>ae.inc (aR.of (.refl _) ⟨i+1,some [b],acc,C,w5,?_,by omega,by omega,λc hc=>?_,λh=>?_,λh=>absurd h zO,hs,rfl⟩ (by simp only[dR];omega)))
  ·simp[rD]
  ·cases hc;refine⟨xak _,by simp,?_⟩;rw[qX,xbk,xcF,xcS,xaO zP,xdx,xcw zO,xcj];rfl
  rw[hw];show _=acc++jV (i+1) (some [b]) (l.drop (i+1));congr 1
  conv=>lhs;unfold jV
  rw[xab vz]
 |some c=>
  obtain⟨h1,h2,h3⟩:=hc c rfl;refine Un.not (bL.and false (λ_=>ae.lss ⟨rfl,by rw[xay (show¬rD i (some c)<0 from Int.not_lt.2 (xbp _))]⟩) rfl λ_=>Br.no ?_);refine JE.mk (h10 _ _ _ λ_=>ae.inc (aR.of (.refl _) ⟨i+1,some (c++[b]),acc,C,w5,?_,by omega,by omega,λc' Oe=>?_,λh=>?_,λh=>absurd h zO,hs,rfl⟩ (by simp only[dR];omega)))
  ·simp only[rD,xaq,xbk,Nat.add_sub_add_right]
  ·cases Oe;refine⟨by simp,by simp;omega,?_⟩;rw[qX,xaq,xbk,Nat.add_sub_add_right,xdd zP,<-h3]
  rw[hw];congr 1
  conv=>lhs;unfold jV
  rw[xab vz]
theorem zb(l:List UInt8)(hl:l.length<=400)(w:Wd)(hw:w.e<=l.length)(B:Hp):Rd zQ 22 #[ah l,.agg w.cells.toArray] B (· =nI (w.e+sN (l.drop w.e))):=by
 refine aW λg=>yD λb1 _=>Ld.f (v:=nI w.e) ?_;refine⟨λvs H=>∃i,vs=[nI i]/\i<=l.length/\w.e+sN (l.drop w.e)=i+sN (l.drop i)/\H=(b1,.cells (Value.cells (.agg w.cells.toArray)) 58 zZ)::B,λvs _=>l.length-dR vs 0,JE.mk ⟨w.e,rfl,hw,rfl,rfl⟩,?_⟩;rintro w9 H ⟨i,⟨⟩,hi,he,rfl⟩ gs;refine aA.of (ae.fN ?_);by_cases h:i<l.length
 ·obtain⟨b,hb,hd⟩:=gV h;rw[xaL h];refine bL.and (decide (b.toNat=32)) (λ_=>aV.of hb (ae.bN (b:=32) ⟨rfl,rfl⟩)) rfl λ_=>?_;rw[xcr];have Ik:b.toNat=32↔b=32:=y3 b 32 zD;rw[hd]at he;refine Br.dec (λvz=>?_) (λvz=>?_)
  ·refine ae.inc (aR.of (.refl _) ⟨i+1,rfl,h,?_,rfl⟩ (by simp only[dR];omega));rw[he];show i+(if b=32 then sN (l.drop (i+1))+1 else 0)=_;rw[xae (Ik.1 vz)];omega
  refine bS.mk .tail ?_;rw[he];unfold sN;rw[xab λh=>vz (Ik.2 h)];rfl
 rw[xay h];refine bL.and false (λh=>absurd h zD) rfl λ_=>Br.no (bS.mk .tail ?_);rw[he,xaO zO];rfl
def Nj:Option Nat->zV
 |some n=>.tuple #[nI n,.bool true]
 |none=>.tuple #[nI 0,.bool false]
theorem r7(l:List UInt8)(hl:l.length<=400)(B:Hp):Rd zQ 32 #[ah l] B (· =Nj (EO l)):=by
 refine aW λg=>yw (aA.of (ae.fN (b:=1) (bL.or (decide (18<l.length)) (λ_=>aA.of (ae.mY (b:=18) ⟨rfl,rfl⟩)) rfl λ_=>?_)));rw[<-xaV];unfold EO;refine Br.dec (λh=>?_) (λh=>?_)
 ·exact bS.mk (.refl _) (by rw[xae h];rfl)
 rw[xab h];have Mu:l.length<=18:=by omega
 refine aA.of ?_;refine⟨λvs H=>∃i n,vs=[nI n,nI i]/\i<=l.length/\n<10^i/\Gx 0 l=Gx n (l.drop i)/\H=B,λvs _=>l.length-dR vs 1,JE.mk ⟨0,0,rfl,xaE _,by decide,rfl,rfl⟩,?_⟩;rintro GI IP H ⟨i,n,⟨⟩,hi,hn,he,rfl⟩ gs;refine ae.fN (Br.dec (λhlt=>?_) (λhge=>?_))
 ·obtain⟨b,hb,hd⟩:=gV hlt;rw[hd]at he;refine aV.of hb (ae.fN (b:=48) (bL.or (decide (57<b.toNat)) (λ_=>aV.of hb (ae.mY (b:=57) ⟨rfl,rfl⟩)) rfl λ_=>?_));rw[<-xaV];have hp:10^(i+1)<=10^18:=xaI zD zO;have hq:10^(i+1)=10^i*10:=xcl ..;have NF:(10:Nat)^18=1000000000000000000:=by decide
  have PV:=b.toNat_lt;refine Br.dec (λsE=>?_) (λhok=>?_)
  ·refine bS.mk (.refl _) ?_;rw[he];unfold Gx;rw[xab zO];rfl
  refine ae.pA (a:=10) (by simp only[cv];omega) (aV.of hb (ae.ju (b:=48) (by simp only[cv];omega) zO (bj.q (ae.iA (by simp only[cv];omega) ?_))));refine ae.inc (aR.of (.refl _) ⟨i+1,10*n+(b.toNat-48),rfl,hlt,by omega,?_,rfl⟩ (by simp only[dR];omega));rw[he]
  conv=>lhs;unfold Gx
  rw[xae zO]
 refine bS.mk (.refl _) ?_;rw[he,xaO zO];rfl
theorem qt(l:List UInt8)(hl:l.length<=400)(B:Hp):Rd zQ 33 #[ah l] B (· =.bool (IU l)):=by
 refine aW λg=>yu (aA.of ?_);refine⟨λvs H=>∃i,vs=[nI i]/\i<=l.length/\l.all low=(l.drop i).all low/\H=B,λvs _=>l.length-dR vs 0,JE.mk ⟨0,rfl,xaE _,rfl,rfl⟩,?_⟩;rintro w6 H ⟨i,⟨⟩,hi,he,rfl⟩ gs;refine ae.fN (Br.dec (λhlt=>?_) (λhge=>?_))
 ·obtain⟨b,hb,hd⟩:=gV hlt;rw[hd,List.all_cons]at he;refine aV.of hb (ae.fN (b:=97) (bL.or (decide (122<b.toNat)) (λ_=>aV.of hb (ae.mY (b:=122) ⟨rfl,rfl⟩)) rfl λ_=>?_));rw[<-xaV];refine Br.dec (λsE=>?_) (λhok=>?_)
  ·refine bS.mk (.refl _) ?_;have:low b=false:=by
    unfold low;rw[xcm,xaU,xaU];omega
   unfold IU;rw[he,this];rfl
  refine ae.inc (aR.of (.refl _) ⟨i+1,rfl,hlt,?_,rfl⟩ (by simp only[dR];omega));have:low b=true:=by
   unfold low;rw[xam,xaD,xaD];omega
  rw[he,this];rfl
 rw[xaO zO]at he;refine aA.of (ae.n5 (b:=1) (bL.and (decide (l.length<=16)) (λ_=>aA.of (ae.ET (b:=16) ⟨rfl,rfl⟩)) rfl λ_=>bS.mk (.refl _) ?_));unfold IU;rw[he];rfl
end
section
open Fm Sw
noncomputable def Cb:zL:=[50,51,52,53,54,55,56,57,58,59,
 60,61,62,63,64,65,66,67,68]
noncomputable def jm(sp:Nat)(i:Nat):List zV:=[ah (kG.getD i ([],[])).1,ah (kG.getD i ([],[])).2,.func (.func (Cb.getD i 0)) #[ptr sp] #[]]
noncomputable def rI(sp:Nat):List (List zV):=(List.range 19).map (jm sp)
theorem pX(sp i:Nat):∀u∈jm sp i,u.oneCell'=true:=λu hu=>by
 simp only[jm,xaf,xat,xaZ]at hu;rcases hu with rfl|rfl|rfl<;>rfl
theorem pz:∀u∈[ah [],ah [],Value.nilFunc],u.oneCell'=true:=λu hu=>by
 simp only[xaf,xat,xaZ]at hu;rcases hu with rfl|rfl|rfl<;>rfl
theorem rG(sp:Nat):(rI sp).length=19:=by unfold rI;rw[xav,xbN]
theorem rH(sp:Nat){i:Nat}(hi:i<19):(rI sp)[i]? =some (jm sp i):=by
 unfold rI;rw[xaB,List.getElem?_range hi];rfl
theorem rE(sp:Nat)(B:Hp):Fc zQ 28 #[ptr sp] B (λv H=>∃N,H=N++B/\ay 54 3 v (rI sp) N):=by
 refine aW λg=>yz ?_;refine Build.mk (cs:=jm sp 0) zK (Build.mk (cs:=jm sp 1) zK (Build.mk (cs:=jm sp 2) zK (Build.mk (cs:=jm sp 3) zK (Build.mk (cs:=jm sp 4) zK ?_))));refine Build.mk (cs:=jm sp 5) zK (Build.mk (cs:=jm sp 6) zK (Build.mk (cs:=jm sp 7) zK (Build.mk (cs:=jm sp 8) zK (Build.mk (cs:=jm sp 9) zK ?_))));refine Build.mk (cs:=jm sp 10) zK (Build.mk (cs:=jm sp 11) zK (Build.mk (cs:=jm sp 12) zK (Build.mk (cs:=jm sp 13) zK (Build.mk (cs:=jm sp 14) zK ?_))));refine Build.mk (cs:=jm sp 15) zK (Build.mk (cs:=jm sp 16) zK (Build.mk (cs:=jm sp 17) zK (Build.mk (cs:=jm sp 18) zK ?_)));refine ak.many (e:=54) (k:=3) (z:=.agg #[ah [],ah [],.nilFunc]) (rI sp) zK zK zK (by rw[rG];decide) (λr hr=>?_) rfl zK λbw=>?_
 ·obtain⟨i,_,rfl⟩:=xan.1 hr;rfl
 exact aZ.mk (.refl _) ⟨[_],rfl,ay.made (T:=54) (k:=3) (b:=bw) (rI sp) (λr hr=>by obtain⟨i,_,rfl⟩:=xan.1 hr;rfl)⟩
theorem wv(b:Nat)(t nm:List UInt8)(x y:zV)(B:Hp)(hb:(b,Obj.cells #[ah nm] 9 zZ)∈B):Rd zQ 30 #[.agg #[ah t,x,y],ptr b] B (· =.bool (decide (t=nm))):=by
 refine aW λg=>yx λb1 _=>Ld.f (v:=ah t) ?_;exact Ld.mk (.tail _ hb) rfl (ae.kR (bS.mk .tail rfl))
def Nn:Option Nat->zV
 |some i=>nI i
 |none=>iv (-1)
theorem Al(nm:List UInt8){i:Nat}(hi:i<19):idx nm i (kG.drop i)=if(kG.getD i ([],[])).1=nm then some i else idx nm (i+1) (kG.drop (i+1)):=by
 have hc:i<kG.length:=hi;rw[xaW hc];have:kG.getD i ([],[])=kG[i]:=by rw[xaA,xad hc];rfl
 rw[this];rfl
theorem Ak{sp b:Nat}{nm:List UInt8}{v:zV}{N B:Hp}(hs:ay 54 3 v (rI sp) N)(hN:∀y∈N,y∈B)(hb:(b,Obj.cells #[ah nm] 9 zZ)∈B):
  Rd zQ 29 #[v,.func (.func 30) #[] #[ptr b]] B (· =Nn (cmd nm)):=by
 refine aW λg=>yy (hs.c6 ?_);rw[rG];refine⟨λvs H=>∃i,vs=[nI i]/\i<=19/\cmd nm=idx nm i (kG.drop i)/\H=B,λvs _=>19-dR vs 0,JE.mk ⟨0,rfl,xaE _,rfl,rfl⟩,?_⟩;rintro w6 H ⟨i,⟨⟩,hi,he,rfl⟩ gs;refine ae.fN (b:=19) (Br.dec (λhlt=>?_) (λhge=>?_))
 ·refine hs.u7 (rH sp hlt) hN (bp.of rfl zK (aa.eq (wv b _ nm _ _ H hb) (Br.dec (λh=>?_) (λh=>?_))))
  ·refine bS.mk (.refl _) ?_;rw[he,Al nm hlt,xae h];rfl
  refine ae.inc (aR.of (.refl _) ⟨i+1,rfl,hlt,?_,rfl⟩ (by simp only[dR];omega));rw[he,Al nm hlt,xab h]
 refine bS.mk (.refl _) ?_;have:i=19:=by omega
 subst this;rw[he];rfl
noncomputable def Mw(sp:Nat):Option Nat->zV
 |some i=>.tuple #[.agg (jm sp i).toArray,.bool true]
 |none=>.tuple #[.agg #[ah [],ah [],.nilFunc],.bool false]
theorem sA(nm:List UInt8):∀(l:List (List UInt8×List UInt8)) (i j:Nat),idx nm i l=some j->i<=j/\j<i+l.length
 | [],i,j,h=>by cases h
 |a::l,i,j,h=>by
  unfold idx at h;split at h
  ·cases h;simp
  have:=sA nm l (i+1) j h;rw[xai];omega
theorem BB{nm:List UInt8}{j:Nat}(h:cmd nm=some j):j<19:=by
 have:=sA nm kG 0 j h;have e:kG.length=19:=rfl;omega
theorem mA(sp:Nat)(nm:List UInt8)(B:Hp):Rd zQ 18 #[ptr sp,ah nm] B (· =Mw sp (cmd nm)):=by
 refine aW λg=>yH λb1 _ b3 _=>aa.fq (rE sp _) ?_;rintro v H ⟨N,rfl,hs⟩;refine aa.eq (Ak hs (λy hy=>xac _ hy) (xaa _ (.tail _ (.head _)))) ?_;cases hc:cmd nm with
 |none=>
  refine ae.lss (Br.yes (Build.mk (cs:=[ah [],ah [],.nilFunc]) zK (St.whole (r:=[ah [],ah [],.nilFunc]) ((cm.head _).ax N) rfl rfl pz (az.whole (r:=[ah [],ah [],.nilFunc]) (xaa _ (.head _)) rfl ?_))));exact bS.mk (.cq (.skip .tail)) rfl
 |some i=>
  have hi:=BB hc;refine ae.lss (Br.F ?_ (by show¬((i:Nat):Int)<0;omega));refine hs.u7 (rH sp hi) (λy hy=>xac _ hy) (St.whole (r:=jm sp i) ((cm.head _).ax N) rfl rfl (pX sp i) (az.whole (r:=jm sp i) (xaa _ (.head _)) rfl ?_));exact bS.mk (.cq (.skip .tail)) rfl
theorem FE(sp:Nat)(o:Option Nat):∃r:List zV,r.length=3/\(∀u∈r,u.oneCell'=true)/\Mw sp o=.tuple #[.agg r.toArray,.bool o.isSome]:=by
 cases o with
 |none=>exact⟨[ah [],ah [],.nilFunc],rfl,pz,rfl⟩
 |some i=>exact⟨jm sp i,rfl,pX sp i,rfl⟩
theorem qq(sp:Nat)(t:List UInt8)(ht:t.length<=400)(B:Hp):Rd zQ 20 #[ptr sp,ah t] B (· =.bool (nY t)):=by
 refine aW λg=>yF (aa.eq (mA sp t B) ?_);obtain⟨r,hr,h1,e⟩:=FE sp (cmd t);rw[e];refine Ext.mk rfl (Ext.mk rfl λb5 _=>St.whole (r:=r) (.head _) rfl hr h1 (aa.eq (qt t ht _) (bL.and (!(cmd t).isSome) (λ_=>Un.not ⟨rfl,rfl⟩) rfl λ_=>?_)));refine bS.mk .tail ?_;unfold nY;cases cmd t<;>rfl
end
section
open Fm
def Fm.Tok.cells(t:Tok):List zV:=[nI t.k,nI t.p,nI t.v]
theorem Fm.Tok.one(t:Tok):∀u∈t.cells,u.oneCell'=true:=λu hu=>by
 simp only[Tok.cells,xaf,xat,xaZ]at hu;rcases hu with rfl|rfl|rfl<;>rfl
def DZ(s:List UInt8×Nat):List zV:=[ah s.1,nI s.2]
theorem zh(B:Hp):Fc zQ 79 #[] B (λv H=>∃N,H=N++B/\ay 146 2 v (cG.map DZ) N):=by
 refine aW λg=>xZ ?_;refine Build.mk (cs:=[ah [60,45,62],nI 9]) zK (Build.mk (cs:=[ah [45,62],nI 8]) zK (Build.mk (cs:=[ah [48],nI 1]) zK (Build.mk (cs:=[ah [49],nI 2]) zK ?_)));refine Build.mk (cs:=[ah [33],nI 4]) zK (Build.mk (cs:=[ah [38],nI 5]) zK (Build.mk (cs:=[ah [94],nI 6]) zK (Build.mk (cs:=[ah [124],nI 7]) zK ?_)));refine Build.mk (cs:=[ah [40],nI 10]) zK (Build.mk (cs:=[ah [41],nI 11]) zK (Build.mk (cs:=[ah [91],nI 12]) zK (Build.mk (cs:=[ah [63],nI 13]) zK ?_)));refine Build.mk (cs:=[ah [58],nI 14]) zK (Build.mk (cs:=[ah [93],nI 15]) zK ?_);refine ak.many (e:=146) (k:=2) (z:=.agg #[ah [],nI 0]) (cG.map DZ) zK zK zK zD zD rfl rfl λbw=>?_;exact aZ.mk (.refl _) ⟨[_],rfl,ay.made (T:=146) (k:=2) (b:=bw) (cG.map DZ) zD⟩
def lj(l:List UInt8)(j:Nat):Option (Nat×Nat×Nat):=
 match fQ l with
 |some (n,w)=>some (3,n,w)
 |none=>(nQ l (cG.take j)).map λq=>(q.1,0,q.2)
def Ba(p:Nat):Option (Nat×Nat×Nat)->Tok
 |some q=>⟨q.1,p,q.2.1⟩
 |none=>⟨16,p,0⟩
def l6:Option (Nat×Nat×Nat)->Nat
 |some q=>q.2.2
 |none=>0
theorem vB(l:List UInt8)(p:Nat):Ba p (lj l 14)=⟨(bM l).1,p,(bM l).2.1⟩/\l6 (lj l 14)=(bM l).2.2:=by
 unfold lj bM;cases fQ l with
 |some q=>exact⟨rfl,rfl⟩
 |none=>
  simp only[show cG.take 14=cG from rfl];cases nQ l cG with
  |some q=>exact⟨rfl,rfl⟩
  |none=>exact⟨rfl,rfl⟩
theorem mz(l:List UInt8)(s:List UInt8×Nat):∀L:List (List UInt8×Nat),nQ l (L++[s])=match nQ l L with|some q=>some q|none=>if s.1.isPrefixOf l=true then some (s.2,s.1.length)else none
 | []=>by simp only[xa2,nQ]
 |a::L=>by
  rw[xaF];unfold nQ;split
  ·rfl
  exact mz l s L
theorem A9{l:List UInt8}{j:Nat}(h:l6 (lj l j)=0):lj l j=none:=by
 unfold lj at h⊢;cases hx:fQ l with
 |some q=>
  obtain⟨n,w⟩:=q;rw[hx]at h;exfalso;cases l with
  |nil=>simp[fQ]at hx
  |cons b r=>
   by_cases hb:b=120/\0<(num 0 0 r).2
   ·rw[show fQ (b::r)=some ((num 0 0 r).1,(num 0 0 r).2+1)from xae hb]at hx;cases hx;simp[l6]at h
   rw[show fQ (b::r)=none from xab hb]at hx;cases hx
 |none=>
  rw[hx]at h;simp only at h⊢;cases hs:nQ l (cG.take j)with
  |none=>rfl
  |some q=>
   rw[hs]at h;have:=(r8 (cG.take j) (λs hs=>(show∀s∈cG,s.1≠[]/\∀b∈s.1,b.toNat<128 by decide) s (xc5 hs)) q hs).1;simp only[xba,l6]at h;omega
theorem A8{l:List UInt8}{j:Nat}(hj:j<14){s:List UInt8×Nat}(hs:cG[j]? =some s):lj l (j+1)=if l6 (lj l j)=0/\s.1.isPrefixOf l=true then some (s.2,0,s.1.length)else lj l j:=by
 by_cases h0:l6 (lj l j)=0
 ·have hn:=A9 h0;unfold lj at hn⊢;cases hx:fQ l with
  |some q=>rw[hx]at hn;cases hn
  |none=>
   rw[hx]at hn;simp only at hn⊢;rw[xbX,hs];simp only[Option.toList_some];rw[mz];have hn':nQ l (cG.take j)=none:=by simpa using hn
   rw[hn'];simp only[xbl,l6,xdi];split<;>rfl
 rw[xab λh=>h0 h.1];unfold lj at h0⊢;cases hx:fQ l with
 |some q=>rfl
 |none=>
  rw[hx]at h0;simp only at h0⊢;cases hq:nQ l (cG.take j)with
  |none=>rw[hq]at h0;simp[l6]at h0
  |some q=>
   rw[xbX,hs];simp only[Option.toList_some];rw[mz,hq]
def E3:Hp->Nat
 | []=>0
 |x::r=>match x.2 with
  | .stringIter _ p=>p
  |_=>E3 r
theorem pG{T:TypeId}{k:Nat}{v:zV}{rs:List (List zV)}{C B:Hp}{b p:Nat}{s:ByteArray}(h:ay T k v rs C):E3 (C++((b,.stringIter s p)::B))=p:=by
 rcases h with⟨_,_,rfl⟩|⟨c,j,_,rfl,_⟩<;>rfl
theorem Fm.cu.at{l:List UInt8}{p:Nat}(hp:p<l.length):∃c,l[p]? =some c/\l.drop p=c::l.drop (p+1):=⟨l[p],xad hp,xaW hp⟩
theorem Cu{l:List UInt8}(h:(bM l).1=16):(bM l).2.1=0:=by
 unfold bM at h⊢;cases hx:fQ l with
 |some q=>rw[hx]at h;cases h
 |none=>
  simp only;cases nQ l cG with
  |some q=>rfl
  |none=>rfl
set_option maxHeartbeats 2000000 in
theorem AY(l:List UInt8)(hl:l.length<=65536)(B:Hp):Fc zQ 37 #[ah l] B (λv H=>∃(o:List Tok) (N:Hp),H=N++B/\cu 0 l o/\o.length<=l.length+1/\ay 141 3 v (o.map Tok.cells) N):=by
 refine aW λg=>yp ?_;refine dX.zn rfl zK rfl λb=>?_;refine⟨λvs H=>∃(p q:Nat) (acc:List Tok) (C:Hp) (v:zV),vs=[v,nI q]/\p<=l.length/\q<=l.length/\acc.length<=max p q/\(∀o,cu (max p q) (l.drop (max p q)) o->cu 0 l (acc++o))/\(∀j,p<=j->j<q->∃c,l[j]? =some c/\c.toNat<128)/\ay 141 3 v (acc.map Tok.cells) C/\H=C++((b,.stringIter ⟨l.toArray⟩ p)::B),λvs H=>l.length-E3 H,JE.mk ⟨0,0,[],[],_,rfl,xaE _,xaE _,xaE _,λo h=>h,λj h1 h2=>absurd h2 zO,ay.nil _ _,rfl⟩,?_⟩;rintro w7 w8 H ⟨p,q,acc,C,v,⟨⟩,hp,hq,ha,hT,hb,hs,rfl⟩ gs;have hz:∃z:List zV,(Value.agg #[iv 0,iv 0,iv 0]).cells=z.toArray/\z.length=3:=⟨[_,_,_],rfl,rfl⟩;refine dX.D4 (C:=B) (c:=λX=>C++(X++B)) rfl rfl (.app (.left (C:=[_]))) (λhlt=>?_) (λhge=>?_);rotate_left
 ·have vg:p=l.length:=by omega
  subst vg;refine Ext.mk rfl (Br.no (aA.of (Build.mk (cs:=(⟨0,l.length,0⟩:Tok).cells) zK (ak.one (e:=141) (z:=.agg #[iv 0,iv 0,iv 0]) (k:=3) zK zK zK zD rfl λbs=>?_))));refine hs.n8 (.cons .left) (.head _) rfl (Tok.one _) hz (by simp only[xav];omega) (by simp only[xav];omega) λv' C' ho=>?_;refine aZ.mk (dY:=C'++B) (.skip (.cA .tail _)) ⟨acc++[⟨0,l.length,0⟩],C',rfl,hT _ ?_,?_,by rw[xaz];exact ho⟩
  ·rw[show max l.length q=l.length by omega,xbF];exact .fin
  simp only[xaq,xbk];omega
 obtain⟨c,hc,hd⟩:=cu.at hlt;obtain⟨D1,D2,hD⟩:∃D1 D2,Utf8.decode ⟨l.toArray⟩ p=(D1,D2):=⟨_,_,rfl⟩;have hlo:c.toNat<128->D1=c.toNat/\D2=1:=λh=>by
  have:=oW hc h;rw[hD]at this;cases this;exact⟨rfl,rfl⟩
 have hhi:128<=c.toNat->128<=D1/\D1<2147483648:=λh=>by
  have:=oX hc h;rw[hD]at this;exact⟨this.1,this.2.1⟩
 rw[hD];refine Ext.mk rfl (Br.yes (Ext.mk rfl (Ext.mk rfl ?_)));refine ae.fN (bL.or (decide (D1=32)) (λ_=>ae.bN (b:=32) ⟨rfl,rfl⟩) rfl λ_=>?_);rw[<-xaV];refine Br.dec (λhy=>?_) (λhn=>?_)
 ·have Dn:c.toNat<128:=by
   rcases hy with h|h
   ·obtain⟨c',e,h'⟩:=hb p (xak _) h;rw[hc]at e;cases e;exact h'
   rcases xcB c.toNat 128 with h'|h'
   ·exact h'
   have:=hhi h';omega
  obtain⟨e1,rfl⟩:=hlo Dn;refine aR.of (.refl _) ⟨p+1,q,acc,C,w7,rfl,hlt,hq,by omega,λo ho=>hT o ?_,λj h1 h2=>hb j zO h2,hs,rfl⟩ ?_
  ·by_cases hpq:p<q
   ·rw[show max p q=max (p+1) q by omega];exact ho
   rw[show max p q=p by omega,hd];rw[show max (p+1) q=p+1 by omega]at ho;have:c=32:=xdE.1 (by show c.toNat=32;omega);rw[this];exact .blank ho
  show l.length-E3 (C++((b,.stringIter ⟨l.toArray⟩ (p+1))::B))<l.length-E3 (C++((b,.stringIter ⟨l.toArray⟩ p)::B));rw[pG hs,pG hs];omega
 have hpq:¬p<q:=λh=>hn (.inl h);have K7:D1≠32:=λh=>hn (.inr h);rw[show max p q=p by omega]at hT ha;have Dp:c≠32:=λh=>by
  subst h;exact K7 (hlo zD).1
 obtain⟨l',hl'⟩:∃l',l.drop p=l':=⟨_,rfl⟩;rw[hl']at hT hd;have rZ:l'.length=l.length-p:=by rw[<-hl',xbu]
 refine Build.mk (cs:=(⟨16,p,0⟩:Tok).cells) zK λtb _=>St.whole (r:=(⟨16,p,0⟩:Tok).cells) (.head _) rfl rfl (Tok.one _) λMH OC=>?_;have main:MH [nI (l6 (lj l' 0))] ((tb,.cells (Ba p (lj l' 0)).cells.toArray 141 zZ)::(C++([(b,.stringIter ⟨l.toArray⟩ (p+D2))]++B))):=by
  refine OC _ _ λ_=>?_;refine aa.fq (zh _) ?_;rintro sv _ ⟨N,rfl,yK⟩;refine yK.c6 ?_;refine⟨λvs H=>∃j,j<=14/\vs=[nI (l6 (lj l' j)),nI j]/\H=N++((tb,.cells (Ba p (lj l' j)).cells.toArray 141 zZ)::(C++([(b,.stringIter ⟨l.toArray⟩ (p+D2))]++B))),λvs _=>14-dR vs 1,JE.mk ⟨0,by decide,rfl,rfl⟩,?_⟩;rintro Pm MO H ⟨j,hj,⟨⟩,rfl⟩ gs;have OM:((cG.map DZ).length:Int)=14:=rfl;rw[OM];refine ae.fN (b:=14) (Br.dec (λIg=>λLD Lh=>?_) (λIg=>?_))
  ·obtain⟨s,hsj⟩:∃s,cG[j]? =some s:=⟨_,xad Ig⟩;have next:LD [nI (l6 (lj l' (j+1)))] (N++((tb,.cells (Ba p (lj l' (j+1))).cells.toArray 141 zZ)::(C++([(b,.stringIter ⟨l.toArray⟩ (p+D2))]++B)))):=by
    refine Lh _ _ λ_=>ae.inc (aR.of (.refl _) ⟨j+1,Ig,rfl,rfl⟩ ?_);simp only[dR];omega
   have iH:=A8 (l:=l') Ig hsj;refine yK.u7 (r:=DZ s) (by rw[xaB,hsj];rfl) (λy hy=>xac _ hy) ?_;refine λsb _=>St.whole (r:=DZ s) (.head _) rfl rfl (by intro v hv;simp only[DZ,xaf,xat,xaZ]at hv;rcases hv with rfl|rfl<;>rfl) λO4 h46=>?_;have L1:∀t:Bool,t=(decide (l6 (lj l' j)=0) &&s.1.isPrefixOf l')->JE O4 [.bool t] ((sb,.cells (DZ s).toArray 146 zZ)::(N++((tb,.cells (Ba p (lj l' j)).cells.toArray 141 zZ)::(C++([(b,.stringIter ⟨l.toArray⟩ (p+D2))]++B))))):=λt ht=>by
    refine JE.mk (h46 _ _ λ_=>?_);cases t with
    |true=>
     have hh:=ht.symm;rw[xam,xaD]at hh;rw[xae hh]at iH;refine Br.yes (DR.of (.ki (.head _)) (Ld.u (.head _) (Build.mk (cs:=(⟨s.2,p,0⟩:Tok).cells) zK (Ld.u (.head _) (aA.of (St.whole (r:=(⟨s.2,p,0⟩:Tok).cells) (.tail (.ax (.head _) N)) rfl rfl (Tok.one _) ⟨?_,JE.of .tail ?_⟩))))))
     ·exact .ki (.head _)
     rw[iH]at next;exact next
    |false=>
     have hh:=ht.symm;have:lj l' (j+1)=lj l' j:=by
      rw[iH];refine xab λh=>?_;rw[xaL h.1,h.2]at hh;cases hh
     rw[this]at next
     exact Br.no (JE.of .tail next)
   refine DR.self (ae.bN (b:=0) (Br.dec (λh0=>?_) (λh0=>?_)))
   ·refine br.iR (l:=l) (i:=p) (j:=l.length) rfl zK rfl (.inr ⟨_,.i64,rfl,rfl⟩) (.inl ⟨rfl,rfl⟩) hp (xak _) ?_;rw[xb3,hl'];refine Ld.u (.head _) λ_=>aa.eq (EL _ _ _) (bX.mk ?_);refine(show(cond (s.1.isPrefixOf l') (Value.bool true) (.bool false))=.bool (s.1.isPrefixOf l')by cases s.1.isPrefixOf l'<;>rfl)▸L1 _ ?_;rw[xaL h0];rfl
   exact L1 false (by rw[xay h0];rfl)
  have Ks:j=14:=by omega
  subst Ks;rw[(vB l' p).1,(vB l' p).2];refine az.whole (r:=(⟨(bM l').1,p,(bM l').2.1⟩:Tok).cells) (xaa _ (.head _)) rfl ?_;refine ak.one (e:=141) (z:=.agg #[iv 0,iv 0,iv 0]) (k:=3) zK zK zK zD rfl λbs=>?_;refine hs.n8 (.cons (.app (.cons .left))) (.head _) rfl (Tok.one _) hz (by simp only[xav];omega) (by simp only[xav];omega) λv' C' ho=>?_;refine Ld.u (.tail _ (xaa _ (.head _))) (ae.bN (b:=16) (Br.dec (λxf=>?_) (λxf=>?_)))
  ·have xf:(bM l').1=16:=xf;refine aZ.mk (dY:=C'++B) (.skip (.cq (.skip (.cA .tail _)))) ⟨acc++[⟨(bM l').1,p,(bM l').2.1⟩],C',rfl,hT _ ?_,?_,by rw[xaz];exact ho⟩
   ·have Ie:=Cu xf;rw[hd]at xf Ie⊢;rw[xf,Ie];exact .wrong Dp xf
   simp only[xaq,xbk];omega
  have xf:(bM l').1≠16:=xf;have Kq:=jr xf;have Dn:c.toNat<128:=by
   rcases xcB c.toNat 128 with h'|h'
   ·exact h'
   exact absurd (by rw[hd];exact Cr h') xf
  refine ae.xI (aR.of (.skip (.cq (.skip (.refl _)))) ⟨p+D2,p+(bM l').2.2,acc++[⟨(bM l').1,p,(bM l').2.1⟩],C',v',rfl,?_,?_,?_,?_,?_,by rw[xaz];exact ho,rfl⟩ ?_)
  ·rw[(hlo Dn).2];exact hlt
  ·omega
  ·simp only[xaq,xbk];omega
  ·intro o ho;rw[xau];refine hT _ ?_;rw[(hlo Dn).2]at ho;rw[show max (p+1) (p+(bM l').2.2)=p+(bM l').2.2 by omega,<-List.drop_drop,hl']at ho;rw[hd]at xf ho⊢;exact .tok Dp xf ho
  ·intro j h1 h2;obtain⟨c',e,h'⟩:=Kq.2.2 (j-p) zO;rw[<-hl',List.getElem?_drop,show p+(j-p)=j by omega]at e;exact⟨c',e,h'⟩
  show l.length-E3 (C'++((b,.stringIter ⟨l.toArray⟩ (p+D2))::B))<l.length-E3 (C++((b,.stringIter ⟨l.toArray⟩ p)::B));rw[pG hs,pG ho,(hlo Dn).2];omega
 have none_:fQ l'=none->JE MH [nI 0] ((tb,.cells (⟨16,p,0⟩:Tok).cells.toArray 141 zZ)::(C++([(b,.stringIter ⟨l.toArray⟩ (p+D2))]++B))):=λhx=>by
  have:lj l' 0=none:=by unfold lj;rw[hx];rfl
  rw[this]at main;exact JE.mk main
 refine ae.bN (b:=120) (Br.dec (λhx=>?_) (λhx=>?_))
 ·have Dn:c.toNat<128:=by
   rcases xcB c.toNat 128 with h'|h'
   ·exact h'
   have:=hhi h';omega
  have Mf:c=120:=xdE.1 (by show c.toNat=120;have:=(hlo Dn).1;omega);refine ae.inc (br.iR (l:=l) (i:=p+1) (j:=l.length) rfl zK rfl (.inr ⟨_,.i64,rfl,rfl⟩) (.inl ⟨rfl,rfl⟩) hlt (xak _) ?_);rw[xb3];refine aa.eq (Dx (l.drop (p+1)) (by rw[xbu];omega) _) (Ext.mk rfl (Ext.mk rfl (ae.mY (b:=0) (Br.dec (λh0=>?_) (λh0=>?_)))))
  ·have hf:lj l' 0=some (3,(num 0 0 (l.drop (p+1))).1,1+(num 0 0 (l.drop (p+1))).2):=by
    unfold lj;rw[hd,Mf,show fQ ((120:UInt8)::l.drop (p+1))=some ((num 0 0 (l.drop (p+1))).1,(num 0 0 (l.drop (p+1))).2+1)from xae ⟨rfl,h0⟩,xcE 1]
   have hnm:=(mG (l.drop (p+1)) 0 0).2.1;rw[xbu]at hnm;rw[hf]at main;exact Build.mk (cs:=(⟨3,p,(num 0 0 (l.drop (p+1))).1⟩:Tok).cells) zK (ae.iA (a:=1) (by simp only[cv];omega) (St.whole (r:=(⟨3,p,(num 0 0 (l.drop (p+1))).1⟩:Tok).cells) (.head _) rfl rfl (Tok.one _) (JE.mk main)))
  refine none_ ?_;rw[hd,Mf];exact xab λh=>h0 h.2
 refine none_ ?_;rw[hd];refine xab λh=>hx ?_;rw[(hlo (by rw[h.1];decide)).1,h.1];rfl
abbrev qx(rb:Nat)(v:zV)(n:Nat):Nat×Obj:=(rb,.cells #[v,nI n] 94 zZ)
abbrev bC(b:Nat):zV:=.pointer (some ⟨b,0,none⟩)
def Gw(p e:Nat):List PanicEntry:=[{v:=.iface 88 (.agg #[nI p,nI e]),recovered:=false}]
inductive lB(H:Hp):Tr->zV->Prop
 |c {k b:Nat}:(b,.cells #[nI k,nI 0,.slice none 0 0] 101 zZ)∈H->lB H (.c k) (bC b)
 |v {n b:Nat}:(b,.cells #[nI 3,nI n,.slice none 0 0] 101 zZ)∈H->lB H (.v n) (bC b)
 |no {a:Tr} {b d x:Nat}:(b,.cells #[nI 4,nI 0,.slice (some ⟨d,0,none⟩) 1 1] 101 zZ)∈H->(d,.cells #[bC x] 64 zZ)∈H->lB H a (bC x)->lB H (.no a) (bC b)
 |bin {k:Nat} {a a':Tr} {b d x y:Nat}:(b,.cells #[nI k,nI 0,.slice (some ⟨d,0,none⟩) 2 2] 101 zZ)∈H->(d,.cells #[bC x,bC y] 64 zZ)∈H->lB H a (bC x)->lB H a' (bC y)->lB H (.bin k a a') (bC b)
 |ite {a a' a2:Tr} {b d x y z:Nat}:(b,.cells #[nI 12,nI 0,.slice (some ⟨d,0,none⟩) 3 3] 101 zZ)∈H->(d,.cells #[bC x,bC y,bC z] 64 zZ)∈H->lB H a (bC x)->lB H a' (bC y)->lB H a2 (bC z)->lB H (.ite a a' a2) (bC b)
theorem lB.ptr{H:Hp}{t:Tr}{p:zV}(h:lB H t p):∃b,p=bC b:=by cases h<;>exact⟨_,rfl⟩
theorem lB.mono{H H':Hp}{t:Tr}{p:zV}(h:lB H t p)(hs:∀x∈H,x∈H'):lB H' t p:=by
 induction h with
 |c h=>exact .c (hs _ h)
 |v h=>exact .v (hs _ h)
 |no h1 h2 _ i1=>exact .no (hs _ h1) (hs _ h2) i1
 |bin h1 h2 _ _ i1 i2=>exact .bin (hs _ h1) (hs _ h2) i1 i2
 |ite h1 h2 _ _ _ i1 i2 i3=>exact .ite (hs _ h1) (hs _ h2) i1 i2 i3
section
variable {rb n:Nat} {B:Hp} {v:zV} {x:Tok} {l:List Tok}
theorem A7(h:Sl 3 B v ((x::l).map Tok.cells)):Rd zQ 82 #[bC rb] (qx rb v n::B) (· =.agg x.cells.toArray):=by
 refine aW λg=>xW λb1 _=>Nil.ptr (Ld.u (.tail _ (.head _)) ?_);refine ai.sl (i:=0) h rfl λp hp=>?_;refine az.at hp rfl zD (λy hy=>.tail _ (.tail _ hy)) (St.whole (.head _) rfl rfl (Tok.one _) (az.whole (.head _) rfl (bS.mk .tail rfl)))
theorem m6(h:Sl 3 B v ((x::l).map Tok.cells)):Fc zQ 83 #[bC rb] (qx rb v n::B) (λr H=>r=.agg x.cells.toArray/\∃v',H=qx rb v' n::B/\Sl 3 B v' (l.map Tok.cells)):=by
 refine aW λg=>xV λb1 _=>Nil.ptr (Ld.u (.tail _ (.head _)) ?_);refine ai.sl (i:=0) h rfl λp hp=>?_;refine az.at hp rfl zD (λy hy=>.tail _ (.tail _ hy)) λb8 _=>St.whole (.head _) rfl rfl (Tok.one _) (Nil.ptr (Ld.u (.tail _ (.tail _ (.head _))) ?_));refine cF.tail h λv' h'=>Nil.ptr (.mk (St.one (c':=#[v',nI n]) (.tail (.tail (.head _))) (by obtain⟨a,c,rfl,_⟩:=h'.shape;rfl) zI rfl ?_));exact az.whole (.head _) rfl (St.whole (.tail (.head _)) rfl rfl (Tok.one _) (az.whole (.tail _ (.head _)) rfl (aZ.mk (.skip .tail) ⟨rfl,v',rfl,h'⟩)))
theorem jJ(x:Tok)(e:Nat)(B:Hp):FX zQ 84 #[.agg x.cells.toArray,nI e] B (λ_ _=>False) (λc H=>H=B/\c=Gw x.p e):=by
 refine Ij λg=>xU λb1 _=>Ld.u (.head _) (Build.mk (cs:=[nI x.p,nI e]) zK ?_);exact dX.panic rfl rfl (l8.sj .tail ⟨rfl,rfl⟩)
theorem Be(x:Tok)(dp:Nat)(hd:dp<=1000)(B:Hp):FX zQ 130 #[.agg x.cells.toArray,nI dp] B (λr H=>¬1000<=dp/\H=B/\r=nI (dp+1)) (λc H=>1000<=dp/\H=B/\c=Gw x.p 7):=by
 refine Ij λg=>ur λb1 _ J3 h3=>ae.n5 (b:=1000) (Br.dec (λh=>?_) (λh=>?_))
 ·refine az.whole (.head _) rfl (aa.fp .here (jJ x 7 _) (λv C' h=>h.elim) λch C' h'=>?_);obtain⟨rfl,rfl⟩:=h';exact l8.sj .tail ⟨h,rfl,rfl⟩
 exact JE.mk (h3 _ λ_=>ae.inc (l8.ret .tail ⟨h,rfl,rfl⟩))
theorem rh(k:Nat)(h:Sl 3 B v ((x::l).map Tok.cells)):FX zQ 39 #[bC rb,nI k] (qx rb v n::B) (λr H=>x.k=k/\∃v',H=qx rb v' n::B/\Sl 3 B v' (l.map Tok.cells)) (λc H=>x.k≠k/\H=B/\c=Gw x.p 14):=by
 refine Ij λg=>yn (aa.fn .here (m6 h) ?_);rintro _ _ ⟨rfl,v',rfl,h'⟩;refine λb3 _=>St.whole (.head _) rfl rfl (Tok.one _) (Ld.u (.head _) (ae.nM (Br.dec (λhk=>?_) (λhk=>?_))))
 ·refine az.whole (.head _) rfl (aa.fp .here (jJ x 14 _) (λv C' h=>h.elim) λch C' hc=>?_);obtain⟨rfl,rfl⟩:=hc;exact l8.sj (.skip .tail) ⟨hk,rfl,rfl⟩
 exact l8.ret .tail ⟨xdt.1 hk,v',rfl,h'⟩
theorem AZ(lv:Nat)(hl:lv<5)(B:Hp):Rd zQ 81 #[nI lv] B (· =nI (bZ lv)):=by
 refine aW λg=>xX ?_;refine ak.jg (e:=97) (z:=nI 0) [nI 9,nI 8,nI 7,nI 6,nI 5] zK zK zK zD zD rfl rfl λb=>?_;refine ai.nat hl (Ld.mk (v:=nI (bZ lv)) (.head _) ?_ (bS.mk .tail rfl))
 match lv,hl with
 |0,_=>rfl
 |1,_=>rfl
 |2,_=>rfl
 |3,_=>rfl
 |4,_=>rfl
end
def PQ(n rb:Nat)(B:Hp)(l:List Tok)(g:Gl)(p:zV)(H:Hp):Prop:=∃t l' v' N,Ev n (cj n g) (.ok t l')/\jU l'/\l'.length<=l.length/\Sl 3 B v' (l'.map Tok.cells)/\H=N++(qx rb v' n::B)/\lB N t p
def PB(n:Nat)(B:Hp)(g:Gl)(c:List PanicEntry)(H:Hp):Prop:=∃p e,Ev n (cj n g) (.bad p e)/\H=B/\c=Gw p e
def TX(m:Nat):Prop:=∀(n lv dp rb:Nat) (l:List Tok) (v:zV) (B:Hp),l.length*8+(6-lv)<=m->lv<=5->dp<=1000->jU l->Sl 3 B v (l.map Tok.cells)->
 FX zQ 38 #[bC rb,nI lv,nI dp] (qx rb v n::B) (PQ n rb B l (.dz lv dp l)) (PB n B (.dz lv dp l))
def TG(m:Nat):Prop:=∀(n dp rb:Nat) (l:List Tok) (v:zV) (B:Hp),l.length*8<=m->dp<=1000->jU l->Sl 3 B v (l.map Tok.cells)->
 FX zQ 80 #[bC rb,nI dp] (qx rb v n::B) (PQ n rb B l (.tight dp l)) (PB n B (.tight dp l))
def GR:Hp->Nat
 |(_,.cells c _ _)::_=>(match(c[0]? :Option zV)with
  |some (Value.slice _ k _)=>k
  |_=>0)
 |_=>0
theorem uQ{rb n:Nat}{v:zV}{l:List Tok}{B X:Hp}(h:Sl 3 B v (l.map Tok.cells)):GR (qx rb v n::X)=l.length:=by
 obtain⟨a,c,rfl,_⟩:=h.shape;show(l.map Tok.cells).length=_;simp
theorem uO(lv:Nat):bZ lv≠0/\bZ lv≠16:=by
 match lv with
 |0=>decide
 |1=>decide
 |2=>decide
 |3=>decide
 |n+4=>exact⟨by show(5:Nat)≠0;decide,by show(5:Nat)≠16;decide⟩
theorem Fm.Ev.more{n lv dp:Nat}{l:List Tok}{a:Tr}{l1:List Tok}(hl:lv≠5)(h:Ev n (cj n (.dz (lv+1) dp l)) (.ok a l1)){r:Rs}(h2:Ev n (cj n (.more lv dp a l1)) r):Ev n (cj n (.dz lv dp l)) r:=by
 show Ev n (if lv=5 then _ else _) r;rw[xab hl];exact .call h (.call h2 .done)
theorem qG(N B:Hp)(x:Nat×Obj):aM (x::(N++B)) (N++(x::B)):=.perm (xbo.symm)
theorem ov(N B:Hp)(x:Nat×Obj):aM (N++(x::B)) (x::(N++B)):=.perm xbo
set_option maxHeartbeats 1000000 in
theorem wm(m:Nat)(hx:TX m)(hg:TG m):TX (m+1):=by
 intro n lv dp rb l v B hm hlv Gk hf hs;refine Ij λg=>yo ?_;refine ae.bN (b:=5) (Br.dec (λh5=>?_) (λh5=>?_))
 ·subst h5;refine aa.fp .here (hg n dp rb l v B zO Gk hf hs) ?_ ?_
  ·rintro p _ ⟨t,l',v',N,h1,h2,h3,h4,rfl,h5⟩;exact l8.ret (.refl _) ⟨t,l',v',N,.call h1 .done,h2,h3,h4,rfl,h5⟩
  rintro c _ ⟨p,e,h1,rfl,rfl⟩;exact l8.sj (.refl _) ⟨p,e,.call h1 .done,rfl,rfl⟩
 have NL:lv<5:=by omega
 refine aa.eq (AZ lv NL _) (ae.inc ?_);refine aa.fp .here (hx n (lv+1) dp rb l v B zO zO Gk hf hs) ?_ ?_;rotate_left
 ·rintro c _ ⟨p,e,h1,rfl,rfl⟩;refine l8.sj (.refl _) ⟨p,e,?_,rfl,rfl⟩;show Ev n (if lv=5 then _ else _) _;rw[xab h5];exact .call h1 .done
 rintro p _ ⟨t,l',v',N,h1,h2,h3,h4,rfl,h6⟩;refine⟨λvs H=>∃a l1 v1 N p,vs=[p]/\H=qx rb v1 n::(N++B)/\lB N a p/\jU l1/\l1.length<=l.length/\Sl 3 B v1 (l1.map Tok.cells)/\(∀r,Ev n (cj n (.more lv dp a l1)) r->Ev n (cj n (.dz lv dp l)) r),
  λ_ H=>GR H,JE.of (ov N B _) ⟨t,l',v',N,p,rfl,rfl,h6,h2,h3,h4,λr hr=>Ev.more h5 h1 hr⟩,?_⟩
 clear h1 h2 h3 h4 h6;rintro IP H ⟨a,l1,v1,N,_,⟨⟩,rfl,ha,Fo,Ef,hs1,q4⟩ gs;obtain⟨x,l2,rfl⟩:=Fo.split;refine aa.eq (A7 (n:=n) (rb:=rb) (hs1.mono (B':=N++B) λy hy=>xaa _ hy)) (qf.mk rfl (ae.bN (Br.dec (λhk=>?_) (λhk=>?_))));rotate_left
 ·refine l8.ret (qG N B _) ⟨a,x::l2,v1,N,q4 _ ?_,Fo,Ef,hs1,rfl,ha⟩;show Ev n (if x.k=bZ lv then _ else _) _;rw[xab hk];exact .done
 have vq:jU l2:=Fo.tail (by rw[hk];exact(uO lv).1) (by rw[hk];exact(uO lv).2);have vi:l2.length+1<=l.length:=Ef;refine aa.pre (qG N B _) (aa.fn (.app .here) (m6 hs1) ?_);rintro _ _ ⟨rfl,v2,rfl,kA⟩;refine ae.bN (b:=8) (Br.dec (λh8=>?_) (λh8=>?_))
 ·refine aa.fp (.app .here) (hx n lv dp rb l2 v2 B zO hlv Gk vq kA) ?_ ?_;rotate_left
  ·rintro c _ ⟨p,e,h1,rfl,rfl⟩;refine l8.sj .right ⟨p,e,q4 _ ?_,rfl,rfl⟩;show Ev n (if x.k=bZ lv then _ else _) _;rw[xae hk,xae h8];exact .call h1 .done
  rintro p _ ⟨b,l3,v3,N2,h1,h2,h3,h4,rfl,h6⟩;obtain⟨pa,rfl⟩:=ha.ptr;obtain⟨pb,rfl⟩:=h6.ptr;refine ak.jg (e:=64) (z:=.pointer none) [bC pa,bC pb] zK zK zK (show(2:Nat)<=16777216 by decide) (by simp[Value.oneCell']) rfl rfl λbd=>?_;refine Build.mk (cs:=[nI 8,nI 0,.slice (some ⟨bd,0,none⟩) 2 2]) zK λbt _=>?_;refine l8.ret (.refl _) ⟨.bin 8 a b,l3,v3,(bt,_)::(bd,_)::(N++N2),q4 _ ?_,h2,by omega,h4,by simp;rfl,.bin (.head _) (.tail _ (.head _)) (ha.mono λy hy=>?_) (h6.mono λy hy=>?_)⟩
  ·show Ev n (if x.k=bZ lv then _ else _) _;rw[xae hk,xae h8];exact .call h1 .done
  ·exact .tail _ (.tail _ (xac _ hy))
  exact .tail _ (.tail _ (xaa _ hy))
 refine ae.inc (aa.fp (.app .here) (hx n (lv+1) dp rb l2 v2 B zO zO Gk vq kA) ?_ ?_);rotate_left
 ·rintro c _ ⟨p,e,h1,rfl,rfl⟩;refine l8.sj .right ⟨p,e,q4 _ ?_,rfl,rfl⟩;show Ev n (if x.k=bZ lv then _ else _) _;rw[xae hk,xab h8];exact .call h1 .done
 rintro p _ ⟨b,l3,v3,N2,h1,h2,h3,h4,rfl,h6⟩;obtain⟨pa,rfl⟩:=ha.ptr;obtain⟨pb,rfl⟩:=h6.ptr;refine ak.jg (e:=64) (z:=.pointer none) [bC pa,bC pb] zK zK zK (show(2:Nat)<=16777216 by decide) (by simp[Value.oneCell']) rfl rfl λbd=>?_;refine Build.mk (cs:=[nI (bZ lv),nI 0,.slice (some ⟨bd,0,none⟩) 2 2]) zK λbt _=>?_;refine aR.of (H':=qx rb v3 n::(((bt,.cells #[nI (bZ lv),nI 0,.slice (some ⟨bd,0,none⟩) 2 2] 101 zZ)::(bd,.cells #[bC pa,bC pb] 64 zZ)::(N++N2))++B)) (.trans ?_ (ov _ B _)) ⟨.bin (bZ lv) a b,l3,v3,_,_,rfl,rfl,.bin (.head _) (.tail _ (.head _)) (ha.mono λy hy=>?_) (h6.mono λy hy=>?_),h2,by omega,h4,λr hr=>q4 _ ?_⟩ ?_
 ·simp only[xaF,xau];exact .refl _
 ·exact .tail _ (.tail _ (xac _ hy))
 ·exact .tail _ (.tail _ (xaa _ hy))
 ·show Ev n (if x.k=bZ lv then _ else _) _;rw[xae hk,xab h8];exact .call h1 (.call hr .done)
 rw[uQ h4,uQ hs1];simp only[xai];omega
set_option maxHeartbeats 1600000 in
theorem r6(m:Nat)(hx:TX m)(hg:TG m):TG (m+1):=by
 intro n dp rb l v B hm Gk hf hs;obtain⟨x,l,rfl⟩:=hf.split;have hlen:(x::l).length=l.length+1:=rfl;refine Ij λg=>xY (aa.fn .here (m6 hs) ?_);rintro _ _ ⟨rfl,v1,rfl,hs1⟩;refine λb3 _=>St.whole (r:=x.cells) (.head _) rfl rfl (Tok.one _) (Ld.u (.head _) λJ8 h8=>?_);have ret:∀(t:Tr) (l':List Tok) (v':zV) (N:Hp) (p:zV) (H:Hp),Ev n (cj n (.tight dp (x::l))) (.ok t l')->jU l'->l'.length<=l.length->Sl 3 B v' (l'.map Tok.cells)->aM H (N++(qx rb v' n::B))->lB N t p->l8 (PQ n rb B (x::l) (.tight dp (x::l))) (PB n B (.tight dp (x::l))) (.returned p) H:=
  λt l' v' N p H h1 h2 h3 h4 h5 h6=>l8.ret h5 ⟨t,l',v',N,h1,h2,Nat.le_succ_of_le h3,h4,rfl,h6⟩
 have sj:∀(c:List PanicEntry) (p e:Nat) (H:Hp),Ev n (cj n (.tight dp (x::l))) (.bad p e)->aM H B->c=Gw p e->dj (l8 (PQ n rb B (x::l) (.tight dp (x::l))) (PB n B (.tight dp (x::l)))) c H:=
  λc p e H h1 h2 h3=>l8.sj h2 ⟨p,e,h1,rfl,h3⟩
 have main:∀t,t=decide (x.k=1\/x.k=2)->JE J8 [.bool t] ((b3,.cells x.cells.toArray 141 zZ)::(qx rb v1 n::B)):=by
  rintro _ rfl;refine JE.mk (h8 _ _ λ_=>Br.dec (λhk=>?_) (λhk=>?_))
  ·refine Ld.u (.head _) (Build.mk (cs:=[nI x.k,nI 0,.slice none 0 0]) zK λbt _=>?_);refine ret (.c x.k) l v1 [_] _ _ ?_ (hf.tail zO zO) (xak _) hs1 (.trans aM.swap .tail) (.c (.head _));show Ev n (if x.k=1\/x.k=2 then _ else _) _;rw[xae hk];exact .done
  have pl:∀q,(if x.k=3 then(if n<=x.v then Pl.done (.bad x.p 2)else .done (.ok (.v x.v) l))
   else if x.k=4 then(if 1000<=dp then .done (.bad x.p 7)else .call (.tight (dp+1) l) λr=>r.thn λa l2=>.done (.ok (.no a) l2))
   else if x.k=10 then(if 1000<=dp then .done (.bad x.p 7)else .call (.dz 0 (dp+1) l) λr=>r.bD 11 λa l2=>.done (.ok a l2))
   else if x.k=12 then(if 1000<=dp then .done (.bad x.p 7)else .call (.dz 0 (dp+1) l) λr=>r.bD 13 λa l2=>.call (.dz 0 (dp+1) l2) λr=>r.bD 14 λb l3=>.call (.dz 0 (dp+1) l3) λr=>r.bD 15 λc l4=>.done (.ok (.ite a b c) l4))
   else .done (.bad x.p 14))=q->cj n (.tight dp (x::l))=q:=λq hq=>by
   rw[<-hq];show(if x.k=1\/x.k=2 then _ else _)=_;rw[xab hk]
  clear h8;refine ae.bN (b:=3) (Br.dec (λh3=>?_) (λh3=>?_))
  ·rw[xae h3]at pl;refine λQb Mu=>Ld.u (.head _) (Nil.ptr (Ld.u (.tail _ (.head _)) (ae.n5 (Br.dec (λhv=>?_) (λhv=>?_)))))
   ·refine az.whole (.head _) rfl (aa.fp .here (jJ x 2 _) (λv C' h=>h.elim) λch C' h'=>?_);obtain⟨rfl,rfl⟩:=h';refine sj _ x.p 2 _ ?_ (.skip .tail) rfl;rw[pl _ rfl,xae hv];exact .done
   refine JE.mk (Mu _ λ_=>Ld.u (.head _) (Build.mk (cs:=[nI 3,nI x.v,.slice none 0 0]) zK λbt _=>?_));refine ret (.v x.v) l v1 [_] _ _ ?_ (hf.tail zO zO) (xak _) hs1 (.trans aM.swap .tail) (.v (.head _));rw[pl _ rfl,xab hv];exact .done
  rw[xab h3]at pl;have deep:∀{KK:zV->Hp->Prop},(x.k=4\/x.k=10\/x.k=12)->(¬1000<=dp->KK (nI (dp+1)) ((b3,.cells x.cells.toArray 141 zZ)::(qx rb v1 n::B)))->aa zQ g 130 #[.agg x.cells.toArray,nI dp] ((b3,.cells x.cells.toArray 141 zZ)::(qx rb v1 n::B)) KK (dj (l8 (PQ n rb B (x::l) (.tight dp (x::l))) (PB n B (.tight dp (x::l))))):=by
   intro KK NP hK;refine aa.fp .here (Be x dp Gk _) ?_ ?_
   ·rintro r _ ⟨h1,rfl,rfl⟩;exact hK h1
   rintro c _ ⟨h1,rfl,rfl⟩;refine sj _ x.p 7 _ ?_ (.skip .tail) rfl;rw[pl _ rfl];rcases NP with h|h|h<;>rw[h]<;>simp[h1]<;>exact .done
  have hft:x.k≠0->x.k≠16->jU l:=λh0 h1=>hf.tail h0 h1;refine ae.bN (b:=4) (Br.dec (λh4=>?_) (λh4=>?_))
  ·rw[xae h4]at pl;refine az.whole (.head _) rfl (deep (.inl h4) λhd=>?_);rw[xab hd]at pl;refine aa.fp (.cons .here) (hg n (dp+1) rb l v1 B zO zO (hft zO zO) hs1) ?_ ?_;rotate_left
   ·rintro c _ ⟨p,e,h1,rfl,rfl⟩;refine sj _ p e _ ?_ .tail rfl;rw[pl _ rfl];exact .call h1 .done
   rintro p _ ⟨a,l',v',N,h1,h2,h3,h5,rfl,h6⟩;obtain⟨pa,rfl⟩:=h6.ptr;refine ak.jg (e:=64) (z:=.pointer none) [bC pa] zK zK zK (show(1:Nat)<=16777216 by decide) (by simp[Value.oneCell']) rfl rfl λbd=>?_;refine Build.mk (cs:=[nI 4,nI 0,.slice (some ⟨bd,0,none⟩) 1 1]) zK λbt _=>?_;refine ret (.no a) l' v' ((bt,_)::(bd,_)::N) _ _ ?_ h2 h3 h5 (.cons (.cons .tail)) (.no (.head _) (.tail _ (.head _)) (h6.mono λy hy=>.tail _ (.tail _ hy)));rw[pl _ rfl];exact .call h1 .done
  rw[xab h4]at pl
  /- one part, and the sign behind it -/
  have part:∀(k:Nat) (l0:List Tok) (v0:zV) (N0:Hp) (f:Tr->List Tok->Pl) (KK:zV->Hp->Prop),k≠0->k≠16->¬1000<=dp->jU l0->l0.length<=l.length->Sl 3 B v0 (l0.map Tok.cells)->
   (∀(r:Rs),Ev n (.call (.dz 0 (dp+1) l0) λr=>r.bD k f) r->Ev n (cj n (.tight dp (x::l))) r)->
   (∀a l' v' N p,(∀r,Ev n (f a l') r->Ev n (.call (.dz 0 (dp+1) l0) λr=>r.bD k f) r)->jU l'->l'.length<=l0.length->Sl 3 B v' (l'.map Tok.cells)->lB N a p->KK p (N0++(N++(qx rb v' n::B))))->
   aa zQ g 38 #[bC rb,nI 0,nI (dp+1)] (N0++(qx rb v0 n::B)) (λp H=>aa zQ g 39 #[bC rb,nI k] H (λ_ H'=>KK p H') (dj (l8 (PQ n rb B (x::l) (.tight dp (x::l))) (PB n B (.tight dp (x::l))))))
    (dj (l8 (PQ n rb B (x::l) (.tight dp (x::l))) (PB n B (.tight dp (x::l))))):=by
   intro k l0 v0 N0 f KK k0 Pv hd Jd PN hs0 q4 hK;refine aa.fp (.app .here) (hx n 0 (dp+1) rb l0 v0 B zO zO zO Jd hs0) ?_ ?_;rotate_left
   ·rintro c _ ⟨p,e,h1,rfl,rfl⟩;exact sj _ p e _ (q4 _ (.call h1 .done)) .right rfl
   rintro p _ ⟨a,l',v',N,h1,h2,h3,h5,rfl,h6⟩;obtain⟨y,l2,rfl⟩:=h2.split;refine aa.fp (.app (.app .here)) (rh k h5) ?_ ?_;rotate_left
   ·rintro c _ ⟨hk,rfl,rfl⟩;refine sj _ y.p 14 _ (q4 _ (.call h1 ?_)) (.cq .right) rfl;show Ev n (if y.k=k then _ else _) _;rw[xab hk];exact .done
   rintro r _ ⟨hk,v2,rfl,kA⟩;refine hK a l2 v2 N p (λr hr=>.call h1 ?_) (h2.tail zO zO) (by have:=h3;simp only[xai]at this;omega) kA h6;show Ev n (if y.k=k then _ else _) _;rw[xae hk];exact hr
  refine ae.bN (b:=10) (Br.dec (λh10=>?_) (λh10=>?_))
  ·rw[xae h10]at pl;refine az.whole (.head _) rfl (deep (.inr (.inl h10)) λhd=>?_);rw[xab hd]at pl;refine part 11 l v1 [_] (λa l2=>.done (.ok a l2)) _ zD zD hd (hft zO zO) (xak _) hs1 (λr hr=>by rw[pl _ rfl];exact hr) λa l' v' N p q4 wZ hl' hs' ht=>?_;refine ret a l' v' N _ _ ?_ wZ hl' hs' .tail ht;rw[pl _ rfl];exact q4 _ .done
  rw[xab h10]at pl;refine ae.bN (b:=12) (Br.dec (λh12=>?_) (λh12=>?_))
  ·rw[xae h12]at pl;refine az.whole (.head _) rfl (deep (.inr (.inr h12)) λhd=>?_);rw[xab hd]at pl;refine part 13 l v1 [_] _ _ zD zD hd (hft zO zO) (xak _) hs1 (λr hr=>by rw[pl _ rfl];exact hr) λa l2 v2 N p Lm vq vi kA Kb=>?_;rw[<-xau];refine part 14 l2 v2 _ _ _ zD zD hd vq vi kA (λr hr=>by rw[pl _ rfl];exact Lm _ hr) λb l3 v3 N2 p2 Mx N9 NM Nz B5=>?_;rw[<-xau];refine part 15 l3 v3 _ _ _ zD zD hd N9 zO Nz (λr hr=>by rw[pl _ rfl];exact Lm _ (Mx _ hr)) λc l4 v4 N3 p3 OI N8 PM Ny wT=>?_;obtain⟨pa,rfl⟩:=Kb.ptr;obtain⟨pb,rfl⟩:=B5.ptr;obtain⟨pc,rfl⟩:=wT.ptr;refine ak.jg (e:=64) (z:=.pointer none) [bC pa,bC pb,bC pc] zK zK zK (show(3:Nat)<=16777216 by decide) (by simp[Value.oneCell']) rfl rfl λbd=>?_;refine Build.mk (cs:=[nI 12,nI 0,.slice (some ⟨bd,0,none⟩) 3 3]) zK λbt _=>?_;refine ret (.ite a b c) l4 v4 ((bt,_)::(bd,_)::(N++(N2++N3))) _ _ ?_ N8 zO Ny ?_ (.ite (.head _) (.tail _ (.head _)) (Kb.mono λy hy=>?_) (B5.mono λy hy=>?_) (wT.mono λy hy=>?_))
   ·rw[pl _ rfl];exact Lm _ (Mx _ (OI _ .done))
   ·simp only[xaF,xau,xa2];exact .cons (.cons .tail)
   ·exact .tail _ (.tail _ (xac _ hy))
   ·exact .tail _ (.tail _ (xaa _ (xac _ hy)))
   exact .tail _ (.tail _ (xaa _ (xaa _ hy)))
  rw[xab h12]at pl;refine az.whole (.head _) rfl (aa.fp .here (jJ x 14 _) (λv C' h=>h.elim) λch C' h'=>?_);obtain⟨rfl,rfl⟩:=h';refine sj _ x.p 14 _ ?_ (.skip .tail) rfl;rw[pl _ rfl];exact .done
 refine ae.bN (b:=1) (Br.dec (λh1=>?_) (λh1=>?_))
 ·exact main _ (by simp[h1])
 exact ae.bN (b:=2) (main _ (by simp[h1]))
theorem qj:∀m,TX m/\TG m
 |0=>⟨λn lv dp rb l v B hm hlv _ hf _=>by omega,λn dp rb l v B hm _ hf _=>by
   obtain⟨x,l,rfl⟩:=hf.split;simp only[xai]at hm;omega⟩
 |m+1=>⟨wm m (qj m).1 (qj m).2,r6 m (qj m).1 (qj m).2⟩
def FU(g:Gh)(a0 a1 a2 v3:zV)(H:Hp)(K:Hp->Prop):Prop:=
br zQ g (e6 Tryz.f36 1 1) (ev (λs=>cond (Nat.beq s 7) v3 (undef))) H λv5=>
Br v5 (
br zQ g (e6 Tryz.f36 2 1) (ev (λs=>cond (Nat.beq s 10) v3 (undef))) H λv6=>
Ext 0 v6 λv7=>
Ext 1 v6 λv8=>
sY H (.cells #[(Value.int .i64 0),(Value.int .i64 0)] 88 zZ) λb9 Pd=>
St 2 Pd (.pointer (some ⟨b9,0,none⟩)) v7 λEu=>
∀JA:Jt,(∀GD:Hp,(∀OF:Fr,
DR GD λJy=>
ag 0 (.pointer (some ⟨b9,0,none⟩)) λJH=>
Ld Jy JH λJG=>
ag 1 (.pointer (some ⟨b9,0,none⟩)) λJF=>
Ld Jy JF λNc=>
St 1 GD a0 (.pointer none) λIK=>
aM IK Jy/\
St 1 IK a1 JG λMK=>
aM MK Jy/\
St 1 MK a2 Nc λPb=>
K Pb)->JA [] GD)->
Un .not v8 λJD=>
Br JD (
dX zQ g (e6 Tryz.f36 4 1) (ev (λs=>cond (Nat.beq s 16) v3 (undef))) Eu (λLQ LH=>
JE JA [] LH) (λ_ _=>∀_:Fr,False)) (
JE JA [] Eu)) (
K H)
theorem u4{g:Gh}{a0 a1 a2 v:zV}{u u':FrameMode}{H:Hp}{K:Hp->Prop}(hu:(u=.returning/\v=.nilIface/\u'=.returning)\/(u=.panicking [{v,recovered:=false}]/\u'=.panicking [{v,recovered:=true}]))
 (h:FU g a0 a1 a2 v H K):jk zQ 36 g #[a0,a1,a2] u H K:=by
 refine jk.rec (args:=[a0,a1,a2]) (hn:=(.n .e (.n (.n .e (.h 1 [] [0,1,2,4] .e (.h 0 [0,1,2,3,4,5,6] [] .e .e))) .e))) func36 rfl rfl rfl rfl rfl rfl rfl rfl rfl rfl rfl hu ?_;refine Eq.mpr (?_:_=FU g a0 a1 a2 v H K) h;kernel_rfl
theorem z1{g:Gh}{b4 b6 b8 at_ e:Nat}{x4 x6 x8:zV}{X B:Hp}{K:Hp->Prop}
 (hk:∀b9,K ((b9,.cells #[nI at_,nI e] 88 zZ)::(X++((b8,.cells #[nI e] 25 zZ)::(b6,.cells #[nI at_] 3 zZ)::(b4,.cells #[.pointer none] 64 zZ)::B)))):
  FU g (bC b4) (bC b6) (bC b8) (.iface 88 (.agg #[nI at_,nI e])) (X++((b8,.cells #[x8] 25 zZ)::(b6,.cells #[x6] 3 zZ)::(b4,.cells #[x4] 64 zZ)::B)) K:=by
 refine br.ve rfl rfl rfl ⟨#[],by kernel_rfl⟩ (.inr ⟨_,_,rfl,rfl⟩) (Br.yes ?_);refine br.DF rfl rfl zK (Ext.mk rfl (Ext.mk rfl λb9 _=>St.whole (r:=[nI at_,nI e]) (.head _) rfl rfl (by simp[Value.oneCell']) λJA h12=>?_));refine Un.not (Br.no (JE.mk (h12 _ λ_=>?_)));refine DR.of (.ki (.head _)) (Ld.u (.head _) (Ld.u (.head _) ?_));refine St.one (c':=#[.pointer none]) (.tail (.ax (.tail (.tail (.head _))) _)) rfl (show(0:Nat)<1 by decide) rfl ⟨.ki (.head _),?_⟩;refine St.one (c':=#[nI at_]) (.tail (.ax (.tail (.head _)) _)) rfl (show(0:Nat)<1 by decide) rfl ⟨.ki (.head _),?_⟩;exact St.one (c':=#[nI e]) (.tail (.ax (.head _) _)) rfl (show(0:Nat)<1 by decide) rfl (hk b9)
set_option maxHeartbeats 1000000 in
theorem xh(l:List UInt8)(n:Nat)(B:Hp):Fc zQ 23 #[ah l,nI n] B (λr H=>∃N,H=N++B/\((∃t l' p,Reads n l (.ok t l')/\r=.tuple #[p,nI 0,nI 0]/\lB N t p)\/∃at_ e,Reads n l (.bad at_ e)/\r=.tuple #[.pointer none,nI at_,nI e])):=by
 refine aW λg=>yC λb4 _ b6 _ b8 _=>aA.of (ae.mY (b:=65536) (Br.dec (λhl=>?_) (λhl=>?_)))
 ·refine St.one (c':=#[.pointer none]) (.tail (.tail (.head _))) rfl (show(0:Nat)<1 by decide) rfl ?_;refine St.one (c':=#[nI 0]) (.tail (.head _)) rfl (show(0:Nat)<1 by decide) rfl ?_;refine St.one (c':=#[nI 13]) (.head _) rfl (show(0:Nat)<1 by decide) rfl (Ld.mk (.tail _ (.tail _ (.head _))) rfl (Ld.mk (.tail _ (.head _)) rfl (Ld.mk (.head _) rfl ?_)));exact aZ.mk (.skip (.skip .tail)) ⟨[],rfl,.inr ⟨0,13,.wH hl,rfl⟩⟩
 have hl:l.length<=65536:=by omega
 refine aa.fn .here (AY l hl _) ?_;rintro tv _ ⟨o,N,rfl,ht,hlen,hs⟩;obtain⟨a,c,rfl⟩:=hs.len;refine Build.mk (cs:=[.slice a (o.map Tok.cells).length c,nI n]) zK λOT _=>?_;obtain⟨i,t,ho,hk,hi⟩:=ht.last;have fail:∀(ch:List PanicEntry) (X:Hp) (x4 x6 x8:zV) (at_ e:Nat),ch=Gw at_ e->Reads n l (.bad at_ e)->∀R:Rt,R=aZ (λr H=>∃N,H=N++B/\((∃t l' p,Reads n l (.ok t l')/\r=.tuple #[p,nI 0,nI 0]/\lB N t p)\/∃at_ e,Reads n l (.bad at_ e)/\r=.tuple #[.pointer none,nI at_,nI e]))->
   jk zQ 36 g #[bC b4,bC b6,bC b8] (.panicking ch) (X++((b8,.cells #[x8] 25 zZ)::(b6,.cells #[x6] 3 zZ)::(b4,.cells #[x4] 64 zZ)::B)) (λH=>Ld H (bC b4) λv1=>Ld H (bC b6) λv2=>Ld H (bC b8) λv3=>R (.returned (.tuple #[v1,v2,v3])) H):=by
  rintro _ X x4 x6 x8 at_ e rfl hr _ rfl;refine u4 (.inr ⟨rfl,rfl⟩) (z1 λb9=>?_);refine Ld.mk (.tail _ (xaa _ (.tail _ (.tail _ (.head _))))) rfl (Ld.mk (.tail _ (xaa _ (.tail _ (.head _)))) rfl (Ld.mk (.tail _ (xaa _ (.head _))) rfl ?_));exact aZ.mk (.skip (.cq (.skip (.skip .tail)))) ⟨[],rfl,.inr ⟨at_,e,hr,rfl⟩⟩
 refine aa.fp .left ((qj _).1 n 0 0 OT o _ N (xak _) zD zD ⟨i,t,ho,hk,hi⟩ (.dV hs zD)) ?_ ?_;rotate_left
 ·rintro ch _ ⟨p,e,h1,rfl,rfl⟩ _;exact fail _ _ _ _ _ p e rfl (.mk hl ht (.call h1 .done)) _ rfl
 rintro p _ ⟨t,l',v',N2,h1,h2,h3,h4,rfl,h6⟩;obtain⟨pt,rfl⟩:=h6.ptr;refine St.one (c':=#[bC pt]) (.ax (.tail (.tail (.head _))) _) rfl (show(0:Nat)<1 by decide) rfl ?_;obtain⟨y,l2,rfl⟩:=h2.split;refine aa.pre aM.assoc (aa.fp (.app .left) (rh 0 h4) ?_ ?_);rotate_left
 ·rintro ch _ ⟨HH,rfl,rfl⟩ _;rw[<-xau];refine fail _ _ _ _ _ y.p 14 rfl (.mk hl ht (.call h1 ?_)) _ rfl;show Ev n (if y.k=0 then _ else _) _;rw[xab HH];exact .done
 rintro _ _ ⟨HH,v2,rfl,kA⟩;refine Ld.mk (xaa _ (xaa _ (.tail _ (.tail _ (.head _))))) rfl ?_;refine St.one (c':=#[bC pt]) (.ax (.ax (.tail (.tail (.head _))) _) _) rfl (show(0:Nat)<1 by decide) rfl ?_;refine St.one (c':=#[nI 0]) (.ax (.ax (.tail (.head _)) _) _) rfl (show(0:Nat)<1 by decide) rfl ?_;refine St.one (c':=#[nI 0]) (.ax (.ax (.head _) _) _) rfl (show(0:Nat)<1 by decide) rfl ?_;refine u4 (v:=.nilIface) (u':=.returning) (.inl ⟨rfl,rfl,rfl⟩) (br.ve rfl rfl rfl ⟨#[],by kernel_rfl⟩ (.inl ⟨rfl,rfl,_,rfl⟩) (Br.no ?_));refine Ld.mk (xaa _ (xaa _ (.tail _ (.tail _ (.head _))))) rfl (Ld.mk (xaa _ (xaa _ (.tail _ (.head _)))) rfl (Ld.mk (xaa _ (xaa _ (.head _))) rfl ?_));refine aZ.mk (.cA (.cq (.skip (.skip .tail))) N2) ⟨N2,rfl,.inl ⟨t,l2,bC pt,.mk hl ht (.call h1 ?_),rfl,h6⟩⟩;show Ev n (if y.k=0 then _ else _) _;rw[xae HH];exact .done
end
section
open Fm au
section
variable {kp:Nat} {K K1 K2:Kd} {S S1 S2:Nat->au.Fn} {ord af tr:zL} {C:Hp}
structure aI(K:Kd)(S:Nat->au.Fn)(K':Kd)(S':Nat->au.Fn)(xs:zL):Prop where
 n:K'.n=K.n
 cap:K'.cap=K.cap
 fn:∀s,K.hold s≠0->S' s=S s
 hold:∀s,K'.hold s=K.hold s+if 2<=s then xs.count s else 0
theorem aI.refl:aI K S K S []:=⟨rfl,rfl,λ_ _=>rfl,λs=>by simp⟩
theorem aI.grow{xs:zL}{f:au.Fn}{x:Nat}(h:aI K S K1 S1 xs)(hl:∀s,K1.hold s≠0->au.live K1.N s)(hg:BY K1 S1 K2 S2 f x):aI K S K2 S2 (xs++[x]):=
 ⟨hg.n.trans h.n,hg.cap.trans h.cap,λs hs=>by
  rw[hg.fn s (hl s (by rw[h.hold];omega)),h.fn s hs],λs=>by
  rw[hg.hold,h.hold,xa3,xbK];by_cases h2:2<=s
  ·by_cases hx:s=x
   ·subst hx;simp[h2];omega
   have:(x==s)=false:=by simp;exact λh=>hx h.symm
   simp[h2,hx,this]
  have:¬(s=x/\2<=x):=λh=>h2 (h.1▸h.2);simp[h2,this]⟩
theorem aI.more{xs ys:zL}(h:aI K S K1 S1 xs)(h':aI K1 S1 K2 S2 ys):aI K S K2 S2 (xs++ys):=
 ⟨h'.n.trans h.n,h'.cap.trans h.cap,λs hs=>by rw[h'.fn s (by rw[h.hold];omega),h.fn s hs],λs=>by
  rw[h'.hold,h.hold,xa3];split<;>omega⟩
theorem aI.kept{xs:zL}(h:aI K S K1 S1 xs)(hk:Kept K1 S1 K2 S2):aI K S K2 S2 xs:=
 ⟨hk.n.trans h.n,hk.cap.trans h.cap,λs hs=>by rw[hk.fn s (by rw[h.hold];omega),h.fn s hs],λs=>by rw[hk.hold,h.hold]⟩
theorem aI.Er{r:Nat}{xs:zL}(h:aI K S K1 S1 (r::xs))(hf:BZ K1 K2 r):aI K S K2 S1 xs:=
 ⟨hf.n.trans h.n,hf.cap.trans h.cap,h.fn,λs=>by
  rw[hf.hold,h.hold,xcb];by_cases h2:2<=s
  ·by_cases hx:s=r
   ·subst hx;simp[h2]
   have:(r==s)=false:=by simp;exact λh=>hx h.symm
   simp[h2,hx,this]
  have:¬(s=r/\2<=r):=λh=>h2 (h.1▸h.2);simp[h2,this]⟩
theorem aI.perm{xs ys:zL}(h:aI K S K1 S1 xs)(hp:xs.Perm ys):aI K S K1 S1 ys:=
 ⟨h.n,h.cap,h.fn,λs=>by rw[h.hold,hp.count_eq]⟩
theorem aI.held{xs:zL}(h:aI K S K1 S1 xs){P:au.Fn->Prop}(hx:∀x∈xs,P (S1 x))(g:au.Fn)(hg:K1.held S1 g):K.held S g\/P g:=by
 obtain⟨s,hs,rfl⟩:=hg;by_cases h0:K.hold s=0
 ·right;have hs':K1.hold s≠0:=hs;rw[h.hold,h0]at hs';by_cases h2:2<=s
  ·rw[xae h2]at hs';exact hx s (xcc.1 zO)
  rw[xab h2]at hs';exact absurd rfl hs'
 left;exact⟨s,h0,h.fn s h0⟩
theorem aI.le{xs:zL}(h:aI K S K1 S1 xs)(s:Nat):K1.hold s<=K.hold s+xs.length:=by
 rw[h.hold];have:=List.count_le_length (a:=s) (l:=xs);split<;>omega
theorem Bd{b3 b1:Nat}{v:zV}{L M:Hp}{xs ys:zL}(hv:aO 82 .u32 v (iw xs) L)(hh:aI K S K1 S1 (xs++ys))(hK:cc kp K1 S1 ord af tr C)(hl:∀x∈xs,x<4294967296)(hm:xs.length<=3):
  ML zQ 124 #[ptr b3,ptr b1] ((b3,.cells #[v] 189 zZ)::(b1,.cells #[ptr kp] 45 zZ)::(L++(M++C))) (λ_ H=>∃K2 C2 eG,H=(b3,.cells #[v] 189 zZ)::(b1,.cells #[ptr kp] 45 zZ)::(L++(M++C2))/\cc kp K2 S1 ord af eG C2/\aI K S K2 S1 ys/\(eG=tr\/eG=[])):=by
 refine λg=>rV (Ld.mk (.head _) rfl (hv.c6 ?_));refine⟨λvs H=>∃(i:Nat) (K2:Kd) (C2:Hp) (eG:zL),vs=[nI i]/\i<=xs.length/\H=(b3,.cells #[v] 189 zZ)::(b1,.cells #[ptr kp] 45 zZ)::(L++(M++C2))/\cc kp K2 S1 ord af eG C2/\aI K S K2 S1 (xs.drop i++ys)/\(eG=tr\/eG=[]),λvs _=>xs.length-dR vs 0,JE.mk ⟨0,K1,C,tr,rfl,xaE _,rfl,hK,hh,.inl rfl⟩,?_⟩;rintro w7 H ⟨i,K2,C2,eG,⟨⟩,hi,rfl,dP,yN,nZ⟩ gs;rw[aQ];refine ae.fN (Br.dec (λh=>?_) (λh=>?_))
 ·have hg:xs[i]? =some xs[i]:=xad h;refine hv.ld (gO hg) (λy hy=>.tail _ (.tail _ (xac _ hy))) (Ld.mk (.tail _ (.head _)) rfl ?_);rw[xaW h,xaF]at yN;refine aa.fn (args:=#[ptr kp,u32 xs[i]]) (.cons (.cons (.app (.app .here)))) (pV dP (hl _ (xaN h)) (λh2=>by rw[yN.hold,xae h2,List.count_cons_self];omega)) ?_;rintro _ C3 ⟨rfl,K3,qb,hf⟩;exact ae.inc (aR.of (.refl _) ⟨i+1,K3,C3,[],rfl,h,rfl,qb,yN.Er hf,.inr rfl⟩ (by simp only[dR];omega))
 have:i=xs.length:=by omega
 subst this;rw[xbF,xa2]at yN;exact aZ.mk (.refl _) ⟨K2,C2,eG,rfl,dP,yN,nZ⟩
def B1(kp:Nat)(K:Kd)(S:Nat->au.Fn)(ord af:zL)(f:au.Fn)(P:au.Fn->Prop)(w:zV)(H:Hp):Prop:=
 (∃x K' S' eH,w=.tuple #[u32 x,nI 0]/\cc kp K' S' ord af eH H/\aI K S K' S' [x]/\au.live K'.N x/\S' x=f/\eH=[])\/
 (w=.tuple #[u32 0,nI 9]/\(∃K' S' eH,cc kp K' S' ord af eH H/\aI K S K' S' [])/\¬Fits (aC K.n ord (λg=>K.held S g\/P g)) K.cap)
end
end
section
open Fm Sw
def cJ(t:List UInt8)(a e:Nat):List zV:=[ah t,nI a,nI e]
abbrev eL(t:List UInt8)(a e:Nat):zV:=.agg (cJ t a e).toArray
theorem aD(t:List UInt8)(a e:Nat):∀u∈cJ t a e,u.oneCell'=true:=λu hu=>by
 simp only[cJ,xaf,xat,xaZ]at hu;rcases hu with rfl|rfl|rfl<;>rfl
theorem dN(a e:Nat)(B:Hp):Rd zQ 16 #[nI a,nI e] B (· =eL [] a e):=by
 refine aW λg=>yJ λb1 _=>Build.mk (cs:=cJ [] a e) zK (St.whole (r:=cJ [] a e) (.head _) rfl rfl (aD _ _ _) (az.whole (r:=cJ [] a e) (.head _) rfl ?_));exact bS.mk .tail rfl
theorem pq(t:List UInt8)(e:Nat)(B:Hp):Rd zQ 103 #[ah t,nI e] B (· =if e=0 then eL t 0 0 else eL [] 0 e):=by
 refine aW λg=>uF λb1 _=>ae.nM (b:=0) (Br.dec (λh=>?_) (λh=>?_))
 ·refine aa.eq (dN 0 e _) (St.whole (r:=cJ [] 0 e) (.head _) rfl rfl (aD _ _ _) (az.whole (r:=cJ [] 0 e) (.head _) rfl ?_));exact bS.mk .tail (by rw[xab h])
 have h:e=0:=xdt.1 h;subst h;refine Build.mk (cs:=cJ t 0 0) zK (St.whole (r:=cJ t 0 0) (.head _) rfl rfl (aD _ _ _) (az.whole (r:=cJ t 0 0) (.head _) rfl ?_));exact bS.mk .tail rfl
def gk(w:Wd×Nat):List zV:=[ah w.1.t,nI w.1.a,nI w.1.e,nI w.2]
theorem p5(w:Wd×Nat):∀u∈gk w,u.oneCell'=true:=λu hu=>by
 simp only[gk,xaf,xat,xaZ]at hu;rcases hu with rfl|rfl|rfl|rfl<;>rfl
abbrev IC(es:Array MapEntry)(ck:Nat)(ns:List (List UInt8×Nat)):Prop:=bh ah (λv (r:Nat)=>v=u32 r) es ck ns
def gA(ns:List (List UInt8×Nat))(t:List UInt8):Bool:=(aN ns t).isSome
def o4(sh:List UInt8)(ws:List Wd)(m:Nat)(b:List UInt8->Bool)(r:zV)(N:Hp):Prop:=
 (∃p,ot m sh ws=some p/\r=.tuple #[.slice none 0 0,eL [] p 14])\/
 (ot m sh ws=none/\∃p,nL b sh ws=some p/\r=.tuple #[.slice none 0 0,eL [] p 15])\/
 (ot m sh ws=none/\nL b sh ws=none/\∃v,r=.tuple #[v,eL [] 0 0]/\ay 78 4 v ((rdv sh ws).map gk) N)
theorem uR:∀(sh:List UInt8) (ws:List Wd) (j:Nat) (c:UInt8) (w:Wd),sh[j]? =some c->ws[j]? =some w->(rdv sh ws)[j]? =some (w,(vU c w.t).getD 0)
 | [],ws,j,c,w,h,_=>by simp at h
 |_::_,[],j,c,w,_,h=>by simp at h
 |a::sh,x::ws,0,c,w,h1,h2=>by cases h1;cases h2;rfl
 |a::sh,x::ws,j+1,c,w,h1,h2=>uR sh ws j c w (by simpa using h1) (by simpa using h2)
theorem DJ{c:UInt8}{t:List UInt8}:(vU c t)=if c.toNat=110 then EO t else if nY t then some 0 else none:=by
 unfold vU;have:=y3 c 110 zD;by_cases h:c=110
 ·rw[xae h,xae (this.2 h)]
 rw[xab h,xab λe=>h (this.1 e)]
set_option maxHeartbeats 4000000 in
theorem CC{sp mb:Nat}{kv:zV}{T:TypeId}{fz:Nat×Nat}{es:Array MapEntry}{ck:Nat}{ns:List (List UInt8×Nat)}{B:Hp}(hE:IC es ck ns)(hsp:(sp,Obj.cells #[kv,.map (some mb)] T fz)∈B)(hmb:(mb,Obj.map es ck)∈B)
 (shape:List UInt8)(Hs:shape.length<=3)(ws:List Wd)(Pw:ws.length<=400)(B4:∀w∈ws,w.t.length<=400){v:zV}(hv:Sl 3 B v (ws.map Wd.cells))(m:Nat)
 (E5:shape=[43]->∀B:Hp,Fc zQ 31 #[ah [110],nI ws.length] B (λv H=>v=ah (List.replicate ws.length 110)/\H=B)):
  Fc zQ 19 #[ptr sp,ah shape,v,nI m] B (λr H=>∃N,H=N++B/\o4 (wq shape ws) ws m (gA ns) r N):=by
 refine aW λg=>yG λb1 _ J3 h3=>?_;have go:∀(sh:List UInt8),sh.length<=400->sh=wq shape ws->J3 [ah sh] ((b1,Obj.cells #[ah [],nI 0,nI 0] 27 zZ)::B):=λsh hsh Kf=>by
  refine h3 _ _ λ_=>?_;rw[<-Kf];refine hv.c6 ?_;rw[xav];refine⟨λvs H=>∃(i:Nat) (acc:List (Wd×Nat)) (C:Hp) (v:zV),vs=[v,nI i]/\i<=ws.length/\acc.length=i/\i<=sh.length/\ot m sh ws=ot m (sh.drop i) (ws.drop i)/\rdv sh ws=acc++rdv (sh.drop i) (ws.drop i)/\ay 78 4 v (acc.map gk) C/\H=C++((b1,Obj.cells #[ah [],nI 0,nI 0] 27 zZ)::B),λvs _=>ws.length-dR vs 1,
   JE.mk ⟨0,[],[],_,rfl,xaE _,rfl,xaE _,rfl,rfl,ay.nil _ _,rfl⟩,?_⟩
  rintro GI IP H ⟨i,acc,C,va,⟨⟩,hi,hal,PO,hf,rY,hs,rfl⟩ gs;have sub:∀y∈B,y∈C++((b1,Obj.cells #[ah [],nI 0,nI 0] 27 zZ)::B):=λy hy=>xaa _ (.tail _ hy)
  /- a fault told -/
  have bad:∀(p e:Nat) (X:Hp),o4 sh ws m (gA ns) (.tuple #[.slice none 0 0,eL [] p e]) []->aM ((b1,Obj.cells (cJ [] p e).toArray 27 zZ)::X) B->
    ∀Y Y':Hp,cm b1 (.cells #[ah [],nI 0,nI 0] 27 zZ) (.cells (cJ [] p e).toArray 27 zZ) Y Y'->aM Y' ((b1,Obj.cells (cJ [] p e).toArray 27 zZ)::X)->(b1,Obj.cells (cJ [] p e).toArray 27 zZ)∈Y'->
    aa zQ g 16 #[nI p,nI e] Y (λv H=>St 3 H (.pointer (some ⟨b1,0,none⟩)) v λFW=>az 3 FW (.pointer (some ⟨b1,0,none⟩)) λGJ=>aZ (λr H=>∃N,H=N++B/\o4 sh ws m (gA ns) r N) (.returned (.tuple #[(.slice none 0 0),GJ])) FW) (dj (aZ (λr H=>∃N,H=N++B/\o4 sh ws m (gA ns) r N))):=λp e X hR hE Y Y' hU hY hm=>by
   refine aa.eq (dN p e _) (St.whole (r:=cJ [] p e) hU rfl rfl (aD _ _ _) (az.whole (r:=cJ [] p e) hm rfl ?_));exact aZ.mk (hY.trans hE) ⟨[],rfl,hR⟩
  refine ae.fN (Br.dec (λhlt=>?_) (λhge=>?_))
  ·have hw:ws[i]? =some ws[i]:=xad hlt;have Ap:=xaW hlt;have Ao:=B4 _ (xaN hlt);generalize ws[i]=w at hw Ap Ao;rw[Ap]at hf rY;refine ai.sl hv (r:=w.cells) (by rw[xaB,hw];rfl) λp hp=>az.at hp rfl zD sub λOW _=>?_;refine St.whole (r:=w.cells) (.head _) rfl rfl w.one (aA.of (ae.n5 (Br.dec (λhge=>?_) (λFf=>?_))))
   ·refine Ld.u (v:=nI w.a) (.head _) (bad w.a 14 B (.inl ⟨w.a,?_,rfl⟩) .tail _ _ (.tail ((cm.head _).ax C)) (.skip (.cq (.refl _))) (.tail _ (xaa _ (.head _))));rw[hf,xaO hge];rfl
   obtain⟨c,hc,hcd⟩:=gV (l:=sh) (i:=i) zO;rw[hcd]at hf rY;refine az.whole (r:=w.cells) (.head _) rfl (Build.mk (cs:=gk (w,0)) zK λOU _=>St.whole (r:=gk (w,0)) (.head _) rfl rfl (p5 _) λO5 OA=>?_);have G4:∀(o:Option Nat),vU c w.t=o->O5 [.bool o.isSome] ((OU,.cells (gk (w,o.getD 0)).toArray 78 zZ)::(OW,.cells w.cells.toArray 58 zZ)::(C++((b1,Obj.cells #[ah [],nI 0,nI 0] 27 zZ)::B))):=λo ho=>by
    refine OA _ _ λ_=>Un.not ?_;cases o with
    |none=>
     refine Br.yes (Ld.u (v:=nI w.a) (.tail _ (.head _)) (bad w.a 14 B (.inl ⟨w.a,?_,rfl⟩) .tail _ _ (.tail (.tail ((cm.head _).ax C))) (.skip (.skip (.cq (.refl _)))) (.tail _ (.tail _ (xaa _ (.head _))))));rw[hf];show(if(vU c w.t).isNone then _ else _)=_;rw[ho];rfl
    |some n=>
     refine Br.no (az.whole (r:=gk (w,n)) (.head _) rfl (ak.one (e:=78) (z:=.agg #[ah [],nI 0,nI 0,nI 0]) (k:=4) zK zK zK zD rfl λbs=>?_));refine hs.n8 (.cons (.cons (.cons .left))) (.head _) rfl (p5 _) ⟨[_,_,_,_],rfl,rfl⟩ (by rw[xav];omega) (by rw[xav];omega) λv' C' cB=>?_;refine ae.inc (aR.of (.skip (.skip .tail)) ⟨i+1,acc++[(w,n)],C',v',rfl,hlt,by simp[hal],by omega,?_,?_,by rw[xaz];exact cB,rfl⟩ (by simp only[dR];omega))
     ·rw[hf];show(if(vU c w.t).isNone then _ else _)=_;rw[ho];rfl
     rw[rY,xau];show acc++((w,(vU c w.t).getD 0)::_)=_;rw[ho];rfl
   have gf:=DJ (c:=c) (t:=w.t);refine aV.of hc (ae.bN (b:=110) (Br.dec (λFB=>?_) (λFB=>?_)))
   ·rw[xae FB]at gf;refine Ld.u (v:=ah w.t) (.tail _ (.head _)) (aa.eq (r7 w.t Ao _) ?_);cases hn:EO w.t with
    |none=>exact Ext.mk rfl (Ext.mk rfl (.mk (St.one (c':=(gk (w,0)).toArray) (.head _) rfl (show 3<4 by decide) rfl (JE.mk (G4 none (by rw[gf,hn]))))))
    |some n=>exact Ext.mk rfl (Ext.mk rfl (.mk (St.one (c':=(gk (w,n)).toArray) (.head _) rfl (show 3<4 by decide) rfl (JE.mk (G4 (some n) (by rw[gf,hn]))))))
   ·rw[xab FB]at gf;refine Ld.u (v:=ah w.t) (.tail _ (.head _)) (aa.eq (qq sp w.t Ao _) ?_);cases hn:nY w.t with
    |false=>exact JE.mk (G4 none (by rw[gf,hn];rfl))
    |true=>exact JE.mk (G4 (some 0) (by rw[gf,hn];rfl))
  ·have NT:i=ws.length:=by omega
   subst NT;refine hv.c6 (aA.of ?_);rw[xav];refine ae.fN (Br.dec (λiG=>?_) (λPJ=>?_))
   ·refine bad m 14 B (.inl ⟨m,?_,rfl⟩) .tail _ _ ((cm.head _).ax C) (.cq (.refl _)) (xaa _ (.head _));obtain⟨c,_,hcd⟩:=gV iG;rw[hf,xbF,hcd];rfl
   have Dh:sh.length=ws.length:=by omega
   have Jd:ot m sh ws=none:=by rw[hf,xbF,xaO zO];rfl
   have L4:rdv sh ws=acc:=by
    rw[rY,xbF,xaO zO];show acc++[]=acc;exact xaR _
   refine hs.c6 ?_;rw[xav,hal];refine⟨λvs H=>∃j:Nat,vs=[nI j]/\j<=ws.length/\nL (gA ns) sh ws=nL (gA ns) (sh.drop j) (ws.drop j)/\H=C++((b1,Obj.cells #[ah [],nI 0,nI 0] 27 zZ)::B),λvs _=>ws.length-dR vs 0,
    JE.mk ⟨0,rfl,xaE _,rfl,rfl⟩,?_⟩
   rintro Pj H ⟨j,⟨⟩,hj,hn,rfl⟩ PX;refine ae.fN (Br.dec (λhlt=>?_) (λN1=>?_))
   ·obtain⟨c,hc,hcd⟩:=gV (l:=sh) (i:=j) zO;have hw:ws[j]? =some ws[j]:=xad hlt;have Ap:=xaW hlt;generalize ws[j]=w at hw Ap;have er:=uR sh ws j c w hc hw;rw[L4]at er;generalize (vU c w.t).getD 0=n at er;rw[hcd,Ap]at hn;refine hs.u7 (r:=gk (w,n)) (by rw[xaB,er];rfl) (λy hy=>xac _ hy) λGz _=>?_;refine St.whole (r:=gk (w,n)) (.head _) rfl rfl (p5 _) (Ld.v (v:=.map (some mb)) (.tail _ (sub _ hsp)) (.mk (Ld.u (v:=ah w.t) (.head _) ?_)));have Ih:=y3 c 115 zD;have step:∀t:Bool,gA ns w.t=t->∀x:zV,Ext 0 (.tuple #[x,.bool t]) λPs=>Ext 1 (.tuple #[x,.bool t]) λMU=>
      aV (ah sh) (nI j) λMT=>ae .num .eql MT (.int .u8 115) λMS=>
      bL MS true (λt96=>Un .not MU λMR=>((Gz,Obj.cells (gk (w,n)).toArray 78 zZ)::(C++((b1,Obj.cells #[ah [],nI 0,nI 0] 27 zZ)::B))=(Gz,Obj.cells (gk (w,n)).toArray 78 zZ)::(C++((b1,Obj.cells #[ah [],nI 0,nI 0] 27 zZ)::B))/\MR=Value.bool t96)) (λt96=>(Value.bool false)=Value.bool t96) λt96=>∀OE:Fr,
      Br (Value.bool t96) (ag 0 (.pointer (some ⟨Gz,0,none⟩)) λMQ=>ag 1 MQ λJM=>Ld ((Gz,Obj.cells (gk (w,n)).toArray 78 zZ)::(C++((b1,Obj.cells #[ah [],nI 0,nI 0] 27 zZ)::B))) JM λJL=>
       aa zQ g 16 #[JL,nI 15] ((Gz,Obj.cells (gk (w,n)).toArray 78 zZ)::(C++((b1,Obj.cells #[ah [],nI 0,nI 0] 27 zZ)::B))) (λv H=>St 3 H (.pointer (some ⟨b1,0,none⟩)) v λFW=>az 3 FW (.pointer (some ⟨b1,0,none⟩)) λGJ=>aZ (λr H=>∃N,H=N++B/\o4 sh ws m (gA ns) r N) (.returned (.tuple #[(.slice none 0 0),GJ])) FW) (dj (aZ (λr H=>∃N,H=N++B/\o4 sh ws m (gA ns) r N))))
      (ae .num .add (nI j) (nI 1) λJK=>aR (λvs H=>∃j:Nat,vs=[nI j]/\j<=ws.length/\nL (gA ns) sh ws=nL (gA ns) (sh.drop j) (ws.drop j)/\H=C++((b1,Obj.cells #[ah [],nI 0,nI 0] 27 zZ)::B)) (λvs _=>ws.length-dR vs 0) [JK] ((Gz,Obj.cells (gk (w,n)).toArray 78 zZ)::(C++((b1,Obj.cells #[ah [],nI 0,nI 0] 27 zZ)::B))) [nI j] (C++((b1,Obj.cells #[ah [],nI 0,nI 0] 27 zZ)::B))):=λt ht x=>by
     refine Ext.mk rfl (Ext.mk rfl (aV.of hc (ae.bN (b:=115) (bL.and (!t) (λ_=>Un.not ⟨rfl,rfl⟩) rfl λ_=>?_))));by_cases sE:c=115/\t=false
     ·obtain⟨rfl,rfl⟩:=sE;refine Br.Ex (by rw[xaL (Ih.2 rfl)];rfl) (.mk (Ld.u (v:=nI w.a) (.head _) (bad w.a 15 B (.inr (.inl ⟨Jd,w.a,?_,rfl⟩)) .tail _ _ (.tail ((cm.head _).ax C)) (.skip (.cq (.refl _))) (.tail _ (xaa _ (.head _))))));rw[hn];show(if _ then _ else _)=_;rw[xae ⟨rfl,ht⟩]
     refine Br.JV ?_ (ae.inc (aR.of .tail ⟨j+1,rfl,hlt,?_,rfl⟩ (by simp only[dR];omega)))
     ·rw[xcm,xaU];by_cases h:c=115
      ·right;cases t with
       |true=>rfl
       |false=>exact absurd ⟨h,rfl⟩ sE
      ·exact .inl λe=>h (Ih.1 e)
     rw[hn];show(if c=115/\gA ns w.t=false then _ else _)=_;rw[ht,xab sE]
    refine hE.look (k:=w.t) dw (b:=mb) (.tail _ (sub _ hmb)) (λx vx hx Py=>?_) (λhx=>?_)
    ·exact step true (by unfold gA;rw[hx];rfl) _
    exact step false (by unfold gA;rw[hx];rfl) _
   have NQ:j=ws.length:=by omega
   subst NQ;have NJ:nL (gA ns) sh ws=none:=by rw[hn,xbF,xaO zO];rfl
   refine Build.mk (cs:=cJ [] 0 0) zK (St.whole (r:=cJ [] 0 0) ((cm.head _).ax C) rfl rfl (aD _ _ _) (az.whole (r:=cJ [] 0 0) (xaa _ (.head _)) rfl ?_));exact aZ.mk (.cA .tail _) ⟨C,rfl,.inr (.inr ⟨Jd,NJ,_,rfl,by rw[L4];exact hs⟩)⟩
 refine ae.kR (b:=[43]) (Br.dec (λh=>?_) (λh=>?_))
 ·refine hv.c6 ?_;rw[xav];refine aa.fq (E5 h _) ?_;rintro _ _ ⟨rfl,rfl⟩;exact JE.mk (go _ (by rw[xch];omega) (by unfold wq;rw[xae h]))
 exact JE.mk (go shape zO (by unfold wq;rw[xab h]))
end
section
open Fm au
section
variable {kp:Nat} {K K1 K2:Kd} {S S1 S2:Nat->au.Fn} {ord af tr:zL} {C:Hp}
theorem vH(hK:cc kp K S ord af tr C){a b:Nat}(ha:au.live K.N a)(hb:au.live K.N b)(hB:∀s,K.hold s+2^K.n<=65535):Fc zQ 98 #[ptr kp,u32 a,u32 b] C (jj kp K S ord af tr (λy=>CJ 8 (S a y) (S b y))):=by
 refine aW λg=>xP (aa.fq (eW hK (op:=8) zD ha hb hB) ?_);intro w H hD;obtain⟨x,e,rfl⟩:=hD.two;exact Ext.two (aZ.here hD)
theorem A6(hK:cc kp K S ord af tr C){a b:Nat}(ha:au.live K.N a)(hb:au.live K.N b)(hB:∀s,K.hold s+2^K.n<=65535):Fc zQ 99 #[ptr kp,u32 a,u32 b] C (jj kp K S ord af tr (λy=>CJ 14 (S a y) (S b y))):=by
 refine aW λg=>xO (aa.fq (eW hK (op:=14) zD ha hb hB) ?_);intro w H hD;obtain⟨x,e,rfl⟩:=hD.two;exact Ext.two (aZ.here hD)
theorem vA(hK:cc kp K S ord af tr C){a b:Nat}(ha:au.live K.N a)(hb:au.live K.N b)(hB:∀s,K.hold s+2^K.n<=65535):Fc zQ 100 #[ptr kp,u32 a,u32 b] C (jj kp K S ord af tr (λy=>CJ 6 (S a y) (S b y))):=by
 refine aW λg=>uH (aa.fq (eW hK (op:=6) zD ha hb hB) ?_);intro w H hD;obtain⟨x,e,rfl⟩:=hD.two;exact Ext.two (aZ.here hD)
theorem xl(hK:cc kp K S ord af tr C)(b:Bool):Fc zQ 125 #[ptr kp,.bool b] C (jj kp K S ord af tr (λ_=>b)):=by
 have hi:=hK.ok.mid.int;refine aW λg=>uy (ae.bB (Br.no ?_));intro J2 h2;have go:∀r:Nat,r<2->(S r=λ_=>b)->J2 [u32 r] C:=λr hr hf=>by
  refine h2 _ _ λ_=>?_;refine aa.fq (pF hK (r:=r) (.inl hr) (λh=>by omega)) ?_;rintro v H ⟨rfl,K',gU,hm⟩;exact aZ.here (.inl ⟨r,K',S,rfl,gU,⟨hm.n,hm.cap,λs d h=>by rw[hm.N];exact h,λ_ _=>rfl,.inl hr,hf,λs=>by rw[hm.hold];split<;>rfl⟩⟩)
 cases b
 ·exact Br.no (JE.mk (go 0 zD (funext hi.zero)))
 exact Br.yes (JE.mk (go 1 zD (funext hi.one)))
theorem fF(iy:cc kp K1 S1 ord af tr C){eG:zL}{C2:Hp}(dP:cc kp K2 S2 ord af eG C2){ys:zL}(h:aI K1 S1 K2 S2 ys){x:Nat}(hx:2<=x->K1.hold x≠0):au.live K2.N x/\S2 x=S1 x:=by
 by_cases h2:2<=x
 ·exact⟨.inr (dP.ok.mid.held x (by rw[h.hold];have:=hx h2;omega)),h.fn x (hx h2)⟩
 refine⟨.inl zO,?_⟩;have Gu:x=0\/x=1:=by omega
 rcases Gu with rfl|rfl
 ·rw[funext iy.ok.mid.int.zero,funext dP.ok.mid.int.zero]
 rw[funext iy.ok.mid.int.one,funext dP.ok.mid.int.one]
theorem cc.jH(hK:cc kp K S ord af tr C):∀s,K.hold s≠0->au.live K.N s:=λs hs=>.inr (hK.ok.mid.held s hs)
theorem lB.node{M:Hp}{t:Tr}{p:zV}(h:lB M t p):∃(b:Nat) (sl:zV) (ps:zL),p=bC b/\(b,.cells #[nI t.kd,nI t.vl,sl] 101 zZ)∈M/\Sl 1 M sl (ps.map λq=>[bC q])/\ps.length=t.kids.length/\∀(i:Nat) (k:Tr) (q:Nat),t.kids[i]? =some k->ps[i]? =some q->lB M k (bC q):=by
 cases h with
 | @c k b h=>exact⟨b,_,[],rfl,h,Sl.nil _ _,rfl,λi k q h1=>by simp[Tr.kids]at h1⟩
 | @v n b h=>exact⟨b,_,[],rfl,h,Sl.nil _ _,rfl,λi k q h1=>by simp[Tr.kids]at h1⟩
 | @no a b d x h h2 h3=>exact⟨b,_,[x],rfl,h,(Sl.dV (T:=64) (ay.made [[bC x]] (λr hr=>by simp only[xaf,xat,xaZ]at hr;first|(rcases hr with rfl|rfl|rfl<;>rfl)|(rcases hr with rfl|rfl<;>rfl)|(subst hr;rfl))) zD).mono (λy hy=>by cases hy with|head=>exact h2|tail _ h=>cases h),rfl,λi k q h1 h2=>by rcases i with _|_|_|i<;>simp[Tr.kids]at h1 h2<;>(obtain rfl:=h1;obtain rfl:=h2;assumption)⟩
 | @bin k a a' b d x y h h2 h3 h4=>exact⟨b,_,[x,y],rfl,h,(Sl.dV (T:=64) (ay.made [[bC x],[bC y]] (λr hr=>by simp only[xaf,xat,xaZ]at hr;first|(rcases hr with rfl|rfl|rfl<;>rfl)|(rcases hr with rfl|rfl<;>rfl)|(subst hr;rfl))) zD).mono (λy hy=>by cases hy with|head=>exact h2|tail _ h=>cases h),rfl,λi k q h1 h2=>by rcases i with _|_|_|i<;>simp[Tr.kids]at h1 h2<;>(obtain rfl:=h1;obtain rfl:=h2;assumption)⟩
 | @ite a a' a2 b d x y z h h2 h3 h4 h5=>exact⟨b,_,[x,y,z],rfl,h,(Sl.dV (T:=64) (ay.made [[bC x],[bC y],[bC z]] (λr hr=>by simp only[xaf,xat,xaZ]at hr;first|(rcases hr with rfl|rfl|rfl<;>rfl)|(rcases hr with rfl|rfl<;>rfl)|(subst hr;rfl))) zD).mono (λy hy=>by cases hy with|head=>exact h2|tail _ h=>cases h),rfl,λi k q h1 h2=>by rcases i with _|_|_|i<;>simp[Tr.kids]at h1 h2<;>(obtain rfl:=h1;obtain rfl:=h2;assumption)⟩
end
def p7(t:Tr):Prop:=∀{kp:Nat} {K:Kd} {S:Nat->au.Fn} {ord af tr:zL} {C M:Hp} {p:zV},cc kp K S ord af tr C->lB M t p->t.Fit K.n->(∀s,K.hold s+t.dI+2^K.n<=65535)->
 Fc zQ 76 #[ptr kp,p] (M++C) (λw H=>∃C',H=M++C'/\B1 kp K S ord af t.fn t.ei w C')
theorem Fm.Tr.Af(t:Tr):t.kids.length<=t.dI/\t.kids.length<=3/\∀i k,t.kids[i]? =some k->i+k.dI<=t.dI:=by
 cases t with
 |c k=>exact⟨xaE _,xaE _,λi k h=>by simp[Tr.kids]at h⟩
 |v k=>exact⟨xaE _,xaE _,λi k h=>by simp[Tr.kids]at h⟩
 |no a=>
  refine⟨a.ep,by show 1<=3;decide,λi k h=>?_⟩;rcases i with _|i<;>simp[Tr.kids]at h;subst h;show 0+a.dI<=a.dI;omega
 |bin k a b=>
  have h1:=a.ep;have h2:=b.ep;refine⟨by show 2<=a.dI+b.dI;omega,by show 2<=3;decide,λi k h=>?_⟩;rcases i with _|_|i<;>simp[Tr.kids]at h
  ·subst h;show 0+a.dI<=a.dI+b.dI;omega
  subst h;show 0+1+b.dI<=a.dI+b.dI;omega
 |ite a b d=>
  have h1:=a.ep;have h2:=b.ep;have h3:=d.ep;refine⟨by show 3<=a.dI+b.dI+d.dI;omega,by show 3<=3;decide,λi k h=>?_⟩;rcases i with _|_|_|i<;>simp[Tr.kids]at h
  ·subst h;show 0+a.dI<=a.dI+b.dI+d.dI;omega
  ·subst h;show 0+1+b.dI<=a.dI+b.dI+d.dI;omega
  subst h;show 0+1+1+d.dI<=a.dI+b.dI+d.dI;omega
theorem Fm.Tr.Ag{t:Tr}{n:Nat}(h:t.Fit n):∀k∈t.kids,k.Fit n:=by
 intro k hk;cases t with
 |c=>cases hk
 |v=>cases hk
 |no a=>simp only[Tr.kids,xaf,xat,xaZ]at hk;subst hk;exact h
 |bin k a b=>simp only[Tr.kids,xaf,xat,xaZ]at hk;rcases hk with rfl|rfl;exact h.2.1;exact h.2.2
 |ite a b d=>simp only[Tr.kids,xaf,xat,xaZ]at hk;rcases hk with rfl|rfl|rfl;exact h.1;exact h.2.1;exact h.2.2
set_option maxHeartbeats 2000000 in
theorem eU(t:Tr)(ih:∀k∈t.kids,p7 k):p7 t:=by
 intro kp K S ord af tr C M p hK ht hf hB;obtain⟨b,sl,ps,rfl,hn,Hs,vg,hps⟩:=ht.node;obtain⟨Ma,jG,hkv⟩:=t.Af;refine aW λg=>x7 λb1 _ b3 _=>Nil.ptr (Ld.u (.tail _ (.tail _ (xac _ hn))) (Hs.c6 ?_));rw[xav];refine⟨λvs H=>∃(i:Nat) (K1:Kd) (S1:Nat->au.Fn) (EA:zL) (C1:Hp) (xs:zL) (v:zV) (L:Hp),vs=[nI i]/\i<=ps.length/\xs.length=i/\H=(b3,.cells #[v] 189 zZ)::(b1,.cells #[ptr kp] 45 zZ)::(L++(M++C1))/\aO 82 .u32 v (iw xs) L/\cc kp K1 S1 ord af EA C1/\aI K S K1 S1 xs/\(∀(j x:Nat) (k:Tr),xs[j]? =some x->t.kids[j]? =some k->au.live K1.N x/\S1 x=k.fn),λvs _=>ps.length-dR vs 0,
  JE.mk ⟨0,K,S,tr,C,[],_,[],rfl,xaE _,rfl,rfl,aO.nil,hK,.refl,λj x k h=>by simp at h⟩,?_⟩
 rintro IP H ⟨i,K1,S1,EA,C1,xs,v,L,⟨⟩,hi,hxs,rfl,hv,iy,qZ,An⟩ gs;have Mr:∀s,K1.hold s<=K.hold s+i:=λs=>by have:=qZ.le s;omega
 have Ns:∀x∈xs,x<4294967296:=λx hx=>by
  obtain⟨j,hj,rfl⟩:=List.getElem_of_mem hx;have:=iy.cH (An j xs[j] (t.kids[j]' zO) (xad hj) (xad _)).1;omega
 have hsub:∀x∈xs,t.ei (S1 x):=λx hx=>by
  obtain⟨j,hj,rfl⟩:=List.getElem_of_mem hx;rw[(An j xs[j] (t.kids[j]' zO) (xad hj) (xad _)).2];exact Tr.qn (xaN _) (Tr.oc _)
 /- the parts let go, and out -/
 have leave:∀(K2:Kd) (S2:Nat->au.Fn) (eG:zL) (C2:Hp) (ys:zL) (Kc:Hp->Prop),cc kp K2 S2 ord af eG C2->aI K S K2 S2 (xs++ys)->(∀K3 C3 y5,cc kp K3 S2 ord af y5 C3->aI K S K3 S2 ys->(y5=eG\/y5=[])->Kc ((b3,.cells #[v] 189 zZ)::(b1,.cells #[ptr kp] 45 zZ)::(L++(M++C3))))->
   gC zQ g 124 #[ptr b3,ptr b1] ((b3,.cells #[v] 189 zZ)::(b1,.cells #[ptr kp] 45 zZ)::(L++(M++C2))) Kc:=λK2 S2 eG C2 ys Kc dP yN hk=>by
  refine gC.fn .here (Bd hv yN dP Ns zO) ?_;rintro _ _ ⟨K3,C3,y5,rfl,qb,Ei,wT⟩;exact hk K3 C3 y5 qb Ei wT
 have bad:∀(C3:Hp) (w:zV),B1 kp K S ord af t.fn t.ei w C3->aZ (λw H=>∃C',H=M++C'/\B1 kp K S ord af t.fn t.ei w C') (.returned w) ((b3,.cells #[v] 189 zZ)::(b1,.cells #[ptr kp] 45 zZ)::(L++(M++C3))):=λC3 w h=>aZ.mk (.skip (.skip .right)) ⟨C3,rfl,h⟩;refine ae.fN (Br.dec (λhlt=>?_) (λhge=>?_))
 ·have hq:ps[i]? =some ps[i]:=xad hlt;have HG:t.kids[i]? =some (t.kids[i]' zO):=xad _;generalize (t.kids[i]' zO)=k at HG;have hkm:k∈t.kids:=xaJ HG;refine ai.sl Hs (r:=[bC ps[i]]) (by rw[xaB,hq];rfl) λa ha=>Ld.at ha (λy hy=>.tail _ (.tail _ (xaa _ (xac _ hy)))) (Ld.mk (.tail _ (.head _)) rfl ?_);have NN:=hkv i k HG;refine aa.fn (.cons (.cons (.app .here))) (ih k hkm iy (hps i k _ HG hq) (by rw[qZ.n];exact Tr.Ag hf k hkm) (λs=>by rw[qZ.n];have:=hB s;have:=Mr s;omega)) ?_;rintro w _ ⟨C2,rfl,hb⟩;rcases hb with⟨x,K2,S2,eG,rfl,dP,yN,vi,kA,_⟩|⟨rfl,⟨K2,S2,eG,dP,yN⟩,hfit⟩
  ·refine Ext.mk rfl (Ext.mk rfl (ae.nM (b:=0) (Br.F (Ld.mk (.head _) rfl ?_))));refine ak.int (e:=82) zK zK zK λbx=>?_;refine hv.n8 (x:=(x:Int)) (.cons (.cons (.cons .left))) (by exact .head _) (by rw[aQ];omega) (by rw[aQ];omega) λv' L' sC=>?_;refine St.one (c':=#[v']) (.tail (.head _)) sC.one (show(0:Nat)<1 by decide) rfl (ae.inc (aR.of .tail ⟨i+1,K2,S2,eG,C2,xs++[x],v',L',rfl,hlt,by simp[hxs],rfl,by rw[dB];exact sC,dP,qZ.more yN,?_⟩ (by simp only[dR];omega)));intro j y k' hy hk';by_cases hj:j<xs.length
   ·rw[xaQ hj]at hy;obtain⟨h1,h2⟩:=An j y k' hy hk';have:=fF iy dP yN (x:=y) (λNq=>by
     rw[qZ.hold,xae Nq];have:=xcc.2 (xaJ hy);omega)
    exact⟨this.1,this.2.trans h2⟩
   have Gg:j=i:=by
    have:=(xag.1 hy).1;simp only[xaq,xbk]at this;omega
   subst Gg;rw[xbS zO,hxs,xcj]at hy;rw[HG]at hk';cases hy;cases hk';exact⟨vi,kA⟩
  refine Ext.mk rfl (Ext.mk rfl (ae.nM (b:=0) (Br.T ?_)));refine leave K2 S2 eG C2 [] _ dP (qZ.more yN) λK3 C3 y5 qb Ei _=>?_;refine bad C3 _ (.inr ⟨rfl,⟨K3,S2,y5,qb,Ei⟩,λhF=>hfit ?_⟩);rw[qZ.n,qZ.cap];exact Fits.mono (λg hg=>cr (λg h=>by
   rcases h with h|h
   ·exact qZ.held hsub g h
   exact .inr (Tr.qn hkm h)) hg) hF
 have NW:i=ps.length:=by omega
 subst NW;have Em:∀s,K1.hold s+2^K1.n<=65535:=λs=>by rw[qZ.n];have:=hB s;have:=Mr s;omega
 /- the operation done -/
 have fin:∀(w:zV) (C2:Hp) (R:Hp),aM ((b3,.cells #[v] 189 zZ)::(b1,.cells #[ptr kp] 45 zZ)::(L++(M++C2))) R->jj kp K1 S1 ord af EA t.fn w C2->
   aM ((b3,.cells #[v] 189 zZ)::(b1,.cells #[ptr kp] 45 zZ)::(L++(M++C2))) R/\Ext 0 w λx=>Ext 1 w λe=>gC zQ g 124 #[ptr b3,ptr b1] ((b3,.cells #[v] 189 zZ)::(b1,.cells #[ptr kp] 45 zZ)::(L++(M++C2))) λH=>aZ (λw H=>∃C',H=M++C'/\B1 kp K S ord af t.fn t.ei w C') (.returned (.tuple #[x,e])) H:=by
  intro w C2 R he hD;refine⟨he,?_⟩;rcases hD with⟨x,K2,S2,rfl,dP,hg⟩|⟨rfl,⟨K2,S2,eG,dP,_,hk⟩,hfit⟩
  ·refine Ext.mk rfl (Ext.mk rfl (leave K2 S2 [] C2 [x] _ dP (qZ.grow iy.jH hg) λK3 C3 y5 qb Ei wT=>bad C3 _ (.inl ⟨x,K3,S2,y5,rfl,qb,Ei,?_,hg.is,wT.elim id id⟩)));by_cases h2:2<=x
   ·exact .inr (qb.ok.mid.held x (by rw[Ei.hold,xae h2];simp))
   exact .inl zO
  refine Ext.mk rfl (Ext.mk rfl (leave K2 S2 eG C2 [] _ dP (by rw[xaR];exact qZ.kept hk) λK3 C3 y5 qb Ei _=>bad C3 _ (.inr ⟨rfl,⟨K3,S2,y5,qb,Ei⟩,λhF=>hfit ?_⟩)));rw[qZ.n,qZ.cap];exact Fits.mono (λg hg=>cr (λg h=>by
   rcases h with h|h
   ·exact qZ.held hsub g h
   subst h;exact .inr (Tr.oc t)) hg) hF
 have dF:∀C2:Hp,aM ((b3,.cells #[v] 189 zZ)::(b1,.cells #[ptr kp] 45 zZ)::(L++(M++C2))) ((b3,.cells #[v] 189 zZ)::(b1,.cells #[ptr kp] 45 zZ)::(L++M)):=λC2=>.cons (.cons (.cA .left L));have Gb:(b,Obj.cells #[nI t.kd,nI t.vl,sl] 101 zZ)∈(b3,Obj.cells #[v] 189 zZ)::(b1,Obj.cells #[ptr kp] 45 zZ)::(L++M):=.tail _ (.tail _ (xaa _ hn));refine Nil.ptr (Ld.u (.tail _ (.tail _ (xaa _ (xac _ hn)))) λLD Lh=>?_);have get:∀{j x:Nat} {Kc:zV->Prop},xs[j]? =some x->Kc (u32 x)->ai 1 v (iv ((j:Nat):Int)) λp=>Ld ((b3,.cells #[v] 189 zZ)::(b1,.cells #[ptr kp] 45 zZ)::(L++M)) p Kc:=λhx hk=>hv.ld (gO hx) (λy hy=>.tail _ (.tail _ (xac _ hy))) hk;have L2:LD [.bool (decide (t.kd=1\/t.kd=2))] ((b3,.cells #[v] 189 zZ)::(b1,.cells #[ptr kp] 45 zZ)::(L++(M++C1))):=by
  refine Lh _ _ λ_=>?_;have hole:∀Z:Hp,bf Z ((b3,Obj.cells #[v] 189 zZ)::(b1,Obj.cells #[ptr kp] 45 zZ)::(L++(M++Z))) (λX=>(b3,Obj.cells #[v] 189 zZ)::(b1,Obj.cells #[ptr kp] 45 zZ)::(L++(M++X))):=λZ=>.cons (.cons (.app (.app .here)));have jW:(b1,Obj.cells #[ptr kp] 45 zZ)∈(b3,Obj.cells #[v] 189 zZ)::(b1,Obj.cells #[ptr kp] 45 zZ)::(L++M):=.tail _ (.head _);have jF:(b3,Obj.cells #[v] 189 zZ)∈(b3,Obj.cells #[v] 189 zZ)::(b1,Obj.cells #[ptr kp] 45 zZ)::(L++M):=.head _;cases t with
  |c k=>
   refine Br.Io hf (DR.of (dF C1) (Ld.mk jW rfl (Nil.ptr (Ld.u Gb (ae.bN (b:=2) (aa.fn (hole C1) (xl iy _) λw C2 hD=>fin w C2 _ (dF C2) hD))))))
  |v m=>
   dsimp only[Tr.kd,Tr.vl]at Gb⊢;refine Br.F (ae.bN (b:=3) (Br.T (DR.of (dF C1) (Ld.mk jW rfl (Nil.ptr (Ld.u Gb (aa.fn (hole C1) (DE iy (v:=m) (by rw[qZ.n];exact hf) (λs=>by have:=Em s;have:1<=2^K1.n:=xcH;omega)) λw C2 hD=>fin w C2 _ (dF C2) hD)))))))
  |no a=>
   obtain⟨x,hx⟩:∃x,xs[0]? =some x:=⟨_,xad (by rw[hxs,vg];show 0<1;decide)⟩;obtain⟨l1,s1⟩:=An 0 x a hx rfl;dsimp only[Tr.kd,Tr.vl]at Gb⊢;refine Br.F (ae.bN (b:=3) (Br.F (ae.bN (b:=4) (Br.T (DR.of (dF C1) (Ld.mk jW rfl (Ld.mk jF rfl (get (j:=0) hx (aa.fn (hole C1) (vR iy l1 Em) λw C2 hD=>fin w C2 _ (dF C2) (by rw[s1]at hD;exact hD))))))))))
  |bin k a b'=>
   obtain⟨x,hx⟩:∃x,xs[0]? =some x:=⟨_,xad (by rw[hxs,vg];show 0<2;decide)⟩;obtain⟨y,hy⟩:∃y,xs[1]? =some y:=⟨_,xad (by rw[hxs,vg];show 1<2;decide)⟩;obtain⟨l1,s1⟩:=An 0 x a hx rfl;obtain⟨l2,s2⟩:=An 1 y b' hy rfl;have NO:=hf.1;have FM:k=5\/k=6\/k=7\/k=8\/k=9:=by omega
   dsimp only[Tr.kd,Tr.vl]at Gb⊢;rcases FM with rfl|rfl|rfl|rfl|rfl
   ·refine Br.F (ae.bN (b:=3) (Br.F (ae.bN (b:=4) (Br.F (ae.bN (b:=5) (Br.T (DR.of (dF C1) (Ld.mk jW rfl (Ld.mk jF rfl (get (j:=0) hx (Ld.mk jF rfl (get (j:=1) hy (aa.fn (hole C1) (vH iy l1 l2 Em) λw C2 hD=>fin w C2 _ (dF C2) (by rw[s1,s2]at hD;exact hD))))))))))))))
   ·refine Br.F (ae.bN (b:=3) (Br.F (ae.bN (b:=4) (Br.F (ae.bN (b:=5) (Br.F (ae.bN (b:=6) (Br.T (DR.of (dF C1) (Ld.mk jW rfl (Ld.mk jF rfl (get (j:=0) hx (Ld.mk jF rfl (get (j:=1) hy (aa.fn (hole C1) (vA iy l1 l2 Em) λw C2 hD=>fin w C2 _ (dF C2) (by rw[s1,s2]at hD;exact hD))))))))))))))))
   ·refine Br.F (ae.bN (b:=3) (Br.F (ae.bN (b:=4) (Br.F (ae.bN (b:=5) (Br.F (ae.bN (b:=6) (Br.F (ae.bN (b:=7) (Br.T (DR.of (dF C1) (Ld.mk jW rfl (Ld.mk jF rfl (get (j:=0) hx (Ld.mk jF rfl (get (j:=1) hy (aa.fn (hole C1) (A6 iy l1 l2 Em) λw C2 hD=>fin w C2 _ (dF C2) (by rw[s1,s2]at hD;exact hD))))))))))))))))))
   ·refine Br.F (ae.bN (b:=3) (Br.F (ae.bN (b:=4) (Br.F (ae.bN (b:=5) (Br.F (ae.bN (b:=6) (Br.F (ae.bN (b:=7) (Br.F (ae.bN (b:=8) (Br.T (DR.of (dF C1) (Ld.mk jW rfl (Ld.mk jF rfl (get (j:=0) hx (Ld.mk jF rfl (get (j:=1) hy (aa.fn (hole C1) (eW iy (op:=11) zD l1 l2 Em) λw C2 hD=>fin w C2 _ (dF C2) (by rw[s1,s2]at hD;exact hD))))))))))))))))))))
   refine Br.F (ae.bN (b:=3) (Br.F (ae.bN (b:=4) (Br.F (ae.bN (b:=5) (Br.F (ae.bN (b:=6) (Br.F (ae.bN (b:=7) (Br.F (ae.bN (b:=8) (Br.F (ae.bN (b:=9) (Br.T (DR.of (dF C1) (Ld.mk jW rfl (Ld.mk jF rfl (get (j:=0) hx (Ld.mk jF rfl (get (j:=1) hy (aa.fn (hole C1) (eW iy (op:=9) zD l1 l2 Em) λw C2 hD=>fin w C2 _ (dF C2) (by rw[s1,s2]at hD;exact hD))))))))))))))))))))))
  |ite a b' d=>
   obtain⟨x,hx⟩:∃x,xs[0]? =some x:=⟨_,xad (by rw[hxs,vg];show 0<3;decide)⟩;obtain⟨y,hy⟩:∃y,xs[1]? =some y:=⟨_,xad (by rw[hxs,vg];show 1<3;decide)⟩;obtain⟨z,hz⟩:∃z,xs[2]? =some z:=⟨_,xad (by rw[hxs,vg];show 2<3;decide)⟩;obtain⟨l1,s1⟩:=An 0 x a hx rfl;obtain⟨l2,s2⟩:=An 1 y b' hy rfl;obtain⟨l3,s3⟩:=An 2 z d hz rfl;dsimp only[Tr.kd,Tr.vl]at Gb⊢;refine Br.F (ae.bN (b:=3) (Br.F (ae.bN (b:=4) (Br.F (ae.bN (b:=5) (Br.F (ae.bN (b:=6) (Br.F (ae.bN (b:=7) (Br.F (ae.bN (b:=8) (Br.F (ae.bN (b:=9) (Br.F (DR.of (dF C1) (Ld.mk jW rfl (Ld.mk jF rfl (get (j:=0) hx (Ld.mk jF rfl (get (j:=1) hy (Ld.mk jF rfl (get (j:=2) hz (aa.fn (hole C1) (DI iy l1 l2 l3 Em) λw C2 hD=>fin w C2 _ (dF C2) (by rw[s1,s2,s3]at hD;exact hD))))))))))))))))))))))))
 refine ae.bN (b:=1) (Br.dec (λh1=>?_) (λh1=>?_))
 ·rw[show(decide (t.kd=1))=decide (t.kd=1\/t.kd=2)by simp[h1]];exact JE.mk L2
 refine ae.bN (b:=2) ?_;rw[show(decide (t.kd=2))=decide (t.kd=1\/t.kd=2)by simp[h1]];exact JE.mk L2
theorem BF(t:Tr):p7 t:=by
 induction t with
 |c k=>exact eU _ λa ha=>by cases ha
 |v k=>exact eU _ λa ha=>by cases ha
 |no a i1=>
  exact eU _ λk hk=>by
   simp only[Tr.kids,xaf,xat,xaZ]at hk;subst hk;exact i1
 |bin n a b i1 i2=>
  exact eU _ λk hk=>by
   simp only[Tr.kids,xaf,xat,xaZ]at hk;rcases hk with rfl|rfl
   ·exact i1
   exact i2
 |ite a b d i1 i2 i3=>
  exact eU _ λk hk=>by
   simp only[Tr.kids,xaf,xat,xaZ]at hk;rcases hk with rfl|rfl|rfl
   ·exact i1
   ·exact i2
   exact i3
theorem Fm.cu.len{p:Nat}{l:List UInt8}{o:List Tok}(h:cu p l o):o.length<=l.length+1:=by
 induction h with
 |fin=>simp
 |blank _ ih=>simp only[xai];omega
 |wrong=>simp
 |tok hb h _ ih=>
  have:=jr h;simp only[xai,xbu]at ih this⊢;omega
theorem A5{kp:Nat}{K:Kd}{S:Nat->au.Fn}{ord af tr:zL}{C:Hp}(hK:cc kp K S ord af tr C)(l:List UInt8)(hB:∀s,K.hold s+32769+2^K.n<=65535):
  Fc zQ 34 #[ptr kp,ah l] C (λr H=>(H=C/\∃at_ e,Reads K.n l (.bad at_ e)/\r=.tuple #[u32 0,nI at_,nI e])\/∃t l' x e,Reads K.n l (.ok t l')/\r=.tuple #[u32 x,nI 0,nI e]/\B1 kp K S ord af t.fn t.ei (.tuple #[u32 x,nI e]) H):=by
 refine aW λg=>yq (ae.bB (Br.no (aa.eq (mN hK.rep) (aa.fn .here (xh l K.n C) ?_))));rintro r _ ⟨N,rfl,h|h⟩
 ·obtain⟨t,l',p,hr,rfl,ht⟩:=h;obtain⟨hf,hl⟩:=hr.wt λo ho=>ho.len;refine Ext.mk rfl (Ext.mk rfl (Ext.mk rfl (ae.nM (b:=0) (Br.F ?_))));refine aa.fn .here (BF t hK ht hf λs=>by have:=hB s;omega) ?_;rintro w _ ⟨C',rfl,hb⟩;rcases hb with⟨x,K',S',eH,rfl,h1⟩|⟨rfl,h1⟩
  ·exact Ext.mk rfl (Ext.mk rfl (aZ.mk .right (.inr ⟨t,l',x,0,hr,rfl,.inl ⟨x,K',S',eH,rfl,h1⟩⟩)))
  exact Ext.mk rfl (Ext.mk rfl (aZ.mk .right (.inr ⟨t,l',0,9,hr,rfl,.inr ⟨rfl,h1⟩⟩)))
 obtain⟨a,e,hr,rfl⟩:=h;have he:=hr.fit;exact Ext.mk rfl (Ext.mk rfl (Ext.mk rfl (ae.nM (b:=0) (Br.T (aZ.mk .right (.inl ⟨rfl,a,e,hr,rfl⟩)) he))))
def Lo:List UInt8:=[48,49,50,51,52,53,54,55,56,57,97,98,99,100,101,102,103,104,105,106,107,108,109,110,111,112,113,114,115,116,117,118,119,120,121,122]
theorem xg{n:Nat}(hn:n<10)(B:Hp):Rd zQ 215 #[nI n] B (· =ah [UInt8.ofNat (48+n)]):=by
 refine aW λg=>nx (ae.fN (b:=10) (Br.T (ae.inc ?_)));refine br.iR (l:=Lo) (i:=n) (j:=n+1) rfl zK rfl (.inr ⟨_,.i64,rfl,rfl⟩) (.inr ⟨_,.i64,rfl,rfl⟩) (Nat.le_succ _) (by show n+1<=36;omega) (bS.mk (.refl _) ?_);have:n=0\/n=1\/n=2\/n=3\/n=4\/n=5\/n=6\/n=7\/n=8\/n=9:=by omega
 rcases this with rfl|rfl|rfl|rfl|rfl|rfl|rfl|rfl|rfl|rfl<;>rfl
end
section
open Fm Sw
def dg(k:Nat):UInt8:=UInt8.ofNat (48+k)
theorem FJ{k:Nat}(h:k<10):(dg k).toNat=48+k:=by
 unfold dg;rw[xdq,xbb (by show 48+k<256;omega)]
def dec(n:Nat):List UInt8:=if n<10 then [dg n]else if n<100 then [dg (n/10),dg (n%10)]else if n<1000 then [dg (n/100),dg (n/10%10),dg (n%10)]else [dg (n/1000),dg (n/100%10),dg (n/10%10),dg (n%10)]
def xz:List UInt8:=[48,48,48,49,48,50,48,51,48,52,48,53,48,54,48,55,48,56,48,57,49,48,49,49,49,50,49,51,49,52,49,53,49,54,49,55,49,56,49,57,50,48,50,49,50,50,50,51,50,52,50,53,50,54,50,55,50,56,50,57,51,48,51,49,51,50,51,51,51,52,51,53,51,54,51,55,51,56,51,57,52,48,52,49,52,50,52,51,52,52,52,53,52,54,52,55,52,56,52,57,53,48,53,49,53,50,53,51,53,52,53,53,53,54,53,55,53,56,53,57,54,48,54,49,54,50,54,51,54,52,54,53,54,54,54,55,54,56,54,57,55,48,55,49,55,50,55,51,55,52,55,53,55,54,55,55,55,56,55,57,56,48,56,49,56,50,56,51,56,52,56,53,56,54,56,55,56,56,56,57,57,48,57,49,57,50,57,51,57,52,57,53,57,54,57,55,57,56,57,57]
def JR:zL:=[1,10,100,1000,10000,100000,1000000,10000000,100000000,1000000000,10000000000,100000000000,1000000000000,10000000000000,100000000000000,1000000000000000,10000000000000000,100000000000000000,1000000000000000000,10000000000000000000]
def powC:Array zV:=(JR.map λ(x:Nat)=>Value.int .u64 (x:Int)).toArray
def CS(n:Nat):Nat:=if n<1000 then 3 else 4
theorem FK:(List.range 100).all (λk=>xz[2*k]? ==some (dg (k/10)) &&xz[2*k+1]? ==some (dg (k%10)) && (xz.take (2*k+2)).drop (2*k)==[dg (k/10),dg (k%10)])=true:=by decide+kernel
theorem vK{k:Nat}(h:k<100):xz[2*k]? =some (dg (k/10))/\xz[2*k+1]? =some (dg (k%10))/\(xz.take (2*k+2)).drop (2*k)=[dg (k/10),dg (k%10)]:=by
 have:=xb2.1 FK k (xaP.2 h);simp only[xam,xcn]at this;exact⟨this.1.1,this.1.2,this.2⟩
theorem wR{n r:Nat}(h1:100<=n)(h2:n<10000)(h:lH n r):7<=r/\r<=14:=by
 have h6:=(h.gt (n:=6)).2 (by show 64<=n;omega);have Ig:¬14<r:=λh'=>by
  have:16384<=n:=(h.gt (n:=14)).1 h';omega
 omega
theorem CQ{n:Nat}(h1:100<=n)(h2:n<10000){B:Hp}{T:TypeId}{fz:Nat×Nat}(hG:(1,Obj.cells powC T fz)∈B):Rd zQ 216 #[.int .u64 (n:Int)] B (· =nI (CS n)):=by
 refine aW λg=>tq (aa.rq (Aa zO B) ?_);rintro _ ⟨r,hr,rfl⟩;have PE:7<=r/\r<=14:=wR h1 h2 hr;refine aa.eq (v:=nI (r*78913/262144)) (B:=B) (aW λg=>s6 (ae.pA (b:=78913) (by simp only[cv];omega) (ae.zi (b:=18) (by simp only[cv];omega) (bS.mk (.refl _) ?_)))) ?_
 ·rw[xa8]
 have fin:∀L d:Nat,powC[0+L*1]? =some (.int .u64 (d:Int))->L<5->L+(if d<=n then 1 else 0)=CS n->di 20 1 (.pointer (some ⟨1,0,none⟩)) (nI L) λv5=>
   Ld B v5 λv6=>ae .num .geq (.int .u64 (n:Int)) v6 λv7=>
   aa zQ g 258 #[v7] B (λv8 H9=>ae .num .add (nI L) v8 λv10=>aZ (λv H=>H=B/\(λx=>x=nI (CS n)) v) (.returned v10) H9) (dj (aZ λv H=>H=B/\(λx=>x=nI (CS n)) v)):=λL d hL h5 he=>by
  refine di.nat zO (Ld.mk hG hL (ae.n5 ?_));refine aa.eq (v:=nI (if d<=n then 1 else 0)) (B:=B) (aW λg=>s5 (Br.dec (λh=>bS.mk (.refl _) (by rw[xae h];rfl)) (λh=>bS.mk (.refl _) (by rw[xab h];rfl)))) ?_;refine ae.iA (by simp only[cv];split<;>omega) (bS.mk (.refl _) ?_);rw[he]
 have hL:r*78913/262144=if r<=9 then 2 else if r<=13 then 3 else 4:=by
  have:r=7\/r=8\/r=9\/r=10\/r=11\/r=12\/r=13\/r=14:=by omega
  rcases this with rfl|rfl|rfl|rfl|rfl|rfl|rfl|rfl<;>rfl
 have hb:2^(r-1)<=n/\n<2^r:=⟨hr.2.resolve_left zO,hr.1⟩;rw[hL];by_cases h9:r<=9
 ·rw[xae h9];have:n<2^9:=xbr hb.2 (xaI zD h9);exact fin 2 100 rfl zD (by rw[xae h1];unfold CS;rw[xae zO])
 rw[xab h9];by_cases Mv:r<=13
 ·rw[xae Mv];refine fin 3 1000 rfl zD ?_;unfold CS;by_cases h:n<1000
  ·rw[xab zO,xae h]
  rw[xae zO,xab h]
 rw[xab Mv];have:2^13<=n:=xbs (xaI zD (show 13<=r-1 by omega)) hb.1;refine fin 4 10000 rfl zD ?_;unfold CS;rw[xab zO,xab zO]
abbrev IN:Array zV:=#[.int .u8 0,.int .u8 0,.int .u8 0,.int .u8 0,.int .u8 0,.int .u8 0,.int .u8 0,.int .u8 0,.int .u8 0,.int .u8 0,.int .u8 0,.int .u8 0,.int .u8 0,.int .u8 0,.int .u8 0,.int .u8 0,.int .u8 0,.int .u8 0,.int .u8 0,.int .u8 0,.int .u8 0,.int .u8 0,.int .u8 0,.int .u8 0]
theorem FG{n b:Nat}{T:TypeId}(h1:100<=n)(h2:n<1000):Fc zQ 217 #[.slice (some ⟨b,1,none⟩) 3 23,.int .u64 (n:Int)] [(b,Obj.cells IN T zZ)]
  (λ_ H=>H=[(b,Obj.cells #[.int .u8 0,.int .u8 ((dg (n/100)).toNat:Int),.int .u8 ((dg (n%100/10)).toNat:Int),.int .u8 ((dg (n%100%10)).toNat:Int),.int .u8 0,.int .u8 0,.int .u8 0,.int .u8 0,.int .u8 0,.int .u8 0,.int .u8 0,.int .u8 0,.int .u8 0,.int .u8 0,.int .u8 0,.int .u8 0,.int .u8 0,.int .u8 0,.int .u8 0,.int .u8 0,.int .u8 0,.int .u8 0,.int .u8 0,.int .u8 0] T zZ)]):=by
 obtain⟨d1,d2,_⟩:=vK (k:=n%100) zO;refine aW λg=>nw (bY.mk ?_);refine⟨λvs H=>vs=[.int .u64 (n:Int),nI 3]/\H=[(b,Obj.cells IN T zZ)],λ_ _=>0,JE.mk ⟨rfl,rfl⟩,?_⟩;rintro w6 w7 H ⟨⟨⟩,rfl⟩ gs;refine ae.n5 (a:=3) (b:=8) (Br.F (bj.nat (by simp only[cv];omega) λO3 B9=>?_));refine ae.n5 (a:=3) (b:=4) (Br.F (JE.mk (B9 _ _ _ λ_=>?_)));intro O2 Lc;refine ae.n5 (a:=3) (b:=2) (Br.T (ae.CB (b:=100) zD (ae.pA (b:=2) (by simp only[cv];omega) (ae.FI (b:=100) (by simp only[cv];omega) zD ?_))));rw[xbf (n%100) 2];refine DR.of (R:=[]) .tail (ae.ju (a:=3) (b:=1) zD zD (ae.ju (a:=3) (b:=2) zD zD (ae.iA (b:=1) (by simp only[cv];omega) ?_)));refine aV.of (l:=xz) d2 (aV.of (l:=xz) d1 (ai.nat (j:=2) zD (St.one (c':=#[.int .u8 0,.int .u8 0,.int .u8 0,.int .u8 ((dg (n%100%10)).toNat:Int),.int .u8 0,.int .u8 0,.int .u8 0,.int .u8 0,.int .u8 0,.int .u8 0,.int .u8 0,.int .u8 0,.int .u8 0,.int .u8 0,.int .u8 0,.int .u8 0,.int .u8 0,.int .u8 0,.int .u8 0,.int .u8 0,.int .u8 0,.int .u8 0,.int .u8 0,.int .u8 0]) (.head _) rfl (show 3<24 by decide) rfl ?_)));refine⟨.tail,?_⟩;refine ai.nat (j:=1) zD (St.one (c':=#[.int .u8 0,.int .u8 0,.int .u8 ((dg (n%100/10)).toNat:Int),.int .u8 ((dg (n%100%10)).toNat:Int),.int .u8 0,.int .u8 0,.int .u8 0,.int .u8 0,.int .u8 0,.int .u8 0,.int .u8 0,.int .u8 0,.int .u8 0,.int .u8 0,.int .u8 0,.int .u8 0,.int .u8 0,.int .u8 0,.int .u8 0,.int .u8 0,.int .u8 0,.int .u8 0,.int .u8 0,.int .u8 0]) (.head _) rfl (show 2<24 by decide) rfl ?_);refine ae.ju (a:=3) (b:=2) zD zD (JE.mk (Lc _ _ _ λ_=>?_));refine ae.mY (a:=1) (b:=0) (Br.T (ae.iA (a:=48) (by simp only[cv];omega) (bj.nat (by simp only[cv];omega) ?_)));have e:((48+n/100:Nat):Int)=((dg (n/100)).toNat:Int):=by rw[FJ zO]
 rw[e];refine ai.nat (j:=0) zD (St.one (c':=#[.int .u8 0,.int .u8 ((dg (n/100)).toNat:Int),.int .u8 ((dg (n%100/10)).toNat:Int),.int .u8 ((dg (n%100%10)).toNat:Int),.int .u8 0,.int .u8 0,.int .u8 0,.int .u8 0,.int .u8 0,.int .u8 0,.int .u8 0,.int .u8 0,.int .u8 0,.int .u8 0,.int .u8 0,.int .u8 0,.int .u8 0,.int .u8 0,.int .u8 0,.int .u8 0,.int .u8 0,.int .u8 0,.int .u8 0,.int .u8 0]) (.head _) rfl (show 1<24 by decide) rfl ?_);exact aZ.mk (.refl _) rfl
theorem FF{n b:Nat}{T:TypeId}(h1:1000<=n)(h2:n<10000):Fc zQ 217 #[.slice (some ⟨b,1,none⟩) 4 23,.int .u64 (n:Int)] [(b,Obj.cells IN T zZ)]
  (λ_ H=>H=[(b,Obj.cells #[.int .u8 0,.int .u8 ((dg (n/100/10)).toNat:Int),.int .u8 ((dg (n/100%10)).toNat:Int),.int .u8 ((dg (n%100/10)).toNat:Int),.int .u8 ((dg (n%100%10)).toNat:Int),.int .u8 0,.int .u8 0,.int .u8 0,.int .u8 0,.int .u8 0,.int .u8 0,.int .u8 0,.int .u8 0,.int .u8 0,.int .u8 0,.int .u8 0,.int .u8 0,.int .u8 0,.int .u8 0,.int .u8 0,.int .u8 0,.int .u8 0,.int .u8 0,.int .u8 0] T zZ)]):=by
 obtain⟨d1,d2,_⟩:=vK (k:=n%100) zO;obtain⟨d3,d4,_⟩:=vK (k:=n/100) zO;refine aW λg=>nw (bY.mk ?_);refine⟨λvs H=>vs=[.int .u64 (n:Int),nI 4]/\H=[(b,Obj.cells IN T zZ)],λ_ _=>0,JE.mk ⟨rfl,rfl⟩,?_⟩;rintro w6 w7 H ⟨⟨⟩,rfl⟩ gs;refine ae.n5 (a:=4) (b:=8) (Br.F (bj.nat (by simp only[cv];omega) λO3 B9=>?_));refine ae.n5 (a:=4) (b:=4) (Br.T (ae.CB (b:=10000) zD (ae.FI (b:=10000) (by simp only[cv];omega) zD ?_)));rw[xbb h2,xcQ h2];refine ae.FI (b:=100) (by simp only[cv];omega) zD (ae.pA (b:=2) (by simp only[cv];omega) (ae.CB (b:=100) zD (ae.pA (b:=2) (by simp only[cv];omega) ?_)));rw[xbf (n%100) 2,xbf (n/100) 2];refine DR.of (R:=[]) .tail (ae.ju (a:=4) (b:=1) zD zD (ae.ju (a:=4) (b:=2) zD zD (ae.iA (b:=1) (by simp only[cv];omega) ?_)));refine aV.of (l:=xz) d2 (aV.of (l:=xz) d1 (ai.nat (j:=3) zD (St.one (c':=#[.int .u8 0,.int .u8 0,.int .u8 0,.int .u8 0,.int .u8 ((dg (n%100%10)).toNat:Int),.int .u8 0,.int .u8 0,.int .u8 0,.int .u8 0,.int .u8 0,.int .u8 0,.int .u8 0,.int .u8 0,.int .u8 0,.int .u8 0,.int .u8 0,.int .u8 0,.int .u8 0,.int .u8 0,.int .u8 0,.int .u8 0,.int .u8 0,.int .u8 0,.int .u8 0]) (.head _) rfl (show 4<24 by decide) rfl ?_)));refine⟨.tail,?_⟩;refine ai.nat (j:=2) zD (St.one (c':=#[.int .u8 0,.int .u8 0,.int .u8 0,.int .u8 ((dg (n%100/10)).toNat:Int),.int .u8 ((dg (n%100%10)).toNat:Int),.int .u8 0,.int .u8 0,.int .u8 0,.int .u8 0,.int .u8 0,.int .u8 0,.int .u8 0,.int .u8 0,.int .u8 0,.int .u8 0,.int .u8 0,.int .u8 0,.int .u8 0,.int .u8 0,.int .u8 0,.int .u8 0,.int .u8 0,.int .u8 0,.int .u8 0]) (.head _) rfl (show 3<24 by decide) rfl ?_);refine DR.of (R:=[]) .tail (ae.ju (a:=4) (b:=3) zD zD (ae.ju (a:=4) (b:=4) zD zD (ae.iA (b:=1) (by simp only[cv];omega) ?_)));refine aV.of (l:=xz) d4 (aV.of (l:=xz) d3 (ai.nat (j:=1) zD (St.one (c':=#[.int .u8 0,.int .u8 0,.int .u8 ((dg (n/100%10)).toNat:Int),.int .u8 ((dg (n%100/10)).toNat:Int),.int .u8 ((dg (n%100%10)).toNat:Int),.int .u8 0,.int .u8 0,.int .u8 0,.int .u8 0,.int .u8 0,.int .u8 0,.int .u8 0,.int .u8 0,.int .u8 0,.int .u8 0,.int .u8 0,.int .u8 0,.int .u8 0,.int .u8 0,.int .u8 0,.int .u8 0,.int .u8 0,.int .u8 0,.int .u8 0]) (.head _) rfl (show 2<24 by decide) rfl ?_)));refine⟨.tail,?_⟩;refine ai.nat (j:=0) zD (St.one (c':=#[.int .u8 0,.int .u8 ((dg (n/100/10)).toNat:Int),.int .u8 ((dg (n/100%10)).toNat:Int),.int .u8 ((dg (n%100/10)).toNat:Int),.int .u8 ((dg (n%100%10)).toNat:Int),.int .u8 0,.int .u8 0,.int .u8 0,.int .u8 0,.int .u8 0,.int .u8 0,.int .u8 0,.int .u8 0,.int .u8 0,.int .u8 0,.int .u8 0,.int .u8 0,.int .u8 0,.int .u8 0,.int .u8 0,.int .u8 0,.int .u8 0,.int .u8 0,.int .u8 0]) (.head _) rfl (show 1<24 by decide) rfl ?_);refine ae.ju (a:=4) (b:=4) zD zD (JE.mk (B9 _ _ _ λ_=>?_));intro O2 Lc;refine ae.n5 (a:=0) (b:=2) (Br.F (JE.mk (Lc _ _ _ λ_=>?_)));exact ae.mY (a:=0) (b:=0) (Br.F (aZ.mk (.refl _) rfl))
theorem oV{n:Nat}(hn:n<100)(B:Hp):Rd zQ 215 #[nI n] B (· =ah (dec n)):=by
 by_cases h10:n<10
 ·refine Fc.mono (xg h10 B) ?_;rintro v H ⟨e,rfl⟩;refine⟨e,?_⟩;unfold dec;rw[xae h10];rfl
 refine aW λg=>nx (ae.fN (b:=10) (Br.F (ae.pA (b:=2) (by simp only[cv];omega) (ae.pA (b:=2) (by simp only[cv];omega) (ae.iA (b:=2) (by simp only[cv];omega) ?_)))));rw[xbf n 2];refine br.iR (l:=xz) (i:=2*n) (j:=2*n+2) rfl zK rfl (.inr ⟨_,.i64,rfl,rfl⟩) (.inr ⟨_,.i64,rfl,rfl⟩) zO (by show 2*n+2<=200;omega) (bS.mk (.refl _) ?_);rw[(vK hn).2.2];unfold dec;rw[xab h10,xae hn]
theorem Bi{n:Nat}(hn:n<100)(B:Hp):Rd zQ 108 #[.int .u64 (n:Int)] B (· =ah (dec n)):=by
 refine aW λg=>uC (aa.eq (v:=ah (dec n)) (B:=B) (aW λg=>ua (aa.eq (v:=ah (dec n)) (B:=B) (aW λg=>tJ ?_) (bS.mk (.refl _) rfl))) (bS.mk (.refl _) rfl));refine ae.bN (a:=10) (b:=10) (Br.T (ae.fN (b:=100) (Br.T (bj.nat (by simp only[cv];omega) (aa.eq (oV hn B) (bS.mk (.refl _) rfl))))))
theorem Bn{n:Nat}(hn:n<10000){B:Hp}{T:TypeId}{fz:Nat×Nat}(hG:(1,Obj.cells powC T fz)∈B):Rd zQ 110 #[nI n] B (· =ah (dec n)):=by
 refine aW λg=>uB (aa.eq (v:=ah (dec n)) (B:=B) (aW λg=>tZ (aa.eq (v:=ah (dec n)) (B:=B) (aW λg=>tI ?_) (bS.mk (.refl _) rfl))) (bS.mk (.refl _) rfl));refine ae.bN (a:=10) (b:=10) (Br.T (ae.ET (a:=0) (bL.and (decide (n<100)) (λ_=>ae.fN (b:=100) ⟨rfl,rfl⟩) rfl λ_=>?_)));rw[xaL (xaE n),xcr];refine Br.dec (λh=>aa.eq (oV h B) (bS.mk (.refl _) rfl)) (λFC=>?_);intro b8 _;refine bj.nat (by simp only[cv];omega) λQc h11=>ae.fN (b:=0) (Br.F (JE.mk (h11 _ _ λ_=>?_)));refine aa.eq (CQ zO hn (.tail _ hG)) ?_;by_cases h3:n<1000
 ·rw[show CS n=3 from xae h3];refine ae.iA (a:=1) (b:=3) zD (br.p4 (e:=5) (i:=1) (j:=4) (n:=24) rfl zK zK rfl (.inr ⟨_,.i64,rfl,rfl⟩) (.inr ⟨_,.i64,rfl,rfl⟩) zD zD zD ?_);refine aa.fn (.left (C:=[_])) (FG zO h3) ?_;rintro _ _ rfl;refine ae.fN (b:=0) (Br.F (ae.iA (a:=1) (b:=3) zD (br.p4 (e:=5) (i:=1) (j:=4) (n:=24) rfl zK zK rfl (.inr ⟨_,.i64,rfl,rfl⟩) (.inr ⟨_,.i64,rfl,rfl⟩) zD zD zD ?_)));refine dH.cut (l:=dec n) (.head _) ?_ zD (λj u hu=>?_) (bS.mk .tail rfl)
  ·unfold dec;rw[xab zO,xab FC,xae h3];rfl
  have ed:dec n=[dg (n/100),dg (n%100/10),dg (n%100%10)]:=by
   unfold dec;rw[xab zO,xab FC,xae h3,show n/10%10=n%100/10 by omega,show n%100%10=n%10 by omega]
  rw[ed]at hu;rcases j with _|_|_|j
  ·cases hu;rfl
  ·cases hu;rfl
  ·cases hu;rfl
  simp at hu
 rw[show CS n=4 from xab h3];refine ae.iA (a:=1) (b:=4) zD (br.p4 (e:=5) (i:=1) (j:=5) (n:=24) rfl zK zK rfl (.inr ⟨_,.i64,rfl,rfl⟩) (.inr ⟨_,.i64,rfl,rfl⟩) zD zD zD ?_);refine aa.fn (.left (C:=[_])) (FF zO hn) ?_;rintro _ _ rfl;refine ae.fN (b:=0) (Br.F (ae.iA (a:=1) (b:=4) zD (br.p4 (e:=5) (i:=1) (j:=5) (n:=24) rfl zK zK rfl (.inr ⟨_,.i64,rfl,rfl⟩) (.inr ⟨_,.i64,rfl,rfl⟩) zD zD zD ?_)));have ed:dec n=[dg (n/100/10),dg (n/100%10),dg (n%100/10),dg (n%100%10)]:=by
  unfold dec;rw[xab zO,xab FC,xab h3,show n/10%10=n%100/10 by omega,show n%100%10=n%10 by omega,show n/1000=n/100/10 by omega]
 refine dH.cut (l:=dec n) (.head _) (by rw[ed];rfl) zD (λj u hu=>?_) (bS.mk .tail rfl);rw[ed]at hu;rcases j with _|_|_|_|j
 ·cases hu;rfl
 ·cases hu;rfl
 ·cases hu;rfl
 ·cases hu;rfl
 simp at hu
end
end Go.Proofs
namespace au
def dst(x y:Nat):Nat:=(x-y)+(y-x)
end au
namespace au
section
variable {m:Rm} {g:Nat}
theorem sA{ord:zL}{v n:Nat}(hp:ord.Perm (List.range n))(hv:v<n):ord.idxOf v<n:=by
 have h1:v∈ord:=hp.mem_iff.2 (xaP.2 hv);have h2:=List.idxOf_lt_length_of_mem h1;rwa [hp.length_eq,xbN]at h2
end
end au
set_option maxRecDepth 100000
namespace Go.Proofs
open Go Go.Sx Tryz
open au
section
variable {kp wp bx a b q gr sw p:Nat} {la:Int} {st:zV} {K:Kd} {S:Nat->au.Fn} {ord o tr:zL} {C:Hp} {dn:Bool}
def G4(dn:Bool)(j:Nat):Nat:=bif dn then j+1 else j-1
end
end Go.Proofs
namespace cI
open Go.Sx
def D5:zL->Nat
 | []=>0
 |x::r=>r.foldl min x
def so(n a:Nat):zL:=(List.range n).filter λv=> !a.testBit v
def has(n a:Nat):zL:=(List.range n).filter λv=>a.testBit v
def MC(n:Nat)(c:Nat->Nat->Nat):Nat->Nat->Nat
 |0,_=>0
 |f+1,a=>D5 ((so n a).map λv=>c a v+MC n c f (aK a v true))
def par(n:Nat)(c:Nat->Nat->Nat):Nat->Nat->Nat
 |0,_=>0
 |f+1,s=>D5 ((has n s).map λv=>c (aK s v false) v+par n c f (aK s v false))
def B(n:Nat)(c:Nat->Nat->Nat)(a:Nat):Nat:=MC n c n a
def W(n:Nat)(c:Nat->Nat->Nat)(s:Nat):Nat:=par n c n s
structure Used(n:Nat)(c:Nat->Nat->Nat)(U:Nat):Prop where
 zero:∀a v,v<n->a.testBit v=false->U.testBit v=false->c a v=0
 mask:∀a v,v<n->a.testBit v=false->c a v=c (a&&&U) v
def ord(n:Nat)(c:Nat->Nat->Nat):Nat->Nat->zL
 |0,_=>[]
 |f+1,a=>match(so n a).find? λv=>c a v+B n c (aK a v true)==B n c a with
  |some v=>v::ord n c f (aK a v true)
  |none=>[]
end cI
namespace cI
open Go.Sx
theorem fB{x u v:Nat}{b c:Bool}(h:u≠v):aK (aK x u b) v c=aK (aK x v c) u b:=by
 apply xa6;intro k;rw[aj,aj,aj,aj];by_cases e1:k=u<;>by_cases e2:k=v
 ·exact absurd (e1.symm.trans e2) h
 ·simp[e1,h]
 ·simp[e2,xbQ h]
 simp[e1,e2]
end cI
set_option maxRecDepth 100000
namespace Go.Proofs
open Go Go.Sx Tryz
def kp(x:Nat×Nat):zV:=.agg (aq .i64 [(x.1:Int),(x.2:Int)])
end Go.Proofs
namespace JB
abbrev It:=Int×Int
def prec(a b:It):Bool:=decide (a.2<b.2)||(a.2==b.2&&decide (a.1<b.1))
def E(V:Nat->It)(j:Nat):Prop:=prec (V j) (V ((j-1) /2))=false
def Ord(n:Nat)(V:Nat->It):Prop:=∀j,0<j->j<n->E V j
def at'(l:List It)(j:Nat):It:=l.getD j (0,0)
end JB
namespace JB
open Go Go.Sx
def enc(kd:IntKind)(a:It):List zV:=[.int kd a.1,.int .i64 a.2]
def idx(i:Nat):zV:=.int .i64 (i:Int)
end JB
namespace cI
open Go.Sx JB
def nn(s k:Nat):It:=((s:Int),(k:Int))
variable {n:Nat} {c:Nat->Nat->Nat} {T:Nat} {D:zL} {l l':List It} {s i:Nat}
end cI
set_option maxRecDepth 100000
namespace Go.Proofs
open Go Go.Sx Tryz
section
theorem ae.CB{kd:IntKind}{a b:Nat}{k:zV->Prop}(hb:b≠0)(h:k (.int kd ((a%b:Nat):Int))):ae .num .rem (.int kd a) (.int kd b) k:=
 ae.D0 zO rfl (by have:((a:Int)).tmod (b:Int)=((a%b:Nat):Int):=rfl;rw[this];exact h)
end
section
open au
section
variable {kp mb OV b1 b7 P7 bn:Nat} {K:Kd} {S:Nat->au.Fn} {ord af tr:zL} {C:Hp}
def kr(r:Nat):zV:=u32 r
theorem fX(a b:Nat):Instr.sameNow (.int .u32) (kr a) (kr b)=some (decide (a=b)):=by
 simp only[Instr.sameNow,kr,u32,xaS,xao];rw[xcy];simp;omega
theorem me(a:Nat):Instr.sameBits 10000 (kr a) (kr a)=true:=by simp[Instr.sameBits,kr,u32]
theorem EM{n:Nat}{s:zV}(h:s.oneCell'=true):∀u∈[Value.int .i64 (n:Int),s],u.oneCell'=true:=λu hu=>by
 simp only[xaf,xat,xaZ]at hu;rcases hu with rfl|rfl
 ·rfl
 exact h
theorem ia(d:Nd):∀u∈dQ d,u.oneCell'=true:=λu hu=>by
 simp only[dQ,xaf,xat,xaZ]at hu;rcases hu with rfl|rfl|rfl<;>rfl
theorem BA{X:Hp}(h:cc kp K S ord af tr C){r:Nat}{d:Nd}(hd:K.N r=some d):Px zQ 138 #[ptr kp,u32 r] (X++C) (λv _=>v=.agg (dQ d).toArray):=by
 have hlt:=h.cH (.inr ⟨d,hd⟩);refine aW λg=>ug λb1 _=>?_;refine aa.eq (args:=#[ptr kp,u32 r]) (jD h.rep zO) ?_;rw[dL hd (h.ok.mid.two hd).1];refine Ext.two λb7 _=>(St.p (ia d) ?_);refine az.q ?_;refine St.p (ia d) ?_;refine az.q ?_;exact MF.mk (by repeat (first|exact gB.refl _|apply gB.cons|apply gB.app)) rfl
theorem BD{X:Hp}{v:zV}(h:cc kp K S ord af tr C){rs:zL}(hv:e7 .u32 (X++C) v (iw rs))(hr:∀r∈rs,live K.N r)(hl:rs.length<4611686018427387904):Px zQ 136 #[ptr kp,v] (X++C) (λw _=>w=iv 0):=by
 refine aW λg=>uj (ae.bB (Br.no (hv.c6 ?_)));rw[aQ];refine⟨λvs H=>∃(i:Nat) (N:Hp),vs=[iv (i:Int)]/\i<=rs.length/\H=N++(X++C),λvs _=>rs.length-dR vs 0,JE.mk ⟨0,[],rfl,xaE _,rfl⟩,?_⟩;rintro w H ⟨i,N,hw,hi,rfl⟩ gs;simp only[xa0,xdl]at hw;subst hw;refine ae.fN (Br.dec (λhlt=>?_) (λhge=>?_))
 ·have yL:=hr _ (xaN hlt);have Ff:=h.cH yL;refine hv.ld (n:=((rs[i]:Nat):Int)) (gO (xad hlt)) (λ_ h=>xaa _ h) ?_;refine aa.eq (args:=#[ptr kp,u32 rs[i]]) (jD h.rep zO) ?_;rw[xae (bF.2 yL)];refine Ext.two λOX _=>(St.whole (r:=got K.N rs[i]) (by exact .head _) rfl (aP _ _).1 (aP _ _).2 ?_);exact ae.j7 (Br.F (ae.inc (aR.mk ⟨i+1,_::N,rfl,hlt,rfl⟩ (by simp only[dR];omega))))
 exact MF.mk (by repeat (first|exact gB.refl _|apply gB.cons|apply gB.app)) rfl
end
end
end Go.Proofs
namespace cI
open Go.Sx
variable {n:Nat}
variable {φ:zL->zL} {π:Nat->Nat}
def lay(n:Nat)(F:Nat->Nat):zL:=(List.range (wN n)).map λi=>F i&&&eR n
def neg(n:Nat)(ws:zL):zL:=lay n λi=>18446744073709551615-ws.getD i 0
end cI
namespace au
open cI
variable {n:Nat}
def sat(n:Nat)(f:Fn):Nat:=(List.range (2^n)).countP f
def flip(v x:Nat):Nat:=aK x v (!x.testBit v)
theorem flip_flip(v x:Nat):flip v (flip v x)=x:=by
 unfold flip;rw[aj,xae rfl,j4];simpa using fA x v
theorem vD{v x:Nat}(hv:v<n)(hx:x<2^n):flip v x<2^n:=Cy hx hv
theorem xj{v:Nat}(hv:v<n):((List.range (2^n)).map (flip v)).Perm (List.range (2^n)):=by
 refine(List.perm_ext_iff_of_nodup ?_ xcR).2 λx=>?_
 ·refine xcf.2 (xcR.imp λ{a b} h e=>h ?_);rw[<-flip_flip v a,e,flip_flip]
 rw[xan];constructor
 ·rintro⟨y,hy,rfl⟩;exact xaP.2 (vD hv (xaP.1 hy))
 intro hx;exact⟨flip v x,xaP.2 (vD hv (xaP.1 hx)),flip_flip v x⟩
theorem nc{f g p q:Nat->Bool}(h:∀x,(p x).toNat+(q x).toNat=(f x).toNat+(g x).toNat):∀l:zL,l.countP p+l.countP q=l.countP f+l.countP g
 | []=>rfl
 |x::l=>by
  have:=h x;have:=nc h l;simp only[List.countP_cons];cases hp:p x<;>cases hq:q x<;>cases hf:f x<;>cases hg:g x<;>simp_all<;>omega
theorem zm{v:Nat}(hv:v<n)(f:Fn):sat n (λx=>f (aK x v false))+sat n (λx=>f (aK x v true))=2*sat n f:=by
 unfold sat;rw[nc (f:=f) (g:=λx=>f (flip v x)) (λx=>?_)]
 ·have:List.countP (λx=>f (flip v x)) (List.range (2^n))=List.countP f (List.range (2^n)):=by
   have h:=(xj hv).countP_eq f;rw[List.countP_map]at h;exact h
  omega
 unfold flip;have:=fA x v;cases hb:x.testBit v<;>rw[hb]at this<;>simp only[Bool.not_true,Bool.not_false]<;>rw[this]<;>omega
theorem j5:sat n (λ_=>false)=0:=by simp[sat]
theorem sat_true:sat n (λ_=>true)=2^n:=by simp[sat]
variable {N:cY} {S:Nat->Fn} {af:Nat->Nat}
theorem zl(h:WF n af N)(hl:mr n af)(hi:Interp N S){r a b:Nat}{d:Nd}(hd:N r=some d)(hv:d.v<n)(ha:a*2^dep n af N d.lo=sat n (S d.lo))(hb:b*2^dep n af N d.hi=sat n (S d.hi)):
  (a*2^(dep n af N d.lo-af d.v-1)+b*2^(dep n af N d.hi-af d.v-1))*2^dep n af N r=sat n (S r):=by
 have h1:=(h.lo hd).2;have h2:=(h.hi hd).2;rw[an hd];have e1:(λx=>S r (aK x d.v false))=S d.lo:=by
  have:=(jN h hl hi (r:=r) (.inr ⟨d,hd⟩) hv (by rw[an hd];exact xak _) false);rw[(vM hd).1]at this;exact(funext this.1).symm
 have e2:(λx=>S r (aK x d.v true))=S d.hi:=by
  have:=(jN h hl hi (r:=r) (.inr ⟨d,hd⟩) hv (by rw[an hd];exact xak _) true);rw[(vM hd).2]at this;exact(funext this.1).symm
 have hh:=zm hv (S r);rw[e1,e2,<-ha,<-hb]at hh;have p1:2^dep n af N d.lo=2^(dep n af N d.lo-af d.v-1)*(2*2^af d.v):=by
  rw[<-Nat.pow_succ',<-xct];congr 1;omega
 have p2:2^dep n af N d.hi=2^(dep n af N d.hi-af d.v-1)*(2*2^af d.v):=by
  rw[<-Nat.pow_succ',<-xct];congr 1;omega
 rw[p1,p2]at hh;rw[<-xcs a,<-xcs b,<-xdF,Nat.mul_left_comm]at hh;omega
end au
set_option maxRecDepth 100000
namespace Go.Proofs
open Go Go.Sx Tryz
section
open au
theorem GU{P:Program}{f:FuncId}{args:Array zV}{B:Hp}{Q:zV->Prop}(h:Px P f args B (λv _=>Q v)):Rd P f args B Q:=λg=>(h g).mono λe H h=>by
 obtain⟨v,H2,rfl,he,hg,hq⟩:=h;exact⟨v,B,rfl,he.trans hg.dF,rfl,hq⟩
theorem ae.Lv{a b:Nat}{k:zV->Prop}(h:k (.int .u64 (((a+b)%18446744073709551616:Nat):Int))):ae .num .add (.int .u64 (a:Int)) (.int .u64 (b:Int)) k:=by
 refine ae.add ?_;rw[wrap_u64];have:(((a:Int)+(b:Int))%18446744073709551616)=((((a+b)%18446744073709551616:Nat)):Int):=by omega
 rw[this];exact h
section
variable {kp:Nat} {K:Kd} {S:Nat->au.Fn} {ord af tr:zL} {C:Hp}
theorem kH(r:Nat)(B:Hp):Rd zQ 137 #[u32 r] B (· =.bool (decide (r<2))):=by
 refine aW λg=>uh (ae.bN (b:=0) (bL.or (a:=decide (r=0)) (decide (r=1)) (λ_=>ae.bN (b:=1) ⟨rfl,rfl⟩) rfl λ_=>?_));refine bS.mk (.refl _) ?_;rw[<-xaV];congr 1;exact xcT.2 zO
end
end
section
open au
section
variable {kp mb b1 b9 c9 c1 c3 xC:Nat} {K:Kd} {S:Nat->au.Fn} {ord af tr:zL} {C Z:Hp}
abbrev r4:Nat:=18446744073709551616
abbrev u64(x:Nat):zV:=.int .u64 (x:Int)
theorem ng(h:cc kp K S ord af tr C){r:Nat}{d:Nd}(hd:K.N r=some d):Rd zQ 138 #[ptr kp,u32 r] C (· =.agg (dQ d).toArray):=GU (BA (X:=[]) h hd)
theorem rK(h:cc kp K S ord af tr C){X:Hp}{r b:Nat}(hm:(b,Obj.cells (aq .u32 [(r:Int)]) 82 zZ)∈X)(hr:live K.N r):Rd zQ 136 #[ptr kp,.slice (some ⟨b,0,none⟩) 1 1] (X++C) (· =iv 0):=
 GU (BD (X:=X) (rs:=[r]) h (e7.block (xac _ hm) zI) (λx hx=>by rw[xaH.1 hx];exact hr) zI)
def cw(K:Kd)(af:zL)(S:Nat->au.Fn)(r:Nat):Nat:=sat K.n (S r) /2^dep K.n (lv af) K.N r
theorem jM(h:cc kp K S ord af tr C){r:Nat}(hr:r<2):cw K af S r=r:=by
 have hi:=h.ok.mid.int;have h0:K.N r=none:=by
  cases hN:K.N r with
  |none=>rfl
  |some d=>have:=h.ok.mid.two hN;omega
 unfold cw;rw[aU h0];have:r=0\/r=1:=by omega
 rcases this with rfl|rfl
 ·rw[show S 0=λ_=>false from funext hi.zero,j5,Nat.zero_div]
 rw[show S 1=λ_=>true from funext hi.one,sat_true,Nat.div_self (xbI _)]
theorem Bs(h:cc kp K S ord af tr C):∀(k r:Nat),K.n-dep K.n (lv af) K.N r<=k->live K.N r->cw K af S r*2^dep K.n (lv af) K.N r=sat K.n (S r)/\
  (∀d,K.N r=some d->cw K af S r=cw K af S d.lo*2^(dep K.n (lv af) K.N d.lo-lv af d.v-1)+cw K af S d.hi*2^(dep K.n (lv af) K.N d.hi-lv af d.v-1)):=by
 have hi:=h.ok.mid.int;intro k;induction k with
 |zero=>
  intro r hk hr;cases hN:K.N r with
  |some d=>
   rw[an hN]at hk;have:=h.ok.lv.lt _ (h.ok.mid.var hN);omega
  |none=>
   have h2:r<2:=by
    rcases hr with hr|⟨d,e⟩
    ·exact hr
    rw[hN]at e;cases e
   refine⟨?_,λd hd=>by cases hd⟩;rw[jM h h2,aU hN];have:r=0\/r=1:=by omega
   rcases this with rfl|rfl
   ·rw[show S 0=λ_=>false from funext hi.zero,j5,xdw]
   rw[show S 1=λ_=>true from funext hi.one,sat_true,Nat.one_mul]
 |succ k ih=>
  intro r hk hr;cases hN:K.N r with
  |none=>
   rw[aU hN]at*;have h2:r<2:=by
    rcases hr with hr|⟨d,e⟩
    ·exact hr
    rw[hN]at e;cases e
   refine⟨?_,λd hd=>by cases hd⟩;rw[jM h h2];have:r=0\/r=1:=by omega
   rcases this with rfl|rfl
   ·rw[show S 0=λ_=>false from funext hi.zero,j5,xdw]
   rw[show S 1=λ_=>true from funext hi.one,sat_true,Nat.one_mul]
  |some d=>
   have hlo:=h.ok.wf.lo hN;have hhi:=h.ok.wf.hi hN;have hvl:=h.ok.lv.lt _ (h.ok.mid.var hN);have e1:=an (n:=K.n) (af:=lv af) hN;have q:=zl h.ok.wf h.ok.lv hi hN (h.ok.mid.var hN) (ih d.lo zO hlo.1).1 (ih d.hi zO hhi.1).1;have e2:cw K af S r=cw K af S d.lo*2^(dep K.n (lv af) K.N d.lo-lv af d.v-1)+cw K af S d.hi*2^(dep K.n (lv af) K.N d.hi-lv af d.v-1):=by
    show sat K.n (S r) /_=_;rw[<-q,Nat.mul_div_cancel _ (xbI _)]
   exact⟨by rw[e2];exact q,λd' hd=>by cases hd;exact e2⟩
theorem j3(h:cc kp K S ord af tr C){r:Nat}(hr:live K.N r)(h1:(b1,Obj.cells #[ptr kp] 45 zZ)∈Z):
  Rd zQ 139 #[u32 r,ptr b1] (Z++C) (· =iv ((dep K.n (lv af) K.N r:Nat):Int)):=by
 have qc:=xac C h1;refine aW λg=>uf (aa.eq (kH r _) (Br.mk (λhb=>?_) (λhb=>?_)))
 ·have h2:r<2:=xbV hb;refine Ld.mk qc rfl ?_;refine aa.eq (mN h.rep) (bS.mk (.refl _) ?_);have h0:K.N r=none:=by
   cases hN:K.N r with
   |none=>rfl
   |some d=>have:=h.ok.mid.two hN;omega
  rw[aU h0]
 have h2:¬r<2:=of_decide_eq_false hb;obtain⟨d,hN⟩:∃d,K.N r=some d:=by
  rcases hr with hr|hr
  ·omega
  exact hr
 have AF:=h.ok.mid.var hN;refine DR.of (.refl _) (Ld.mk qc rfl ?_);refine Ld.mk qc rfl ?_;intro F;refine aa.eq (args:=#[ptr kp,u32 r]) (ng h hN) (⟨.refl _,?_⟩);refine qf.mk (off:=0) (cs:=(dQ d).toArray) (v:=iv (d.v:Int)) rfl ?_;intro F;refine aa.eq (args:=#[ptr kp,iv (d.v:Int)]) (oS h.rep _) (⟨.refl _,?_⟩);rw[xae ⟨by omega,by omega⟩];refine Ext.two (bS.mk (.refl _) ?_);rw[an hN];rfl
theorem po(a k:Nat):((a%r4)<<<k)%r4=(a*2^k)%r4:=by
 rw[Nat.shiftLeft_eq,Nat.mod_mul_mod]
theorem Cz(h:cc kp K S ord af tr C){r:Nat}{d:Nd}(hN:K.N r=some d)(h1:(b1,Obj.cells #[ptr kp] 45 zZ)∈Z)(h9:(b9,Obj.cells #[.func (.func 139) #[] #[ptr b1]] 204 zZ)∈Z):
  Rd zQ 142 #[.agg (dQ d).toArray,u64 (cw K af S d.lo%r4),u64 (cw K af S d.hi%r4),ptr b1,ptr b9] (Z++C) (· =u64 (cw K af S r%r4)):=by
 have qc:=xac C h1;have Ms:=xac C h9;have AF:=h.ok.mid.var hN;have hlo:=h.ok.wf.lo hN;have hhi:=h.ok.wf.hi hN;have hn:=h.at'.ES;have PR:=h.ok.wf.gj h.ok.lv d.lo;have PS:=h.ok.wf.gj h.ok.lv d.hi;refine aW λg=>uc λc1 _=>?_;refine Ld.mk (.tail _ qc) rfl ?_;refine Ld.f (v:=iv (d.v:Int)) (aa.eq (oS h.rep _) ?_);rw[xae ⟨by omega,by omega⟩];refine Ext.two (DR.of (.refl _) (Ld.mk (.tail _ Ms) rfl ?_));refine Ld.f (v:=u32 d.lo) (Ld.mk (.tail _ Ms) rfl ?_);refine Ld.f (v:=u32 d.hi) λF=>?_;refine bp.of rfl zK (aa.eq (args:=#[u32 d.lo,ptr b1]) (j3 (Z:=Z) h hlo.1 h1) (⟨.refl _,?_⟩));rw[xbx];show ae _ _ (iv ((dep K.n (lv af) K.N d.lo:Nat):Int)) (iv ((lv af d.v:Nat):Int)) _;refine ae.qp (ae.qp (b:=1) (ae.EI λF=>(bp.of rfl zK (aa.eq (args:=#[u32 d.hi,ptr b1]) (j3 (Z:=Z) h hhi.1 h1) ?_))));show ae _ _ (iv ((dep K.n (lv af) K.N d.hi:Nat):Int)) (iv ((lv af d.v:Nat):Int)) _;refine ae.qp (ae.qp (b:=1) (ae.EI (ae.Lv (bS.mk .tail ?_))));rw[po,po,<-Nat.add_mod,(Bs h K.n r (xc9 _ _) (.inr ⟨d,hN⟩)).2 d hN]
structure Jz(K:Kd)(af:zL)(S:Nat->au.Fn)(es:Array MapEntry)(ck:Nat)(m:List (Nat×Nat)):Prop where
 dF:bh kr (λv (x:Nat)=>v=u64 x) es ck m
 val:∀r x,aN m r=some x->x=cw K af S r%r4
 low:∀r,r<2->aN m r≠none
theorem wu(h:cc kp K S ord af tr C)(h9:(c9,Obj.cells #[.map (some mb)] 246 zZ)∈Z)(h1:(c1,Obj.cells #[ptr kp] 45 zZ)∈Z)(h3:(c3,Obj.cells #[.func (.func 142) #[] #[ptr b1,ptr b9]] 217 zZ)∈Z)
 (h12:(xC,Obj.cells #[.func (.func 172) #[] #[ptr c9,ptr c1,ptr c3,ptr xC]] 247 zZ)∈Z)(HV:(b1,Obj.cells #[ptr kp] 45 zZ)∈Z)(Oh:(b9,Obj.cells #[.func (.func 139) #[] #[ptr b1]] 204 zZ)∈Z):
  ∀(k r:Nat) (es:Array MapEntry) (ck:Nat) (m:List (Nat×Nat)),K.n-dep K.n (lv af) K.N r<=k->live K.N r->Jz K af S es ck m->
  Fc zQ 172 #[u32 r,ptr c9,ptr c1,ptr c3,ptr xC] ((mb,.map es ck)::(Z++C)) (λv H=>v=u64 (cw K af S r%r4)/\∃es' dO m',H=(mb,.map es' dO)::(Z++C)/\Jz K af S es' dO m'):=by
 have hit:∀{r:Nat} {es:Array MapEntry} {ck:Nat} {m:List (Nat×Nat)} {x:Nat},Jz K af S es ck m->aN m r=some x->
   Fc zQ 172 #[u32 r,ptr c9,ptr c1,ptr c3,ptr xC] ((mb,.map es ck)::(Z++C)) (λv H=>v=u64 (cw K af S r%r4)/\∃es' dO m',H=(mb,.map es' dO)::(Z++C)/\Jz K af S es' dO m'):=by
  intro r es ck m x hm hv;refine aW λg=>nD (Ld.mk (v:=.map (some mb)) (.tail _ (xac _ h9)) rfl ?_);refine hm.dF.hit (k:=r) fX (b:=mb) (by exact .head _) hv λv' e=>?_;subst e;exact Ext.two (Br.yes (aZ.mk (.refl _) ⟨by rw[hm.val r x hv],es,ck,m,rfl,hm⟩))
 intro k;induction k with
 |zero=>
  intro r es ck m hk hr hm;have pI:r<2:=by
   cases hN:K.N r with
   |some d=>
    rw[an hN]at hk;have:=h.ok.lv.lt _ (h.ok.mid.var hN);omega
   |none=>
    rcases hr with hr|⟨d,e⟩
    ·exact hr
    rw[hN]at e;cases e
  cases hv:aN m r with
  |none=>exact absurd hv (hm.low r pI)
  |some v=>exact hit hm hv
 |succ k ih=>
  intro r es ck m hk hr hm;cases hv:aN m r with
  |some v=>exact hit hm hv
  |none=>
  have pI:¬r<2:=λh2=>hm.low r h2 hv;obtain⟨d,hN⟩:∃d,K.N r=some d:=by
   rcases hr with hr|hr
   ·omega
   exact hr
  have hlo:=h.ok.wf.lo hN;have hhi:=h.ok.wf.hi hN;rw[an hN]at hk;have hvl:=h.ok.lv.lt _ (h.ok.mid.var hN);refine aW λg=>nD (Ld.mk (v:=.map (some mb)) (.tail _ (xac _ h9)) rfl ?_);refine hm.dF.so (k:=r) fX (b:=mb) (by exact .head _) hv ?_;refine Ext.two (Br.no (Ld.mk (v:=ptr kp) (.tail _ (xac _ h1)) rfl ?_));refine aa.eq (args:=#[ptr kp,u32 r]) (ng h hN) λb8 _=>?_;refine St.p (ia d) ?_;refine DR.of (R:=(b8,Obj.cells (dQ d).toArray 201 zZ)::Z) (.cons (.skip .left)) (Ld.mk (v:=.func (.func 142) #[] #[ptr b1,ptr b9]) (.tail _ h3) rfl ?_);refine az.q ?_;refine Ld.mk (v:=.func (.func 172) #[] #[ptr c9,ptr c1,ptr c3,ptr xC]) (.tail _ h12) rfl ?_;refine Ld.f (v:=u32 d.lo) (Ld.mk (v:=.func (.func 172) #[] #[ptr c9,ptr c1,ptr c3,ptr xC]) (.tail _ h12) rfl ?_);refine Ld.f (v:=u32 d.hi) λF=>?_;refine bp.of rfl zK (aa.fq (args:=#[u32 d.lo,ptr c9,ptr c1,ptr c3,ptr xC]) (ih d.lo es ck m zO hlo.1 hm) ?_);rintro v1 H ⟨rfl,FH,FL,m1,rfl,I3⟩;refine⟨.cons (.skip .left),?_⟩;intro F;refine bp.of rfl zK (aa.fq (args:=#[u32 d.hi,ptr c9,ptr c1,ptr c3,ptr xC]) (ih d.hi FH FL m1 zO hhi.1 I3) ?_);rintro v2 H ⟨rfl,Ca,Cc,m2,rfl,Ge⟩;refine⟨.cons (.skip .left),?_⟩;intro F;refine bp.of rfl zK (aa.eq (args:=#[.agg (dQ d).toArray,u64 (cw K af S d.lo%r4),u64 (cw K af S d.hi%r4),ptr b1,ptr b9]) (Cz (Z:=Z) h hN HV Oh) (Ld.mk (v:=.map (some mb)) (.tail _ (.tail _ (xac _ h9))) rfl ?_));refine Ge.dF.cz (k:=r) (b:=mb) (x:=cw K af S r%r4) fX me rfl λJr Js he=>⟨_,.tail (.head _),?_⟩;refine aZ.mk .tail ⟨rfl,Jr,Js,_,rfl,he,λr' x' sC=>?_,λr' hr'=>?_⟩
  ·rw[bA]at sC;split at sC
   ·rename_i e;subst e;cases sC;rfl
   exact Ge.val r' x' sC
  rw[bA];split
  ·simp
  exact Ge.low r' hr'
theorem Bu(h:cc kp K S ord af tr C){r:Nat}(hr:live K.N r):
  Rd zQ 107 #[ptr kp,u32 r] C (· =.tuple #[u64 (sat K.n (S r)%r4),iv 0]):=by
 have hi:=h.ok.mid.int;refine aW λg=>uD λb1 _=>?_;refine Ld.q ?_;refine ak.int (e:=82) zK zK zK λbx=>?_;refine aa.eh .here (rK (X:=[(bx,_),(b1,_)]) h (by exact .head _) hr) (ae.j7 (Br.F λb9 _=>(St.one (c':=#[.func (.func 139) #[] #[ptr b1]]) (by exact .head _) rfl zI rfl ?_)));refine Ld.q ?_;refine aa.fq (args:=#[ptr kp,u32 r,u64 0,u64 1,.func (.func 142) #[] #[ptr b1,ptr b9]]) (C:=(b9,Obj.cells #[.func (.func 139) #[] #[ptr b1]] 204 zZ)::(bx,_)::(b1,Obj.cells #[ptr kp] 45 zZ)::C) (Q:=λv H=>v=u64 (cw K af S r%r4)/\H=(b9,Obj.cells #[.func (.func 139) #[] #[ptr b1]] 204 zZ)::(bx,Obj.cells (aq .u32 [(r:Int)]) 82 zZ)::(b1,Obj.cells #[ptr kp] 45 zZ)::C) (aW λg=>ud ?_) ?_
 ·intro c1 _ c3 _ mb _;refine bh.cz (ke:=kr) (vr:=λv (x:Nat)=>v=u64 x) (k:=0) (b:=mb) (x:=0) fX me bh.empty rfl λFH FL Gj=>⟨_,.head _,?_⟩;refine bh.cz (ke:=kr) (vr:=λv (x:Nat)=>v=u64 x) (k:=1) (b:=mb) (x:=1) fX me Gj rfl λCa Cc HQ=>⟨_,.head _,?_⟩;intro c9 _;refine St.one (c':=#[.map (some mb)]) (by exact .head _) rfl zI rfl ?_;intro xC _;refine St.one (c':=#[.func (.func 172) #[] #[ptr c9,ptr c1,ptr c3,ptr xC]]) (by exact .head _) rfl zI rfl ?_;refine Ld.q ?_;refine bp.of rfl zK ?_;obtain⟨Z,hZ⟩:∃Z:Hp,Z=[(xC,Obj.cells #[.func (.func 172) #[] #[ptr c9,ptr c1,ptr c3,ptr xC]] 247 zZ),(c9,.cells #[.map (some mb)] 246 zZ),(c3,.cells #[.func (.func 142) #[] #[ptr b1,ptr b9]] 217 zZ),(c1,.cells #[ptr kp] 45 zZ),
   (b9,Obj.cells #[.func (.func 139) #[] #[ptr b1]] 204 zZ),(bx,Obj.cells (aq .u32 [(r:Int)]) 82 zZ),(b1,Obj.cells #[ptr kp] 45 zZ)]:=⟨_,rfl⟩
  refine aa.pre (H':=(mb,Obj.map Ca Cc)::(Z++C)) (.perm ?_) ?_
  ·rw[hZ];exact(List.Perm.cons _ (List.Perm.swap _ _ _)).trans (List.Perm.swap _ _ _)
  refine aa.fq (args:=#[u32 r,ptr c9,ptr c1,ptr c3,ptr xC]) (wu (Z:=Z) (b1:=b1) (b9:=b9) h (by rw[hZ];exact .tail _ (.head _)) (by rw[hZ];exact .tail _ (.tail _ (.tail _ (.head _)))) (by rw[hZ];exact .tail _ (.tail _ (.head _))) (by rw[hZ];exact .head _) (by rw[hZ];exact .tail _ (.tail _ (.tail _ (.tail _ (.tail _ (.tail _ (.head _))))))) (by rw[hZ];exact .tail _ (.tail _ (.tail _ (.tail _ (.head _))))) K.n r Ca Cc _ (xc9 _ _) hr ⟨HQ,λr' x hm=>?_,λr' hr'=>?_⟩) ?_
  ·rw[bA,bA]at hm;split at hm
   ·rename_i e;subst e;cases hm;rw[jM h zD];rfl
   split at hm
   ·rename_i e;subst e;cases hm;rw[jM h zD];rfl
   simp[aN]at hm
  ·rw[bA,bA];have:r'=0\/r'=1:=by omega
   rcases this with rfl|rfl<;>simp
  rintro v H ⟨rfl,Jr,Js,m3,rfl,_⟩;refine aZ.mk ?_ ⟨rfl,rfl⟩;rw[hZ];exact .skip (.skip (.skip (.skip (.skip (.refl _)))))
 rintro v H ⟨rfl,rfl⟩;refine Ld.q ?_;refine bp.of rfl zK (aa.eh (args:=#[u32 r,ptr b1]) .here (j3 (Z:=[(b9,_),(bx,_),(b1,_)]) h hr (by exact .tail _ (.tail _ (.head _)))) (ae.EI (bS.mk (.skip (.skip .tail)) ?_)));rw[po,(Bs h K.n r (xc9 _ _) hr).1]
end
section
variable {B:Hp}
abbrev i64(a:Int):zV:=iv a
structure Cf where
 n:Nat
 cap:Nat
 str:Nat
 gr:Nat
 rs:Nat
end
section
theorem qV{n:Int}(hn:n<0\/64<n)(B:Hp):Rd zQ 46 #[iv n] B (· =.tuple #[.slice none 0 0,iv 1]):=by
 refine aW λg=>o6 (ae.lss (bL.or (a:=decide (n<0)) (decide (64<n)) (λ_=>ae.gtr ⟨rfl,rfl⟩) rfl λ_=>?_));rw[<-xaV,xaL hn];exact Br.yes (bS.mk (.refl _) rfl)
theorem ER{n cap:Int}(hb:n<1\/64<n\/cap<2\/1048576<cap):Rd zQ 27 #[i64 n,i64 cap] [] (· =.tuple #[.pointer none,i64 1]):=by
 refine aW λg=>o8 ?_;by_cases hn:n<0\/64<n
 ·refine aa.eq (qV hn _) (Ext.two (ae.j7 (bL.or true (λh=>absurd h zD) rfl λgs=>?_)));refine bL.or true (λh=>absurd h zD) rfl λgs=>?_;refine bL.or true (λh=>absurd h zD) rfl λgs=>Br.yes ?_;exact bS.mk (.refl _) rfl
 obtain⟨m,rfl⟩:∃m:Nat,n=m:=⟨n.toNat,by omega⟩;refine aa.fq (k7 (n:=m) zO) ?_;rintro v CO ⟨s,rfl,hO⟩;refine Ext.two (ae.j7 (bL.or (decide ((m:Int)<1)) (λ_=>ae.lss ⟨rfl,rfl⟩) rfl λgs=>?_));refine bL.or (decide (cap<2)) (λ_=>ae.lss ⟨rfl,rfl⟩) rfl λgs=>?_;refine bL.or (decide (1048576<cap)) (λ_=>ae.gtr ⟨rfl,rfl⟩) rfl λgs=>?_;exact Br.Ex (by simp only[xby,xaD];omega) (bS.mk (λ_ _ h=>h.fi) rfl)
end
def HF(L:List au.Fn)(g:au.Fn):Prop:=g∈L/\∃v,cU g v
def F1(n cap:Nat)(L:List au.Fn)(ord:zL)(lo:au.Fn):Prop:=Fits (aC n ord (λg=>HF L g\/g=lo)) cap
def F2(n cap:Nat)(L:List au.Fn)(ord:zL)(lo hi:au.Fn):Prop:=Fits (aC n ord (λg=>(HF L g\/g=lo)\/g=hi)) cap
end
end Go.Proofs
namespace au
open cI
variable {n:Nat} {af:Nat->Nat} {N:cY} {S:Nat->Fn} {ord:zL} {R:Nat->Prop} {V:zL}
inductive Rc(N:cY)(R:Nat->Prop):Nat->Prop
 |base {r:Nat}:R r->Rc N R r
 |lo {p:Nat} {d:Nd}:Rc N R p->N p=some d->Rc N R d.lo
 |hi {p:Nat} {d:Nd}:Rc N R p->N p=some d->Rc N R d.hi
def DL(N:cY)(V:zL):Prop:=∀u∈V,∃d,N u=some d/\(d.lo<2\/d.lo∈V)/\(d.hi<2\/d.hi∈V)
theorem uJ(h0:∀r,r<2->N r=none)(hV:DL N V)(hR:∀r,R r->r<2\/r∈V):∀l r,A N af n R l r->r<2\/r∈V
 |0,r,ha=>hR r ha
 |l+1,r,ha=>by
  rcases ha with⟨h1,_⟩|⟨p,d,h1,h2,_,h4⟩
  ·exact uJ h0 hV hR l r h1
  rcases uJ h0 hV hR l p h1 with hp|hp
  ·rw[h0 p hp]at h2;cases h2
  obtain⟨d',hd,a,b⟩:=hV p hp;rw[h2]at hd;cases hd;rcases h4 with rfl|rfl
  ·exact a
  exact b
theorem Rc.at(h:WF n af N)(hR:∀r,R r->live N r){u:Nat}(hu:Rc N R u):∀d,N u=some d->A N af n R (af d.v) u:=by
 induction hu with
 |base hr=>
  intro d hd;have:=kN (N:=N) (af:=af) (n:=n) (af d.v) 0 hr (by rw[an hd];omega);rwa [xa1]at this
 | @lo p e hp he ih=>
  intro d hd;have hlt:=(h.lo he).2;rw[an hd]at hlt;have hb:A N af n R (af e.v+1) e.lo:=.inr ⟨p,e,ih e he,he,rfl,.inl rfl⟩;have:=kN (af d.v-(af e.v+1)) _ hb (by rw[an hd];omega);rwa [show af e.v+1+(af d.v-(af e.v+1))=af d.v by omega]at this
 | @hi p e hp he ih=>
  intro d hd;have hlt:=(h.hi he).2;rw[an hd]at hlt;have hb:A N af n R (af e.v+1) e.hi:=.inr ⟨p,e,ih e he,he,rfl,.inr rfl⟩;have:=kN (af d.v-(af e.v+1)) _ hb (by rw[an hd];omega);rwa [show af e.v+1+(af d.v-(af e.v+1))=af d.v by omega]at this
theorem wh(h:WF n af N)(hl:mr n af)(ho:Ord n af ord)(hi:Interp N S)(hR:∀r,R r->live N r)(hV:DL N V)(KT:∀r,R r->r<2\/r∈V)(KO:∀u∈V,Rc N R u)(g:Fn):aC n ord (Fs S R) g↔∃u∈V,g=S u:=by
 constructor
 ·rintro⟨l,Dh,hf,x,hx⟩;obtain⟨v1,v2⟩:=ho.at' l Dh;obtain⟨r,ha,rfl⟩:=(A2 h hl ho hi hR l zO g).1 hf;rcases uJ (λr hr=>h.const hr) hV KT l r ha with hc|hm
  ·exfalso;have:r=0\/r=1:=by omega
   rcases this with rfl|rfl
   ·exact hx (by rw[hi.zero,hi.zero])
   exact hx (by rw[hi.one,hi.one])
  exact⟨r,hm,rfl⟩
 rintro⟨u,hu,rfl⟩;obtain⟨d,hd,_⟩:=hV u hu;have hv:=h.var hd;refine⟨af d.v,hl.lt _ hv,(A2 h hl ho hi hR _ (xbR (hl.lt _ hv)) _).2 ⟨u,(KO u hu).at h hR d hd,rfl⟩,?_⟩;rw[ho.of hl hv];exact fU h hl hi hd
theorem Cm(h:WF n af N)(hl:mr n af)(ho:Ord n af ord)(hi:Interp N S)(hR:∀r,R r->live N r)(hV:DL N V)(KT:∀r,R r->r<2\/r∈V)(KO:∀u∈V,Rc N R u)(nd:V.Nodup):nP (aC n ord (Fs S R)) V.length:=by
 have live':∀u∈V,live N u:=λu hu=>let ⟨d,hd,_⟩:=hV u hu;.inr ⟨d,hd⟩
 refine⟨V.map S,?_,by simp,λg=>?_⟩
 ·refine xcf.2 (nd.imp_of_mem λ{a b} ha hb hne e=>hne ?_);exact h.same hl hi (live' a ha) (live' b hb) λx=>congrFun e x
 rw[wh h hl ho hi hR hV KT KO,xan];exact⟨λ⟨u,hu,e⟩=>⟨u,hu,e.symm⟩,λ⟨u,hu,e⟩=>⟨u,hu,e.symm⟩⟩
end au
set_option maxRecDepth 100000
namespace Go.Proofs
open Go Go.Sx Tryz
open au
section
variable {kp mb b7 b1 b3 rN sG:Nat} {cap:Array zV} {K:Kd} {S:Nat->au.Fn} {ord af tr:zL} {C Z:Hp} {P:zL->Hp->Prop}
def oq(V:zL):List (Nat×Unit):=V.map λr=>(r,())
theorem mB{V:zL}{r:Nat}:aN (oq V) r=if r∈V then some ()else none:=by
 unfold oq;induction V with
 |nil=>rfl
 |cons a V ih=>
  unfold aN at*;rw[xaC,xbz];by_cases e:a=r
  ·subst e;simp
  simp only[e,xc2];rw[ih];have:(r∈a::V)↔r∈V:=by simp[xbQ e]
  by_cases hv:r∈V
  ·rw[xae hv,xae (this.2 hv)]
  rw[xab hv,xab λh=>hv (this.1 h)]
theorem zk{V:zL}{r:Nat}(h:r∉V):bQ (oq V) r ()=oq (V++[r]):=by
 unfold bQ oq;rw[xab (by rw[xbJ];simpa using h),xaz];rfl
abbrev rT(es:Array MapEntry)(ck:Nat)(V:zL):Prop:=bh kr (λv (_:Unit)=>v=i64 1) es ck (oq V)
structure Walk(K:Kd)(V V':zL)(r:Nat):Prop where
 nd:V'.Nodup
 sub:∀u∈V,u∈V'
 has:r<2\/r∈V'
 shut:∀u∈V',u∉V->∃d,K.N u=some d/\(d.lo<2\/d.lo∈V')/\(d.hi<2\/d.hi∈V')
 rc:∀u∈V',u∉V->Rc K.N (λq=>q=r) u
def FZ(sG:Nat)(cap:Array zV)(K:Kd)(P:zL->Hp->Prop):Prop:=bE zQ sG=true/\∀(V:zL) (r:Nat) (d:Nd) (G:Hp),K.N r=some d->P V G->Fc zQ sG (#[.agg (dQ d).toArray]++cap) G (λv G'=>v=.tuple #[]/\P (V++[r]) G')
theorem ou{N:cY}{r q u:Nat}(h1:Rc N (λx=>x=r) q)(h2:Rc N (λx=>x=q) u):Rc N (λx=>x=r) u:=by
 induction h2 with
 |base e=>rw[e];exact h1
 |lo _ hd ih=>exact .lo ih hd
 |hi _ hd ih=>exact .hi ih hd
theorem Ck(h:cc kp K S ord af tr C)(hd:FZ sG cap K P)(h7:(b7,Obj.cells #[.map (some mb)] 296 zZ)∈Z)(h1:(b1,Obj.cells #[ptr kp] 45 zZ)∈Z)(h3:(b3,Obj.cells #[.func (.func sG) #[] cap] 241 zZ)∈Z)
 (h10:(rN,Obj.cells #[.func (.func 211) #[] #[ptr b7,ptr b1,ptr b3,ptr rN]] 205 zZ)∈Z):
  ∀(k r:Nat) (es:Array MapEntry) (ck:Nat) (V:zL) (G:Hp),K.n-dep K.n (lv af) K.N r<=k->live K.N r->V.Nodup->rT es ck V->P V G->
  Fc zQ 211 #[u32 r,ptr b7,ptr b1,ptr b3,ptr rN] ((mb,.map es ck)::(G++(Z++C))) (λv H=>v=.tuple #[]/\∃es' dO V' G',H=(mb,.map es' dO)::(G'++(Z++C))/\rT es' dO V'/\P V' G'/\Walk K V V' r):=by
 have stop:∀{r:Nat} {es:Array MapEntry} {ck:Nat} {V:zL} {G:Hp},V.Nodup->rT es ck V->P V G->(r<2\/r∈V)->
   Fc zQ 211 #[u32 r,ptr b7,ptr b1,ptr b3,ptr rN] ((mb,.map es ck)::(G++(Z++C))) (λv H=>v=.tuple #[]/\∃es' dO V' G',H=(mb,.map es' dO)::(G'++(Z++C))/\rT es' dO V'/\P V' G'/\Walk K V V' r):=by
  intro r es ck V G n3 hE hP hr;refine aW λg=>ny (aa.eq (kH r _) (bL.or (a:=decide (r<2)) (decide (r∈V)) (λ_=>?_) rfl λ_=>?_))
  ·refine Ld.mk (v:=.map (some mb)) (.tail _ (xaa _ (xac _ h7))) rfl ?_;by_cases hm:r∈V
   ·refine hE.hit (k:=r) fX (b:=mb) (by exact .head _) (by rw[mB,xae hm]) λv e=>?_;subst e;exact ae.gtr ⟨rfl,by rw[xaL hm];rfl⟩
   refine hE.so (k:=r) fX (b:=mb) (by exact .head _) (by rw[mB,xab hm]) ?_;exact ae.gtr ⟨rfl,by rw[xay hm];rfl⟩
  rw[<-xaV,xaL hr];refine Br.yes (aZ.mk (.refl _) ⟨rfl,es,ck,V,G,rfl,hE,hP,⟨n3,λ_ h=>h,hr,λu h h'=>absurd h h',λu h h'=>absurd h h'⟩⟩)
 intro k;induction k with
 |zero=>
  intro r es ck V G hk hr n3 hE hP;refine stop n3 hE hP (.inl ?_);cases hN:K.N r with
  |some d=>
   rw[an hN]at hk;have:=h.ok.lv.lt _ (h.ok.mid.var hN);omega
  |none=>
   rcases hr with hr|⟨d,e⟩
   ·exact hr
   rw[hN]at e;cases e
 |succ k ih=>
  intro r es ck V G hk hr n3 hE hP;by_cases hs:r<2\/r∈V
  ·exact stop n3 hE hP hs
  have pI:¬r<2:=λh=>hs (.inl h);have Hu:r∉V:=λh=>hs (.inr h);obtain⟨d,hN⟩:∃d,K.N r=some d:=by
   rcases hr with hr|hr
   ·omega
   exact hr
  have hlo:=h.ok.wf.lo hN;have hhi:=h.ok.wf.hi hN;rw[an hN]at hk;have hvl:=h.ok.lv.lt _ (h.ok.mid.var hN);refine aW λg=>ny (aa.eq (kH r _) (bL.or (a:=decide (r<2)) false (λ_=>?_) rfl λ_=>?_))
  ·refine Ld.mk (v:=.map (some mb)) (.tail _ (xaa _ (xac _ h7))) rfl ?_;refine hE.so (k:=r) fX (b:=mb) (by exact .head _) (by rw[mB,xab Hu]) ?_;exact ae.gtr ⟨rfl,rfl⟩
  rw[xay pI];refine Br.no (Ld.mk (v:=.map (some mb)) (.tail _ (xaa _ (xac _ h7))) rfl ?_);refine hE.cz (k:=r) (b:=mb) (x:=()) fX me rfl λFH FL Gj=>⟨_,.head _,?_⟩;rw[zk Hu]at Gj;refine Ld.mk (v:=ptr kp) (.tail _ (xaa _ (xac _ h1))) rfl ?_;refine aa.eq (args:=#[ptr kp,u32 r]) (ng h hN) λkK _=>?_;refine St.p (ia d) ?_;refine Ld.mk (v:=.func (.func sG) #[] cap) (.tail _ (.tail _ (xaa _ (xac _ h3)))) rfl ?_;refine az.q ?_;refine bp.of rfl hd.1 (aa.fn (.cons (.cons .left)) (by simpa using hd.2 V r d G hN hP) ?_);rintro v G1 ⟨rfl,Oo⟩;refine Ld.mk (v:=.func (.func 211) #[] #[ptr b7,ptr b1,ptr b3,ptr rN]) (.tail _ (.tail _ (xaa _ (xac _ h10)))) rfl ?_;refine Ld.f (v:=u32 d.lo) (bp.of rfl zK ?_);have Kn:(V++[r]).Nodup:=xbL.2 ⟨n3,by simp,λa ha b hb e=>Hu (by rw[xaH.1 hb]at e;rwa [<-e])⟩;refine aa.fq (args:=#[u32 d.lo,ptr b7,ptr b1,ptr b3,ptr rN]) (ih d.lo FH FL (V++[r]) G1 zO hlo.1 Kn Gj Oo) ?_;rintro v H ⟨rfl,Ca,Cc,V2,G2,rfl,FA,KV,w2⟩;refine Ld.mk (v:=.func (.func 211) #[] #[ptr b7,ptr b1,ptr b3,ptr rN]) (.tail _ (.tail _ (xaa _ (xac _ h10)))) rfl ?_;refine Ld.f (v:=u32 d.hi) (bp.of rfl zK (aa.fq (args:=#[u32 d.hi,ptr b7,ptr b1,ptr b3,ptr rN]) (ih d.hi Ca Cc V2 G2 zO hhi.1 w2.nd FA KV) ?_));rintro v H ⟨rfl,Jr,Js,V3,G3,rfl,Oy,On,w3⟩;have r2:r∈V2:=w2.sub r zI;refine aZ.mk .tail ⟨rfl,Jr,Js,V3,G3,rfl,Oy,On,⟨w3.nd,λu hu=>w3.sub u (w2.sub u (xac _ hu)),.inr (w3.sub r r2),λu hu hn=>?_,λu hu hn=>?_⟩⟩
  ·by_cases F8:u∈V2
   ·by_cases Dc:u∈V++[r]
    ·rcases xaw.1 Dc with h'|h'
     ·exact absurd h' hn
     rw[xaH.1 h'];exact⟨d,hN,w2.has.imp id (w3.sub _),w3.has⟩
    obtain⟨e,he,a,b⟩:=w2.shut u F8 Dc;exact⟨e,he,a.imp id (w3.sub _),b.imp id (w3.sub _)⟩
   exact w3.shut u hu F8
  by_cases F8:u∈V2
  ·by_cases Dc:u∈V++[r]
   ·rcases xaw.1 Dc with h'|h'
    ·exact absurd h' hn
    exact .base (xaH.1 h')
   exact ou (Rc.lo (.base rfl) hN) (w2.rc u F8 Dc)
  exact ou (Rc.hi (.base rfl) hN) (w3.rc u hu F8)
theorem BL(h:cc kp K S ord af tr C)(hd:FZ sG cap K P){r b:Nat}{X G:Hp}(hr:live K.N r)(hP:P [] G)(hm:(b,Obj.cells (aq .u32 [(r:Int)]) 82 zZ)∈X):
  Fc zQ 164 #[ptr kp,.slice (some ⟨b,0,none⟩) 1 1,.func (.func sG) #[] cap] (G++(X++C)) (λv H=>v=.tuple #[]/\∃V G',H=G'++(X++C)/\P V G'/\V.Nodup/\DL K.N V/\(r<2\/r∈V)/\∀u∈V,Rc K.N (λq=>q=r) u):=by
 refine aW λg=>tR λb1 _ b3 _ mb _ b7 _=>?_;refine St.one (c':=#[.map (some mb)]) (by exact .head _) rfl zI rfl ?_;intro rN _;refine St.one (c':=#[.func (.func 211) #[] #[ptr b7,ptr b1,ptr b3,ptr rN]]) (by exact .head _) rfl zI rfl ?_;refine bY.mk ?_;obtain⟨Z,hZ⟩:∃Z:Hp,Z=(rN,Obj.cells #[.func (.func 211) #[] #[ptr b7,ptr b1,ptr b3,ptr rN]] 205 zZ)::(b7,.cells #[.map (some mb)] 296 zZ)::(b3,.cells #[.func (.func sG) #[] cap] 241 zZ)::(b1,.cells #[ptr kp] 45 zZ)::X:=⟨_,rfl⟩;have NG:∀(e:Obj),List.Perm ((rN,Obj.cells #[.func (.func 211) #[] #[ptr b7,ptr b1,ptr b3,ptr rN]] 205 zZ)::(b7,.cells #[.map (some mb)] 296 zZ)::(mb,e)::(b3,.cells #[.func (.func sG) #[] cap] 241 zZ)::(b1,.cells #[ptr kp] 45 zZ)::(G++(X++C))) ((mb,e)::(G++(Z++C))):=λe=>by
  rw[hZ];refine((List.Perm.cons _ (List.Perm.swap _ _ _)).trans (List.Perm.swap _ _ _)).trans (.cons _ ?_);have:∀(a b c d:Nat×Obj),(a::b::c::d::(G++(X++C))).Perm (G++(a::b::c::d::(X++C))):=λa b c d=>by
   have:=(xaK (l₁:=[a,b,c,d]) (l₂:=G)).append_right (X++C);simpa[xau]using this
  exact this _ _ _ _
 refine⟨λvs H=>∃(i:Nat) (es:Array MapEntry) (ck:Nat) (V:zL) (G':Hp),vs=[i64 (i:Int)]/\H=(mb,.map es ck)::(G'++(Z++C))/\rT es ck V/\P V G'/\((i=0/\V=[])\/(i=1/\Walk K [] V r)),λvs _=>1-dR vs 0,JE.of (.perm (NG _)) ⟨0,#[],0,[],G,rfl,rfl,bh.empty,hP,.inl ⟨rfl,rfl⟩⟩,?_⟩;rintro w H ⟨i,es,ck,V,G',⟨⟩,rfl,hE,Ml,hi⟩ gs;have mZ:∀{x:Nat×Obj},x∈Z->x∈(mb,Obj.map es ck)::(G'++(Z++C)):=λhx=>.tail _ (xaa _ (xac _ hx));rcases hi with⟨rfl,rfl⟩|⟨rfl,hw⟩
 ·refine ae.fN (b:=1) (Br.T (ai.nat zD ?_));refine Ld.mk (v:=u32 r) (mZ (by rw[hZ];exact .tail _ (.tail _ (.tail _ (.tail _ hm))))) rfl ?_;refine Ld.mk (v:=.func (.func 211) #[] #[ptr b7,ptr b1,ptr b3,ptr rN]) (mZ (by rw[hZ];exact .head _)) rfl ?_;refine bp.of rfl zK (aa.fq (args:=#[u32 r,ptr b7,ptr b1,ptr b3,ptr rN]) (Ck (Z:=Z) h hd (by rw[hZ];exact .tail _ (.head _)) (by rw[hZ];exact .tail _ (.tail _ (.tail _ (.head _)))) (by rw[hZ];exact .tail _ (.tail _ (.head _))) (by rw[hZ];exact .head _) K.n r es ck [] G' (xc9 _ _) hr List.nodup_nil hE Ml) ?_);rintro v H ⟨rfl,Ca,Cc,V2,G2,rfl,FA,KV,w2⟩;exact ae.inc (a:=0) (aR.mk ⟨1,Ca,Cc,V2,G2,rfl,rfl,FA,KV,.inr ⟨rfl,w2⟩⟩ (by simp only[dR];decide))
 refine ae.fN (b:=1) (Br.F (aZ.mk ?_ ⟨rfl,V,G',rfl,Ml,hw.nd,λu hu=>hw.shut u hu zI,hw.has,λu hu=>hw.rc u hu zI⟩));rw[hZ];exact .skip (.cA (.skip (.skip (.skip .tail))) _)
theorem xx(b4:Nat):FZ 165 #[ptr b4] K (λV G=>∃x:Int,G=[(b4,.cells #[i64 x] 3 zZ)]/\(V.length<4611686018427387904->x=V.length)):=by
 refine⟨by kernel_rfl,?_⟩;rintro V r d G hN ⟨x,rfl,hx⟩;refine aW λg=>tQ λb1 _=>?_;refine Ld.mk (v:=i64 x) (.tail _ (.head _)) rfl ?_;refine ae.add (St.one (c':=#[i64 (IntKind.i64.wrap (x+1))]) (by exact .tail (.head _)) rfl zI rfl ?_);refine aZ.mk .tail ⟨rfl,_,rfl,λhl=>?_⟩;rw[xaq,xbk]at hl⊢;rw[hx zO,wrap_i64 zO];omega
theorem Bt(h:cc kp K S ord af tr C){r b:Nat}{X:Hp}(hr:live K.N r)(hm:(b,Obj.cells (aq .u32 [(r:Int)]) 82 zZ)∈X):
  Rd zQ 129 #[ptr kp,.slice (some ⟨b,0,none⟩) 1 1] (X++C) (· =.tuple #[i64 ((sz K.n ord (λg=>g=S r):Nat):Int),i64 0]):=by
 refine aW λg=>uu (aa.eq (rK (X:=X) h hm hr) (ae.j7 (Br.F ?_)));intro b4 _;refine St.one (c':=#[i64 0]) (by exact .head _) rfl zI rfl ?_;refine aa.fn (C:=[(b4,Obj.cells #[i64 0] 3 zZ)]++(X++C)) .here (BL (P:=λV G=>∃x:Int,G=[(b4,.cells #[i64 x] 3 zZ)]/\(V.length<4611686018427387904->x=V.length)) h (xx b4) hr ⟨0,rfl,λ_=>rfl⟩ hm) ?_;rintro v H ⟨rfl,V,G,rfl,⟨x,rfl,hx⟩,n3,hsh,Hu,hrc⟩;refine Ld.q ?_;refine bS.mk .tail ?_;have hc:=Cm h.ok.wf h.ok.lv h.od h.ok.mid.int (R:=λq=>q=r) (λq hq=>by rw[hq];exact hr) hsh (λq hq=>by rw[hq];exact Hu) hrc n3;have hlen:V.length<=1048576:=by
  have:∀u∈V,u∈List.range 1048576:=λu hu=>by
   obtain⟨d,hd,_⟩:=hsh u hu;exact xaP.2 (h.cH (.inr ⟨d,hd⟩))
  have:=bG n3 this;rwa [xbN]at this
 rw[hx zO,<-y9 hc];have e:Fs S (λq=>q=r)=λg=>g=S r:=funext λg=>propext ⟨λ⟨q,hq,e⟩=>by rw[e,hq],λe=>⟨r,rfl,e⟩⟩;rw[e];rfl
end
end Go.Proofs
namespace au
open cI
variable {n:Nat} {ord:zL}
def Eo(ord:zL)(L:List Fn):Nat->List Fn
 |0=>L
 |l+1=>(Eo ord L l).flatMap λf=>[λx=>f (aK x (ord.getD l 0) false),λx=>f (aK x (ord.getD l 0) true)]
theorem m5(L:List Fn):∀l,(Eo ord L l).length=L.length*2^l
 |0=>by simp[Eo]
 |l+1=>by
  rw[Eo,List.length_flatMap];simp only[xai,xa5];rw[List.map_const',List.sum_replicate_nat,m5 L l,xcl,xcs]
theorem A1{F:Fn->Prop}{L:List Fn}(h:∀g,F g->g∈L):∀l g,fs ord F l g->g∈Eo ord L l
 |0,g,hg=>h g hg
 |l+1,g,⟨f,hf,b,e⟩=>by
  rw[Eo,List.mem_flatMap];refine⟨f,A1 h l f hf,?_⟩;subst e;cases b<;>simp
def sX(ord:zL)(L:List Fn):Nat->List Fn
 |0=>[]
 |k+1=>sX ord L k++Eo ord L k
theorem lz{ord:zL}(L:List Fn):∀k,(sX ord L k).length+L.length=L.length*2^k
 |0=>by simp[sX]
 |k+1=>by
  have:=lz (ord:=ord) L k;rw[sX,xaq,m5,xcl];have e:L.length*(2^k*2)=L.length*2^k+L.length*2^k:=by rw[<-xcs,Nat.mul_two]
  omega
theorem qO{L:List Fn}{g:Fn}{l:Nat}(h:g∈Eo ord L l):∀k,l<k->g∈sX ord L k
 |0,hk=>by omega
 |k+1,hk=>by
  rw[sX,xaw];by_cases e:l=k
  ·subst e;exact .inr h
  exact .inl (qO h k zO)
theorem wC{F:Fn->Prop}{L:List Fn}(h:∀g,F g->g∈L):∀g,aC n ord F g->g∈sX ord L n:=by
 rintro g ⟨l,hl,hg,_⟩;exact qO (A1 h l g hg) n hl
theorem qJ:∀l:List Fn,∃l':List Fn,l'.Nodup/\l'.length<=l.length/\∀g,g∈l↔g∈l'
 | []=>⟨[],List.nodup_nil,xak _,λ_=>xc0⟩
 |f::l=>by
  obtain⟨l',h1,h2,h3⟩:=qJ l;by_cases hm:f∈l'
  ·refine⟨l',h1,Nat.le_succ_of_le h2,λg=>?_⟩;rw[xaf,h3];exact⟨λh=>h.elim (λe=>e▸hm) id,.inr⟩
  exact⟨f::l',xaT.2 ⟨hm,h1⟩,Nat.succ_le_succ h2,λg=>by rw[xaf,xaf,h3]⟩
theorem DB{U:Fn->Prop}{l:List Fn}(h:∀g,U g->g∈l):∃k,k<=l.length/\nP U k:=by
 classical
 obtain⟨l',h1,h2,h3⟩:=qJ l;refine⟨(l'.filter λg=>decide (U g)).length,xbs (xc1 _ _) h2,_,h1.filter _,rfl,λg=>?_⟩;rw[xca,xaD,<-h3];exact⟨λx=>⟨h g x,x⟩,λx=>x.2⟩
theorem sn{F:Fn->Prop}{L:List Fn}{cap:Nat}(h:∀g,F g->g∈L)(hc:L.length*2^n+2<=cap):∃ku,nP (aC n ord F) ku/\ku+2<=cap:=by
 obtain⟨k,h1,h2⟩:=DB (wC (n:=n) (ord:=ord) h);have:=lz (ord:=ord) L n;exact⟨k,h2,by omega⟩
end au
namespace Go.Proofs.Fm
inductive Lk(z:Tok)(o:List Tok):List Tok->List Tok->Prop
 |fin:Lk z o [z] o
 |cons {x y:Tok} {l l':List Tok}:x.k=y.k->x.v=y.v->x.k≠0->Lk z o l l'->Lk z o (x::l) (y::l')
inductive Gr(L:Prop)(z:Tok)(o:List Tok):Gl->Gl->Prop
 |dz {lv dp qe:Nat} {l l':List Tok}:(¬L->qe<=dp)->Lk z o l l'->Gr L z o (.dz lv dp l) (.dz lv qe l')
 |more {lv dp qe:Nat} {a:Tr} {l l':List Tok}:(¬L->qe<=dp)->Lk z o l l'->Gr L z o (.more lv dp a l) (.more lv qe a l')
 |tight {dp qe:Nat} {l l':List Tok}:(¬L->qe<=dp)->Lk z o l l'->Gr L z o (.tight dp l) (.tight qe l')
inductive Pr(L:Prop)(z:Tok)(o:List Tok):Pl->Pl->Prop
 |ok {t:Tr} {l l':List Tok}:Lk z o l l'->Pr L z o (.done (.ok t l)) (.done (.ok t l'))
 |bad {p e:Nat} {q:Pl}:Pr L z o (.done (.bad p e)) q
 |cv {p:Pl} {q:Nat}:L->Pr L z o p (.done (.bad q 7))
 |call {g g':Gl} {k k':Rs->Pl}:Gr L z o g g'->(∀t l l',Lk z o l l'->Pr L z o (k (.ok t l)) (k' (.ok t l')))->(∀p e,k (.bad p e)=.done (.bad p e))->(∀p e,k' (.bad p e)=.done (.bad p e))->Pr L z o (.call g k) (.call g' k')
section
variable {L:Prop} {z y:Tok} {o r:List Tok} {n:Nat}
theorem Pr.bD{k:Nat}(hk:k≠0)(hz:z.k=0\/z.k=16)(n4:k≠16){t:Tr}{l l':List Tok}(h:Lk z o l l'){f f':Tr->List Tok->Pl}(hf:∀l l',Lk z o l l'->Pr L z o (f t l) (f' t l')):Pr L z o ((Rs.ok t l).bD k f) ((Rs.ok t l').bD k f'):=by
 cases h with
 |fin=>
  have:(Rs.ok t [z]).bD k f=.done (.bad z.p 14):=xab zO;rw[this];exact .bad
 | @cons x y l l' h1 h2 h3 h4=>
  show Pr L z o (if x.k=k then f t l else _) (if y.k=k then f' t l' else _);by_cases e:x.k=k
  ·rw[xae e,xae (h1▸e)];exact hf _ _ h4
  rw[xab e];exact .bad
theorem py(hz:z.k=0\/z.k=16)(ho:o=y::r)(hy:y.k=11){g g':Gl}(h:Gr L z o g g'):Pr L z o (cj n g) (cj n g'):=by
 have D:∀t l l',Lk z o l l'->Pr L z o (.done (.ok t l)) (.done (.ok t l')):=λt l l' h=>.ok h;cases h with
 | @dz lv dp qe l l' hd hl=>
  show Pr L z o (if lv=5 then _ else _) (if lv=5 then _ else _);by_cases e:lv=5
  ·rw[xae e,xae e];exact .call (.tight hd hl) D (λ_ _=>rfl) (λ_ _=>rfl)
  rw[xab e,xab e];exact .call (.dz hd hl) (λt l l' h=>.call (.more hd h) D (λ_ _=>rfl) (λ_ _=>rfl)) (λ_ _=>rfl) (λ_ _=>rfl)
 | @more lv dp qe a l l' hd hl=>
  have hs:=l9 lv;cases hl with
  |fin=>
   subst ho;show Pr L z _ (if z.k=bZ lv then _ else _) (if y.k=bZ lv then _ else _);rw[xab zO,xab zO];exact .ok .fin
  | @cons x y' l l' h1 h2 h3 h4=>
   show Pr L z o (if x.k=bZ lv then(if bZ lv=8 then _ else _)else _) (if y'.k=bZ lv then(if bZ lv=8 then _ else _)else _);rw[<-h1];by_cases e:x.k=bZ lv
   ·rw[xae e,xae e];by_cases e8:bZ lv=8
    ·rw[xae e8,xae e8];exact .call (.dz hd h4) (λt l l' h=>.ok h) (λ_ _=>rfl) (λ_ _=>rfl)
    rw[xab e8,xab e8];exact .call (.dz hd h4) (λt l l' h=>.call (.more hd h) D (λ_ _=>rfl) (λ_ _=>rfl)) (λ_ _=>rfl) (λ_ _=>rfl)
   rw[xab e,xab e];exact .ok (.cons h1 h2 h3 h4)
 | @tight dp qe l l' hd hl=>
  cases hl with
  |fin=>
   have:cj n (.tight dp [z])=.done (.bad z.p 14):=by
    show(if z.k=1\/z.k=2 then _ else if z.k=3 then _ else if z.k=4 then _ else if z.k=10 then _ else if z.k=12 then _ else _)=_;rw[xab zO,xab zO,xab zO,xab zO,xab zO]
   rw[this];exact .bad
  | @cons x y' l l' h1 h2 h3 h4=>
   have cv:∀{p:Nat} {q q':Pl},Pr L z o q q'->Pr L z o (if 1000<=dp then .done (.bad p 7)else q) (if 1000<=qe then .done (.bad y'.p 7)else q'):=λ{p q q'} h=>by
    by_cases a:1000<=dp
    ·rw[xae a];exact .bad
    rw[xab a];by_cases b:1000<=qe
    ·rw[xae b];by_cases hL:L
     ·exact .cv hL
     have:=hd hL;omega
    rw[xab b];exact h
   have HR:¬L->qe+1<=dp+1:=λh=>by have:=hd h;omega
   show Pr L z o (if x.k=1\/x.k=2 then _ else if x.k=3 then(if n<=x.v then _ else _)else if x.k=4 then(if 1000<=dp then _ else _)else if x.k=10 then(if 1000<=dp then _ else _)else if x.k=12 then(if 1000<=dp then _ else _)else _)
    (if y'.k=1\/y'.k=2 then _ else if y'.k=3 then(if n<=y'.v then _ else _)else if y'.k=4 then(if 1000<=qe then _ else _)else if y'.k=10 then(if 1000<=qe then _ else _)else if y'.k=12 then(if 1000<=qe then _ else _)else _)
   rw[<-h1,<-h2];by_cases e1:x.k=1\/x.k=2
   ·rw[xae e1,xae e1];exact .ok h4
   rw[xab e1,xab e1];by_cases e2:x.k=3
   ·rw[xae e2,xae e2];by_cases e:n<=x.v
    ·rw[xae e];exact .bad
    rw[xab e,xab e];exact .ok h4
   rw[xab e2,xab e2];by_cases e3:x.k=4
   ·rw[xae e3,xae e3];exact cv (.call (.tight HR h4) (λt l l' h=>.ok h) (λ_ _=>rfl) (λ_ _=>rfl))
   rw[xab e3,xab e3];by_cases e4:x.k=10
   ·rw[xae e4,xae e4];exact cv (.call (.dz HR h4) (λt l l' h=>.bD zD hz zD h λl l' h=>.ok h) (λ_ _=>rfl) (λ_ _=>rfl))
   rw[xab e4,xab e4];by_cases e5:x.k=12
   ·rw[xae e5,xae e5];exact cv (.call (.dz HR h4) (λt l l' h=>.bD zD hz zD h λl l' h=>.call (.dz HR h) (λt l l' h=>.bD zD hz zD h λl l' h=>.call (.dz HR h) (λt l l' h=>.bD zD hz zD h λl l' h=>.ok h) (λ_ _=>rfl) (λ_ _=>rfl)) (λ_ _=>rfl) (λ_ _=>rfl)) (λ_ _=>rfl) (λ_ _=>rfl))
   rw[xab e5];exact .bad
theorem Ev.LV(hz:z.k=0\/z.k=16)(ho:o=y::r)(hy:y.k=11){p:Pl}{s:Rs}(h:Ev n p s):∀{p':Pl},Pr L z o p p'->∀t l,s=.ok t l->(∃l',Ev n p' (.ok t l')/\Lk z o l l')\/(L/\∃q,Ev n p' (.bad q 7)):=by
 induction h with
 |done=>
  intro p' hp t l e;cases hp with
  |ok h=>cases e;exact .inl ⟨_,.done,h⟩
  |bad=>cases e
  |cv hL=>exact .inr ⟨hL,_,.done⟩
 | @call g k r1 r2 h1 h2 i1 i2=>
  intro p' hp t l e;cases hp with
  |cv hL=>exact .inr ⟨hL,_,.done⟩
  |call hg hk hb hb'=>
   cases r1 with
   |bad p' e'=>
    rw[hb]at h2;cases h2;cases e
   |ok t1 l1=>
    rcases i1 (py hz ho hy hg) t1 l1 rfl with⟨JZ,a,b⟩|⟨hL,q,a⟩
    ·rcases i2 (hk t1 l1 JZ b) t l e with⟨l',c,d⟩|⟨hL,q,c⟩
     ·exact .inl ⟨l',.call a c,d⟩
     exact .inr ⟨hL,q,.call a c⟩
    exact .inr ⟨hL,q,.call a (by rw[hb'];exact .done)⟩
end
theorem uW(s:List UInt8):∀(l:List UInt8) (n k:Nat),num n k (l++41::s)=num n k l
 | [],n,k=>by
  show num n k (41::s)=(n,k);unfold num;exact xae (.inl rfl)
 |b::l,n,k=>by
  show num n k (b::(l++41::s))=num n k (b::l);unfold num;rw[uW s l]
theorem uS(s:List UInt8):∀(t r:List UInt8),(41:UInt8)∉t->t.isPrefixOf (r++41::s)=t.isPrefixOf r
 | [],r,_=>by cases r<;>rfl
 |a::t,[],h=>by
  have:(a==(41:UInt8))=false:=by
   rw[beq_eq_false_iff_ne];exact λe=>h (by rw[e];exact .head _)
  show(a==41&&t.isPrefixOf s)=false;rw[this];rfl
 |a::t,b::r,h=>by
  show(a==b&&t.isPrefixOf (r++41::s))=(a==b&&t.isPrefixOf r);rw[uS s t r λh'=>h (.tail _ h')]
theorem uN(b:UInt8)(r s:List UInt8):∀S:List (List UInt8×Nat),(∀x∈S,∃a t,x.1=a::t/\(41:UInt8)∉t)->nQ (b::(r++41::s)) S=nQ (b::r) S
 | [],_=>rfl
 |x::S,h=>by
  obtain⟨a,t,e,ht⟩:=h x (.head _);unfold nQ;rw[uN b r s S λy hy=>h y (.tail _ hy),e];have:(a::t).isPrefixOf (b::(r++41::s))=(a::t).isPrefixOf (b::r):=by
   show(a==b&&t.isPrefixOf (r++41::s))=(a==b&&t.isPrefixOf r);rw[uS s t r ht]
  rw[this]
theorem y8(b:UInt8)(r s:List UInt8):bM (b::(r++41::s))=bM (b::r):=by
 unfold bM;have h1:fQ (b::(r++41::s))=fQ (b::r):=by
  show(if _ then _ else _)=(if _ then _ else _);rw[uW]
 have hS:∀x∈cG,∃a t,x.1=a::t/\(41:UInt8)∉t:=by
  intro x hx;simp only[cG,xaf,xat,xaZ]at hx;rcases hx with rfl|rfl|rfl|rfl|rfl|rfl|rfl|rfl|rfl|rfl|rfl|rfl|rfl|rfl<;>exact⟨_,_,rfl,by decide⟩
 rw[h1,uN b r s cG hS]
theorem y7{s:List UInt8}{p:Nat}{f:List UInt8}{o1:List Tok}(h:cu p f o1):∀{i:List Tok} {z:Tok},o1=i++[z]->z.k=0->∀(q:Nat) (o2:List Tok),cu (q+f.length) (41::s) o2->∃o',cu q (f++41::s) o'/\Lk z o2 o1 o':=by
 have one:∀{x z:Tok} {i:List Tok},[x]=i++[z]->x=z:=λ{x z i} e=>by
  cases i with
  |nil=>cases e;rfl
  |cons y i=>simp at e
 induction h with
 |fin=>
  intro i z e hz q o2 h2;obtain rfl:=one e;exact⟨o2,h2,.fin⟩
 | @blank p r o h ih=>
  intro i z e hz q o2 h2;obtain⟨o',a,b⟩:=ih e hz (q+1) o2 (by rw[xai]at h2;rw[show q+1+r.length=q+(r.length+1)by omega];exact h2);exact⟨o',.blank a,b⟩
 |wrong hb h=>
  intro i z e hz q o2 h2;obtain rfl:=one e;cases hz
 | @tok p b r o hb h h' ih=>
  intro i z e hz q o2 h2;have hl:=jr h;obtain⟨j,rfl⟩:∃j,o=j++[z]:=by
   cases i with
   |nil=>
    simp only[xa2,xa0]at e;obtain⟨_,rfl⟩:=e;obtain⟨i',t',e',_⟩:=h'.last;simp at e'
   |cons y i=>
    simp only[xaF,xa0]at e;exact⟨i,e.2⟩
  obtain⟨o',a,c⟩:=ih rfl hz (q+(bM (b::r)).2.2) o2 (by
   rw[show q+(bM (b::r)).2.2+((b::r).drop (bM (b::r)).2.2).length=q+(b::r).length by rw[xbu];omega];exact h2)
  have ht:=y8 b r s;have HH:(bM (b::r)).1≠0:=by
   obtain⟨i',t',e',_,hi'⟩:=(cu.tok hb h h').last;cases i' with
   |nil=>
    simp only[xa2,xa0]at e';have:=xb1 List.length e'.2;simp at this
   |cons y i'=>
    simp only[xaF,xa0]at e';have:=(hi' y (.head _)).1;rw[<-e'.1]at this;exact this
  refine⟨⟨(bM (b::r)).1,q,(bM (b::r)).2.1⟩::o',?_,.cons rfl rfl HH c⟩;have:=cu.tok (p:=q) (b:=b) (r:=r++41::s) (o:=o') hb (by rw[ht];exact h) (by
   rw[ht,show b::(r++41::s)=(b::r)++41::s from rfl,xdd hl.2.1];exact a)
  rw[ht]at this;exact this
theorem FO{n:Nat}{f s:List UInt8}{t:Tr}{l':List Tok}(h:Reads n f (.ok t l'))(q dp:Nat){o2:List Tok}{y:Tok}{r:List Tok}(ho:o2=y::r)(hy:y.k=11)(h2:cu (q+f.length) (41::s) o2):
  ∃o',cu q (f++41::s) o'/\(Ev n (cj n (.dz 0 dp o')) (.ok t o2)\/∃p,Ev n (cj n (.dz 0 dp o')) (.bad p 7)):=by
 cases h with
 | @mk o _ hl ht he=>
  obtain⟨i,z,rfl,hz,hi⟩:=ht.last;cases he with
  | @call _ _ r1 _ h1 h3=>
   cases r1 with
   |bad p e=>cases h3
   |ok t1 l1=>
    have Ii:∀{i:List Tok},(∀u∈i,u.k≠0/\u.k≠16)->Lk z o2 (i++[z]) (i++o2):=by
     intro i;induction i with
     |nil=>exact λ_=>.fin
     |cons x i ih=>exact λh=>.cons rfl rfl (h x (.head _)).1 (ih λu hu=>h u (.tail _ hu))
    obtain⟨x,l2,rfl⟩:∃x l2,l1=x::l2:=by
     cases l1 with
     |nil=>cases h3
     |cons x l2=>exact⟨x,l2,rfl⟩
    have hx:x.k=0/\t1=t:=by
     by_cases e:x.k=0
     ·have e':(Rs.ok t1 (x::l2)).bD 0 (λt l'=>.done (.ok t l'))=.done (.ok t1 l2):=xae e;have pO:=e'▸(show Ev n ((Rs.ok t1 (x::l2)).bD 0 λt l'=>.done (.ok t l')) (.ok t l')from h3);cases pO;exact⟨e,rfl⟩
     have e':(Rs.ok t1 (x::l2)).bD 0 (λt l'=>.done (.ok t l'))=.done (.bad x.p 14):=xab e;have pO:=e'▸(show Ev n ((Rs.ok t1 (x::l2)).bD 0 λt l'=>.done (.ok t l')) (.ok t l')from h3);cases pO
    obtain⟨hx0,rfl⟩:=hx;have Hi:z.k=0:=by
     rcases Ev.LV (L:=False) hz ho hy h1 (py hz ho hy (.dz (λ_=>xak _) (Ii hi))) t1 _ rfl with⟨l',_,hk⟩|⟨hL,_⟩
     ·cases hk with
      |fin=>exact hx0
      |cons _ _ h3 _=>exact absurd hx0 h3
     ·exact hL.elim
    obtain⟨o',a,b⟩:=y7 ht rfl Hi q o2 h2;refine⟨o',a,?_⟩;rcases Ev.LV (L:=True) hz ho hy h1 (py hz ho hy (Gr.dz (qe:=dp) (λh=>absurd trivial h) b)) t1 _ rfl with⟨l',c,hk⟩|⟨_,q',c⟩
    ·cases hk with
     |fin=>exact .inl c
     |cons _ _ h3 _=>exact absurd hx0 h3
    ·exact .inr ⟨q',c⟩
theorem Ev.up{n dp:Nat}{l:List Tok}{r:Rs}:∀(j lv:Nat),lv+j<=5->(∀t x l',r=.ok t (x::l')->∀m,lv<=m->m<lv+j->x.k≠bZ m)->(∀t,r≠.ok t [])->Ev n (cj n (.dz (lv+j) dp l)) r->Ev n (cj n (.dz lv dp l)) r
 |0,lv,_,_,_,h=>h
 |j+1,lv,hj,hx,hn,h=>by
  have h1:=Ev.up (r:=r) (dp:=dp) (l:=l) (n:=n) j (lv+1) zO (λt x l' e m h1 h2=>hx t x l' e m zO zO) hn (by rw[show lv+1+j=lv+(j+1)by omega];exact h);show Ev n (if lv=5 then _ else _) r;rw[xab zO];refine .call h1 ?_;cases r with
  |bad p e=>exact .done
  |ok t l'=>
   cases l' with
   |nil=>exact absurd rfl (hn t)
   |cons x l'=>
    refine .call ?_ .done;show Ev n (if x.k=bZ lv then _ else _) _;rw[xab (hx t x l' rfl lv (xak _) zO)];exact .done
theorem Ev.t5{n dp:Nat}{l:List Tok}{r:Rs}(h:Ev n (cj n (.tight dp l)) r):Ev n (cj n (.dz 5 dp l)) r:=.call h .done
theorem Ev.FO{n dp:Nat}{y x:Tok}{l o2:List Tok}{t:Tr}(hx:x.k=10)(hy:y.k=11)(hd:dp<1000)(h:Ev n (cj n (.dz 0 (dp+1) l)) (.ok t (y::o2))\/∃p,Ev n (cj n (.dz 0 (dp+1) l)) (.bad p 7)):
  Ev n (cj n (.tight dp (x::l))) (.ok t o2)\/∃p,Ev n (cj n (.tight dp (x::l))) (.bad p 7):=by
 have e:cj n (.tight dp (x::l))=.call (.dz 0 (dp+1) l) λr=>r.bD 11 λa l2=>.done (.ok a l2):=by
  show(if x.k=1\/x.k=2 then _ else if x.k=3 then _ else if x.k=4 then _ else if x.k=10 then(if 1000<=dp then _ else _)else _)=_;rw[xab zO,xab zO,xab zO,xae hx,xab zO]
 rw[e];rcases h with h|⟨p,h⟩
 ·exact .inl (.call h (Ev.bD hy .done))
 exact .inr ⟨p,.call h .done⟩
def IE(n:Nat)(l:List UInt8)(t:Tr):Prop:=Reads n l (.ok t [])\/∃p,Reads n l (.bad p 7)
theorem z6{n:Nat}{l:List UInt8}{o:List Tok}{t:Tr}{p:Nat}(hl:l.length<=65536)(ho:cu 0 l o)(h:Ev n (cj n (.dz 0 0 o)) (.ok t [⟨0,p,0⟩])\/∃p,Ev n (cj n (.dz 0 0 o)) (.bad p 7)):IE n l t:=by
 rcases h with h|⟨q,h⟩
 ·exact .inl (.mk hl ho (.call h (Ev.bD rfl .done)))
 exact .inr ⟨q,.mk hl ho (.call h .done)⟩
theorem ED(r:List UInt8):bM (40::r)=(10,0,1):=rfl
theorem EC(r:List UInt8):bM (41::r)=(11,0,1):=rfl
theorem JO(r:List UInt8):bM (33::r)=(4,0,1):=rfl
def LW(c:UInt8)(k lv:Nat):Prop:=(c=38/\k=5/\lv=4)\/(c=124/\k=7/\lv=2)\/(c=94/\k=6/\lv=3)
theorem CZ{n:Nat}{f g:List UInt8}{tf tg:Tr}{lf lg:List Tok}{c:UInt8}{k lv:Nat}(hc:LW c k lv)(hf:Reads n f (.ok tf lf))(hg:Reads n g (.ok tg lg))(hl:f.length+g.length+5<=65536):
  IE n (40::(f++(41::c::40::(g++[41])))) (.bin k tf tg):=by
 have hk:5<=k/\k<=7:=by rcases hc with⟨_,rfl,_⟩|⟨_,rfl,_⟩|⟨_,rfl,_⟩<;>omega
 have hlv:2<=lv/\lv<=4:=by rcases hc with⟨_,_,rfl⟩|⟨_,_,rfl⟩|⟨_,_,rfl⟩<;>omega
 have yK:bZ lv=k:=by rcases hc with⟨_,rfl,rfl⟩|⟨_,rfl,rfl⟩|⟨_,rfl,rfl⟩<;>rfl
 have hne:∀m,lv<m->m<5->k≠bZ m:=λm h1 h2=>by
  have:m=3\/m=4:=by omega
  rcases hc with⟨_,rfl,rfl⟩|⟨_,rfl,rfl⟩|⟨_,rfl,rfl⟩<;>rcases this with rfl|rfl<;>first|omega|decide
 have Nh:∀r,bM (c::r)=(k,0,1):=λr=>by rcases hc with⟨rfl,rfl,_⟩|⟨rfl,rfl,_⟩|⟨rfl,rfl,_⟩<;>rfl
 have Dp:c≠32:=by rcases hc with⟨rfl,_⟩|⟨rfl,_⟩|⟨rfl,_⟩<;>decide
 obtain⟨og,N5,N4⟩:=FO (s:=[]) hg (1+f.length+3) 1 (o2:=[⟨11,1+f.length+3+g.length,0⟩,⟨0,1+f.length+3+g.length+1,0⟩]) rfl rfl (.step (EC _) zD zD .fin);obtain⟨of,Fo,vq⟩:=FO (s:=c::40::(g++[41])) hf 1 1 (o2:=⟨11,1+f.length,0⟩::⟨k,1+f.length+1,0⟩::⟨10,1+f.length+1+1,0⟩::og) rfl rfl
  (.step (EC _) zD zD (.step (Nh _) Dp zO (.step (ED _) zD zD N5)))
 have ht:cu 0 (40::(f++(41::c::40::(g++[41])))) (⟨10,0,0⟩::of):=.step (ED _) zD zD (by simpa using Fo);refine z6 (p:=1+f.length+3+g.length+1) (by simp only[xai,xaq,xa5];omega) ht ?_;have GO:∀m,(0:Nat)≠bZ m:=λm h=>by have:=l9 m;omega
 have all:∀r:Rs,(r=.ok (.bin k tf tg) [⟨0,1+f.length+3+g.length+1,0⟩]\/∃p,r=.bad p 7)->Ev n (cj n (.dz lv 0 (⟨10,0,0⟩::of))) r->Ev n (cj n (.dz 0 0 (⟨10,0,0⟩::of))) r:=λr hr h=>by
  refine Ev.up lv 0 zO (λt x l' e m _ _=>?_) (λt e=>?_) (by rw[xa1];exact h)
  ·rcases hr with rfl|⟨p,rfl⟩
   ·cases e;exact GO m
   cases e
  rcases hr with rfl|⟨p,rfl⟩<;>cases e
 have first:=Ev.FO (n:=n) (dp:=0) (x:=⟨10,0,0⟩) rfl rfl zD vq
 have upTo:∀(kZ:Nat) (l:List Tok) (r:Rs),kZ<=5->(∀t x l',r=.ok t (x::l')->∀m,kZ<=m->m<5->x.k≠bZ m)->(∀t,r≠.ok t [])->Ev n (cj n (.tight 0 l)) r->Ev n (cj n (.dz kZ 0 l)) r:=λkZ l r h1 h2 h3 h=>
  Ev.up (5-kZ) kZ zO (λt x l' e m a b=>h2 t x l' e m a zO) h3 (by rw[show kZ+(5-kZ)=5 by omega];exact h.t5)
 have step:∀(r:Rs),(r=.ok (.bin k tf tg) [⟨0,1+f.length+3+g.length+1,0⟩]\/∃p,r=.bad p 7)->∀r1,Ev n (cj n (.dz (lv+1) 0 (⟨10,0,0⟩::of))) r1->Ev n (r1.thn λa l1=>.call (.more lv 0 a l1) .done) r->Ev n (cj n (.dz lv 0 (⟨10,0,0⟩::of))) r:=λr _ r1 h1 h2=>by
  show Ev n (if lv=5 then _ else _) r;rw[xab zO];exact .call h1 h2
 rcases first with h1|⟨p,h1⟩
 rotate_left
 ·refine .inr ⟨p,all _ (.inr ⟨p,rfl⟩) (step _ (.inr ⟨p,rfl⟩) _ (upTo (lv+1) _ _ zO (λ_ _ _ e=>by cases e) (λ_ e=>by cases e) h1) .done)⟩
 have qc:=upTo (lv+1) _ _ zO (λt x l' e m a b=>by cases e;exact hne m zO b) (λ_ e=>by cases e) h1;have L0:∀r r2,Ev n (cj n (.dz (lv+1) 0 (⟨10,1+f.length+1+1,0⟩::og))) r2->Ev n (r2.thn λb l2=>.call (.more lv 0 (.bin k tf b) l2) .done) r->Ev n (cj n (.more lv 0 tf (⟨k,1+f.length+1,0⟩::⟨10,1+f.length+1+1,0⟩::og))) r:=λr r2 a b=>by
  show Ev n (if k=bZ lv then(if bZ lv=8 then _ else _)else _) r;rw[yK,xae rfl,xab zO];exact .call a b
 have second:=Ev.FO (n:=n) (dp:=0) (x:=⟨10,1+f.length+1+1,0⟩) rfl rfl zD N4;rcases second with h2|⟨p,h2⟩
 ·refine .inl (all _ (.inl rfl) (step _ (.inl rfl) _ qc (.call (L0 _ _ (upTo (lv+1) _ _ zO (λt x l' e m a b=>by cases e;exact GO m) (λ_ e=>by cases e) h2) (.call ?_ .done)) .done)));show Ev n (if(0:Nat)=bZ lv then _ else _) _;rw[xab (GO lv)];exact .done
 exact .inr ⟨p,all _ (.inr ⟨p,rfl⟩) (step _ (.inr ⟨p,rfl⟩) _ qc (.call (L0 _ _ (upTo (lv+1) _ _ zO (λ_ _ _ e=>by cases e) (λ_ e=>by cases e) h2) .done) .done))⟩
theorem CY{n:Nat}{f:List UInt8}{tf:Tr}{lf:List Tok}(hf:Reads n f (.ok tf lf))(hl:f.length+3<=65536):IE n (33::40::(f++[41])) (.no tf):=by
 obtain⟨of,Fo,vq⟩:=FO (s:=[]) hf 2 2 (o2:=[⟨11,2+f.length,0⟩,⟨0,2+f.length+1,0⟩]) rfl rfl (.step (EC _) zD zD .fin);have ht:cu 0 (33::40::(f++[41])) (⟨4,0,0⟩::⟨10,1,0⟩::of):=.step (JO _) zD zD (.step (ED _) zD zD Fo);refine z6 (p:=2+f.length+1) (by simp only[xai,xaq,xa5];omega) ht ?_;have first:=Ev.FO (n:=n) (dp:=1) (x:=⟨10,1,0⟩) rfl rfl zD vq
 have GO:∀m,(0:Nat)≠bZ m:=λm h=>by have:=l9 m;omega
 have e:cj n (.tight 0 (⟨4,0,0⟩::⟨10,1,0⟩::of))=.call (.tight 1 (⟨10,1,0⟩::of)) λr=>r.thn λa l2=>.done (.ok (.no a) l2):=rfl;rcases first with h1|⟨p,h1⟩
 ·refine .inl (Ev.up 5 0 zO (λt x l' e m _ _=>by cases e;exact GO m) (λ_ e=>by cases e) (Ev.t5 ?_));rw[e];exact .call h1 .done
 refine .inr ⟨p,Ev.up 5 0 zO (λ_ _ _ e=>by cases e) (λ_ e=>by cases e) (Ev.t5 ?_)⟩;rw[e];exact .call h1 .done
def Rs.nr(c:Nat):Rs->Prop
 | .ok _ l=>∀x∈l,x.p<=c
 | .bad p _=>p<=c
def Gl.nr(c:Nat):Gl->Prop
 | .dz _ _ l=>∀x∈l,x.p<=c
 | .more _ _ _ l=>∀x∈l,x.p<=c
 | .tight _ l=>∀x∈l,x.p<=c
inductive Pl.Nr(c:Nat):Pl->Prop
 |done {r:Rs}:r.nr c->Nr c (.done r)
 |call {g:Gl} {k:Rs->Pl}:g.nr c->(∀r,r.nr c->Nr c (k r))->Nr c (.call g k)
theorem Pl.Nr.thn{c:Nat}{r:Rs}{f:Tr->List Tok->Pl}(hr:r.nr c)(h:∀t l,(∀x∈l,x.p<=c)->Nr c (f t l)):Nr c (r.thn f):=by
 cases r with
 |ok t l=>exact h t l hr
 |bad p e=>exact .done hr
theorem Pl.Nr.bD{c k:Nat}{r:Rs}{f:Tr->List Tok->Pl}(hr:r.nr c)(h:∀t l,(∀x∈l,x.p<=c)->Nr c (f t l)):Nr c (r.bD k f):=by
 refine .thn hr λt l h1=>?_;cases l with
 |nil=>exact .done (xaE _)
 |cons x l=>
  show Nr c (if x.k=k then _ else _);split
  ·exact h t l λy hy=>h1 y (.tail _ hy)
  exact .done (h1 x (.head _))
theorem CE(n:Nat){c:Nat}(g:Gl)(hg:g.nr c):(cj n g).Nr c:=by
 cases g with
 |dz lv dp l=>
  show Pl.Nr c (if lv=5 then _ else _);split
  ·exact .call (by exact hg) λr h=>.done h
  exact .call (by exact hg) λr h=>.thn h λt l h=>.call (by exact h) λr h=>.done h
 |more lv dp a l=>
  cases l with
  |nil=>exact .done (xaE _)
  |cons x l=>
   have hl:∀y∈l,y.p<=c:=λy hy=>hg y (.tail _ hy);show Pl.Nr c (if x.k=bZ lv then(if bZ lv=8 then _ else _)else _);split
   ·split
    ·exact .call (by exact hl) λr h=>.thn h λt l h=>.done h
    exact .call (by exact hl) λr h=>.thn h λt l h=>.call (by exact h) λr h=>.done h
   exact .done hg
 |tight dp l=>
  cases l with
  |nil=>exact .done (xaE _)
  |cons x l=>
   have hx:x.p<=c:=hg x (.head _);have hl:∀y∈l,y.p<=c:=λy hy=>hg y (.tail _ hy);show Pl.Nr c (if x.k=1\/x.k=2 then _ else if x.k=3 then(if n<=x.v then _ else _)else if x.k=4 then(if 1000<=dp then _ else _)else if x.k=10 then(if 1000<=dp then _ else _)else if x.k=12 then(if 1000<=dp then _ else _)else _);split
   ·exact .done hl
   split
   ·split
    ·exact .done hx
    exact .done hl
   split
   ·split
    ·exact .done hx
    exact .call (by exact hl) λr h=>.thn h λt l h=>.done h
   split
   ·split
    ·exact .done hx
    exact .call (by exact hl) λr h=>.bD h λt l h=>.done h
   split
   ·split
    ·exact .done hx
    exact .call (by exact hl) λr h=>.bD h λt l h=>.call (by exact h) λr h=>.bD h λt l h=>.call (by exact h) λr h=>.bD h λt l h=>.done h
   exact .done hx
theorem Ev.nr{n c:Nat}{p:Pl}{r:Rs}(h:Ev n p r)(hp:p.Nr c):r.nr c:=by
 induction h with
 |done=>cases hp with|done h=>exact h
 |call _ _ i1 i2=>cases hp with|call h0 h=>exact i2 (h _ (i1 (CE n _ h0)))
theorem cu.place{p:Nat}{l:List UInt8}{o:List Tok}(h:cu p l o):∀x∈o,x.p<=p+l.length:=by
 induction h with
 |fin=>intro x hx;rw[xaH.1 hx];exact xdy _ _
 |blank _ ih=>intro x hx;have:=ih x hx;rw[xai];omega
 |wrong _ _=>intro x hx;rw[xaH.1 hx];exact xdy _ _
 |tok _ h _ ih=>
  intro x hx;rcases xaf.1 hx with rfl|hx
  ·exact xdy _ _
  have:=ih x hx;have:=jr h;rw[xbu]at*;omega
theorem Reads.place{n:Nat}{l:List UInt8}{a e:Nat}(h:Reads n l (.bad a e)):a<=l.length:=by
 cases h with
 |wH _=>exact xaE _
 |mk _ ht h=>
  have:=h.nr (c:=l.length) (.call (λx hx=>by have:=ht.place x hx;omega) λr hr=>.bD hr λt l h=>.done h);exact this
def Tr.all:Tr->List (Nat->Bool)
 | .c k=>[(Tr.c k).fn]
 | .v n=>[(Tr.v n).fn]
 | .no a=>(Tr.no a).fn::a.all
 | .bin k a b=>(Tr.bin k a b).fn::(a.all++b.all)
 | .ite a b d=>(Tr.ite a b d).fn::(a.all++(b.all++d.all))
theorem Tr.dr{g:Nat->Bool}:∀{t:Tr},t.ei g↔g∈t.all
 | .c k=>by simp[Tr.ei,Tr.all]
 | .v n=>by simp[Tr.ei,Tr.all]
 | .no a=>by simp[Tr.ei,Tr.all,Tr.dr (t:=a)]
 | .bin k a b=>by simp[Tr.ei,Tr.all,Tr.dr (t:=a),Tr.dr (t:=b)]
 | .ite a b d=>by simp[Tr.ei,Tr.all,Tr.dr (t:=a),Tr.dr (t:=b),Tr.dr (t:=d)]
def Gl.pc:Gl->Nat
 | .dz _ _ l=>l.length
 | .more _ _ a l=>a.all.length+l.length
 | .tight _ l=>l.length
def Rs.rp(c:Nat):Rs->Prop
 | .ok t l=>t.all.length+l.length<=c
 | .bad _ _=>True
inductive Pl.Fw:Nat->Pl->Prop
 |done {c:Nat} {r:Rs}:r.rp c->Fw c (.done r)
 |call {c:Nat} {g:Gl} {k:Rs->Pl}:(∀r,r.rp g.pc->Fw c (k r))->Fw c (.call g k)
theorem Pl.Fw.thn{c c':Nat}{r:Rs}{f:Tr->List Tok->Pl}(hr:r.rp c')(h:∀t l,t.all.length+l.length<=c'->Fw c (f t l)):Fw c (r.thn f):=by
 cases r with
 |ok t l=>exact h t l hr
 |bad p e=>exact .done trivial
theorem Pl.Fw.bD{c c' k:Nat}{r:Rs}{f:Tr->List Tok->Pl}(hr:r.rp c')(h:∀t l,t.all.length+l.length+1<=c'->Fw c (f t l)):Fw c (r.bD k f):=by
 refine .thn hr λt l h1=>?_;cases l with
 |nil=>exact .done trivial
 |cons x l=>
  show Fw c (if x.k=k then _ else _);split
  ·exact h t l h1
  exact .done trivial
theorem CG(n:Nat)(g:Gl):Pl.Fw g.pc (cj n g):=by
 cases g with
 |dz lv dp l=>
  show Pl.Fw _ (if lv=5 then _ else _);split
  ·exact .call λr h=>.done h
  exact .call λr h=>.thn h λt l1 h1=>.call λr h=>.done (by
   cases r with
   |ok t' l'=>exact xbs h h1
   |bad=>trivial)
 |more lv dp a l=>
  cases l with
  |nil=>exact .done trivial
  |cons x l=>
   show Pl.Fw _ (if x.k=bZ lv then(if bZ lv=8 then _ else _)else _);split
   ·split
    ·refine .call λr h=>.thn h λt l1 h2=>.done ?_;simp only[Rs.rp,Tr.all,Gl.pc,xai,xaq]at h2⊢;omega
    refine .call λr h=>.thn h λt l1 h2=>.call λr h=>.done ?_;cases r with
    |ok t' l'=>
     simp only[Rs.rp,Tr.all,Gl.pc,xai,xaq]at h2 h⊢;omega
    |bad=>trivial
   ·exact .done (xak _)
 |tight dp l=>
  cases l with
  |nil=>exact .done trivial
  |cons x l=>
   show Pl.Fw (l.length+1) (if x.k=1\/x.k=2 then _ else if x.k=3 then(if n<=x.v then _ else _)else if x.k=4 then(if 1000<=dp then _ else _)else if x.k=10 then(if 1000<=dp then _ else _)else if x.k=12 then(if 1000<=dp then _ else _)else _);split
   ·exact .done (by simp only[Rs.rp,Tr.all,xai,xa5];omega)
   split
   ·split
    ·exact .done trivial
    exact .done (by simp only[Rs.rp,Tr.all,xai,xa5];omega)
   split
   ·split
    ·exact .done trivial
    exact .call λr h=>.thn h λt l1 h2=>.done (by simp only[Rs.rp,Tr.all,Gl.pc,xai]at h2⊢;omega)
   split
   ·split
    ·exact .done trivial
    exact .call λr h=>.bD h λt l1 h2=>.done (by simp only[Rs.rp,Gl.pc]at h2⊢;omega)
   split
   ·split
    ·exact .done trivial
    refine .call λr h=>.bD h λt l1 h2=>.call λr h=>.bD h λt2 l2 h4=>.call λr h=>.bD h λt3 l3 h6=>.done ?_;simp only[Rs.rp,Tr.all,Gl.pc,xai,xaq]at h2 h4 h6⊢;omega
   exact .done trivial
theorem Ev.rp{n c:Nat}{p:Pl}{r:Rs}(h:Ev n p r)(hp:p.Fw c):r.rp c:=by
 induction h generalizing c with
 |done=>cases hp with|done h=>exact h
 |call _ _ i1 i2=>cases hp with|call h=>exact i2 (h _ (i1 (CG n _)))
theorem Reads.rp{n:Nat}{l:List UInt8}{t:Tr}{l':List Tok}(h:Reads n l (.ok t l'))(hlen:∀o,cu 0 l o->o.length<=l.length+1):t.all.length<=l.length+1:=by
 cases h with
 |mk hl ht h=>
  have h1:=hlen _ ht;have h2:=h.rp (c:=l.length+1) (.call λr hr=>.bD hr λt l2 h3=>.done (by simp only[Rs.rp,Gl.pc]at h3⊢;omega));have h3:t.all.length+l'.length<=l.length+1:=h2;omega
end Go.Proofs.Fm
