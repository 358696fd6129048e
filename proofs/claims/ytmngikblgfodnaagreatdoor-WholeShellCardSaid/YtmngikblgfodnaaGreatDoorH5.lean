import Derived.Test.YtmngikblgfodnaaGreatDoorH4
import Derived.Test.YtmngikblgfodnaaGreatDoorH3
import Derived.Test.YtmngikblgfodnaaGreatDoorH1
import Derived.Test.YtmngikblgfodnaaGreatDoorH2
import Derived.Lib.MakeNoZero
import Derived.Lib.FrozenHead
set_option linter.unusedVariables false
set_option linter.unusedSimpArgs false
set_option linter.unusedSectionVars false
set_option maxRecDepth 100000
namespace Go.Proofs
open Go Go.Sx Tryz
section
open Fm Sw
def dZ(t:List UInt8)(a e:Nat):List zV:=[aq t,nI a,nI e]
abbrev nY(t:List UInt8)(a e:Nat):zV:=.agg (dZ t a e).toArray
theorem bI(t:List UInt8)(a e:Nat):∀u∈dZ t a e,u.oneCell'=true:=λu hu=>by
 simp only[dZ,xag,xaw,xaZ]at hu;rcases hu with rfl|rfl|rfl<;>rfl
theorem mY(a e:Nat)(B:Hp):Rd zQ 12 #[nI a,nI e] B (· =nY [] a e):=by
 refine aK λg=>Ni λb1 _=>Build.mk (cs:=dZ [] a e) zK (St.whole (r:=dZ [] a e) (.head _) rfl rfl (bI _ _ _) (ax.whole (r:=dZ [] a e) (.head _) rfl ?_));exact bD.mk .tail rfl
theorem pN(t:List UInt8)(e:Nat)(B:Hp):Rd zQ 99 #[aq t,nI e] B (· =if e=0 then nY t 0 0 else nY [] 0 e):=by
 refine aK λg=>LZ λb1 _=>ae.jD (b:=0) (Br.dec (λh=>?_) (λh=>?_))
 ·refine aa.eq (mY 0 e _) (St.whole (r:=dZ [] 0 e) (.head _) rfl rfl (bI _ _ _) (ax.whole (r:=dZ [] 0 e) (.head _) rfl ?_));exact bD.mk .tail (by rw[xac h])
 have h:e=0:=xer.1 h;subst h;refine Build.mk (cs:=dZ t 0 0) zK (St.whole (r:=dZ t 0 0) (.head _) rfl rfl (bI _ _ _) (ax.whole (r:=dZ t 0 0) (.head _) rfl ?_));exact bD.mk .tail rfl
def qQ(w:Wd×Nat):List zV:=[aq w.1.t,nI w.1.a,nI w.1.e,nI w.2]
theorem Ar(w:Wd×Nat):∀u∈qQ w,u.oneCell'=true:=λu hu=>by
 simp only[qQ,xag,xaw,xaZ]at hu;rcases hu with rfl|rfl|rfl|rfl<;>rfl
abbrev NmE(es:Array MapEntry)(ck:Nat)(ns:List (List UInt8×Nat)):Prop:=aT aq (λv (r:Nat)=>v=u32 r) es ck ns
def mc(ns:List (List UInt8×Nat))(t:List UInt8):Bool:=(bO ns t).isSome
def yI(sh:List UInt8)(ws:List Wd)(m:Nat)(b:List UInt8->Bool)(r:zV)(N:Hp):Prop:=
 (∃p,A9 m sh ws=some p/\r=.tuple #[.slice none 0 0,nY [] p 14])\/
 (A9 m sh ws=none/\∃p,A8 b sh ws=some p/\r=.tuple #[.slice none 0 0,nY [] p 15])\/
 (A9 m sh ws=none/\A8 b sh ws=none/\∃v,r=.tuple #[v,nY [] 0 0]/\aM 76 4 v ((rdv sh ws).map qQ) N)
theorem Iu:∀(sh:List UInt8) (ws:List Wd) (j:Nat) (c:UInt8) (w:Wd),sh[j]? =some c->ws[j]? =some w->(rdv sh ws)[j]? =some (w,(CX c w.t).getD 0)
 | [],ws,j,c,w,h,_=>by simp at h
 |_::_,[],j,c,w,_,h=>by simp at h
 |a::sh,x::ws,0,c,w,h1,h2=>by cases h1;cases h2;rfl
 |a::sh,x::ws,j+1,c,w,h1,h2=>Iu sh ws j c w (by simpa using h1) (by simpa using h2)
theorem Vt{c:UInt8}{t:List UInt8}:(CX c t)=if c.toNat=110 then VO t else if wR t then some 0 else none:=by
 unfold CX;have:=N6 c 110 zD;by_cases h:c=110
 ·rw[xae h,xae (this.2 h)]
 rw[xac h,xac λe=>h (this.1 e)]
set_option maxHeartbeats 4000000 in
theorem Tx{sp mb:Nat}{kv:zV}{T:TypeId}{fz:Nat×Nat}{es:Array MapEntry}{ck:Nat}{ns:List (List UInt8×Nat)}{B:Hp}(hE:NmE es ck ns)(hsp:(sp,Obj.cells #[kv,.map (some mb)] T fz)∈B)(hmb:(mb,Obj.map es ck)∈B)
 (shape:List UInt8)(IT:shape.length<=3)(ws:List Wd)(hws:ws.length<=400)(V4:∀w∈ws,w.t.length<=400){v:zV}(hv:Sl 3 B v (ws.map Wd.cells))(m:Nat)
 (XJ:shape=[43]->∀B:Hp,Fc zQ 27 #[aq [110],nI ws.length] B (λv H=>v=aq (List.replicate ws.length 110)/\H=B)):
  Fc zQ 15 #[ptr sp,aq shape,v,nI m] B (λr H=>∃N,H=N++B/\yI (JX shape ws) ws m (mc ns) r N):=by
 refine aK λg=>Nf λb1 _ J3 h3=>?_;have go:∀(sh:List UInt8),sh.length<=400->sh=JX shape ws->J3 [aq sh] ((b1,Obj.cells #[aq [],nI 0,nI 0] 26 zZ)::B):=λsh hsh aeo=>by
  refine h3 _ _ λ_=>?_;rw[<-aeo];refine hv.bE ?_;rw[xax];refine⟨λvs H=>∃(i:Nat) (acc:List (Wd×Nat)) (C:Hp) (v:zV),vs=[v,nI i]/\i<=ws.length/\acc.length=i/\i<=sh.length/\A9 m sh ws=A9 m (sh.drop i) (ws.drop i)/\rdv sh ws=acc++rdv (sh.drop i) (ws.drop i)/\aM 76 4 v (acc.map qQ) C/\H=C++((b1,Obj.cells #[aq [],nI 0,nI 0] 26 zZ)::B),λvs _=>ws.length-bA vs 1,
   JE.mk ⟨0,[],[],_,rfl,xaA _,rfl,xaA _,rfl,rfl,aM.nil _ _,rfl⟩,?_⟩
  rintro W3 ZR H ⟨i,acc,C,va,⟨⟩,hi,hal,his,hf,Dq,hs,rfl⟩ gs;have sub:∀y∈B,y∈C++((b1,Obj.cells #[aq [],nI 0,nI 0] 26 zZ)::B):=λy hy=>xaa _ (.tail _ hy)
  /- a fault told -/
  have bad:∀(p e:Nat) (X:Hp),yI sh ws m (mc ns) (.tuple #[.slice none 0 0,nY [] p e]) []->aF ((b1,Obj.cells (dZ [] p e).toArray 26 zZ)::X) B->
    ∀Y Y':Hp,cu b1 (.cells #[aq [],nI 0,nI 0] 26 zZ) (.cells (dZ [] p e).toArray 26 zZ) Y Y'->aF Y' ((b1,Obj.cells (dZ [] p e).toArray 26 zZ)::X)->(b1,Obj.cells (dZ [] p e).toArray 26 zZ)∈Y'->
    aa zQ g 12 #[nI p,nI e] Y (λv H=>St 3 H (.pointer (some ⟨b1,0,none⟩)) v λYN=>ax 3 YN (.pointer (some ⟨b1,0,none⟩)) λZS=>aQ (λr H=>∃N,H=N++B/\yI sh ws m (mc ns) r N) (.returned (.tuple #[(.slice none 0 0),ZS])) YN) (cv (aQ (λr H=>∃N,H=N++B/\yI sh ws m (mc ns) r N))):=λp e X hR hE Y Y' hU hY hm=>by
   refine aa.eq (mY p e _) (St.whole (r:=dZ [] p e) hU rfl rfl (bI _ _ _) (ax.whole (r:=dZ [] p e) hm rfl ?_));exact aQ.mk (hY.trans hE) ⟨[],rfl,hR⟩
  refine ae.cX (Br.dec (λhlt=>?_) (λhge=>?_))
  ·have hw:ws[i]? =some ws[i]:=xab hlt;have Uh:=xaV hlt;have Dp:=V4 _ (xaF hlt);generalize ws[i]=w at hw Uh Dp;rw[Uh]at hf Dq;refine ah.sl hv (r:=w.cells) (by rw[xar,hw];rfl) λp hp=>ax.at hp rfl zD sub λb17 _=>?_;refine St.whole (r:=w.cells) (.head _) rfl rfl w.one (aN.of (ae.kM (Br.dec (λhge=>?_) (λs7=>?_))))
   ·refine Ld.u (v:=nI w.a) (.head _) (bad w.a 14 B (.inl ⟨w.a,?_,rfl⟩) .tail _ _ (.tail ((cu.head _).aO C)) (.skip (.bN (.refl _))) (.tail _ (xaa _ (.head _))));rw[hf,xbc hge];rfl
   obtain⟨c,hc,hcd⟩:=m4 (l:=sh) (i:=i) zO;rw[hcd]at hf Dq;refine ax.whole (r:=w.cells) (.head _) rfl (Build.mk (cs:=qQ (w,0)) zK λb30 _=>St.whole (r:=qQ (w,0)) (.head _) rfl rfl (Ar _) λZJ h33=>?_);have kW:∀(o:Option Nat),CX c w.t=o->ZJ [.bool o.isSome] ((b30,.cells (qQ (w,o.getD 0)).toArray 76 zZ)::(b17,.cells w.cells.toArray 54 zZ)::(C++((b1,Obj.cells #[aq [],nI 0,nI 0] 26 zZ)::B))):=λo ho=>by
    refine h33 _ _ λ_=>Un.not ?_;cases o with
    |none=>
     refine Br.yes (Ld.u (v:=nI w.a) (.tail _ (.head _)) (bad w.a 14 B (.inl ⟨w.a,?_,rfl⟩) .tail _ _ (.tail (.tail ((cu.head _).aO C))) (.skip (.skip (.bN (.refl _)))) (.tail _ (.tail _ (xaa _ (.head _))))));rw[hf];show(if(CX c w.t).isNone then _ else _)=_;rw[ho];rfl
    |some n=>
     refine Br.no (ax.whole (r:=qQ (w,n)) (.head _) rfl (aj.one (e:=76) (z:=.agg #[aq [],nI 0,nI 0,nI 0]) (k:=4) zK zK zK zD rfl λbs=>?_));refine hs.mi (.cons (.cons (.cons .left))) (.head _) rfl (Ar _) ⟨[_,_,_,_],rfl,rfl⟩ (by rw[xax];omega) (by rw[xax];omega) λv' C' cq=>?_;refine ae.inc (az.of (.skip (.skip .tail)) ⟨i+1,acc++[(w,n)],C',v',rfl,hlt,by simp[hal],by omega,?_,?_,by rw[xaB];exact cq,rfl⟩ (by simp only[bA];omega))
     ·rw[hf];show(if(CX c w.t).isNone then _ else _)=_;rw[ho];rfl
     rw[Dq,xai];show acc++((w,(CX c w.t).getD 0)::_)=_;rw[ho];rfl
   have n8:=Vt (c:=c) (t:=w.t);refine bP.of hc (ae.bB (b:=110) (Br.dec (λYo=>?_) (λYo=>?_)))
   ·rw[xae Yo]at n8;refine Ld.u (v:=aq w.t) (.tail _ (.head _)) (aa.eq (DQ w.t Dp _) ?_);cases hn:VO w.t with
    |none=>exact Ext.mk rfl (Ext.mk rfl (.mk (St.one (c':=(qQ (w,0)).toArray) (.head _) rfl (show 3<4 by decide) rfl (JE.mk (kW none (by rw[n8,hn]))))))
    |some n=>exact Ext.mk rfl (Ext.mk rfl (.mk (St.one (c':=(qQ (w,n)).toArray) (.head _) rfl (show 3<4 by decide) rfl (JE.mk (kW (some n) (by rw[n8,hn]))))))
   ·rw[xac Yo]at n8;refine Ld.u (v:=aq w.t) (.tail _ (.head _)) (aa.eq (AW sp w.t Dp _) ?_);cases hn:wR w.t with
    |false=>exact JE.mk (kW none (by rw[n8,hn];rfl))
    |true=>exact JE.mk (kW (some 0) (by rw[n8,hn];rfl))
  ·have hiw:i=ws.length:=by omega
   subst hiw;refine hv.bE (aN.of ?_);rw[xax];refine ae.cX (Br.dec (λfR=>?_) (λhnl=>?_))
   ·refine bad m 14 B (.inl ⟨m,?_,rfl⟩) .tail _ _ ((cu.head _).aO C) (.bN (.refl _)) (xaa _ (.head _));obtain⟨c,_,hcd⟩:=m4 fR;rw[hf,xck,hcd];rfl
   have KW:sh.length=ws.length:=by omega
   have hf0:A9 m sh ws=none:=by rw[hf,xck,xbc zO];rfl
   have hv0:rdv sh ws=acc:=by
    rw[Dq,xck,xbc zO];show acc++[]=acc;exact xaH _
   refine hs.bE ?_;rw[xax,hal];refine⟨λvs H=>∃j:Nat,vs=[nI j]/\j<=ws.length/\A8 (mc ns) sh ws=A8 (mc ns) (sh.drop j) (ws.drop j)/\H=C++((b1,Obj.cells #[aq [],nI 0,nI 0] 26 zZ)::B),λvs _=>ws.length-bA vs 0,
    JE.mk ⟨0,rfl,xaA _,rfl,rfl⟩,?_⟩
   rintro w78 H ⟨j,⟨⟩,hj,hn,rfl⟩ gs2;refine ae.cX (Br.dec (λhlt=>?_) (λae0=>?_))
   ·obtain⟨c,hc,hcd⟩:=m4 (l:=sh) (i:=j) zO;have hw:ws[j]? =some ws[j]:=xab hlt;have Uh:=xaV hlt;generalize ws[j]=w at hw Uh;have fI:=Iu sh ws j c w hc hw;rw[hv0]at fI;generalize (CX c w.t).getD 0=n at fI;rw[hcd,Uh]at hn;refine hs.oh (r:=qQ (w,n)) (by rw[xar,fI];rfl) (λy hy=>xad _ hy) λZB _=>?_;refine St.whole (r:=qQ (w,n)) (.head _) rfl rfl (Ar _) (Ld.v (v:=.map (some mb)) (.tail _ (sub _ hsp)) (.mk (Ld.u (v:=aq w.t) (.head _) ?_)));have abX:=N6 c 115 zD;have step:∀t:Bool,mc ns w.t=t->∀x:zV,Ext 0 (.tuple #[x,.bool t]) λv92=>Ext 1 (.tuple #[x,.bool t]) λv93=>
      bP (aq sh) (nI j) λv94=>ae .num .eql v94 (.int .u8 115) λv95=>
      cz v95 true (λt96=>Un .not v93 λv97=>((ZB,Obj.cells (qQ (w,n)).toArray 76 zZ)::(C++((b1,Obj.cells #[aq [],nI 0,nI 0] 26 zZ)::B))=(ZB,Obj.cells (qQ (w,n)).toArray 76 zZ)::(C++((b1,Obj.cells #[aq [],nI 0,nI 0] 26 zZ)::B))/\v97=Value.bool t96)) (λt96=>(Value.bool false)=Value.bool t96) λt96=>∀akx:Fr,
      Br (Value.bool t96) (af 0 (.pointer (some ⟨ZB,0,none⟩)) λv99=>af 1 v99 λadI=>Ld ((ZB,Obj.cells (qQ (w,n)).toArray 76 zZ)::(C++((b1,Obj.cells #[aq [],nI 0,nI 0] 26 zZ)::B))) adI λadH=>
       aa zQ g 12 #[adH,nI 15] ((ZB,Obj.cells (qQ (w,n)).toArray 76 zZ)::(C++((b1,Obj.cells #[aq [],nI 0,nI 0] 26 zZ)::B))) (λv H=>St 3 H (.pointer (some ⟨b1,0,none⟩)) v λYN=>ax 3 YN (.pointer (some ⟨b1,0,none⟩)) λZS=>aQ (λr H=>∃N,H=N++B/\yI sh ws m (mc ns) r N) (.returned (.tuple #[(.slice none 0 0),ZS])) YN) (cv (aQ (λr H=>∃N,H=N++B/\yI sh ws m (mc ns) r N))))
      (ae .num .add (nI j) (nI 1) λadG=>az (λvs H=>∃j:Nat,vs=[nI j]/\j<=ws.length/\A8 (mc ns) sh ws=A8 (mc ns) (sh.drop j) (ws.drop j)/\H=C++((b1,Obj.cells #[aq [],nI 0,nI 0] 26 zZ)::B)) (λvs _=>ws.length-bA vs 0) [adG] ((ZB,Obj.cells (qQ (w,n)).toArray 76 zZ)::(C++((b1,Obj.cells #[aq [],nI 0,nI 0] 26 zZ)::B))) [nI j] (C++((b1,Obj.cells #[aq [],nI 0,nI 0] 26 zZ)::B))):=λt ht x=>by
     refine Ext.mk rfl (Ext.mk rfl (bP.of hc (ae.bB (b:=115) (cz.and (!t) (λ_=>Un.not ⟨rfl,rfl⟩) rfl λ_=>?_))));by_cases zW:c=115/\t=false
     ·obtain⟨rfl,rfl⟩:=zW;refine Br.WV (by rw[xau (abX.2 rfl)];rfl) (.mk (Ld.u (v:=nI w.a) (.head _) (bad w.a 15 B (.inr (.inl ⟨hf0,w.a,?_,rfl⟩)) .tail _ _ (.tail ((cu.head _).aO C)) (.skip (.bN (.refl _))) (.tail _ (xaa _ (.head _))))));rw[hn];show(if _ then _ else _)=_;rw[xae ⟨rfl,ht⟩]
     refine Br.no' ?_ (ae.inc (az.of .tail ⟨j+1,rfl,hlt,?_,rfl⟩ (by simp only[bA];omega)))
     ·rw[xdy,xbk];by_cases h:c=115
      ·right;cases t with
       |true=>rfl
       |false=>exact absurd ⟨h,rfl⟩ zW
      ·exact .inl λe=>h (abX.1 e)
     rw[hn];show(if c=115/\mc ns w.t=false then _ else _)=_;rw[ht,xac zW]
    refine hE.look (k:=w.t) iW (b:=mb) (.tail _ (sub _ hmb)) (λx vx hx hvx=>?_) (λhx=>?_)
    ·exact step true (by unfold mc;rw[hx];rfl) _
    exact step false (by unfold mc;rw[hx];rfl) _
   have hjw:j=ws.length:=by omega
   subst hjw;have Wh:A8 (mc ns) sh ws=none:=by rw[hn,xck,xbc zO];rfl
   refine Build.mk (cs:=dZ [] 0 0) zK (St.whole (r:=dZ [] 0 0) ((cu.head _).aO C) rfl rfl (bI _ _ _) (ax.whole (r:=dZ [] 0 0) (xaa _ (.head _)) rfl ?_));exact aQ.mk (.cL .tail _) ⟨C,rfl,.inr (.inr ⟨hf0,Wh,_,rfl,by rw[hv0];exact hs⟩)⟩
 refine ae.tT (b:=[43]) (Br.dec (λh=>?_) (λh=>?_))
 ·refine hv.bE ?_;rw[xax];refine aa.fq (XJ h _) ?_;rintro _ _ ⟨rfl,rfl⟩;exact JE.mk (go _ (by rw[xbD];omega) (by unfold JX;rw[xae h]))
 exact JE.mk (go shape zO (by unfold JX;rw[xac h]))
end
section
open Fm aC
section
variable {kp:Nat} {K K1 K2:Kd} {S S1 S2:Nat->aC.Fn} {ord ag tr:zL} {C:Hp}
theorem U2(hK:cT kp K S ord ag tr C){a b:Nat}(ha:aC.live K.N a)(hb:aC.live K.N b)(hB:∀s,K.hold s+2^K.n<=65535):Fc zQ 94 #[ptr kp,u32 a,u32 b] C (rS kp K S ord ag tr (λy=>Np 8 (S a y) (S b y))):=by
 refine aK λg=>Mb (aa.fq (jt hK (op:=8) zD ha hb hB) ?_);intro w H hD;obtain⟨x,e,rfl⟩:=hD.two;exact Ext.two (aQ.here hD)
theorem Yq(hK:cT kp K S ord ag tr C){a b:Nat}(ha:aC.live K.N a)(hb:aC.live K.N b)(hB:∀s,K.hold s+2^K.n<=65535):Fc zQ 95 #[ptr kp,u32 a,u32 b] C (rS kp K S ord ag tr (λy=>Np 14 (S a y) (S b y))):=by
 refine aK λg=>Ma (aa.fq (jt hK (op:=14) zD ha hb hB) ?_);intro w H hD;obtain⟨x,e,rfl⟩:=hD.two;exact Ext.two (aQ.here hD)
theorem UX(hK:cT kp K S ord ag tr C){a b:Nat}(ha:aC.live K.N a)(hb:aC.live K.N b)(hB:∀s,K.hold s+2^K.n<=65535):Fc zQ 96 #[ptr kp,u32 a,u32 b] C (rS kp K S ord ag tr (λy=>Np 6 (S a y) (S b y))):=by
 refine aK λg=>L1 (aa.fq (jt hK (op:=6) zD ha hb hB) ?_);intro w H hD;obtain⟨x,e,rfl⟩:=hD.two;exact Ext.two (aQ.here hD)
theorem Ls(hK:cT kp K S ord ag tr C)(b:Bool):Fc zQ 121 #[ptr kp,.bool b] C (rS kp K S ord ag tr (λ_=>b)):=by
 have hi:=hK.ok.mid.int;refine aK λg=>Hx (ae.aG (Br.no ?_));intro J2 h2;have go:∀r:Nat,r<2->(S r=λ_=>b)->J2 [u32 r] C:=λr hr hf=>by
  refine h2 _ _ λ_=>?_;refine aa.fq (zq hK (r:=r) (.inl hr) (λh=>by omega)) ?_;rintro v H ⟨rfl,K',jT,hm⟩;exact aQ.here (.inl ⟨r,K',S,rfl,jT,⟨hm.n,hm.cap,λs d h=>by rw[hm.N];exact h,λ_ _=>rfl,.inl hr,hf,λs=>by rw[hm.hold];split<;>rfl⟩⟩)
 cases b
 ·exact Br.no (JE.mk (go 0 zD (funext hi.zero)))
 exact Br.yes (JE.mk (go 1 zD (funext hi.one)))
theorem rj(kB:cT kp K1 S1 ord ag tr C){mm:zL}{C2:Hp}(gz:cT kp K2 S2 ord ag mm C2){ys:zL}(h:bL K1 S1 K2 S2 ys){x:Nat}(hx:2<=x->K1.hold x≠0):aC.live K2.N x/\S2 x=S1 x:=by
 by_cases h2:2<=x
 ·exact⟨.inr (gz.ok.mid.held x (by rw[h.hold];have:=hx h2;omega)),h.fn x (hx h2)⟩
 refine⟨.inl zO,?_⟩;have NJ:x=0\/x=1:=by omega
 rcases NJ with rfl|rfl
 ·rw[funext kB.ok.mid.int.zero,funext gz.ok.mid.int.zero]
 rw[funext kB.ok.mid.int.one,funext gz.ok.mid.int.one]
theorem cT.BR(hK:cT kp K S ord ag tr C):∀s,K.hold s≠0->aC.live K.N s:=λs hs=>.inr (hK.ok.mid.held s hs)
theorem rQ.node{M:Hp}{t:Tr}{p:zV}(h:rQ M t p):∃(b:Nat) (sl:zV) (ps:zL),p=bf b/\(b,.cells #[nI t.kd,nI t.vl,sl] 99 zZ)∈M/\Sl 1 M sl (ps.map λq=>[bf q])/\ps.length=t.kids.length/\∀(i:Nat) (k:Tr) (q:Nat),t.kids[i]? =some k->ps[i]? =some q->rQ M k (bf q):=by
 cases h with
 | @c k b h=>exact⟨b,_,[],rfl,h,Sl.nil _ _,rfl,λi k q h1=>by simp[Tr.kids]at h1⟩
 | @v n b h=>exact⟨b,_,[],rfl,h,Sl.nil _ _,rfl,λi k q h1=>by simp[Tr.kids]at h1⟩
 | @no a b d x h h2 h3=>exact⟨b,_,[x],rfl,h,(Sl.fZ (T:=61) (aM.made [[bf x]] (λr hr=>by simp only[xag,xaw,xaZ]at hr;first|(rcases hr with rfl|rfl|rfl<;>rfl)|(rcases hr with rfl|rfl<;>rfl)|(subst hr;rfl))) zD).mono (λy hy=>by cases hy with|head=>exact h2|tail _ h=>cases h),rfl,λi k q h1 h2=>by rcases i with _|_|_|i<;>simp[Tr.kids]at h1 h2<;>(obtain rfl:=h1;obtain rfl:=h2;assumption)⟩
 | @bin k a a' b d x y h h2 h3 h4=>exact⟨b,_,[x,y],rfl,h,(Sl.fZ (T:=61) (aM.made [[bf x],[bf y]] (λr hr=>by simp only[xag,xaw,xaZ]at hr;first|(rcases hr with rfl|rfl|rfl<;>rfl)|(rcases hr with rfl|rfl<;>rfl)|(subst hr;rfl))) zD).mono (λy hy=>by cases hy with|head=>exact h2|tail _ h=>cases h),rfl,λi k q h1 h2=>by rcases i with _|_|_|i<;>simp[Tr.kids]at h1 h2<;>(obtain rfl:=h1;obtain rfl:=h2;assumption)⟩
 | @ite a a' a2 b d x y z h h2 h3 h4 h5=>exact⟨b,_,[x,y,z],rfl,h,(Sl.fZ (T:=61) (aM.made [[bf x],[bf y],[bf z]] (λr hr=>by simp only[xag,xaw,xaZ]at hr;first|(rcases hr with rfl|rfl|rfl<;>rfl)|(rcases hr with rfl|rfl<;>rfl)|(subst hr;rfl))) zD).mono (λy hy=>by cases hy with|head=>exact h2|tail _ h=>cases h),rfl,λi k q h1 h2=>by rcases i with _|_|_|i<;>simp[Tr.kids]at h1 h2<;>(obtain rfl:=h1;obtain rfl:=h2;assumption)⟩
end
def Aw(t:Tr):Prop:=∀{kp:Nat} {K:Kd} {S:Nat->aC.Fn} {ord ag tr:zL} {C M:Hp} {p:zV},cT kp K S ord ag tr C->rQ M t p->t.Fit K.n->(∀s,K.hold s+t.gP+2^K.n<=65535)->
 Fc zQ 72 #[ptr kp,p] (M++C) (λw H=>∃C',H=M++C'/\So kp K S ord ag t.fn t.gR w C')
theorem Fm.Tr.BA(t:Tr):t.kids.length<=t.gP/\t.kids.length<=3/\∀i k,t.kids[i]? =some k->i+k.gP<=t.gP:=by
 cases t with
 |c k=>exact⟨xaA _,xaA _,λi k h=>by simp[Tr.kids]at h⟩
 |v k=>exact⟨xaA _,xaA _,λi k h=>by simp[Tr.kids]at h⟩
 |no a=>
  refine⟨a.iF,by show 1<=3;decide,λi k h=>?_⟩;rcases i with _|i<;>simp[Tr.kids]at h;subst h;show 0+a.gP<=a.gP;omega
 |bin k a b=>
  have h1:=a.iF;have h2:=b.iF;refine⟨by show 2<=a.gP+b.gP;omega,by show 2<=3;decide,λi k h=>?_⟩;rcases i with _|_|i<;>simp[Tr.kids]at h
  ·subst h;show 0+a.gP<=a.gP+b.gP;omega
  subst h;show 0+1+b.gP<=a.gP+b.gP;omega
 |ite a b d=>
  have h1:=a.iF;have h2:=b.iF;have h3:=d.iF;refine⟨by show 3<=a.gP+b.gP+d.gP;omega,by show 3<=3;decide,λi k h=>?_⟩;rcases i with _|_|_|i<;>simp[Tr.kids]at h
  ·subst h;show 0+a.gP<=a.gP+b.gP+d.gP;omega
  ·subst h;show 0+1+b.gP<=a.gP+b.gP+d.gP;omega
  subst h;show 0+1+1+d.gP<=a.gP+b.gP+d.gP;omega
theorem Fm.Tr.BB{t:Tr}{n:Nat}(h:t.Fit n):∀k∈t.kids,k.Fit n:=by
 intro k hk;cases t with
 |c=>cases hk
 |v=>cases hk
 |no a=>simp only[Tr.kids,xag,xaw,xaZ]at hk;subst hk;exact h
 |bin k a b=>simp only[Tr.kids,xag,xaw,xaZ]at hk;rcases hk with rfl|rfl;exact h.2.1;exact h.2.2
 |ite a b d=>simp only[Tr.kids,xag,xaw,xaZ]at hk;rcases hk with rfl|rfl|rfl;exact h.1;exact h.2.1;exact h.2.2
set_option maxHeartbeats 2000000 in
theorem jm(t:Tr)(ih:∀k∈t.kids,Aw k):Aw t:=by
 intro kp K S ord ag tr C M p hK ht hf hB;obtain⟨b,sl,ps,rfl,hn,IT,mq,hps⟩:=ht.node;obtain⟨hkl,pC,hkv⟩:=t.BA;refine aK λg=>My λb1 _ b3 _=>Nil.ptr (Ld.u (.tail _ (.tail _ (xad _ hn))) (IT.bE ?_));rw[xax];refine⟨λvs H=>∃(i:Nat) (K1:Kd) (S1:Nat->aC.Fn) (YV:zL) (C1:Hp) (xs:zL) (v:zV) (L:Hp),vs=[nI i]/\i<=ps.length/\xs.length=i/\H=(b3,.cells #[v] 189 zZ)::(b1,.cells #[ptr kp] 41 zZ)::(L++(M++C1))/\aR 80 .u32 v (iw xs) L/\cT kp K1 S1 ord ag YV C1/\bL K S K1 S1 xs/\(∀(j x:Nat) (k:Tr),xs[j]? =some x->t.kids[j]? =some k->aC.live K1.N x/\S1 x=k.fn),λvs _=>ps.length-bA vs 0,
  JE.mk ⟨0,K,S,tr,C,[],_,[],rfl,xaA _,rfl,rfl,aR.nil,hK,.refl,λj x k h=>by simp at h⟩,?_⟩
 rintro ZR H ⟨i,K1,S1,YV,C1,xs,v,L,⟨⟩,hi,hxs,rfl,hv,kB,BQ,zx⟩ gs;have SD:∀s,K1.hold s<=K.hold s+i:=λs=>by have:=BQ.le s;omega
 have hxl:∀x∈xs,x<4294967296:=λx hx=>by
  obtain⟨j,hj,rfl⟩:=List.getElem_of_mem hx;have:=kB.dz (zx j xs[j] (t.kids[j]' zO) (xab hj) (xab _)).1;omega
 have hsub:∀x∈xs,t.gR (S1 x):=λx hx=>by
  obtain⟨j,hj,rfl⟩:=List.getElem_of_mem hx;rw[(zx j xs[j] (t.kids[j]' zO) (xab hj) (xab _)).2];exact Tr.AS (xaF _) (Tr.xj _)
 /- the parts let go, and out -/
 have leave:∀(K2:Kd) (S2:Nat->aC.Fn) (mm:zL) (C2:Hp) (ys:zL) (Kc:Hp->Prop),cT kp K2 S2 ord ag mm C2->bL K S K2 S2 (xs++ys)->(∀K3 C3 Oa,cT kp K3 S2 ord ag Oa C3->bL K S K3 S2 ys->(Oa=mm\/Oa=[])->Kc ((b3,.cells #[v] 189 zZ)::(b1,.cells #[ptr kp] 41 zZ)::(L++(M++C3))))->
   kJ zQ g 120 #[ptr b3,ptr b1] ((b3,.cells #[v] 189 zZ)::(b1,.cells #[ptr kp] 41 zZ)::(L++(M++C2))) Kc:=λK2 S2 mm C2 ys Kc gz Dt hk=>by
  refine kJ.fn .here (Q4 hv Dt gz hxl zO) ?_;rintro _ _ ⟨K3,C3,Oa,rfl,wB,Wm,IS⟩;exact hk K3 C3 Oa wB Wm IS
 have bad:∀(C3:Hp) (w:zV),So kp K S ord ag t.fn t.gR w C3->aQ (λw H=>∃C',H=M++C'/\So kp K S ord ag t.fn t.gR w C') (.returned w) ((b3,.cells #[v] 189 zZ)::(b1,.cells #[ptr kp] 41 zZ)::(L++(M++C3))):=λC3 w h=>aQ.mk (.skip (.skip .right)) ⟨C3,rfl,h⟩;refine ae.cX (Br.dec (λhlt=>?_) (λhge=>?_))
 ·have hq:ps[i]? =some ps[i]:=xab hlt;have Nx:t.kids[i]? =some (t.kids[i]' zO):=xab _;generalize (t.kids[i]' zO)=k at Nx;have hkm:k∈t.kids:=xay Nx;refine ah.sl IT (r:=[bf ps[i]]) (by rw[xar,hq];rfl) λa ha=>Ld.at ha (λy hy=>.tail _ (.tail _ (xaa _ (xad _ hy)))) (Ld.mk (.tail _ (.head _)) rfl ?_);have ajq:=hkv i k Nx;refine aa.fn (.cons (.cons (.app .here))) (ih k hkm kB (hps i k _ Nx hq) (by rw[BQ.n];exact Tr.BB hf k hkm) (λs=>by rw[BQ.n];have:=hB s;have:=SD s;omega)) ?_;rintro w _ ⟨C2,rfl,hb⟩;rcases hb with⟨x,K2,S2,mm,rfl,gz,Dt,mT,l8,_⟩|⟨rfl,⟨K2,S2,mm,gz,Dt⟩,hfit⟩
  ·refine Ext.mk rfl (Ext.mk rfl (ae.jD (b:=0) (Br.F (Ld.mk (.head _) rfl ?_))));refine aj.int (e:=80) zK zK zK λbx=>?_;refine hv.mi (x:=(x:Int)) (.cons (.cons (.cons .left))) (by exact .head _) (by rw[an];omega) (by rw[an];omega) λv' L' n4=>?_;refine St.one (c':=#[v']) (.tail (.head _)) n4.one (show(0:Nat)<1 by decide) rfl (ae.inc (az.of .tail ⟨i+1,K2,S2,mm,C2,xs++[x],v',L',rfl,hlt,by simp[hxs],rfl,by rw[cj];exact n4,gz,BQ.more Dt,?_⟩ (by simp only[bA];omega)));intro j y k' hy hk';by_cases hj:j<xs.length
   ·rw[xaQ hj]at hy;obtain⟨h1,h2⟩:=zx j y k' hy hk';have:=rj kB gz Dt (x:=y) (λhy2=>by
     rw[BQ.hold,xae hy2];have:=xcH.2 (xay hy);omega)
    exact⟨this.1,this.2.trans h2⟩
   have P8:j=i:=by
    have:=(xah.1 hy).1;simp only[xaf,xbg]at this;omega
   subst P8;rw[xbL zO,hxs,xcC]at hy;rw[Nx]at hk';cases hy;cases hk';exact⟨mT,l8⟩
  refine Ext.mk rfl (Ext.mk rfl (ae.jD (b:=0) (Br.T ?_)));refine leave K2 S2 mm C2 [] _ gz (BQ.more Dt) λK3 C3 Oa wB Wm _=>?_;refine bad C3 _ (.inr ⟨rfl,⟨K3,S2,Oa,wB,Wm⟩,λhF=>hfit ?_⟩);rw[BQ.n,BQ.cap];exact Fits.mono (λg hg=>ef (λg h=>by
   rcases h with h|h
   ·exact BQ.held hsub g h
   exact .inr (Tr.AS hkm h)) hg) hF
 have XZ:i=ps.length:=by omega
 subst XZ;have WG:∀s,K1.hold s+2^K1.n<=65535:=λs=>by rw[BQ.n];have:=hB s;have:=SD s;omega
 /- the operation done -/
 have fin:∀(w:zV) (C2:Hp) (R:Hp),aF ((b3,.cells #[v] 189 zZ)::(b1,.cells #[ptr kp] 41 zZ)::(L++(M++C2))) R->rS kp K1 S1 ord ag YV t.fn w C2->
   aF ((b3,.cells #[v] 189 zZ)::(b1,.cells #[ptr kp] 41 zZ)::(L++(M++C2))) R/\Ext 0 w λx=>Ext 1 w λe=>kJ zQ g 120 #[ptr b3,ptr b1] ((b3,.cells #[v] 189 zZ)::(b1,.cells #[ptr kp] 41 zZ)::(L++(M++C2))) λH=>aQ (λw H=>∃C',H=M++C'/\So kp K S ord ag t.fn t.gR w C') (.returned (.tuple #[x,e])) H:=by
  intro w C2 R he hD;refine⟨he,?_⟩;rcases hD with⟨x,K2,S2,rfl,gz,hg⟩|⟨rfl,⟨K2,S2,mm,gz,_,hk⟩,hfit⟩
  ·refine Ext.mk rfl (Ext.mk rfl (leave K2 S2 [] C2 [x] _ gz (BQ.grow kB.BR hg) λK3 C3 Oa wB Wm IS=>bad C3 _ (.inl ⟨x,K3,S2,Oa,rfl,wB,Wm,?_,hg.is,IS.elim id id⟩)));by_cases h2:2<=x
   ·exact .inr (wB.ok.mid.held x (by rw[Wm.hold,xae h2];simp))
   exact .inl zO
  refine Ext.mk rfl (Ext.mk rfl (leave K2 S2 mm C2 [] _ gz (by rw[xaH];exact BQ.kept hk) λK3 C3 Oa wB Wm _=>bad C3 _ (.inr ⟨rfl,⟨K3,S2,Oa,wB,Wm⟩,λhF=>hfit ?_⟩)));rw[BQ.n,BQ.cap];exact Fits.mono (λg hg=>ef (λg h=>by
   rcases h with h|h
   ·exact BQ.held hsub g h
   subst h;exact .inr (Tr.xj t)) hg) hF
 have dL:∀C2:Hp,aF ((b3,.cells #[v] 189 zZ)::(b1,.cells #[ptr kp] 41 zZ)::(L++(M++C2))) ((b3,.cells #[v] 189 zZ)::(b1,.cells #[ptr kp] 41 zZ)::(L++M)):=λC2=>.cons (.cons (.cL .left L));have KV:(b,Obj.cells #[nI t.kd,nI t.vl,sl] 99 zZ)∈(b3,Obj.cells #[v] 189 zZ)::(b1,Obj.cells #[ptr kp] 41 zZ)::(L++M):=.tail _ (.tail _ (xaa _ hn));refine Nil.ptr (Ld.u (.tail _ (.tail _ (xaa _ (xad _ hn)))) λYL h36=>?_);have get:∀{j x:Nat} {Kc:zV->Prop},xs[j]? =some x->Kc (u32 x)->ah 1 v (iv ((j:Nat):Int)) λp=>Ld ((b3,.cells #[v] 189 zZ)::(b1,.cells #[ptr kp] 41 zZ)::(L++M)) p Kc:=λhx hk=>hv.ld (cr hx) (λy hy=>.tail _ (.tail _ (xad _ hy))) hk;have j36:YL [.bool (decide (t.kd=1\/t.kd=2))] ((b3,.cells #[v] 189 zZ)::(b1,.cells #[ptr kp] 41 zZ)::(L++(M++C1))):=by
  refine h36 _ _ λ_=>?_;have hole:∀Z:Hp,br Z ((b3,Obj.cells #[v] 189 zZ)::(b1,Obj.cells #[ptr kp] 41 zZ)::(L++(M++Z))) (λX=>(b3,Obj.cells #[v] 189 zZ)::(b1,Obj.cells #[ptr kp] 41 zZ)::(L++(M++X))):=λZ=>.cons (.cons (.app (.app .here)));have qN:(b1,Obj.cells #[ptr kp] 41 zZ)∈(b3,Obj.cells #[v] 189 zZ)::(b1,Obj.cells #[ptr kp] 41 zZ)::(L++M):=.tail _ (.head _);have qc:(b3,Obj.cells #[v] 189 zZ)∈(b3,Obj.cells #[v] 189 zZ)::(b1,Obj.cells #[ptr kp] 41 zZ)::(L++M):=.head _;cases t with
  |c k=>
   refine Br.U9 hf (DR.of (dL C1) (Ld.mk qN rfl (Nil.ptr (Ld.u KV (ae.bB (b:=2) (aa.fn (hole C1) (Ls kB _) λw C2 hD=>fin w C2 _ (dL C2) hD))))))
  |v m=>
   dsimp only[Tr.kd,Tr.vl]at KV⊢;refine Br.F (ae.bB (b:=3) (Br.T (DR.of (dL C1) (Ld.mk qN rfl (Nil.ptr (Ld.u KV (aa.fn (hole C1) (Vl kB (v:=m) (by rw[BQ.n];exact hf) (λs=>by have:=WG s;have:1<=2^K1.n:=xb2;omega)) λw C2 hD=>fin w C2 _ (dL C2) hD)))))))
  |no a=>
   obtain⟨x,hx⟩:∃x,xs[0]? =some x:=⟨_,xab (by rw[hxs,mq];show 0<1;decide)⟩;obtain⟨l1,s1⟩:=zx 0 x a hx rfl;dsimp only[Tr.kd,Tr.vl]at KV⊢;refine Br.F (ae.bB (b:=3) (Br.F (ae.bB (b:=4) (Br.T (DR.of (dL C1) (Ld.mk qN rfl (Ld.mk qc rfl (get (j:=0) hx (aa.fn (hole C1) (Vq kB l1 WG) λw C2 hD=>fin w C2 _ (dL C2) (by rw[s1]at hD;exact hD))))))))))
  |bin k a b'=>
   obtain⟨x,hx⟩:∃x,xs[0]? =some x:=⟨_,xab (by rw[hxs,mq];show 0<2;decide)⟩;obtain⟨y,hy⟩:∃y,xs[1]? =some y:=⟨_,xab (by rw[hxs,mq];show 1<2;decide)⟩;obtain⟨l1,s1⟩:=zx 0 x a hx rfl;obtain⟨l2,s2⟩:=zx 1 y b' hy rfl;have aeO:=hf.1;have ES:k=5\/k=6\/k=7\/k=8\/k=9:=by omega
   dsimp only[Tr.kd,Tr.vl]at KV⊢;rcases ES with rfl|rfl|rfl|rfl|rfl
   ·refine Br.F (ae.bB (b:=3) (Br.F (ae.bB (b:=4) (Br.F (ae.bB (b:=5) (Br.T (DR.of (dL C1) (Ld.mk qN rfl (Ld.mk qc rfl (get (j:=0) hx (Ld.mk qc rfl (get (j:=1) hy (aa.fn (hole C1) (U2 kB l1 l2 WG) λw C2 hD=>fin w C2 _ (dL C2) (by rw[s1,s2]at hD;exact hD))))))))))))))
   ·refine Br.F (ae.bB (b:=3) (Br.F (ae.bB (b:=4) (Br.F (ae.bB (b:=5) (Br.F (ae.bB (b:=6) (Br.T (DR.of (dL C1) (Ld.mk qN rfl (Ld.mk qc rfl (get (j:=0) hx (Ld.mk qc rfl (get (j:=1) hy (aa.fn (hole C1) (UX kB l1 l2 WG) λw C2 hD=>fin w C2 _ (dL C2) (by rw[s1,s2]at hD;exact hD))))))))))))))))
   ·refine Br.F (ae.bB (b:=3) (Br.F (ae.bB (b:=4) (Br.F (ae.bB (b:=5) (Br.F (ae.bB (b:=6) (Br.F (ae.bB (b:=7) (Br.T (DR.of (dL C1) (Ld.mk qN rfl (Ld.mk qc rfl (get (j:=0) hx (Ld.mk qc rfl (get (j:=1) hy (aa.fn (hole C1) (Yq kB l1 l2 WG) λw C2 hD=>fin w C2 _ (dL C2) (by rw[s1,s2]at hD;exact hD))))))))))))))))))
   ·refine Br.F (ae.bB (b:=3) (Br.F (ae.bB (b:=4) (Br.F (ae.bB (b:=5) (Br.F (ae.bB (b:=6) (Br.F (ae.bB (b:=7) (Br.F (ae.bB (b:=8) (Br.T (DR.of (dL C1) (Ld.mk qN rfl (Ld.mk qc rfl (get (j:=0) hx (Ld.mk qc rfl (get (j:=1) hy (aa.fn (hole C1) (jt kB (op:=11) zD l1 l2 WG) λw C2 hD=>fin w C2 _ (dL C2) (by rw[s1,s2]at hD;exact hD))))))))))))))))))))
   refine Br.F (ae.bB (b:=3) (Br.F (ae.bB (b:=4) (Br.F (ae.bB (b:=5) (Br.F (ae.bB (b:=6) (Br.F (ae.bB (b:=7) (Br.F (ae.bB (b:=8) (Br.F (ae.bB (b:=9) (Br.T (DR.of (dL C1) (Ld.mk qN rfl (Ld.mk qc rfl (get (j:=0) hx (Ld.mk qc rfl (get (j:=1) hy (aa.fn (hole C1) (jt kB (op:=9) zD l1 l2 WG) λw C2 hD=>fin w C2 _ (dL C2) (by rw[s1,s2]at hD;exact hD))))))))))))))))))))))
  |ite a b' d=>
   obtain⟨x,hx⟩:∃x,xs[0]? =some x:=⟨_,xab (by rw[hxs,mq];show 0<3;decide)⟩;obtain⟨y,hy⟩:∃y,xs[1]? =some y:=⟨_,xab (by rw[hxs,mq];show 1<3;decide)⟩;obtain⟨z,hz⟩:∃z,xs[2]? =some z:=⟨_,xab (by rw[hxs,mq];show 2<3;decide)⟩;obtain⟨l1,s1⟩:=zx 0 x a hx rfl;obtain⟨l2,s2⟩:=zx 1 y b' hy rfl;obtain⟨l3,s3⟩:=zx 2 z d hz rfl;dsimp only[Tr.kd,Tr.vl]at KV⊢;refine Br.F (ae.bB (b:=3) (Br.F (ae.bB (b:=4) (Br.F (ae.bB (b:=5) (Br.F (ae.bB (b:=6) (Br.F (ae.bB (b:=7) (Br.F (ae.bB (b:=8) (Br.F (ae.bB (b:=9) (Br.F (DR.of (dL C1) (Ld.mk qN rfl (Ld.mk qc rfl (get (j:=0) hx (Ld.mk qc rfl (get (j:=1) hy (Ld.mk qc rfl (get (j:=2) hz (aa.fn (hole C1) (Vs kB l1 l2 l3 WG) λw C2 hD=>fin w C2 _ (dL C2) (by rw[s1,s2,s3]at hD;exact hD))))))))))))))))))))))))
 refine ae.bB (b:=1) (Br.dec (λh1=>?_) (λh1=>?_))
 ·rw[show(decide (t.kd=1))=decide (t.kd=1\/t.kd=2)by simp[h1]];exact JE.mk j36
 refine ae.bB (b:=2) ?_;rw[show(decide (t.kd=2))=decide (t.kd=1\/t.kd=2)by simp[h1]];exact JE.mk j36
theorem RE(t:Tr):Aw t:=by
 induction t with
 |c k=>exact jm _ λa ha=>by cases ha
 |v k=>exact jm _ λa ha=>by cases ha
 |no a i1=>
  exact jm _ λk hk=>by
   simp only[Tr.kids,xag,xaw,xaZ]at hk;subst hk;exact i1
 |bin n a b i1 i2=>
  exact jm _ λk hk=>by
   simp only[Tr.kids,xag,xaw,xaZ]at hk;rcases hk with rfl|rfl
   ·exact i1
   exact i2
 |ite a b d i1 i2 i3=>
  exact jm _ λk hk=>by
   simp only[Tr.kids,xag,xaw,xaZ]at hk;rcases hk with rfl|rfl|rfl
   ·exact i1
   ·exact i2
   exact i3
def R7(t:Tr):Prop:=∀{n:Nat} {B:Hp} {p:zV},rQ B t p->t.Fit n->n<=16->Px zQ 20 #[nI n,p] B (λv H=>dM H v n t.fn)
theorem dM.cell{B:Hp}{v:zV}{n:Nat}{f:aC.Fn}(h:dM B v n f):∃s,v=.agg #[nI n,s]/\s.oneCell'=true:=by
 obtain⟨ws,⟨s,rfl,hw⟩,_⟩:=h;refine⟨s,rfl,?_⟩;obtain⟨a,c,rfl,_⟩:=hw.1.shape;rfl
set_option maxHeartbeats 2000000 in
theorem iU(t:Tr)(ih:∀k∈t.kids,R7 k):R7 t:=by
 intro n B p ht hf o8;obtain⟨b,sl,ps,rfl,hn,IT,mq,hps⟩:=ht.node;obtain⟨hkl,pC,hkv⟩:=t.BA;refine aK λg=>M6 λb1 _=>Nil.ptr (Ld.u (.tail _ hn) (IT.bE ?_));rw[xax];refine⟨λvs H=>∃(i:Nat) (rs:List (List zV)) (v:zV) (C N:Hp),vs=[v,nI i]/\i<=ps.length/\rs.length=i/\H=(b1,.cells #[iv 0,.slice none 0 0] 30 zZ)::(C++(N++B))/\aM 30 2 v rs C/\(∀(j:Nat) (r:List zV) (k:Tr),rs[j]? =some r->t.kids[j]? =some k->dM (N++B) (.agg r.toArray) n k.fn),λvs _=>ps.length-bA vs 1,
  JE.mk ⟨0,[],_,[],[],rfl,xaA _,rfl,rfl,aM.nil _ _,λj x k h=>by simp at h⟩,?_⟩
 rintro w11 W3 H ⟨i,rs,v,C,N,⟨⟩,hi,BL,rfl,hv,zx⟩ gs;refine ae.cX (Br.dec (λhlt=>?_) (λhge=>?_))
 ·have hq:ps[i]? =some ps[i]:=xab hlt;have Nx:t.kids[i]? =some (t.kids[i]' zO):=xab _;generalize (t.kids[i]' zO)=k at Nx;have hkm:k∈t.kids:=xay Nx;refine ah.sl IT (r:=[bf ps[i]]) (by rw[xar,hq];rfl) λa ha=>Ld.at ha (λy hy=>.tail _ (xaa _ (xaa _ hy))) ?_;refine aa.px (.cons (.app .here)) (ih k hkm (n:=n) ((hps i k _ Nx hq).mono (λy hy=>xaa N hy)) (Tr.BB hf k hkm) o8) ?_;intro tv N' hT;obtain⟨s,rfl,hs1⟩:=hT.cell;have h1:∀u∈[nI n,s],u.oneCell'=true:=λu hu=>by
   simp only[xag,xaw,xaZ]at hu;rcases hu with rfl|rfl
   ·rfl
   exact hs1
  refine aj.one (e:=30) (z:=.agg #[iv 0,.slice none 0 0]) (k:=2) (r:=[nI n,s]) zK zK zK zD rfl λbx=>?_;refine hv.mi (r:=[nI n,s]) (.cons (.cons .left)) (.head _) rfl h1 ⟨[iv 0,.slice none 0 0],rfl,rfl⟩ zO zO λv' C' n4=>?_;refine ae.inc (az.of .tail ⟨i+1,rs++[[nI n,s]],v',C',N'++N,rfl,hlt,by simp[BL],by simp[xai],n4,?_⟩ (by simp only[bA];omega));intro j r k' hr hk';rw[xai];by_cases hj:j<rs.length
  ·rw[xaQ hj]at hr;exact(zx j r k' hr hk').mono λy hy=>xaa _ hy
  have P8:j=i:=by
   have:=(xah.1 hr).1;simp only[xaf,xbg]at this;omega
  subst P8;rw[xbL zO,BL,xcC]at hr;rw[Nx]at hk';cases hr;cases hk';exact hT
 have XZ:i=ps.length:=by omega
 subst XZ;refine λRR _ ZK h27=>?_;have hole:∀Z:Hp,br Z ((RR,Obj.cells #[iv 0,.slice none 0 0] 30 zZ)::(b1,Obj.cells #[iv 0,.slice none 0 0] 30 zZ)::(C++Z)) (λX=>(RR,Obj.cells #[iv 0,.slice none 0 0] 30 zZ)::(b1,Obj.cells #[iv 0,.slice none 0 0] 30 zZ)::(C++X)):=λZ=>.cons (.cons (.app .here));have KV:(b,Obj.cells #[nI t.kd,nI t.vl,sl] 99 zZ)∈(RR,Obj.cells #[iv 0,.slice none 0 0] 30 zZ)::(b1,Obj.cells #[iv 0,.slice none 0 0] 30 zZ)::(C++(N++B)):=.tail _ (.tail _ (xaa _ (xaa _ hn)));have Lq:∀(w:zV) (N2 R:Hp),(∃tv,w=.tuple #[tv,iv 0]/\dM (N2++(N++B)) tv n t.fn)->(∀x5:zV,aF ((RR,Obj.cells #[nI n,x5] 30 zZ)::(b1,Obj.cells #[iv 0,.slice none 0 0] 30 zZ)::(C++(N2++(N++B)))) R)->
   Ext 0 w λx=>Ext 1 w λe=>St 2 ((RR,Obj.cells #[iv 0,.slice none 0 0] 30 zZ)::(b1,Obj.cells #[iv 0,.slice none 0 0] 30 zZ)::(C++(N2++(N++B)))) (.pointer (some ⟨RR,0,none⟩)) x λH=>aF H R/\JE ZK [] H:=by
  rintro w N2 R ⟨tv,rfl,hT⟩ hR;obtain⟨s,rfl,hs1⟩:=hT.cell;have h1:∀u∈[nI n,s],u.oneCell'=true:=λu hu=>by
   simp only[xag,xaw,xaZ]at hu;rcases hu with rfl|rfl
   ·rfl
   exact hs1
  refine Ext.mk rfl (Ext.mk rfl (St.whole (r:=[nI n,s]) (.head _) rfl rfl h1 ⟨hR s,JE.mk (h27 _ λ_=>?_)⟩));refine ax.whole (r:=[nI n,s]) (.head _) rfl (St.whole (r:=[nI n,s]) (.tail (.head _)) rfl rfl h1 (ax.whole (r:=[nI n,s]) (.tail _ (.head _)) rfl ?_));exact As.mk (by repeat (first|exact bG.refl _|apply bG.cons|apply bG.app)) (hT.mono λy hy=>.tail _ (.tail _ (xaa _ hy)))
 have fin:∀(w:zV) (N2:Hp),(∃tv,w=.tuple #[tv,iv 0]/\dM (N2++(N++B)) tv n t.fn)->
   Ext 0 w λx=>Ext 1 w λe=>St 2 ((RR,Obj.cells #[iv 0,.slice none 0 0] 30 zZ)::(b1,Obj.cells #[iv 0,.slice none 0 0] 30 zZ)::(C++(N2++(N++B)))) (.pointer (some ⟨RR,0,none⟩)) x λH=>JE ZK [] H:=by
  rintro w N2 ⟨tv,rfl,hT⟩;obtain⟨s,rfl,hs1⟩:=hT.cell;have h1:∀u∈[nI n,s],u.oneCell'=true:=λu hu=>by
   simp only[xag,xaw,xaZ]at hu;rcases hu with rfl|rfl
   ·rfl
   exact hs1
  refine Ext.mk rfl (Ext.mk rfl (St.whole (r:=[nI n,s]) (.head _) rfl rfl h1 (JE.mk (h27 _ λ_=>?_))));refine ax.whole (r:=[nI n,s]) (.head _) rfl (St.whole (r:=[nI n,s]) (.tail (.head _)) rfl rfl h1 (ax.whole (r:=[nI n,s]) (.tail _ (.head _)) rfl ?_));exact As.mk (by repeat (first|exact bG.refl _|apply bG.cons|apply bG.app)) (hT.mono λy hy=>.tail _ (.tail _ (xaa _ hy)))
 refine Nil.ptr (Ld.u (.tail _ (.tail _ (xaa _ (xaa _ hn)))) λYL h36=>?_);have afS:∀{j:Nat} {r:List zV} {Kc:zV->Prop},rs[j]? =some r->Kc (.agg r.toArray)->ah 2 w11 (iv ((j:Nat):Int)) λp=>ax 2 ((RR,Obj.cells #[iv 0,.slice none 0 0] 30 zZ)::(b1,Obj.cells #[iv 0,.slice none 0 0] 30 zZ)::(C++(N++B))) p Kc:=λhx hk=>hv.oh hx (λy hy=>.tail _ (.tail _ (xad _ hy))) hk;have get:∀{j:Nat} {r:List zV} {Kc:zV->Prop},rs[j]? =some r->Kc (.agg r.toArray)->ah 2 w11 (iv ((j:Nat):Int)) λp=>ax 2 C p Kc:=λhx hk=>hv.oh hx (λy hy=>hy) hk;have dL:∀(z:Array zV) (Z:Hp),aF ((RR,Obj.cells z 30 zZ)::(b1,Obj.cells #[iv 0,.slice none 0 0] 30 zZ)::(C++Z)) C:=λz Z=>.skip (.skip .left);have j36:YL [.bool (decide (t.kd=1\/t.kd=2))] ((RR,Obj.cells #[iv 0,.slice none 0 0] 30 zZ)::(b1,Obj.cells #[iv 0,.slice none 0 0] 30 zZ)::(C++(N++B))):=by
  refine h36 _ _ λ_=>?_;cases t with
  |c k=>
   exact Br.U9 hf (Nil.ptr (Ld.u KV (ae.bB (b:=2) (aa.px (hole _) (qU o8 _ _) λw N2 hD=>fin w N2 hD))))
  |v m=>
   dsimp only[Tr.kd,Tr.vl]at KV⊢;exact Br.F (ae.bB (b:=3) (Br.T (Nil.ptr (Ld.u KV (aa.px (hole _) (H7 o8 hf _) λw N2 hD=>fin w N2 hD)))))
  |no a=>
   obtain⟨x,hx⟩:∃x,rs[0]? =some x:=⟨_,xab (by rw[BL,mq];show 0<1;decide)⟩;have s1:=zx 0 x a hx rfl;dsimp only[Tr.kd,Tr.vl]at KV⊢;exact Br.F (ae.bB (b:=3) (Br.F (ae.bB (b:=4) (Br.T (afS (j:=0) hx (aa.px (hole _) (Te s1) λw N2 hD=>fin w N2 hD))))))
  |bin k a b'=>
   obtain⟨x,hx⟩:∃x,rs[0]? =some x:=⟨_,xab (by rw[BL,mq];show 0<2;decide)⟩;obtain⟨y,hy⟩:∃y,rs[1]? =some y:=⟨_,xab (by rw[BL,mq];show 1<2;decide)⟩;have s1:=zx 0 x a hx rfl;have s2:=zx 1 y b' hy rfl;have aeO:=hf.1;have ES:k=5\/k=6\/k=7\/k=8\/k=9:=by omega
   dsimp only[Tr.kd,Tr.vl]at KV⊢;rcases ES with rfl|rfl|rfl|rfl|rfl
   ·exact Br.F (ae.bB (b:=3) (Br.F (ae.bB (b:=4) (Br.F (ae.bB (b:=5) (Br.T (DR.of (dL _ _) (get (j:=0) hx (get (j:=1) hy (aa.px (hole _) (pI (op:=8) zD s1 s2) λw N2 hD=>⟨dL _ _,Lq w N2 _ hD λ_=>dL _ _⟩))))))))))
   ·exact Br.F (ae.bB (b:=3) (Br.F (ae.bB (b:=4) (Br.F (ae.bB (b:=5) (Br.F (ae.bB (b:=6) (Br.T (DR.of (dL _ _) (get (j:=0) hx (get (j:=1) hy (aa.px (hole _) (pI (op:=6) zD s1 s2) λw N2 hD=>⟨dL _ _,Lq w N2 _ hD λ_=>dL _ _⟩))))))))))))
   ·exact Br.F (ae.bB (b:=3) (Br.F (ae.bB (b:=4) (Br.F (ae.bB (b:=5) (Br.F (ae.bB (b:=6) (Br.F (ae.bB (b:=7) (Br.T (DR.of (dL _ _) (get (j:=0) hx (get (j:=1) hy (aa.px (hole _) (pI (op:=14) zD s1 s2) λw N2 hD=>⟨dL _ _,Lq w N2 _ hD λ_=>dL _ _⟩))))))))))))))
   ·exact Br.F (ae.bB (b:=3) (Br.F (ae.bB (b:=4) (Br.F (ae.bB (b:=5) (Br.F (ae.bB (b:=6) (Br.F (ae.bB (b:=7) (Br.F (ae.bB (b:=8) (Br.T (DR.of (dL _ _) (get (j:=0) hx (get (j:=1) hy (aa.px (hole _) (pI (op:=11) zD s1 s2) λw N2 hD=>⟨dL _ _,Lq w N2 _ hD λ_=>dL _ _⟩))))))))))))))))
   exact Br.F (ae.bB (b:=3) (Br.F (ae.bB (b:=4) (Br.F (ae.bB (b:=5) (Br.F (ae.bB (b:=6) (Br.F (ae.bB (b:=7) (Br.F (ae.bB (b:=8) (Br.F (ae.bB (b:=9) (Br.T (DR.of (dL _ _) (get (j:=0) hx (get (j:=1) hy (aa.px (hole _) (pI (op:=9) zD s1 s2) λw N2 hD=>⟨dL _ _,Lq w N2 _ hD λ_=>dL _ _⟩))))))))))))))))))
  |ite a b' d=>
   obtain⟨x,hx⟩:∃x,rs[0]? =some x:=⟨_,xab (by rw[BL,mq];show 0<3;decide)⟩;obtain⟨y,hy⟩:∃y,rs[1]? =some y:=⟨_,xab (by rw[BL,mq];show 1<3;decide)⟩;obtain⟨z,hz⟩:∃z,rs[2]? =some z:=⟨_,xab (by rw[BL,mq];show 2<3;decide)⟩;have s1:=zx 0 x a hx rfl;have s2:=zx 1 y b' hy rfl;have s3:=zx 2 z d hz rfl;dsimp only[Tr.kd,Tr.vl]at KV⊢;exact Br.F (ae.bB (b:=3) (Br.F (ae.bB (b:=4) (Br.F (ae.bB (b:=5) (Br.F (ae.bB (b:=6) (Br.F (ae.bB (b:=7) (Br.F (ae.bB (b:=8) (Br.F (ae.bB (b:=9) (Br.F (DR.of (dL _ _) (get (j:=0) hx (get (j:=1) hy (get (j:=2) hz (aa.px (hole _) (Ic s1 s2 s3) λw N2 hD=>⟨dL _ _,Lq w N2 _ hD λ_=>dL _ _⟩)))))))))))))))))))
 refine ae.bB (b:=1) (Br.dec (λh1=>?_) (λh1=>?_))
 ·rw[show(decide (t.kd=1))=decide (t.kd=1\/t.kd=2)by simp[h1]];exact JE.mk j36
 refine ae.bB (b:=2) ?_;rw[show(decide (t.kd=2))=decide (t.kd=1\/t.kd=2)by simp[h1]];exact JE.mk j36
theorem Oh(t:Tr):R7 t:=by
 induction t with
 |c k=>exact iU _ λa ha=>by cases ha
 |v k=>exact iU _ λa ha=>by cases ha
 |no a i1=>
  exact iU _ λk hk=>by
   simp only[Tr.kids,xag,xaw,xaZ]at hk;subst hk;exact i1
 |bin n a b i1 i2=>
  exact iU _ λk hk=>by
   simp only[Tr.kids,xag,xaw,xaZ]at hk;rcases hk with rfl|rfl
   ·exact i1
   exact i2
 |ite a b d i1 i2 i3=>
  exact iU _ λk hk=>by
   simp only[Tr.kids,xag,xaw,xaZ]at hk;rcases hk with rfl|rfl|rfl
   ·exact i1
   ·exact i2
   exact i3
theorem Fm.dh.len{p:Nat}{l:List UInt8}{o:List Tok}(h:dh p l o):o.length<=l.length+1:=by
 induction h with
 |fin=>simp
 |blank _ ih=>simp only[xak];omega
 |wrong=>simp
 |tok hb h _ ih=>
  have:=pF h;simp only[xak,xbS]at ih this⊢;omega
theorem QT{kp:Nat}{K:Kd}{S:Nat->aC.Fn}{ord ag tr:zL}{C:Hp}(hK:cT kp K S ord ag tr C)(l:List UInt8)(hB:∀s,K.hold s+32769+2^K.n<=65535):
  Fc zQ 30 #[ptr kp,aq l] C (λr H=>(H=C/\∃at_ e,Reads K.n l (.bad at_ e)/\r=.tuple #[u32 0,nI at_,nI e])\/∃t l' x e,Reads K.n l (.ok t l')/\r=.tuple #[u32 x,nI 0,nI e]/\So kp K S ord ag t.fn t.gR (.tuple #[u32 x,nI e]) H):=by
 refine aK λg=>MV (ae.aG (Br.no (aa.eq (mO hK.rep) (aa.fn .here (yg l K.n C) ?_))));rintro r _ ⟨N,rfl,h|h⟩
 ·obtain⟨t,l',p,hr,rfl,ht⟩:=h;obtain⟨hf,hl⟩:=hr.wt λo ho=>ho.len;refine Ext.mk rfl (Ext.mk rfl (Ext.mk rfl (ae.jD (b:=0) (Br.F ?_))));refine aa.fn .here (RE t hK ht hf λs=>by have:=hB s;omega) ?_;rintro w _ ⟨C',rfl,hb⟩;rcases hb with⟨x,K',S',iT,rfl,h1⟩|⟨rfl,h1⟩
  ·exact Ext.mk rfl (Ext.mk rfl (aQ.mk .right (.inr ⟨t,l',x,0,hr,rfl,.inl ⟨x,K',S',iT,rfl,h1⟩⟩)))
  exact Ext.mk rfl (Ext.mk rfl (aQ.mk .right (.inr ⟨t,l',0,9,hr,rfl,.inr ⟨rfl,h1⟩⟩)))
 obtain⟨a,e,hr,rfl⟩:=h;have he:=hr.fit;exact Ext.mk rfl (Ext.mk rfl (Ext.mk rfl (ae.jD (b:=0) (Br.T (aQ.mk .right (.inl ⟨rfl,a,e,hr,rfl⟩)) he))))
theorem yd{n:Nat}(hn:n<=16)(l:List UInt8)(B:Hp):
  Fc zQ 6 #[nI n,aq l] B (λr H=>∃N,H=N++B/\((∃at_ e,Reads n l (.bad at_ e)/\r=.tuple #[.agg #[nI 0,.slice none 0 0],nI at_,nI e])\/∃t l' v,Reads n l (.ok t l')/\r=.tuple #[v,nI 0,nI 0]/\dM (N++B) v n t.fn)):=by
 refine aK λg=>Se λb1 _=>ae.cX (b:=0) (Br.F (ae.gW (b:=16) (Br.F (aa.fn .here (yg l n _) ?_))));rintro r _ ⟨N,rfl,h|h⟩
 ·obtain⟨t,l',p,hr,rfl,ht⟩:=h;obtain⟨hf,hl⟩:=hr.wt λo ho=>ho.len;refine Ext.mk rfl (Ext.mk rfl (Ext.mk rfl (ae.jD (b:=0) (Br.F ?_))));refine aa.pre (q7 N B _) (aa.px (.cons .here) (Oh t (ht.mono λy hy=>xad B hy) hf hn) ?_);intro v N2 hT;obtain⟨s,rfl,hs1⟩:=hT.cell;have h1:∀u∈[nI n,s],u.oneCell'=true:=λu hu=>by
   simp only[xag,xaw,xaZ]at hu;rcases hu with rfl|rfl
   ·rfl
   exact hs1
  refine St.whole (r:=[nI n,s]) (.head _) rfl rfl h1 (ax.whole (r:=[nI n,s]) (.head _) rfl ?_);exact aQ.mk .tail ⟨N2++N,by rw[xai],.inr ⟨t,l',_,hr,rfl,by rw[xai];exact hT⟩⟩
 obtain⟨a,e,hr,rfl⟩:=h;have he:=hr.fit;refine Ext.mk rfl (Ext.mk rfl (Ext.mk rfl (ae.jD (b:=0) (Br.T ?_ he))));refine Build.mk (cs:=[nI 0,.slice none 0 0]) zK (St.whole (r:=[nI 0,.slice none 0 0]) (.aO (.head _) _) rfl rfl (by simp[Value.oneCell']) (ax.whole (r:=[nI 0,.slice none 0 0]) (xaa _ (.head _)) rfl ?_));exact aQ.mk (.bN .tail) ⟨[],rfl,.inl ⟨a,e,hr,rfl⟩⟩
end
section
section
variable {bb:Nat} {a buf:zV} {L:Hp} {l:List UInt8} {B:Hp}
abbrev SI(bb:Nat)(a buf:zV):Nat×Obj:=(bb,.cells #[a,buf] 128 zZ)
theorem qv(ha:a=.pointer none\/a=bf bb)(h1:buf.oneCell'=true):Fc zQ 118 #[bf bb] [SI bb a buf] (λ_ H=>H=[SI bb (bf bb) buf]):=by
 refine aK λg=>Hz (Nil.ptr (Ld.u (.head _) ?_));rcases ha with rfl|rfl
 ·refine⟨.bool true,by simp[eX],?_⟩;refine Br.yes (aZ.toUnsafe (t:=128) rfl rfl (.head _) (show 0<2 by decide) zK zK zK (n:=2) zD ?_);refine cU.same rfl func151 zK zK zK zK (λ_=>rfl) ?_;refine aZ.Pc (u:=128) rfl rfl (.head _) zK zK (n:=2) zK zK (Nil.ptr (.mk ?_));exact St.one (c':=#[bf bb,buf]) (.head _) rfl (show 0<2 by decide) rfl (aQ.mk (.refl _) rfl)
 refine ae.aG (Br.no (Nil.ptr (Ld.u (.head _) ?_)));exact aZ.Xr (te:=128) rfl rfl rfl zK (n:=2) zK (Br.no (aQ.mk (.refl _) rfl))
theorem CD(l m:List UInt8):bF (l++m)=bF l++bF m:=by unfold bF;rw[xaB]
structure WT(bb:Nat)(l:List UInt8)(H:Hp):Prop where
 is:∃a buf L,H=SI bb a buf::L/\aM 5 1 buf (bF l) L/\(a=.pointer none\/a=bf bb)
theorem qw(h:WT bb l B)(c:UInt8)(hm:l.length<1099511627776):Fc zQ 166 #[bf bb,.int .u8 (c.toNat:Int)] B (λ_ H=>WT bb (l++[c]) H):=by
 obtain⟨a,buf,L,rfl,hs,ha⟩:=h.is;have h1:buf.oneCell'=true:=by obtain⟨a',c',e⟩:=hs.len;rw[e];rfl
 have hlen:(bF l).length=l.length:=by simp[bF]
 refine aK λg=>GN (aa.fn (.left (C:=[_])) (qv ha h1) ?_);rintro _ _ rfl;refine Nil.ptr (Ld.u (.head _) ?_);refine aj.m9 (e:=5) (z:=.int .u8 0) [.int .u8 (c.toNat:Int)] zK zK zK (show 1<=16777216 by decide) (by simp[Value.oneCell']) rfl rfl λbx=>?_;refine hs.mi (r:=[.int .u8 (c.toNat:Int)]) (.cons (.app .here)) (.head _) rfl (by simp[Value.oneCell']) ⟨[.int .u8 0],rfl,rfl⟩ zO zO λv' L' hs'=>?_;refine Nil.ptr (.mk (St.one (c':=#[bf bb,v']) (.tail (.head _)) (by obtain⟨a',c',e⟩:=hs'.len;rw[e];rfl) (show 1<2 by decide) rfl ?_));exact aQ.mk .tail ⟨_,v',L',rfl,by rw[CD];exact hs',.inr rfl⟩
theorem Vf(h:WT bb l B)(s:List UInt8)(h0:s≠[])(hm:l.length+s.length<1099511627776):Fc zQ 68 #[bf bb,aq s] B (λ_ H=>WT bb (l++s) H):=by
 obtain⟨a,buf,L,rfl,hs,ha⟩:=h.is;have h1:buf.oneCell'=true:=by obtain⟨a',c',e⟩:=hs.len;rw[e];rfl
 have hlen:(bF l).length=l.length:=by simp[bF]
 refine aK λg=>yN (aa.fn (.left (C:=[_])) (qv ha h1) ?_);rintro _ _ rfl;refine Nil.ptr (Ld.u (.head _) ?_);refine cU.YC rfl zK zK (e:=5) zK rfl rfl hs (.app .here) h0 zO λv' L' hs'=>?_;refine Nil.ptr (.mk (St.one (c':=#[bf bb,v']) (.head _) (by obtain⟨a',c',e⟩:=hs'.len;rw[e];rfl) (show 1<2 by decide) rfl (aN.of ?_)));exact aQ.mk (.refl _) ⟨_,v',L',rfl,by rw[CD];exact hs',.inr rfl⟩
theorem qj(h:WT bb l B):Rd zQ 69 #[bf bb] B (· =nI l.length):=by
 obtain⟨a,buf,L,rfl,hs,ha⟩:=h.is;have hlen:(bF l).length=l.length:=by simp[bF]
 refine aK λg=>yM (Nil.ptr (Ld.u (.head _) (hs.bE (bD.mk (.refl _) ?_))));rw[hlen]
theorem EW(h:WT bb l B)(h0:l≠[])(hm:l.length<1099511627776):Fc zQ 70 #[bf bb] B (λv H=>v=aq l):=by
 obtain⟨a,buf,L,rfl,hs,ha⟩:=h.is;have hlen:(bF l).length=l.length:=by simp[bF]
 have hpos:=xb7.2 h0;rcases hs with⟨_,e,_⟩|⟨b,au,rfl,rfl,aD⟩
 ·rw[e]at hlen;simp at hlen;omega
 refine aK λg=>yL (DR.of (.gU (.head _)) (Nil.ptr (Ld.u (.head _) (Nil.ptr (Ld.u (.head _) (aE.mk ?_))))));refine cU.xu rfl rfl zO ⟨.gU (.head _),?_⟩;refine cU.unsafeString rfl zK zK (e:=5) (l:=l) rfl (by rw[hlen];rfl) h0 (λr hr=>aD r (xaa _ hr)) zO (.cons .here) ⟨.gU (.head _),?_⟩;exact aQ.mk (.refl _) rfl
end
open Fm aC
def af2:List UInt8:=[48,49,50,51,52,53,54,55,56,57,97,98,99,100,101,102,103,104,105,106,107,108,109,110,111,112,113,114,115,116,117,118,119,120,121,122]
theorem ye{n:Nat}(hn:n<10)(B:Hp):Rd zQ 211 #[nI n] B (· =aq [UInt8.ofNat (48+n)]):=by
 refine aK λg=>vZ (ae.cX (b:=10) (Br.T (ae.inc ?_)));refine aZ.mA (l:=af2) (i:=n) (j:=n+1) rfl zK rfl (.inr ⟨_,.i64,rfl,rfl⟩) (.inr ⟨_,.i64,rfl,rfl⟩) (Nat.le_succ _) (by show n+1<=36;omega) (bD.mk (.refl _) ?_);have:n=0\/n=1\/n=2\/n=3\/n=4\/n=5\/n=6\/n=7\/n=8\/n=9:=by omega
 rcases this with rfl|rfl|rfl|rfl|rfl|rfl|rfl|rfl|rfl|rfl<;>rfl
theorem EH{n:Nat}(hn:n<10)(B:Hp):Rd zQ 175 #[nI n,nI 10] B (· =aq [UInt8.ofNat (48+n)]):=by
 refine aK λg=>wj (ae.bB (a:=10) (b:=10) (Br.T (ae.xO (a:=0) (cz.and (decide (n<100)) (λ_=>ae.cX (b:=100) ⟨rfl,rfl⟩) rfl λ_=>?_))));rw[xau (xaA n),xau (show n<100 by omega)];exact Br.yes (aa.eh .here (ye hn B) (bD.mk (.refl _) rfl))
theorem Lp{n:Nat}(hn:n<10)(B:Hp):Rd zQ 141 #[nI n] B (· =aq [UInt8.ofNat (48+n)]):=by
 exact aK λg=>wq (aa.eh .here (EH hn B) (bD.mk (.refl _) rfl))
theorem Q2{n:Nat}(hn:n<10)(B:Hp):Rd zQ 106 #[nI n] B (· =aq [UInt8.ofNat (48+n)]):=by
 exact aK λg=>wv (aa.eh .here (Lp hn B) (bD.mk (.refl _) rfl))
inductive nt(N:dU):Nat->Tr->Prop
 |c0:nt N 0 (.c 1)
 |c1:nt N 1 (.c 2)
 |n {r:Nat} {d:Nd} {a b:Tr}:N r=some d->2<=r->nt N d.hi a->nt N d.lo b->nt N r (.ite (.v d.v) a b)
section
variable {kp bb:Nat} {K:Kd} {S:Nat->aC.Fn} {ord ag tr:zL} {C:Hp}
theorem NO(hK:cT kp K S ord ag tr C)(hv:∀r d,K.N r=some d->d.v<10){r:Nat}{t:Tr}(ht:nt K.N r t):∀(l:List UInt8) (B:Hp),WT bb l B->l.length+(ei t).length<=65536->
  Fc zQ 131 #[ptr kp,bf bb,u32 r] (B++C) (λ_ H=>∃B',H=B'++C/\WT bb (l++ei t) B'):=by
 induction ht with
 |c0=>
  intro l B hB hl;refine aK λg=>py λJ1 h1=>aa.rd .left (qj hB) ?_;rintro _ rfl;refine ae.gW (b:=65536) (Br.F (JE.mk (h1 _ λ_=>?_)));refine ae.xO (a:=0) (b:=1) (Br.T (aH.nat (a:=0) zD (ae.dX (a:=48) zD (aa.fn .left (qw hB 48 zO) ?_))));intro v B' Yl;exact aQ.mk (.refl _) ⟨B',rfl,Yl⟩
 |c1=>
  intro l B hB hl;refine aK λg=>py λJ1 h1=>aa.rd .left (qj hB) ?_;rintro _ rfl;refine ae.gW (b:=65536) (Br.F (JE.mk (h1 _ λ_=>?_)));refine ae.xO (a:=1) (b:=1) (Br.T (aH.nat (a:=1) zD (ae.dX (a:=48) zD (aa.fn .left (qw hB 49 zO) ?_))));intro v B' Yl;exact aQ.mk (.refl _) ⟨B',rfl,Yl⟩
 | @n r d a b hd h2 ha hb ia ib=>
  intro l B hB hl;have hlen:(ei (.ite (.v d.v) a b)).length=6+(ei a).length+(ei b).length:=by
   simp only[ei,xaf,xak,xa3];omega
  have hlr:live K.N r:=.inr ⟨d,hd⟩;refine aK λg=>py λJ1 h1=>aa.rd .left (qj hB) ?_;rintro _ rfl;refine ae.gW (b:=65536) (Br.F (JE.mk (h1 _ λ_=>?_)));refine ae.xO (a:=r) (b:=1) (Br.F ?_);refine aa.eh (args:=#[ptr kp,u32 r]) (.app .here) (kx hK.rep (by have:=hK.dz hlr;omega)) ?_;rw[fh hd h2];refine Ext.mk rfl (Ext.mk rfl λoz _=>St.whole (r:=bH d) (.head _) rfl rfl (by intro v hv;simp only[bH,xag,xaw,xaZ]at hv;rcases hv with rfl|rfl|rfl<;>rfl) (Ld.u (.head _) ?_));refine aa.eh .here (Q2 (hv r d hd) _) (ae.tU (a:=[91,120]) zI (ae.tU (b:=[63]) zI ?_));refine aa.fn (.cons .left) (Vf hB _ zI zP) ?_;intro _ B1 SD;refine Ld.u (.head _) (aa.fn (.cons .here) (ia _ B1 SD (by simp only[xaf,xak,xa3];omega)) ?_);rintro _ _ ⟨B2,rfl,QD⟩;refine aa.fn (.cons .left) (qw QD 58 (by simp only[xaf,xak,xa3];omega)) ?_;intro _ B3 tA;refine Ld.u (.head _) (aa.fn (.cons .here) (ib _ B3 tA (by simp only[xaf,xak,xa3];omega)) ?_);rintro _ _ ⟨B4,rfl,Yk⟩;refine aa.fn (.cons .left) (qw Yk 93 (by simp only[xaf,xak,xa3];omega)) ?_;intro _ B5 hB5;refine aQ.mk .tail ⟨B5,rfl,?_⟩;have e:l++ei (.ite (.v d.v) a b)=l++([91,120]++[UInt8.ofNat (48+d.v)]++[63])++ei a++[58]++ei b++[93]:=by
   simp only[ei,xai]
  rw[e];exact hB5
end
end
section
open Fm Sw
def dg(k:Nat):UInt8:=UInt8.ofNat (48+k)
theorem EJ{k:Nat}(h:k<10):(dg k).toNat=48+k:=by
 unfold dg;rw[xdL,xa5 (by show 48+k<256;omega)]
def dec(n:Nat):List UInt8:=if n<10 then [dg n]else if n<100 then [dg (n/10),dg (n%10)]else if n<1000 then [dg (n/100),dg (n/10%10),dg (n%10)]else [dg (n/1000),dg (n/100%10),dg (n/10%10),dg (n%10)]
def EP:List UInt8:=[48,48,48,49,48,50,48,51,48,52,48,53,48,54,48,55,48,56,48,57,49,48,49,49,49,50,49,51,49,52,49,53,49,54,49,55,49,56,49,57,50,48,50,49,50,50,50,51,50,52,50,53,50,54,50,55,50,56,50,57,51,48,51,49,51,50,51,51,51,52,51,53,51,54,51,55,51,56,51,57,52,48,52,49,52,50,52,51,52,52,52,53,52,54,52,55,52,56,52,57,53,48,53,49,53,50,53,51,53,52,53,53,53,54,53,55,53,56,53,57,54,48,54,49,54,50,54,51,54,52,54,53,54,54,54,55,54,56,54,57,55,48,55,49,55,50,55,51,55,52,55,53,55,54,55,55,55,56,55,57,56,48,56,49,56,50,56,51,56,52,56,53,56,54,56,55,56,56,56,57,57,48,57,49,57,50,57,51,57,52,57,53,57,54,57,55,57,56,57,57]
def pwL:zL:=[1,10,100,1000,10000,100000,1000000,10000000,100000000,1000000000,10000000000,100000000000,1000000000000,10000000000000,100000000000000,1000000000000000,10000000000000000,100000000000000000,1000000000000000000,10000000000000000000]
def powC:Array zV:=(pwL.map λ(x:Nat)=>Value.int .u64 (x:Int)).toArray
def Sr(n:Nat):Nat:=if n<1000 then 3 else 4
theorem Yw:(List.range 100).all (λk=>EP[2*k]? ==some (dg (k/10)) &&EP[2*k+1]? ==some (dg (k%10)) && (EP.take (2*k+2)).drop (2*k)==[dg (k/10),dg (k%10)])=true:=by decide+kernel
theorem Ck{k:Nat}(h:k<100):EP[2*k]? =some (dg (k/10))/\EP[2*k+1]? =some (dg (k%10))/\(EP.take (2*k+2)).drop (2*k)=[dg (k/10),dg (k%10)]:=by
 have:=xcp.1 Yw k (xaO.2 h);simp only[xaC,xc0]at this;exact⟨this.1.1,this.1.2,this.2⟩
theorem KM{n r:Nat}(h1:100<=n)(h2:n<10000)(h:qJ n r):7<=r/\r<=14:=by
 have h6:=(h.gt (n:=6)).2 (by show 64<=n;omega);have Yn:¬14<r:=λh'=>by
  have:16384<=n:=(h.gt (n:=14)).1 h';omega
 omega
theorem IE{n:Nat}(h1:100<=n)(h2:n<10000){B:Hp}{T:TypeId}{fz:Nat×Nat}(hG:(1,Obj.cells powC T fz)∈B):Rd zQ 212 #[.int .u64 (n:Int)] B (· =nI (Sr n)):=by
 refine aK λg=>Gk (aa.rq (Bw zO B) ?_);rintro _ ⟨r,hr,rfl⟩;have hr7:7<=r/\r<=14:=KM h1 h2 hr;refine aa.eq (v:=nI (r*78913/262144)) (B:=B) (aK λg=>FY (ae.mI (b:=78913) (by simp only[aS];omega) (ae.e9 (b:=18) (by simp only[aS];omega) (bD.mk (.refl _) ?_)))) ?_
 ·rw[xaN]
 have fin:∀L d:Nat,powC[0+L*1]? =some (.int .u64 (d:Int))->L<5->L+(if d<=n then 1 else 0)=Sr n->fo 20 1 (.pointer (some ⟨1,0,none⟩)) (nI L) λv5=>
   Ld B v5 λv6=>ae .num .geq (.int .u64 (n:Int)) v6 λv7=>
   aa zQ g 254 #[v7] B (λv8 H9=>ae .num .add (nI L) v8 λv10=>aQ (λv H=>H=B/\(λx=>x=nI (Sr n)) v) (.returned v10) H9) (cv (aQ λv H=>H=B/\(λx=>x=nI (Sr n)) v)):=λL d hL h5 he=>by
  refine fo.nat zO (Ld.mk hG hL (ae.kM ?_));refine aa.eq (v:=nI (if d<=n then 1 else 0)) (B:=B) (aK λg=>FX (Br.dec (λh=>bD.mk (.refl _) (by rw[xae h];rfl)) (λh=>bD.mk (.refl _) (by rw[xac h];rfl)))) ?_;refine ae.dX (by simp only[aS];split<;>omega) (bD.mk (.refl _) ?_);rw[he]
 have hL:r*78913/262144=if r<=9 then 2 else if r<=13 then 3 else 4:=by
  have:r=7\/r=8\/r=9\/r=10\/r=11\/r=12\/r=13\/r=14:=by omega
  rcases this with rfl|rfl|rfl|rfl|rfl|rfl|rfl|rfl<;>rfl
 have hb:2^(r-1)<=n/\n<2^r:=⟨hr.2.resolve_left zO,hr.1⟩;rw[hL];by_cases h9:r<=9
 ·rw[xae h9];have:n<2^9:=xa2 hb.2 (xat zD h9);exact fin 2 100 rfl zD (by rw[xae h1];unfold Sr;rw[xae zO])
 rw[xac h9];by_cases h13:r<=13
 ·rw[xae h13];refine fin 3 1000 rfl zD ?_;unfold Sr;by_cases h:n<1000
  ·rw[xac zO,xae h]
  rw[xae zO,xac h]
 rw[xac h13];have:2^13<=n:=xbZ (xat zD (show 13<=r-1 by omega)) hb.1;refine fin 4 10000 rfl zD ?_;unfold Sr;rw[xac zO,xac zO]
abbrev YT:Array zV:=#[.int .u8 0,.int .u8 0,.int .u8 0,.int .u8 0,.int .u8 0,.int .u8 0,.int .u8 0,.int .u8 0,.int .u8 0,.int .u8 0,.int .u8 0,.int .u8 0,.int .u8 0,.int .u8 0,.int .u8 0,.int .u8 0,.int .u8 0,.int .u8 0,.int .u8 0,.int .u8 0,.int .u8 0,.int .u8 0,.int .u8 0,.int .u8 0]
theorem Yu{n b:Nat}{T:TypeId}(h1:100<=n)(h2:n<1000):Fc zQ 213 #[.slice (some ⟨b,1,none⟩) 3 23,.int .u64 (n:Int)] [(b,Obj.cells YT T zZ)]
  (λ_ H=>H=[(b,Obj.cells #[.int .u8 0,.int .u8 ((dg (n/100)).toNat:Int),.int .u8 ((dg (n%100/10)).toNat:Int),.int .u8 ((dg (n%100%10)).toNat:Int),.int .u8 0,.int .u8 0,.int .u8 0,.int .u8 0,.int .u8 0,.int .u8 0,.int .u8 0,.int .u8 0,.int .u8 0,.int .u8 0,.int .u8 0,.int .u8 0,.int .u8 0,.int .u8 0,.int .u8 0,.int .u8 0,.int .u8 0,.int .u8 0,.int .u8 0,.int .u8 0] T zZ)]):=by
 obtain⟨d1,d2,_⟩:=Ck (k:=n%100) zO;refine aK λg=>pn (aE.mk ?_);refine⟨λvs H=>vs=[.int .u64 (n:Int),nI 3]/\H=[(b,Obj.cells YT T zZ)],λ_ _=>0,JE.mk ⟨rfl,rfl⟩,?_⟩;rintro w6 w7 H ⟨⟨⟩,rfl⟩ gs;refine ae.kM (a:=3) (b:=8) (Br.F (aH.nat (by simp only[aS];omega) λJ64 Dz=>?_));refine ae.kM (a:=3) (b:=4) (Br.F (JE.mk (Dz _ _ _ λ_=>?_)));intro J69 h69;refine ae.kM (a:=3) (b:=2) (Br.T (ae.wI (b:=100) zD (ae.mI (b:=2) (by simp only[aS];omega) (ae.qm (b:=100) (by simp only[aS];omega) zD ?_))));rw[xbJ (n%100) 2];refine DR.of (R:=[]) .tail (ae.gD (a:=3) (b:=1) zD zD (ae.gD (a:=3) (b:=2) zD zD (ae.dX (b:=1) (by simp only[aS];omega) ?_)));refine bP.of (l:=EP) d2 (bP.of (l:=EP) d1 (ah.nat (j:=2) zD (St.one (c':=#[.int .u8 0,.int .u8 0,.int .u8 0,.int .u8 ((dg (n%100%10)).toNat:Int),.int .u8 0,.int .u8 0,.int .u8 0,.int .u8 0,.int .u8 0,.int .u8 0,.int .u8 0,.int .u8 0,.int .u8 0,.int .u8 0,.int .u8 0,.int .u8 0,.int .u8 0,.int .u8 0,.int .u8 0,.int .u8 0,.int .u8 0,.int .u8 0,.int .u8 0,.int .u8 0]) (.head _) rfl (show 3<24 by decide) rfl ?_)));refine⟨.tail,?_⟩;refine ah.nat (j:=1) zD (St.one (c':=#[.int .u8 0,.int .u8 0,.int .u8 ((dg (n%100/10)).toNat:Int),.int .u8 ((dg (n%100%10)).toNat:Int),.int .u8 0,.int .u8 0,.int .u8 0,.int .u8 0,.int .u8 0,.int .u8 0,.int .u8 0,.int .u8 0,.int .u8 0,.int .u8 0,.int .u8 0,.int .u8 0,.int .u8 0,.int .u8 0,.int .u8 0,.int .u8 0,.int .u8 0,.int .u8 0,.int .u8 0,.int .u8 0]) (.head _) rfl (show 2<24 by decide) rfl ?_);refine ae.gD (a:=3) (b:=2) zD zD (JE.mk (h69 _ _ _ λ_=>?_));refine ae.gW (a:=1) (b:=0) (Br.T (ae.dX (a:=48) (by simp only[aS];omega) (aH.nat (by simp only[aS];omega) ?_)));have e:((48+n/100:Nat):Int)=((dg (n/100)).toNat:Int):=by rw[EJ zO]
 rw[e];refine ah.nat (j:=0) zD (St.one (c':=#[.int .u8 0,.int .u8 ((dg (n/100)).toNat:Int),.int .u8 ((dg (n%100/10)).toNat:Int),.int .u8 ((dg (n%100%10)).toNat:Int),.int .u8 0,.int .u8 0,.int .u8 0,.int .u8 0,.int .u8 0,.int .u8 0,.int .u8 0,.int .u8 0,.int .u8 0,.int .u8 0,.int .u8 0,.int .u8 0,.int .u8 0,.int .u8 0,.int .u8 0,.int .u8 0,.int .u8 0,.int .u8 0,.int .u8 0,.int .u8 0]) (.head _) rfl (show 1<24 by decide) rfl ?_);exact aQ.mk (.refl _) rfl
theorem Yt{n b:Nat}{T:TypeId}(h1:1000<=n)(h2:n<10000):Fc zQ 213 #[.slice (some ⟨b,1,none⟩) 4 23,.int .u64 (n:Int)] [(b,Obj.cells YT T zZ)]
  (λ_ H=>H=[(b,Obj.cells #[.int .u8 0,.int .u8 ((dg (n/100/10)).toNat:Int),.int .u8 ((dg (n/100%10)).toNat:Int),.int .u8 ((dg (n%100/10)).toNat:Int),.int .u8 ((dg (n%100%10)).toNat:Int),.int .u8 0,.int .u8 0,.int .u8 0,.int .u8 0,.int .u8 0,.int .u8 0,.int .u8 0,.int .u8 0,.int .u8 0,.int .u8 0,.int .u8 0,.int .u8 0,.int .u8 0,.int .u8 0,.int .u8 0,.int .u8 0,.int .u8 0,.int .u8 0,.int .u8 0] T zZ)]):=by
 obtain⟨d1,d2,_⟩:=Ck (k:=n%100) zO;obtain⟨d3,d4,_⟩:=Ck (k:=n/100) zO;refine aK λg=>pn (aE.mk ?_);refine⟨λvs H=>vs=[.int .u64 (n:Int),nI 4]/\H=[(b,Obj.cells YT T zZ)],λ_ _=>0,JE.mk ⟨rfl,rfl⟩,?_⟩;rintro w6 w7 H ⟨⟨⟩,rfl⟩ gs;refine ae.kM (a:=4) (b:=8) (Br.F (aH.nat (by simp only[aS];omega) λJ64 Dz=>?_));refine ae.kM (a:=4) (b:=4) (Br.T (ae.wI (b:=10000) zD (ae.qm (b:=10000) (by simp only[aS];omega) zD ?_)));rw[xa5 h2,xcr h2];refine ae.qm (b:=100) (by simp only[aS];omega) zD (ae.mI (b:=2) (by simp only[aS];omega) (ae.wI (b:=100) zD (ae.mI (b:=2) (by simp only[aS];omega) ?_)));rw[xbJ (n%100) 2,xbJ (n/100) 2];refine DR.of (R:=[]) .tail (ae.gD (a:=4) (b:=1) zD zD (ae.gD (a:=4) (b:=2) zD zD (ae.dX (b:=1) (by simp only[aS];omega) ?_)));refine bP.of (l:=EP) d2 (bP.of (l:=EP) d1 (ah.nat (j:=3) zD (St.one (c':=#[.int .u8 0,.int .u8 0,.int .u8 0,.int .u8 0,.int .u8 ((dg (n%100%10)).toNat:Int),.int .u8 0,.int .u8 0,.int .u8 0,.int .u8 0,.int .u8 0,.int .u8 0,.int .u8 0,.int .u8 0,.int .u8 0,.int .u8 0,.int .u8 0,.int .u8 0,.int .u8 0,.int .u8 0,.int .u8 0,.int .u8 0,.int .u8 0,.int .u8 0,.int .u8 0]) (.head _) rfl (show 4<24 by decide) rfl ?_)));refine⟨.tail,?_⟩;refine ah.nat (j:=2) zD (St.one (c':=#[.int .u8 0,.int .u8 0,.int .u8 0,.int .u8 ((dg (n%100/10)).toNat:Int),.int .u8 ((dg (n%100%10)).toNat:Int),.int .u8 0,.int .u8 0,.int .u8 0,.int .u8 0,.int .u8 0,.int .u8 0,.int .u8 0,.int .u8 0,.int .u8 0,.int .u8 0,.int .u8 0,.int .u8 0,.int .u8 0,.int .u8 0,.int .u8 0,.int .u8 0,.int .u8 0,.int .u8 0,.int .u8 0]) (.head _) rfl (show 3<24 by decide) rfl ?_);refine DR.of (R:=[]) .tail (ae.gD (a:=4) (b:=3) zD zD (ae.gD (a:=4) (b:=4) zD zD (ae.dX (b:=1) (by simp only[aS];omega) ?_)));refine bP.of (l:=EP) d4 (bP.of (l:=EP) d3 (ah.nat (j:=1) zD (St.one (c':=#[.int .u8 0,.int .u8 0,.int .u8 ((dg (n/100%10)).toNat:Int),.int .u8 ((dg (n%100/10)).toNat:Int),.int .u8 ((dg (n%100%10)).toNat:Int),.int .u8 0,.int .u8 0,.int .u8 0,.int .u8 0,.int .u8 0,.int .u8 0,.int .u8 0,.int .u8 0,.int .u8 0,.int .u8 0,.int .u8 0,.int .u8 0,.int .u8 0,.int .u8 0,.int .u8 0,.int .u8 0,.int .u8 0,.int .u8 0,.int .u8 0]) (.head _) rfl (show 2<24 by decide) rfl ?_)));refine⟨.tail,?_⟩;refine ah.nat (j:=0) zD (St.one (c':=#[.int .u8 0,.int .u8 ((dg (n/100/10)).toNat:Int),.int .u8 ((dg (n/100%10)).toNat:Int),.int .u8 ((dg (n%100/10)).toNat:Int),.int .u8 ((dg (n%100%10)).toNat:Int),.int .u8 0,.int .u8 0,.int .u8 0,.int .u8 0,.int .u8 0,.int .u8 0,.int .u8 0,.int .u8 0,.int .u8 0,.int .u8 0,.int .u8 0,.int .u8 0,.int .u8 0,.int .u8 0,.int .u8 0,.int .u8 0,.int .u8 0,.int .u8 0,.int .u8 0]) (.head _) rfl (show 1<24 by decide) rfl ?_);refine ae.gD (a:=4) (b:=4) zD zD (JE.mk (Dz _ _ _ λ_=>?_));intro J69 h69;refine ae.kM (a:=0) (b:=2) (Br.F (JE.mk (h69 _ _ _ λ_=>?_)));exact ae.gW (a:=0) (b:=0) (Br.F (aQ.mk (.refl _) rfl))
theorem ym{n:Nat}(hn:n<100)(B:Hp):Rd zQ 211 #[nI n] B (· =aq (dec n)):=by
 by_cases h10:n<10
 ·refine Fc.mono (ye h10 B) ?_;rintro v H ⟨e,rfl⟩;refine⟨e,?_⟩;unfold dec;rw[xae h10];rfl
 refine aK λg=>vZ (ae.cX (b:=10) (Br.F (ae.mI (b:=2) (by simp only[aS];omega) (ae.mI (b:=2) (by simp only[aS];omega) (ae.dX (b:=2) (by simp only[aS];omega) ?_)))));rw[xbJ n 2];refine aZ.mA (l:=EP) (i:=2*n) (j:=2*n+2) rfl zK rfl (.inr ⟨_,.i64,rfl,rfl⟩) (.inr ⟨_,.i64,rfl,rfl⟩) zO (by show 2*n+2<=200;omega) (bD.mk (.refl _) ?_);rw[(Ck hn).2.2];unfold dec;rw[xac h10,xae hn]
theorem Ys{n b:Nat}{T:TypeId}(h1:100<=n)(h2:n<1000):Fc zQ 213 #[.slice (some ⟨b,0,none⟩) 3 24,.int .u64 (n:Int)] [(b,Obj.cells YT T zZ)]
  (λ_ H=>H=[(b,Obj.cells #[.int .u8 ((dg (n/100)).toNat:Int),.int .u8 ((dg (n%100/10)).toNat:Int),.int .u8 ((dg (n%100%10)).toNat:Int),.int .u8 0,.int .u8 0,.int .u8 0,.int .u8 0,.int .u8 0,.int .u8 0,.int .u8 0,.int .u8 0,.int .u8 0,.int .u8 0,.int .u8 0,.int .u8 0,.int .u8 0,.int .u8 0,.int .u8 0,.int .u8 0,.int .u8 0,.int .u8 0,.int .u8 0,.int .u8 0,.int .u8 0] T zZ)]):=by
 obtain⟨d1,d2,_⟩:=Ck (k:=n%100) zO;refine aK λg=>pn (aE.mk ?_);refine⟨λvs H=>vs=[.int .u64 (n:Int),nI 3]/\H=[(b,Obj.cells YT T zZ)],λ_ _=>0,JE.mk ⟨rfl,rfl⟩,?_⟩;rintro w6 w7 H ⟨⟨⟩,rfl⟩ gs;refine ae.kM (a:=3) (b:=8) (Br.F (aH.nat (by simp only[aS];omega) λJ64 Dz=>?_));refine ae.kM (a:=3) (b:=4) (Br.F (JE.mk (Dz _ _ _ λ_=>?_)));intro J69 h69;refine ae.kM (a:=3) (b:=2) (Br.T (ae.wI (b:=100) zD (ae.mI (b:=2) (by simp only[aS];omega) (ae.qm (b:=100) (by simp only[aS];omega) zD ?_))));rw[xbJ (n%100) 2];refine DR.of (R:=[]) .tail (ae.gD (a:=3) (b:=1) zD zD (ae.gD (a:=3) (b:=2) zD zD (ae.dX (b:=1) (by simp only[aS];omega) ?_)));refine bP.of (l:=EP) d2 (bP.of (l:=EP) d1 (ah.nat (j:=2) zD (St.one (c':=#[.int .u8 0,.int .u8 0,.int .u8 ((dg (n%100%10)).toNat:Int),.int .u8 0,.int .u8 0,.int .u8 0,.int .u8 0,.int .u8 0,.int .u8 0,.int .u8 0,.int .u8 0,.int .u8 0,.int .u8 0,.int .u8 0,.int .u8 0,.int .u8 0,.int .u8 0,.int .u8 0,.int .u8 0,.int .u8 0,.int .u8 0,.int .u8 0,.int .u8 0,.int .u8 0]) (.head _) rfl (show 2<24 by decide) rfl ?_)));refine⟨.tail,?_⟩;refine ah.nat (j:=1) zD (St.one (c':=#[.int .u8 0,.int .u8 ((dg (n%100/10)).toNat:Int),.int .u8 ((dg (n%100%10)).toNat:Int),.int .u8 0,.int .u8 0,.int .u8 0,.int .u8 0,.int .u8 0,.int .u8 0,.int .u8 0,.int .u8 0,.int .u8 0,.int .u8 0,.int .u8 0,.int .u8 0,.int .u8 0,.int .u8 0,.int .u8 0,.int .u8 0,.int .u8 0,.int .u8 0,.int .u8 0,.int .u8 0,.int .u8 0]) (.head _) rfl (show 1<24 by decide) rfl ?_);refine ae.gD (a:=3) (b:=2) zD zD (JE.mk (h69 _ _ _ λ_=>?_));refine ae.gW (a:=1) (b:=0) (Br.T (ae.dX (a:=48) (by simp only[aS];omega) (aH.nat (by simp only[aS];omega) ?_)));have e:((48+n/100:Nat):Int)=((dg (n/100)).toNat:Int):=by rw[EJ zO]
 rw[e];refine ah.nat (j:=0) zD (St.one (c':=#[.int .u8 ((dg (n/100)).toNat:Int),.int .u8 ((dg (n%100/10)).toNat:Int),.int .u8 ((dg (n%100%10)).toNat:Int),.int .u8 0,.int .u8 0,.int .u8 0,.int .u8 0,.int .u8 0,.int .u8 0,.int .u8 0,.int .u8 0,.int .u8 0,.int .u8 0,.int .u8 0,.int .u8 0,.int .u8 0,.int .u8 0,.int .u8 0,.int .u8 0,.int .u8 0,.int .u8 0,.int .u8 0,.int .u8 0,.int .u8 0]) (.head _) rfl (show 0<24 by decide) rfl ?_);exact aQ.mk (.refl _) rfl
theorem Rf{n:Nat}(hn:n<1000){B:Hp}{T:TypeId}{fz:Nat×Nat}(hG:(1,Obj.cells powC T fz)∈B):Rd zQ 104 #[.int .u64 (n:Int)] B (· =aq (dec n)):=by
 refine aK λg=>HK (aa.eq (v:=aq (dec n)) (B:=B) (aK λg=>G9 (aa.eq (v:=aq (dec n)) (B:=B) (aK λg=>GL ?_) (bD.mk (.refl _) rfl))) (bD.mk (.refl _) rfl));refine ae.bB (a:=10) (b:=10) (Br.T (ae.cX (b:=100) (Br.dec (λh=>aH.nat (by simp only[aS];omega) (aa.eq (ym h B) (bD.mk (.refl _) rfl))) (λz8 b6 _=>?_))));refine aa.eq (IE zO zO (.tail _ hG)) ?_;rw[show Sr n=3 from xae hn];refine aZ.rM (e:=5) (i:=0) (j:=3) (n:=24) rfl zK zK rfl (.inl ⟨rfl,rfl⟩) (.inr ⟨_,.i64,rfl,rfl⟩) zD zD zD ?_;refine aa.fn (.left (C:=[_])) (Ys zO hn) ?_;rintro _ _ rfl;refine aZ.rM (e:=5) (i:=0) (j:=3) (n:=24) rfl zK zK rfl (.inl ⟨rfl,rfl⟩) (.inr ⟨_,.i64,rfl,rfl⟩) zD zD zD ?_;refine dK.cut (l:=dec n) (.head _) ?_ zD (λj u hu=>?_) (bD.mk .tail rfl)
 ·unfold dec;rw[xac zO,xac z8,xae hn];rfl
 have ed:dec n=[dg (n/100),dg (n%100/10),dg (n%100%10)]:=by
  unfold dec;rw[xac zO,xac z8,xae hn,show n/10%10=n%100/10 by omega,show n%100%10=n%10 by omega]
 rw[ed]at hu;rcases j with _|_|_|j
 ·cases hu;rfl
 ·cases hu;rfl
 ·cases hu;rfl
 simp at hu
theorem qn{n:Nat}(hn:n<10000){B:Hp}{T:TypeId}{fz:Nat×Nat}(hG:(1,Obj.cells powC T fz)∈B):Rd zQ 106 #[nI n] B (· =aq (dec n)):=by
 refine aK λg=>wv (aa.eq (v:=aq (dec n)) (B:=B) (aK λg=>wq (aa.eq (v:=aq (dec n)) (B:=B) (aK λg=>wj ?_) (bD.mk (.refl _) rfl))) (bD.mk (.refl _) rfl));refine ae.bB (a:=10) (b:=10) (Br.T (ae.xO (a:=0) (cz.and (decide (n<100)) (λ_=>ae.cX (b:=100) ⟨rfl,rfl⟩) rfl λ_=>?_)));rw[xau (xaA n),xct];refine Br.dec (λh=>aa.eq (ym h B) (bD.mk (.refl _) rfl)) (λz8=>?_);intro b8 _;refine aH.nat (by simp only[aS];omega) λJ11 h11=>ae.cX (b:=0) (Br.F (JE.mk (h11 _ _ λ_=>?_)));refine aa.eq (IE zO hn (.tail _ hG)) ?_;by_cases h3:n<1000
 ·rw[show Sr n=3 from xae h3];refine ae.dX (a:=1) (b:=3) zD (aZ.rM (e:=5) (i:=1) (j:=4) (n:=24) rfl zK zK rfl (.inr ⟨_,.i64,rfl,rfl⟩) (.inr ⟨_,.i64,rfl,rfl⟩) zD zD zD ?_);refine aa.fn (.left (C:=[_])) (Yu zO h3) ?_;rintro _ _ rfl;refine ae.cX (b:=0) (Br.F (ae.dX (a:=1) (b:=3) zD (aZ.rM (e:=5) (i:=1) (j:=4) (n:=24) rfl zK zK rfl (.inr ⟨_,.i64,rfl,rfl⟩) (.inr ⟨_,.i64,rfl,rfl⟩) zD zD zD ?_)));refine dK.cut (l:=dec n) (.head _) ?_ zD (λj u hu=>?_) (bD.mk .tail rfl)
  ·unfold dec;rw[xac zO,xac z8,xae h3];rfl
  have ed:dec n=[dg (n/100),dg (n%100/10),dg (n%100%10)]:=by
   unfold dec;rw[xac zO,xac z8,xae h3,show n/10%10=n%100/10 by omega,show n%100%10=n%10 by omega]
  rw[ed]at hu;rcases j with _|_|_|j
  ·cases hu;rfl
  ·cases hu;rfl
  ·cases hu;rfl
  simp at hu
 rw[show Sr n=4 from xac h3];refine ae.dX (a:=1) (b:=4) zD (aZ.rM (e:=5) (i:=1) (j:=5) (n:=24) rfl zK zK rfl (.inr ⟨_,.i64,rfl,rfl⟩) (.inr ⟨_,.i64,rfl,rfl⟩) zD zD zD ?_);refine aa.fn (.left (C:=[_])) (Yt zO hn) ?_;rintro _ _ rfl;refine ae.cX (b:=0) (Br.F (ae.dX (a:=1) (b:=4) zD (aZ.rM (e:=5) (i:=1) (j:=5) (n:=24) rfl zK zK rfl (.inr ⟨_,.i64,rfl,rfl⟩) (.inr ⟨_,.i64,rfl,rfl⟩) zD zD zD ?_)));have ed:dec n=[dg (n/100/10),dg (n/100%10),dg (n%100/10),dg (n%100%10)]:=by
  unfold dec;rw[xac zO,xac z8,xac h3,show n/10%10=n%100/10 by omega,show n%100%10=n%10 by omega,show n/1000=n/100/10 by omega]
 refine dK.cut (l:=dec n) (.head _) (by rw[ed];rfl) zD (λj u hu=>?_) (bD.mk .tail rfl);rw[ed]at hu;rcases j with _|_|_|_|j
 ·cases hu;rfl
 ·cases hu;rfl
 ·cases hu;rfl
 ·cases hu;rfl
 simp at hu
end
end Go.Proofs
namespace aC
open ak
variable {n:Nat}
def sat(n:Nat)(f:Fn):Nat:=(List.range (2^n)).countP f
def flip(v x:Nat):Nat:=aB x v (!x.testBit v)
theorem flip_flip(v x:Nat):flip v (flip v x)=x:=by
 unfold flip;rw[ai,xae rfl,qX];simpa using iN x v
theorem I3{v x:Nat}(hv:v<n)(hx:x<2^n):flip v x<2^n:=fw hx hv
theorem Lo{v:Nat}(hv:v<n):((List.range (2^n)).map (flip v)).Perm (List.range (2^n)):=by
 refine(xc9 ?_ xbs).2 λx=>?_
 ·refine xb9.2 (xbs.imp λ{a b} h e=>h ?_);rw[<-flip_flip v a,e,flip_flip]
 rw[xam];constructor
 ·rintro⟨y,hy,rfl⟩;exact xaO.2 (I3 hv (xaO.1 hy))
 intro hx;exact⟨flip v x,xaO.2 (I3 hv (xaO.1 hx)),flip_flip v x⟩
theorem vg{f g p q:Nat->Bool}(h:∀x,(p x).toNat+(q x).toNat=(f x).toNat+(g x).toNat):∀l:zL,l.countP p+l.countP q=l.countP f+l.countP g
 | []=>rfl
 |x::l=>by
  have:=h x;have:=vg h l;simp only[List.countP_cons];cases hp:p x<;>cases hq:q x<;>cases hf:f x<;>cases hg:g x<;>simp_all<;>omega
theorem OJ{v:Nat}(hv:v<n)(f:Fn):sat n (λx=>f (aB x v false))+sat n (λx=>f (aB x v true))=2*sat n f:=by
 unfold sat;rw[vg (f:=f) (g:=λx=>f (flip v x)) (λx=>?_)]
 ·have:List.countP (λx=>f (flip v x)) (List.range (2^n))=List.countP f (List.range (2^n)):=by
   have h:=(Lo hv).countP_eq f;rw[xeE]at h;exact h
  omega
 unfold flip;have:=iN x v;cases hb:x.testBit v<;>rw[hb]at this<;>simp only[xda,xcI]<;>rw[this]<;>omega
theorem qY:sat n (λ_=>false)=0:=by simp[sat]
theorem sat_true:sat n (λ_=>true)=2^n:=by simp[sat]
variable {N:dU} {S:Nat->Fn} {ag:Nat->Nat}
theorem OI(h:WF n ag N)(hl:nW n ag)(hi:Interp N S){r a b:Nat}{d:Nd}(hd:N r=some d)(hv:d.v<n)(ha:a*2^dep n ag N d.lo=sat n (S d.lo))(hb:b*2^dep n ag N d.hi=sat n (S d.hi)):
  (a*2^(dep n ag N d.lo-ag d.v-1)+b*2^(dep n ag N d.hi-ag d.v-1))*2^dep n ag N r=sat n (S r):=by
 have h1:=(h.lo hd).2;have h2:=(h.hi hd).2;rw[ay hd];have e1:(λx=>S r (aB x d.v false))=S d.lo:=by
  have:=(qs h hl hi (r:=r) (.inr ⟨d,hd⟩) hv (by rw[ay hd];exact xal _) false);rw[(Ja hd).1]at this;exact(funext this.1).symm
 have e2:(λx=>S r (aB x d.v true))=S d.hi:=by
  have:=(qs h hl hi (r:=r) (.inr ⟨d,hd⟩) hv (by rw[ay hd];exact xal _) true);rw[(Ja hd).2]at this;exact(funext this.1).symm
 have hh:=OJ hv (S r);rw[e1,e2,<-ha,<-hb]at hh;have p1:2^dep n ag N d.lo=2^(dep n ag N d.lo-ag d.v-1)*(2*2^ag d.v):=by
  rw[<-Nat.pow_succ',<-xdf];congr 1;omega
 have p2:2^dep n ag N d.hi=2^(dep n ag N d.hi-ag d.v-1)*(2*2^ag d.v):=by
  rw[<-Nat.pow_succ',<-xdf];congr 1;omega
 rw[p1,p2]at hh;rw[<-xcu a,<-xcu b,<-xeF,Nat.mul_left_comm]at hh;omega
end aC
namespace aC
def xC(c:Nat):Nat->Nat
 |0=>0
 |n+1=>256*xC c n+c
def cR(k x:Nat):Nat:=(List.range k).countP x.testBit
def y1(n x:Nat):Nat:=((x>>>1) &&&xC 85 n)+(x&&&xC 85 n)
def y2(n x:Nat):Nat:=((y1 n x>>>2) &&&xC 51 n)+(y1 n x&&&xC 51 n)
def y3(n x:Nat):Nat:=((y2 n x>>>4)+y2 n x) &&&xC 15 n
theorem ZY{a:Nat}(ha:a<256)(A j:Nat):(256*A+a).testBit j=if j<8 then a.testBit j else A.testBit (j-8):=
 Nat.testBit_two_pow_mul_add A (i:=8) ha j
theorem Yv{a c s:Nat}(A C:Nat)(hs:s<=8)(ha:a<256)(hc:c<2^(8-s)):((256*A+a)>>>s) &&& (256*C+c)=256*((A>>>s) &&&C)+((a>>>s) &&&c):=by
 have NA:c<256:=xa2 hc (xat zD (show 8-s<=8 by omega));have h1:(a>>>s) &&&c<256:=xaE xb3 NA;refine xaX λj=>?_;rw[xa8,xbh,ZY ha,ZY NA,ZY h1];by_cases hj:j<8
 ·rw[xae hj,xae hj,xa8,xbh];by_cases h2:s+j<8
  ·rw[xae h2]
  rw[xac h2];have:c.testBit j=false:=xbN (xa2 hc (xat zD zO));rw[this,xei,xei]
 rw[xac hj,xac hj,xac zO,xa8,xbh,show s+j-8=s+(j-8)by omega]
theorem YD{a c:Nat}(A C:Nat)(ha:a<256)(hc:c<256):(256*A+a) &&& (256*C+c)=256*(A&&&C)+(a&&&c):=by
 have:=Yv (s:=0) A C zD ha hc;simpa using this
theorem Jd:∀a:Fin 256,y1 1 a.1<256/\y2 1 a.1<256/\y2 1 a.1%16<=4/\y2 1 a.1/16<=4/\y3 1 a.1=cR 8 a.1/\cR 8 a.1<=8:=by decide+kernel
theorem SO{a:Nat}(n A:Nat)(ha:a<256):y1 (n+1) (256*A+a)=256*y1 n A+y1 1 a:=by
 unfold y1;rw[show xC 85 (n+1)=256*xC 85 n+85 from rfl,show xC 85 1=85 from rfl,Yv A _ zD ha zD,YD A _ ha zD,xek];omega
theorem HV{a:Nat}(n A:Nat)(ha:a<256):y2 (n+1) (256*A+a)=256*y2 n A+y2 1 a:=by
 have h:y1 1 a<256:=(Jd ⟨a,ha⟩).1;unfold y2;rw[SO n A ha,show xC 51 (n+1)=256*xC 51 n+51 from rfl,show xC 51 1=51 from rfl,Yv _ _ zD h zD,YD _ _ h zD,xek];omega
theorem WW:∀n A:Nat,y2 n A%16<=4
 |0,A=>by unfold y2;simp[xC]
 |n+1,A=>by
  have ha:A%256<256:=xbx _ zD;have:=HV n (A/256) ha;rw[xdr]at this;have h:=Jd ⟨A%256,ha⟩;have h3:y2 1 (A%256)%16<=4:=h.2.2.1;rw[this];omega
theorem SN{a:Nat}(n A:Nat)(ha:a<256):y3 (n+1) (256*A+a)=256*y3 n A+cR 8 a:=by
 have h:=Jd ⟨a,ha⟩;have hn:=WW n A;have h2:y2 1 a<256:=h.2.1;have h3:y2 1 a%16<=4:=h.2.2.1;have h4:y2 1 a/16<=4:=h.2.2.2.1;have h5:y3 1 a=cR 8 a:=h.2.2.2.2.1;rw[<-h5];unfold y3;rw[HV n A ha,show xC 15 (n+1)=256*xC 15 n+15 from rfl,show xC 15 1=15 from rfl];generalize y2 n A=B at hn;generalize y2 1 a=b at h2 h3 h4;have hl:16*(B%16)+b/16+b<256:=by omega
 have e:((256*B+b)>>>4)+(256*B+b)=256*((B>>>4)+B)+(16*(B%16)+b/16+b):=by
  rw[xaN,xaN];omega
 rw[e,YD _ _ hl zD];congr 1;rw[show(15:Nat)=2^4-1 from rfl,xb0,xb0,xaN];omega
theorem Kl{a:Nat}(k A:Nat)(ha:a<256):cR (k+8) (256*A+a)=cR k A+cR 8 a:=by
 unfold cR;rw[xcP k 8,List.range_add,List.countP_append,xeE,xcP];congr 1
 ·refine xes λx _=>?_;show(256*A+a).testBit (8+x)=true↔_;rw[ZY ha,xac zO,Nat.add_sub_cancel_left]
 refine xes λx hx=>?_;rw[ZY ha,xae (xaO.1 hx)]
theorem Yy{x:Nat}(hx:x<2^64):∃p0 p1 p2 p3 p4 p5 p6 p7:Nat,(p0<=8/\p1<=8/\p2<=8/\p3<=8/\p4<=8/\p5<=8/\p6<=8/\p7<=8)/\
  y3 8 x=p0+256*(p1+256*(p2+256*(p3+256*(p4+256*(p5+256*(p6+256*p7))))))/\cR 64 x=p0+p1+p2+p3+p4+p5+p6+p7:=by
 have s:∀n k X:Nat,y3 (n+1) X=256*y3 n (X/256)+cR 8 (X%256)/\cR (k+8) X=cR k (X/256)+cR 8 (X%256)/\cR 8 (X%256)<=8:=λn k X=>by
  have ha:X%256<256:=xbx _ zD;have h1:=SN n (X/256) ha;have h2:=Kl k (X/256) ha;rw[xdr]at h1 h2;exact⟨h1,h2,(Jd ⟨X%256,ha⟩).2.2.2.2.2⟩
 obtain⟨a0,b0,c0⟩:=s 7 56 x;obtain⟨a1,b1,c1⟩:=s 6 48 (x/256);obtain⟨a2,b2,c2⟩:=s 5 40 (x/256/256);obtain⟨a3,b3,c3⟩:=s 4 32 (x/256/256/256);obtain⟨a4,b4,c4⟩:=s 3 24 (x/256/256/256/256);obtain⟨a5,b5,c5⟩:=s 2 16 (x/256/256/256/256/256);obtain⟨a6,b6,c6⟩:=s 1 8 (x/256/256/256/256/256/256);obtain⟨a7,b7,c7⟩:=s 0 0 (x/256/256/256/256/256/256/256);have z3:∀X,y3 0 X=0:=λX=>by unfold y3;simp[xC]
 have z0:∀X,cR 0 X=0:=λX=>rfl;rw[z3]at a7;rw[z0]at b7;refine⟨_,_,_,_,_,_,_,_,⟨c0,c1,c2,c3,c4,c5,c6,c7⟩,?_,?_⟩
 ·clear b0 b1 b2 b3 b4 b5 b6 b7;have g0:y3 8 x=256*y3 7 (x/256)+cR 8 (x%256):=a0;have g1:y3 7 (x/256)=256*y3 6 (x/256/256)+cR 8 (x/256%256):=a1;have g2:y3 6 (x/256/256)=256*y3 5 (x/256/256/256)+cR 8 (x/256/256%256):=a2;have g3:y3 5 (x/256/256/256)=256*y3 4 (x/256/256/256/256)+cR 8 (x/256/256/256%256):=a3;have g4:y3 4 (x/256/256/256/256)=256*y3 3 (x/256/256/256/256/256)+cR 8 (x/256/256/256/256%256):=a4;have g5:y3 3 (x/256/256/256/256/256)=256*y3 2 (x/256/256/256/256/256/256)+cR 8 (x/256/256/256/256/256%256):=a5;have g6:y3 2 (x/256/256/256/256/256/256)=256*y3 1 (x/256/256/256/256/256/256/256)+cR 8 (x/256/256/256/256/256/256%256):=a6;have g7:y3 1 (x/256/256/256/256/256/256/256)=256*0+cR 8 (x/256/256/256/256/256/256/256%256):=a7;omega
 clear a0 a1 a2 a3 a4 a5 a6 a7;have d0:cR 64 x=cR 56 (x/256)+cR 8 (x%256):=b0;have d1:cR 56 (x/256)=cR 48 (x/256/256)+cR 8 (x/256%256):=b1;have d2:cR 48 (x/256/256)=cR 40 (x/256/256/256)+cR 8 (x/256/256%256):=b2;have d3:cR 40 (x/256/256/256)=cR 32 (x/256/256/256/256)+cR 8 (x/256/256/256%256):=b3;have d4:cR 32 (x/256/256/256/256)=cR 24 (x/256/256/256/256/256)+cR 8 (x/256/256/256/256%256):=b4;have d5:cR 24 (x/256/256/256/256/256)=cR 16 (x/256/256/256/256/256/256)+cR 8 (x/256/256/256/256/256%256):=b5;have d6:cR 16 (x/256/256/256/256/256/256)=cR 8 (x/256/256/256/256/256/256/256)+cR 8 (x/256/256/256/256/256/256%256):=b6;have d7:cR 8 (x/256/256/256/256/256/256/256)=0+cR 8 (x/256/256/256/256/256/256/256%256):=b7;omega
end aC
set_option maxRecDepth 100000
namespace Go.Proofs
open Go Go.Sx Tryz
open Fm Sw aC
theorem dvq{p d Y X:Nat}(h:p<d)(e:X=p+d*Y):X/d=Y:=by
 rw[e,Nat.add_mul_div_left _ _ (xaE (xaA _) h),xcr h,xa1]
theorem ab0{p0 p1 p2 p3 p4 p5 p6 p7 A:Nat}(hp:p0<=8/\p1<=8/\p2<=8/\p3<=8/\p4<=8/\p5<=8/\p6<=8/\p7<=8)
 (hA:A=p0+256*(p1+256*(p2+256*(p3+256*(p4+256*(p5+256*(p6+256*p7))))))):
  ∃B2 C2,A+A/256=B2/\B2+B2/65536=C2/\A<2000000000000000000/\B2<2000000000000000000/\C2<2000000000000000000/\C2+C2/4294967296<4000000000000000000/\
   (C2+C2/4294967296)%2^7=p0+p1+p2+p3+p4+p5+p6+p7:=by
 have KS:A/256=p1+256*(p2+256*(p3+256*(p4+256*(p5+256*(p6+256*p7))))):=dvq (p:=p0) zO hA;obtain⟨B2,hB⟩:∃B2,A+A/256=B2:=⟨_,rfl⟩;have tA:B2=(p0+p1)+256*((p1+p2)+256*((p2+p3)+256*((p3+p4)+256*((p4+p5)+256*((p5+p6)+256*((p6+p7)+256*p7)))))):=by
  rw[<-hB,KS,hA];clear KS hB hA;omega
 have AB:B2/65536=(p2+p3)+256*((p3+p4)+256*((p4+p5)+256*((p5+p6)+256*((p6+p7)+256*p7)))):=dvq (p:=(p0+p1)+256*(p1+p2)) (by clear hB tA KS hA;omega) (by rw[tA];clear hB tA KS hA;omega);obtain⟨C2,hC⟩:∃C2,B2+B2/65536=C2:=⟨_,rfl⟩;have NI:C2=(p0+p1+p2+p3)+256*((p1+p2+p3+p4)+256*((p2+p3+p4+p5)+256*((p3+p4+p5+p6)+256*((p4+p5+p6+p7)+256*((p5+p6+p7)+256*((p6+p7)+256*p7)))))):=by
  rw[<-hC,AB,tA];clear hC AB tA hB KS hA;omega
 have tu:C2/4294967296=(p4+p5+p6+p7)+256*((p5+p6+p7)+256*((p6+p7)+256*p7)):=dvq (p:=(p0+p1+p2+p3)+256*((p1+p2+p3+p4)+256*((p2+p3+p4+p5)+256*(p3+p4+p5+p6)))) (by clear hC NI AB hB tA KS hA;omega) (by rw[NI];clear hC NI AB hB tA KS hA;omega);refine⟨B2,C2,hB,hC,?_,?_,?_,?_,?_⟩
 ·rw[hA];clear hC NI AB tu hB tA KS hA;omega
 ·rw[tA];clear hC NI AB tu hB tA KS hA;omega
 ·rw[NI];clear hC NI AB tu hB tA KS hA;omega
 ·rw[tu,NI];clear hC NI AB tu hB tA KS hA;omega
 rw[tu,NI];have e:(p0+p1+p2+p3)+256*((p1+p2+p3+p4)+256*((p2+p3+p4+p5)+256*((p3+p4+p5+p6)+256*((p4+p5+p6+p7)+256*((p5+p6+p7)+256*((p6+p7)+256*p7))))))+((p4+p5+p6+p7)+256*((p5+p6+p7)+256*((p6+p7)+256*p7)))=(p0+p1+p2+p3+p4+p5+p6+p7)+2^7*(2*((p1+p2+p3+p4)+256*((p2+p3+p4+p5)+256*((p3+p4+p5+p6)+256*((p4+p5+p6+p7)+256*((p5+p6+p7)+256*((p6+p7)+256*p7))))))+2*((p5+p6+p7)+256*((p6+p7)+256*p7))):=by
  clear hC NI AB tu hB tA KS hA;omega
 rw[e,Nat.add_mul_mod_self_left,xa5 (by clear e hC NI AB tu hB tA KS hA;omega)]
theorem TQ{x:Nat}(hx:x<18446744073709551616)(B:Hp):Rd zQ 22 #[.int .u64 (x:Int)] B (· =nI (cR 64 x)):=by
 obtain⟨p0,p1,p2,p3,p4,p5,p6,p7,hp,h3,hs⟩:=Yy (x:=x) hx;have m85:xC 85 8=6148914691236517205:=by decide
 have m51:xC 51 8=3689348814741910323:=by decide
 have m15:xC 15 8=1085102592571150095:=by decide
 have e1:((x>>>1) &&&6148914691236517205)+(x&&&6148914691236517205)=y1 8 x:=by unfold y1;rw[m85]
 have e2:((y1 8 x>>>2) &&&3689348814741910323)+(y1 8 x&&&3689348814741910323)=y2 8 x:=by unfold y2;rw[m51]
 have e3:((y2 8 x>>>4)+y2 8 x) &&&1085102592571150095=y3 8 x:=by unfold y3;rw[m15]
 have l1:(x>>>1) &&&6148914691236517205<=6148914691236517205:=xb3;have l2:x&&&6148914691236517205<=6148914691236517205:=xb3;have k1:(y1 8 x>>>2) &&&3689348814741910323<=3689348814741910323:=xb3;have k2:y1 8 x&&&3689348814741910323<=3689348814741910323:=xb3;have Y6:y1 8 x<18446744073709551616:=by rw[<-e1];omega
 have hy2:y2 8 x<9223372036854775808:=by rw[<-e2];omega
 have h4:y2 8 x>>>4<=y2 8 x/16:=Nat.le_of_eq (xaN _ 4);have s1:x>>>1<=x:=xbC x 1;have s2:y1 8 x>>>2<=y1 8 x:=xbC _ 2;have L:aS .u64=18446744073709551616:=rfl;have L2:aS .i64=9223372036854775808:=rfl;refine aK λg=>M4 (ae.e9 (by rw[L];exact hx) (ae.fm (b:=6148914691236517205) (xaE s1 (by rw[L];exact hx)) zD (ae.fm (b:=6148914691236517205) (by rw[L];exact hx) zD (ae.dX (by rw[L,e1];exact Y6) ?_))));rw[e1];refine ae.e9 (by rw[L];exact Y6) (ae.fm (b:=3689348814741910323) (xaE s2 (by rw[L];exact Y6)) zD (ae.fm (b:=3689348814741910323) (by rw[L];exact Y6) zD (ae.dX (by rw[L,e2];exact Nat.lt_trans hy2 zD) ?_)));rw[e2];have hy4:(y2 8 x>>>4)+y2 8 x<18446744073709551616:=by clear e1 e2 e3 l1 l2 k1 k2 Y6 h3 s1 s2;omega
 refine ae.e9 (by rw[L];exact Nat.lt_trans hy2 zD) (ae.dX (by rw[L];exact hy4) (ae.fm (b:=1085102592571150095) (by rw[L];exact hy4) zD ?_));rw[e3,h3];obtain⟨A,hA⟩:∃A,A=p0+256*(p1+256*(p2+256*(p3+256*(p4+256*(p5+256*(p6+256*p7)))))):=⟨_,rfl⟩;rw[<-hA];obtain⟨B2,C2,hB,hC,b1,b2,b3,b4,hR⟩:=ab0 hp hA;clear hA h3 e1 e2 e3 l1 l2 k1 k2 Y6 hy2 h4 s1 m85 m51 m15;have a8:A>>>8=A/256:=xaN _ 8;have lY:B2>>>16=B2/65536:=xaN _ 16;have Ve:C2>>>32=C2/4294967296:=xaN _ 32;refine ae.e9 (by clear a8 lY Ve hR hB hC;omega) ?_;rw[a8];refine ae.dX (by rw[hB];clear a8 lY Ve hR hB hC;omega) ?_;rw[hB];refine ae.e9 (by clear a8 lY Ve hR hB hC;omega) ?_;rw[lY];refine ae.dX (by rw[hC];clear a8 lY Ve hR hB hC;omega) ?_;rw[hC];refine ae.e9 (by clear a8 lY Ve hR hB hC;omega) ?_;rw[Ve];refine ae.dX (by clear a8 lY Ve hR hB hC;omega) (aH.nat (by clear a8 lY Ve hR hB hC;omega) (ae.fm (b:=127) (by clear a8 lY Ve hR hB hC;omega) zD (bD.mk (.refl _) ?_)));rw[show(127:Nat)=2^7-1 from rfl,xb0,hs,hR]
theorem O0{n:Nat}{ws:zL}(hlen:ws.length=2^n/64){i w:Nat}(hw:ws[i]? =some w):(List.range (64*(i+1))).countP (fB n ws)=(List.range (64*i)).countP (fB n ws)+cR 64 w:=by
 rw[show 64*(i+1)=64*i+64 by omega,List.range_add,List.countP_append,xeE];congr 1;unfold cR;refine xes λx hx=>?_;have hx:x<64:=xaO.1 hx;have hi:i<2^n/64:=hlen▸(xah.1 hw).1;have:fB n ws (64*i+x)=w.testBit x:=by
  unfold fB ak.bit;have h2:64*(2^n/64)<=2^n:=Nat.mul_div_le _ _;rw[xa5 (show 64*i+x<2^n by omega),show(64*i+x) /64=i by omega,show(64*i+x)%64=x by omega,xan,hw];rfl
 show fB n ws (64*i+x)=true↔_;rw[this]
theorem JR{n:Nat}(hn:6<=n/\n<=16){v:zV}{f:aC.Fn}{B:Hp}(hT:dM B v n f):Rd zQ 7 #[v] B (· =.tuple #[.int .u64 ((sat n f:Nat):Int),nI 0]):=by
 obtain⟨ws,⟨s,rfl,hw⟩,hf,rfl⟩:=hT;obtain⟨m,hnm⟩:=Nat.exists_eq_add_of_le hn.1;have hp:2^n=64*2^m:=by rw[hnm];exact xdf 2 6 m
 have hm:2^m<=2^10:=xat zD zO;have h1m:1<=2^m:=xb2;have hlen:ws.length=2^n/64:=by
  rw[hf.len];unfold ak.wN;omega
 have mT:ws.length=2^m:=by rw[hlen,hp];omega
 refine aK λg=>Sd λb1 _=>ax.whole (r:=[nI n,s]) (.head _) rfl ?_;refine kF λb4=>?_;refine aa.rd .here (jh (t:=⟨((n:Nat):Int),ws⟩) (.head _) (hw.mono zS)) ?_;rintro _ rfl;rw[xau (show TF ⟨((n:Nat):Int),ws⟩from⟨by simp,by simpa using hf⟩)];refine Un.not (Br.no (Ld.u (v:=s) (.tail _ (.head _)) ?_));refine hw.1.bE ?_;rw[an];refine⟨λvs H=>∃i,vs=[nI ((List.range (64*i)).countP (fB n ws)),nI i]/\i<=ws.length/\H=(b4,.cells [nI n,s].toArray 30 zZ)::(b1,.cells (Value.cells (.agg #[nI n,s])) 30 zZ)::B,λvs _=>ws.length-bA vs 1,JE.mk ⟨0,rfl,xaA _,rfl⟩,?_⟩;rintro w16 w17 H ⟨i,⟨⟩,hi,rfl⟩ gs;have hle:∀k,(List.range (64*k)).countP (fB n ws)<=64*k:=λk=>by
  have:=List.countP_le_length (p:=fB n ws) (l:=List.range (64*k));rwa [xaK]at this
 refine ae.cX (Br.dec (λh=>?_) (λh=>?_))
 ·have h:i<ws.length:=h;obtain⟨w,hx⟩:∃w,ws[i]? =some w:=⟨_,xab h⟩;have hst:=O0 hlen hx;have h2:=hle (i+1);refine hw.1.ld (n:=(w:Int)) (i:=i) (cr hx) (λy hy=>.tail _ (.tail _ hy)) (aa.eq (TQ (hw.2 w (xay hx)) _) ?_);have hb:(List.range (64*i)).countP (fB n ws)+cR 64 w<9223372036854775808:=by rw[<-hst];exact xaE h2 zO
  refine ae.dX hb (ae.inc (az.of (.refl _) ⟨i+1,by rw[hst],h,rfl⟩ (by simp only[bA];omega)) (show i+1<9223372036854775808 by omega))
 have h:¬i<ws.length:=h;have:i=ws.length:=by omega
 subst this;have h2:=hle ws.length;have hb:(List.range (64*ws.length)).countP (fB n ws)<18446744073709551616:=by omega
 refine aH.nat (by simpa only[aS]using hb) (bD.mk (.skip .tail) ?_);unfold sat;rw[hp,<-mT];rfl
end Go.Proofs
namespace aC
def Rm.Dn(m:Rm)(g:Nat)(ord:zL)(p:Nat)(dn:Bool):Nat->Nat->Nat->Nat->Nat×Nat×Nat
 |0,j,b,q=>(j,b,q)
 |k+1,j,b,q=>
  if m.fit (aJ ord (road p j)) (bif dn then j else j-1)=true then
   if(if m.size (aJ ord (road p (bif dn then j+1 else j-1)))<b then m.size (aJ ord (road p (bif dn then j+1 else j-1)))else b)*g<m.size (aJ ord (road p (bif dn then j+1 else j-1)))*100 then
    (bif dn then j+1 else j-1,if m.size (aJ ord (road p (bif dn then j+1 else j-1)))<b then m.size (aJ ord (road p (bif dn then j+1 else j-1)))else b,if m.size (aJ ord (road p (bif dn then j+1 else j-1)))<b then(bif dn then j+1 else j-1)else q)
   else m.Dn g ord p dn k (bif dn then j+1 else j-1) (if m.size (aJ ord (road p (bif dn then j+1 else j-1)))<b then m.size (aJ ord (road p (bif dn then j+1 else j-1)))else b) (if m.size (aJ ord (road p (bif dn then j+1 else j-1)))<b then(bif dn then j+1 else j-1)else q)
  else(j,b,q)
def dst(x y:Nat):Nat:=(x-y)+(y-x)
def Rm.rest(m:Rm)(dn:Bool)(j:Nat):Nat:=bif dn then m.n-1-j else j
def Rm.sQ(m:Rm)(g:Nat)(ord:zL)(p:Nat):Nat×Nat:=
 let dn:=decide (m.n-1-p<=p)
 let a:=m.Dn g ord p dn (m.rest dn p) p (m.size ord) p
 let b:=m.Dn g ord p (!dn) (m.rest (!dn) p) p a.2.1 a.2.2
 (b.2.2,dst a.1 p+dst a.1 p+dst b.1 p+if b.2.2≠a.2.2 then dst b.1 b.2.2 else dst b.1 p+dst p b.2.2)
def Rm.eA(m:Rm)(g:Nat)(ord:zL):zL->zL×Nat
 | []=>([],0)
 |v::r=>let p:=ord.idxOf v;let a:=m.sQ g ord p;let b:=m.eA g (aJ ord (road p a.1)) r;(road p a.1++b.1,a.2+b.2)
structure acu(m:Rm)(ord:zL)(p:Nat)(dn:Bool)(k j b q:Nat)(r:Nat×Nat×Nat):Prop where
 way:bif dn then j<=r.1/\r.1<=j+k else r.1<=j/\j<=r.1+k
 size:r.2.1=m.size (aJ ord (road p r.2.2))
 new:(r.2.1=b/\r.2.2=q)\/(r.2.1<b/\bif dn then j<r.2.2/\r.2.2<=r.1 else r.1<=r.2.2/\r.2.2<j)
 fit:∀i,(bif dn then j<=i/\i<r.1 else r.1<i/\i<=j)->m.fit (aJ ord (road p i)) (bif dn then i else i-1)=true
theorem Rm.uK(m:Rm)(g:Nat)(ord:zL)(p:Nat)(dn:Bool):∀k j b q,(dn=false->k<=j)->b=m.size (aJ ord (road p q))->acu m ord p dn k j b q (m.Dn g ord p dn k j b q)
 |0,j,b,q,hk,hb=>⟨by cases dn<;>simp[Dn],hb,.inl ⟨rfl,rfl⟩,λi hi=>by cases dn<;>simp[Dn]at hi<;>omega⟩
 |k+1,j,b,q,hk,hb=>by
  rw[Dn];by_cases hf:m.fit (aJ ord (road p j)) (bif dn then j else j-1)=true
  ·rw[xae hf];obtain⟨J,hJ⟩:∃J,J=bif dn then j+1 else j-1:=⟨_,rfl⟩;rw[<-hJ];obtain⟨s,hs⟩:∃s,s=m.size (aJ ord (road p J)):=⟨_,rfl⟩;rw[<-hs];obtain⟨B,hB⟩:∃B,B=if s<b then s else b:=⟨_,rfl⟩
   obtain⟨Q,hQ⟩:∃Q,Q=if s<b then J else q:=⟨_,rfl⟩
   rw[<-hB,<-hQ];have hbq:(B=b/\Q=q)\/(B<b/\Q=J):=by
    by_cases h:s<b
    ·rw[xae h]at hB hQ;exact .inr ⟨by omega,hQ⟩
    rw[xac h]at hB hQ;exact .inl ⟨hB,hQ⟩
   have hb':B=m.size (aJ ord (road p Q)):=by
    by_cases h:s<b
    ·rw[xae h]at hB hQ;rw[hB,hQ,hs]
    rw[xac h]at hB hQ;rw[hB,hQ,hb]
   clear hB hQ;by_cases hg:B*g<s*100
   ·rw[xae hg];refine⟨?_,hb',?_,λi hi=>?_⟩
    ·cases dn
     ·simp only[xaj]at hJ⊢;have:=hk rfl;omega
     simp only[xao]at hJ⊢;omega
    ·cases dn
     ·simp only[xaj]at hJ⊢;have:=hk rfl;omega
     simp only[xao]at hJ⊢;omega
    have:i=j:=by
     cases dn
     ·simp only[xaj]at hi hJ;omega
     simp only[xao]at hi hJ;omega
    subst this;exact hf
   rw[xac hg];have ih:=m.uK g ord p dn k J B Q (λh=>by subst h;have:=hk rfl;simp only[xaj]at hJ;omega) hb';obtain⟨w1,w2,w3,w4⟩:=ih;refine⟨?_,w2,?_,λi hi=>?_⟩
   ·cases dn
    ·simp only[xaj]at w1 hJ⊢;have:=hk rfl;omega
    simp only[xao]at w1 hJ⊢;omega
   ·cases dn
    ·simp only[xaj]at w3 w1 hJ⊢;have:=hk rfl;omega
    simp only[xao]at w3 w1 hJ⊢;omega
   by_cases e:i=j
   ·subst e;exact hf
   refine w4 i ?_;cases dn
   ·simp only[xaj]at hi hJ⊢;omega
   simp only[xao]at hi hJ⊢;omega
  rw[xac hf];exact⟨by cases dn<;>simp,hb,.inl ⟨rfl,rfl⟩,λi hi=>by cases dn<;>simp at hi<;>omega⟩
structure acm(m:Rm)(ord:zL)(p:Nat)(r:Nat×Nat):Prop where
 lt:r.1<m.n
 le:m.size (aJ ord (road p r.1))<=m.size ord
 stay:m.size (aJ ord (road p r.1))=m.size ord->r.1=p
 Oo:r.2<=3*(m.n-1)
theorem Rm.y8(m:Rm)(g:Nat){ord:zL}{p:Nat}(hp:p<m.n):acm m ord p (m.sQ g ord p):=by
 have ha:=m.uK g ord p (decide (m.n-1-p<=p)) (m.rest (decide (m.n-1-p<=p)) p) p (m.size ord) p (λh=>by unfold Rm.rest;rw[h];exact xal _) (by rw[fN];rfl);unfold sQ;simp only;generalize decide (m.n-1-p<=p)=dn at*;generalize m.Dn g ord p dn (m.rest dn p) p (m.size ord) p=a at*;have hb:=m.uK g ord p (!dn) (m.rest (!dn) p) p a.2.1 a.2.2 (λh=>by unfold Rm.rest;rw[h];exact xal _) ha.size;generalize m.Dn g ord p (!dn) (m.rest (!dn) p) p a.2.1 a.2.2=b at*;obtain⟨a1,a2,a3,a4⟩:=ha;obtain⟨b1,b2,b3,b4⟩:=hb;unfold Rm.rest at a1 b1;refine⟨?_,?_,λh=>?_,?_⟩
 ·cases dn<;>simp only[xaj,xao,xcI,xda]at a1 b1 a3 b3<;>simp only<;>omega
 ·simp only;rw[<-b2];cases dn<;>simp only[xaj,xao,xcI,xda]at a1 b1 a3 b3<;>omega
 ·simp only at h⊢;rw[<-b2]at h;cases dn<;>simp only[xaj,xao,xcI,xda]at a1 b1 a3 b3<;>omega
 unfold dst;cases dn<;>simp only[xaj,xao,xcI,xda]at a1 b1 a3 b3<;>simp only<;>split<;>omega
end aC
namespace aC
section
variable {m:Rm} {g:Nat}
theorem Iq{p q:Nat}(hp:p<m.n)(hq:q<m.n):∀x∈road p q,x+1<m.n:=λx hx=>OR hp hq hx
theorem ry{ord:zL}{v n:Nat}(hp:ord.Perm (List.range n))(hv:v<n):ord.idxOf v<n:=by
 have h1:v∈ord:=hp.mem_iff.2 (xaO.2 hv);have h2:=xem h1;rwa [hp.length_eq,xaK]at h2
theorem yY{ord path:zL}{n:Nat}(hp:ord.Perm (List.range n))(h:∀x∈path,x+1<n):(aJ ord path).Perm (List.range n):=
 (jX λx hx=>by rw[hp.length_eq,xaK];exact h x hx).trans hp
structure YF(m:Rm)(g:Nat)(ord l:zL)(r:zL×Nat):Prop where
 mem:∀x∈r.1,x+1<m.n
 le:m.size (aJ ord r.1)<=m.size ord
 stay:m.size (aJ ord r.1)=m.size ord->r.1=[]/\∀v∈l,(m.sQ g ord (ord.idxOf v)).1=ord.idxOf v
 Oo:r.2<=3*(m.n-1)*l.length
 len:r.1.length<=m.n*l.length
theorem y7:∀{l ord:zL},ord.Perm (List.range m.n)->(∀v∈l,v<m.n)->YF m g ord l (m.eA g ord l)
 | [],ord,hp,hl=>⟨by simp[Rm.eA],xal _,λ_=>⟨rfl,by simp⟩,by simp[Rm.eA],by simp[Rm.eA]⟩
 |v::l,ord,hp,hl=>by
  have hv:=ry hp (hl v zI);have h1:=m.y8 g (ord:=ord) hv;rw[Rm.eA];generalize hq:ord.idxOf v=p at*;generalize hr:m.sQ g ord p=a at*;obtain⟨a1,a2,a3,a4⟩:=h1;have hin:=Iq hv a1;have h2:=y7 (l:=l) (ord:=aJ ord (road p a.1)) (yY hp hin) (λx hx=>hl x (by simp[hx]));generalize m.eA g (aJ ord (road p a.1)) l=b at*;obtain⟨b1,b2,b3,b4,b5⟩:=h2;have Nu:=uj p a.1;refine⟨λx hx=>?_,?_,λh=>?_,?_,?_⟩
  ·rcases xaq.1 hx with h|h
   ·exact hin x h
   exact b1 x h
  ·rw[jY];omega
  ·rw[jY]at h;have e:=a3 zO;rw[e,fN]at b3 h⊢;obtain⟨c1,c2⟩:=b3 h;refine⟨by rw[c1];rfl,λu hu=>?_⟩;rcases xag.1 hu with rfl|hu
   ·rw[hq,hr];exact e
   exact c2 u hu
  ·rw[xak,xek,xcc];show a.2+b.2<=_;omega
  rw[xaf,xak,xek,xcc];omega
theorem xx{v:Nat}:∀{l ord:zL},m.eA g ord (l++[v])=((m.eA g ord l).1++road ((aJ ord (m.eA g ord l).1).idxOf v) (m.sQ g (aJ ord (m.eA g ord l).1) ((aJ ord (m.eA g ord l).1).idxOf v)).1,(m.eA g ord l).2+(m.sQ g (aJ ord (m.eA g ord l).1) ((aJ ord (m.eA g ord l).1).idxOf v)).2)
 | [],ord=>by simp[Rm.eA,aJ]
 |u::l,ord=>by
  rw[xaS,Rm.eA,Rm.eA];simp only;rw[xx (l:=l)];simp only[jY,xai,xdB]
end
end aC
set_option maxRecDepth 100000
namespace Go.Proofs
open Go Go.Sx Tryz
section
open aC
def gv(kp a b q gr sw:Nat)(la:Int)(st:zV):Array zV:=#[ptr kp,iv (a:Int),iv (b:Int),iv (q:Int),iv (gr:Int),iv (sw:Int),iv la,st]
def eM(wp:Nat)(c:Array zV):Nat×Obj:=(wp,.cells c 350 zZ)
def oE(bx wp:Nat):Nat×Obj:=(bx,.cells #[ptr wp] 347 zZ)
def YW(dn:Bool):Nat:=bif dn then 293 else 295
def Az(dn:Bool)(bx:Nat):zV:=.func (.func (YW dn)) #[] #[ptr bx]
def Dh:Hp->Nat
 |(_,.cells c _ _)::_=>bA c.toList 1
 |_=>0
section
variable {kp wp bx a b q gr sw p:Nat} {la:Int} {st:zV} {K:Kd} {S:Nat->aC.Fn} {ord o tr:zL} {C:Hp} {dn:Bool}
theorem Ol{l a':Nat}{d:Int}(h:At kp K S ord tr C)(hl:l+1<K.n)(iy:tr.length<17592186044416)(hf:kg K S ord l)(ha:(a:Int)+d=(a':Int))(hb:a'<1024)(AA:sw<4611686018427387904):
  Fc zQ 294 #[ptr wp,iv (l:Int),iv d] (eM wp (gv kp a b q gr sw la st)::C) (λv H=>v=iv 0/\∃C',H=eM wp (gv kp a' b q gr (sw+1) la st)::C'/\At kp K S (fT ord l) (tr++[l]) C'):=by
 refine aK λg=>vV (Ld.n ?_);refine aa.fq (Jl h hl iy hf) ?_;rintro v C' ⟨rfl,h'⟩;intro J6 h6;refine ae.lT (Br.T (Ld.n ?_));refine ae.inc (Nil.ptr (af.mk (St.one (c':=gv kp a b q gr (sw+1) la st) (by exact .head _) rfl (by simp[gv]) rfl ?_)));refine Ld.n ?_;refine ae.CY (c:=(a':Int)) ha zO (Nil.ptr (af.mk (St.one (c':=gv kp a' b q gr (sw+1) la st) (by exact .head _) rfl (by simp[gv]) rfl ?_)));exact JE.mk (h6 _ λgs=>aQ.here ⟨rfl,C',rfl,h'⟩)
theorem VG{l:Nat}{d:Int}(h:At kp K S ord tr C)(hl:l+1<K.n)(iy:tr.length<17592186044416)(hf:¬kg K S ord l):
  Rd zQ 294 #[ptr wp,iv (l:Int),iv d] (eM wp (gv kp a b q gr sw la st)::C) (· =iv 9):=by
 refine aK λg=>vV (Ld.n ?_);refine aa.eq (vD h hl iy hf) λJ6 h6=>?_;exact ae.lT (Br.F (JE.mk (h6 _ λgs=>bD.mk (.refl _) rfl)))
theorem qT(h:At kp K S ord tr C)(Ds:1<=K.n):
  Fc zQ 265 #[ptr wp,.bool dn] (eM wp (gv kp a b q gr sw la st)::C) (λv H=>v=.tuple #[]/\∃bx,H=eM wp (gv kp a b q gr sw (bif dn then((K.n-1:Nat):Int)else 0) (Az dn bx))::oE bx wp::C):=by
 have hn:=h.sU;refine aK λg=>FM λb1 _=>?_;cases dn
 ·refine Br.no (Ld.q ?_);refine Nil.ptr (af.mk (St.one (c':=gv kp a b q gr sw 0 st) (by exact .tail (.head _)) rfl (by simp[gv]) rfl ?_));refine Ld.q ?_;refine Nil.ptr (af.mk (St.one (c':=gv kp a b q gr sw 0 (Az false b1)) (by exact .tail (.head _)) rfl (by simp[gv]) rfl ?_));exact aQ.mk .swap ⟨rfl,b1,rfl⟩
 refine Br.yes (DR.self (Ld.q ?_));refine Ld.q ?_;refine Ld.n ?_;intro F;refine aa.eq (nU h) (⟨.refl _,?_⟩);refine ae.cc (b:=1) (Nil.ptr (af.mk λF=>(St.one (c':=gv kp a b q gr sw ((K.n-1:Nat):Int) st) (by exact .tail (.head _)) rfl (by simp[gv]) rfl ?_)));refine Ld.q ?_;refine Nil.ptr (af.mk (St.one (c':=gv kp a b q gr sw ((K.n-1:Nat):Int) (Az true b1)) (by exact .tail (.head _)) rfl (by simp[gv]) rfl ?_));exact aQ.mk .swap ⟨rfl,b1,rfl⟩
def kW(dn:Bool)(j:Nat):Nat:=bif dn then j+1 else j-1
def Xa(dn:Bool)(j:Nat):Nat:=bif dn then j else j-1
theorem OQ{j:Nat}(hs:bif dn then p<=j else 0<j/\j<=p):road p (kW dn j)=road p j++[Xa dn j]:=by
 cases dn
 ·simp only[xaj]at hs;obtain⟨i,rfl⟩:∃i,j=i+1:=⟨j-1,by omega⟩;exact q6 hs.2
 exact q5 hs
theorem AV{j:Nat}(h:At kp K S (aJ o (road p j)) (tr++road p j) C)(hp:p<K.n)(hs:bif dn then p<=j/\j+1<K.n else 0<j/\j<=p)(iy:(tr++road p j).length<17592186044416)(hf:kg K S (aJ o (road p j)) (Xa dn j))(AA:sw<4611686018427387904):
  Fc zQ (YW dn) #[ptr bx] (eM wp (gv kp j b q gr sw la st)::oE bx wp::C) (λv H=>v=iv 0/\∃C',H=eM wp (gv kp (kW dn j) b q gr (sw+1) la st)::oE bx wp::C'/\At kp K S (aJ o (road p (kW dn j))) (tr++road p (kW dn j)) C'):=by
 have hn:=h.sU;have hr:=OQ (p:=p) (dn:=dn) (j:=j) (by cases dn<;>simp only[xaj,xao]at hs⊢ <;>omega);intro g;rw[hr,iL,<-xai];cases dn
 ·simp only[xaj]at hs;refine vU (R:=aQ _) ?_;unfold L295;refine DR.self (Ld.q ?_);refine Ld.q ?_;refine Ld.n ?_;refine ae.cc (b:=1) λF=>?_;refine aa.pre .swap ?_;refine aa.fn (.cons .here) (Ol (a':=j-1) h zO iy hf zO zO AA) ?_;rintro v H ⟨rfl,C',rfl,h'⟩;exact aQ.mk .swap ⟨rfl,C',rfl,h'⟩
 simp only[xao]at hs;refine vW (R:=aQ _) ?_;unfold L293;refine DR.self (Ld.q ?_);refine Ld.q ?_;refine Ld.n ?_;intro F;refine aa.pre .swap ?_;refine aa.fn (.cons .here) (Ol (a':=j+1) h zO iy hf zO zO AA) ?_;rintro v H ⟨rfl,C',rfl,h'⟩;exact aQ.mk .swap ⟨rfl,C',rfl,h'⟩
theorem Tk{j:Nat}(h:At kp K S ord tr C)(hs:bif dn then j+1<K.n else 0<j/\j<K.n)(iy:tr.length<17592186044416)(hf:¬kg K S ord (Xa dn j)):
  Rd zQ (YW dn) #[ptr bx] (eM wp (gv kp j b q gr sw la st)::oE bx wp::C) (· =iv 9):=by
 have hn:=h.sU;intro g;cases dn
 ·simp only[xaj]at hs;refine vU (R:=aQ _) ?_;unfold L295;refine DR.self (Ld.q ?_);refine Ld.q ?_;refine Ld.n ?_;refine ae.cc (b:=1) λF=>?_;refine aa.pre .swap ?_;exact aa.eq (VG h zO iy hf) (bD.mk .swap rfl)
 simp only[xao]at hs;refine vW (R:=aQ _) ?_;unfold L293;refine DR.self (Ld.q ?_);refine Ld.q ?_;refine Ld.n ?_;intro F;refine aa.pre .swap ?_;exact aa.eq (VG h zO iy hf) (bD.mk .swap rfl)
theorem AU(dn:Bool):bR zQ (YW dn)=true:=by cases dn<;>kernel_rfl
theorem oS{n j:Nat}(hn:n<=64)(hp:p<n)(hj:j<n):(road p j).length<=64:=by rw[uj];omega
theorem OM(h0:At kp K S o tr C)(hp:p<K.n)(nN:100<=gr/\gr<=1000)(hb:b<=1048576)(AA:sw<1099511627776)(iy:tr.length<17454747090944)(hla:la=bif dn then((K.n-1:Nat):Int)else 0){r:Nat×Nat×Nat}(hr:(rm K S).Dn gr o p dn ((rm K S).rest dn p) p b q=r):
  Fc zQ 266 #[ptr wp] (eM wp (gv kp p b q gr sw la (Az dn bx))::oE bx wp::C) (λv H=>v=.tuple #[]/\∃C',H=eM wp (gv kp r.1 r.2.1 r.2.2 gr (sw+dst r.1 p) la (Az dn bx))::oE bx wp::C'/\At kp K S (aJ o (road p r.1)) (tr++road p r.1) C'):=by
 have hn:=h0.sU;refine aK λg=>FL ?_;refine⟨λvs H=>∃(k j b' q':Nat) (C':Hp),vs=[]/\H=eM wp (gv kp j b' q' gr (sw+dst j p) la (Az dn bx))::oE bx wp::C'/\At kp K S (aJ o (road p j)) (tr++road p j) C'/\k=(rm K S).rest dn j/\(bif dn then p<=j/\j<K.n else j<=p)/\b'<=1048576/\(rm K S).Dn gr o p dn k j b' q'=r,
  λ_ H=>bif dn then K.n-Dh H else Dh H,JE.mk ⟨_,p,b,q,C,rfl,by simp[dst],by rw[fN,xaH];exact h0,rfl,by cases dn<;>simp[hp],hb,hr⟩,?_⟩
 rintro H ⟨k,j,b',q',C',_,rfl,hA,hk,hs,hb',s8⟩ gs;have Sz:j<K.n:=by cases dn<;>simp only[xaj,xao]at hs<;>omega
 have EA:dst j p<=64:=by unfold dst;omega
 have Nu:=oS hn hp Sz;have PT:(tr++road p j).length<17592186044416:=by rw[xaf];omega
 have xY:(rm K S).n=K.n:=rfl;have hsz:∀o:zL,(rm K S).size o=ff K S o:=λ_=>rfl;intro J5 h5;have fin:r=(j,b',q')->J5 [.bool false] (eM wp (gv kp j b' q' gr (sw+dst j p) la (Az dn bx))::oE bx wp::C'):=λe=>h5 _ _ λgs=>Br.no (aQ.here ⟨rfl,C',by rw[e],by rw[e];exact hA⟩);refine DR.self (Ld.n ?_);refine Ld.n ?_;refine ae.ic (Br.dec (λhne=>?_) (λheq=>?_));rotate_left
 ·have XX:k=0:=by
   rw[hk];unfold Rm.rest;cases dn<;>simp only[xaj,xao]at hla⊢ <;>omega
  subst XX;exact JE.mk (fin s8.symm)
 have uQ:bif dn then j+1<K.n else 0<j:=by
  cases dn<;>simp only[xaj,xao]at hla⊢ <;>omega
 obtain⟨k',hk'⟩:∃k',k=k'+1:=by
  refine⟨k-1,?_⟩;rw[hk];unfold Rm.rest;cases dn<;>simp only[xaj,xao]at uQ⊢ <;>omega
 subst hk';rw[Rm.Dn]at s8;change (if(rm K S).fit (aJ o (road p j)) (Xa dn j)=true then _ else _)=r at s8;refine Ld.n ?_;intro F;refine bK.of (f:=YW dn) rfl (AU dn) ?_;by_cases hf:kg K S (aJ o (road p j)) (Xa dn j);rotate_left
 ·refine aa.eq (args:=#[ptr bx]) (Tk hA (by cases dn<;>simp only[xaj,xao]at uQ⊢ <;>omega) PT hf) (ae.lT (aI.mk ?_));rw[xac (λh=>hf (uk.1 h))]at s8;exact JE.mk (fin s8.symm)
 refine aa.fn (args:=#[ptr bx]) .here (AV hA hp (by cases dn<;>simp only[xaj,xao]at uQ hs⊢ <;>omega) PT hf zO) ?_;rintro v H ⟨rfl,C2,rfl,uU⟩;refine ae.lT (aI.mk ?_);rw[xae (show(rm K S).fit (aJ o (road p j)) (Xa dn j)=true from uk.2 hf)]at s8;change (if(if(rm K S).size (aJ o (road p (kW dn j)))<b' then(rm K S).size (aJ o (road p (kW dn j)))else b')*gr<(rm K S).size (aJ o (road p (kW dn j)))*100 then(kW dn j,if(rm K S).size (aJ o (road p (kW dn j)))<b' then(rm K S).size (aJ o (road p (kW dn j)))else b',if(rm K S).size (aJ o (road p (kW dn j)))<b' then kW dn j else q')else(rm K S).Dn gr o p dn k' (kW dn j) (if(rm K S).size (aJ o (road p (kW dn j)))<b' then(rm K S).size (aJ o (road p (kW dn j)))else b') (if(rm K S).size (aJ o (road p (kW dn j)))<b' then kW dn j else q'))=r at s8;have hle:=vC uU;rw[hsz]at s8;have aem:sw+dst j p+1=sw+dst (kW dn j) p:=by unfold dst kW;cases dn<;>simp only[xaj,xao]at uQ hs⊢ <;>omega
 rw[aem];have hnk:k'=(rm K S).rest dn (kW dn j):=by
  unfold Rm.rest at hk⊢;unfold kW;cases dn<;>simp only[xaj,xao]at uQ hk⊢ <;>omega
 have hns:bif dn then p<=kW dn j/\kW dn j<K.n else kW dn j<=p:=by
  unfold kW;cases dn<;>simp only[xaj,xao]at uQ hs⊢ <;>omega
 have hms:(bif dn then K.n-kW dn j else kW dn j)<(bif dn then K.n-j else j):=by
  unfold kW;cases dn<;>simp only[xaj,xao]at uQ⊢ <;>omega
 generalize hj':kW dn j=j' at*;generalize hs':ff K S (aJ o (road p j'))=s at*;have aaY:∀b2 q2,Dh (eM wp (gv kp j b' q' gr (sw+dst j p) la (Az dn bx))::oE bx wp::C')=j/\∀C2,Dh (eM wp (gv kp j' b2 q2 gr (sw+dst j' p) la (Az dn bx))::oE bx wp::C2)=j':=λb2 q2=>⟨by simp[Dh,eM,gv,bA],λC2=>by simp[Dh,eM,gv,bA]⟩;refine JE.mk (h5 _ _ λgs=>Br.yes ?_);refine Ld.n ?_;refine aa.eq (jL uU) ?_;rw[hs'];intro J14 Yn;have next:∀b2 q2,b2<=1048576->(if b2*gr<s*100 then(j',b2,q2)else(rm K S).Dn gr o p dn k' j' b2 q2)=r->J14 [] (eM wp (gv kp j' b2 q2 gr (sw+dst j' p) la (Az dn bx))::oE bx wp::C2):=by
  intro b2 q2 X8 mT;refine Yn _ λgs=>?_;have AD:b2*gr<=1048576*1000:=xcJ X8 nN.2;refine ae.wL (b:=100) (Ld.n ?_);refine Ld.n ?_;refine ae.wL (ae.gW (Br.dec (λhgt=>?_) (λhgt=>?_)))
  ·rw[xae hgt]at mT;subst mT;exact aQ.here ⟨rfl,C2,rfl,uU⟩
  rw[xac hgt]at mT;refine az.mk ⟨k',j',b2,q2,C2,rfl,rfl,uU,hnk,hns,X8,mT⟩ ?_;rw[(aaY b2 q2).1,(aaY b2 q2).2];exact hms
 refine Ld.n ?_;refine ae.cX (Br.dec (λhlt=>?_) (λhlt=>?_))
 ·rw[xae hlt,xae hlt]at s8;refine Ld.n ?_;refine Nil.ptr (af.mk (St.one (c':=gv kp j' s q' gr (sw+dst j' p) la (Az dn bx)) (by exact .head _) rfl (by simp[gv]) rfl ?_));refine Nil.ptr (af.mk (St.one (c':=gv kp j' s j' gr (sw+dst j' p) la (Az dn bx)) (by exact .head _) rfl (by simp[gv]) rfl ?_));exact JE.mk (next _ _ zO s8)
 rw[xac hlt,xac hlt]at s8;exact JE.mk (next _ _ hb' s8)
theorem yU{j t:Nat}(h:At kp K S (aJ o (road p j)) (tr++road p j) C)(xZ:o.length=K.n)(hp:p<K.n)(hjt:(p<=t/\t<=j/\j<K.n)\/(j<=t/\t<=p))(AA:sw<17592186044416)(iy:tr.length<17454747090944):
  Fc zQ 267 #[ptr wp,iv (t:Int)] (eM wp (gv kp j b q gr sw la st)::C) (λv H=>v=.tuple #[]/\∃C',H=eM wp (gv kp t b q gr (sw+dst j t) la st)::C'/\At kp K S (aJ o (road p t)) (tr++road p t) C'):=by
 have hn:=h.sU;refine aK λg=>FK ?_;refine⟨λvs H=>∃(i:Nat) (C':Hp),vs=[]/\H=eM wp (gv kp i b q gr (sw+dst j i) la st)::C'/\At kp K S (aJ o (road p i)) (tr++road p i) C'/\((p<=t/\t<=i/\i<=j/\j<K.n)\/(j<=i/\i<=t/\t<=p)),
  λ_ H=>dst (Dh H) t,JE.mk ⟨j,C,rfl,by simp[dst],h,by omega⟩,?_⟩
 rintro H ⟨i,C',_,rfl,hA,hs⟩ gs;have hin:i<K.n:=by omega
 have hdi:dst j i<=64:=by unfold dst;omega
 have Nu:=oS hn hp hin;have Es:∀i sw C',Dh (eM wp (gv kp i b q gr sw la st)::C')=i:=λi sw C'=>by simp[Dh,eM,gv,bA]
 refine Ld.n ?_;refine ae.jD (Br.dec (λhne=>?_) (λheq=>?_));rotate_left
 ·obtain rfl:i=t:=by omega
  exact aQ.here ⟨rfl,C',rfl,hA⟩
 refine Ld.n ?_;rcases hs with hs|hs
 ·obtain⟨i,rfl⟩:∃i',i=i'+1:=⟨i-1,by omega⟩;rw[q5 zO,iL,<-xai]at hA;refine aa.fq (Ap hA (by rw[q5 zO,xaf,xbg]at Nu;rw[xaf];omega)) ?_;rintro w C2 ⟨rfl,uU⟩;rw[pK (by rw[e7,xZ];omega)]at uU;refine Ext.two (Ld.n ?_);refine ae.inc (Nil.ptr (af.mk (St.one (c':=gv kp (i+1) b q gr (sw+dst j (i+1)+1) la st) (by exact .head _) rfl (by simp[gv]) rfl ?_)));refine Ld.n ?_;refine ae.cX (Br.T (Nil.ptr (af.mk (St.one (c':=gv kp i b q gr (sw+dst j (i+1)+1) la st) (by exact .head _) rfl (by simp[gv]) rfl ?_))));refine az.mk ⟨i,C2,rfl,by rw[show sw+dst j (i+1)+1=sw+dst j i by unfold dst;omega];rfl,uU,by omega⟩ ?_;show dst (Dh (eM wp (gv kp i b q gr (sw+dst j (i+1)+1) la st)::C2)) t<dst (Dh (eM wp (gv kp (i+1) b q gr (sw+dst j (i+1)) la st)::C')) t;rw[Es,Es];unfold dst;omega
 rw[q6 zO,iL,<-xai]at hA;refine aa.fq (Ap hA (by rw[q6 zO,xaf,xbg]at Nu;rw[xaf];omega)) ?_;rintro w C2 ⟨rfl,uU⟩;rw[pK (by rw[e7,xZ];omega)]at uU;refine Ext.two (Ld.n ?_);refine ae.inc (Nil.ptr (af.mk (St.one (c':=gv kp i b q gr (sw+dst j i+1) la st) (by exact .head _) rfl (by simp[gv]) rfl ?_)));refine Ld.n ?_;refine ae.cX (Br.F (ae.inc (Nil.ptr (af.mk (St.one (c':=gv kp (i+1) b q gr (sw+dst j i+1) la st) (by exact .head _) rfl (by simp[gv]) rfl ?_)))));refine az.mk ⟨i+1,C2,rfl,by rw[show sw+dst j i+1=sw+dst j (i+1)by unfold dst;omega];rfl,uU,by omega⟩ ?_;show dst (Dh (eM wp (gv kp (i+1) b q gr (sw+dst j i+1) la st)::C2)) t<dst (Dh (eM wp (gv kp i b q gr (sw+dst j i) la st)::C')) t;rw[Es,Es];unfold dst;omega
end
end
section
open aC
section
variable {kp v gr:Nat} {K:Kd} {S:Nat->aC.Fn} {ord tr:zL} {C:Hp}
theorem ua(kp:Nat){gr:Int}(C:Hp):Rd zQ 229 #[ptr kp,iv gr] C (· =iv (if gr<100\/1000<gr then 1 else 0)):=by
 refine aK λg=>Gb (ae.aG (Br.no (ae.lss (cz.or (decide (1000<gr)) (λ_=>ae.gtr ⟨rfl,rfl⟩) rfl λgs=>?_))));by_cases h:gr<100\/1000<gr
 ·rw[xae h];refine Br.WV ?_ (bD.mk (.refl _) rfl);simpa using h
 rw[xac h];refine Br.no' ?_ (bD.mk (.refl _) rfl);simpa using h
theorem Xi(hp:ord.Perm (List.range K.n)){p:Nat}(Sv:p<K.n)(hv:ord.getD p 0=v):ord.idxOf v=p:=by
 have xZ:ord.length=K.n:=by rw[hp.length_eq,xaK]
 have gw:ord.Nodup:=hp.nodup_iff.2 xbs;have hm:v∈ord:=by
  rw[<-hv,xan,xab zO];exact xaF _
 have h1:=xem hm;refine getD_inj gw h1 zO ?_;rw[hv,xan,xab h1];exact List.getElem_idxOf h1
theorem Tp(h:At kp K S ord tr C)(hp:ord.Perm (List.range K.n))(hv:v<K.n)(nN:100<=gr/\gr<=1000)(iy:tr.length<17454747090944){r:Nat×Nat}(hr:(rm K S).sQ gr ord (ord.idxOf v)=r):
  Fc zQ 231 #[ptr kp,iv (v:Int),iv (gr:Int)] C (λw H=>w=.tuple #[rep (ff K S ord) (ff K S (aJ ord (road (ord.idxOf v) r.1))) r.2,iv 0]/\At kp K S (aJ ord (road (ord.idxOf v) r.1)) (tr++road (ord.idxOf v) r.1) H):=by
 have hn:=h.sU;have xZ:ord.length=K.n:=by rw[hp.length_eq,xaK]
 have hsz:=vC h;have xY:(rm K S).n=K.n:=rfl;refine aK λg=>F9 λb1 _=>?_;refine aa.eq (ua kp (gr:=(gr:Int)) C) ?_;rw[xac zO];refine ae.ic (Br.F (aa.rq (RU h hv) ?_));rintro w ⟨p,Sv,XM,rfl⟩;have hpi:=Xi hp Sv XM;rw[hpi]at hr⊢;have ajG:p<(rm K S).n:=Sv;refine Ext.two (ae.ic (Br.F (aa.eq (jL h) (Build.mk (cs:=[iv ((ff K S ord:Nat):Int),iv 0,iv 0,.bool false]) zK λb20 _=>?_))));refine St.q ?_;refine Ld.f ?_;refine Build.mk (cs:=[ptr kp,iv (p:Int),iv ((ff K S ord:Nat):Int),iv (p:Int),iv (gr:Int),iv 0,iv 0,.nilFunc]) zK λwp _=>?_;refine aa.eq (nU h) (ae.cc (b:=1) (ae.cc (ae.xO ?_)));obtain⟨X,hX⟩:∃X:Hp,X=[(b20,Obj.cells (List.toArray [iv ((ff K S ord:Nat):Int),iv 0,iv 0,.bool false]) 224 zZ),(b1,Obj.cells #[iv 0,iv 0,iv 0,.bool false] 224 zZ)]:=⟨_,rfl⟩;unfold Rm.sQ at hr;simp only[xY]at hr;rw[show(rm K S).size ord=ff K S ord from rfl]at hr;generalize hdn:decide (K.n-1-p<=p)=dn at*;have afZ:∀x:Nat×Obj,aF (x::(b20,Obj.cells (List.toArray [iv ((ff K S ord:Nat):Int),iv 0,iv 0,.bool false]) 224 zZ)::(b1,Obj.cells #[iv 0,iv 0,iv 0,.bool false] 224 zZ)::C) (X++(x::C)):=λx=>.perm (by rw[hX];exact(xaU (l₁:=[_,_])).symm);refine aa.pre (afZ _) ?_;refine aa.fq (qT (wp:=wp) (a:=p) (b:=ff K S ord) (q:=p) (gr:=gr) (sw:=0) (la:=0) (st:=.nilFunc) (dn:=dn) h zO) ?_;rintro w H ⟨rfl,bx,rfl⟩;refine aa.fn (.app .here) (OM h Sv nN zO zO iy rfl rfl) ?_;rintro w H ⟨rfl,C1,rfl,hA1⟩;have x7:=(rm K S).uK gr ord p dn ((rm K S).rest dn p) p (ff K S ord) p (λh=>by unfold Rm.rest;rw[h];exact xal _) (by rw[fN];rfl);generalize (rm K S).Dn gr ord p dn ((rm K S).rest dn p) p (ff K S ord) p=a at*;have mT:=(rm K S).uK gr ord p (!dn) ((rm K S).rest (!dn) p) p a.2.1 a.2.2 (λh=>by unfold Rm.rest;rw[h];exact xal _) x7.size;obtain⟨a1,a2,a3,a4⟩:=x7;unfold Rm.rest at a1;rw[xY]at a1;have EC:a.1<K.n/\((p<=a.1)\/(a.1<=p)):=by cases dn<;>simp only[xaj,xao]at a1<;>omega
 have hab:a.2.1<=1048576:=by
  have:a.2.1<=ff K S ord:=by omega
  omega
 have AE:dst a.1 p<=64:=by unfold dst;omega
 refine aa.pre (aF.cL (.cons .tail) X) ?_;refine aa.fn (.app .here) (yU (t:=p) hA1 xZ Sv zO zO iy) ?_;rintro w H ⟨rfl,C2,rfl,uU⟩;rw[fN,xaH]at uU;have uU:At kp K S ord tr C2:=uU;refine Ld.n ?_;refine Un.not (aa.fq (qT (dn:= !dn) uU zO) ?_);rintro w H ⟨rfl,bx2,rfl⟩;refine aa.fn (.app .here) (OM uU Sv nN hab zO iy rfl rfl) ?_;rintro w H ⟨rfl,C3,rfl,Zu⟩;generalize (rm K S).Dn gr ord p (!dn) ((rm K S).rest (!dn) p) p a.2.1 a.2.2=b at*;obtain⟨e1,e2,e3,e4⟩:=mT;unfold Rm.rest at e1;rw[xY]at e1;have mq:bif dn then p<=a.2.2/\a.2.2<=a.1 else a.1<=a.2.2/\a.2.2<=p:=by
  cases dn<;>simp only[xaj,xao]at a3 a1⊢ <;>omega
 have Zl:b.1<K.n/\((p<=b.1)\/(b.1<=p)):=by cases dn<;>simp only[xaj,xao,xcI,xda]at e1<;>omega
 have wU:dst b.1 p<=64:=by unfold dst;omega
 intro J47 h47;have fin:∀(bb:Nat) (Eh:Int) (st':zV) (Cf:Hp),At kp K S (aJ ord (road p r.1)) (tr++road p r.1) Cf->J47 [] (X++(eM wp (gv kp r.1 bb r.1 gr r.2 Eh st')::Cf)):=by
  intro bb Eh st' Cf hAf;rw[hX];refine h47 _ λgs=>?_;refine DR.of (R:=[eM wp (gv kp r.1 bb r.1 gr r.2 Eh st')]) (aF.gU (.tail _ (.tail _ (.head _)))) (Ld.n ?_);intro F;refine aa.eq (jL hAf) (⟨aF.gU (.tail _ (.tail _ (.head _))),?_⟩);refine af.mk λF=>(St.one (c':=#[iv ((ff K S ord:Nat):Int),iv ((ff K S (aJ ord (road p r.1)):Nat):Int),iv 0,.bool false]) (by exact .head _) rfl zI rfl ?_);refine⟨aF.gU (.tail _ (.tail _ (.head _))),?_⟩;refine af.mk λF=>(St.one (c':=#[iv ((ff K S ord:Nat):Int),iv ((ff K S (aJ ord (road p r.1)):Nat):Int),iv ((r.2:Nat):Int),.bool false]) (by exact .head _) rfl zI rfl ?_);refine ax.q ?_;refine St.q ?_;refine ax.q ?_;exact aQ.mk (.skip (.skip .tail)) ⟨rfl,hAf⟩
 refine Ld.n ?_;refine ae.jD (Br.dec (λhne=>?_) (λheq=>?_))
 ·-- the other way is better
  rw[xae hne]at hr;refine Ld.n ?_;refine aa.pre (aF.cL (.cons .tail) X) ?_;have hbt:(p<=b.2.2/\b.2.2<=b.1/\b.1<K.n)\/(b.1<=b.2.2/\b.2.2<=p):=by
   cases dn<;>simp only[xaj,xao,xcI,xda]at e3 e1<;>omega
  refine aa.fn (.app .here) (yU (t:=b.2.2) Zu xZ Sv hbt zO iy) ?_;rintro w H ⟨rfl,C4,rfl,Ym⟩;subst hr;refine JE.mk ?_;rw[xa1];exact fin b.2.1 _ _ C4 Ym
 -- back again
 have heq:b.2.2=a.2.2:=xeq.1 heq;rw[xac (λh=>h heq)]at hr;refine aa.pre (aF.cL (.cons .tail) X) ?_;refine aa.fn (.app .here) (yU (t:=p) Zu xZ Sv zO zO iy) ?_;rintro w H ⟨rfl,C4,rfl,Ym⟩;rw[fN,xaH]at Ym;have Ym:At kp K S ord tr C4:=Ym;refine aa.fq (qT (dn:=dn) Ym zO) ?_;rintro w H ⟨rfl,RD,rfl⟩;obtain⟨s3,Y8⟩:∃s3,s3=0+dst a.1 p+dst a.1 p+dst b.1 p+dst b.1 p:=⟨_,rfl⟩;rw[<-Y8];obtain⟨VT,aeM⟩:∃VT,VT=(bif dn then((K.n-1:Nat):Int)else 0):=⟨_,rfl⟩;rw[<-aeM];refine⟨λvs H=>∃(i:Nat) (C':Hp),vs=[]/\H=eM wp (gv kp i b.2.1 b.2.2 gr (s3+dst p i) VT (Az dn RD))::oE RD wp::(X++C')/\At kp K S (aJ ord (road p i)) (tr++road p i) C'/\(bif dn then p<=i/\i<=b.2.2 else b.2.2<=i/\i<=p),
  λ_ H=>dst (Dh H) b.2.2,JE.of (H':=eM wp (gv kp p b.2.1 b.2.2 gr s3 VT (Az dn RD))::oE RD wp::(X++C4)) (.perm ?_) ⟨p,C4,rfl,by simp[dst],by rw[fN,xaH];exact Ym,?_⟩,?_⟩
 ·exact(xaU (l₁:=X)).trans (List.Perm.cons _ xaU)
 ·rw[heq];cases dn<;>simp only[xaj,xao]at mq⊢ <;>omega
 rintro H ⟨i,C5,_,rfl,hA5,hi⟩ gs;rw[heq]at hi;have hin:i<K.n:=by cases dn<;>simp only[xaj,xao]at hi mq<;>omega
 have hdi:dst p i<=64:=by unfold dst;omega
 have Nu:=oS hn Sv hin;intro J83 h83;refine DR.self (Ld.n ?_);refine Ld.n ?_;refine ae.jD (Br.dec (λhne=>?_) (λXZ=>?_))
 ·refine Ld.n ?_;intro F;refine bK.of (f:=YW dn) rfl (AU dn) ?_;have hpm:aF (eM wp (gv kp i b.2.1 b.2.2 gr (s3+dst p i) VT (Az dn RD))::oE RD wp::(X++C5)) (X++(eM wp (gv kp i b.2.1 b.2.2 gr (s3+dst p i) VT (Az dn RD))::oE RD wp::C5)):=
   .perm ((xaU (l₁:=X)).trans (List.Perm.cons _ xaU)).symm
  refine aa.pre hpm ?_;have hstep:bif dn then p<=i/\i+1<K.n else 0<i/\i<=p:=by
   rw[heq]at hne;cases dn<;>simp only[xaj,xao]at hi mq⊢ <;>omega
  have hfit:kg K S (aJ ord (road p i)) (Xa dn i):=by
   refine uk.1 (a4 i ?_);rw[heq]at hne;cases dn<;>simp only[xaj,xao]at hi mq⊢ <;>omega
  refine aa.fn (args:=#[ptr RD]) (.app .here) (AV hA5 Sv hstep (by rw[xaf];omega) hfit zO) ?_;rintro w H ⟨rfl,C6,rfl,hA6⟩;refine ae.lT (aI.mk ?_);have hnx:s3+dst p i+1=s3+dst p (kW dn i):=by unfold dst kW;cases dn<;>simp only[xaj,xao]at hstep⊢ <;>omega
  rw[hnx];refine JE.of (.perm ((xaU (l₁:=X)).trans (List.Perm.cons _ xaU))) (h83 _ _ λgs=>Br.yes ?_);refine az.mk ⟨kW dn i,C6,rfl,rfl,hA6,?_⟩ ?_
  ·rw[heq]at hne⊢;unfold kW;cases dn<;>simp only[xaj,xao]at hi hstep⊢ <;>omega
  have Es:∀i sw C',Dh (eM wp (gv kp i b.2.1 b.2.2 gr sw VT (Az dn RD))::C')=i:=λi sw C'=>by simp[Dh,eM,gv,bA]
  rw[Es,Es,heq];rw[heq]at hne;unfold kW dst;cases dn<;>simp only[xaj,xao]at hi hstep⊢ <;>omega
 have XZ:i=b.2.2:=xeq.1 XZ;subst XZ;subst hr;refine JE.mk (h83 _ _ λgs=>Br.no ?_);refine JE.of ?_ (fin b.2.1 VT (Az dn RD) C5 hA5);refine(aF.cons .tail).trans ?_;refine(aF.perm (xaU (l₁:=X)).symm).trans ?_;have e:s3+dst p b.2.2=dst a.1 p+dst a.1 p+dst b.1 p+(dst b.1 p+dst p b.2.2):=by omega
 rw[e];exact .refl _
end
end
section
theorem Ow{n A:Nat}{L:List (zL)}(hn:n<=16)(hl:L.length<33554432){k:Nat}(hk:k<=n):(ak.st n L A k).length<2199023255551:=by
 have h2:=ak.qV n L A k;have h3:2^k<=2^16:=xat zD zO;have h4:2^k*L.length<=2^16*L.length:=xba _ h3;omega
theorem Ra{B:Hp}{v1 v2:zV}{a b:zL}(h1:Words B v1 a)(h2:Words B v2 b)(cJ:a.length<2^62):Rd zQ 305 #[v1,v2] B (· =.bool (decide (a=b))):=by
 refine aK λg=>Fo (h1.1.bE (h2.1.bE ?_));simp only[an];refine ae.jD (Br.dec (λh=>?_) (λh=>?_))
 ·exact bD.mk (.refl _) (by rw[xap (λe=>h (by rw[e]))])
 refine h1.1.bE ?_;simp only[an];have hlen:a.length=b.length:=by omega
 refine⟨λvs H=>H=B/\∃j:Nat,vs=[iv (j:Int)]/\j<=a.length/\∀i,i<j->a[i]? =b[i]?,λvs _=>a.length-bA vs 0,JE.mk ⟨rfl,0,rfl,by omega,by omega⟩,?_⟩;rintro w H ⟨rfl,j,⟨⟩,hj,aD⟩ gs;refine ae.cX (Br.dec (λhlt=>?_) (λhlt=>?_))
 ·have ga:a[j]? =some a[j]:=xab hlt;have gb:b[j]? =some b[j]:=xab zO;refine h1.1.ld (cr ga) (λ_ h=>h) ?_;refine h2.1.ld (cr gb) (λ_ h=>h) ?_;refine ae.jD (Br.dec (λhne=>?_) (λhne=>?_))
  ·exact bD.mk (.refl _) (by rw[xap];rintro rfl;exact hne rfl)
  refine ae.inc (az.mk ⟨rfl,j+1,rfl,by omega,λi hi=>?_⟩ (by simp[bA];omega));by_cases e:i=j
  ·subst e;rw[ga,gb];simp;omega
  exact aD i zO
 refine bD.mk (.refl _) ?_;rw[xau];apply xbq ;intro i;by_cases hi:i<a.length
 ·exact aD i zO
 rw[xaJ zO,xaJ zO]
theorem Pq{B:Hp}{v:zV}{n u A:Nat}{L:List (zL)}(ht:iq B v (L.map λws=>⟨n,ws⟩))(hf:∀ws∈L,ak.dA n ws)(hne:L≠[])(cJ:L.length<4398046511104)(hA:A<2^n)(hu:u<n)(hAu:A.testBit u=false):
  Rd zQ 299 #[v,.int .u64 (A:Int),iv (u:Int)] B (· =.tuple #[iv ((ak.lvl n L A u:Nat):Int),iv 0]):=by
 obtain⟨w0,Nq⟩:∃w0,L[0]? =some w0:=⟨_,xab (xb7.2 hne)⟩;have o8:n<=16:=(hf w0 (xay Nq)).si;have akn:A<65536:=xa2 hA (xat (n:=2) zD o8);refine aK λg=>Ft (aa.eq (uf ht zP) ?_);rw[xau (Bh hf)];refine Un.not (Br.no λJ hJ=>(ht.bE ?_));rw[xax];have hpos:0<L.length:=xb7.2 hne;refine ae.gW (b:=0) (Br.U9 hpos (ht.ldN (i:=0) (t:=⟨n,w0⟩) (by rw[xar,Nq];rfl) (λ_ h=>h) ?_));refine JE.mk (hJ _ _ λgs=>?_);simp only;refine ae.lss (cz.or (decide (n<=u)) (λ_=>?_) rfl λgs=>?_)
 ·exact ae.kM ⟨by trivial,rfl⟩
 rw[show(decide ((u:Int)<0)||decide (n<=u))=false by simp;omega];refine cz.or (decide (A>>>n≠0)) (λ_=>?_) rfl λgs=>?_
 ·exact ae.e9 (by simp[aS];omega) (ae.jD (b:=0) ⟨by trivial,rfl⟩)
 rw[show(false||decide (A>>>n≠0))=false by rw[xaN,xcr hA];rfl];apply Br.no;have aaI:∀k,A>>>k<18446744073709551616:=λk=>xaE (xbC _ _) zO;refine ae.e9 (by simp[aS];omega) (ae.fm (b:=1) (by simpa[aS]using aaI u) zD (ae.bB (b:=1) (Br.Rk (by rw[ak.tG,hAu];simp) (aa.fq (Kr ht rfl hf zO) ?_))));rintro r H ⟨b,es,ck,m,N,rfl,rfl,hE,hm⟩;have hbound:∀k,k<=n->∀m:List (List UInt8×zL),(m.map Prod.snd).Nodup->(∀x,x∈m.map Prod.snd↔x∈ak.st n L A k)->m.length<4611686018427387904:=by
  intro k hk m gw hmem;have h1:=(ak.iE gw (ak.mB n L A k) hmem).length_eq;have h2:=ak.qV n L A k;have h3:2^k<=2^16:=xat zD zO;have h4:2^k*L.length<=2^16*L.length:=xba _ h3;rw[xax]at h1;omega
 refine⟨λvs H=>∃(k:Nat) (b:Nat) (es:Array MapEntry) (ck:Nat) (m:List (List UInt8×zL)) (N:Hp),vs=[.map (some b),iv (k:Int)]/\k<=n/\H=(b,.map es ck)::(N++B)/\fS n (N++B) es ck m/\∀x,x∈m.map Prod.snd↔x∈ak.st n L A k,
  λvs _=>n-bA vs 1,JE.mk ⟨0,b,es,ck,m,N,rfl,by omega,rfl,hE,λx=>by rw[hm];exact ak.fF.symm⟩,?_⟩
 clear hm hE;rintro w25 w26 H ⟨k,b,es,ck,m,N,⟨⟩,hk,rfl,hE,hm⟩ gs;have uT:=hE.mono (B':=(b,Obj.map es ck)::(N++B)) zS;refine ae.cX (Br.dec (λhlt=>?_) (λhlt=>?_))
 ·intro J hJ;refine ae.e9 (by simp[aS];omega) (ae.fm (b:=1) (by simpa[aS]using aaI k) zD (ae.bB (b:=1) (Br.dec (λh=>?_) (λh=>?_))))
  ·have hb:=(ak.tG A k).1 h;refine aa.fq (B6 (.head _) uT hlt (hbound k hk m hE.nodup hm)) ?_;rintro r H ⟨b',es',cC,m',N',rfl,rfl,BU,hm'⟩;refine Ext.mk rfl (Ext.mk rfl (JE.mk (hJ _ _ λgs=>?_)));refine ae.inc (az.mk ⟨k+1,b',es',cC,m',N'++(b,.map es ck)::N,rfl,by omega,by rw[xai];rfl,by rw[xai];exact BU,λx=>?_⟩ (by simp[bA];omega));rw[hm',ak.st,xae hb,ak.bY];constructor
   ·rintro⟨t,h1,h2⟩;exact⟨t,(hm t).1 h1,h2⟩
   rintro⟨t,h1,h2⟩;exact⟨t,(hm t).2 h1,h2⟩
  have hb:A.testBit k=false:=by cases hh:A.testBit k;rfl;exact absurd ((ak.tG A k).2 hh) h
  refine JE.mk (hJ _ _ λgs=>?_);refine ae.inc (az.mk ⟨k+1,b,es,ck,m,N,rfl,by omega,rfl,hE,λx=>?_⟩ (by simp[bA];omega));rw[hm,ak.st,hb];simp
 have:k=n:=by omega
 subst this;refine aa.fq (B6 (.head _) uT hu (hbound k hk m hE.nodup hm)) ?_;rintro r H ⟨b',es',cC,m',N',rfl,rfl,BU,hm'⟩;refine Ext.mk rfl (Ext.mk rfl (bD.mk ?_ ?_))
 ·exact .skip (.bN (.skip .right))
 have:=ak.kX (n:=k) (v:=u) (ak.iE hE.nodup (ak.mB k L A k) hm);unfold ak.lvl;rw[<-this];rfl
theorem tR{B:Hp}{v:zV}{t:Tb}(ht:DD B v t):Rd zQ 298 #[v] B (· =.tuple (if TF t then#[.int .u64 ((ak.oF t.n.toNat t.ws:Nat):Int),iv 0]else#[.int .u64 0,iv 5])):=by
 obtain⟨tn,ws⟩:=t;obtain⟨s,rfl,hw⟩:=ht;simp only at hw⊢;refine aK λg=>Fu λb1 _=>?_;refine ax.q ?_;refine kF λb2=>?_;refine aa.rd .here (jh (t:=⟨tn,ws⟩) (by exact .head _) (hw.mono zS)) ?_;rintro v rfl;apply Un.not;by_cases hT:TF ⟨tn,ws⟩
 case neg=>
  rw[xap hT,xac hT];exact Br.yes (bD.mk (by repeat (first|exact aF.refl _|apply aF.cons|apply aF.skip|apply aF.cL|apply aF.bN)) rfl)
 rw[xau hT,xae hT];apply Br.no;obtain⟨n,rfl⟩:∃n:Nat,tn=n:=⟨tn.toNat,by have:=hT.1;simp only at this;omega⟩;have hf:ak.dA n ws:=by have:=hT.2;simpa using this
 refine af.mk (Ld.mk zM rfl ?_);refine⟨λvs H=>∃(k:Nat) (N:Hp),vs=[.int .u64 ((ak.jZ n ws k:Nat):Int),iv (k:Int)]/\k<=n/\H=(b1,.cells (Value.cells (.agg #[iv (n:Int),s])) 30 zZ)::(N++B),
  λvs _=>n-bA vs 1,JE.of .tail ⟨0,[],rfl,by omega,rfl⟩,?_⟩
 rintro w15 w16 H ⟨k,N,⟨⟩,hk,rfl⟩ gs;have o8:=hf.si;have IT:=ak.mz n ws k;have ai8:ak.jZ n ws k<65536:=xa2 IT (xat (n:=2) zD (by omega:k<=16));refine ae.cX (Br.dec (λhlt=>?_) (λhlt=>?_))
 ·intro J hJ;refine DR.self (ax.q (ax.q ?_));refine aa.pq (B:=N++B) (z5 (v:=.agg (List.toArray [iv (n:Int),s])) ⟨s,rfl,hw.mono zS⟩ hf hlt) ?_;rintro v N1 ⟨s1,rfl,ie⟩;refine⟨.cons .right,wx.mk rfl ?_⟩;refine aa.pq (B:=N1++(N++B)) (z5 (v:=.agg (List.toArray [iv (n:Int),s])) ⟨s,rfl,hw.mono zS⟩ hf hlt) ?_;rintro v N2 ⟨s2,rfl,wS⟩;refine⟨.cons (.bN .right),wx.mk rfl ?_⟩;refine aa.eq (B:=N2++(N1++(N++B))) (Ra (ie.mono zS) wS (by have:=tB (ak.dQ (v:=k) (ws:=ws) (b:=false) hf.si);simp only;omega)) (⟨.cons (.bN .right),Un.not ?_⟩);have gy:JE J [.int .u64 ((ak.jZ n ws (k+1):Nat):Int)] ((b1,.cells (Value.cells (.agg #[iv (n:Int),s])) 30 zZ)::(N2++(N1++(N++B)))):=by
   refine JE.mk (hJ _ _ λgs=>?_);exact ae.inc (az.mk ⟨k+1,N2++(N1++N),rfl,by omega,by rw[xai,xai]⟩ (by simp[bA];omega))
  rw[ak.jZ]at gy;by_cases hd:ak.dep n ws k=true
  ·rw[xae hd]at gy;have:ak.fU n ws k false≠ak.fU n ws k true:=by simpa[ak.dep]using hd
   rw[xap this];refine Br.yes (ae.sP (a:=1) ?_);have h2:2^k<65536:=xa2 (xcx (n:=16) zD zO) zD;rw[xbi,xa5 zO];exact ae.No (by simp[aS];omega) (by simp[aS];omega) gy
  rw[xac hd]at gy;have:ak.fU n ws k false=ak.fU n ws k true:=by simpa[ak.dep]using hd
  rw[xau this];exact Br.no gy
 have:k=n:=by omega
 subst this;refine bD.mk (.skip .right) ?_;simp[ak.oF]
theorem O7{B:Hp}{v:zV}{ts:List Tb}(ht:iq B v ts)(cJ:ts.length<4398046511104):Px zQ 297 #[v] B (λr _=>∃s,r=.tuple #[s,iv (if qG ts then 0 else 5)]):=by
 refine aK λg=>Fv (aa.eq (uf ht zO) (Un.not ?_));by_cases hO:qG ts
 case neg=>rw[xap hO,xac hO];exact Br.yes (As.mk (.refl _) ⟨_,rfl⟩)
 rw[xau hO,xae hO];refine Br.no (ht.bE (ae.bB (b:=0) (Br.dec (λh0=>As.mk (.refl _) ⟨_,rfl⟩) (λh0=>?_))));obtain⟨n,L,o8,rfl,hne,hf⟩:=IA hO (by intro e;rw[e]at h0;exact h0 rfl);rw[xax]at cJ;obtain⟨w0,Nq⟩:∃w0,L[0]? =some w0:=⟨_,xab (xb7.2 hne)⟩;refine ht.ldN (i:=0) (t:=⟨n,w0⟩) (by rw[xar,Nq];rfl) (λ_ h=>h) ?_;simp only;refine df.ints zO zO λbw=>?_;refine ht.bE ?_;refine⟨λvs H=>∃(k:Nat) (l:zL),vs=[iv (k:Int)]/\k<=L.length/\H=(bw,.cells (aA .u64 (iw l)) 33 zZ)::B/\l.length=n/\∀w∈l,w<18446744073709551616,
  λvs _=>L.length-bA vs 0,JE.mk ⟨0,List.replicate n 0,rfl,by omega,by simp[iw],by simp,λw hw=>by rw[xbQ hw];decide⟩,?_⟩
 rintro w H ⟨k,l,⟨⟩,hk,rfl,hl,Uu⟩ gs;rw[xax];refine ae.cX (Br.dec (λhlt=>?_) (λhlt=>?_))
 ·have hg:(L.map λws=>(⟨n,ws⟩:Tb))[k]? =some ⟨n,L[k]⟩:=by rw[xar,xab hlt];rfl
  have n5:=hf L[k] (xaF hlt);refine ht.ld hg zS λs hw=>?_;intro b2 _;refine St.p ?_ ?_
  ·have:=bu hw;simpa[Value.oneCell']using this
  refine ax.q ?_;refine aa.eq (B:=B) (tR (v:=.agg (List.toArray [iv (n:Int),s])) (t:=⟨n,L[k]⟩) ⟨s,rfl,hw⟩) ?_;rw[xae (show TF ⟨(n:Int),L[k]⟩from⟨by simp,by simpa using n5⟩)];refine Ext.mk rfl (Ext.mk rfl (aE.mk ?_));simp only[xbI];have aaG:ak.oF n L[k]<65536:=xa2 (ak.mz n L[k] n) (xat (n:=2) zD o8);refine⟨λvs H=>∃(j:Nat) (l:zL),vs=[iv (j:Int)]/\j<=n/\H=(bw,.cells (aA .u64 (iw l)) 33 zZ)::B/\l.length=n/\∀w∈l,w<18446744073709551616,
   λvs _=>n-bA vs 0,JE.of .tail ⟨0,l,rfl,by omega,rfl,hl,Uu⟩,?_⟩
  rintro w H ⟨j,l,⟨⟩,hj,rfl,hl,Uu⟩ gs;refine ae.cX (Br.dec (λWk=>?_) (λWk=>?_))
  ·intro J hJ;have gy:∀l:zL,l.length=n->(∀w∈l,w<18446744073709551616)->JE J [] ((bw,.cells (aA .u64 (iw l)) 33 zZ)::B):=λl hl Uu=>by
    refine JE.mk (hJ _ λgs=>?_);exact ae.inc (az.mk ⟨j+1,l,rfl,by omega,rfl,hl,Uu⟩ (by simp[bA];omega))
   have hsh:ak.oF n L[k]>>>j<65536:=xaE (xbC _ _) aaG;refine ae.e9 (by simp[aS];omega) (ae.fm (b:=1) (by simp[aS];omega) zD (ae.bB (b:=1) (Br.dec (λh=>?_) (λh=>gy l hl Uu))));refine DR.self ?_;have hgj:l[j]? =some l[j]:=xab zO;have hlj:=Uu _ (xaF (show j<l.length by omega));refine ah.nat Wk ?_;refine Ld.mk (v:=.int .u64 (l[j]:Int)) (by exact .head _) (by simp[aA,iw,hgj]) ?_;refine ae.sP (a:=1) ?_;have h2:2^j<65536:=xa2 (xcx (n:=16) zD zO) zD;rw[xbi,xa5 zO];refine ae.Jn (by simp[aS];omega) (by simp[aS];omega) ?_;have h3:=nV (ak.oF n L[k]) (2^j);refine ae.No (by simp only[aS];exact hlj) (by simp only[aS];omega) (ah.nat Wk ?_);refine St.ints (l:=iw l) (by exact .head _) zP ?_;have e:(iw l).set j ((l[j]|||nh (ak.oF n L[k]) (2^j):Nat):Int)=iw (l.set j (l[j]|||nh (ak.oF n L[k]) (2^j))):=by simp[iw,xc5]
   rw[e];refine gy _ (by simp[hl]) λw hw=>?_;rcases xcm hw with hw|rfl
   ·exact Uu w hw
   exact xb8 (n:=64) hlj zO
  exact ae.inc (az.mk ⟨k+1,l,rfl,by omega,rfl,hl,Uu⟩ (by simp[bA];omega))
 exact As.mk (by repeat (first|exact bG.refl _|apply bG.cons|apply bG.app)) ⟨_,rfl⟩
end
end Go.Proofs
namespace ak
open Go.Sx
def fP:zL->Nat
 | []=>0
 |x::r=>r.foldl min x
theorem qh:∀(r:zL) (x:Nat),r.foldl min x<=x/\∀y∈r,r.foldl min x<=y
 | [],x=>⟨xal _,by simp⟩
 |z::r,x=>by
  obtain⟨h1,h2⟩:=qh r (min x z);refine⟨by rw[xcN];omega,λy hy=>?_⟩;rw[xcN];rcases xag.1 hy with rfl|hy
  ·omega
  exact h2 y hy
theorem ou:∀(r:zL) (x:Nat),r.foldl min x=x\/r.foldl min x∈r
 | [],x=>.inl rfl
 |z::r,x=>by
  rw[xcN];rcases ou r (min x z)with h|h
  ·rw[h];rcases Nat.le_total x z with h'|h'
   ·left;omega
   right;rw[xdj h'];simp
  right;exact xby _ h
theorem Bp{l:zL}{y:Nat}(h:y∈l):fP l<=y:=by
 cases l with
 |nil=>simp at h
 |cons x r=>
  obtain⟨h1,h2⟩:=qh r x;rcases xag.1 h with rfl|h
  ·exact h1
  exact h2 y h
theorem nG{l:zL}(h:l≠[]):fP l∈l:=by
 cases l with
 |nil=>exact absurd rfl h
 |cons x r=>
  rcases ou r x with h|h
  ·show r.foldl min x∈_;rw[h];simp
  exact xby _ h
theorem Bq{l:zL}{m:Nat}(h1:m∈l)(h2:∀y∈l,m<=y):fP l=m:=
 xeB (Bp h1) (h2 _ (nG (by intro e;rw[e]at h1;simp at h1)))
theorem D8(l:zL)(x:Nat):fP (l++[x])=if l=[]then x else min (fP l) x:=by
 cases l with
 |nil=>rfl
 |cons y r=>simp[fP,xdV]
def bU(n a:Nat):zL:=(List.range n).filter λv=> !a.testBit v
def has(n a:Nat):zL:=(List.range n).filter λv=>a.testBit v
theorem cG{n a v:Nat}:v∈bU n a↔v<n/\a.testBit v=false:=by simp[bU]
theorem pS{n a v:Nat}:v∈has n a↔v<n/\a.testBit v=true:=by simp[has]
theorem mX{α:Type}(p q:α->Bool)(x:α):∀(l:List α),l.Nodup->x∈l->p x=true->q x=false->(∀y∈l,y≠x->q y=p y)->(l.filter q).length+1=(l.filter p).length
 | [],_,h,_,_,_=>by simp at h
 |y::l,nd,h,hp,hq,aD=>by
  rw[xaW]at nd;by_cases e:y=x
  ·subst e;have hsame:l.filter q=l.filter p:=by
    apply xdv;intro z hz;exact aD z (by simp[hz]) (λe=>nd.1 (e▸hz))
   rw[xb4,xb4,hp,hq,hsame];simp
  have hxl:x∈l:=by rcases xag.1 h with h|h;exact absurd h.symm e;exact h
  have ih:=mX p q x l nd.2 hxl hp hq λz hz hne=>aD z (by simp[hz]) hne;have hy:=aD y zI e;rw[xb4,xb4,hy];cases p y
  ·simpa using ih
  simp only[xa7,xak];omega
theorem pM{a u v:Nat}(h:v≠u):(aB a u true).testBit v=a.testBit v:=by rw[ai,xac h]
theorem gf{n a v:Nat}(h:v∈bU n a):(bU n (aB a v true)).length+1=(bU n a).length:=by
 obtain⟨h1,h2⟩:=cG.1 h;refine mX _ _ v (List.range n) xbs (xaO.2 h1) (by simp[h2]) (by simp[ai]) λy hy hne=>?_;rw[pM hne]
def RP(n:Nat)(c:Nat->Nat->Nat):Nat->Nat->Nat
 |0,_=>0
 |f+1,a=>fP ((bU n a).map λv=>c a v+RP n c f (aB a v true))
def par(n:Nat)(c:Nat->Nat->Nat):Nat->Nat->Nat
 |0,_=>0
 |f+1,s=>fP ((has n s).map λv=>c (aB s v false) v+par n c f (aB s v false))
theorem CI{n:Nat}{c:Nat->Nat->Nat}:∀(f:Nat) (a:Nat),(bU n a).length<=f->RP n c (f+1) a=RP n c f a
 |0,a,h=>by
  have:bU n a=[]:=xci.1 zO;simp[RP,this,fP]
 |f+1,a,h=>by
  rw[RP,RP];congr 1;apply xbr;intro v hv;rw[CI f _ (by have:=gf hv;omega)]
theorem TY(n a:Nat):(bU n a).length<=n:=by have:=xbT (λv=> !a.testBit v) (List.range n);simpa[bU]using this
def B(n:Nat)(c:Nat->Nat->Nat)(a:Nat):Nat:=RP n c n a
def W(n:Nat)(c:Nat->Nat->Nat)(s:Nat):Nat:=par n c n s
theorem HT(n:Nat)(c:Nat->Nat->Nat)(a:Nat):B n c a=fP ((bU n a).map λv=>c a v+B n c (aB a v true)):=by
 unfold B;rw[<-CI n a (TY n a)];rfl
theorem acF{n:Nat}{c:Nat->Nat->Nat}{a v:Nat}(hv:v∈bU n a):B n c a<=c a v+B n c (aB a v true):=by
 rw[HT n c a];exact Bp (xam.2 ⟨v,hv,rfl⟩)
theorem acG{n:Nat}{c:Nat->Nat->Nat}{a:Nat}(h:bU n a≠[]):∃v∈bU n a,B n c a=c a v+B n c (aB a v true):=by
 have:=nG (l:=(bU n a).map λv=>c a v+B n c (aB a v true)) (by simpa using h);rw[<-HT]at this;obtain⟨v,hv,e⟩:=xam.1 this;exact⟨v,hv,e.symm⟩
theorem Jz{n:Nat}{c:Nat->Nat->Nat}{a:Nat}(h:bU n a=[]):B n c a=0:=by rw[HT,h];rfl
structure Used(n:Nat)(c:Nat->Nat->Nat)(U:Nat):Prop where
 zero:∀a v,v<n->a.testBit v=false->U.testBit v=false->c a v=0
 mask:∀a v,v<n->a.testBit v=false->c a v=c (a&&&U) v
theorem ni{a U v:Nat}{b:Bool}:(aB a v b) &&&U=if U.testBit v then aB (a&&&U) v b else a&&&U:=by
 apply xaX;intro k;by_cases hU:U.testBit v=true
 ·rw[xae hU,xa8,ai,ai,xa8];by_cases e:k=v
  ·subst e;simp[hU]
  simp[e]
 rw[xac hU,xa8,ai,xa8];by_cases e:k=v
 ·subst e;simp[hU]
 simp[e]
def dj(n U a:Nat):zL:=(bU n a).filter λv=>U.testBit v
theorem eT{n U a v:Nat}:v∈dj n U a↔v<n/\a.testBit v=false/\U.testBit v=true:=by simp[dj,cG,and_assoc]
theorem j5(n U a:Nat):dj n U (a&&&U)=dj n U a:=by
 unfold dj bU;rw[xds,xds];apply xdv;intro v _;rw[xa8];cases a.testBit v<;>cases U.testBit v<;>rfl
theorem HR{n U:Nat}{c:Nat->Nat->Nat}(hU:Used n c U):∀(d a:Nat),(bU n a).length=d->B n c a=fP ((dj n U a).map λv=>c (a&&&U) v+B n c (aB a v true))/\∀a',(bU n a').length<=d->a'&&&U=a&&&U->B n c a'=B n c a:=by
 intro d;induction d using Nat.strongRecOn with
 |_ d ih=>
  have key:∀a,(bU n a).length=d->B n c a=fP ((dj n U a).map λv=>c (a&&&U) v+B n c (aB a v true)):=by
   intro a hd;by_cases hm:bU n a=[]
   ·have h1:dj n U a=[]:=by unfold dj;rw[hm];rfl
    rw[h1,Jz hm];rfl
   have hle:∀v∈dj n U a,B n c a<=c (a&&&U) v+B n c (aB a v true):=λv hv=>by
    obtain⟨h1,h2,h3⟩:=eT.1 hv;rw[<-hU.mask a v h1 h2];exact acF (cG.2 ⟨h1,h2⟩)
   obtain⟨v,hv,he⟩:=acG (c:=c) hm;obtain⟨h1,h2⟩:=cG.1 hv;by_cases hu:U.testBit v=true
   ·symm;refine Bq (xam.2 ⟨v,eT.2 ⟨h1,h2,hu⟩,by rw[<-hU.mask a v h1 h2];exact he.symm⟩) λy hy=>?_;obtain⟨w,hw,rfl⟩:=xam.1 hy;exact hle w hw
   have sW:U.testBit v=false:=by simpa using hu
   rw[hU.zero a v h1 h2 sW,xa1]at he;have hlt:(bU n (aB a v true)).length<d:=by have:=gf hv;omega
   have hand:aB a v true&&&U=a&&&U:=by rw[ni,xac hu]
   obtain⟨k1,k2⟩:=ih _ hlt (aB a v true) rfl;have Wi:dj n U (aB a v true)=dj n U a:=by rw[<-j5,hand,j5]
   by_cases Eu:dj n U a=[]
   ·rw[Wi,Eu]at k1;rw[he,k1,Eu];rfl
   symm;rw[Wi,hand]at k1;have hmem:=nG (l:=(dj n U a).map λw=>c (a&&&U) w+B n c (aB (aB a v true) w true)) (by simpa using Eu);rw[<-k1]at hmem;obtain⟨w,hw,sq⟩:=xam.1 hmem;obtain⟨w1,w2,w3⟩:=eT.1 hw;have hwv:w≠v:=λe=>by rw[e]at w3;rw[sW]at w3;cases w3
   have Wv:aB (aB a v true) w true=aB (aB a w true) v true:=by
    apply xaX;intro k;rw[ai,ai,ai,ai];by_cases e1:k=w<;>by_cases e2:k=v<;>simp[e1,e2]
   have hmw:w∈bU n a:=cG.2 ⟨w1,w2⟩;have hsub:B n c (aB (aB a v true) w true)=B n c (aB a w true):=by
    have s7:(bU n (aB a w true)).length<d:=by have:=gf hmw;omega
    refine(ih _ s7 (aB a w true) rfl).2 _ ?_ ?_
    ·have hvm:v∈bU n (aB a w true):=cG.2 ⟨h1,by rw[ai,xac (xbn hwv)];exact h2⟩;have:=gf hvm;rw[Wv];omega
    rw[Wv,ni,xac hu]
   have hval:c (a&&&U) w+B n c (aB a w true)=B n c a:=by rw[he,<-sq,hsub]
   refine Bq (xam.2 ⟨w,hw,hval⟩) λy hy=>?_;obtain⟨z,hz,rfl⟩:=xam.1 hy;exact hle z hz
  intro a hd;refine⟨key a hd,λa' dG hand=>?_⟩;have Wi:dj n U a'=dj n U a:=by rw[<-j5,hand,j5]
  have h':B n c a'=fP ((dj n U a').map λv=>c (a'&&&U) v+B n c (aB a' v true)):=by
   rcases xdw (bU n a').length d with h|h
   ·exact(ih _ h a' rfl).1
   exact key a' zO
  rw[h',key a hd,Wi,hand];congr 1;apply xbr;intro v hv;congr 1;obtain⟨v1,v2,v3⟩:=eT.1 hv;have hma:v∈bU n a:=cG.2 ⟨v1,v2⟩;have aeF:v∈bU n a':=by
   rw[<-Wi]at hv;exact cG.2 ⟨v1,(eT.1 hv).2.1⟩
  have hlt:(bU n (aB a v true)).length<d:=by have:=gf hma;omega
  refine(ih _ hlt (aB a v true) rfl).2 _ ?_ ?_
  ·have:=gf aeF;have:=gf hma;omega
  rw[ni,ni,hand]
theorem WS{n U:Nat}{c:Nat->Nat->Nat}(hU:Used n c U)(a:Nat):B n c (a&&&U)=B n c a:=by
 have e:(a&&&U) &&&U=a&&&U:=by rw[Nat.and_assoc,Nat.and_self]
 rcases Nat.le_total (bU n (a&&&U)).length (bU n a).length with h|h
 ·exact(HR hU _ a rfl).2 _ h e
 exact((HR hU _ (a&&&U) rfl).2 a h e.symm).symm
theorem acE{n U:Nat}{c:Nat->Nat->Nat}(hU:Used n c U)(a:Nat):B n c a=fP ((dj n U a).map λv=>c (a&&&U) v+B n c (aB (a&&&U) v true)):=by
 rw[(HR hU _ a rfl).1];congr 1;apply xbr;intro v hv;obtain⟨v1,v2,v3⟩:=eT.1 hv;congr 1;rw[<-WS hU (aB a v true),ni,xae v3]
def ord(n:Nat)(c:Nat->Nat->Nat):Nat->Nat->zL
 |0,_=>[]
 |f+1,a=>match(bU n a).find? λv=>c a v+B n c (aB a v true)==B n c a with
  |some v=>v::ord n c f (aB a v true)
  |none=>[]
theorem uy{n:Nat}{c:Nat->Nat->Nat}{f a:Nat}(h:bU n a≠[]):∃v,v∈bU n a/\c a v+B n c (aB a v true)=B n c a/\(∀u∈bU n a,u<v->c a u+B n c (aB a u true)≠B n c a)/\ord n c (f+1) a=v::ord n c f (aB a v true):=by
 obtain⟨w,hw,he⟩:=acG (c:=c) h;cases hf:(bU n a).find? λv=>c a v+B n c (aB a v true)==B n c a with
 |none=>
  rw[xc4]at hf;exact absurd (by simpa using he.symm) (hf w hw)
 |some v=>
  have h1:=List.find?_some hf;refine⟨v,List.mem_of_find?_eq_some hf,by simpa using h1,λu hu huv=>?_,by rw[ord,hf]⟩;rw[xec]at hf;obtain⟨_,as1,bs,hab,hno⟩:=hf;have hs:(bU n a).Pairwise (· < ·):=List.Pairwise.filter _ List.pairwise_lt_range;rw[hab]at hs hu;rcases xaq.1 hu with hu|hu
  ·have:=hno u hu;simpa using this
  rw[List.pairwise_append]at hs;have h2:=hs.2.1;rw[List.pairwise_cons]at h2;rcases xag.1 hu with rfl|hu
  ·omega
  have:=h2.1 u hu;omega
end ak
namespace ak
open Go.Sx
theorem dk{x u v:Nat}{b c:Bool}(h:u≠v):aB (aB x u b) v c=aB (aB x v c) u b:=by
 apply xaX;intro k;rw[ai,ai,ai,ai];by_cases e1:k=u<;>by_cases e2:k=v
 ·exact absurd (e1.symm.trans e2) h
 ·simp[e1,h]
 ·simp[e2,xbn h]
 simp[e1,e2]
theorem U8{n u v:Nat}{ws:zL}{b:Bool}(hf:dA n ws)(hu:u<n)(hv:v<n)(h:dep n ws v=false):dep n (fU n ws u b) v=false:=by
 by_cases e:u=v
 ·subst e;cases hd:dep n (fU n ws u b) u
  ·rfl
  obtain⟨x,hx,hne⟩:=(tE (dQ hf.si) hu).1 hd;rw[ez hf hu (fw hx hu),ez hf hu (fw hx hu)]at hne;refine absurd ?_ hne;congr 1;apply xaX;intro k;rw[ai,ai,ai,ai];by_cases e:k=u<;>simp[e]
 cases hd:dep n (fU n ws u b) v
 ·rfl
 obtain⟨x,hx,hne⟩:=(tE (dQ hf.si) hv).1 hd;rw[ez hf hu (fw hx hv),ez hf hu (fw hx hv),dk (xbn e),dk (xbn e)]at hne;have:=(tE hf hv).2 ⟨aB x u b,fw hx hu,hne⟩;rw[h]at this;cases this
theorem yZ{n:Nat}{L:Fs}{A:Nat}(hL:∀t∈L,dA n t)(hn:n<=16){v:Nat}(hv:v<n)(h:∀t∈L,dep n t v=false):∀k,k<=n->∀t∈st n L A k,dep n t v=false
 |0,_,t,ht=>h t (fF.1 ht)
 |k+1,hk,t,ht=>by
  rw[st]at ht;split at ht
  ·obtain⟨u,hu,b,rfl⟩:=bY.1 ht;exact U8 (DN hL hn k u hu) zO hv (yZ hL hn hv h k zO u hu)
  exact yZ hL hn hv h k zO t ht
def aV(n:Nat)(L:Fs):Nat:=L.foldl (λu t=>u|||oF n t) 0
theorem oc(n v:Nat):∀(L:Fs) (u:Nat),(L.foldl (λu t=>u|||oF n t) u).testBit v=(u.testBit v||L.any λt=>(oF n t).testBit v)
 | [],u=>by simp
 |t::L,u=>by rw[xcN,oc n v L,xcw,List.any_cons,Bool.or_assoc]
theorem yX{n v:Nat}{L:Fs}:(aV n L).testBit v=L.any λt=>(oF n t).testBit v:=by
 unfold aV;rw[oc];simp
theorem tJ{n v:Nat}{L:Fs}(hv:v<n)(h:(aV n L).testBit v=false):∀t∈L,dep n t v=false:=by
 rw[yX,List.any_eq_false]at h;intro t ht;have:=h t ht;rw[oF,gO]at this;simpa[hv]using this
theorem B8(n:Nat):∀(L:Fs) (u:Nat),u<2^n->L.foldl (λu t=>u|||oF n t) u<2^n
 | [],u,h=>h
 |t::L,u,h=>B8 n L _ (xb8 h (mz n t n))
theorem tK(n:Nat)(L:Fs):aV n L<2^n:=B8 n L 0 (xbK n)
theorem Ii{n:Nat}{L:Fs}{A:Nat}(hL:∀t∈L,dA n t)(hn:n<=16):∀k,k<=n->∀x,x∈st n L A k↔x∈st n L (A&&&aV n L) k
 |0,_,x=>xdg
 |k+1,hk,x=>by
  have ih:=Ii (A:=A) hL hn k zO;rw[st,st,xa8];cases hA:A.testBit k
  ·simpa using ih x
  cases hU:(aV n L).testBit k
  ·simp only[xa7,xei,xaD,xaT];rw[bY,<-ih x];have hd:=yZ (A:=A) hL hn (v:=k) zO (tJ zO hU) k zO;have hf:=DN (A:=A) hL hn k;constructor
   ·rintro⟨t,ht,b,rfl⟩;rw[m7 (hf t ht) zO (hd t ht)];exact ht
   intro hx;exact⟨x,hx,false,(m7 (hf x hx) zO (hd x hx)).symm⟩
  simp only[xdY,xa7];rw[bY,bY];constructor
  ·rintro⟨t,ht,h⟩;exact⟨t,(ih t).1 ht,h⟩
  rintro⟨t,ht,h⟩;exact⟨t,(ih t).2 ht,h⟩
theorem HY{n:Nat}{L:Fs}(hL:∀t∈L,dA n t)(hn:n<=16):Used n (lvl n L) (aV n L):=by
 refine⟨λa v hv _ hU=>?_,λa v hv _=>?_⟩
 ·unfold lvl nodes;rw[xci,xdX];intro t ht;rw[yZ hL hn hv (tJ hv hU) n (xal _) t ht];simp
 exact kX (iE (mB n L a n) (mB n L _ n) (Ii hL hn n (xal _)))
end ak
set_option maxRecDepth 100000
namespace Go.Proofs
open Go Go.Sx Tryz
def kp(x:Nat×Nat):zV:=.agg (aA .i64 [(x.1:Int),(x.2:Int)])
def ki(x:Nat):zV:=iv (x:Int)
theorem Ek(a b:Nat):Instr.sameNow (.int .i64) (ki a) (ki b)=some (decide (a=b)):=by
 simp only[Instr.sameNow,ki,xa7,xas];rw[xcQ];simp;omega
theorem Uc(a:Nat):Instr.sameBits 10000 (ki a) (ki a)=true:=by simp[Instr.sameBits,ki]
theorem Py(a b:Nat×Nat):Dc zQ 386 (kp a) (kp b) (decide (a=b)):=by
 have:=Dc.array (P:=zQ) (t:=386) (e:=3) (q:=.i64) (n:=2) zK zK zK [(a.1:Int),(a.2:Int)] [(b.1:Int),(b.2:Int)] rfl rfl;have e:decide ([(a.1:Int),(a.2:Int)]=[(b.1:Int),(b.2:Int)])=decide (a=b):=by
  rw[xdm];obtain⟨a1,a2⟩:=a;obtain⟨b1,b2⟩:=b;simp;omega
 rw[e]at this;exact this
theorem Ei(a:Nat×Nat):mj zQ 386 (kp a):=mj.array (P:=zQ) (t:=386) (e:=3) (q:=.i64) (n:=2) zK zK zK _ rfl
theorem wG(n:Nat)(q:IntKind)(l:List Int):Instr.sameBits (n+1+1) (.agg (aA q l)) (.agg (aA q l))=true:=by
 simp only[Instr.sameBits,aA,xeu,xct,xcp];intro x hx;obtain⟨a,b⟩:=x;have h:=xd9 hx;have e:a=b:=by
  rw[List.zip_eq_zip_take_min]at hx;obtain⟨i,hi,he⟩:=xbB.1 hx;simp at he;exact he.1.symm.trans he.2
 subst e;have:=h.1;simp only[xdG,xam]at this;obtain⟨y,_,rfl⟩:=this;simp[Instr.sameBits]
theorem T9(a:Nat×Nat):Instr.sameBits 10000 (kp a) (kp a)=true:=wG 9998 _ _
abbrev vrN(v:zV)(x:Nat):Prop:=v=iv (x:Int)
structure Jq(n:Nat)(L:List (zL))(nQ:Array MapEntry)(mh:Nat)(lB:Array MapEntry)(mg:Nat):Prop where
 ag:∃m,aT kp vrN nQ mh m/\∀x∈m,x.2=ak.lvl n L x.1.1 x.1.2
 dow:∃m,aT ki vrN lB mg m/\∀x∈m,x.2=ak.B n (ak.lvl n L) x.1
def lZ(bp bl bd:Nat)(wA:zV)(n:Nat)(L:List (zL))(U:Nat)(B H:Hp):Prop:=
 ∃nQ mh lB mg,H=(bp,.cells #[wA,iv (n:Int),iv (U:Int),.map (some bl),.map (some bd)] 364 zZ)::(bl,.map nQ mh)::(bd,.map lB mg)::B/\Jq n L nQ mh lB mg
theorem Bn{κ:Type}[DecidableEq κ]{f:κ->Nat}{m:List (κ×Nat)}{k:κ}(h:∀x∈m,x.2=f x.1):∀x∈cY m k (f k),x.2=f x.1:=by
 intro x hx;unfold cY at hx;split at hx
 ·obtain⟨y,hy,rfl⟩:=xam.1 hx;split
  ·rfl
  exact h y hy
 rcases xaq.1 hx with hx|hx
 ·exact h x hx
 simp at hx;subst hx;rfl
theorem Bs{κ:Type}[DecidableEq κ]{f:κ->Nat}{m:List (κ×Nat)}{k:κ}{x:Nat}(h:∀x∈m,x.2=f x.1)(hk:bO m k=some x):x=f k:=by
 unfold bO at hk;obtain⟨y,hy,rfl⟩:=xc2.1 hk;have h1:=List.find?_some hy;have h2:=h y (List.mem_of_find?_eq_some hy);simp only[xaP]at h1;rw[h2,h1]
structure vO(wA:zV)(n:Nat)(L:List (zL))(B:Hp):Prop where
 tb:iq B wA (JS n L)
 lz:∀ws∈L,ak.dA n ws
 ne:L≠[]
 small:L.length<33554432
 n12:n<=12
theorem Ed{wA:zV}{n:Nat}{L:List (zL)}{B:Hp}(h:vO wA n L B)(a v:Nat):ak.lvl n L a v<2199023255551:=by
 have h1:ak.lvl n L a v<=(ak.st n L a n).length:=xbT _ _;have h2:=Ow (n:=n) (A:=a) (L:=L) (by have:=h.n12;omega) h.small (xal n);omega
theorem Bl{wA:zV}{n:Nat}{L:List (zL)}{B:Hp}(h:vO wA n L B){bp bl bd a v:Nat}{H:Hp}(hp:lZ bp bl bd wA n L (ak.aV n L) B H)(ha:a<2^n)(hv:v<n)(n8:a.testBit v=false):
  Fc zQ 275 #[.pointer (some ⟨bp,0,none⟩),iv (a:Int),iv (v:Int)] H (λr H'=>r=iv ((ak.lvl n L a v:Nat):Int)/\lZ bp bl bd wA n L (ak.aV n L) B H'):=by
 obtain⟨nQ,mh,lB,mg,rfl,hM⟩:=hp;have hU:=ak.tK n L;have s6:=h.n12;have lg:2^n<=2^12:=xat zD s6;have BT:=ak.HY h.lz zO;have hsU:ak.aV n L>>>v<=ak.aV n L:=xbC _ _;refine aK λg=>FG (Nil.ptr ?_);refine af.mk (Ld.mk zM rfl ?_);refine ae.e9 (by simp[aS];omega) (ae.fm (b:=1) (by simp[aS];omega) zD (ae.bB (b:=0) ?_));have Lf:ak.aV n L>>>v&&&1=0↔(ak.aV n L).testBit v=false:=by
  rw[ak.eH,xbh,xbY];cases (ak.aV n L).testBit v<;>simp
 refine Br.dec (λh0=>?_) (λh0=>?_)
 ·refine aQ.here ⟨?_,nQ,mh,lB,mg,rfl,hM⟩;rw[BT.zero a v hv n8 (Lf.1 h0)];rfl
 have hUv:(ak.aV n L).testBit v=true:=by cases hh:(ak.aV n L).testBit v;exact absurd (Lf.2 hh) h0;rfl
 apply Nil.ptr;refine af.mk (Ld.mk zM rfl ?_);refine ae.fm (by simp[aS];omega) (by simp[aS];omega) ?_;have hlv:ak.lvl n L a v=ak.lvl n L (a&&&ak.aV n L) v:=BT.mask a v hv n8;have Wx:(a&&&ak.aV n L).testBit v=false:=by rw[xa8,n8];rfl
 have Zm:a&&&ak.aV n L<2^n:=xaE xcd ha;rw[hlv];obtain⟨a',cW⟩:∃a',a'=a&&&ak.aV n L:=⟨_,rfl⟩;rw[<-cW]at Wx Zm⊢;refine Build.two (q:=.i64) (e:=3) zK zK zK ?_;rw[show aA .i64 [(a':Int),(v:Int)]=List.toArray [iv (a':Int),iv (v:Int)]from rfl];intro b12 _;refine St.q ?_;apply Nil.ptr;refine af.mk (Ld.mk zM rfl ?_);refine ax.q ?_;obtain⟨⟨m1,WD,AD⟩,abg⟩:=hM;have aaK:∀J:List zV->Hp->Prop,(∀w25:zV,∀H24:Hp,(∀aky:Fr,aQ (λr H'=>r=iv ((ak.lvl n L a' v:Nat):Int)/\lZ bp bl bd wA n L (ak.aV n L) B H') (.returned w25) H24)->J [w25] H24)->
   ∀U6 Vd,Jq n L U6 Vd lB mg->J [iv ((ak.lvl n L a' v:Nat):Int)] ((bp,.cells #[wA,iv (n:Int),iv ((ak.aV n L:Nat):Int),.map (some bl),.map (some bd)] 364 zZ)::(bl,.map U6 Vd)::(bd,.map lB mg)::B):=
  λJ hJ U6 Vd hM=>hJ _ _ λgs=>aQ.here ⟨rfl,U6,Vd,lB,mg,rfl,hM⟩
 cases hg:bO m1 (a',v)with
 |some x=>
  have hx:=Bs (f:=λk=>ak.lvl n L k.1 k.2) AD hg;simp only at hx;refine aT.KY (ke:=kp) (k:=(a',v)) Py Ei WD (by exact .tail _ (.tail _ (.head _))) hg λy hy=>?_;subst hy;refine Ext.two λJ hJ=>(Un.not (Br.no (JE.of .tail ?_)));rw[hx];exact aaK J hJ _ _ ⟨⟨m1,WD,AD⟩,abg⟩
 |none=>
  refine aT.xF (ke:=kp) (k:=(a',v)) Py Ei WD (by exact .tail _ (.tail _ (.head _))) hg ?_;refine Ext.two λJ hJ=>(Un.not (Br.yes (DR.self (Nil.ptr ?_))));refine af.mk (Ld.mk zM rfl ?_);refine⟨b12,0,.i64,0,rfl,rfl,by decide,by decide,?_⟩;refine Ld.q ?_;refine aH.q (aa.eq (B:=B) (Pq (n:=n) (L:=L) h.tb h.lz h.ne (by have:=h.small;omega) Zm hv Wx) (⟨.refl _,Ext.mk rfl (Ext.mk rfl ?_)⟩));refine DR.of (R:=(b12,.cells (List.toArray [iv (a':Int),iv (v:Int)]) 386 zZ)::(bp,.cells #[wA,iv (n:Int),iv ((ak.aV n L:Nat):Int),.map (some bl),.map (some bd)] 364 zZ)::[]) (.cons (.cons (λg w h=>(Own.left (B:=_) (A:=[]) h)))) (Nil.ptr ?_);refine af.mk (Ld.mk zM rfl ?_);refine ax.q ?_;refine aT.NZ (ke:=kp) (vr:=vrN) (b:=bl) (val:=iv ((ak.lvl n L a' v:Nat):Int)) (k:=(a',v)) (x:=ak.lvl n L a' v) Py Ei T9 WD rfl λes' cC BU=>⟨_,.tail (.tail (.head _)),?_⟩;have aeI:∀x∈cY m1 (a',v) (ak.lvl n L a' v),x.2=ak.lvl n L x.1.1 x.1.2:=Bn (f:=λk:Nat×Nat=>ak.lvl n L k.1 k.2) (k:=(a',v)) AD;have Yh:Jq n L es' cC lB mg:=⟨⟨cY m1 (a',v) (ak.lvl n L a' v),BU,aeI⟩,abg⟩;exact JE.of .tail (aaK J hJ es' cC Yh)
end Go.Proofs
namespace Go.Sx
open Go
theorem uB(n:Int):BitVec.ofInt 64 (IntKind.i64.wrap n)=BitVec.ofInt 64 n:=by
 apply BitVec.eq_of_toNat_eq;simp only[BitVec.toNat_ofInt,IntKind.wrap,IntKind.bits,IntKind.signed,xct,xaP];congr 1;split<;>omega
theorem wrap_toInt(x:BitVec 64):IntKind.i64.wrap (x.toNat:Int)=x.toInt:=by
 rw[BitVec.toInt_eq_toNat_cond];have:=x.isLt;have e:(2:Int)^(64-1)=9223372036854775808:=rfl;simp only[IntKind.wrap,IntKind.bits,IntKind.signed,xct,xaP,e];split<;>split<;>omega
theorem o5(op:BinOp)(x y:Int):BitVec.ofInt 64 (bits op .i64 x y)=(match op with
  | .and=>BitVec.ofInt 64 x&&&BitVec.ofInt 64 y
  | .or=>BitVec.ofInt 64 x|||BitVec.ofInt 64 y
  | .xor=>BitVec.ofInt 64 x^^^BitVec.ofInt 64 y
  |_=>BitVec.ofInt 64 x&&& ~~~BitVec.ofInt 64 y):=by
 unfold bits;simp only[uB];rw[xcO];simp only[IntKind.bits];rw[BitVec.ofNat_toNat,BitVec.setWidth_eq];cases op<;>rfl
theorem vz(op:BinOp)(x y:Int):bits op .i64 x y=(BitVec.ofInt 64 (bits op .i64 x y)).toInt:=by
 unfold bits;simp only[uB];rw[xcO];simp only[IntKind.bits];rw[BitVec.ofNat_toNat,BitVec.setWidth_eq];exact wrap_toInt _
theorem Kp{a U v:Nat}(ha:a<4611686018427387904)(hU:U<4611686018427387904)(hv:v<62):
  bits .and .i64 ((bits .or .i64 a (bits .xor .i64 (-1) U)).fdiv (2^(min (v:Int).toNat IntKind.i64.bits))) 1=if a.testBit v=true\/U.testBit v=false then 1 else 0:=by
 have hX:=o5 .or (a:Int) (bits .xor .i64 (-1) U);simp only at hX;have hN:=o5 .xor (-1) (U:Int);simp only at hN;rw[hN]at hX;generalize hx:bits .or .i64 a (bits .xor .i64 (-1) U)=x at hX;have hxi:x=(BitVec.ofInt 64 x).toInt:=by rw[<-hx];exact vz _ _ _
 have hm:min (v:Int).toNat IntKind.i64.bits=v:=by simp[IntKind.bits];omega
 rw[hm];have hs:x.fdiv (2^v)=((BitVec.ofInt 64 x).sshiftRight v).toInt:=by
  rw[BitVec.toInt_sshiftRight,<-hxi,Int.shiftRight_eq_div_pow,Int.fdiv_eq_ediv_of_nonneg _ (Int.le_of_lt (Int.pow_pos zD))]
  push_cast;rfl
 rw[hs,vz,o5];simp only[BitVec.ofInt_toInt];rw[hX];have h1:BitVec.ofInt 64 (1:Int)=1#64:=rfl;have h2:BitVec.ofInt 64 (-1:Int)=BitVec.allOnes 64:=by decide
 rw[h1,h2];have Lf:((BitVec.ofInt 64 (a:Int)|||BitVec.allOnes 64^^^BitVec.ofInt 64 (U:Int)).sshiftRight v).getLsbD 0=(a.testBit v|| !U.testBit v):=by
  rw[BitVec.getLsbD_sshiftRight];have e1:v+0<64:=by omega
  simp only[xbY,show¬(64<=0)from by decide,xdI,xcI,xct,show v<64 by omega,xa7];rw[BitVec.getLsbD_or,BitVec.getLsbD_xor,BitVec.getLsbD_allOnes,xcO,xcO,BitVec.getLsbD_ofNat,BitVec.getLsbD_ofNat];simp[show v<64 by omega]
 have gy:∀y:BitVec 64,(y&&&1#64).toInt=if y.getLsbD 0 then 1 else 0:=by
  intro y;have:y&&&1#64=if y.getLsbD 0 then 1#64 else 0#64:=by
   apply BitVec.eq_of_getLsbD_eq;intro i hi;rw[BitVec.getLsbD_and];by_cases h0:i=0
   ·subst h0;cases hb:y.getLsbD 0<;>simp[hb]
   have:(1#64).getLsbD i=false:=by simp[BitVec.getLsbD_one,h0]
   rw[this];cases y.getLsbD 0<;>simp[this]
  rw[this];cases y.getLsbD 0<;>decide
 rw[gy,Lf];cases a.testBit v<;>cases U.testBit v<;>simp
theorem aae{a U v:Nat}(ha:a<4611686018427387904)(hU:U<4611686018427387904)(hv:v<62){k:zV->Prop}(h:k (.bool (decide (a.testBit v=true\/U.testBit v=false)))):
  Un .xor (.int .i64 (U:Int)) λv33=>ae .num .or (.int .i64 (a:Int)) v33 λv34=>ae .num .shr v34 (.int .i64 (v:Int)) λv35=>ae .num .and v35 (.int .i64 1) λv36=>ae .num .eql v36 (.int .i64 1) k:=by
 refine⟨_,rfl,_,rfl,?_⟩;have h0:¬((v:Int)<0):=by omega
 refine⟨_,by simp only[eX,h0,xaT];rfl,_,rfl,?_⟩;refine ae.lT ?_;have hs:(if IntKind.i64.signed=true then(-1:Int)else IntKind.i64.max)= -1:=rfl;rw[hs,Kp ha hU hv];by_cases hc:a.testBit v=true\/U.testBit v=false
 ·rw[xae hc];rw[xau hc]at h;exact h
 rw[xac hc];rw[xap hc]at h;exact h
end Go.Sx
set_option maxRecDepth 100000
namespace Go.Proofs
open Go Go.Sx Tryz
section
theorem gT(x:zV)(r:List zV)(i:Nat):bA (x::r) (i+1)=bA r i:=by cases x<;>rfl
def iY(n:Nat)(L:List (zL))(U a k:Nat):zL:=((List.range k).filter λv=> !a.testBit v&&U.testBit v).map λv=>ak.lvl n L a v+ak.B n (ak.lvl n L) (ak.aB a v true)
theorem JZ{n:Nat}{L:List (zL)}{U a:Nat}:iY n L U a n=(ak.dj n U a).map λv=>ak.lvl n L a v+ak.B n (ak.lvl n L) (ak.aB a v true):=by
 unfold iY ak.dj ak.bU;rw[xds];congr 1;apply xdv;intro v _;cases a.testBit v<;>cases U.testBit v<;>rfl
theorem ue{n:Nat}{L:List (zL)}{U a k:Nat}:iY n L U a (k+1)=if a.testBit k=true\/U.testBit k=false then iY n L U a k else iY n L U a k++[ak.lvl n L a k+ak.B n (ak.lvl n L) (ak.aB a k true)]:=by
 unfold iY;rw[xcR,xcs,xaB];cases h1:a.testBit k<;>cases h2:U.testBit k<;>simp[h1,h2]
def yz(l:zL):zV:=if l=[]then iv (-1)else iv ((ak.fP l:Nat):Int)
theorem RO(n:Nat)(c:Nat->Nat->Nat)(M:Nat)(hc:∀a v,c a v<=M):∀f a,ak.RP n c f a<=f*M
 |0,a=>by simp[ak.RP]
 |f+1,a=>by
  rw[ak.RP,xbz];by_cases h:ak.bU n a=[]
  ·rw[h];simp[ak.fP]
  have:=ak.nG (l:=(ak.bU n a).map λv=>c a v+ak.RP n c f (ak.aB a v true)) (by simpa using h);obtain⟨v,_,e⟩:=xam.1 this;rw[<-e];have h1:=hc a v;have h2:=RO n c M hc f (ak.aB a v true);omega
theorem Jy{wA:zV}{n:Nat}{L:List (zL)}{B:Hp}(h:vO wA n L B)(a:Nat):ak.B n (ak.lvl n L) a<35184372088832:=by
 have h1:=RO n (ak.lvl n L) 2199023255551 (λa v=>xcq (Ed h a v)) n a;have h2:n*2199023255551<=12*2199023255551:=xba _ h.n12;unfold ak.B;omega
theorem Aq{a U n:Nat}(hU:U<2^n)(h:∀v,v<n->¬(a.testBit v=false/\U.testBit v=true)):a&&&U=U:=by
 apply xaX;intro k;rw[xa8];by_cases hk:k<n
 ·have:=h k hk;cases h1:a.testBit k<;>cases h2:U.testBit k<;>simp_all
 have:U.testBit k=false:=xbN (xa2 hU (xat zD zO));rw[this];simp
theorem qR{wA:zV}{n:Nat}{L:List (zL)}{B:Hp}(h:vO wA n L B){bp bl bd:Nat}:∀(d a:Nat),(ak.dj n (ak.aV n L) a).length<=d->a<2^n->∀H,lZ bp bl bd wA n L (ak.aV n L) B H->
  Fc zQ 276 #[.pointer (some ⟨bp,0,none⟩),iv (a:Int)] H (λr H'=>r=iv ((ak.B n (ak.lvl n L) a:Nat):Int)/\lZ bp bl bd wA n L (ak.aV n L) B H'):=by
 have hU:=ak.tK n L;have s6:=h.n12;have lg:2^n<=2^12:=xat zD s6;have BT:=ak.HY h.lz zO;intro d;induction d using Nat.strongRecOn with
 |_ d ih=>
  intro a hd ha H hp;obtain⟨nQ,mh,lB,mg,rfl,hM⟩:=hp;refine aK λg=>vX (Nil.ptr ?_);refine af.mk (Ld.mk zM rfl ?_);refine ae.fm (by simp[aS];omega) (by simp[aS];omega) (Nil.ptr ?_);refine af.mk (Ld.mk zM rfl ?_);have hBa:ak.B n (ak.lvl n L) a=ak.B n (ak.lvl n L) (a&&&ak.aV n L):=(ak.WS BT a).symm;have Wi:ak.dj n (ak.aV n L) (a&&&ak.aV n L)=ak.dj n (ak.aV n L) a:=ak.j5 _ _ _;have Zm:a&&&ak.aV n L<2^n:=xaE xcd ha;have mR:(a&&&ak.aV n L) &&&ak.aV n L=a&&&ak.aV n L:=by rw[Nat.and_assoc,Nat.and_self]
  rw[hBa];rw[<-Wi]at hd;obtain⟨a',cW⟩:∃a',a'=a&&&ak.aV n L:=⟨_,rfl⟩;rw[<-cW]at Zm hd mR⊢;clear hBa Wi ha cW;have aD:=JZ (n:=n) (L:=L) (U:=ak.aV n L) (a:=a');have zy:ak.B n (ak.lvl n L) a'=ak.fP (iY n L (ak.aV n L) a' n):=by
   rw[aD];have:=ak.acE BT a';rw[mR]at this;exact this
  refine ae.bB (Br.dec (λh0=>?_) (λh0=>?_))
  ·refine aQ.here ⟨?_,nQ,mh,lB,mg,rfl,hM⟩;have:ak.dj n (ak.aV n L) a'=[]:=by
    rw[xcM];intro v hv;obtain⟨_,h2,h3⟩:=ak.eT.1 hv;rw[h0,h3]at h2;cases h2
   rw[zy,aD,this];rfl
  have hne:iY n L (ak.aV n L) a' n≠[]:=by
   rw[aD];intro e;apply h0;rw[<-mR];refine Aq hU λv hv hh=>?_;have:v∈ak.dj n (ak.aV n L) a':=ak.eT.2 ⟨hv,hh.1,hh.2⟩;rw[List.map_eq_nil_iff.1 e]at this;simp at this
  apply Nil.ptr;refine af.mk (Ld.mk zM rfl ?_);obtain⟨P4,m2,uT,tw⟩:=hM;cases hg:bO m2 a' with
  |some x=>
   have hx:=Bs (f:=ak.B n (ak.lvl n L)) tw hg;refine aT.hit (ke:=ki) (k:=a') Ek uT (by exact .tail _ (.tail _ (.head _))) hg λy hy=>?_;subst hy;refine Ext.mk rfl (Ext.mk rfl (Br.yes (aQ.here ⟨?_,nQ,mh,lB,mg,rfl,P4,m2,uT,tw⟩)));rw[hx];rfl
  |none=>
   refine aT.bU (ke:=ki) (k:=a') Ek uT (by exact .tail _ (.tail _ (.head _))) hg ?_;refine Ext.mk rfl (Ext.mk rfl (Br.no (Nil.ptr ?_)));refine af.mk (Ld.mk zM rfl ?_);refine⟨λvs H=>∃k:Nat,vs=[yz (iY n L (ak.aV n L) a' k),iv (k:Int)]/\k<=n/\lZ bp bl bd wA n L (ak.aV n L) B H,λvs _=>n-bA vs 1,
    JE.mk ⟨0,rfl,xaA _,nQ,mh,lB,mg,rfl,P4,m2,uT,tw⟩,?_⟩
   clear uT tw hg P4 nQ mh lB mg m2;rintro w22 w23 H ⟨k,⟨⟩,hk,hp⟩ gs;refine ae.cX (Br.dec (λhlt=>?_) (λhlt=>?_))
   ·intro J hJ;have Nw:=hp;obtain⟨nQ,mh,lB,mg,rfl,hM⟩:=hp;apply Nil.ptr;refine af.mk (Ld.mk zM rfl ?_);refine aae zO zO zO ?_;have BN:∀l H,l=iY n L (ak.aV n L) a' (k+1)->lZ bp bl bd wA n L (ak.aV n L) B H->J [yz l] H:=λl H hl hp=>hJ _ _ λgs=>by
     exact ae.inc (az.mk ⟨k+1,by rw[hl],by omega,hp⟩ (by rw[gT,gT];show n-(((k:Int)+1).toNat)<n-((k:Int).toNat);omega))
    by_cases hc:a'.testBit k=true\/(ak.aV n L).testBit k=false
    ·rw[xau hc];refine Br.yes (JE.mk (BN _ _ ?_ Nw));rw[ue,xae hc]
    rw[xap hc];have hck:a'.testBit k=false/\(ak.aV n L).testBit k=true:=by
     cases h1:a'.testBit k<;>cases h2:(ak.aV n L).testBit k<;>simp_all
    have hmem:k∈ak.dj n (ak.aV n L) a':=ak.eT.2 ⟨hlt,hck.1,hck.2⟩;refine Br.no (DR.self ?_);have hpk:2^k<=2^12:=xat zD zO;refine ae.DS (a:=1) (by simp[IntKind.bits];omega) (by rw[xbi];simp[aS];omega) ?_;rw[xbi];refine ae.No (by simp[aS];omega) (by simp[aS];omega) ?_;have U5:a'|||2^k=ak.aB a' k true:=rfl
    rw[U5];refine aa.fq (Bl h Nw Zm hlt hck.1) ?_;rintro r H1 ⟨rfl,uP⟩;have hlen:(ak.dj n (ak.aV n L) (ak.aB a' k true)).length<d:=by
     have h1:(ak.dj n (ak.aV n L) (ak.aB a' k true)).length+1=(ak.dj n (ak.aV n L) a').length:=by
      unfold ak.dj ak.bU;rw[xds,xds];refine ak.mX _ _ k (List.range n) xbs (xaO.2 hlt) (by simp[hck]) (by simp[ak.ai]) λy hy hne=>?_;rw[ak.pM hne]
     omega
    refine aa.fq (ih _ hlen (ak.aB a' k true) (xal _) (ak.fw Zm hlt) H1 uP) ?_;rintro r H2 ⟨rfl,lg⟩;have Zl:=Ed h a' k;have X8:=Jy h (ak.aB a' k true);refine ae.gL ?_;have hstep:=ue (n:=n) (L:=L) (U:=ak.aV n L) (a:=a') (k:=k);rw[xac hc]at hstep;generalize ak.lvl n L a' k+ak.B n (ak.lvl n L) (ak.aB a' k true)=x at hstep;unfold yz;by_cases hl:iY n L (ak.aV n L) a' k=[]
    ·rw[xae hl];refine ae.lss (cz.mk true (λe=>by simp at e) (λ_=>rfl) λgs=>Br.yes (JE.mk ?_));have:=BN [x] _ (by rw[hstep,hl];rfl) lg;simpa[yz,ak.fP]using this
    rw[xac hl];have hms:=ak.D8 (iY n L (ak.aV n L) a' k) x;rw[xac hl,<-hstep]at hms;have aeB:iY n L (ak.aV n L) a' (k+1)≠[]:=by rw[hstep];simp
    have Ds:=BN _ H2 rfl lg;unfold yz at Ds;rw[xac aeB,hms]at Ds;have hneg:decide (((ak.fP (iY n L (ak.aV n L) a' k):Nat):Int)<0)=false:=xap zO;by_cases hx:x<ak.fP (iY n L (ak.aV n L) a' k)
    ·rw[xdj zO]at Ds;refine ae.lss ?_;rw[hneg];exact cz.mk true (λ_=>ae.cX ⟨rfl,by rw[xau hx]⟩) (λe=>by simp at e) λgs=>Br.yes (JE.mk Ds)
    rw[xbX zO]at Ds;refine ae.lss ?_;rw[hneg];exact cz.mk false (λ_=>ae.cX ⟨rfl,by rw[xap hx]⟩) (λe=>by simp at e) λgs=>Br.no (JE.mk Ds)
   have:k=n:=by omega
   subst this;obtain⟨nQ,mh,lB,mg,rfl,P4,m2,uT,tw⟩:=hp;apply Nil.ptr;refine af.mk (Ld.mk zM rfl ?_);unfold yz;rw[xac hne,<-zy];refine aT.bT (ke:=ki) (vr:=vrN) (b:=bd) (val:=iv ((ak.B k (ak.lvl k L) a':Nat):Int)) (k:=a') (x:=ak.B k (ak.lvl k L) a') Ek Uc uT rfl λes' cC BU=>⟨_,.tail (.tail (.head _)),?_⟩;have aeH:∀x∈cY m2 a' (ak.B k (ak.lvl k L) a'),x.2=ak.B k (ak.lvl k L) x.1:=Bn (f:=ak.B k (ak.lvl k L)) tw;exact aQ.here ⟨rfl,nQ,mh,es',cC,rfl,P4,_,BU,aeH⟩
end
section
def agl(v:zV)(ts:List Tb)(B:Hp)(r:zV)(H:Hp):Prop:=
 (qG ts/\∃(bp bl bd n:Nat) (L:List (zL)) (N:Hp),ts=JS n L/\(L=[]->n=0)/\n<=16/\(∀ws∈L,ak.dA n ws)/\r=.tuple #[.pointer (some ⟨bp,0,none⟩),iv 0]/\lZ bp bl bd v n L (ak.aV n L) (N++B) H)
 \/(¬qG ts/\r=.tuple #[.pointer none,iv 5])
theorem r6(n:Nat)(L:List (zL)):Jq n L #[] 0 #[] 0:=⟨⟨[],aT.empty,by simp⟩,⟨[],aT.empty,by simp⟩⟩
theorem DH{n:Nat}{L:List (zL)}{k:Nat}(h:k<L.length):ak.aV n (L.take (k+1))=ak.aV n (L.take k)|||ak.oF n L[k]:=by
 unfold ak.aV;rw[xbv,xab h,xdO,xdV];rfl
theorem Lz{B:Hp}{v:zV}{ts:List Tb}(ht:iq B v ts)(cJ:ts.length<4398046511104):Px zQ 274 #[v] B (agl v ts B):=by
 obtain⟨va,vc,vl,rfl⟩:∃a c l,v=.slice a l c:=by
  obtain⟨rs,h1,_⟩:=ht;obtain⟨a,c,e,_⟩:=h1.shape;exact⟨a,c,_,e⟩
 refine aK λg=>FH λb1 _ b2 _=>?_;refine Build.mk (cs:=[.slice va vl vc,iv 0,iv 0,.map (some b1),.map (some b2)]) zK λbp _=>?_;generalize hvs:Value.slice va vl vc=vv at ht⊢;refine ht.bE (ae.bB (b:=0) (Br.dec (λh0=>?_) (λh0=>?_)))
 ·have Eu:ts=[]:=xb5 h0;subst Eu;refine⟨_,_,rfl,aF.cons aF.swap,(by repeat (first|exact bG.refl _|apply bG.cons|apply bG.app)),Or.inl ⟨by simp[qG],bp,b1,b2,0,[],[],rfl,λ_=>rfl,by omega,by simp,rfl,_,_,_,_,?_,r6 _ _⟩⟩;subst hvs;rfl
 refine aa.pq (B:=B) (O7 ht cJ) ?_;rintro r N ⟨s,rfl⟩;apply Ext.two;by_cases hO:qG ts
 case neg=>
  rw[xac hO];exact ae.jD (a:=5) (b:=0) (Br.dec (λ_=>As.mk (by repeat (first|exact bG.refl _|apply bG.cons|apply bG.app)) (.inr ⟨hO,rfl⟩)) (λh=>absurd zD h))
 rw[xae hO];refine ae.jD (a:=0) (b:=0) (Br.dec (λh=>absurd rfl h) (λ_=>?_));obtain⟨n,L,o8,rfl,hne,hf⟩:=IA hO (by intro e;rw[e]at h0;exact h0 rfl);rw[xax]at cJ h0;obtain⟨w0,Nq⟩:∃w0,L[0]? =some w0:=⟨_,xab (xb7.2 hne)⟩;refine ht.ldN (i:=0) (t:=⟨n,w0⟩) (by rw[xar,Nq];rfl) zS ?_;simp only;refine Nil.ptr (af.mk (St.one (c:=#[vv,iv 0,iv 0,.map (some b1),.map (some b2)]) (c':=#[vv,iv (n:Int),iv 0,.map (some b1),.map (some b2)]) (H':=(bp,.cells #[vv,iv (n:Int),iv 0,.map (some b1),.map (some b2)] 364 zZ)::(b2,.map #[] 0)::(b1,.map #[] 0)::(N++B)) (by subst hvs;exact .head _) rfl zI rfl ?_));refine ht.bE ?_;rw[xax];refine⟨λvs H=>∃(k:Nat) (N:Hp),vs=[iv (k:Int)]/\k<=L.length/\H=(bp,.cells #[vv,iv (n:Int),iv ((ak.aV n (L.take k):Nat):Int),.map (some b1),.map (some b2)] 364 zZ)::(b2,.map #[] 0)::(b1,.map #[] 0)::(N++B),
  λvs _=>L.length-bA vs 0,JE.mk ⟨0,N,rfl,by omega,rfl⟩,?_⟩
 clear N;rintro w H ⟨k,N,⟨⟩,hk,rfl⟩ gs;refine ae.cX (Br.dec (λhlt=>?_) (λhlt=>?_))
 ·have hg:(L.map λws=>(⟨n,ws⟩:Tb))[k]? =some ⟨n,L[k]⟩:=by rw[xar,xab hlt];rfl
  have n5:=hf L[k] (xaF hlt);refine ht.ld hg zS λs hw=>?_;intro b3 _;refine St.p ?_ ?_
  ·have:=bu hw;simpa[Value.oneCell']using this
  refine ax.q ?_;refine aa.eq (B:=B) (tR (v:=.agg (List.toArray [iv (n:Int),s])) (t:=⟨n,L[k]⟩) ⟨s,rfl,hw⟩) ?_;rw[xae (show TF ⟨(n:Int),L[k]⟩from⟨by simp,by simpa using n5⟩)];apply Ext.two;simp only[xbI];have ajf:2^n<=2^16:=xat (n:=2) zD o8;have aaG:ak.oF n L[k]<2^n:=ak.mz n L[k] n;have hus:=ak.tK n (L.take k);apply Nil.ptr;refine af.mk (Ld.mk zM rfl ?_);refine aH.q (ae.No (by simp[aS];omega) (by simp[aS];omega) ?_);rw[<-DH hlt];refine Nil.ptr (af.mk (St.one (c:=#[vv,iv (n:Int),iv ((ak.aV n (L.take k):Nat):Int),.map (some b1),.map (some b2)]) (c':=#[vv,iv (n:Int),iv ((ak.aV n (L.take (k+1)):Nat):Int),.map (some b1),.map (some b2)]) (by repeat (first|exact cu.head _|apply cu.tail|apply cu.aO)) rfl zI rfl ?_));exact ae.inc (az.of .tail ⟨k+1,N,rfl,by omega,rfl⟩ (by simp[bA];omega))
 have:k=L.length:=by omega
 subst this;rw[xbe];refine⟨_,_,rfl,aF.cons aF.swap,(by repeat (first|exact bG.refl _|apply bG.cons|apply bG.app)),Or.inl ⟨hO,bp,b1,b2,n,L,N,rfl,λe=>absurd e hne,o8,hf,rfl,_,_,_,_,rfl,r6 _ _⟩⟩
theorem Pa{n:Nat}{c:Nat->Nat->Nat}{f a v:Nat}(hv:v∈ak.bU n a)(he:c a v+ak.B n c (ak.aB a v true)=ak.B n c a)(hm:∀u∈ak.bU n a,u<v->c a u+ak.B n c (ak.aB a u true)≠ak.B n c a):
    ak.ord n c (f+1) a=v::ak.ord n c f (ak.aB a v true):=by
  obtain⟨u,h1,h2,h3,h4⟩:=ak.uy (c:=c) (f:=f) (List.ne_nil_of_mem hv);rcases xcW u v with h|h|h
  · exact absurd h2 (hm u h1 h)
  · rw[h4,h]
  · exact absurd he (h3 v hv h)
theorem LR{wA:zV}{n:Nat}{L:List (zL)}{B:Hp}{bp bl bd a:Nat}(ha:a<4611686018427387904){H:Hp}(hp:lZ bp bl bd wA n L 0 B H):
    Fc zQ 276 #[.pointer (some ⟨bp,0,none⟩),iv (a:Int)] H (λr H'=>r=iv 0/\H'=H):=by
  obtain⟨nQ,mh,lB,mg,rfl,hM⟩:=hp;refine aK λg=>vX (Nil.ptr ?_);refine af.mk (Ld.mk zM rfl ?_);refine ae.fm (b:=0) (by simp[aS];omega) (by simp[aS]) (Nil.ptr ?_);refine af.mk (Ld.mk zM rfl ?_);exact ae.bB (b:=0) (Br.T (aQ.here ⟨rfl,rfl⟩))
def acD(ts:List Tb)(B:Hp)(r:zV)(H:Hp):Prop:=
  (¬qG ts/\r=.tuple #[iv 0,.slice none 0 0,iv 5])\/
  (qG ts/\∃(n:Nat) (L:List (zL)),ts=JS n L/\(L=[]->n=0)/\n<=16/\(∀ws∈L,ak.dA n ws)/\
    ((12<n/\r=.tuple #[iv 0,.slice none 0 0,iv 6])\/
     (n<=12/\∃(s:zV) (C N:Hp),r=.tuple #[iv ((ak.B n (ak.lvl n L) 0:Nat):Int),s,iv 0]/\aR 3 .i64 s (iw (ak.ord n (ak.lvl n L) n 0)) C/\H=C++(N++B))))
structure BSt(n:Nat)(c:Nat->Nat->Nat)(s:zV)(a:Nat)(l:zL)(C:Hp):Prop where
  own:aR 3 .i64 s (iw l) C
  lt:a<2^n
  len:(ak.bU n a).length+l.length=n
  pre:l++ak.ord n c (n-l.length) a=ak.ord n c n 0
theorem Jj{a v:Nat}:(a>>>v&&&1=0)↔a.testBit v=false:=by
  have:=xd2 (x:=a) (i:=v);rw[this,xc7,xaN];simp
theorem Vi{B:Hp}{v:zV}{ts:List Tb}(ht:iq B v ts)(cJ:ts.length<33554432):Px zQ 237 #[v] B (acD ts B):=by
  refine aK λg=>F5 (aa.pq (Lz ht zO) ?_);rintro r N0 (⟨hO,bp,bl,bd,n,L,N,rfl,Wh,o8,hf,rfl,hp⟩|⟨hO,rfl⟩)
  case inr=>exact Ext.mk rfl (Ext.mk rfl (ae.jD (a:=5) (b:=0) (Br.dec (λ_=>As.mk (by repeat (first|exact bG.refl _|apply bG.cons|apply bG.app)) (.inl ⟨hO,rfl⟩)) (λh=>absurd zD h))))
  generalize N0++B=H2 at hp⊢;clear N0;rw[oD]at cJ;have Nw:=hp;obtain⟨nQ,mh,lB,mg,rfl,hM⟩:=hp;refine Ext.mk rfl (Ext.mk rfl (ae.jD (a:=0) (b:=0) (Br.dec (λh=>absurd rfl h) (λ_=>?_))));apply Nil.ptr;refine af.mk (Ld.mk zM rfl ?_);refine ae.gW (b:=12) (Br.dec (λh12=>As.mk (by repeat (first|exact bG.refl _|apply bG.cons|apply bG.app)) (.inr ⟨hO,n,L,rfl,Wh,o8,hf,.inl ⟨h12,rfl⟩⟩)) (λh12=>?_));clear hM;have s6:n<=12:=by omega
  have hOK:L≠[]->vO v n L (N++B):=λhne=>⟨ht.mono zS,hf,hne,cJ,s6⟩;have lg:2^n<=2^12:=xat zD s6;have hm0:(ak.bU n 0).length=n:=by
    have:ak.bU n 0=List.range n:=by unfold ak.bU;rw[xdo];simp
    rw[this,xaK]
  refine⟨λvs H=>∃(s:zV) (a:Nat) (l:zL) (C H1:Hp),vs=[s,iv (a:Int)]/\BSt n (ak.lvl n L) s a l C/\lZ bp bl bd v n L (ak.aV n L) (N++B) H1/\H=C++H1,
    λvs _=>(ak.bU n (bA vs 1)).length,JE.mk ⟨_,0,[],[],_,rfl,⟨aR.nil,xbK n,by rw[hm0];rfl,by simp⟩,Nw,rfl⟩,?_⟩
  clear Nw nQ mh lB mg;rintro w14 w15 H ⟨s,a,l,C,H1,⟨⟩,hb,hp,rfl⟩ gs;have Nw:=hp;obtain⟨nQ,mh,lB,mg,rfl,hM⟩:=hp;refine hb.own.bE ?_;rw[an];apply Nil.ptr;refine af.mk (Ld.mk zM rfl ?_);have Ww:=hb.len;refine ae.cX (Br.dec (λhlt=>?_) (λhlt=>?_))
  · have aeE:ak.bU n a≠[]:=by intro e;rw[e]at Ww;simp at Ww;omega
    have hne:L≠[]:=λe=>by have:=Wh e;omega
    have mq:=hOK hne;have hnf:n-l.length=n-l.length-1+1:=by omega
    apply Nil.ptr;refine af.mk (Ld.mk zM rfl ?_);refine⟨λvs H=>∃(k:Nat) (H1:Hp),vs=[w14,iv (a:Int),iv (k:Int)]/\k<=n/\(∀u∈ak.bU n a,u<k->ak.lvl n L a u+ak.B n (ak.lvl n L) (ak.aB a u true)≠ak.B n (ak.lvl n L) a)/\lZ bp bl bd v n L (ak.aV n L) (N++B) H1/\H=C++H1,
      λvs _=>n-bA vs 2,JE.mk ⟨0,_,rfl,by omega,λu _ h=>by omega,Nw,rfl⟩,?_⟩
    clear hM Nw;rintro w28 w29 w30 H ⟨k,H1,⟨⟩,hk,hmin,hp,rfl⟩ gs;refine ae.cX (Br.dec (λhlk=>?_) (λhlk=>?_))
    · intro J hJ
      have hpk:2^k<=2^12:=xat zD zO;have hno:∀H1,¬(a.testBit k=false/\ak.lvl n L a k+ak.B n (ak.lvl n L) (ak.aB a k true)=ak.B n (ak.lvl n L) a)->lZ bp bl bd v n L (ak.aV n L) (N++B) H1->J [.bool false] (C++H1):=λH1 hx hp=>hJ _ _ λgs=>by
        refine Br.no (ae.inc (az.mk ⟨k+1,H1,rfl,by omega,λu hu hlu=>?_,hp,rfl⟩ (by rw[gT,gT,gT,gT];show n-(((k:Int)+1).toNat)<n-((k:Int).toNat);omega)));by_cases e:u=k
        · subst e;exact λh=>hx ⟨(ak.cG.1 hu).2,h⟩
        · exact hmin u hu zO
      refine DR.self ?_;have ajV:a<4611686018427387904:=by have:=hb.lt;omega
      refine ae.e9 (by simp[aS];omega) (ae.fm (b:=1) (by simp[aS];exact xaE (xbC _ _) zO) zD (ae.bB (b:=0) (Br.dec (λh0=>?_) (λh0=>JE.mk (hno H1 (λh=>h0 (Jj.2 h.1)) hp)))));have hak:=Jj.1 h0;refine ae.DS (a:=1) (by simp[IntKind.bits];omega) (by rw[xbi];simp[aS];omega) ?_;rw[xbi];refine ae.No (by simp[aS];omega) (by simp[aS];omega) ?_;have U5:a|||2^k=ak.aB a k true:=rfl
      rw[U5];intro F;refine aa.fq (Bl mq hp hb.lt hlk hak) ?_;rintro r H2 ⟨rfl,lg⟩;intro F;refine aa.fq (qR mq _ (ak.aB a k true) (xal _) (ak.fw hb.lt hlk) H2 lg) ?_;rintro r H3 ⟨rfl,We⟩;have Zl:=Ed mq a k;have X8:=Jy mq (ak.aB a k true);refine ae.gL λF=>(aa.fq (qR mq _ a (xal _) hb.lt H3 We) ?_);rintro r H4 ⟨rfl,Y9⟩;refine ae.bB ?_;by_cases he:ak.lvl n L a k+ak.B n (ak.lvl n L) (ak.aB a k true)=ak.B n (ak.lvl n L) a
      · rw[xau he]
        have hmem:k∈ak.bU n a:=ak.cG.2 ⟨hlk,hak⟩;have Ur:=Pa (f:=n-l.length-1) hmem he hmin;have hml:=ak.gf hmem;refine aI.mk (JE.mk (hJ _ _ λgs=>Br.yes ?_));refine aj.int (e:=3) zK zK zK λxb=>?_;refine aR.app (A:=[_]) hb.own (by exact .head _) zP zP λv' C' ho=>?_;refine ae.DS (a:=1) (by simp[IntKind.bits];omega) (by rw[xbi];simp[aS];omega) ?_;rw[xbi];refine ae.No (by simp[aS];omega) (by simp[aS];omega) ?_;rw[U5];refine az.of .right ⟨v',ak.aB a k true,l++[k],C',H4,rfl,⟨by simpa[iw]using ho,ak.fw hb.lt hlk,by simp;omega,?_⟩,Y9,rfl⟩ (by rw[gT,gT];show(ak.bU n (ak.aB a k true)).length<(ak.bU n a).length;omega);have:=hb.pre;rw[hnf,Ur]at this;rw[xaf,xbg,Nat.sub_add_eq,xai];exact this
      · rw[xap he]
        exact aI.mk (JE.mk (hno H4 (λh=>he h.2) Y9))
    · obtain⟨u,h1,h2,_⟩:=ak.uy (c:=ak.lvl n L) (f:=0) aeE
      exact absurd h2 (hmin u h1 (by have:=(ak.cG.1 h1).1;omega))
  · have nM:l.length=n:=by omega
    have hl:l=ak.ord n (ak.lvl n L) n 0:=by
      have:=hb.pre;rw[nM,xcC]at this;simpa[ak.ord]using this
    have hown:=hb.own;rw[hl]at hown;by_cases hne:L=[]
    · have hn:=Wh hne
      subst hne;subst hn;refine aa.fq (LR (a:=0) zO Nw) ?_;rintro r H3 ⟨rfl,rfl⟩;exact⟨_,_,rfl,.refl _,(by repeat (first|exact bG.refl _|apply bG.cons|apply bG.app)),.inr ⟨hO,0,[],rfl,Wh,o8,hf,.inr ⟨s6,_,C,(_::_::_::N),rfl,hown,rfl⟩⟩⟩
    · refine aa.fq (qR (hOK hne) _ 0 (xal _) (xbK n) _ Nw) ?_
      rintro r H3 ⟨rfl,Q9,RB,es4,ck4,rfl,Yh⟩;exact⟨_,_,rfl,.refl _,(by repeat (first|exact bG.refl _|apply bG.cons|apply bG.app)),.inr ⟨hO,n,L,rfl,Wh,o8,hf,.inr ⟨s6,_,C,(_::_::_::N),rfl,hown,rfl⟩⟩⟩
end
end Go.Proofs
namespace Sh
abbrev It:=Int×Int
def prec(a b:It):Bool:=decide (a.2<b.2)||(a.2==b.2&&decide (a.1<b.1))
theorem uo{a b:It}:prec a b=true↔a.2<b.2\/a.2=b.2/\a.1<b.1:=by simp[prec]
theorem kU{a b:It}:prec a b=false↔¬(a.2<b.2\/a.2=b.2/\a.1<b.1):=by rw[<-uo];simp
theorem mG(a:It):prec a a=false:=by rw[kU];omega
theorem oW{a b:It}(h:prec a b=true):prec b a=false:=by rw[uo]at h;rw[kU];omega
theorem le_trans{a b c:It}(h1:prec b a=false)(h2:prec c b=false):prec c a=false:=by rw[kU]at*;omega
theorem Eg{a b c:It}(h1:prec a b=true)(h2:prec c b=false):prec c a=false:=by rw[uo]at h1;rw[kU]at*;omega
def gA(V:Nat->It)(i:Nat)(b:It):Nat->It:=λj=>if j=i then b else V j
def E(V:Nat->It)(j:Nat):Prop:=prec (V j) (V ((j-1) /2))=false
def yG(n:Nat)(V:Nat->It)(i:Nat):Prop:=
 (∀j,0<j->j<n->j≠i->(j-1) /2≠i->E V j)/\(∀j,0<j->j<n->(j-1) /2=i->0<i->prec (V j) (V ((i-1) /2))=false)
def nX(n:Nat)(V:Nat->It)(i:Nat):Prop:=∀j,0<j->j<n->(j-1) /2=i->E V j
def Vy(n:Nat)(V:Nat->It)(i:Nat):Prop:=
 (∀j,0<j->j<n->(j-1) /2≠i->E V j)/\(∀j,0<j->j<n->(j-1) /2=i->0<i->prec (V j) (V ((i-1) /2))=false)
def Ord(n:Nat)(V:Nat->It):Prop:=∀j,0<j->j<n->E V j
theorem SZ{n i:Nat}{V:Nat->It}(hi:0<i)(hn:i<n)(h:yG n V i)(ha:prec (V i) (V ((i-1) /2))=true):
  yG n (gA (gA V i (V ((i-1) /2))) ((i-1) /2) (V i)) ((i-1) /2)/\nX n (gA (gA V i (V ((i-1) /2))) ((i-1) /2) (V i)) ((i-1) /2):=by
 obtain⟨h1,h2⟩:=h;have hq:(i-1) /2≠i:=by omega
 generalize hqd:(i-1) /2=q at*;have hqi:q<i:=by omega
 refine⟨⟨?_,?_⟩,?_⟩
 ·intro j j0 jn jq jp;unfold E gA;rw[xac jq,xac jp];by_cases e1:j=i
  ·exact absurd (by rw[e1,hqd]) jp
  rw[xac e1];by_cases e2:(j-1) /2=i
  ·rw[xae e2];exact h2 j j0 jn e2 hi
  rw[xac e2];exact h1 j j0 jn e1 e2
 ·intro j j0 jn jp q0;unfold gA;have hqq:(q-1) /2≠q:=by omega
  have aeu:(q-1) /2≠i:=by omega
  rw[xac hqq,xac aeu];have Zg:j≠q:=by omega
  rw[xac Zg];have AB:E V q:=h1 q q0 zO hq zO;by_cases e1:j=i
  ·rw[xae e1];exact AB
  rw[xac e1];have:=h1 j j0 jn e1 zO;unfold E at this AB;rw[jp]at this;exact le_trans AB this
 intro j j0 jn jp;unfold E gA;rw[jp,xae rfl];have Zg:j≠q:=by omega
 rw[xac Zg];by_cases e1:j=i
 ·rw[xae e1];exact oW ha
 rw[xac e1];have:=h1 j j0 jn e1 zO;unfold E at this;rw[jp]at this;exact Eg ha this
theorem S6{n i:Nat}{V:Nat->It}(h:yG n V i)(ha:i=0\/prec (V i) (V ((i-1) /2))=false):Vy n V i:=by
 refine⟨λj j0 jn jp=>?_,h.2⟩;by_cases e:j=i
 ·subst e;rcases ha with ha|ha
  ·omega
  exact ha
 exact h.1 j j0 jn e jp
theorem yj{n i:Nat}{V:Nat->It}(h:Vy n V i)(hc:nX n V i):Ord n V:=λj j0 jn=>by
 by_cases e:(j-1) /2=i
 ·exact hc j j0 jn e
 exact h.1 j j0 jn e
def xS(n:Nat)(V:Nat->It)(i:Nat):Nat:=if(decide (2*i+1+1<n) &&prec (V (2*i+1+1)) (V (2*i+1)))=true then 2*i+1+1 else 2*i+1
theorem rp(n:Nat)(V:Nat->It)(i:Nat):xS n V i=2*i+1\/xS n V i=2*i+2/\2*i+2<n:=by
 unfold xS;split
 ·rename_i h;simp only[xaC,xaP]at h;right;omega
 left;rfl
theorem xR{n i j:Nat}{V:Nat->It}(j0:0<j)(jn:j<n)(jp:(j-1) /2=i):prec (V j) (V (xS n V i))=false:=by
 unfold xS;split
 ·rename_i h;simp only[xaC,xaP]at h;rcases(show j=2*i+1\/j=2*i+1+1 by omega)with rfl|rfl
  ·exact oW h.2
  exact mG _
 rename_i h;rcases(show j=2*i+1\/j=2*i+1+1 by omega)with rfl|rfl
 ·exact mG _
 cases hh:prec (V (2*i+1+1)) (V (2*i+1))
 ·rfl
 exact absurd (by simp[hh,jn]) h
theorem rH{n i:Nat}{V:Nat->It}(h:Vy n V i)(hk:xS n V i<n)(ha:prec (V (xS n V i)) (V i)=true):
  Vy n (gA (gA V i (V (xS n V i))) (xS n V i) (V i)) (xS n V i):=by
 have hl:∀j,0<j->j<n->(j-1) /2=i->prec (V j) (V (xS n V i))=false:=λj=>xR;have hkc:=rp n V i;generalize xS n V i=c at*;obtain⟨h1,h2⟩:=h;have hcp:(c-1) /2=i:=by omega
 have hc0:0<c:=by omega
 have qO:c≠i:=by omega
 refine⟨?_,?_⟩
 ·intro j j0 jn jp;unfold E gA;rw[xac jp];by_cases e1:j=c
  ·rw[xae e1,xae (by rw[e1];exact hcp)];exact oW ha
  rw[xac e1];by_cases e2:j=i
  ·rw[xae e2];have:(j-1) /2≠i:=by omega
   rw[xac this,e2];exact h2 c hc0 hk hcp zO
  rw[xac e2];by_cases e3:(j-1) /2=i
  ·rw[xae e3];exact hl j j0 jn e3
  rw[xac e3];exact h1 j j0 jn e3
 intro j j0 jn jp _;unfold gA;rw[hcp];have:j≠c:=by omega
 have e2:j≠i:=by omega
 rw[xac this,xac e2,xac (λe=>qO e.symm),xae rfl];have:=h1 j j0 jn zO;unfold E at this;rwa [jp]at this
theorem LC{n i:Nat}{V:Nat->It}(h:Vy n V i)(ha:n<=xS n V i\/prec (V (xS n V i)) (V i)=false):Ord n V:=by
 refine yj h λj j0 jn jp=>?_;have hl:=xR (V:=V) j0 jn jp;rcases ha with ha|ha
 ·rcases rp n V i with h|h<;>omega
 unfold E;rw[jp];exact le_trans ha hl
theorem TP{n:Nat}{V:Nat->It}(h:Ord n V):∀j,j<n->prec (V j) (V 0)=false:=by
 intro j;induction j using Nat.strongRecOn with
 |_ j ih=>
  intro jn;by_cases j0:j=0
  ·subst j0;exact mG _
  exact le_trans (ih ((j-1) /2) zO zO) (h j zO jn)
def at'(l:List It)(j:Nat):It:=l.getD j (0,0)
theorem Vm{l:List It}{j:Nat}(h:j<l.length):l[j]? =some (at' l j):=by simp[at',List.getD,h]
theorem gp{l:List It}{i:Nat}(b:It)(h:i<l.length):at' (l.set i b)=gA (at' l) i b:=by
 funext j
 unfold at' gA;simp only[List.getD,xbH];by_cases e:i=j
 ·subst e;simp[h]
 rw[xac e,xac (λx=>e x.symm)]
theorem oK{l:List It}{i:Nat}(h:i<l.length):l.set i (at' l i)=l:=by
 apply xbq;intro j;rw[xbH];by_cases e:i=j
 ·subst e;simp[h,at',List.getD]
 simp[e]
theorem swap_perm{l:List It}{i q:Nat}(hi:i<l.length)(hq:q<l.length)(hne:q≠i):((l.set i (at' l q)).set q (at' l i)).Perm l:=by
 rw[xcX];intro x;have g1:l[i]=at' l i:=by simp[at',List.getD,hi]
 have g2:l[q]=at' l q:=by simp[at',List.getD,hq]
 have g3:(l.set i (at' l q))[q]'(by simp[hq])=at' l q:=by rw[List.getElem_set_ne (λe=>hne e.symm)];exact g2
 rw[xdR (by simp[hq]),xdR hi,g1,g3];have hc:at' l i=x->0<l.count x:=λe=>by rw[xcH,<-e,<-g1];exact xaF hi
 by_cases e1:at' l i=x
 ·have:=hc e1;by_cases e2:at' l q=x<;>simp[e1,e2]<;>omega
 by_cases e2:at' l q=x<;>simp[e1,e2]
def ju(l:List It):Prop:=(l.map Prod.fst).Nodup
theorem ju.perm{l l':List It}(h:ju l)(p:l'.Perm l):ju l':=(p.map _).nodup_iff.2 h
theorem ju.inj{l:List It}(h:ju l){i j:Nat}(hi:i<l.length)(hj:j<l.length)(e:(at' l i).1=(at' l j).1):i=j:=by
 unfold ju at h;have hp:=List.pairwise_iff_getElem.1 h;have g:∀k (hk:k<l.length),(l.map Prod.fst)[k]'(by simpa using hk)=(at' l k).1:=λk hk=>by simp[at',List.getD,hk]
 rcases xcW i j with hlt|rfl|hlt
 ·have:=hp i j (by simpa using hi) (by simpa using hj) hlt;rw[g i hi,g j hj]at this;exact absurd e this
 ·rfl
 have:=hp j i (by simpa using hj) (by simpa using hi) hlt;rw[g i hi,g j hj]at this;exact absurd e.symm this
theorem gF{l:List It}{x:Int}:x∈l.map Prod.fst↔∃j,j<l.length/\(at' l j).1=x:=by
 rw[xbB];constructor
 ·rintro⟨j,hj,e⟩;have hj':j<l.length:=by simpa using hj
  exact⟨j,hj',by simpa[at',List.getD,hj']using e⟩
 rintro⟨j,hj,e⟩;exact⟨j,by simpa using hj,by simpa[at',List.getD,hj]using e⟩
def Dj(f:Int->Option Nat)(x:Int)(p:Option Nat):Int->Option Nat:=λy=>if y=x then p else f y
def l7(l:List It)(f:Int->Option Nat)(i:Nat):Prop:=(∀j,j<l.length->j≠i->f (at' l j).1=some j)/\∀x,x∉l.map Prod.fst->f x=none
def Cons(l:List It)(f:Int->Option Nat):Prop:=(∀j,j<l.length->f (at' l j).1=some j)/\∀x,x∉l.map Prod.fst->f x=none
theorem l7.done{l:List It}{f:Int->Option Nat}{i:Nat}(h:l7 l f i)(ho:ju l)(hi:i<l.length):Cons l (Dj f (at' l i).1 (some i)):=by
 refine⟨λj hj=>?_,λx hx=>?_⟩
 ·unfold Dj;by_cases e:(at' l j).1=(at' l i).1
  ·rw[xae e,ho.inj hj hi e]
  rw[xac e];exact h.1 j hj (λe2=>e (by rw[e2]))
 unfold Dj;rw[xac (λe=>hx (gF.2 ⟨i,hi,e.symm⟩))];exact h.2 x hx
theorem l7.step{l:List It}{f:Int->Option Nat}{i q:Nat}(h:l7 l f i)(ho:ju l)(hi:i<l.length)(hq:q<l.length)(hne:q≠i):
  l7 ((l.set i (at' l q)).set q (at' l i)) (Dj f (at' l q).1 (some i)) q:=by
 have AG:∀j,at' ((l.set i (at' l q)).set q (at' l i)) j=gA (gA (at' l) i (at' l q)) q (at' l i) j:=λj=>by rw[gp _ (by simpa using hq),gp _ hi]
 refine⟨λj hj Zg=>?_,λx hx=>?_⟩
 ·rw[AG];simp only[xbW]at hj;unfold gA Dj;rw[xac Zg];by_cases e:j=i
  ·rw[xae e,xae rfl,e]
  rw[xac e];rw[xac (λe2=>Zg (ho.inj hj hq e2))];exact h.1 j hj e
 have hx':x∉l.map Prod.fst:=λhm=>hx (by
  have:=(swap_perm hi hq hne).map Prod.fst;exact this.mem_iff.2 hm)
 unfold Dj;rw[xac (λe=>hx' (gF.2 ⟨q,hq,e.symm⟩))];exact h.2 x hx'
end Sh
namespace Sh
open Go Go.Sx
def enc(kd:IntKind)(a:It):List zV:=[.int kd a.1,.int .i64 a.2]
def eo(kd:IntKind)(l:List It):List (List zV):=l.map (enc kd)
theorem cK(kd:IntKind)(l:List It):(eo kd l).length=l.length:=by simp[eo]
theorem Ly(kd:IntKind)(l:List It):∀r∈eo kd l,r.length=2:=λr hr=>by
 obtain⟨a,_,rfl⟩:=xam.1 hr;rfl
theorem fi{kd:IntKind}{l:List It}{i:Nat}(h:i<l.length)(au:List (List zV)):(eo kd l++au)[i]? =some (enc kd (at' l i)):=by
 rw[xaQ (by rw[cK];exact h),eo,xar,Vm h];rfl
theorem Re{kd:IntKind}{l:List It}{i:Nat}(h:i<l.length)(a:It)(au:List (List zV)):(eo kd l++au).set i (enc kd a)=eo kd (l.set i a)++au:=by
 rw[xdd _ _ (by rw[cK];exact h),eo,eo,xc5]
def idx(i:Nat):zV:=.int .i64 (i:Int)
def HO(kd:IntKind)(TI TH:TypeId)(h:zV)(l:List It)(f:Int->Option Nat)(C:Hp):Prop:=
 ∃bh sv mv Cs Cm,h=.pointer (some ⟨bh,0,none⟩)/\C=(bh,Obj.cells #[sv,mv] TH (0,0))::(Cs++Cm)/\aM TI 2 sv (eo kd l) Cs/\jR kd idx mv f Cm/\(mv=.map none->l=[])
theorem HO.open{kd:IntKind}{TI TH:TypeId}{h:zV}{l:List It}{f:Int->Option Nat}{C:Hp}(H:HO kd TI TH h l f C)(hp:0<l.length):
  ∃bh la mb au Cm,h=.pointer (some ⟨bh,0,none⟩)/\
   C=(bh,Obj.cells #[.slice (some ⟨la,0,none⟩) l.length (l.length+au.length),.map (some mb)] TH (0,0))::(la,.cells (rows (eo kd l++au)) TI (0,0))::Cm/\
   (∀r∈eo kd l++au,r.length=2)/\jR kd idx (.map (some mb)) f Cm:=by
 obtain⟨bh,sv,mv,Cs,Cm,rfl,rfl,hs,hm,hne⟩:=H;obtain⟨la,au,rfl,rfl,aD⟩:=hs.pos (by rw[cK];exact hp);rw[cK];rcases hm with⟨rfl,_⟩|⟨mb,m,ck,rfl,h2⟩
 ·rw[hne rfl]at hp;simp at hp
 exact⟨bh,la,mb,au,Cm,rfl,rfl,aD,.inr ⟨mb,m,ck,rfl,h2⟩⟩
theorem HO.shut{kd:IntKind}{TI TH:TypeId}{bh la mb n c:Nat}{au:List (List zV)}{Cm:Hp}{l:List It}{f:Int->Option Nat}(aD:∀r∈eo kd l++au,r.length=2)(hn:n=l.length)(hc:c=l.length+au.length)
 (hm:jR kd idx (.map (some mb)) f Cm):
  HO kd TI TH (.pointer (some ⟨bh,0,none⟩)) l f ((bh,Obj.cells #[.slice (some ⟨la,0,none⟩) n c,.map (some mb)] TH (0,0))::(la,.cells (rows (eo kd l++au)) TI (0,0))::Cm):=
 ⟨bh,_,_,[_],Cm,rfl,rfl,aM.mk' aD (by rw[cK];exact hn) (by rw[cK];exact hc),hm,λh=>by simp at h⟩
theorem OP{l au:List (List zV)}(h:∀r∈l++au,r.length=2)(kd:IntKind)(l':List It):∀r∈eo kd l'++au,r.length=2:=λr hr=>by
 rcases xaq.1 hr with hr|hr
 ·exact Ly kd l' r hr
 exact h r (by simp[hr])
theorem nR(kd:IntKind)(a:It):∀v∈enc kd a,v.oneCell'=true:=by simp[enc,Value.oneCell']
end Sh
namespace Sh
open Go Go.Sx
theorem Xg(j:Nat)(h:0<j):((j-1:Nat):Int).tdiv 2=(((j-1) /2:Nat):Int):=by
 rw[Int.tdiv_eq_ediv_of_nonneg zO];omega
theorem uc{l:List It}{i q:Nat}(a:It)(hi:i<l.length)(hq:q<l.length)(hne:q≠i):((l.set i a).set i (at' (l.set i a) q)).set q (at' (l.set i a) i)=(l.set i (at' l q)).set q a:=by
 rw[gp a hi,List.set_set];simp[gA,hne]
def HI(kd:IntKind)(TI TH:TypeId)(h:zV)(l:List It)(C:Hp):Prop:=∃f,HO kd TI TH h l f C/\Cons l f/\Ord l.length (at' l)/\ju l
theorem E4{l:List It}{a:It}{j:Nat}(h:j<l.length):at' (l++[a]) j=at' l j:=by simp[at',List.getD,xaQ h]
theorem OX{l:List It}{f:Int->Option Nat}{a:It}(hc:Cons l f)(ho:Ord l.length (at' l))(h1:ju l)(hx:a.1∉l.map Prod.fst):
  yG (l++[a]).length (at' (l++[a])) l.length/\l7 (l++[a]) f l.length/\ju (l++[a])/\nX (l++[a]).length (at' (l++[a])) l.length:=by
 simp only[xaf,xak,xa3,xa1];refine⟨⟨λj j0 jn jne jp=>?_,λj j0 jn jp=>by omega⟩,⟨λj jn jne=>?_,λx hx'=>?_⟩,?_,λj j0 jn jp=>by omega⟩
 ·unfold E;rw[E4 zO,E4 zO];exact ho j j0 zO
 ·simp only[xaf,xak,xa3]at jn;rw[E4 zO];exact hc.1 j zO
 ·exact hc.2 x (λh=>hx' (by rw[xaB,xaq];exact .inl h))
 unfold ju at*;rw[xaB,xa9];exact⟨h1,by simp,λa' cW b hb=>by simp at hb;subst hb;intro e;subst e;exact hx cW⟩
theorem Rq{l:List It}{f:Int->Option Nat}(hc:Cons l f){x:Int}:(x∉l.map Prod.fst/\f x=none)\/∃i,i<l.length/\(at' l i).1=x/\f x=some i:=by
 by_cases h:x∈l.map Prod.fst
 ·obtain⟨j,hj,e⟩:=gF.1 h;exact .inr ⟨j,hj,e,by rw[<-e];exact hc.1 j hj⟩
 exact .inl ⟨h,hc.2 x h⟩
theorem TA{l:List It}{f:Int->Option Nat}(hc:Cons l f)(ho:Ord l.length (at' l))(h1:ju l){n:Nat}(hn:l.length=n+1):
  let l':=l.take n
  ((0<n->(at' l n)::(l'.set 0 (at' l n)).tail=l'.set 0 (at' l n)/\(at' l 0::l'.set 0 (at' l n)).Perm l/\Vy n (at' (l'.set 0 (at' l n))) 0/\ju (l'.set 0 (at' l n))/\
   l7 (l'.set 0 (at' l n)) (Dj f (at' l 0).1 none) 0)):=by
 intro l' Wh;have hl':l'.length=n:=by simp[l',hn]
 have dy:(at' l 0::l'.set 0 (at' l n)).Perm l:=by
  rw[xcX];intro x;have e:l=l'++[at' l n]:=by
   have:l=l.take n++l.drop n:=(xbo n l).symm;have h2:l.drop n=[at' l n]:=by
    rw[xaV zO,xbc zO];simp[hn,at',List.getD]
   rw[h2]at this;exact this
  have g0:l'[0]' zO=at' l 0:=by simp[l',at',List.getD,hn]
  conv=>rhs;rw[e]
  rw[xcU,xdR zO,g0,xbu];have hc0:at' l 0=x->0<l'.count x:=λe=>by rw[xcH,<-e,<-g0];exact xaF _
  by_cases e1:at' l 0=x
  ·have:=hc0 e1;by_cases e2:at' l n=x<;>simp[e1,e2]<;>omega
  by_cases e2:at' l n=x<;>simp[e1,e2]
 have AG:∀j,j<n->j≠0->at' (l'.set 0 (at' l n)) j=at' l j:=λj hj h0=>by
  rw[gp _ zO];simp[gA,h0,l',at',List.getD,hj]
 have hO:ju (l'.set 0 (at' l n)):=by
  have:=(h1.perm dy:ju _);unfold ju at this⊢;simp only[xaM,xaW]at this;exact this.2
 refine⟨?_,dy,⟨λj j0 jn jp=>?_,λj j0 jn jp h=>by omega⟩,hO,λj hj XY=>?_,λx hx=>?_⟩
 ·cases hh:l' with
  |nil=>rw[hh]at hl';simp at hl';omega
  |cons a r=>simp
 ·unfold E;rw[AG j jn zO,AG _ zO jp];exact ho j j0 zO
 ·simp only[xbW,hl']at hj;rw[AG j hj XY];unfold Dj;rw[xac (λe=>XY (h1.inj zO zO e))];exact hc.1 j zO
 unfold Dj;by_cases e:x=(at' l 0).1
 ·rw[xae e]
 rw[xac e];refine hc.2 x λhm=>hx ?_;have:=(dy.map Prod.fst).mem_iff.2 hm;simp only[xaM,xag]at this;rcases this with h|h
 ·exact absurd h e
 exact h
end Sh
set_option maxRecDepth 100000
namespace Go.Proofs
open Go Go.Sx Tryz
section
open Sh
abbrev SL:=HO .i64 378 376
abbrev Vw:=HI .i64 378 376
theorem vJ(a b:It)(B:Hp):Rd zQ 303 #[.agg #[iv a.1,iv a.2],.agg #[iv b.1,iv b.2]] B (· =.bool (prec a b)):=by
 refine aK λg=>Fq λb1 _ b2 _=>?_
 (repeat (first|apply af.mk|refine Ld.mk (by repeat (first|exact List.Mem.head _|apply List.Mem.tail|apply xaa)) rfl ?_|apply ae.eql|apply ae.geq))
 refine cz.or (a.2==b.2&&decide (a.1<b.1)) (λ_=>?_) rfl λ_=>bD.mk (.skip .tail) rfl
 (repeat (first|apply af.mk|refine Ld.mk (by repeat (first|exact List.Mem.head _|apply List.Mem.tail|apply xaa)) rfl ?_|apply ae.eql|apply ae.geq))
 refine cz.and (decide (a.1<b.1)) (λ_=>?_) rfl λ_=>⟨rfl,rfl⟩
 (repeat (first|apply af.mk|refine Ld.mk (by repeat (first|exact List.Mem.head _|apply List.Mem.tail|apply xaa)) rfl ?_|apply ae.eql|apply ae.geq))
 exact⟨rfl,rfl⟩
theorem qa{h:zV}{l:List It}{f:Int->Option Nat}{C:Hp}(ho:SL h l f C){i:Nat}(hi:i<l.length)(a:It):
  Fc zQ 291 #[h,iv (i:Int),.agg #[iv a.1,iv a.2]] C (λv C'=>v=.tuple #[]/\SL h (l.set i a) (Dj f a.1 (some i)) C'):=by
 obtain⟨bh,la,mb,au,Cm,rfl,rfl,aD,hm⟩:=ho.open zO;refine aK λg=>Fx λb1 _=>?_;refine DR.self ?_
 (repeat (first|apply Nil.ptr|apply af.mk|refine Ld.mk (by repeat (first|exact List.Mem.head _|apply List.Mem.tail|apply xaa)) rfl ?_))
 refine ax.whole (r:=enc .i64 a) zM rfl ?_;refine ah.nat hi ?_;refine St.row (l:=eo .i64 l++au) (by repeat (first|exact cu.head _|apply cu.tail|apply cu.aO)) aD (by rw[xaf,cK];omega) rfl (nR _ _) ?_;refine DR.self ?_
 (repeat (first|apply Nil.ptr|apply af.mk|refine Ld.mk (by repeat (first|exact List.Mem.head _|apply List.Mem.tail|apply xaa)) rfl ?_))
 rw[<-xaH Cm];refine jR.bT (p:=i) (A:=[_,_,_]) (B:=[]) hm λC' hm'=>?_;refine⟨_,_,rfl,.tail,rfl,?_⟩;rw[Re hi,xaH];exact .shut (OP aD _ _) zI zI hm'
theorem XH{h:zV}{l:List It}{f:Int->Option Nat}{C:Hp}(ho:SL h l f C){i:Nat}(hi:i<l.length)(cJ:l.length<4611686018427387904)(hu:yG l.length (at' l) i)(hc:l7 l f i)(hO:ju l):
  Fc zQ 290 #[h,iv (i:Int)] C (λv C'=>v=.tuple #[]/\∃l' f' p,SL h l' f' C'/\l'.Perm l/\Cons l' f'/\Vy l'.length (at' l') p/\p<l'.length/\at' l' p=at' l i/\
   (nX l.length (at' l) i->Ord l'.length (at' l'))):=by
 obtain⟨bh,la,mb,au,Cm,rfl,rfl,aD,hm⟩:=ho.open zO;obtain⟨n,hn⟩:∃n,n=l.length:=⟨_,rfl⟩;obtain⟨a,ha⟩:∃a,a=at' l i:=⟨_,rfl⟩;refine aK λg=>Fy ?_
 (repeat (first|apply Nil.ptr|apply af.mk|refine Ld.mk (by repeat (first|exact List.Mem.head _|apply List.Mem.tail|apply xaa)) rfl ?_))
 refine ah.nat hi ?_;refine ax.row (l:=eo .i64 l++au) zM aD (fi hi au) ?_;intro b6 _;refine St.p (nR _ _) ?_;rw[<-ha];refine⟨λvs H=>∃(j:Nat) (L:List It) (f:Int->Option Nat) (C:Hp),vs=[iv (j:Int)]/\H=(b6,Obj.cells (enc .i64 a).toArray 378 zZ)::C/\SL (.pointer (some ⟨bh,0,none⟩)) L f C/\L.length=n/\j<n/\
   (L.set j a).Perm l/\yG n (at' (L.set j a)) j/\l7 (L.set j a) f j/\(nX n (at' l) i->nX n (at' (L.set j a)) j),
  λvs _=>bA vs 0,.mk ⟨i,l,f,_,rfl,rfl,ho,hn.symm,by omega,?_,?_,?_,?_⟩,?_⟩
 ·exact(by rw[ha,oK hi])
 ·rw[ha,oK hi,hn];exact hu
 ·rw[ha,oK hi];exact hc
 ·rw[ha,oK hi];exact id
 rintro w H ⟨j,L,f,C,hw,rfl,ho,hLn,hj,hp,hu,hc,lq⟩ gs;simp only[xaz,xbb]at hw;subst hw;have Zb:=ho;obtain⟨bh',la,mb,au,Cm,hbh,rfl,aD,hm⟩:=ho.open zO;simp only[Value.pointer.injEq,xas,Addr.mk.injEq,xbb]at hbh;subst hbh;have hOV:ju (L.set j a):=hO.perm hp;have Zd:(L.set j a).length=n:=by simp[hLn]
 have WA:at' (L.set j a) j=a:=by rw[gp a zO];simp[gA]
 have hVq:0<j->at' (L.set j a) ((j-1) /2)=at' L ((j-1) /2):=λh0=>by rw[gp a zO];simp[gA,show¬((j-1) /2=j)from by omega]
 intro J hJ;have hend:¬(0<j/\prec a (at' L ((j-1) /2))=true)->J [.bool false] ((b6,Obj.cells (enc .i64 a).toArray 378 zZ)::(bh,Obj.cells #[.slice (some ⟨la,0,none⟩) L.length (L.length+au.length),.map (some mb)] 376 zZ)::(la,.cells (rows (eo .i64 L++au)) 378 zZ)::Cm):=λhno=>hJ _ _ λgs=>by
  refine Br.no (ax.q ?_);refine aa.fq (qa Zb (i:=j) zO a) ?_;rintro v C' ⟨rfl,cq⟩;have hd:=hc.done hOV zO;rw[WA]at hd;have hex:=S6 hu (by
   by_cases h0:j=0
   ·exact .inl h0
   right;rw[WA,hVq zO];cases h:prec a (at' L ((j-1) /2))
   ·rfl
   exact absurd ⟨by omega,h⟩ hno)
  rw[<-Zd]at hex;exact⟨_,_,rfl,.tail,rfl,_,_,j,cq,hp,hd,hex,by omega,by rw[WA,ha],λhk=>yj hex (by rw[Zd];exact lq (by rw[hn];exact hk))⟩
 refine DR.self (ae.gtr (Br.dec (λh0=>?_) (λh0=>JE.mk (hend (λh=>h0 zO)))));have h0:0<j:=by omega
 refine ax.q ?_
 (repeat (first|apply Nil.ptr|apply af.mk|refine Ld.mk (by repeat (first|exact List.Mem.head _|apply List.Mem.tail|apply xaa)) rfl ?_))
 refine ae.r3 (c:=((j-1:Nat):Int)) zO zO (ae.OU zD (Xg j h0) zO (ah.nat zO ?_));refine ax.row (l:=eo .i64 L++au) zM aD (fi zO au) ?_;intro F;refine aa.eq (vJ a _ _) (⟨.refl _,?_⟩);cases Wc:prec a (at' L ((j-1) /2))with
 |false=>exact aI.mk (JE.mk (hend (λh=>by rw[Wc]at h;exact absurd h.2 zD)))
 |true=>
 refine aI.mk (JE.mk (hJ _ _ λgs=>Br.yes ?_))
 (repeat (first|apply Nil.ptr|apply af.mk|refine Ld.mk (by repeat (first|exact List.Mem.head _|apply List.Mem.tail|apply xaa)) rfl ?_))
 refine ae.r3 (c:=((j-1:Nat):Int)) zO zO (ae.OU zD (Xg j h0) zO (ah.nat zO ?_));refine ax.row (l:=eo .i64 L++au) zM aD (fi zO au) ?_;refine aa.fq (qa Zb (i:=j) zO (at' L ((j-1) /2))) ?_;rintro v C' ⟨rfl,cq⟩;refine ae.r3 (c:=((j-1:Nat):Int)) zO zO (ae.OU zD (Xg j h0) zO ?_);have hst:=SZ h0 (by rw[<-Zd]at hj;rw[Zd]at hj;exact hj) hu (by rw[WA,hVq h0];exact Wc);have hcs:=hc.step hOV (i:=j) (q:=(j-1) /2) zO zO zO;have hpp:=(swap_perm (l:=L.set j a) (i:=j) (q:=(j-1) /2) zO zO zO).trans hp;have Yc:(L.set j (at' L ((j-1) /2))).set ((j-1) /2) a=((L.set j a).set j (at' (L.set j a) ((j-1) /2))).set ((j-1) /2) (at' (L.set j a) j):=(uc a zO zO zO).symm;have AG:at' ((L.set j (at' L ((j-1) /2))).set ((j-1) /2) a)=gA (gA (at' (L.set j a)) j (at' (L.set j a) ((j-1) /2))) ((j-1) /2) (at' (L.set j a) j):=by
  rw[Yc,gp _ zP,gp _ zO]
 refine az.mk ⟨(j-1) /2,_,_,C',rfl,rfl,cq,by simp[hLn],by omega,?_,?_,?_,λ_=>?_⟩ ?_
 ·rw[Yc];exact hpp
 ·rw[AG];exact hst.1
 ·rw[Yc];rw[hVq h0]at hcs⊢;exact hcs
 ·rw[AG];exact hst.2
 simp only[bA,xbI];omega
end
section
open Sh
theorem Ql{h:zV}{l:List It}{f:Int->Option Nat}{C:Hp}(ho:SL h l f C){i:Nat}(hi:i<l.length)(cJ:l.length<4611686018427387904)(hu:Vy l.length (at' l) i)(hc:l7 l f i)(hO:ju l):
  Fc zQ 292 #[h,iv (i:Int)] C (λv C'=>v=.tuple #[]/\∃l' f',SL h l' f' C'/\l'.Perm l/\Cons l' f'/\Ord l'.length (at' l')):=by
 obtain⟨bh,la,mb,au,Cm,rfl,rfl,aD,hm⟩:=ho.open zO;obtain⟨n,hn⟩:∃n,n=l.length:=⟨_,rfl⟩;obtain⟨a,ha⟩:∃a,a=at' l i:=⟨_,rfl⟩;refine aK λg=>Fw ?_
 (repeat (first|apply Nil.ptr|apply af.mk|refine Ld.mk (by repeat (first|exact List.Mem.head _|apply List.Mem.tail|apply xaa)) rfl ?_|apply aE.mk|apply ae.geq))
 refine ah.nat hi ?_;refine ax.row (l:=eo .i64 l++au) zM aD (fi hi au) ?_;intro b6 _;refine St.p (nR _ _) ?_;rw[<-ha];refine⟨λvs H=>∃(j:Nat) (L:List It) (f:Int->Option Nat) (C:Hp),vs=[iv (j:Int)]/\H=(b6,Obj.cells (enc .i64 a).toArray 378 zZ)::C/\SL (.pointer (some ⟨bh,0,none⟩)) L f C/\L.length=n/\j<n/\
   (L.set j a).Perm l/\Vy n (at' (L.set j a)) j/\l7 (L.set j a) f j,
  λvs _=>n-bA vs 0,.mk ⟨i,l,f,_,rfl,rfl,ho,hn.symm,by omega,?_,?_,?_⟩,?_⟩
 ·exact(by rw[ha,oK hi])
 ·rw[ha,oK hi,hn];exact hu
 ·rw[ha,oK hi];exact hc
 rintro w H ⟨j,L,f,C,hw,rfl,ho,hLn,hj,hp,hu,hc⟩ gs;simp only[xaz,xbb]at hw;subst hw;have Zb:=ho;obtain⟨bh',la,mb,au,Cm,hbh,rfl,aD,hm⟩:=ho.open zO;simp only[Value.pointer.injEq,xas,Addr.mk.injEq,xbb]at hbh;subst hbh;have hOV:ju (L.set j a):=hO.perm hp;have Zd:(L.set j a).length=n:=by simp[hLn]
 have WA:at' (L.set j a) j=a:=by rw[gp a zO];simp[gA]
 have hVL:∀c,c≠j->at' (L.set j a) c=at' L c:=λc h0=>by rw[gp a zO];simp[gA,h0]
 refine ae.aah (c:=((2*j:Nat):Int)) zO zO (ae.CY (c:=((2*j+1:Nat):Int)) zO zO λJ hJ=>?_);obtain⟨c,hcd⟩:∃c,c=xS n (at' (L.set j a)) j:=⟨_,rfl⟩;have hkc:=rp n (at' (L.set j a)) j;rw[<-hcd]at hkc;have gC:J [iv (c:Int)] ((b6,Obj.cells (enc .i64 a).toArray 378 zZ)::(bh,Obj.cells #[.slice (some ⟨la,0,none⟩) L.length (L.length+au.length),.map (some mb)] 376 zZ)::(la,.cells (rows (eo .i64 L++au)) 378 zZ)::Cm):=by
  refine hJ _ _ λgs2=>?_;intro J2 IY;have hstop:n<=c\/prec (at' L c) a=false->J2 [.bool true] ((b6,Obj.cells (enc .i64 a).toArray 378 zZ)::(bh,Obj.cells #[.slice (some ⟨la,0,none⟩) L.length (L.length+au.length),.map (some mb)] 376 zZ)::(la,.cells (rows (eo .i64 L++au)) 378 zZ)::Cm):=λhst=>IY _ _ λgs=>by
   refine Br.yes (ax.q ?_);refine aa.fq (qa Zb (i:=j) zO a) ?_;rintro v C' ⟨rfl,cq⟩;have hd:=hc.done hOV zO;rw[WA]at hd;have hex:=LC hu (by
    rw[<-hcd];by_cases h0:n<=c
    ·exact .inl h0
    right;rw[WA,hVL c zO];rcases hst with h|h
    ·omega
    exact h)
   rw[<-Zd]at hex;exact⟨_,_,rfl,.tail,rfl,_,_,cq,hp,hd,hex⟩
  refine DR.self ?_
  (repeat (first|apply Nil.ptr|apply af.mk|refine Ld.mk (by repeat (first|exact List.Mem.head _|apply List.Mem.tail|apply xaa)) rfl ?_|apply aE.mk|apply ae.geq))
  refine Br.dec (λh0=>JE.mk (hstop (.inl zO))) (λh0=>?_);have h0:c<n:=by omega
  (repeat (first|apply Nil.ptr|apply af.mk|refine Ld.mk (by repeat (first|exact List.Mem.head _|apply List.Mem.tail|apply xaa)) rfl ?_|apply aE.mk|apply ae.geq))
  refine ah.nat zO ?_;refine ax.row (l:=eo .i64 L++au) zM aD (fi zO au) ?_;refine ax.q ?_;intro F;refine aa.eq (vJ _ a _) (⟨.refl _,Un.not ?_⟩);cases Wc:prec (at' L c) a with
  |false=>exact aI.mk (JE.mk (hstop (.inr Wc)))
  |true=>
  refine aI.mk (JE.mk (IY _ _ λgs=>Br.no ?_))
  (repeat (first|apply Nil.ptr|apply af.mk|refine Ld.mk (by repeat (first|exact List.Mem.head _|apply List.Mem.tail|apply xaa)) rfl ?_|apply aE.mk|apply ae.geq))
  refine ah.nat zO ?_;refine ax.row (l:=eo .i64 L++au) zM aD (fi zO au) ?_;refine aa.fq (qa Zb (i:=j) zO (at' L c)) ?_;rintro v C' ⟨rfl,cq⟩;have hcj:c≠j:=by omega
  have hst:=rH hu (by rw[<-hcd];exact h0) (by rw[<-hcd,WA,hVL c hcj];exact Wc);rw[<-hcd]at hst;have hcs:=hc.step hOV (i:=j) (q:=c) zO zO hcj;have hpp:=(swap_perm (l:=L.set j a) (i:=j) (q:=c) zO zO hcj).trans hp;have Yc:(L.set j (at' L c)).set c a=((L.set j a).set j (at' (L.set j a) c)).set c (at' (L.set j a) j):=(uc a zO zO hcj).symm;have AG:at' ((L.set j (at' L c)).set c a)=gA (gA (at' (L.set j a)) j (at' (L.set j a) c)) c (at' (L.set j a) j):=by
   rw[Yc,gp _ zP,gp _ zO]
  refine az.mk ⟨c,_,_,C',rfl,rfl,cq,by simp[hLn],by omega,?_,?_,?_⟩ ?_
  ·rw[Yc];exact hpp
  ·rw[AG];exact hst
  ·rw[Yc];rw[hVL c hcj]at hcs⊢;exact hcs
  simp only[bA,xbI];omega
 intro J3 hJ3;have Nx:xS n (at' (L.set j a)) j=if(decide (2*j+1+1<n) &&prec (at' L (2*j+1+1)) (at' L (2*j+1)))=true then 2*j+1+1 else 2*j+1:=by
  unfold xS;rw[hVL _ zO,hVL _ zO]
 rw[Nx]at hcd;have hno:¬(2*j+1+1<n/\prec (at' L (2*j+1+1)) (at' L (2*j+1))=true)->J3 [.bool false] ((b6,Obj.cells (enc .i64 a).toArray 378 zZ)::(bh,Obj.cells #[.slice (some ⟨la,0,none⟩) L.length (L.length+au.length),.map (some mb)] 376 zZ)::(la,.cells (rows (eo .i64 L++au)) 378 zZ)::Cm):=λhx=>hJ3 _ _ λgs=>by
  rw[xac (by simpa using hx)]at hcd;rw[hcd]at gC;exact Br.no (.mk gC)
 refine DR.self (ae.CY (c:=((2*j+1+1:Nat):Int)) zO zO ?_)
 (repeat (first|apply Nil.ptr|apply af.mk|refine Ld.mk (by repeat (first|exact List.Mem.head _|apply List.Mem.tail|apply xaa)) rfl ?_|apply aE.mk|apply ae.geq))
 refine Br.dec (λh0=>?_) (λh0=>JE.mk (hno (λh=>h0 zO)));have h0:2*j+1+1<n:=by omega
 (repeat (first|apply Nil.ptr|apply af.mk|refine Ld.mk (by repeat (first|exact List.Mem.head _|apply List.Mem.tail|apply xaa)) rfl ?_|apply aE.mk|apply ae.geq))
 refine ae.CY (c:=((2*j+1+1:Nat):Int)) zO zO (ah.nat zO ?_);refine ax.row (l:=eo .i64 L++au) zM aD (fi zO au) ?_
 (repeat (first|apply Nil.ptr|apply af.mk|refine Ld.mk (by repeat (first|exact List.Mem.head _|apply List.Mem.tail|apply xaa)) rfl ?_|apply aE.mk|apply ae.geq))
 refine ah.nat zO ?_;refine ax.row (l:=eo .i64 L++au) zM aD (fi zO au) ?_;intro F;refine aa.eq (vJ _ _ _) (⟨.refl _,?_⟩);cases Wc:prec (at' L (2*j+1+1)) (at' L (2*j+1))with
 |false=>exact aI.mk (JE.mk (hno (λh=>by rw[Wc]at h;exact absurd h.2 zD)))
 |true=>
 refine aI.mk (JE.mk (hJ3 _ _ λgs=>Br.yes ?_));refine ae.CY (c:=((2*j+1+1:Nat):Int)) zO zO ?_;rw[xae (by simp[h0,Wc])]at hcd;rw[hcd]at gC;exact .mk gC
theorem Us(B:Hp):Fc zQ 260 #[] B (λv H=>∃b C,v=.pointer (some ⟨b,0,none⟩)/\H=C++B/\Vw (.pointer (some ⟨b,0,none⟩)) [] C):=by
 refine aK λg=>FR (Build.mk (cs:=[.slice none 0 0,.map none]) zK ?_);intro b _;exact⟨_,_,rfl,.refl _,b,[_],rfl,rfl,λ_=>none,⟨b,_,_,[],[],rfl,rfl,aM.nil _ _,.inl ⟨rfl,rfl,rfl⟩,λ_=>rfl⟩,⟨λj hj=>by simp at hj,λ_ _=>rfl⟩,λj _ hj=>by simp at hj,by simp[ju]⟩
theorem PY{h:zV}{l:List It}{C:Hp}(hi:Vw h l C)(cJ:l.length<4398046511104)(x k:Int):
  Fc zQ 262 #[h,iv x,iv k] C (λv C'=>∃l',Vw h l' C'/\
   ((x∈l.map Prod.fst/\v=iv 11/\l'=l)\/(x∉l.map Prod.fst/\v=iv 0/\l'.Perm ((x,k)::l)))):=by
 have K7:=hi;obtain⟨f,ho,hc,hO,h1⟩:=hi;have Zb:=ho;obtain⟨bh,sv,mv,Cs,Cm,rfl,rfl,hs,hm,hne⟩:=ho;refine aK λg=>FP ?_
 (repeat (first|apply Nil.ptr|refine af.mk ?_|refine Ld.mk zM rfl ?_|refine aE.mk ?_|refine ae.eql ?_|refine ae.neq ?_|refine ae.lss ?_|refine ae.leq ?_|refine ae.gtr ?_|refine ae.geq ?_|apply Un.not|refine Ext.mk rfl ?_|refine aI.mk ?_|refine ae.aG ?_|refine ae.jO ?_|refine ae.jd ?_|apply Br.yes|apply Br.no))
 rcases Rq hc (x:=x)with⟨hx,hf⟩|⟨i,hi,hx,hf⟩
 ·refine hm.Kz zS hf ?_
  (repeat (first|apply Nil.ptr|refine af.mk ?_|refine Ld.mk zM rfl ?_|refine aE.mk ?_|refine ae.eql ?_|refine ae.neq ?_|refine ae.lss ?_|refine ae.leq ?_|refine ae.gtr ?_|refine ae.geq ?_|apply Un.not|refine Ext.mk rfl ?_|refine aI.mk ?_|refine ae.aG ?_|refine ae.jO ?_|refine ae.jd ?_|apply Br.yes|apply Br.no))
  intro J hJ;obtain⟨uP,lg,We,Y9⟩:=OX (a:=(x,k)) hc hO h1 hx;have gC:∀mb WQ,jR .i64 idx (.map (some mb)) f WQ->J [] ((bh,Obj.cells #[sv,.map (some mb)] 376 zZ)::(Cs++WQ)):=by
   intro mb WQ hm';refine hJ _ λgs=>?_
   (repeat (first|apply Nil.ptr|refine af.mk ?_|refine Ld.mk zM rfl ?_|refine aE.mk ?_|refine ae.eql ?_|refine ae.neq ?_|refine ae.lss ?_|refine ae.leq ?_|refine ae.gtr ?_|refine ae.geq ?_|apply Un.not|refine Ext.mk rfl ?_|refine aI.mk ?_|refine ae.aG ?_|refine ae.jO ?_|refine ae.jd ?_|apply Br.yes|apply Br.no))
   refine Build.mk (cs:=enc .i64 (x,k)) zK (aj.one (k:=2) (e:=378) (z:=.agg #[iv 0,iv 0]) zK zK zK zD rfl λxb=>?_);refine hs.E5 (A:=[_,_]) (B:=WQ) (r:=enc .i64 (x,k)) zM rfl (nR _ _) ⟨[iv 0,iv 0],rfl,rfl⟩ (by rw[cK];omega) (by rw[cK];omega) λv' C' hs'=>?_
   (repeat (first|apply Nil.ptr|refine af.mk ?_|refine Ld.mk zM rfl ?_|refine aE.mk ?_|refine ae.eql ?_|refine ae.neq ?_|refine ae.lss ?_|refine ae.leq ?_|refine ae.gtr ?_|refine ae.geq ?_|apply Un.not|refine Ext.mk rfl ?_|refine aI.mk ?_|refine ae.aG ?_|refine ae.jO ?_|refine ae.jd ?_|apply Br.yes|apply Br.no))
   refine St.one (by repeat (first|exact cu.head _|apply cu.tail|apply cu.aO)) (by obtain⟨a,c,rfl⟩:=hs'.len;rfl) zI rfl ?_
   (repeat (first|apply Nil.ptr|refine af.mk ?_|refine Ld.mk zM rfl ?_|refine aE.mk ?_|refine ae.eql ?_|refine ae.neq ?_|refine ae.lss ?_|refine ae.leq ?_|refine ae.gtr ?_|refine ae.geq ?_|apply Un.not|refine Ext.mk rfl ?_|refine aI.mk ?_|refine ae.aG ?_|refine ae.jO ?_|refine ae.jd ?_|apply Br.yes|apply Br.no))
   refine hs'.bE ?_;refine ae.r3 (c:=((l.length:Nat):Int)) (by rw[xaf,cK];simp) zO ?_;have l8:aM 378 2 v' (eo .i64 (l++[(x,k)])) C':=by simpa[eo]using hs'
   have cq:SL (.pointer (some ⟨bh,0,none⟩)) (l++[(x,k)]) f ((bh,Obj.cells #[v',.map (some mb)] 376 zZ)::(C'++WQ)):=
    ⟨bh,_,_,C',WQ,rfl,rfl,l8,hm',λh=>by simp at h⟩
   refine aa.pre (.tail) ?_;refine aa.fq (XH cq (i:=l.length) zI zP uP lg We) ?_;rintro v ZN ⟨rfl,l',f',p,BM,dy,hc2,hex,hp,AG,aez⟩;refine⟨_,_,rfl,.refl _,l',⟨f',BM,hc2,aez Y9,We.perm dy⟩,.inr ⟨hx,rfl,dy.trans ?_⟩⟩;exact xa0 (l₁:=l) (l₂:=[(x,k)])
  (repeat (first|apply Nil.ptr|refine af.mk ?_|refine Ld.mk zM rfl ?_|refine aE.mk ?_|refine ae.eql ?_|refine ae.neq ?_|refine ae.lss ?_|refine ae.leq ?_|refine ae.gtr ?_|refine ae.geq ?_|apply Un.not|refine Ext.mk rfl ?_|refine aI.mk ?_|refine ae.aG ?_|refine ae.jO ?_|refine ae.jd ?_|apply Br.yes|apply Br.no))
  rcases hm with⟨rfl,rfl,hfn⟩|⟨mb,m,ck,rfl,h2⟩
  ·(repeat (first|apply Nil.ptr|refine af.mk ?_|refine Ld.mk zM rfl ?_|refine aE.mk ?_|refine ae.eql ?_|refine ae.neq ?_|refine ae.lss ?_|refine ae.leq ?_|refine ae.gtr ?_|refine ae.geq ?_|apply Un.not|refine Ext.mk rfl ?_|refine aI.mk ?_|refine ae.aG ?_|refine ae.jO ?_|refine ae.jd ?_|apply Br.yes|apply Br.no))
   intro mb _
   (repeat (first|apply Nil.ptr|refine af.mk ?_|refine Ld.mk zM rfl ?_|refine aE.mk ?_|refine ae.eql ?_|refine ae.neq ?_|refine ae.lss ?_|refine ae.leq ?_|refine ae.gtr ?_|refine ae.geq ?_|apply Un.not|refine Ext.mk rfl ?_|refine aI.mk ?_|refine ae.aG ?_|refine ae.jO ?_|refine ae.jd ?_|apply Br.yes|apply Br.no))
   refine St.one (by repeat (first|exact cu.head _|apply cu.tail|apply cu.aO)) rfl zI rfl ?_;refine JE.of ?_ (gC mb _ (by rw[hfn];exact jR.made mb));simp only[xaH];refine .perm ?_;refine(List.Perm.swap _ _ _).trans (.cons _ ?_);exact xa0 (l₁:=[_])
  (repeat (first|apply Nil.ptr|refine af.mk ?_|refine Ld.mk zM rfl ?_|refine aE.mk ?_|refine ae.eql ?_|refine ae.neq ?_|refine ae.lss ?_|refine ae.leq ?_|refine ae.gtr ?_|refine ae.geq ?_|apply Un.not|refine Ext.mk rfl ?_|refine aI.mk ?_|refine ae.aG ?_|refine ae.jO ?_|refine ae.jd ?_|apply Br.yes|apply Br.no))
  exact JE.mk (gC mb Cm (.inr ⟨mb,m,ck,rfl,h2⟩))
 refine hm.Ky zS hf ?_
 (repeat (first|apply Nil.ptr|refine af.mk ?_|refine Ld.mk zM rfl ?_|refine aE.mk ?_|refine ae.eql ?_|refine ae.neq ?_|refine ae.lss ?_|refine ae.leq ?_|refine ae.gtr ?_|refine ae.geq ?_|apply Un.not|refine Ext.mk rfl ?_|refine aI.mk ?_|refine ae.aG ?_|refine ae.jO ?_|refine ae.jd ?_|apply Br.yes|apply Br.no))
 refine⟨_,_,rfl,.refl _,l,K7,.inl ⟨?_,rfl,rfl⟩⟩;rw[gF];exact⟨i,hi,hx⟩
theorem Uq{h:zV}{l:List It}{C:Hp}(hi:Vw h l C)(cJ:l.length<4398046511104):
  Fc zQ 264 #[h] C (λv C'=>∃l',Vw h l' C'/\
   ((l=[]/\v=.tuple #[iv 0,iv 0,iv 10]/\l'=l)\/(∃a,l.Perm (a::l')/\(∀b∈l,prec b a=false)/\v=.tuple #[iv a.1,iv a.2,iv 0]))):=by
 have K7:=hi;obtain⟨f,ho,hc,hO,h1⟩:=hi;by_cases hl:l=[]
 ·subst hl;refine aK λg=>vY ?_;obtain⟨bh,sv,mv,Cs,Cm,rfl,rfl,hs,hm,hne⟩:=ho
  (repeat (first|apply Nil.ptr|apply af.mk|refine Ld.mk (by repeat (first|exact List.Mem.head _|apply List.Mem.tail|apply xaa)) rfl ?_|apply aE.mk|apply ae.eql|apply ae.lss|apply Br.yes|apply Br.no|apply ae.aG))
  refine cz.or true (λ_=>?_) rfl λ_=>?_
  ·(repeat (first|apply Nil.ptr|apply af.mk|refine Ld.mk (by repeat (first|exact List.Mem.head _|apply List.Mem.tail|apply xaa)) rfl ?_|apply aE.mk|apply ae.eql|apply ae.lss|apply Br.yes|apply Br.no|apply ae.aG))
   refine hs.bE ?_
   (repeat (first|apply Nil.ptr|apply af.mk|refine Ld.mk (by repeat (first|exact List.Mem.head _|apply List.Mem.tail|apply xaa)) rfl ?_|apply aE.mk|apply ae.eql|apply ae.lss|apply Br.yes|apply Br.no|apply ae.aG))
   exact⟨rfl,rfl⟩
  (repeat (first|apply Nil.ptr|apply af.mk|refine Ld.mk (by repeat (first|exact List.Mem.head _|apply List.Mem.tail|apply xaa)) rfl ?_|apply aE.mk|apply ae.eql|apply ae.lss|apply Br.yes|apply Br.no|apply ae.aG))
  exact⟨_,_,rfl,.refl _,[],K7,.inl ⟨rfl,rfl,rfl⟩⟩
 obtain⟨n,hn⟩:∃n,l.length=n+1:=⟨l.length-1,by have:=xb7.2 hl;omega⟩;have hmin:∀b∈l,prec b (at' l 0)=false:=λb hb=>by
  obtain⟨j,hj,e⟩:=xbB.1 hb;have:=TP hO j hj;rwa [show at' l j=b by simp[at',List.getD,hj,e]]at this
 intro g;refine vY (R:=aQ _) ?_;obtain⟨bh,la,mb,au,Cm,rfl,rfl,aD,hm⟩:=ho.open zO;unfold L264
 (repeat (first|apply Nil.ptr|apply af.mk|refine Ld.mk (by repeat (first|exact List.Mem.head _|apply List.Mem.tail|apply xaa)) rfl ?_|apply aE.mk|apply ae.eql|apply ae.lss|apply Br.yes|apply Br.no|apply ae.aG))
 refine cz.or false (λ_=>?_) rfl λ_=>?_
 ·(repeat (first|apply Nil.ptr|apply af.mk|refine Ld.mk (by repeat (first|exact List.Mem.head _|apply List.Mem.tail|apply xaa)) rfl ?_|apply aE.mk|apply ae.eql|apply ae.lss|apply Br.yes|apply Br.no|apply ae.aG))
  exact⟨rfl,by rw[hn];simp;omega⟩
 (repeat (first|apply Nil.ptr|apply af.mk|refine Ld.mk (by repeat (first|exact List.Mem.head _|apply List.Mem.tail|apply xaa)) rfl ?_|apply aE.mk|apply ae.eql|apply ae.lss|apply Br.yes|apply Br.no|apply ae.aG))
 refine ah.of 0 rfl zO ?_;refine ax.row (l:=eo .i64 l++au) zM aD (fi zO au) ?_;intro b14 _;refine St.p (nR _ _) ?_
 (repeat (first|apply Nil.ptr|apply af.mk|refine Ld.mk (by repeat (first|exact List.Mem.head _|apply List.Mem.tail|apply xaa)) rfl ?_|apply aE.mk|apply ae.eql|apply ae.lss|apply Br.yes|apply Br.no|apply ae.aG))
 refine ae.r3 (c:=(n:Int)) (by rw[hn];simp) zO ?_
 (repeat (first|apply Nil.ptr|apply af.mk|refine Ld.mk (by repeat (first|exact List.Mem.head _|apply List.Mem.tail|apply xaa)) rfl ?_|apply aE.mk|apply ae.eql|apply ae.lss|apply Br.yes|apply Br.no|apply ae.aG))
 refine ah.nat zO ?_;refine ax.row (l:=eo .i64 l++au) zM aD (fi zO au) ?_;intro b27 _;refine St.p (nR _ _) ?_
 (repeat (first|apply Nil.ptr|apply af.mk|refine Ld.mk (by repeat (first|exact List.Mem.head _|apply List.Mem.tail|apply xaa)) rfl ?_|apply aE.mk|apply ae.eql|apply ae.lss|apply Br.yes|apply Br.no|apply ae.aG))
 refine cP.upto (h:=n) zO ?_
 (repeat (first|apply Nil.ptr|apply af.mk|refine Ld.mk (by repeat (first|exact List.Mem.head _|apply List.Mem.tail|apply xaa)) rfl ?_|apply aE.mk|apply ae.eql|apply ae.lss|apply Br.yes|apply Br.no|apply ae.aG))
 refine St.one (by repeat (first|exact cu.head _|apply cu.tail|apply cu.aO)) rfl zI rfl ?_;refine DR.self ?_
 (repeat (first|apply Nil.ptr|apply af.mk|refine Ld.mk (by repeat (first|exact List.Mem.head _|apply List.Mem.tail|apply xaa)) rfl ?_|apply aE.mk|apply ae.eql|apply ae.lss|apply Br.yes|apply Br.no|apply ae.aG))
 rw[<-xaH Cm];refine jR.del (A:=[_,_,_,_]) (B:=[]) hm λWQ hm'=>?_;rw[xaH];have hrows:eo .i64 l++au=eo .i64 (l.take n)++(enc .i64 (at' l n)::au):=by
  have e:l=l.take n++[at' l n]:=by
   have h2:l.drop n=[at' l n]:=by
    rw[xaV zO,xbc zO];simp[hn,at',List.getD]
   have:=(xbo n l).symm;rw[h2]at this;exact this
  conv=>lhs;rw[e]
  simp[eo]
 have Qw:∀r∈eo .i64 (l.take n)++(enc .i64 (at' l n)::au),r.length=2:=by rw[<-hrows];exact aD
 intro J hJ;have hlt:(l.take n).length=n:=by simp[hn]
 have gC:∀l' C',Vw (.pointer (some ⟨bh,0,none⟩)) l' C'->l.Perm (at' l 0::l')->J [] ((b27,Obj.cells (enc .i64 (at' l n)).toArray 378 zZ)::(b14,Obj.cells (enc .i64 (at' l 0)).toArray 378 zZ)::C'):=by
  intro l' C' hi' hp';refine hJ _ λgs=>?_
  (repeat (first|apply Nil.ptr|apply af.mk|refine Ld.mk (by repeat (first|exact List.Mem.head _|apply List.Mem.tail|apply xaa)) rfl ?_|apply aE.mk|apply ae.eql|apply ae.lss|apply Br.yes|apply Br.no|apply ae.aG))
  exact⟨_,_,rfl,.skip .tail,l',hi',.inr ⟨_,hp',hmin,rfl⟩⟩
 (repeat (first|apply Nil.ptr|apply af.mk|refine Ld.mk (by repeat (first|exact List.Mem.head _|apply List.Mem.tail|apply xaa)) rfl ?_|apply aE.mk|apply ae.eql|apply ae.lss|apply Br.yes|apply Br.no|apply ae.aG))
 have KT:SL (.pointer (some ⟨bh,0,none⟩)) (l.take n) (Dj f (at' l 0).1 none) ((bh,Obj.cells #[.slice (some ⟨la,0,none⟩) n (l.length+au.length),.map (some mb)] 376 zZ)::(la,.cells (rows (eo .i64 l++au)) 378 zZ)::WQ):=by
  rw[hrows];exact .shut Qw hlt.symm (by simp[hn];omega) hm'
 refine Br.mk (λh0=>?_) (λh0=>?_)
 ·have h0:0<n:=by simpa using h0
  obtain⟨_,q1,q2,q3,q4⟩:=TA hc hO h1 hn h0;refine ax.q ?_;refine aa.fq (qa KT (i:=0) zO (at' l n)) ?_;rintro v C2 ⟨rfl,BM⟩;have Du:l7 ((l.take n).set 0 (at' l n)) (Dj (Dj f (at' l 0).1 none) (at' l n).1 (some 0)) 0:=by
   refine⟨λj hj XY=>?_,λx hx=>?_⟩
   ·unfold Dj;rw[xac]
    ·exact q4.1 j hj XY
    intro e;have h00:at' ((l.take n).set 0 (at' l n)) 0=at' l n:=by rw[gp _ zO];simp[gA]
    exact XY (q3.inj hj zP (by rw[e,h00]))
   unfold Dj;rw[xac]
   ·exact q4.2 x hx
   intro e;refine hx (gF.2 ⟨0,by simp;omega,?_⟩);rw[gp _ zO];simp[gA,e]
  refine aa.fq (Ql BM (i:=0) zP zP (by simpa[hn]using q2) Du q3) ?_;rintro v C3 ⟨rfl,l3,f3,ho3,PZ,hc3,aaS⟩;exact JE.mk (gC l3 C3 ⟨f3,ho3,hc3,aaS,q3.perm PZ⟩ ((PZ.cons (at' l 0)).trans q1).symm)
 have h0:n=0:=by simp at h0;omega
 subst h0;refine JE.mk (gC (l.take 0) _ ⟨_,KT,⟨λj hj=>by simp at hj,λx _=>?_⟩,λj _ hj=>by simp at hj,by simp[ju]⟩ ?_)
 ·unfold Dj;split
  ·rfl
  rename_i hne;refine hc.2 x λhm=>hne ?_;obtain⟨j,hj,e⟩:=gF.1 hm;rw[show j=0 by omega]at e;exact e.symm
 match l,hn with
 | [a],_=>exact .refl _
end
end Go.Proofs
namespace ak
open Go.Sx Sh
def nn(s k:Nat):It:=((s:Int),(k:Int))
variable {n:Nat} {c:Nat->Nat->Nat} {T:Nat} {D:zL} {l l':List It} {s i:Nat}
end ak
set_option maxRecDepth 100000
namespace Go.Proofs
open Go Go.Sx Tryz
section
open aC Sh
theorem JP{pt n v:Nat}{T:Nd->Option Nat}{C:Hp}(h:nk pt n T C)(hv:v<n):
  Rd zQ 289 #[ptr pt,iv (v:Int)] C (λr=>∃l:List (Nd×Nat),(l.map Prod.fst).Nodup/\(∀d r,(d,r)∈l↔T d=some r/\d.v=v)/\r=.tuple #[iv ((l.length:Nat):Int),iv 0]):=by
 have h0:=h;obtain⟨vs,Cs,ms,rfl,hs,ho⟩:=h;obtain⟨m,hm⟩:∃m,ms[v]? =some m:=⟨_,xab (by rw[ho.len];exact hv)⟩;have he:=ho.dL v m hm;have hT:∀d:Nd,d.v=v->T d=bO m.l d:=λd hd=>by rw[ho.T,hd,hm];rfl
 have hmem:∀d r,(d,r)∈m.l↔T d=some r/\d.v=v:=λd r=>by
  constructor
  ·intro hx;have hd:=ho.var v m hm _ hx;exact⟨by rw[hT d hd];exact(fe he.nd).2 hx,hd⟩
  rintro⟨h1,h2⟩;rw[hT d h2]at h1;exact(fe he.nd).1 h1
 refine aK λg=>Fz (aa.eq (jW h0 hv) (ae.ic (Br.F (Nil.ptr ?_))));refine af.mk (Ld.mk zM rfl ?_);refine hs.VS (x:=.map (some m.b)) (by rw[xar,hm];rfl) (λ_ h=>by exact .tail _ (xad _ h)) ?_;refine he.Pu (b:=m.b) (by exact .tail _ (xaa _ (pT hm))) ?_;exact bD.mk (.refl _) ⟨m.l,he.nd,hmem,rfl⟩
section
variable {kp v gr:Nat} {K:Kd} {S:Nat->aC.Fn} {ord tr:zL} {C:Hp}
theorem KH{ag:zL}(h:cQ kp K ord ag tr C)(hv:v<K.n):Rd zQ 261 #[ptr kp,iv (v:Int)] C (λr=>∃l:List (Nd×Nat),(l.map Prod.fst).Nodup/\(∀d r,(d,r)∈l↔K.T d=some r/\d.v=v)/\r=.tuple #[iv ((l.length:Nat):Int),iv 0]):=by
 have h0:=h;obtain⟨b,rfl,hO⟩:=h;refine aK λg=>FQ (ae.aG (Br.no (aa.eq (tt h0 (v:Int)) ?_)));rw[xau zO];refine Un.not (Br.no (Nil.ptr (af.mk (Ld.f ?_))));refine aa.rq (JP hO.ut hv) ?_;rintro r ⟨l,h1,h2,rfl⟩;exact Ext.mk rfl (Ext.mk rfl (bD.mk (.refl _) ⟨l,h1,h2,rfl⟩))
theorem RS(h:At kp K S ord tr C)(hv:v<K.n):Rd zQ 261 #[ptr kp,iv (v:Int)] C (λr=>∃w:Nat,r=.tuple #[iv (w:Int),iv 0]):=by
 obtain⟨K',S',fG,h,hk⟩:=h;exact(KH h.rep (by rw[hk.n];exact hv)).mono λr H ⟨e,l,_,_,h3⟩=>⟨e,_,h3⟩
theorem Uv{h:zV}{l:List It}{C:Hp}(hi:Vw h l C):Rd zQ 263 #[h] C (· =iv ((l.length:Nat):Int)):=by
 obtain⟨f,⟨bh,sv,mv,Cs,Cm,rfl,rfl,hs,hm,hne⟩,_⟩:=hi;refine aK λg=>FO (ae.aG (Br.no (Ld.n ?_)));refine hs.bE ?_;rw[cK];exact bD.mk (.refl _) rfl
def sln:List zV->Nat
 | .slice _ n _::_=>n
 |_=>0
theorem OV(h:At kp K S ord tr C):Fc zQ 230 #[ptr kp] C (λr H=>∃N l,H=N++C/\l.Perm (List.range K.n)/\aR 3 .i64 r (iw l) N):=by
 have hn:=h.sU;refine aK λg=>Ga (ae.aG (Br.no (aa.fq (Us C) ?_)));rintro w H ⟨bh,C0,rfl,rfl,K7⟩;refine aa.eq (nU h) (⟨λvs H=>∃(i:Nat) (l:List It) (C':Hp),vs=[iv (i:Int)]/\i<=K.n/\H=C'++C/\Vw (.pointer (some ⟨bh,0,none⟩)) l C'/\(l.map Prod.fst).Perm (iw (List.range i)),λvs _=>K.n-bA vs 0,JE.mk ⟨0,[],C0,rfl,xaA _,rfl,K7,.refl _⟩,?_⟩);rintro w H ⟨i,l,C',⟨⟩,hi,rfl,hh,hp⟩ gs;have nM:l.length=i:=by have:=hp.length_eq;simpa[iw]using this
 refine ae.cX (Br.dec (λhlt=>?_) (λhge=>?_))
 ·refine aa.rq (RS h hlt) ?_;rintro r ⟨w,rfl⟩;refine Ext.two (⟨_,rfl,?_⟩);refine aa.fq (PY hh zO _ _) ?_;rintro r C2 ⟨l2,Dt,⟨hin,_⟩|⟨_,rfl,dy⟩⟩
  ·exfalso;have:=hp.mem_iff.1 hin;rw[Pm,xaO]at this;omega
  refine ae.inc (az.mk ⟨i+1,l2,C2,rfl,hlt,rfl,Dt,?_⟩ (by simp only[bA];omega));refine(dy.map _).trans ?_;rw[xaM,xcR,cj];exact(List.Perm.cons _ hp).trans (xa0 (l₁:=[((i:Nat):Int)]))
 obtain rfl:i=K.n:=by omega
 refine⟨λvs H=>∃(s:zV) (done:zL) (l:List It) (CS C':Hp),vs=[s]/\H=CS++(C'++C)/\Vw (.pointer (some ⟨bh,0,none⟩)) l C'/\aR 3 .i64 s (iw done) CS/\(iw done++l.map Prod.fst).Perm (iw (List.range K.n)),λvs _=>K.n-sln vs,JE.mk ⟨_,[],l,[],C',rfl,rfl,hh,aR.nil,hp⟩,?_⟩;clear hp hh nM;rintro w H ⟨s,done,l,CS,C',⟨⟩,rfl,hh,hs,hp⟩ gs;have hlen:done.length+l.length=K.n:=by have:=hp.length_eq;simpa[iw]using this
 refine aa.eq (Uv hh) (ae.gW (b:=0) (Br.dec (λhlt=>?_) (λhge=>?_)))
 ·refine aa.fq (Uq hh zO) ?_;rintro r C2 ⟨l2,Dt,⟨rfl,_⟩|⟨a,dy,_,rfl⟩⟩
  ·simp at hlt
  have ha:a.1∈iw (List.range K.n):=hp.mem_iff.1 (xaa _ (xbd (dy.mem_iff.2 (.head _))));obtain⟨x,hx,hxa⟩:=xam.1 ha;refine Ext.mk rfl (Ext.mk rfl (Ext.mk rfl ?_));rw[<-hxa];refine aj.int (e:=3) zK zK zK λbx=>?_;refine hs.mi (x:=(x:Int)) (.cons .left) (by exact .head _) (by rw[an];omega) (by rw[an];omega) λs2 CS2 l8=>?_;have lg:(iw (done++[x])++l2.map Prod.fst).Perm (iw (List.range K.n)):=by
   refine .trans ?_ hp;rw[cj,xai];refine xcn _ ?_;refine .trans ?_ (dy.map _).symm;rw[xaM,<-hxa];exact .refl _
  have e1:∀{s:zV} {done:zL} {CS:Hp},aR 3 .i64 s (iw done) CS->sln [s]=done.length:=λ{s done CS} h=>by
   obtain⟨a,c,h⟩:=aM.len h;rw[h];simp[sln,iw]
  refine az.of .tail ⟨s2,done++[x],l2,CS2,C2,rfl,rfl,Dt,by rw[cj];exact l8,lg⟩ ?_;rw[e1 (done:=done++[x]) (by rw[cj];exact l8),e1 hs,xaf,xbg];have:=dy.length_eq;rw[xak]at this;omega
 have Ze:l=[]:=xci.1 zO;subst Ze;rw[xcL,xaH]at hp;obtain⟨l',hl',e⟩:=TM hp;rw[e]at hs;exact aQ.mk (aF.cL .right CS) ⟨CS,l',rfl,hl',hs⟩
theorem OK(h:At kp K S ord tr C)(hp:ord.Perm (List.range K.n))(nN:100<=gr/\gr<=1000)(iy:tr.length<17317308137472):
  Fc zQ 190 #[ptr kp,iv (gr:Int)] C (λv H=>∃l,l.Perm (List.range K.n)/\v=.tuple #[rep (ff K S ord) (ff K S (aJ ord ((rm K S).eA gr ord l).1)) ((rm K S).eA gr ord l).2,iv 0]/\At kp K S (aJ ord ((rm K S).eA gr ord l).1) (tr++((rm K S).eA gr ord l).1) H):=by
 have hn:=h.sU;have xY:(rm K S).n=K.n:=rfl;refine aK λg=>Gz λb1 _=>?_;refine aa.eq (ua kp (gr:=(gr:Int)) C) ?_;rw[xac zO];refine ae.ic (Br.F (aa.eq (jL h) (Build.mk (cs:=[iv ((ff K S ord:Nat):Int),iv 0,iv 0,.bool false]) zK λb12 _=>?_)));refine St.q ?_;refine aa.fq (OV h) ?_;rintro s H ⟨NQ,l,rfl,hl,hQ⟩;have nM:l.length=K.n:=by rw[hl.length_eq,xaK]
 refine hQ.bE ?_;rw[an,nM];refine⟨λvs H=>∃(i:Nat) (C':Hp),vs=[iv (i:Int)]/\i<=K.n/\H=(b12,.cells (List.toArray [iv ((ff K S ord:Nat):Int),iv 0,iv ((((rm K S).eA gr ord (l.take i)).2:Nat):Int),.bool false]) 224 zZ)::(b1,.cells #[iv 0,iv 0,iv 0,.bool false] 224 zZ)::(NQ++C')/\At kp K S (aJ ord ((rm K S).eA gr ord (l.take i)).1) (tr++((rm K S).eA gr ord (l.take i)).1) C',
  λvs _=>K.n-bA vs 0,JE.mk ⟨0,C,rfl,xaA _,rfl,by simpa[Rm.eA,aJ]using h⟩,?_⟩
 rintro w H ⟨i,C',⟨⟩,hi,rfl,hA⟩ gs;have hok:=y7 (m:=rm K S) (g:=gr) (l:=l.take i) hp (λv hv=>xaO.1 (hl.mem_iff.1 (xcj hv)));have hlt:(l.take i).length<=64:=by rw[xbA];omega
 have h1:=hok.len;have h2:=hok.Oo;have h3:(rm K S).n*(l.take i).length<=64*64:=xcJ hn hlt;have h4:3*((rm K S).n-1)*(l.take i).length<=(3*64)*64:=xcJ (Nat.mul_le_mul_left _ (by rw[xY];omega)) hlt;have hpi:=yY hp hok.mem;refine ae.cX (Br.dec (λhlt=>?_) (λhge=>?_))
 ·have hil:i<l.length:=by omega
  have kA:l.take (i+1)=l.take i++[l[i]]:=xa4 hil;refine hQ.ld (x:=((l[i]:Nat):Int)) (cr (xab hil)) (λ_ h=>.tail _ (.tail _ (xad _ h))) ?_;have hvn:l[i]<K.n:=xaO.1 (hl.mem_iff.1 (xaF hil));refine aa.fq (Tp hA hpi hvn nN (by rw[xaf];omega) rfl) ?_;rintro w C2 ⟨rfl,uU⟩;have hs1:=(rm K S).y8 gr (ord:=aJ ord ((rm K S).eA gr ord (l.take i)).1) (ry hpi hvn);have AA:=hs1.Oo;rw[xY]at AA;have hsn:=xx (m:=rm K S) (g:=gr) (v:=l[i]) (l:=l.take i) (ord:=ord);rw[<-kA]at hsn;rw[xai,<-jY]at uU;refine Ext.two λb30 _=>(St.q ?_);refine Ld.f ?_;refine Ld.f ?_;refine ae.gL (af.mk (St.one (c':=List.toArray [iv ((ff K S ord:Nat):Int),iv 0,iv ((((rm K S).eA gr ord (l.take (i+1))).2:Nat):Int),.bool false]) (by exact .tail (.head _)) rfl zI (by rw[hsn];rfl) ?_));exact ae.inc (az.of .tail ⟨i+1,C2,rfl,hlt,rfl,by rw[hsn];exact uU⟩ (by simp only[bA];omega))
 obtain rfl:i=K.n:=by omega
 rw[show l.take K.n=l from by rw[<-nM];exact xbe]at hA⊢;refine aa.eq (jL hA) (af.mk (St.one (c':=List.toArray [iv ((ff K S ord:Nat):Int),iv ((ff K S (aJ ord ((rm K S).eA gr ord l).1):Nat):Int),iv ((((rm K S).eA gr ord l).2:Nat):Int),.bool false]) (by exact .head _) rfl zI rfl ?_));refine ax.q ?_;refine St.q ?_;refine ax.q ?_;exact aQ.mk (.skip (.skip .right)) ⟨l,hl,rfl,hA⟩
end
end
section
theorem ae.wI{kd:IntKind}{a b:Nat}{k:zV->Prop}(hb:b≠0)(h:k (.int kd ((a%b:Nat):Int))):ae .num .rem (.int kd a) (.int kd b) k:=
 ae.VL zO rfl (by have:((a:Int)).tmod (b:Int)=((a%b:Nat):Int):=rfl;rw[this];exact h)
open aC
section
variable {kp mb DC b1 b7 E3 bn:Nat} {K:Kd} {S:Nat->aC.Fn} {ord ag tr:zL} {C:Hp}
def kr(r:Nat):zV:=u32 r
theorem gi(a b:Nat):Instr.sameNow (.int .u32) (kr a) (kr b)=some (decide (a=b)):=by
 simp only[Instr.sameNow,kr,u32,xa7,xas];rw[xcQ];simp;omega
theorem k7(a:Nat):Instr.sameBits 10000 (kr a) (kr a)=true:=by simp[Instr.sameBits,kr,u32]
structure Kn(n:Nat)(S:Nat->aC.Fn)(es:Array MapEntry)(ck:Nat)(m:List (Nat×zV))(Y:Hp):Prop where
 dL:aT kr (λv x=>v=x) es ck m
 jy:∀r v,bO m r=some v->dM Y v n (S r)
 low:∀r,r<2->bO m r≠none
theorem Kn.mono{n:Nat}{S:Nat->aC.Fn}{es:Array MapEntry}{ck:Nat}{m:List (Nat×zV)}{Y Y':Hp}(h:Kn n S es ck m Y)(hs:∀x∈Y,x∈Y'):Kn n S es ck m Y':=⟨h.dL,λr v hm=>(h.jy r v hm).mono hs,h.low⟩
theorem dM.one{B:Hp}{v:zV}{n:Nat}{f:aC.Fn}(h:dM B v n f):∃s,v=.agg #[iv (n:Int),s]/\s.oneCell'=true:=by
 obtain⟨ws,⟨s,rfl,hw⟩,_,_⟩:=h;exact⟨s,rfl,bu hw⟩
theorem cN{n:Nat}{s:zV}(h:s.oneCell'=true):∀u∈[Value.int .i64 (n:Int),s],u.oneCell'=true:=λu hu=>by
 simp only[xag,xaw,xaZ]at hu;rcases hu with rfl|rfl
 ·rfl
 exact h
theorem iO(d:Nd):∀u∈bH d,u.oneCell'=true:=λu hu=>by
 simp only[bH,xag,xaw,xaZ]at hu;rcases hu with rfl|rfl|rfl<;>rfl
theorem vj{X:Hp}(h:cT kp K S ord ag tr C){r:Nat}{d:Nd}(hd:K.N r=some d):Px zQ 134 #[ptr kp,u32 r] (X++C) (λv _=>v=.agg (bH d).toArray):=by
 have hlt:=h.dz (.inr ⟨d,hd⟩);refine aK λg=>Hh λb1 _=>?_;refine aa.eq (args:=#[ptr kp,u32 r]) (kx h.rep zO) ?_;rw[fh hd (h.ok.mid.two hd).1];refine Ext.two λb7 _=>(St.p (iO d) ?_);refine ax.q ?_;refine St.p (iO d) ?_;refine ax.q ?_;exact As.mk (by repeat (first|exact bG.refl _|apply bG.cons|apply bG.app)) rfl
theorem vp{X:Hp}{v:zV}(h:cT kp K S ord ag tr C){rs:zL}(hv:er .u32 (X++C) v (iw rs))(hr:∀r∈rs,live K.N r)(hl:rs.length<4611686018427387904):Px zQ 132 #[ptr kp,v] (X++C) (λw _=>w=iv 0):=by
 refine aK λg=>Hl (ae.aG (Br.no (hv.bE ?_)));rw[an];refine⟨λvs H=>∃(i:Nat) (N:Hp),vs=[iv (i:Int)]/\i<=rs.length/\H=N++(X++C),λvs _=>rs.length-bA vs 0,JE.mk ⟨0,[],rfl,xaA _,rfl⟩,?_⟩;rintro w H ⟨i,N,hw,hi,rfl⟩ gs;simp only[xaz,xbb]at hw;subst hw;refine ae.cX (Br.dec (λhlt=>?_) (λhge=>?_))
 ·have Dr:=hr _ (xaF hlt);have s7:=h.dz Dr;refine hv.ld (n:=((rs[i]:Nat):Int)) (cr (xab hlt)) (λ_ h=>xaa _ h) ?_;refine aa.eq (args:=#[ptr kp,u32 rs[i]]) (kx h.rep zO) ?_;rw[xae (cg.2 Dr)];refine Ext.two λb15 _=>(St.whole (r:=got K.N rs[i]) (by exact .head _) rfl (bJ _ _).1 (bJ _ _).2 ?_);exact ae.ic (Br.F (ae.inc (az.mk ⟨i+1,_::N,rfl,hlt,rfl⟩ (by simp only[bA];omega))))
 exact As.mk (by repeat (first|exact bG.refl _|apply bG.cons|apply bG.app)) rfl
theorem QU{X:Hp}{n:Nat}(hn:n<=16){d:Nd}(hd:d.v<n){v1 v2:zV}{f1 f2:aC.Fn}(h1:dM X v1 n f1)(h2:dM X v2 n f2)(hm:(bn,Obj.cells #[iv (n:Int)] 3 zZ)∈X):
  Px zQ 273 #[.agg (bH d).toArray,v1,v2,ptr bn] X (λw H=>dM H w n (λx=>if x.testBit d.v then f2 x else f1 x)):=by
 obtain⟨s1,rfl,o1⟩:=h1.one;obtain⟨s2,rfl,o2⟩:=h2.one;refine aK λg=>FI λc1 _ c3 _ c5 _ c7 _=>?_;refine Ld.mk (v:=iv (n:Int)) (by exact .tail _ (.tail _ (.tail _ (.tail _ hm)))) rfl ?_;refine Ld.f ?_;refine aa.px (br.left (C:=[]) (A:=_)) (H7 hn hd []) ?_;rintro w N ⟨t,rfl,ht⟩;rw[xaH]at ht⊢;obtain⟨s3,rfl,o3⟩:=ht.one;refine Ext.two λWL _=>(St.p (cN o3) ?_);refine ax.q ?_;refine ax.q ?_;refine ax.q ?_;refine aa.pre (.perm (.cons _ (xaU.trans (.cons _ (xaU.trans (.cons _ (xaU.trans (.cons _ xaU)))))))) ?_;refine aa.pq (Ic (B:=N++X) (ht.mono λ_ h=>xad _ h) (h2.mono λ_ h=>xaa _ h) (h1.mono λ_ h=>xaa _ h)) ?_;rintro w N2 ⟨t4,rfl,ht4⟩;obtain⟨s4,rfl,o4⟩:=ht4.one;refine Ext.two λc26 _=>(St.p (cN o4) ?_);refine ax.q ?_;refine St.p (cN o4) ?_;refine ax.q ?_;refine As.mk (by repeat (first|exact bG.refl _|apply bG.cons|apply bG.app)) (ht4.mono ?_);intro x hx;repeat (first|exact hx|apply xby)
theorem ach(h:cT kp K S ord ag tr C)(hn:K.n<=16){Z0:Hp}(h19:(DC,Obj.cells #[.map (some mb)] 381 zZ)∈Z0)(h1:(b1,Obj.cells #[ptr kp] 41 zZ)∈Z0)(h7:(b7,Obj.cells #[.func (.func 273) #[] #[ptr bn]] 357 zZ)∈Z0)
 (Zw:(E3,Obj.cells #[.func (.func 296) #[] #[ptr DC,ptr b1,ptr b7,ptr E3]] 382 zZ)∈Z0)(Zk:(bn,Obj.cells #[iv (K.n:Int)] 3 zZ)∈Z0):
  ∀(k r:Nat) (es:Array MapEntry) (ck:Nat) (m:List (Nat×zV)) (Z:Hp),K.n-dep K.n (lv ag) K.N r<=k->live K.N r->(∀x∈Z0,x∈Z)->Kn K.n S es ck m Z->
  Fc zQ 296 #[u32 r,ptr DC,ptr b1,ptr b7,ptr E3] ((mb,.map es ck)::(Z++C)) (λv H=>∃es' cC m' N,H=(mb,.map es' cC)::(N++(Z++C))/\Kn K.n S es' cC m' (N++Z)/\dM (N++Z) v K.n (S r)):=by
 have hit:∀{r:Nat} {es:Array MapEntry} {ck:Nat} {m:List (Nat×zV)} {Z:Hp} {v:zV},(∀x∈Z0,x∈Z)->Kn K.n S es ck m Z->bO m r=some v->
   Fc zQ 296 #[u32 r,ptr DC,ptr b1,ptr b7,ptr E3] ((mb,.map es ck)::(Z++C)) (λv H=>∃es' cC m' N,H=(mb,.map es' cC)::(N++(Z++C))/\Kn K.n S es' cC m' (N++Z)/\dM (N++Z) v K.n (S r)):=by
  intro r es ck m Z v hZ hm hv g;obtain⟨s,rfl,hs⟩:=(hm.jy r v hv).one;refine vS (R:=aQ _) ?_;unfold L296;intro c1 _;refine Ld.mk (v:=.map (some mb)) (by exact .tail _ (.tail _ (xad _ (hZ _ h19)))) rfl ?_;refine hm.dL.hit (k:=r) gi (b:=mb) (by exact .tail _ (.head _)) hv λv' e=>?_;subst e;refine Ext.two λc7 _=>(St.p (cN hs) ?_);refine Br.yes (ax.q ?_);refine St.p (cN hs) ?_;refine ax.q ?_;exact aQ.mk (.skip .tail) ⟨es,ck,m,[],rfl,hm,hm.jy r _ hv⟩
 intro k;induction k with
 |zero=>
  intro r es ck m Z hk hr hZ hm;have rA:r<2:=by
   cases hN:K.N r with
   |some d=>
    have:=h.ok.wf.gI h.ok.lv r;rw[ay hN]at hk;have:=h.ok.lv.lt _ (h.ok.mid.var hN);omega
   |none=>
    rcases hr with hr|⟨d,e⟩
    ·exact hr
    rw[hN]at e;cases e
  cases hv:bO m r with
  |none=>exact absurd hv (hm.low r rA)
  |some v=>exact hit hZ hm hv
 |succ k ih=>
  intro r es ck m Z hk hr hZ hm;cases hv:bO m r with
  |some v=>exact hit hZ hm hv
  |none=>
  have rA:¬r<2:=λh2=>hm.low r h2 hv;obtain⟨d,hN⟩:∃d,K.N r=some d:=by
   rcases hr with hr|hr
   ·omega
   exact hr
  have tc:=h.ok.mid.var hN;have hlo:=h.ok.wf.lo hN;have hhi:=h.ok.wf.hi hN;have hdl:=h.ok.wf.gI h.ok.lv r;rw[ay hN]at hk;have hvl:=h.ok.lv.lt _ tc;have ND:S r=λx=>if x.testBit d.v then S d.hi x else S d.lo x:=funext λx=>h.ok.mid.int.node hN x
  refine aK λg=>vS λc1 _=>?_;refine Ld.mk (v:=.map (some mb)) (by exact .tail _ (.tail _ (xad _ (hZ _ h19)))) rfl ?_;refine hm.dL.bU (k:=r) gi (b:=mb) (by exact .tail _ (.head _)) hv ?_;refine Ext.two λc7 _=>(St.q ?_);refine Br.no (Ld.mk (v:=ptr kp) (by exact .tail _ (.tail _ (.tail _ (xad _ (hZ _ h1))))) rfl ?_);refine aa.pq (args:=#[ptr kp,u32 r]) (vj (X:=Z) h hN) ?_;rintro w N0 rfl;intro WL _;refine St.p (iO d) ?_;obtain⟨Z1,hZ1⟩:∃Z1,Z1=(WL,Obj.cells (bH d).toArray 201 zZ)::(N0++Z):=⟨_,rfl⟩;have Qy:∀x∈Z,x∈Z1:=λx hx=>by rw[hZ1];exact .tail _ (xaa _ hx)
  have Qg:aF (Z1++C) ((WL,Obj.cells (bH d).toArray 201 zZ)::Z):=by rw[hZ1];exact aF.left.trans (.cons .right)
  have uP:((WL,Obj.cells (bH d).toArray 201 zZ)::(c7,.cells (List.toArray [iv 0,.slice none 0 0]) 30 zZ)::(c1,.cells #[iv 0,.slice none 0 0] 30 zZ)::(mb,Obj.map es ck)::(N0++(Z++C))).Perm
    ((c1,.cells #[iv 0,.slice none 0 0] 30 zZ)::(c7,.cells (List.toArray [iv 0,.slice none 0 0]) 30 zZ)::(mb,Obj.map es ck)::(Z1++C)):=by
   rw[hZ1,xaS,xai];refine(List.Perm.swap _ _ _).trans ?_;refine(List.Perm.cons _ (List.Perm.swap _ _ _)).trans ?_;refine(List.Perm.swap _ _ _).trans (.cons _ (.cons _ (.swap _ _ _)))
  have hR0:aF ((WL,Obj.cells (bH d).toArray 201 zZ)::(c7,.cells (List.toArray [iv 0,.slice none 0 0]) 30 zZ)::(c1,.cells #[iv 0,.slice none 0 0] 30 zZ)::(mb,Obj.map es ck)::(N0++(Z++C))) ((WL,Obj.cells (bH d).toArray 201 zZ)::Z):=
   .cons (.skip (.skip (.skip (.bN .left))))
  refine DR.of hR0 (Ld.mk (v:=.func (.func 273) #[] #[ptr bn]) (by exact .tail _ (hZ _ h7)) rfl ?_);refine ax.q ?_;refine Ld.mk (v:=.func (.func 296) #[] #[ptr DC,ptr b1,ptr b7,ptr E3]) (by exact .tail _ (hZ _ Zw)) rfl ?_;refine Ld.f ?_;refine Ld.mk (v:=.func (.func 296) #[] #[ptr DC,ptr b1,ptr b7,ptr E3]) (by exact .tail _ (hZ _ Zw)) rfl ?_;refine Ld.f ?_;intro F;refine bK.of rfl zK (aa.pre (.perm uP) ?_);refine aa.fq (args:=#[u32 d.lo,ptr DC,ptr b1,ptr b7,ptr E3]) (ih d.lo es ck m Z1 zO hlo.1 (λx hx=>Qy _ (hZ x hx)) (hm.mono Qy)) ?_;rintro v1 H ⟨nQ,mh,m1,N1,rfl,AD,Um⟩;refine⟨.skip (.skip (.skip (.bN Qg))),?_⟩;rw[<-xai];intro F;refine bK.of rfl zK (aa.fq (args:=#[u32 d.hi,ptr DC,ptr b1,ptr b7,ptr E3]) (ih d.hi nQ mh m1 (N1++Z1) zO hhi.1 (λx hx=>xaa _ (Qy _ (hZ x hx))) AD) ?_);rintro v2 H ⟨lB,mg,m2,N2,rfl,tw,KO⟩;refine⟨.skip (.skip (.skip (.bN (aF.assoc.trans (.bN Qg))))),?_⟩;rw[<-xai];intro F;refine bK.of rfl zK (aa.pq (args:=#[.agg (bH d).toArray,v1,v2,ptr bn]) (QU (bn:=bn) hn tc (Um.mono λ_ h=>xaa _ h) KO (xaa _ (xaa _ (Qy _ (hZ _ Zk))))) ?_);intro v3 N3 IS;rw[<-ND]at IS;refine⟨.skip (.skip (.skip (aF.assoc.trans (.bN (aF.assoc.trans (.bN (aF.assoc.trans (.bN Qg)))))))),?_⟩;obtain⟨s3,rfl,o3⟩:=IS.one;intro c37 _;intro F;refine St.p (cN o3) ?_;refine Ld.mk (v:=.map (some mb)) (by exact .tail _ (.tail _ (.tail _ (.tail _ (xad _ (xaa _ (xaa _ (xaa _ (Qy _ (hZ _ h19)))))))))) rfl ?_;refine ax.q ?_;refine tw.dL.bT (k:=r) (b:=mb) (x:=.agg #[iv (K.n:Int),s3]) gi k7 rfl λQ9 RB he=>⟨_,.tail (.tail (.tail (.head _))),?_⟩;refine ax.q ?_;refine St.p (cN o3) ?_;refine ax.q ?_;have hmem:∀x∈N3++(N2++(N1++Z1)),x∈(N3++(N2++(N1++((WL,Obj.cells (bH d).toArray 201 zZ)::N0))))++Z:=λx hx=>by
   rw[hZ1]at hx;simpa only[xai,xaS]using hx
  refine aQ.mk (.skip (.skip .tail)) ⟨Q9,RB,cY m2 r (.agg #[iv (K.n:Int),s3]),N3++(N2++(N1++((WL,Obj.cells (bH d).toArray 201 zZ)::N0))),by rw[hZ1];simp only[xai,xaS],⟨he,λr' v' n4=>?_,λr' hr'=>?_⟩,IS.mono hmem⟩
  ·rw[cM]at n4;split at n4
   ·rename_i e;subst e;cases n4;exact IS.mono hmem
   exact(tw.jy r' v' n4).mono λx hx=>hmem x (xaa _ hx)
  rw[cM];split
  ·simp
  exact tw.low r' hr'
end
section
variable {kp bn:Nat} {K:Kd} {S:Nat->aC.Fn} {ord ag tr:zL} {C:Hp}
theorem U0(h:cT kp K S ord ag tr C)(hn:K.n<=16){r:Nat}(hr:live K.N r){X:Hp}{v0 v1:zV}(hv0:dM X v0 K.n (λ_=>false))(V6:dM X v1 K.n (λ_=>true))(Zk:(bn,Obj.cells #[iv (K.n:Int)] 3 zZ)∈X):
  Fc zQ 272 #[ptr kp,u32 r,v0,v1,.func (.func 273) #[] #[ptr bn]] (X++C) (λv H=>∃N,H=N++(X++C)/\dM (N++X) v K.n (S r)):=by
 obtain⟨s0,rfl,o0⟩:=hv0.one;obtain⟨s1,rfl,o1⟩:=V6.one;have hi:=h.ok.mid.int;refine aK λg=>FJ λb1 _ b3 _ b5 _ b7 _ b9 _ mb _=>?_;refine ax.q ?_;refine aT.bT (ke:=kr) (vr:=λv x=>v=x) (k:=0) (b:=mb) (x:=Value.agg #[iv (K.n:Int),s0]) gi k7 aT.empty rfl λnQ mh UB=>⟨_,.head _,?_⟩;refine ax.q ?_;refine aT.bT (ke:=kr) (vr:=λv x=>v=x) (k:=1) (b:=mb) (x:=Value.agg #[iv (K.n:Int),s1]) gi k7 UB rfl λlB mg Wp=>⟨_,.head _,?_⟩;intro DC _;refine St.one (c':=#[.map (some mb)]) (by exact .head _) rfl zI rfl ?_;intro E3 _;refine St.one (c':=#[.func (.func 296) #[] #[ptr DC,ptr b1,ptr b7,ptr E3]]) (by exact .head _) rfl zI rfl ?_;refine Ld.q ?_;refine bK.of rfl zK ?_;obtain⟨Z0,Wy⟩:∃Z0:Hp,Z0=(E3,Obj.cells #[.func (.func 296) #[] #[ptr DC,ptr b1,ptr b7,ptr E3]] 382 zZ)::(DC,.cells #[.map (some mb)] 381 zZ)::(b7,.cells #[.func (.func 273) #[] #[ptr bn]] 357 zZ)::(b5,.cells (Value.cells (.agg #[iv (K.n:Int),s1])) 30 zZ)::(b3,.cells (Value.cells (.agg #[iv (K.n:Int),s0])) 30 zZ)::(b1,.cells #[ptr kp] 41 zZ)::X:=⟨_,rfl⟩;have hXZ:∀x∈X,x∈Z0:=λx hx=>by rw[Wy];exact .tail _ (.tail _ (.tail _ (.tail _ (.tail _ (.tail _ hx)))))
 refine aa.pre (H':=(b9,Obj.cells #[iv 0,.slice none 0 0] 30 zZ)::(mb,Obj.map lB mg)::(Z0++C)) (.perm ?_) ?_
 ·rw[Wy];simp only[xaS];refine(List.Perm.cons _ (List.Perm.cons _ (List.Perm.swap _ _ _))).trans ?_;refine(List.Perm.cons _ (List.Perm.swap _ _ _)).trans ?_;refine(List.Perm.swap _ _ _).trans (.cons _ ?_);refine(List.Perm.cons _ (List.Perm.swap _ _ _)).trans ?_;exact List.Perm.swap _ _ _
 refine aa.fq (args:=#[u32 r,ptr DC,ptr b1,ptr b7,ptr E3]) (ach (Z0:=Z0) (bn:=bn) h hn (by rw[Wy];exact .tail _ (.head _)) (by rw[Wy];exact .tail _ (.tail _ (.tail _ (.tail _ (.tail _ (.head _)))))) (by rw[Wy];exact .tail _ (.tail _ (.head _))) (by rw[Wy];exact .head _) (hXZ _ Zk) K.n r lB mg _ Z0 (xdP _ _) hr (λ_ h=>h) ⟨Wp,λr v hm=>?_,λr hr=>?_⟩) ?_
 ·rw[cM,cM]at hm;split at hm
  ·rename_i e;subst e;cases hm;have:=V6.mono hXZ;rwa [show(λ_=>true)=S 1 from funext λx=>(hi.one x).symm]at this
  split at hm
  ·rename_i e;subst e;cases hm;have:=hv0.mono hXZ;rwa [show(λ_=>false)=S 0 from funext λx=>(hi.zero x).symm]at this
  simp[bO]at hm
 ·rw[cM,cM];have:r=0\/r=1:=by omega
  rcases this with rfl|rfl<;>simp
 rintro v H ⟨Q9,RB,m3,N,rfl,_,ht⟩;obtain⟨s3,rfl,o3⟩:=ht.one;refine St.p (cN o3) ?_;refine ax.q ?_;refine aQ.mk (.skip .tail) ⟨N++[(E3,Obj.cells #[.func (.func 296) #[] #[ptr DC,ptr b1,ptr b7,ptr E3]] 382 zZ),(DC,.cells #[.map (some mb)] 381 zZ),(b7,.cells #[.func (.func 273) #[] #[ptr bn]] 357 zZ),(b5,.cells (Value.cells (.agg #[iv (K.n:Int),s1])) 30 zZ),(b3,.cells (Value.cells (.agg #[iv (K.n:Int),s0])) 30 zZ),(b1,.cells #[ptr kp] 41 zZ)],by rw[Wy];simp,ht.mono λx hx=>?_⟩;rw[Wy]at hx;simpa using hx
theorem LK(h:cT kp K S ord ag tr C)(hn:K.n<=16){r:Nat}(hr:live K.N r):
  Fc zQ 236 #[ptr kp,u32 r] C (λv H=>∃N t,H=N++C/\v=.tuple #[t,iv 0]/\dM N t K.n (S r)):=by
 refine aK λg=>F6 λb1 _=>?_;refine aj.int (e:=80) zK zK zK λbx=>?_;refine aa.px .here (vp (X:=[(bx,_),(b1,_)]) (rs:=[r]) h (er.block (by exact .head _) zI) (λx hx=>by rw[xaG.1 hx];exact hr) zI) ?_;rintro w N0 rfl;refine ae.ic (Br.F (aa.eq (mO h.rep) λoz _=>?_));refine St.one (c':=#[iv (K.n:Int)]) (by exact .head _) rfl zI rfl ?_;refine Ld.q ?_;refine ae.gW (b:=16) (Br.F (Ld.q ?_));refine aa.px (br.left (C:=[]) (A:=_)) (qU hn false []) ?_;rintro w N1 ⟨t0,rfl,Uo⟩;rw[xaH]at Uo⊢;obtain⟨s0,rfl,o0⟩:=Uo.one;refine Ext.two λRQ _=>(St.p (cN o0) ?_);refine Ld.q ?_;refine aa.px (br.left (C:=[]) (A:=_)) (qU hn true []) ?_;rintro w N2 ⟨t1,rfl,Um⟩;rw[xaH]at Um⊢;obtain⟨s1,rfl,o1⟩:=Um.one;refine Ext.two λb34 _=>(St.p (cN o1) ?_);refine ax.q ?_;refine ax.q ?_;obtain⟨X,hX⟩:∃X:Hp,X=(b34,Obj.cells (List.toArray [iv (K.n:Int),s1]) 30 zZ)::(N2++((RQ,Obj.cells (List.toArray [iv (K.n:Int),s0]) 30 zZ)::(N1++((oz,Obj.cells #[iv (K.n:Int)] 3 zZ)::(N0++[(bx,Obj.cells (aA .u32 [(r:Int)]) 80 zZ)]))))):=⟨_,rfl⟩;refine aa.pre (H':=(b1,Obj.cells #[iv 0,.slice none 0 0] 30 zZ)::(X++C)) (.perm ?_) ?_
 ·rw[hX];have:=xaU (a:=(b1,Obj.cells #[Value.int .i64 0,.slice none 0 0] 30 zZ)) (l₂:=C) (l₁:=(b34,Obj.cells (List.toArray [Value.int .i64 (K.n:Int),s1]) 30 zZ)::(N2++((RQ,Obj.cells (List.toArray [Value.int .i64 (K.n:Int),s0]) 30 zZ)::(N1++((oz,Obj.cells #[Value.int .i64 (K.n:Int)] 3 zZ)::(N0++[(bx,Obj.cells (aA .u32 [(r:Int)]) 80 zZ)]))))));simpa only[xaS,xai,xa6]using this
 refine aa.fq (U0 (X:=X) (bn:=oz) h hn hr (Uo.mono λx hx=>?_) (Um.mono λx hx=>?_) ?_) ?_
 ·rw[hX];exact .tail _ (xaa _ (.tail _ (xad _ hx)))
 ·rw[hX];exact .tail _ (xad _ hx)
 ·rw[hX];exact .tail _ (xaa _ (.tail _ (xaa _ (.head _))))
 rintro v H ⟨N,rfl,ht⟩;obtain⟨s3,rfl,o3⟩:=ht.one;refine St.p (cN o3) ?_;refine ax.q ?_;exact aQ.mk .tail ⟨N++X,_,by rw[xai],rfl,ht⟩
def rts(K:Kd):zL:=(List.range K.ho.length).filter λr=>decide (0<K.hold r)
theorem Kg(h:cT kp K S ord ag tr C):Fc zQ 235 #[ptr kp] C (λr H=>∃N,H=N++C/\aR 80 .u32 r (iw (rts K)) N):=by
 obtain⟨b,hC,hO⟩:=h.rep;have hcap:=h.ok.mid.cap;have hle:=h.nJ;have hfit:K.ho.length<=1048576:=by
  have:=hO.ul;omega
 refine aK λg=>F8 (ae.aG (Br.no ?_));have aaH:∀z∈b.CH,z∈C:=by rw[hC];exact br.sub (.cons (.app (.app (.app .left))))
 refine Nil.ptr (af.mk (Ld.u (by rw[hC];exact .head _) ?_));refine hO.ho.bE ?_;rw[an]
 let rk:Nat->zL:=λk=>(List.range k).filter λr=>decide (0<K.hold r)
 refine⟨λvs H=>∃(k:Nat) (w:zV) (N:Hp),vs=[w,iv (k:Int)]/\k<=K.ho.length/\H=N++C/\aR 80 .u32 w (iw (rk k)) N,λvs _=>K.ho.length-bA vs 1,JE.mk ⟨0,_,[],rfl,xaA _,rfl,aR.nil⟩,?_⟩;rintro w11 W3 H ⟨k,w,N,⟨⟩,hk,rfl,hN⟩ gs;refine ae.cX (Br.dec (λhlt=>?_) (λhlt=>?_))
 ·intro J hJ;have fin:∀w' N',aR 80 .u32 w' (iw (rk (k+1))) N'->J [w'] (N'++C):=λw' N' h'=>hJ _ _ λgs=>by
   exact ae.inc (az.of (.refl _) ⟨k+1,w',N',rfl,hlt,rfl,h'⟩ (by simp only[bA];omega))
  have e:rk (k+1)=rk k++if 0<K.hold k then [k]else []:=by
   show(List.range (k+1)).filter _=_;rw[xcR,xcs];congr 1;by_cases hp:0<K.hold k<;>simp[hp]
  refine hO.ho.ld (x:=((K.hold k:Nat):Int)) (bX hlt) (λz hz=>xaa _ (aaH z hz)) (ae.gW (b:=0) (Br.dec (λhp=>?_) (λhp=>?_)))
  ·rw[e,xae hp]at fin;refine aH.q ?_;have Nu:(rk k).length<=k:=by
    have:=xbT (λr=>decide (0<K.hold r)) (List.range k);rwa [xaK]at this
   refine aj.int (e:=80) zK zK zK λbx=>?_;refine hN.mi (.cons .left) (by exact .head _) (by rw[an];omega) (by rw[an];omega) λv' N' cq=>?_;rw[cj]at fin;exact JE.of .tail (fin v' N' cq)
  rw[e,xac hp,xaH]at fin;exact JE.mk (fin w11 N hN)
 obtain rfl:k=K.ho.length:=by omega
 exact aQ.here ⟨N,rfl,hN⟩
end
end
end Go.Proofs
namespace ak
open Go.Sx
def LL(c:Nat->Nat->Nat):Nat->zL->Nat
 |_,[]=>0
 |a,v::o=>c a v+LL c (aB a v true) o
def oI(a:Nat)(o:zL):Nat:=o.foldl (λa v=>aB a v true) a
theorem A2(a:Nat)(o o':zL):oI a (o++o')=oI (oI a o) o':=xdV ..
theorem vb(c:Nat->Nat->Nat):∀(o o':zL) (a:Nat),LL c a (o++o')=LL c a o+LL c (oI a o) o'
 | [],o',a=>by simp[LL,oI]
 |v::o,o',a=>by rw[xaS,LL,vb c o o',LL,xdB];rfl
theorem pG:∀(o:zL) (a u:Nat),(oI a o).testBit u=(a.testBit u||decide (u∈o))
 | [],a,u=>by simp[oI]
 |v::o,a,u=>by
  show(oI (aB a v true) o).testBit u=_;rw[pG o,ai];by_cases e:u=v
  ·simp[e]
  simp[e]
structure l5(n a:Nat)(o:zL):Prop where
 nd:o.Nodup
 mem:∀v,v∈o↔v∈bU n a
variable {n:Nat} {c:Nat->Nat->Nat}
theorem l5.nil{a:Nat}(h:l5 n a []):bU n a=[]:=xcM.2 λv hv=>by simpa using(h.mem v).2 hv
theorem l5.tail{a v:Nat}{o:zL}(h:l5 n a (v::o)):v∈bU n a/\l5 n (aB a v true) o:=by
 have h1:=xaW.1 h.nd;refine⟨(h.mem v).1 zI,h1.2,λu=>?_⟩;rw[cG,ai];have hu:=h.mem u;rw[cG,xag]at hu;by_cases e:u=v
 ·subst e;simp[h1.1]
 simp only[e,false_or,xaT]at hu⊢;exact hu
theorem l5.cons{a v:Nat}{o:zL}(hv:v∈bU n a)(h:l5 n (aB a v true) o):l5 n a (v::o):=by
 have hm:=h.mem;refine⟨xaW.2 ⟨λhx=>?_,h.nd⟩,λu=>?_⟩
 ·have:=(hm v).1 hx;rw[cG,ai,xae rfl]at this;exact absurd this.2 zI
 rw[xag,hm,cG,cG,ai];rw[cG]at hv;by_cases e:u=v
 ·subst e;simp[hv]
 simp[e]
theorem Df:∀(o:zL) (a:Nat),l5 n a o->B n c a<=LL c a o
 | [],a,h=>by rw[Jz h.nil];exact xaA _
 |v::o,a,h=>by
  obtain⟨h1,h2⟩:=h.tail;exact xbZ (acF h1) (Nat.add_le_add_left (Df o _ h2) _)
theorem D4:∀(f a:Nat),(bU n a).length<=f->l5 n a (ord n c f a)/\LL c a (ord n c f a)=B n c a
 |0,a,h=>by
  have hm:bU n a=[]:=xb5 zO;rw[ord,Jz hm];exact⟨⟨by simp,λv=>by rw[hm]⟩,rfl⟩
 |f+1,a,h=>by
  by_cases hm:bU n a=[]
  ·have:ord n c (f+1) a=[]:=by rw[ord,hm];rfl
   rw[this,Jz hm];exact⟨⟨by simp,λv=>by rw[hm]⟩,rfl⟩
  obtain⟨v,hv,he,_,ho⟩:=uy (c:=c) (f:=f) hm;have:=gf hv;obtain⟨h1,h2⟩:=D4 f (aB a v true) zO;rw[ho];exact⟨h1.cons hv,by rw[LL,h2,he]⟩
theorem nF(n:Nat):bU n 0=List.range n:=by
 unfold bU;rw[xdo.2];simp
end ak
namespace ak
open Go.Sx
def Ti(n:Nat)(l:Fs)(vs:zL):Fs:=vs.foldl (λl v=>given n l v) l
theorem Qs(A k:Nat):has (k+1) A=has k A++(if A.testBit k then [k]else []):=by
 unfold has;rw[xcR,xcs];congr 1;rw[xb4];simp
theorem tS(n:Nat)(l:Fs)(a b:zL):Ti n l (a++b)=Ti n (Ti n l a) b:=xdV ..
theorem tV(n:Nat)(L:Fs)(A:Nat):∀k,st n L A k=Ti n (iS L) (has k A)
 |0=>rfl
 |k+1=>by
  rw[st,Qs,tS,<-tV n L A k];split<;>rfl
def Sm(a b:Fs):Prop:=∀x,x∈a↔x∈b
theorem Sm.trans{a b c:Fs}(h:Sm a b)(h':Sm b c):Sm a c:=λx=>(h x).trans (h' x)
theorem Sm.symm{a b:Fs}(h:Sm a b):Sm b a:=λx=>(h x).symm
theorem Sm.refl(a:Fs):Sm a a:=λ_=>xdg
def AF(n:Nat)(l:Fs):Prop:=∀t∈l,dA n t
variable {n:Nat}
theorem su{a b:Fs}(h:Sm a b)(v:Nat):Sm (given n a v) (given n b v):=λx=>by
 rw[bY,bY];constructor
 ·rintro⟨t,ht,h'⟩;exact⟨t,(h t).1 ht,h'⟩
 rintro⟨t,ht,h'⟩;exact⟨t,(h t).2 ht,h'⟩
theorem QH(hn:n<=16)(l:Fs)(v:Nat):AF n (given n l v):=λt ht=>by
 obtain⟨u,_,b,rfl⟩:=bY.1 ht;exact dQ hn
theorem Cr{t:zL}{u v:Nat}{b c:Bool}(hf:dA n t)(hu:u<n)(hv:v<n)(h:u≠v):fU n (fU n t u b) v c=fU n (fU n t v c) u b:=
 (dQ hf.si).ext (dQ hf.si) λx hx=>by
  rw[ez (dQ hf.si) hv hx,ez hf hu (fw hx hv),ez (dQ hf.si) hu hx,ez hf hv (fw hx hu),dk (xbn h)]
theorem EE{l:Fs}{u v:Nat}(hl:AF n l)(hu:u<n)(hv:v<n)(h:u≠v):Sm (given n (given n l u) v) (given n (given n l v) u):=λx=>by
 rw[bY,bY];constructor
 ·rintro⟨t,ht,c,rfl⟩;obtain⟨s,hs,b,rfl⟩:=bY.1 ht;exact⟨fU n s v c,bY.2 ⟨s,hs,c,rfl⟩,b,Cr (hl s hs) hu hv h⟩
 rintro⟨t,ht,c,rfl⟩;obtain⟨s,hs,b,rfl⟩:=bY.1 ht;exact⟨fU n s u c,bY.2 ⟨s,hs,c,rfl⟩,b,Cr (hl s hs) hv hu (xbn h)⟩
theorem xm:∀(vs:zL) {a b:Fs},Sm a b->Sm (Ti n a vs) (Ti n b vs)
 | [],_,_,h=>h
 |v::vs,_,_,h=>xm vs (su h v)
theorem Ou(hn:n<=16){vs vs':zL}(hp:vs.Perm vs'):(∀v∈vs,v<n)->∀l,AF n l->Sm (Ti n l vs) (Ti n l vs'):=by
 induction hp with
 |nil=>exact λ_ l _=>Sm.refl _
 |cons v _ ih=>exact λh l hl=>ih (λu hu=>h u (by simp[hu])) _ (QH hn l v)
 |swap x y r=>
  intro h l hl;by_cases e:x=y
  ·subst e;exact Sm.refl _
  exact xm r (EE hl (h y zI) (h x zI) (xbn e))
 |trans uP _ ih1 ih2=>exact λh l hl=>(ih1 h l hl).trans (ih2 (λv hv=>h v (uP.mem_iff.2 hv)) l hl)
theorem xl:∀(vs:zL) {l:Fs},l.Nodup->(Ti n l vs).Nodup
 | [],_,h=>h
 |v::vs,_,_=>xl vs (mV _ _ _)
theorem JO{L:Fs}(h:AF n L):AF n (iS L):=λt ht=>h t (fF.1 ht)
theorem D6{a b:Fs}(ha:a.Nodup)(hb:b.Nodup)(h:Sm a b)(v:Nat):(nodes n a v).length=(nodes n b v).length:=kX (iE ha hb h)
theorem yc(n a:Nat):(has n a).Nodup:=List.Pairwise.filter _ xbs
theorem X9{a v:Nat}(h:v∈has n a):v<n:=(pS.1 h).1
theorem Qt{a v:Nat}(hv:v<n)(ha:a.testBit v=false):(has n (aB a v true)).Perm (has n a++[v]):=by
 refine(xc9 (yc _ _) ?_).2 λu=>?_
 ·rw[xa9];refine⟨yc _ _,by simp,λx hx y hy=>?_⟩;simp at hy;subst hy;rintro rfl;rw[(pS.1 hx).2]at ha;cases ha
 rw[pS,xaq,xaG,pS,ai];by_cases e:u=v
 ·subst e;simp[hv]
 simp[e]
theorem Tl(hn:n<=16){L:Fs}(hL:AF n L){a v:Nat}(hv:v<n)(ha:a.testBit v=false):Sm (st n L (aB a v true) n) (given n (st n L a n) v):=by
 rw[tV,tV];have h:=Ou hn (Qt hv ha) (λu hu=>X9 hu) _ (JO hL);rw[tS]at h;exact h
variable {φ:zL->zL} {π:Nat->Nat}
def lay(n:Nat)(F:Nat->Nat):zL:=(List.range (wN n)).map λi=>F i&&&dr n
def neg(n:Nat)(ws:zL):zL:=lay n λi=>18446744073709551615-ws.getD i 0
end ak
namespace aC
open ak
section
variable {n:Nat} {ord:zL} {L:ak.Fs}
theorem DU(a:Nat)(o:zL)(v:Nat):oI a (o++[v])=aB (oI a o) v true:=by rw[A2];rfl
theorem Rn(hn:n<=16)(hL:∀t∈L,dA n t)(hp:ord.Perm (List.range n)):∀k,k<=n->Sm (cur n ord L k) (st n L (oI 0 (ord.take k)) n)
 |0,_=>by
  have e:st n L (oI 0 (ord.take 0)) n=iS L:=by
   rw[tV];have:has n (oI 0 (ord.take 0))=[]:=by
    show has n 0=[];rw[xcM];intro v hv;have:=(pS.1 hv).2;rw[xcZ]at this;cases this
   rw[this];rfl
  rw[e];exact .refl _
 |k+1,hk=>by
  have xZ:ord.length=n:=by rw[hp.length_eq,xaK]
  have gw:ord.Nodup:=hp.nodup_iff.2 xbs;have hlt:k<ord.length:=by omega
  have hv:ord[k]<n:=xaO.1 (hp.mem_iff.1 (xaF hlt));have hg:ord.getD k 0=ord[k]:=by rw[xan,xab hlt];rfl
  have ht:ord.take (k+1)=ord.take k++[ord[k]]:=xa4 hlt;have hno:ord[k]∉ord.take k:=λhm=>by
   have h2:(ord.take (k+1)).Nodup:=gw.sublist (xdU _ _);rw[ht]at h2;exact(xa9.1 h2).2.2 _ hm _ zI rfl
  have hb:(oI 0 (ord.take k)).testBit ord[k]=false:=by
   rw[pG,xcZ,xap hno];rfl
  rw[ht,DU];refine Sm.trans ?_ (Sm.symm (Tl hn hL hv hb));rw[cur,hg];exact su (Rn hn hL hp k zO) _
theorem T4(hn:n<=16)(hL:∀t∈L,dA n t)(hp:ord.Perm (List.range n)){k:Nat}(hk:k<=n)(v:Nat):(nodes n (cur n ord L k) v).length=lvl n L (oI 0 (ord.take k)) v:=by
 unfold lvl;refine D6 (rI k) ?_ (Rn hn hL hp k hk) v;rw[tV];exact xl _ (kQ _)
theorem Co(hn:n<=16)(hL:∀t∈L,dA n t)(hp:ord.Perm (List.range n)):∀k,k<=n->LL (lvl n L) 0 (ord.take k)=fM n ord L k
 |0,_=>rfl
 |k+1,hk=>by
  have xZ:ord.length=n:=by rw[hp.length_eq,xaK]
  have hlt:k<ord.length:=by omega
  have hg:ord.getD k 0=ord[k]:=by rw[xan,xab hlt];rfl
  rw[xa4 hlt,vb,Co hn hL hp k zO,fM];congr 1;unfold pX;rw[T4 hn hL hp zO,hg];simp[LL]
theorem yu(hn:n<=16)(hL:∀t∈L,dA n t)(hp:ord.Perm (List.range n)):LL (lvl n L) 0 ord=fM n ord L n:=by
 have xZ:ord.length=n:=by rw[hp.length_eq,xaK]
 rw[<-Co hn hL hp n (xal n),<-xZ,xbe]
theorem Ep(hp:ord.Perm (List.range n)):l5 n 0 ord:=⟨hp.nodup_iff.2 xbs,λv=>by rw[nF];exact hp.mem_iff⟩
theorem DY(h:l5 n 0 ord):ord.Perm (List.range n):=by
 refine(xc9 h.nd xbs).2 λv=>?_;rw[h.mem,nF]
theorem rL(c:Nat->Nat->Nat):(ak.ord n c n 0).Perm (List.range n):=DY (D4 n 0 (by rw[nF,xaK];exact xal n)).1
theorem rK(hn:n<=16)(hL:∀t∈L,dA n t):fM n (ak.ord n (lvl n L) n 0) L n=B n (lvl n L) 0:=by
 rw[<-yu hn hL (rL _)];exact(D4 n 0 (by rw[nF,xaK];exact xal n)).2
theorem Vj(hn:n<=16)(hL:∀t∈L,dA n t)(hp:ord.Perm (List.range n)):B n (lvl n L) 0<=fM n ord L n:=by
 rw[<-yu hn hL hp];exact Df ord 0 (Ep hp)
end
end aC
set_option maxRecDepth 100000
namespace Go.Proofs
open Go Go.Sx Tryz
section
open aC
section
variable {kp:Nat} {K:Kd} {S:Nat->aC.Fn} {ord tr:zL} {C:Hp}
theorem tW{n:Nat}{o:zL}:∀k,fM n o [] k=0:=by
  have hc:∀k,cur n o [] k=[]:=λk=>by
    induction k with
    |zero=>rfl
    |succ k ih=>rw[cur,ih];rfl
  intro k;induction k with
  |zero=>rfl
  |succ k ih=>rw[fM,ih];unfold pX;rw[hc];rfl
theorem DL{B:Hp}{v:zV}{n:Nat}{f:aC.Fn}(h:dM B v n f):∃s ws,v=.agg #[iv (n:Int),s]/\Words B s ws/\ak.dA n ws/\fB n ws=f:=by
  obtain⟨ws,⟨s,rfl,hw⟩,hf,he⟩:=h;exact⟨s,ws,rfl,hw,hf,he⟩
def agb(kp:Nat)(K:Kd)(S:Nat->aC.Fn)(ord tr:zL)(v:zV)(H:Hp):Prop:=
  ∃L:ak.Fs,(∀t∈L,ak.dA K.n t)/\K.held S=FT K.n L/\L.length<=1048576/\
   ((ff K S ord=ak.B K.n (ak.lvl K.n L) 0/\v=.tuple #[.agg #[iv ((ff K S ord:Nat):Int),iv ((ff K S ord:Nat):Int),iv 0,.bool true],iv 0]/\At kp K S ord tr H)\/
    (ff K S ord≠ak.B K.n (ak.lvl K.n L) 0/\∃o ls,o=ak.ord K.n (ak.lvl K.n L) K.n 0/\ls=path ord o/\
     (((rm K S).can ord ls=true/\v=.tuple #[.agg #[iv ((ff K S ord:Nat):Int),iv ((ff K S o:Nat):Int),iv ((ls.length:Nat):Int),.bool true],iv 0]/\At kp K S o (tr++ls) H)\/
      ((rm K S).can ord ls=false/\v=.tuple #[.agg #[iv ((ff K S ord:Nat):Int),iv ((ff K S ord:Nat):Int),iv ((2*((rm K S).goes 0 ls ord).length:Nat):Int),.bool false],iv 0]/\At kp K S ord tr H))))
theorem SP(h:At kp K S ord tr C)(hp:ord.Perm (List.range K.n))(hn:K.n<=12)(iy:tr.length<17317308137472):
    Fc zQ 194 #[ptr kp] C (λv H=>agb kp K S ord tr v H):=by
  have h0:=h;obtain⟨K',S',fG,hK,hk⟩:=h;have SC:=hk.n;have je:∀r,K'.hold r≠0->live K'.N r:=λr hr=>(.inr (hK.ok.mid.held r hr));have hcap:=hK.ok.mid.cap;have hle:=hK.nJ;have Nu:(rts K').length<=1048576:=by
    obtain⟨b,_,hO⟩:=hK.rep;have:=hO.ul;have h2:=xbT (λr=>decide (0<K'.hold r)) (List.range K'.ho.length);rw[xaK]at h2;show(List.filter _ _).length<=_;omega
  have xY:∀r,r∈rts K'↔K'.hold r≠0:=λr=>by
    unfold rts;rw[xcS,xaO,decide_eq_true_iff];constructor
    · rintro⟨_,h⟩;omega
    · intro h
      refine⟨xaY λh2=>h ?_,by omega⟩;unfold Kd.hold;rw[xan,xaJ zO];rfl
  refine aK λg=>Gy λb1 _=>?_;refine ae.aG (Br.no (aa.eq (nU h0) (ae.gW (b:=12) (Br.F (aa.fq (Kg hK) ?_)))));rintro vr H ⟨NR,rfl,hR⟩;have Yd:er .u32 NR vr (iw (rts K')):=hR.ints;refine hR.bE ?_;rw[an];refine⟨λvs H=>∃(i:Nat) (s:zV) (L:ak.Fs) (CS N:Hp),vs=[s,iv (i:Int)]/\i<=(rts K').length/\H=(b1,.cells #[iv 0,iv 0,iv 0,.bool false] 224 zZ)::(CS++(N++C))/\(∀x∈NR,x∈N)/\qz 30 s (JS K'.n L) CS N/\L.length=i/\(∀t∈L,ak.dA K'.n t)/\∀j t,L[j]? =some t->∃r,(rts K')[j]? =some r/\fB K'.n t=S' r,
    λvs _=>(rts K').length-bA vs 1,JE.mk ⟨0,_,[],[],NR,rfl,xaA _,rfl,λ_ h=>h,qz.nil,rfl,λt ht=>absurd ht (xaw),λj t (hj:([]:List (zL))[j]? =some t)=>absurd hj (by rw[List.getElem?_nil];exact nofun)⟩,?_⟩
  rintro w20 w21 H ⟨i,s,L,CS,N,⟨⟩,hi,rfl,hN,hT,hLl,Dx,hLr⟩ gs;refine ae.cX (Br.dec (λhlt=>?_) (λhge=>?_))
  · refine Yd.ld (n:=(((rts K')[i]:Nat):Int)) (cr (xab hlt)) (λx hx=>.tail _ (xaa _ (xad _ (hN x hx)))) ?_
    refine aa.fq (args:=#[ptr kp,u32 (rts K')[i]]) (LK hK zO (je _ ((xY _).1 (xaF hlt)))) ?_;rintro w H ⟨Nt,t,rfl,rfl,ht⟩;obtain⟨sw,ws,rfl,hw,hf,he⟩:=DL ht;refine Ext.two λYB _=>(St.p (cN (bu hw)) ?_);refine ax.q ?_;refine kF λWM=>?_;have hT':qz 30 w20 (JS K'.n L) CS (N++Nt):=hT.mono λ_ h=>xad _ h;refine qz.app hT' (A:=[(WM,_),(YB,_),(b1,_)]) (B:=N++(Nt++C)) (t:=⟨(K'.n:Int),ws⟩) (by exact .head _) (hw.mono λ_ h=>xaa _ h) (by rw[oD];omega) λv' CS' WB=>?_;refine ae.inc (az.of (.skip .tail) ⟨i+1,v',L++[ws],CS',N++Nt,rfl,hlt,by rw[xai];rfl,λx hx=>xad _ (hN x hx),by unfold JS at WB⊢;rw[xaB];exact WB,by rw[xaf,hLl];rfl,λt ht=>?_,λj t hj=>?_⟩ (by simp only[bA];omega))
    · rcases xaq.1 ht with ht|ht
      · exact Dx t ht
      · rw[xaG.1 ht];exact hf
    · by_cases P8:j<L.length
      · rw[xaQ P8]at hj
        exact hLr j t hj
      · rw[xbL zO]at hj
        have:j=i:=by
          have:=(xah.1 hj).1;rw[xbg]at this;omega
        subst this;rw[hLl,xcC]at hj;simp at hj;subst hj;exact⟨_,xab hlt,he⟩
  have hi':i=(rts K').length:=by omega
  subst hi';rw[SC]at hT Dx hLr;have ya:K.held S=FT K.n L:=by
    refine funext λg=>propext ?_;rw[<-hk.held g];constructor
    · rintro⟨r,hr,rfl⟩
      obtain⟨j,hj,e⟩:=xbB.1 ((xY r).2 hr);obtain⟨r2,rA,he⟩:=hLr j L[j] (xab zO);rw[xab hj,e]at rA;cases rA;exact⟨L[j],xaF _,he.symm⟩
    · rintro⟨t,ht,rfl⟩
      obtain⟨j,hj,e⟩:=xbB.1 ht;obtain⟨r2,rA,he⟩:=hLr j t (by rw[xab hj,e]);exact⟨r2,(xY r2).1 (xay rA),he⟩
  have hlt:=tj hp;have hkz:ff K S ord=fM K.n ord L K.n:=by
    unfold ff;rw[ya];exact Oj Dx zO hlt
  have QB:L.length<=1048576:=by omega
  refine aa.eq (jL h0) ?_;have hTb:iq (CS++N) w20 (JS K.n L):=hT.adQ (λ_ h=>xad _ h) (λ_ h=>xaa _ h);rw[<-xai];refine aa.pq (Vi hTb (by rw[oD];omega)) ?_;intro w NB hB;obtain⟨so,Y,hY,rfl,hI⟩:∃so Y,NB++(CS++N)=Y/\w=.tuple #[iv ((ak.B K.n (ak.lvl K.n L) 0:Nat):Int),so,iv 0]/\(L≠[]->er .i64 Y so (iw (ak.ord K.n (ak.lvl K.n L) K.n 0))):=by
    have hO:qG (JS K.n L):=Bh Dx;rcases hB with⟨hno,_⟩|⟨_,n2,L2,e,hz,_,Qf,hB⟩
    · exact absurd hO hno
    by_cases Dy:L=[]
    · subst Dy
      have hL2:L2=[]:=by cases L2 with
        |nil=>rfl
        |cons a b=>simp[JS]at e
      subst hL2;obtain rfl:=hz rfl;have hB0:ak.B K.n (ak.lvl K.n []) 0=0:=by rw[<-rK zO zI];exact tW _
      rcases hB with⟨h,_⟩|⟨_,s2,C2,N2,rfl,_,_⟩
      · omega
      exact⟨s2,_,rfl,by rw[hB0];rfl,λh=>absurd rfl h⟩
    · have P1:n2=K.n/\L2=L:=by
        cases L with
        |nil=>exact absurd rfl Dy
        |cons a b=>
          cases L2 with
          |nil=>simp[JS]at e
          |cons a2 b2=>
            simp only[JS,xaM,xaz,Tb.mk.injEq]at e;obtain⟨⟨e1,e2⟩,e3⟩:=e;have e1:n2=K.n:=by omega
            subst e1;refine⟨rfl,?_⟩;rw[e2];congr 1;refine((List.map_inj_right (f:=λws=>(⟨(K.n:Int),ws⟩:Tb)) ?_).1 e3).symm;intro x y hxy;simpa using hxy
      obtain⟨rfl,rfl⟩:=P1;rcases hB with⟨h,_⟩|⟨_,s2,C2,N2,rfl,hown,hH⟩
      · omega
      exact⟨s2,_,rfl,rfl,λ_=>by rw[hH];exact hown.ints.mono λ_ h=>xad _ h⟩
  rw[hY];clear hB;refine Ext.mk rfl (Ext.mk rfl (Ext.mk rfl (ae.bB (Br.dec (λheq=>?_) (λhne=>?_)))))
  · refine Build.mk (cs:=[iv ((ff K S ord:Nat):Int),iv ((ff K S ord:Nat):Int),iv 0,.bool true]) zK (St.q ?_)
    refine ax.q ?_;exact aQ.mk (.skip .right) ⟨L,Dx,ya,QB,.inl ⟨heq,rfl,h0⟩⟩
  · have Dy:L≠[]:=λe=>by
      subst e;refine hne ?_;rw[hkz,<-rK zO zI,tW,tW]
    obtain⟨o,ho⟩:∃o,o=ak.ord K.n (ak.lvl K.n L) K.n 0:=⟨_,rfl⟩;have hop:o.Perm (List.range K.n):=by rw[ho];exact rL _
    have hIo:=hI Dy;rw[<-ho]at hIo;refine aa.fq (O9 h0 hIo hp hop zO) ?_;rintro w H ⟨C2,rfl,hM⟩;have XN:=(zf (hop.nodup_iff.2 xbs) (hp.trans hop.symm)).1;rcases hM with⟨hc,rfl,hA⟩|⟨hc,rfl,hA⟩
    · rw[XN]at hA
      refine Ext.two (aa.eq (jL hA) (ae.lT ?_));rw[xau rfl];refine Build.mk (cs:=[iv ((ff K S ord:Nat):Int),iv ((ff K S o:Nat):Int),iv (((path ord o).length:Nat):Int),.bool true]) zK (St.q ?_);refine ax.q ?_;exact aQ.mk (.skip .right) ⟨L,Dx,ya,QB,.inr ⟨hne,o,_,ho,rfl,.inl ⟨hc,rfl,hA⟩⟩⟩
    · refine Ext.two (aa.eq (jL hA) (ae.lT ?_))
      rw[xap zD];refine Build.mk (cs:=[iv ((ff K S ord:Nat):Int),iv ((ff K S ord:Nat):Int),iv ((2*((rm K S).goes 0 (path ord o) ord).length:Nat):Int),.bool false]) zK (St.q ?_);refine ax.q ?_;exact aQ.mk (.skip .right) ⟨L,Dx,ya,QB,.inr ⟨hne,o,_,ho,rfl,.inr ⟨hc,rfl,hA⟩⟩⟩
end
end
section
open aC
section
variable {kp:Nat} {K:Kd} {S:Nat->aC.Fn} {ord tr:zL} {C:Hp} {Q:zV->Hp->Prop}
theorem oN(h:At kp K S ord tr C){s gr:Nat}:Rd zQ 189 #[ptr kp,.int .u8 (s:Int),iv (gr:Int)] C (· =iv (if 6<s\/gr<100\/1000<gr then 1 else if s=6/\12<K.n then 6 else 0)):=by
 refine aK λg=>GA ?_;refine ae.aG (Br.no (ae.gW (b:=6) (cz.or (a:=decide (6<s)) (decide (gr<100)) (λ_=>ae.cX (b:=100) ⟨rfl,rfl⟩) rfl λ_=>?_)));refine cz.or (a:=decide (6<s)||decide (gr<100)) (decide (1000<gr)) (λ_=>ae.gW (b:=1000) ⟨rfl,rfl⟩) rfl λ_=>?_;rw[<-xbp,<-xbp];refine Br.dec (λhb=>?_) (λhb=>?_)
 ·rw[xae zO];exact bD.mk (.refl _) rfl
 rw[xac zO];intro J9 h9;refine ae.bB (b:=6) ?_;by_cases hs:s=6
 ·rw[xau hs];refine Split.go rfl (aa.eq (nU h) (ae.gW (b:=12) (aI.mk (JE.mk (h9 _ _ λ_=>?_)))));show Br (.bool (decide (12<K.n))) _ _;refine Br.dec (λh12=>?_) (λh12=>?_)
  ·rw[xae ⟨hs,h12⟩];exact bD.mk (.refl _) rfl
  rw[xac zO];exact bD.mk (.refl _) rfl
 rw[xap hs];refine Split.TO rfl (aI.mk (JE.mk (h9 _ _ λ_=>Br.no ?_)));rw[xac zO];exact bD.mk (.refl _) rfl
theorem Is(a b c:Int)(d:Bool):∀u∈[Value.int .i64 a,iv b,iv c,.bool d],u.oneCell'=true:=λu hu=>by
 simp only[xag,xaw,xaZ]at hu;rcases hu with rfl|rfl|rfl|rfl<;>rfl
abbrev OS(a b c:Int)(d:Bool):zV:=.agg #[iv a,iv b,iv c,.bool d]
theorem Z3(h:At kp K S ord tr C){gr:Nat}(nN:100<=gr/\gr<=1000)(hn:12<K.n):Rd zQ 147 #[ptr kp,.int .u8 6,iv (gr:Int)] C (· =.tuple #[OS 0 0 0 false,iv 6]):=by
 refine aK λg=>pw ?_;intro b1 _;refine aa.eq (oN h (s:=6)) ?_;rw[xac zO,xae ⟨rfl,hn⟩];refine ae.ic (Br.T (Build.mk (cs:=[iv 0,iv 0,iv 0,.bool false]) zK ?_));refine St.q ?_;refine ax.q ?_;exact bD.mk .tail rfl
theorem OL(h:At kp K S ord tr C){gr:Nat}(nN:100<=gr/\gr<=1000)(hin:Fc zQ 190 #[ptr kp,iv (gr:Int)] C Q)(hQ:∀v H,Q v H->∃(a b c:Int) (d:Bool) (e:zV),v=.tuple #[OS a b c d,e]):
  Fc zQ 147 #[ptr kp,.int .u8 1,iv (gr:Int)] C Q:=by
 refine aK λg=>pw ?_;intro b1 _;refine aa.eq (oN h (s:=1)) ?_;rw[xac zO,xac zO];refine ae.ic (Br.F (ae.bB (a:=1) (b:=1) (Br.yes (aa.fq hin ?_))));intro v H hv;obtain⟨a,b,c,d,e,rfl⟩:=hQ v H hv;refine Ext.two (St.p (Is a b c d) ?_);refine ax.q ?_;exact aQ.mk .tail hv
theorem Kb(h:At kp K S ord tr C){gr:Nat}(hn:K.n<=12)(nN:100<=gr/\gr<=1000)(hin:Fc zQ 194 #[ptr kp] C Q)(hQ:∀v H,Q v H->∃(a b c:Int) (d:Bool) (e:zV),v=.tuple #[OS a b c d,e]):
  Fc zQ 147 #[ptr kp,.int .u8 6,iv (gr:Int)] C Q:=by
 refine aK λg=>pw ?_;intro b1 _;refine aa.eq (oN h (s:=6)) ?_;rw[xac zO,xac zO];refine ae.ic (Br.F (ae.bB (a:=6) (b:=1) (Br.no (ae.bB (a:=6) (b:=2) (Br.no ?_)))));intro J28 h28;refine ae.bB (a:=6) (b:=3) (Br.no (ae.bB (a:=6) (b:=4) (Br.no (ae.bB (a:=6) (b:=5) (JE.mk (h28 _ _ λ_=>Br.no ?_))))));refine ae.bB (a:=6) (b:=6) (Br.yes (aa.fq hin ?_));intro v H hv;obtain⟨a,b,c,d,e,rfl⟩:=hQ v H hv;refine Ext.two (St.p (Is a b c d) ?_);refine ax.q ?_;exact aQ.mk .tail hv
end
section
variable {C:Hp}
def swB(n s:Nat):Nat->Nat
 |1=>3*n*(n-1)
 |2=>3*n*(n-1)*(s+1)
 |3=>(n-1)*2
 |4=>(n-2)*10
 |5=>(n-3)*46
 |6=>n*(n-1)
 |_=>0
end
end
end Go.Proofs
namespace aC
section
variable {m:Rm} {g:Nat}
theorem uu{p q:zL}(hq:q.Nodup)(hp:p.Perm q):∀i,i<=q.length->2*(dN p q i).length+i*i<=i*(2*p.length-1)
 |0,_=>by simp[dN]
 |i+1,hi=>by
  have:=uu hq hp i zO;obtain⟨_,_,h3⟩:=ja hq hp i zO;have hl:=hp.length_eq;rw[dN,xaf,Am];have h4:=(h3 zO).2;have e1:(i+1)*(i+1)=i*i+i+i+1:=by rw[xbz,Nat.mul_succ];omega
  have e2:(i+1)*(2*p.length-1)=i*(2*p.length-1)+(2*p.length-1):=xbz _ _;rw[e1,e2];omega
theorem DZ{p q:zL}{n:Nat}(hq:q.Nodup)(hp:p.Perm q)(hn:q.length=n):2*(path p q).length<=n*(n-1):=by
 have:=uu hq hp q.length (xal _);have hl:=hp.length_eq;rw[hl,hn]at this;unfold path;rw[hn];cases n with
 |zero=>simpa using this
 |succ k=>
  rw[show 2*(k+1) -1=(k+1)+k by omega,xek (k+1) (k+1) k]at this;show 2*(dN p q (k+1)).length<=(k+1)*k;omega
structure yH(m:Rm)(ord:zL)(ls:zL):Prop where
 mem:∀x∈ls,x+1<m.n
 le:m.size (aJ ord ls)<=m.size ord
 len:ls.length+66*m.size (aJ ord ls)<=66*m.size ord
theorem yH.nil{ord:zL}:yH m ord []:=⟨by simp,xal _,by simp[aJ]⟩
theorem yH.of{ord ls:zL}(h1:∀x∈ls,x+1<m.n)(h2:m.size (aJ ord ls)<=m.size ord)(h3:m.size (aJ ord ls)=m.size ord->ls=[])(h4:ls.length<=66):yH m ord ls:=by
 refine⟨h1,h2,?_⟩;by_cases e:m.size (aJ ord ls)=m.size ord
 ·rw[h3 e];simp[aJ]
 omega
theorem A1(hn:m.n<=64):∀{l ord:zL},ord.Perm (List.range m.n)->(∀v∈l,v<m.n)->(m.eA g ord l).1.length+66*m.size (aJ ord (m.eA g ord l).1)<=66*m.size ord
 | [],ord,hp,hl=>by simp[Rm.eA,aJ]
 |v::l,ord,hp,hl=>by
  have hv:=ry hp (hl v zI);obtain⟨a1,a2,a3,a4⟩:=m.y8 g (ord:=ord) hv;have hin:=Iq hv a1;have ih:=A1 hn (l:=l) (ord:=aJ ord (road (ord.idxOf v) (m.sQ g ord (ord.idxOf v)).1)) (yY hp hin) (λx hx=>hl x (by simp[hx]));have Nu:=uj (ord.idxOf v) (m.sQ g ord (ord.idxOf v)).1;rw[Rm.eA];simp only;rw[jY,xaf];by_cases e:m.size (aJ ord (road (ord.idxOf v) (m.sQ g ord (ord.idxOf v)).1))=m.size ord
  ·have e2:=a3 e;rw[e2,fN]at ih Nu⊢;simpa[aJ]using ih
  omega
theorem DM{ord l:zL}(hp:ord.Perm (List.range m.n))(hl:l.Perm (List.range m.n))(hn:m.n<=64):yH m ord (m.eA g ord l).1/\(m.eA g ord l).2<=3*m.n*(m.n-1):=by
 have hlt:∀v∈l,v<m.n:=λv hv=>xaO.1 (hl.mem_iff.1 hv);have h:=y7 (m:=m) (g:=g) (l:=l) hp hlt;have nM:l.length=m.n:=by rw[hl.length_eq,xaK]
 obtain⟨h1,h2,h3,h4,h5⟩:=h;rw[nM]at h4;exact⟨⟨h1,h2,A1 hn hp hlt⟩,by rw[xcu,xbJ m.n,<-xcu];exact h4⟩
end
end aC
set_option maxRecDepth 100000
namespace Go.Proofs
open Go Go.Sx Tryz
section
open aC
section
variable {kp:Nat} {K:Kd} {S:Nat->aC.Fn} {ord tr:zL} {C:Hp}
def Sa(kp:Nat)(K:Kd)(S:Nat->aC.Fn)(ord tr:zL)(s:Nat)(v:zV)(H:Hp):Prop:=
 ∃(ls:zL) (c:Nat) (d:Bool),v=.tuple #[OS (ff K S ord:Nat) (ff K S (aJ ord ls):Nat) (c:Nat) d,iv 0]/\At kp K S (aJ ord ls) (tr++ls) H/\yH (rm K S) ord ls/\c<=swB K.n (ff K S ord) s/\(d=true->s=6)
theorem Sa.shape{s:Nat}{v:zV}{H:Hp}(h:Sa kp K S ord tr s v H):∃(a b c:Int) (d:Bool) (e:zV),v=.tuple #[OS a b c d,e]:=by
 obtain⟨ls,c,d,rfl,_⟩:=h;exact⟨_,_,_,_,_,rfl⟩
theorem OO(h:At kp K S ord tr C)(hp:ord.Perm (List.range K.n)){gr:Nat}(nN:100<=gr/\gr<=1000)(iy:tr.length<16492674416640):
  Fc zQ 147 #[ptr kp,.int .u8 ((1:Nat):Int),iv (gr:Int)] C (Sa kp K S ord tr 1):=by
 have hn:=h.sU;refine OL h nN ((OK h hp nN zO).mono ?_) λv H h=>h.shape;rintro v H ⟨l,hl,rfl,hA⟩;obtain⟨h1,h2⟩:=DM (m:=rm K S) (g:=gr) hp hl hn;exact⟨_,_,false,rfl,hA,h1,h2,nofun⟩
theorem ON(h:At kp K S ord tr C)(hp:ord.Perm (List.range K.n)){gr:Nat}(nN:100<=gr/\gr<=1000)(s6:K.n<=12)(iy:tr.length<16492674416640):
  Fc zQ 147 #[ptr kp,.int .u8 ((6:Nat):Int),iv (gr:Int)] C (Sa kp K S ord tr 6):=by
 have hn:=h.sU;have hrn:(rm K S).n=K.n:=rfl;have BL:∀o,(rm K S).size o=ff K S o:=λ_=>rfl;refine Kb h s6 nN ((SP h hp s6 zO).mono ?_) λv H h=>h.shape;rintro v H ⟨L,Dx,ya,QB,hQ⟩;have hk:∀p:zL,p.Perm (List.range K.n)->ff K S p=fM K.n p L K.n:=λp hp=>by
  unfold ff;rw[ya];exact Oj Dx zO (tj hp)
 rcases hQ with⟨e,rfl,hA⟩|⟨hne,o,ls,ho,hls,hQ⟩
 ·exact⟨[],0,true,rfl,by rw[xaH];exact hA,.nil,xaA _,λ_=>rfl⟩
 have hop:o.Perm (List.range K.n):=by rw[ho];exact rL _
 have hoB:ff K S o=ak.B K.n (ak.lvl K.n L) 0:=by rw[hk o hop,ho];exact rK zO Dx
 have hle:ak.B K.n (ak.lvl K.n L) 0<=ff K S ord:=by rw[hk ord hp];exact Vj zO Dx hp
 have aaV:o.Nodup:=hop.nodup_iff.2 xbs;have xZ:o.length=K.n:=by rw[hop.length_eq,xaK]
 have hdl:ord.length=K.n:=by rw[hp.length_eq,xaK]
 obtain⟨Nv,hpm⟩:=zf aaV (hp.trans hop.symm);have AA:=DZ aaV (hp.trans hop.symm) xZ;rw[<-hls]at Nv hpm AA;have Dz:K.n*(K.n-1)<=12*11:=xcJ s6 zO;rcases hQ with⟨_,rfl,hA⟩|⟨hc,rfl,hA⟩
 ·refine⟨ls,_,true,by rw[Nv],by rw[Nv];exact hA,.of (λx hx=>by have:=hpm x hx;omega) ?_ ?_ zO,by show ls.length<=K.n*(K.n-1);omega,λ_=>rfl⟩
  ·rw[Nv,BL,BL];omega
  rw[Nv,BL,BL];omega
 have hgl:=(rm K S).uW 0 ls ord;exact⟨[],_,false,rfl,by rw[xaH];exact hA,.nil,by show 2*_<=K.n*(K.n-1);omega,nofun⟩
end
end
section
open aC
theorem Ty{P:Program}{f:FuncId}{args:Array zV}{B:Hp}{Q:zV->Prop}(h:Px P f args B (λv _=>Q v)):Rd P f args B Q:=λg=>(h g).mono λe H h=>by
 obtain⟨v,H2,rfl,he,hg,hq⟩:=h;exact⟨v,B,rfl,he.trans hg.dL,rfl,hq⟩
theorem ae.af9{a b:Nat}{k:zV->Prop}(h:k (.int .u64 (((a+b)%18446744073709551616:Nat):Int))):ae .num .add (.int .u64 (a:Int)) (.int .u64 (b:Int)) k:=by
 refine ae.add ?_;rw[wrap_u64];have:(((a:Int)+(b:Int))%18446744073709551616)=((((a+b)%18446744073709551616:Nat)):Int):=by omega
 rw[this];exact h
section
variable {kp:Nat} {K:Kd} {S:Nat->aC.Fn} {ord ag tr:zL} {C:Hp}
theorem nT(r:Nat)(B:Hp):Rd zQ 133 #[u32 r] B (· =.bool (decide (r<2))):=by
 refine aK λg=>Hi (ae.bB (b:=0) (cz.or (a:=decide (r=0)) (decide (r=1)) (λ_=>ae.bB (b:=1) ⟨rfl,rfl⟩) rfl λ_=>?_));refine bD.mk (.refl _) ?_;rw[<-xbp];congr 1;exact xdm.2 zO
theorem RC(h:cT kp K S ord ag tr C){r v:Nat}(hr:live K.N r)(hv:v<18446744073709551616):
  Rd zQ 101 #[ptr kp,u32 r,.int .u64 (v:Int)] C (· =.tuple #[.bool (S r v),iv 0]):=by
 have Ew:K.n<=64:=h.at'.sU;refine aK λg=>HN (aj.int (e:=80) zK zK zK λbx=>?_);refine aa.eh .here (Ty (vp (X:=[(bx,_)]) (rs:=[r]) h (er.block (by exact .head _) zI) (λx hx=>by rw[xaG.1 hx];exact hr) zI)) (ae.ic (Br.F (⟨λvs H=>∃q:Nat,vs=[u32 q]/\H=C/\live K.N q/\S q v=S r v,λvs _=>K.n-dep K.n (lv ag) K.N (bA vs 0),JE.of .tail ⟨r,rfl,rfl,hr,rfl⟩,?_⟩)));rintro w H ⟨q,⟨⟩,rfl,hq,he⟩ gs;refine aa.eq (nT q _) (Un.not (Br.mk (λhb=>?_) (λhb=>?_)))
 ·have h2:2<=q:=by simpa using hb
  obtain⟨d,hN⟩:∃d,K.N q=some d:=by
   rcases hq with hq|hq
   ·omega
   exact hq
  have tc:=h.ok.mid.var hN;have hlo:=h.ok.wf.lo hN;have hhi:=h.ok.wf.hi hN;have hvl:=h.ok.lv.lt _ tc;refine aa.eh .here (Ty (vj (X:=[]) h hN)) λlY _=>?_;refine St.p (iO d) ?_;refine Ld.f ?_;refine Ld.f ?_;refine ae.e9 (by simpa[aS]using hv) (ae.fm (by simp[aS];exact xaE (xbC _ _) hv) zD (ae.bB (b:=1) ?_));rw[xc7];rw[I8];have IU:=h.ok.mid.int.node hN v;refine Br.mk (λhb=>?_) (λhb=>?_)
  ·rw[hb,xae rfl]at IU;refine Ld.f ?_;refine az.of .tail ⟨d.hi,rfl,rfl,hhi.1,IU.symm.trans he⟩ ?_;show K.n-dep K.n (lv ag) K.N d.hi<K.n-dep K.n (lv ag) K.N q;rw[ay hN];omega
  rw[hb,xac zD]at IU;refine az.of .tail ⟨d.lo,rfl,rfl,hlo.1,IU.symm.trans he⟩ ?_;show K.n-dep K.n (lv ag) K.N d.lo<K.n-dep K.n (lv ag) K.N q;rw[ay hN];omega
 have h2:q<2:=by simpa using hb
 refine ae.bB (b:=1) (bD.mk (.refl _) ?_);rw[<-he];have hint:=h.ok.mid.int;have:q=0\/q=1:=by omega
 rcases this with rfl|rfl
 ·rw[hint.zero];rfl
 rw[hint.one];rfl
end
end
section
open Fm Sw aC
theorem Ib{n:Nat}(hn:n<1000)(B:Hp):Rd zQ 9 #[.int .u64 (n:Int)] B (· =aq (dec n)):=by
 have one:∀k:Nat,k<10->Rd zQ 9 #[.int .u64 (k:Int)] B (· =aq [dg k]):=λk hk=>by
  refine aK λg=>C7 (ae.cX (b:=10) (Br.T (ae.dX (a:=48) (by simp only[aS];omega) (aH.nat (by simp only[aS];omega) ?_))));refine aj.m9 (e:=5) (z:=.int .u8 0) [.int .u8 ((48+k:Nat):Int)] zK zK zK (by show 1<=16777216;decide) (by simp[Value.oneCell']) rfl rfl λbx=>?_;refine dK.cut (l:=[dg k]) (.head _) rfl zD (λj u hu=>?_) (bD.mk .tail rfl);rcases j with _|j
  ·cases hu;rw[EJ hk];rfl
  simp at hu
 have step:∀(k:Nat) (u:List UInt8),10<=k->k<1000->u.length<=2->Rd zQ 9 #[.int .u64 ((k/10:Nat):Int)] B (· =aq u)->Rd zQ 9 #[.int .u64 (k:Int)] B (· =aq (u++[dg (k%10)])):=λk u h1 h2 hu h=>by
  refine aK λg=>C7 (ae.cX (b:=10) (Br.F (ae.qm (b:=10) (by simp only[aS];omega) zD (aa.eq h (ae.wI (b:=10) zD (aa.eq (one (k%10) zO) (ae.tU (b:=[dg (k%10)]) (by rw[xbg];omega) (bD.mk (.refl _) rfl)))))) zO))
 by_cases h10:n<10
 ·have e:dec n=[dg n]:=by unfold dec;rw[xae h10]
  rw[e];exact one n h10
 by_cases z8:n<100
 ·have e:dec n=[dg (n/10)]++[dg (n%10)]:=by unfold dec;rw[xac h10,xae z8];rfl
  rw[e];exact step n _ zO hn (by show 1<=2;decide) (one _ zO)
 have e:dec n=([dg (n/10/10)]++[dg (n/10%10)])++[dg (n%10)]:=by unfold dec;rw[xac h10,xac z8,xae hn,Nat.div_div_eq_div_mul];rfl
 rw[e];exact step n _ zO hn (by show 2<=2;decide) (step (n/10) _ zO zO (by show 1<=2;decide) (one _ zO))
theorem W7{n:Nat}(hn:6<=n/\n<=16){v:zV}{f:aC.Fn}{B:Hp}(hT:dM B v n f){x:Nat}(hx:x<2^n):Rd zQ 8 #[v,.int .u64 (x:Int)] B (· =.tuple #[.bool (f x),nI 0]):=by
 obtain⟨ws,⟨s,rfl,hw⟩,hf,rfl⟩:=hT;obtain⟨m,hnm⟩:=Nat.exists_eq_add_of_le hn.1;have hp:2^n=64*2^m:=by rw[hnm];exact xdf 2 6 m
 have hm:2^m<=2^10:=xat zD zO;have h1m:1<=2^m:=xb2;have mT:ws.length=2^m:=by
  rw[hf.len];unfold ak.wN;omega
 have XF:x<18446744073709551616:=by omega
 have hxw:x/64<ws.length:=by omega
 have hg:ws[x/64]? =some ws[x/64]:=xab hxw;generalize ws[x/64]=w at hg;have aaz:w<18446744073709551616:=hw.2 w (xay hg);refine aK λg=>Sc λb1 _=>ax.whole (r:=[nI n,s]) (.head _) rfl ?_;refine kF λb4=>?_;refine aa.rd .here (jh (t:=⟨((n:Nat):Int),ws⟩) (.head _) (hw.mono zS)) ?_;rintro _ rfl;rw[xau (show TF ⟨((n:Nat):Int),ws⟩from⟨by simp,by simpa using hf⟩)];refine Un.not (Br.no (Ld.u (v:=nI n) (.tail _ (.head _)) (ae.e9 XF ?_)));have e0:x>>>n=0:=by rw[xaN];exact xcr hx
 rw[e0];refine ae.jD (a:=0) (b:=0) (Br.F (Ld.u (v:=s) (.tail _ (.head _)) (ae.qm (b:=64) XF zD ?_)));refine hw.1.ld (n:=(w:Int)) (i:=x/64) (cr hg) (λy hy=>.tail _ (.tail _ hy)) (ae.wI (b:=64) zD (ae.e9 aaz (ae.fm (b:=1) (xaE (xbC _ _) aaz) zD (ae.bB (b:=1) (bD.mk (.skip .tail) ?_)))));rw[xc7,I8];unfold fB ak.bit;rw[xa5 hx,xan,hg];rfl
end
end Go.Proofs
namespace Go.Sx
open Go
section
variable {P:Program} {g:Gh} {H:Hp} {K:zV->Hp->Prop} {KP:List PanicEntry->Hp->Prop}
theorem aZ.ab9{o:Oper}{ρ:Operand->zV}{k:zV->Prop}{x:Operand}{t e:TypeId}{a:Option Addr}{n c:Nat}(ho:o.op=.call ⟨.builtin .cap,#[x],#[t]⟩)(ht:P.underlying t=some (.slice e))(hx:ρ x=.slice a n c)(hk:k (.int .i64 (c:Int))):aZ P g o ρ H k:=by
 refine⟨_,λw _=>?_,hk⟩;have e:execOp ρ o=(do pure (.value (<-Builtin.cap_ #[t] o.type #[ρ x]))):=by simp[execOp,ho,resolve,invoke,builtin,bind,Sem.bind];rfl
 rw[e,hx];simp[Builtin.cap_,run_underlying ht,goInt]
theorem aZ.ad6{o:Oper}{ρ:Operand->zV}{k:zV->Prop}{x y z:Operand}{ts:Array TypeId}{a b c:Nat}{kd:IntKind}(ho:o.op=.call ⟨.builtin .min,#[x,y,z],ts⟩)(hx:ρ x=.int kd (a:Int))(hy:ρ y=.int kd (b:Int))(hz:ρ z=.int kd (c:Int))(hk:k (.int kd ((min (min a b) c:Nat):Int))):aZ P g o ρ H k:=by
 refine⟨_,λw _=>?_,hk⟩;have e:execOp ρ o=(do pure (.value (<-Builtin.min_ ts o.type #[ρ x,ρ y,ρ z]))):=by simp[execOp,ho,resolve,invoke,builtin,bind,Sem.bind];rfl
 rw[e,hx,hy,hz];have m2:∀a b:Nat,(Builtin.min2 (.int kd (a:Int)) (.int kd (b:Int))).run P w=.ok (.int kd ((min a b:Nat):Int)) w:=λa b=>by
  by_cases h:b<a
  ·have h2:(b:Int)<(a:Int):=by omega
   simp[Builtin.min2,h2,xdj (xcq h)]
  have h2:¬(b:Int)<(a:Int):=by omega
  simp[Builtin.min2,h2,xbX (xcY h)]
 simp only[Builtin.min_,List.foldlM,Sem.run_bind,m2,Result.andThen_ok,Sem.run_pure]
theorem cU.ab7{o:Oper}{ρ:Operand->zV}{x y:Operand}{t t' elem b c:Nat}(ho:o.op=.call ⟨.builtin .copy,#[x,y],#[t,t']⟩)(ht:P.underlying t=some (.slice elem))(hz:cA P elem=some 1)
 (hx:ρ x=.slice (some ⟨b,0,none⟩) 0 c)(hy:ρ y=.slice none 0 0)(hk:K (.int .i64 0) H):cU P g o ρ H K KP:=by
 refine cU.ofValue (s:=Builtin.copy_ #[t,t'] o.type #[ρ x,ρ y]) (by simp[execOp,ho,resolve,invoke,builtin,bind,Sem.bind];rfl) λw hw=>?_;obtain⟨i,hi,hin⟩:=aU hz;refine⟨_,w,H,?_,hw,hk⟩;rw[hx,hy];simp[Builtin.copy_,run_underlying ht,Builtin.lenOf,run_sizeOf hi,hin,goInt,Builtin.firstCells,storeCells]
theorem cU.makeNoZero{o:Oper}{ρ:Operand->zV}{x:Operand}{f t e:TypeId}{fn:Func}{ts ps:Array TypeId}{n:Nat}(ho:o.op=.call ⟨.value (.func f),#[x],ts⟩)(hf:P.funcs[f]? =some fn)(hname:(fn.name== "runtime.NumGoroutine")=false)
 (hb:fn.body.isNone=true)(hn:Extern.findNext fn=none)(he:Extern.find fn=some (Extern.BytealgMakeNoZero.makeNoZero ps #[t]))(ht:P.underlying t=some (.slice e))(hr:∀f,ρ (.func f)=.func (.func f) #[] #[])(hx:ρ x=.int .i64 (n:Int))(hn':n<=1099511627776)
 (hk:∀b cs,n<=cs.size->K (.slice (some ⟨b,0,none⟩) n cs.size) ((b,.cells cs e zZ)::H)):cU P g o ρ H K KP:=by
 intro w hw;have e1:=run_callFunc_extern (P:=P) hf hname hb hn he #[ρ x] w;rw[hx]at e1;obtain⟨cs,hrun,h1,_⟩:=Lib.run_makeNoZero (P:=P) w ps t e ht n zO;rw[hrun]at e1;have:(execOp ρ o).run P w=.ok (.value (.slice (some ⟨w.heap.size,0,none⟩) n cs.size)) (w.drew.drew.alloc (.cells cs e)):=by
  simp only[execOp,ho,resolve,hr];simpa[Deferred.ofValue,invoke,hx]using e1
 rw[this];exact⟨_,hw.drew.drew.alloc _,hk _ cs h1⟩
theorem cU.RV{o:Oper}{ρ:Operand->zV}{x y:Operand}{t u e:TypeId}{b n c:Nat}{fz:Nat×Nat}{l s:List UInt8}{au:List (List zV)}{H':Hp}(ho:o.op=.call ⟨.builtin .append,#[x,y],#[t,u]⟩)
 (ht:P.underlying t=some (.slice e))(hu:P.underlying u=some .string)(hi:(P.info? e).map (λi=>(i.size,i.bytes,i.zero))=some (1,1,some (.int .u8 0)))
 (hx:ρ x=.slice (some ⟨b,0,none⟩) n c)(hy:ρ y=aq s)(hn:n=l.length)(hc:c=l.length+au.length)(hj:∀r∈au,r.length=1)(hfz:fz.2<=l.length)(hr:s.length<=au.length)
 (V7:cu b (.cells (rows (bF l++au)) e fz) (.cells (rows (bF (l++s)++au.drop s.length)) e fz) H H')(hk:K (.slice (some ⟨b,0,none⟩) (n+s.length) c) H'):cU P g o ρ H K KP:=by
 obtain⟨i,hi,e0⟩:=xc2.1 hi;obtain⟨h1,_,_⟩:i.size=1/\i.bytes=1/\i.zero=some (.int .u8 0):=by simpa using e0
 have sz:(⟨s.toArray⟩:ByteArray).size=s.length:=by simp[ByteArray.size]
 refine cU.ofValue (s:=Builtin.append_ #[t,u] o.type #[.slice (some ⟨b,0,none⟩) n c,aq s]) (by simp[execOp,ho,hx,hy,resolve,invoke,builtin,bind,Sem.bind];rfl) λw hw=>?_;have hm:=V7.mem;have hg:=hw.has _ hm;have Dv:(bF l).length=l.length:=by simp[bF]
 have hbs:(bF s).length=s.length:=by simp[bF]
 have aD:∀r∈bF l++au,r.length=1:=λr h=>(xaq.1 h).elim (jo l r) (hj r);have hsize:(rows (bF l++au)).size=l.length+au.length:=by rw[bC aD,xaf,Dv,xcc]
 have hrun:=Lib.run_append_room_stringF (P:=P) w t u o.type e i ht hu hi h1 b n c _ fz hg zO ⟨s.toArray⟩ (by rw[sz];omega) (by rw[sz,hsize];omega);have hcells:((rows (bF l++au)).toList.take n++Lib.strCells ⟨s.toArray⟩++(rows (bF l++au)).toList.drop (n+(⟨s.toArray⟩:ByteArray).size)).toArray=rows (bF (l++s)++au.drop s.length):=by
  have e3:bF (l++s)=bF l++bF s:=by unfold bF;rw[xaB]
  rw[strCells_eq,sz,e3];unfold rows;simp only[xbt];have hfl:=yh (bF l) (jo l);rw[Dv]at hfl;have e1:((bF l).flatten++au.flatten).take n=(bF l).flatten:=by rw[hn,<-hfl,xdx]
  have e2:((bF l).flatten++au.flatten).drop (n+s.length)=(au.drop s.length).flatten:=by
   rw[hn,<-hfl,xdl,List.drop_of_length_le zO,xa6,show(bF l).flatten.length+s.length-(bF l).flatten.length=s.length by omega]
   conv=>lhs;rw[<-xbo s.length au,xbt]
   have e4:=yh (au.take s.length) λr hr=>hj r (xcj hr);rw[xbA,xbX hr]at e4;exact List.drop_left' e4
  rw[e1,e2]
 rw[hcells,sz]at hrun;refine⟨_,_,H',hrun,?_,hk⟩;refine hw.bT V7 rfl rfl rfl ?_ λk hk=>?_
 ·unfold World.setRow;simp only at hg;rw[xbf,xae rfl,hg];rfl
 unfold World.setRow;rw[xbf,xac (xbn hk)]
theorem cU.wE{o:Oper}{ρ:Operand->zV}{x y:Operand}{pt it e:TypeId}{b:Nat}{l:List UInt8}{au:List (List zV)}{fz:Nat×Nat}{H':Hp}(ho:o.op=.call ⟨.builtin .unsafeString,#[x,y],#[pt,it]⟩)
 (hp:P.underlying pt=some (.pointer e))(Zj:P.cellsOf e=1)(hx:ρ x=.pointer (some ⟨b,0,none⟩))(hy:ρ y=.int .i64 (l.length:Int))(hl:l≠[])(hj:∀r∈au,r.length=1)(h63:l.length<=9223372036854775807)(hfz:fz.2<=l.length)
 (V7:cu b (.cells (rows (bF l++au)) e fz) (.cells (rows (bF l++au)) e (0,l.length)) H H')(hk:K (aq l) H'):cU P g o ρ H K KP:=by
 have Ze:l.length≠0:=by simpa using hl
 refine cU.ofValue (s:=Builtin.unsafeString_ #[pt,it] o.type #[.pointer (some ⟨b,0,none⟩),.int .i64 (l.length:Int)]) (by simp[execOp,ho,hx,hy,resolve,invoke,builtin,bind,Sem.bind];rfl) λw hw=>?_;have hm:=V7.mem;have hg:=hw.has _ hm;have aD:∀r∈bF l++au,r.length=1:=λr hr=>(xaq.1 hr).elim (jo l r) (hj r);have hsz:(rows (bF l++au)).size=l.length+au.length:=by rw[bC aD,xaf];simp[bF]
 have hr:=Lib.run_unsafeString_row (P:=P) w pt it o.type e hp Zj b _ (hw.shape hm) l hl (by rw[hsz];omega) h63 (λj u hu=>by
  rw[Addr.add_lit,xa1,hw.cell hm j];unfold rows;have hb:=rJ l;have P7:j<(bF l).flatten.length:=by rw[hb,xax];exact(xah.1 hu).1
  rw[xcb,xbt,xaQ P7,hb,xar,hu];rfl)
 refine⟨_,_,H',hr,?_,hk⟩;unfold World.freeze;rw[xac Ze];refine hw.bT V7 rfl rfl rfl ?_ λk hk=>?_
 ·show(w.heap.modify b _)[b]? =_;rw[xbf,xae rfl];simp only at hg;rw[hg];obtain⟨lo,hi⟩:=fz;simp only at hfz;simp only[xbj,xa1];by_cases h:lo=hi
  ·rw[xae (by simpa using h)]
  rw[xac (by simpa using h)];rw[xdj (xaA _),Nat.max_eq_right hfz]
 show(w.heap.modify b _)[k]? =_;rw[xbf,xac (xbn hk)]
end
end Go.Sx
set_option maxRecDepth 100000
namespace Go.Proofs
open Go Go.Sx Tryz
open Fm Sw
section
variable {bb c:Nat} {a buf:zV} {l:List UInt8} {B:Hp}
def xg(bb:Nat)(l:List UInt8)(c:Nat)(H:Hp):Prop:=
 ∃(b:Nat) (au:List (List zV)) (fz:Nat×Nat),H=[SI bb (bf bb) (.slice (some ⟨b,0,none⟩) l.length c),(b,.cells (rows (bF l++au)) 5 fz)]/\fz.2<=l.length/\(∀r∈au,r.length=1)/\c=l.length+au.length
theorem LQ{n:Nat}(hn:0<n/\n<=1000000):Fc zQ 119 #[bf bb,nI n] [SI bb (bf bb) (.slice none 0 0)] (λ_ H=>∃c,n<=c/\xg bb [] c H):=by
 refine aK λg=>Hy ?_;refine DR.self (Ld.v (.head _) (aZ.ab9 (e:=5) rfl zK rfl (ae.mI (a:=2) (b:=0) zD (ae.dX (a:=0) (b:=n) (by simp only[aS];omega) (Ld.v (.head _) (aE.mk ?_))))));refine cU.makeNoZero (e:=5) (ps:=#[3]) (t:=67) (n:=0+n) rfl func152 zK zK zK zK zK (λ_=>rfl) rfl zO λb cs hcs=>⟨.tail,?_⟩;refine cP.upto (h:=0) zO (Ld.v (.tail _ (.head _)) ?_);refine cU.ab7 (elem:=5) rfl zK zK rfl rfl ?_;refine Nil.ptr (.mk (St.one (c':=#[bf bb,.slice (some ⟨b,0,none⟩) 0 cs.size]) (.tail (.head _)) rfl (show 1<2 by decide) rfl ?_));obtain⟨js,e1,h1⟩:=VX cs.toList;have hc:rows js=cs:=by unfold rows;rw[e1,xcK]
 have hl:js.length=cs.size:=by rw[<-yh js h1,e1,xb6]
 refine aQ.mk .swap ⟨cs.size,by omega,b,js,(0,0),?_,xaA _,h1,by rw[hl];simp⟩;show [SI bb (bf bb) (.slice (some ⟨b,0,none⟩) 0 cs.size),(b,Obj.cells cs 5 zZ)]=[SI bb (bf bb) (.slice (some ⟨b,0,none⟩) 0 cs.size),(b,Obj.cells (rows ([]++js)) 5 zZ)];rw[xa6,hc]
theorem CG{n:Nat}(hn:0<n/\n<=1000000):Fc zQ 67 #[bf bb,nI n] [SI bb (.pointer none) (.slice none 0 0)] (λ_ H=>∃c,n<=c/\xg bb [] c H):=by
 refine aK λg=>MA (aa.fn (.left (C:=[_])) (qv (.inl rfl) rfl) ?_);rintro _ _ rfl;intro J3 h3;refine ae.cX (b:=0) (Br.F (JE.mk (h3 _ λ_=>?_)));refine Ld.v (.head _) (aZ.ab9 (e:=5) rfl zK rfl (Ld.v (.head _) (aE.mk (ae.gD (a:=0) (b:=0) zD zD (ae.cX (a:=0) (Br.T ?_ hn.1))))));refine aa.fn (.left (C:=[SI bb (bf bb) (.slice none 0 0)])) (LQ hn) ?_;intro _ H h;rw[xaH];exact aQ.mk (.refl _) h
theorem kE(h:xg bb l c B)(s:List UInt8)(hr:l.length+s.length<=c):Fc zQ 68 #[bf bb,aq s] B (λ_ H=>xg bb (l++s) c H):=by
 obtain⟨b,au,fz,rfl,hfz,hj,hc⟩:=h;refine aK λg=>yN (aa.fn (.left (C:=[_])) (qv (.inr rfl) rfl) ?_);rintro _ _ rfl;refine Nil.ptr (Ld.u (.head _) ?_);refine cU.RV (e:=5) rfl zK zK zK rfl rfl rfl hc hj hfz zO (.tail (.head _)) ?_;refine Nil.ptr (.mk (St.one (c':=#[bf bb,.slice (some ⟨b,0,none⟩) (l.length+s.length) c]) (.head _) rfl (show 1<2 by decide) rfl (aN.of ?_)));refine aQ.mk (.refl _) ⟨b,au.drop s.length,fz,by rw[xaf],by rw[xaf];omega,λr hr=>hj r (xeb hr),by rw[xaf,xbS];omega⟩
theorem vy(h:xg bb l c B):Rd zQ 69 #[bf bb] B (· =nI l.length):=by
 obtain⟨b,au,fz,rfl,_⟩:=h;exact aK λg=>yM (Nil.ptr (Ld.u (.head _) (aE.mk (bD.mk (.refl _) rfl))))
theorem ng(h:xg bb l c B)(h0:l≠[])(hm:l.length<1099511627776):Fc zQ 70 #[bf bb] B (λv H=>v=aq l/\xg bb l c H):=by
 obtain⟨b,au,fz,rfl,hfz,hj,hc⟩:=h;have hpos:=xb7.2 h0;refine aK λg=>yL (DR.of (.gU (.head _)) (Nil.ptr (Ld.u (.head _) (Nil.ptr (Ld.u (.head _) (aE.mk ?_))))));refine cU.xu rfl rfl zO ⟨.gU (.head _),?_⟩;refine cU.wE rfl zK zK (e:=5) (l:=l) (au:=au) (fz:=fz) rfl rfl h0 hj zO hfz (.tail (.head _)) ⟨.gU (.head _),?_⟩;exact aQ.mk (.refl _) ⟨rfl,b,au,(0,l.length),rfl,xal _,hj,hc⟩
end
theorem TV{n:Nat}(hn:n<1000000)(B:Hp):Rd zQ 65 #[.int .u64 ((1:Nat):Int),.int .u64 (n:Int)] B (· =.tuple #[.int .u64 ((0:Nat):Int),.int .u64 (n:Int)]):=by
 refine aK λg=>MC (Br.no (aa.eq (v:=.tuple #[.int .u64 ((0:Nat):Int),.int .u64 (n:Int)]) (B:=B) (aK λg=>HB ?_) (Ext.two (bD.mk (.refl _) rfl))));have hl:aS .u64=18446744073709551616:=rfl;have hand:n&&&4294967295=n:=by
  rw[show(4294967295:Nat)=2^32-1 from rfl,xb0,xa5 zO]
 refine ae.fm (b:=4294967295) zO zO (ae.e9 zO (ae.fm (b:=4294967295) zO zO (ae.e9 zO ?_)));rw[hand,show(1&&&4294967295:Nat)=1 from rfl,show(1>>>32:Nat)=0 from rfl,xaN n 32,xcr (show n<2^32 by omega)];refine ae.mI zO (ae.mI zO (ae.e9 zO ?_));rw[xdD,xdK,xaN n 32,xcr (show n<2^32 by omega)];refine ae.dX zO (ae.fm (b:=4294967295) zO zO (ae.e9 zO (ae.mI zO (ae.dX (by simp[aS]) (ae.mI zO (ae.dX (by simp[aS]) (ae.e9 (by simp[aS]) (ae.dX (by simp[aS]) (ae.mI zO ?_)))))))));exact bD.mk (.refl _) zI
def bln:Hp->Nat
 |(_,Obj.cells cs _ _)::_=>match cs[1]? with
  |some (Value.slice _ n _)=>n
  |_=>0
 |_=>0
theorem RJ{bb c:Nat}{l:List UInt8}{C B:Hp}(h:xg bb l c C):bln (C++B)=l.length:=by
 obtain⟨b,au,fz,rfl,_⟩:=h;rfl
theorem Kj{n:Nat}(hn:n<=400)(B:Hp):Fc zQ 27 #[aq [110],nI n] B (λv H=>v=aq (List.replicate n 110)/\H=B):=by
 refine aK λg=>MY (ae.bB (b:=0) (Br.dec (λh=>?_) (λh0=>ae.bB (b:=1) (Br.dec (λh=>?_) (λh1=>?_)))))
 ·subst h;exact aQ.mk (.refl _) ⟨rfl,rfl⟩
 ·subst h;exact aQ.mk (.refl _) ⟨rfl,rfl⟩
 intro J3 h3;refine ae.cX (b:=0) (Br.F (JE.mk (h3 _ λ_=>?_)));refine aN.of (aH.nat (a:=1) zD (aH.nat (by simp only[aS];omega) (aa.eq (TV zO B) (Ext.two ?_))));intro J13 h13;have go:J13 [] B:=by
  refine h13 _ λ_=>?_;refine aH.nat (by simp only[aS];omega) (aN.of (ae.bB (a:=1) (b:=0) (Br.F ?_)));intro J19 h19;have main:J19 [] B:=by
   refine h19 _ λ_=>?_;intro J22 Zw;refine ae.gW (b:=8192) (Br.F (JE.mk (Zw _ _ λ_=>?_)));intro RQ _;refine aa.fn (.left (C:=[_])) (CG (n:=n) zO) ?_;rintro _ C ⟨c,hc,hB⟩;refine aa.fn .left (kE hB [110] zP) ?_;intro _ C1 SD;rw[xa6]at SD;refine⟨λvs H=>∃(m:Nat) (C:Hp),vs=[]/\1<=m/\m<=n/\xg RQ (List.replicate m 110) c C/\H=C++B,λ_ H=>n-bln H,JE.mk ⟨1,C1,rfl,xal _,by omega,SD,rfl⟩,?_⟩;rintro H ⟨m,C2, -,AD,hmn,QD,rfl⟩ gs;have hml:(List.replicate m (110:UInt8)).length=m:=xbD;have hne:List.replicate m (110:UInt8)≠[]:=by intro e;rw[e]at hml;simp at hml;omega
   refine aa.eh (args:=#[bf RQ]) .left (vy QD) ?_;rw[hml];refine ae.cX (Br.dec (λhlt=>?_) (λhge=>?_))
   ·refine aa.eh (args:=#[bf RQ]) .left (vy QD) ?_;rw[hml];refine ae.gD (by simp only[aS];omega) hmn (aa.eh (args:=#[bf RQ]) .left (vy QD) ?_);rw[hml];refine aZ.ad6 rfl rfl rfl rfl ?_;obtain⟨k,hk⟩:∃k,k=min (min (n-m) m) n:=⟨_,rfl⟩;rw[<-hk];refine aa.fn (args:=#[bf RQ]) .left (ng QD hne zO) ?_;rintro _ C3 ⟨rfl,tA⟩;refine aZ.mA (l:=List.replicate m 110) (i:=0) (j:=k) rfl zK rfl (.inl ⟨rfl,rfl⟩) (.inr ⟨_,.i64,rfl,rfl⟩) (xaA _) zO ?_;rw[List.drop_zero,List.take_replicate,xbX zO];refine aa.fn (args:=#[bf RQ,aq (List.replicate k 110)]) .left (kE tA _ (by rw[xbD,xbD];omega)) ?_;intro _ C4 Yk;have afX:List.replicate m (110:UInt8)++List.replicate k 110=List.replicate (m+k) 110:=(List.replicate_append_replicate).symm▸rfl;rw[afX]at Yk;refine az.of (.refl _) ⟨m+k,C4,rfl,by omega,by omega,Yk,rfl⟩ ?_;rw[RJ Yk,RJ QD,xbD,xbD];omega
   have:m=n:=by omega
   subst this;refine aa.fn (args:=#[bf RQ]) .left (ng QD hne zO) ?_;rintro _ C3 ⟨rfl,tA⟩;exact aQ.mk .right ⟨rfl,rfl⟩
  refine bP.of (l:=[110]) (i:=0) (b:=110) rfl ?_;intro J60 h60;refine ae.bB (a:=110) (b:=32) (Br.F (ae.bB (a:=110) (b:=45) (Br.F (ae.bB (a:=110) (b:=48) (Br.F (ae.bB (a:=110) (b:=61) (Br.F (ae.bB (a:=110) (b:=9) ?_))))))));exact JE.mk (h60 _ _ λ_=>Br.no (JE.mk main))
 refine ae.gW (a:=0) (b:=0) (cz.or false (λ_=>ae.gW (b:=9223372036854775807) ⟨rfl,by rw[xap zO]⟩) rfl λ_=>Br.no (JE.mk go))
end Go.Proofs
