import Derived.Test.YtpndkbhmngcmfaaGreatDoorO4
import Derived.Test.YtpndkbhmngcmfaaGreatDoorO3
import Derived.Lib.MakeNoZero
import Derived.Lib.FrozenHead
import Derived.Test.YtpndkbhmngcmfaaGreatDoorO1
import Derived.Test.YtpndkbhmngcmfaaGreatDoorO2
set_option linter.unusedVariables false
set_option linter.unusedSimpArgs false
set_option linter.unusedSectionVars false
set_option maxRecDepth 100000
namespace Go.Proofs
open Go Go.Sx Tryz
section
open Fm Sw
def dO(t:List UInt8)(a e:Nat):List zV:=[ay t,nI a,nI e]
abbrev nR(t:List UInt8)(a e:Nat):zV:=.agg (dO t a e).toArray
theorem bD(t:List UInt8)(a e:Nat):∀u∈dO t a e,u.oneCell'=true:=λu hu=>by
 simp only[dO,xag,xaw,xa1]at hu;rcases hu with rfl|rfl|rfl<;>rfl
theorem jl(a e:Nat)(B:Hp):Rd zQ 16 #[nI a,nI e] B (· =nR [] a e):=by
 refine aK λg=>N8 λb1 _=>Build.mk (cs:=dO [] a e) zK (St.whole (r:=dO [] a e) (.head _) rfl rfl (bD _ _ _) (au.whole (r:=dO [] a e) (.head _) rfl ?_));exact bE.mk .tail rfl
theorem p9(t:List UInt8)(e:Nat)(B:Hp):Rd zQ 103 #[ay t,nI e] B (· =if e=0 then nR t 0 0 else nR [] 0 e):=by
 refine aK λg=>Iu λb1 _=>ae.mF (b:=0) (Br.dec (λh=>?_) (λh=>?_))
 ·refine aa.eq (jl 0 e _) (St.whole (r:=dO [] 0 e) (.head _) rfl rfl (bD _ _ _) (au.whole (r:=dO [] 0 e) (.head _) rfl ?_));exact bE.mk .tail (by rw[xac h])
 have h:e=0:=xet.1 h;subst h;refine Build.mk (cs:=dO t 0 0) zK (St.whole (r:=dO t 0 0) (.head _) rfl rfl (bD _ _ _) (au.whole (r:=dO t 0 0) (.head _) rfl ?_));exact bE.mk .tail rfl
def kS(w:Wd×Nat):List zV:=[ay w.1.t,nI w.1.a,nI w.1.e,nI w.2]
theorem ua(w:Wd×Nat):∀u∈kS w,u.oneCell'=true:=λu hu=>by
 simp only[kS,xag,xaw,xa1]at hu;rcases hu with rfl|rfl|rfl|rfl<;>rfl
abbrev NmE(es:Array MapEntry)(ck:Nat)(ns:List (List UInt8×Nat)):Prop:=aT ay (λv (r:Nat)=>v=u32 r) es ck ns
def my(ns:List (List UInt8×Nat))(t:List UInt8):Bool:=(bU ns t).isSome
def y8(sh:List UInt8)(ws:List Wd)(m:Nat)(b:List UInt8->Bool)(r:zV)(N:Hp):Prop:=
 (∃p,Ej m sh ws=some p/\r=.tuple #[.slice none 0 0,nR [] p 14])\/
 (Ej m sh ws=none/\∃p,Ei b sh ws=some p/\r=.tuple #[.slice none 0 0,nR [] p 15])\/
 (Ej m sh ws=none/\Ei b sh ws=none/\∃v,r=.tuple #[v,nR [] 0 0]/\aO 78 4 v ((rdv sh ws).map kS) N)
theorem I1:∀(sh:List UInt8) (ws:List Wd) (j:Nat) (c:UInt8) (w:Wd),sh[j]? =some c->ws[j]? =some w->(rdv sh ws)[j]? =some (w,(JX c w.t).getD 0)
 | [],ws,j,c,w,h,_=>by simp at h
 |_::_,[],j,c,w,_,h=>by simp at h
 |a::sh,x::ws,0,c,w,h1,h2=>by cases h1;cases h2;rfl
 |a::sh,x::ws,j+1,c,w,h1,h2=>I1 sh ws j c w (by simpa using h1) (by simpa using h2)
theorem VZ{c:UInt8}{t:List UInt8}:(JX c t)=if c.toNat=110 then XY t else if xg t then some 0 else none:=by
 unfold JX;have:=OO c 110 zD;by_cases h:c=110
 ·rw[xae h,xae (this.2 h)]
 rw[xac h,xac λe=>h (this.1 e)]
set_option maxHeartbeats 4000000 in
theorem T7{sp mb:Nat}{kv:zV}{T:TypeId}{fz:Nat×Nat}{es:Array MapEntry}{ck:Nat}{ns:List (List UInt8×Nat)}{B:Hp}(hE:NmE es ck ns)(hsp:(sp,Obj.cells #[kv,.map (some mb)] T fz)∈B)(hmb:(mb,Obj.map es ck)∈B)
 (shape:List UInt8)(Ca:shape.length<=3)(ws:List Wd)(hws:ws.length<=400)(WA:∀w∈ws,w.t.length<=400){v:zV}(hv:Sl 3 B v (ws.map Wd.cells))(m:Nat)
 (Yh:shape=[43]->∀B:Hp,Fc zQ 31 #[ay [110],nI ws.length] B (λv H=>v=ay (List.replicate ws.length 110)/\H=B)):
  Fc zQ 19 #[ptr sp,ay shape,v,nI m] B (λr H=>∃N,H=N++B/\y8 (KQ shape ws) ws m (my ns) r N):=by
 refine aK λg=>N5 λb1 _ J3 h3=>?_;have go:∀(sh:List UInt8),sh.length<=400->sh=KQ shape ws->J3 [ay sh] ((b1,Obj.cells #[ay [],nI 0,nI 0] 27 zZ)::B):=λsh hsh aeB=>by
  refine h3 _ _ λ_=>?_;rw[<-aeB];refine hv.bF ?_;rw[xau];refine⟨λvs H=>∃(i:Nat) (acc:List (Wd×Nat)) (C:Hp) (v:zV),vs=[v,nI i]/\i<=ws.length/\acc.length=i/\i<=sh.length/\Ej m sh ws=Ej m (sh.drop i) (ws.drop i)/\rdv sh ws=acc++rdv (sh.drop i) (ws.drop i)/\aO 78 4 v (acc.map kS) C/\H=C++((b1,Obj.cells #[ay [],nI 0,nI 0] 27 zZ)::B),λvs _=>ws.length-bj vs 1,
   JE.mk ⟨0,[],[],_,rfl,xaA _,rfl,xaA _,rfl,rfl,aO.nil _ _,rfl⟩,?_⟩
  rintro Xv w13 H ⟨i,acc,C,va,⟨⟩,hi,hal,his,hf,AS,hs,rfl⟩ gs;have sub:∀y∈B,y∈C++((b1,Obj.cells #[ay [],nI 0,nI 0] 27 zZ)::B):=λy hy=>xaa _ (.tail _ hy)
  /- a fault told -/
  have bad:∀(p e:Nat) (X:Hp),y8 sh ws m (my ns) (.tuple #[.slice none 0 0,nR [] p e]) []->aI ((b1,Obj.cells (dO [] p e).toArray 27 zZ)::X) B->
    ∀Y Y':Hp,cu b1 (.cells #[ay [],nI 0,nI 0] 27 zZ) (.cells (dO [] p e).toArray 27 zZ) Y Y'->aI Y' ((b1,Obj.cells (dO [] p e).toArray 27 zZ)::X)->(b1,Obj.cells (dO [] p e).toArray 27 zZ)∈Y'->
    aa zQ g 16 #[nI p,nI e] Y (λv H=>St 3 H (.pointer (some ⟨b1,0,none⟩)) v λZn=>au 3 Zn (.pointer (some ⟨b1,0,none⟩)) λv27=>aQ (λr H=>∃N,H=N++B/\y8 sh ws m (my ns) r N) (.returned (.tuple #[(.slice none 0 0),v27])) Zn) (cA (aQ (λr H=>∃N,H=N++B/\y8 sh ws m (my ns) r N))):=λp e X hR hE Y Y' hU hY hm=>by
   refine aa.eq (jl p e _) (St.whole (r:=dO [] p e) hU rfl rfl (bD _ _ _) (au.whole (r:=dO [] p e) hm rfl ?_));exact aQ.mk (hY.trans hE) ⟨[],rfl,hR⟩
  refine ae.cU (Br.dec (λhlt=>?_) (λhge=>?_))
  ·have hw:ws[i]? =some ws[i]:=xab hlt;have UO:=xaV hlt;have EL:=WA _ (xaD hlt);generalize ws[i]=w at hw UO EL;rw[UO]at hf AS;refine ai.sl hv (r:=w.cells) (by rw[xas,hw];rfl) λp hp=>au.at hp rfl zD sub λb17 _=>?_;refine St.whole (r:=w.cells) (.head _) rfl rfl w.one (aL.of (ae.mh (Br.dec (λhge=>?_) (λrL=>?_))))
   ·refine Ld.u (v:=nI w.a) (.head _) (bad w.a 14 B (.inl ⟨w.a,?_,rfl⟩) .tail _ _ (.tail ((cu.head _).aH C)) (.skip (.bY (.refl _))) (.tail _ (xaa _ (.head _))));rw[hf,xa9 hge];rfl
   obtain⟨c,hc,hcd⟩:=nj (l:=sh) (i:=i) zO;rw[hcd]at hf AS;refine au.whole (r:=w.cells) (.head _) rfl (Build.mk (cs:=kS (w,0)) zK λb30 _=>St.whole (r:=kS (w,0)) (.head _) rfl rfl (ua _) λJ33 h33=>?_);have lg:∀(o:Option Nat),JX c w.t=o->J33 [.bool o.isSome] ((b30,.cells (kS (w,o.getD 0)).toArray 78 zZ)::(b17,.cells w.cells.toArray 58 zZ)::(C++((b1,Obj.cells #[ay [],nI 0,nI 0] 27 zZ)::B))):=λo ho=>by
    refine h33 _ _ λ_=>Un.not ?_;cases o with
    |none=>
     refine Br.yes (Ld.u (v:=nI w.a) (.tail _ (.head _)) (bad w.a 14 B (.inl ⟨w.a,?_,rfl⟩) .tail _ _ (.tail (.tail ((cu.head _).aH C))) (.skip (.skip (.bY (.refl _)))) (.tail _ (.tail _ (xaa _ (.head _))))));rw[hf];show(if(JX c w.t).isNone then _ else _)=_;rw[ho];rfl
    |some n=>
     refine Br.no (au.whole (r:=kS (w,n)) (.head _) rfl (ak.one (e:=78) (z:=.agg #[ay [],nI 0,nI 0,nI 0]) (k:=4) zK zK zK zD rfl λbs=>?_));refine hs.mD (.cons (.cons (.cons .left))) (.head _) rfl (ua _) ⟨[_,_,_,_],rfl,rfl⟩ (by rw[xau];omega) (by rw[xau];omega) λv' C' cB=>?_;refine ae.inc (az.of (.skip (.skip .tail)) ⟨i+1,acc++[(w,n)],C',v',rfl,hlt,by simp[hal],by omega,?_,?_,by rw[xaF];exact cB,rfl⟩ (by simp only[bj];omega))
     ·rw[hf];show(if(JX c w.t).isNone then _ else _)=_;rw[ho];rfl
     rw[AS,xai];show acc++((w,(JX c w.t).getD 0)::_)=_;rw[ho];rfl
   have ie:=VZ (c:=c) (t:=w.t);refine bR.of hc (ae.bu (b:=110) (Br.dec (λYR=>?_) (λYR=>?_)))
   ·rw[xae YR]at ie;refine Ld.u (v:=ay w.t) (.tail _ (.head _)) (aa.eq (Ea w.t EL _) ?_);cases hn:XY w.t with
    |none=>exact Ext.mk rfl (Ext.mk rfl (.mk (St.one (c':=(kS (w,0)).toArray) (.head _) rfl (show 3<4 by decide) rfl (JE.mk (lg none (by rw[ie,hn]))))))
    |some n=>exact Ext.mk rfl (Ext.mk rfl (.mk (St.one (c':=(kS (w,n)).toArray) (.head _) rfl (show 3<4 by decide) rfl (JE.mk (lg (some n) (by rw[ie,hn]))))))
   ·rw[xac YR]at ie;refine Ld.u (v:=ay w.t) (.tail _ (.head _)) (aa.eq (Bj sp w.t EL _) ?_);cases hn:xg w.t with
    |false=>exact JE.mk (lg none (by rw[ie,hn];rfl))
    |true=>exact JE.mk (lg (some 0) (by rw[ie,hn];rfl))
  ·have hiw:i=ws.length:=by omega
   subst hiw;refine hv.bF (aL.of ?_);rw[xau];refine ae.cU (Br.dec (λfV=>?_) (λhnl=>?_))
   ·refine bad m 14 B (.inl ⟨m,?_,rfl⟩) .tail _ _ ((cu.head _).aH C) (.bY (.refl _)) (xaa _ (.head _));obtain⟨c,_,hcd⟩:=nj fV;rw[hf,xcj,hcd];rfl
   have ER:sh.length=ws.length:=by omega
   have hf0:Ej m sh ws=none:=by rw[hf,xcj,xa9 zO];rfl
   have hv0:rdv sh ws=acc:=by
    rw[AS,xcj,xa9 zO];show acc++[]=acc;exact xaG _
   refine hs.bF ?_;rw[xau,hal];refine⟨λvs H=>∃j:Nat,vs=[nI j]/\j<=ws.length/\Ei (my ns) sh ws=Ei (my ns) (sh.drop j) (ws.drop j)/\H=C++((b1,Obj.cells #[ay [],nI 0,nI 0] 27 zZ)::B),λvs _=>ws.length-bj vs 0,
    JE.mk ⟨0,rfl,xaA _,rfl,rfl⟩,?_⟩
   rintro w78 H ⟨j,⟨⟩,hj,hn,rfl⟩ gs2;refine ae.cU (Br.dec (λhlt=>?_) (λafe=>?_))
   ·obtain⟨c,hc,hcd⟩:=nj (l:=sh) (i:=j) zO;have hw:ws[j]? =some ws[j]:=xab hlt;have UO:=xaV hlt;generalize ws[j]=w at hw UO;have fK:=I1 sh ws j c w hc hw;rw[hv0]at fK;generalize (JX c w.t).getD 0=n at fK;rw[hcd,UO]at hn;refine hs.oB (r:=kS (w,n)) (by rw[xas,fK];rfl) (λy hy=>xad _ hy) λb82 _=>?_;refine St.whole (r:=kS (w,n)) (.head _) rfl rfl (ua _) (Ld.v (v:=.map (some mb)) (.tail _ (sub _ hsp)) (.mk (Ld.u (v:=ay w.t) (.head _) ?_)));have acv:=OO c 115 zD;have step:∀t:Bool,my ns w.t=t->∀x:zV,Ext 0 (.tuple #[x,.bool t]) λv92=>Ext 1 (.tuple #[x,.bool t]) λv93=>
      bR (ay sh) (nI j) λv94=>ae .num .eql v94 (.int .u8 115) λv95=>
      cr v95 true (λt96=>Un .not v93 λv97=>((b82,Obj.cells (kS (w,n)).toArray 78 zZ)::(C++((b1,Obj.cells #[ay [],nI 0,nI 0] 27 zZ)::B))=(b82,Obj.cells (kS (w,n)).toArray 78 zZ)::(C++((b1,Obj.cells #[ay [],nI 0,nI 0] 27 zZ)::B))/\v97=Value.bool t96)) (λt96=>(Value.bool false)=Value.bool t96) λt96=>∀akK:Fr,
      Br (Value.bool t96) (ag 0 (.pointer (some ⟨b82,0,none⟩)) λv99=>ag 1 v99 λad5=>Ld ((b82,Obj.cells (kS (w,n)).toArray 78 zZ)::(C++((b1,Obj.cells #[ay [],nI 0,nI 0] 27 zZ)::B))) ad5 λad4=>
       aa zQ g 16 #[ad4,nI 15] ((b82,Obj.cells (kS (w,n)).toArray 78 zZ)::(C++((b1,Obj.cells #[ay [],nI 0,nI 0] 27 zZ)::B))) (λv H=>St 3 H (.pointer (some ⟨b1,0,none⟩)) v λZn=>au 3 Zn (.pointer (some ⟨b1,0,none⟩)) λv27=>aQ (λr H=>∃N,H=N++B/\y8 sh ws m (my ns) r N) (.returned (.tuple #[(.slice none 0 0),v27])) Zn) (cA (aQ (λr H=>∃N,H=N++B/\y8 sh ws m (my ns) r N))))
      (ae .num .add (nI j) (nI 1) λad3=>az (λvs H=>∃j:Nat,vs=[nI j]/\j<=ws.length/\Ei (my ns) sh ws=Ei (my ns) (sh.drop j) (ws.drop j)/\H=C++((b1,Obj.cells #[ay [],nI 0,nI 0] 27 zZ)::B)) (λvs _=>ws.length-bj vs 0) [ad3] ((b82,Obj.cells (kS (w,n)).toArray 78 zZ)::(C++((b1,Obj.cells #[ay [],nI 0,nI 0] 27 zZ)::B))) [nI j] (C++((b1,Obj.cells #[ay [],nI 0,nI 0] 27 zZ)::B))):=λt ht x=>by
     refine Ext.mk rfl (Ext.mk rfl (bR.of hc (ae.bu (b:=115) (cr.and (!t) (λ_=>Un.not ⟨rfl,rfl⟩) rfl λ_=>?_))));by_cases pE:c=115/\t=false
     ·obtain⟨rfl,rfl⟩:=pE;refine Br.To (by rw[xav (acv.2 rfl)];rfl) (.mk (Ld.u (v:=nI w.a) (.head _) (bad w.a 15 B (.inr (.inl ⟨hf0,w.a,?_,rfl⟩)) .tail _ _ (.tail ((cu.head _).aH C)) (.skip (.bY (.refl _))) (.tail _ (xaa _ (.head _))))));rw[hn];show(if _ then _ else _)=_;rw[xae ⟨rfl,ht⟩]
     refine Br.no' ?_ (ae.inc (az.of .tail ⟨j+1,rfl,hlt,?_,rfl⟩ (by simp only[bj];omega)))
     ·rw[xdy,xbw];by_cases h:c=115
      ·right;cases t with
       |true=>rfl
       |false=>exact absurd ⟨h,rfl⟩ pE
      ·exact .inl λe=>h (acv.1 e)
     rw[hn];show(if c=115/\my ns w.t=false then _ else _)=_;rw[ht,xac pE]
    refine hE.look (k:=w.t) mL (b:=mb) (.tail _ (sub _ hmb)) (λx vx hx hvx=>?_) (λhx=>?_)
    ·exact step true (by unfold my;rw[hx];rfl) _
    exact step false (by unfold my;rw[hx];rfl) _
   have hjw:j=ws.length:=by omega
   subst hjw;have WM:Ei (my ns) sh ws=none:=by rw[hn,xcj,xa9 zO];rfl
   refine Build.mk (cs:=dO [] 0 0) zK (St.whole (r:=dO [] 0 0) ((cu.head _).aH C) rfl rfl (bD _ _ _) (au.whole (r:=dO [] 0 0) (xaa _ (.head _)) rfl ?_));exact aQ.mk (.cT .tail _) ⟨C,rfl,.inr (.inr ⟨hf0,WM,_,rfl,by rw[hv0];exact hs⟩)⟩
 refine ae.Be (b:=[43]) (Br.dec (λh=>?_) (λh=>?_))
 ·refine hv.bF ?_;rw[xau];refine aa.fq (Yh h _) ?_;rintro _ _ ⟨rfl,rfl⟩;exact JE.mk (go _ (by rw[xbV];omega) (by unfold KQ;rw[xae h]))
 exact JE.mk (go shape zO (by unfold KQ;rw[xac h]))
end
section
open Fm aE
section
variable {kp:Nat} {K K1 K2:Kd} {S S1 S2:Nat->aE.Fn} {ord ah tr:zL} {C:Hp}
theorem Vz(hK:cZ kp K S ord ah tr C){a b:Nat}(ha:aE.live K.N a)(hb:aE.live K.N b)(hB:∀s,K.hold s+2^K.n<=65535):Fc zQ 98 #[ptr kp,u32 a,u32 b] C (si kp K S ord ah tr (λy=>Og 8 (S a y) (S b y))):=by
 refine aK λg=>MN (aa.fq (jt hK (op:=8) zD ha hb hB) ?_);intro w H hD;obtain⟨x,e,rfl⟩:=hD.two;exact Ext.two (aQ.here hD)
theorem YU(hK:cZ kp K S ord ah tr C){a b:Nat}(ha:aE.live K.N a)(hb:aE.live K.N b)(hB:∀s,K.hold s+2^K.n<=65535):Fc zQ 99 #[ptr kp,u32 a,u32 b] C (si kp K S ord ah tr (λy=>Og 14 (S a y) (S b y))):=by
 refine aK λg=>MM (aa.fq (jt hK (op:=14) zD ha hb hB) ?_);intro w H hD;obtain⟨x,e,rfl⟩:=hD.two;exact Ext.two (aQ.here hD)
theorem Vu(hK:cZ kp K S ord ah tr C){a b:Nat}(ha:aE.live K.N a)(hb:aE.live K.N b)(hB:∀s,K.hold s+2^K.n<=65535):Fc zQ 100 #[ptr kp,u32 a,u32 b] C (si kp K S ord ah tr (λy=>Og 6 (S a y) (S b y))):=by
 refine aK λg=>Iw (aa.fq (jt hK (op:=6) zD ha hb hB) ?_);intro w H hD;obtain⟨x,e,rfl⟩:=hD.two;exact Ext.two (aQ.here hD)
theorem Mg(hK:cZ kp K S ord ah tr C)(b:Bool):Fc zQ 125 #[ptr kp,.bool b] C (si kp K S ord ah tr (λ_=>b)):=by
 have hi:=hK.ok.mid.int;refine aK λg=>Ib (ae.aJ (Br.no ?_));intro J2 h2;have go:∀r:Nat,r<2->(S r=λ_=>b)->J2 [u32 r] C:=λr hr hf=>by
  refine h2 _ _ λ_=>?_;refine aa.fq (z6 hK (r:=r) (.inl hr) (λh=>by omega)) ?_;rintro v H ⟨rfl,K',jX,hm⟩;exact aQ.here (.inl ⟨r,K',S,rfl,jX,⟨hm.n,hm.cap,λs d h=>by rw[hm.N];exact h,λ_ _=>rfl,.inl hr,hf,λs=>by rw[hm.hold];split<;>rfl⟩⟩)
 cases b
 ·exact Br.no (JE.mk (go 0 zD (funext hi.zero)))
 exact Br.yes (JE.mk (go 1 zD (funext hi.one)))
theorem rF(kE:cZ kp K1 S1 ord ah tr C){kX:zL}{C2:Hp}(gH:cZ kp K2 S2 ord ah kX C2){ys:zL}(h:bM K1 S1 K2 S2 ys){x:Nat}(hx:2<=x->K1.hold x≠0):aE.live K2.N x/\S2 x=S1 x:=by
 by_cases h2:2<=x
 ·exact⟨.inr (gH.ok.mid.held x (by rw[h.hold];have:=hx h2;omega)),h.fn x (hx h2)⟩
 refine⟨.inl zO,?_⟩;have Xd:x=0\/x=1:=by omega
 rcases Xd with rfl|rfl
 ·rw[funext kE.ok.mid.int.zero,funext gH.ok.mid.int.zero]
 rw[funext kE.ok.mid.int.one,funext gH.ok.mid.int.one]
theorem cZ.Cj(hK:cZ kp K S ord ah tr C):∀s,K.hold s≠0->aE.live K.N s:=λs hs=>.inr (hK.ok.mid.held s hs)
theorem r9.node{M:Hp}{t:Tr}{p:zV}(h:r9 M t p):∃(b:Nat) (sl:zV) (ps:zL),p=bI b/\(b,.cells #[nI t.kd,nI t.vl,sl] 101 zZ)∈M/\Sl 1 M sl (ps.map λq=>[bI q])/\ps.length=t.kids.length/\∀(i:Nat) (k:Tr) (q:Nat),t.kids[i]? =some k->ps[i]? =some q->r9 M k (bI q):=by
 cases h with
 | @c k b h=>exact⟨b,_,[],rfl,h,Sl.nil _ _,rfl,λi k q h1=>by simp[Tr.kids]at h1⟩
 | @v n b h=>exact⟨b,_,[],rfl,h,Sl.nil _ _,rfl,λi k q h1=>by simp[Tr.kids]at h1⟩
 | @no a b d x h h2 h3=>exact⟨b,_,[x],rfl,h,(Sl.fi (T:=64) (aO.made [[bI x]] (λr hr=>by simp only[xag,xaw,xa1]at hr;first|(rcases hr with rfl|rfl|rfl<;>rfl)|(rcases hr with rfl|rfl<;>rfl)|(subst hr;rfl))) zD).mono (λy hy=>by cases hy with|head=>exact h2|tail _ h=>cases h),rfl,λi k q h1 h2=>by rcases i with _|_|_|i<;>simp[Tr.kids]at h1 h2<;>(obtain rfl:=h1;obtain rfl:=h2;assumption)⟩
 | @bin k a a' b d x y h h2 h3 h4=>exact⟨b,_,[x,y],rfl,h,(Sl.fi (T:=64) (aO.made [[bI x],[bI y]] (λr hr=>by simp only[xag,xaw,xa1]at hr;first|(rcases hr with rfl|rfl|rfl<;>rfl)|(rcases hr with rfl|rfl<;>rfl)|(subst hr;rfl))) zD).mono (λy hy=>by cases hy with|head=>exact h2|tail _ h=>cases h),rfl,λi k q h1 h2=>by rcases i with _|_|_|i<;>simp[Tr.kids]at h1 h2<;>(obtain rfl:=h1;obtain rfl:=h2;assumption)⟩
 | @ite a a' a2 b d x y z h h2 h3 h4 h5=>exact⟨b,_,[x,y,z],rfl,h,(Sl.fi (T:=64) (aO.made [[bI x],[bI y],[bI z]] (λr hr=>by simp only[xag,xaw,xa1]at hr;first|(rcases hr with rfl|rfl|rfl<;>rfl)|(rcases hr with rfl|rfl<;>rfl)|(subst hr;rfl))) zD).mono (λy hy=>by cases hy with|head=>exact h2|tail _ h=>cases h),rfl,λi k q h1 h2=>by rcases i with _|_|_|i<;>simp[Tr.kids]at h1 h2<;>(obtain rfl:=h1;obtain rfl:=h2;assumption)⟩
end
def AM(t:Tr):Prop:=∀{kp:Nat} {K:Kd} {S:Nat->aE.Fn} {ord ah tr:zL} {C M:Hp} {p:zV},cZ kp K S ord ah tr C->r9 M t p->t.Fit K.n->(∀s,K.hold s+t.gY+2^K.n<=65535)->
 Fc zQ 76 #[ptr kp,p] (M++C) (λw H=>∃C',H=M++C'/\SX kp K S ord ah t.fn t.iI w C')
theorem Fm.Tr.BX(t:Tr):t.kids.length<=t.gY/\t.kids.length<=3/\∀i k,t.kids[i]? =some k->i+k.gY<=t.gY:=by
 cases t with
 |c k=>exact⟨xaA _,xaA _,λi k h=>by simp[Tr.kids]at h⟩
 |v k=>exact⟨xaA _,xaA _,λi k h=>by simp[Tr.kids]at h⟩
 |no a=>
  refine⟨a.iM,by show 1<=3;decide,λi k h=>?_⟩;rcases i with _|i<;>simp[Tr.kids]at h;subst h;show 0+a.gY<=a.gY;omega
 |bin k a b=>
  have h1:=a.iM;have h2:=b.iM;refine⟨by show 2<=a.gY+b.gY;omega,by show 2<=3;decide,λi k h=>?_⟩;rcases i with _|_|i<;>simp[Tr.kids]at h
  ·subst h;show 0+a.gY<=a.gY+b.gY;omega
  subst h;show 0+1+b.gY<=a.gY+b.gY;omega
 |ite a b d=>
  have h1:=a.iM;have h2:=b.iM;have h3:=d.iM;refine⟨by show 3<=a.gY+b.gY+d.gY;omega,by show 3<=3;decide,λi k h=>?_⟩;rcases i with _|_|_|i<;>simp[Tr.kids]at h
  ·subst h;show 0+a.gY<=a.gY+b.gY+d.gY;omega
  ·subst h;show 0+1+b.gY<=a.gY+b.gY+d.gY;omega
  subst h;show 0+1+1+d.gY<=a.gY+b.gY+d.gY;omega
theorem Fm.Tr.BY{t:Tr}{n:Nat}(h:t.Fit n):∀k∈t.kids,k.Fit n:=by
 intro k hk;cases t with
 |c=>cases hk
 |v=>cases hk
 |no a=>simp only[Tr.kids,xag,xaw,xa1]at hk;subst hk;exact h
 |bin k a b=>simp only[Tr.kids,xag,xaw,xa1]at hk;rcases hk with rfl|rfl;exact h.2.1;exact h.2.2
 |ite a b d=>simp only[Tr.kids,xag,xaw,xa1]at hk;rcases hk with rfl|rfl|rfl;exact h.1;exact h.2.1;exact h.2.2
set_option maxHeartbeats 2000000 in
theorem jr(t:Tr)(ih:∀k∈t.kids,AM k):AM t:=by
 intro kp K S ord ah tr C M p hK ht hf hB;obtain⟨b,sl,ps,rfl,hn,Ca,mg,hps⟩:=ht.node;obtain⟨hkl,pP,hkv⟩:=t.BX;refine aK λg=>M9 λb1 _ b3 _=>Nil.ptr (Ld.u (.tail _ (.tail _ (xad _ hn))) (Ca.bF ?_));rw[xau];refine⟨λvs H=>∃(i:Nat) (K1:Kd) (S1:Nat->aE.Fn) (Zu:zL) (C1:Hp) (xs:zL) (v:zV) (L:Hp),vs=[nI i]/\i<=ps.length/\xs.length=i/\H=(b3,.cells #[v] 189 zZ)::(b1,.cells #[ptr kp] 45 zZ)::(L++(M++C1))/\aR 82 .u32 v (iw xs) L/\cZ kp K1 S1 ord ah Zu C1/\bM K S K1 S1 xs/\(∀(j x:Nat) (k:Tr),xs[j]? =some x->t.kids[j]? =some k->aE.live K1.N x/\S1 x=k.fn),λvs _=>ps.length-bj vs 0,
  JE.mk ⟨0,K,S,tr,C,[],_,[],rfl,xaA _,rfl,rfl,aR.nil,hK,.refl,λj x k h=>by simp at h⟩,?_⟩
 rintro w13 H ⟨i,K1,S1,Zu,C1,xs,v,L,⟨⟩,hi,hxs,rfl,hv,kE,Ch,Aa⟩ gs;have Xc:∀s,K1.hold s<=K.hold s+i:=λs=>by have:=Ch.le s;omega
 have hxl:∀x∈xs,x<4294967296:=λx hx=>by
  obtain⟨j,hj,rfl⟩:=xeg hx;have:=kE.eC (Aa j xs[j] (t.kids[j]' zO) (xab hj) (xab _)).1;omega
 have hsub:∀x∈xs,t.iI (S1 x):=λx hx=>by
  obtain⟨j,hj,rfl⟩:=xeg hx;rw[(Aa j xs[j] (t.kids[j]' zO) (xab hj) (xab _)).2];exact Tr.Bc (xaD _) (Tr.xH _)
 /- the parts let go, and out -/
 have leave:∀(K2:Kd) (S2:Nat->aE.Fn) (kX:zL) (C2:Hp) (ys:zL) (Kc:Hp->Prop),cZ kp K2 S2 ord ah kX C2->bM K S K2 S2 (xs++ys)->(∀K3 C3 OT,cZ kp K3 S2 ord ah OT C3->bM K S K3 S2 ys->(OT=kX\/OT=[])->Kc ((b3,.cells #[v] 189 zZ)::(b1,.cells #[ptr kp] 45 zZ)::(L++(M++C3))))->
   kN zQ g 124 #[ptr b3,ptr b1] ((b3,.cells #[v] 189 zZ)::(b1,.cells #[ptr kp] 45 zZ)::(L++(M++C2))) Kc:=λK2 S2 kX C2 ys Kc gH DL hk=>by
  refine kN.fn .here (RH hv DL gH hxl zO) ?_;rintro _ _ ⟨K3,C3,OT,rfl,wO,WT,Jl⟩;exact hk K3 C3 OT wO WT Jl
 have bad:∀(C3:Hp) (w:zV),SX kp K S ord ah t.fn t.iI w C3->aQ (λw H=>∃C',H=M++C'/\SX kp K S ord ah t.fn t.iI w C') (.returned w) ((b3,.cells #[v] 189 zZ)::(b1,.cells #[ptr kp] 45 zZ)::(L++(M++C3))):=λC3 w h=>aQ.mk (.skip (.skip .right)) ⟨C3,rfl,h⟩;refine ae.cU (Br.dec (λhlt=>?_) (λhge=>?_))
 ·have hq:ps[i]? =some ps[i]:=xab hlt;have Om:t.kids[i]? =some (t.kids[i]' zO):=xab _;generalize (t.kids[i]' zO)=k at Om;have hkm:k∈t.kids:=xaz Om;refine ai.sl Ca (r:=[bI ps[i]]) (by rw[xas,hq];rfl) λa ha=>Ld.at ha (λy hy=>.tail _ (.tail _ (xaa _ (xad _ hy)))) (Ld.mk (.tail _ (.head _)) rfl ?_);have ajD:=hkv i k Om;refine aa.fn (.cons (.cons (.app .here))) (ih k hkm kE (hps i k _ Om hq) (by rw[Ch.n];exact Tr.BY hf k hkm) (λs=>by rw[Ch.n];have:=hB s;have:=Xc s;omega)) ?_;rintro w _ ⟨C2,rfl,hb⟩;rcases hb with⟨x,K2,S2,kX,rfl,gH,DL,oE,mu,_⟩|⟨rfl,⟨K2,S2,kX,gH,DL⟩,hfit⟩
  ·refine Ext.mk rfl (Ext.mk rfl (ae.mF (b:=0) (Br.F (Ld.mk (.head _) rfl ?_))));refine ak.int (e:=82) zK zK zK λbx=>?_;refine hv.mD (x:=(x:Int)) (.cons (.cons (.cons .left))) (by exact .head _) (by rw[aq];omega) (by rw[aq];omega) λv' L' mr=>?_;refine St.one (c':=#[v']) (.tail (.head _)) mr.one (show(0:Nat)<1 by decide) rfl (ae.inc (az.of .tail ⟨i+1,K2,S2,kX,C2,xs++[x],v',L',rfl,hlt,by simp[hxs],rfl,by rw[cc];exact mr,gH,Ch.more DL,?_⟩ (by simp only[bj];omega)));intro j y k' hy hk';by_cases hj:j<xs.length
   ·rw[xaS hj]at hy;obtain⟨h1,h2⟩:=Aa j y k' hy hk';have:=rF kE gH DL (x:=y) (λhy2=>by
     rw[Ch.hold,xae hy2];have:=xcG.2 (xaz hy);omega)
    exact⟨this.1,this.2.trans h2⟩
   have QI:j=i:=by
    have:=(xah.1 hy).1;simp only[xaf,xbf]at this;omega
   subst QI;rw[xbC zO,hxs,xcC]at hy;rw[Om]at hk';cases hy;cases hk';exact⟨oE,mu⟩
  refine Ext.mk rfl (Ext.mk rfl (ae.mF (b:=0) (Br.T ?_)));refine leave K2 S2 kX C2 [] _ gH (Ch.more DL) λK3 C3 OT wO WT _=>?_;refine bad C3 _ (.inr ⟨rfl,⟨K3,S2,OT,wO,WT⟩,λhF=>hfit ?_⟩);rw[Ch.n,Ch.cap];exact Fits.mono (λg hg=>eu (λg h=>by
   rcases h with h|h
   ·exact Ch.held hsub g h
   exact .inr (Tr.Bc hkm h)) hg) hF
 have Yw:i=ps.length:=by omega
 subst Yw;have Xb:∀s,K1.hold s+2^K1.n<=65535:=λs=>by rw[Ch.n];have:=hB s;have:=Xc s;omega
 /- the operation done -/
 have fin:∀(w:zV) (C2:Hp) (R:Hp),aI ((b3,.cells #[v] 189 zZ)::(b1,.cells #[ptr kp] 45 zZ)::(L++(M++C2))) R->si kp K1 S1 ord ah Zu t.fn w C2->
   aI ((b3,.cells #[v] 189 zZ)::(b1,.cells #[ptr kp] 45 zZ)::(L++(M++C2))) R/\Ext 0 w λx=>Ext 1 w λe=>kN zQ g 124 #[ptr b3,ptr b1] ((b3,.cells #[v] 189 zZ)::(b1,.cells #[ptr kp] 45 zZ)::(L++(M++C2))) λH=>aQ (λw H=>∃C',H=M++C'/\SX kp K S ord ah t.fn t.iI w C') (.returned (.tuple #[x,e])) H:=by
  intro w C2 R he hD;refine⟨he,?_⟩;rcases hD with⟨x,K2,S2,rfl,gH,hg⟩|⟨rfl,⟨K2,S2,kX,gH,_,hk⟩,hfit⟩
  ·refine Ext.mk rfl (Ext.mk rfl (leave K2 S2 [] C2 [x] _ gH (Ch.grow kE.Cj hg) λK3 C3 OT wO WT Jl=>bad C3 _ (.inl ⟨x,K3,S2,OT,rfl,wO,WT,?_,hg.is,Jl.elim id id⟩)));by_cases h2:2<=x
   ·exact .inr (wO.ok.mid.held x (by rw[WT.hold,xae h2];simp))
   exact .inl zO
  refine Ext.mk rfl (Ext.mk rfl (leave K2 S2 kX C2 [] _ gH (by rw[xaG];exact Ch.kept hk) λK3 C3 OT wO WT _=>bad C3 _ (.inr ⟨rfl,⟨K3,S2,OT,wO,WT⟩,λhF=>hfit ?_⟩)));rw[Ch.n,Ch.cap];exact Fits.mono (λg hg=>eu (λg h=>by
   rcases h with h|h
   ·exact Ch.held hsub g h
   subst h;exact .inr (Tr.xH t)) hg) hF
 have dV:∀C2:Hp,aI ((b3,.cells #[v] 189 zZ)::(b1,.cells #[ptr kp] 45 zZ)::(L++(M++C2))) ((b3,.cells #[v] 189 zZ)::(b1,.cells #[ptr kp] 45 zZ)::(L++M)):=λC2=>.cons (.cons (.cT .left L));have LN:(b,Obj.cells #[nI t.kd,nI t.vl,sl] 101 zZ)∈(b3,Obj.cells #[v] 189 zZ)::(b1,Obj.cells #[ptr kp] 45 zZ)::(L++M):=.tail _ (.tail _ (xaa _ hn));refine Nil.ptr (Ld.u (.tail _ (.tail _ (xaa _ (xad _ hn)))) λZl Z2=>?_);have get:∀{j x:Nat} {Kc:zV->Prop},xs[j]? =some x->Kc (u32 x)->ai 1 v (iv ((j:Nat):Int)) λp=>Ld ((b3,.cells #[v] 189 zZ)::(b1,.cells #[ptr kp] 45 zZ)::(L++M)) p Kc:=λhx hk=>hv.ld (cI hx) (λy hy=>.tail _ (.tail _ (xad _ hy))) hk;have j36:Zl [.bool (decide (t.kd=1\/t.kd=2))] ((b3,.cells #[v] 189 zZ)::(b1,.cells #[ptr kp] 45 zZ)::(L++(M++C1))):=by
  refine Z2 _ _ λ_=>?_;have hole:∀Z:Hp,bB Z ((b3,Obj.cells #[v] 189 zZ)::(b1,Obj.cells #[ptr kp] 45 zZ)::(L++(M++Z))) (λX=>(b3,Obj.cells #[v] 189 zZ)::(b1,Obj.cells #[ptr kp] 45 zZ)::(L++(M++X))):=λZ=>.cons (.cons (.app (.app .here)));have qY:(b1,Obj.cells #[ptr kp] 45 zZ)∈(b3,Obj.cells #[v] 189 zZ)::(b1,Obj.cells #[ptr kp] 45 zZ)::(L++M):=.tail _ (.head _);have qu:(b3,Obj.cells #[v] 189 zZ)∈(b3,Obj.cells #[v] 189 zZ)::(b1,Obj.cells #[ptr kp] 45 zZ)::(L++M):=.head _;cases t with
  |c k=>
   refine Br.VG hf (DR.of (dV C1) (Ld.mk qY rfl (Nil.ptr (Ld.u LN (ae.bu (b:=2) (aa.fn (hole C1) (Mg kE _) λw C2 hD=>fin w C2 _ (dV C2) hD))))))
  |v m=>
   dsimp only[Tr.kd,Tr.vl]at LN⊢;refine Br.F (ae.bu (b:=3) (Br.T (DR.of (dV C1) (Ld.mk qY rfl (Nil.ptr (Ld.u LN (aa.fn (hole C1) (VQ kE (v:=m) (by rw[Ch.n];exact hf) (λs=>by have:=Xb s;have:1<=2^K1.n:=xdQ;omega)) λw C2 hD=>fin w C2 _ (dV C2) hD)))))))
  |no a=>
   obtain⟨x,hx⟩:∃x,xs[0]? =some x:=⟨_,xab (by rw[hxs,mg];show 0<1;decide)⟩;obtain⟨l1,s1⟩:=Aa 0 x a hx rfl;dsimp only[Tr.kd,Tr.vl]at LN⊢;refine Br.F (ae.bu (b:=3) (Br.F (ae.bu (b:=4) (Br.T (DR.of (dV C1) (Ld.mk qY rfl (Ld.mk qu rfl (get (j:=0) hx (aa.fn (hole C1) (VV kE l1 Xb) λw C2 hD=>fin w C2 _ (dV C2) (by rw[s1]at hD;exact hD))))))))))
  |bin k a b'=>
   obtain⟨x,hx⟩:∃x,xs[0]? =some x:=⟨_,xab (by rw[hxs,mg];show 0<2;decide)⟩;obtain⟨y,hy⟩:∃y,xs[1]? =some y:=⟨_,xab (by rw[hxs,mg];show 1<2;decide)⟩;obtain⟨l1,s1⟩:=Aa 0 x a hx rfl;obtain⟨l2,s2⟩:=Aa 1 y b' hy rfl;have ae2:=hf.1;have Fh:k=5\/k=6\/k=7\/k=8\/k=9:=by omega
   dsimp only[Tr.kd,Tr.vl]at LN⊢;rcases Fh with rfl|rfl|rfl|rfl|rfl
   ·refine Br.F (ae.bu (b:=3) (Br.F (ae.bu (b:=4) (Br.F (ae.bu (b:=5) (Br.T (DR.of (dV C1) (Ld.mk qY rfl (Ld.mk qu rfl (get (j:=0) hx (Ld.mk qu rfl (get (j:=1) hy (aa.fn (hole C1) (Vz kE l1 l2 Xb) λw C2 hD=>fin w C2 _ (dV C2) (by rw[s1,s2]at hD;exact hD))))))))))))))
   ·refine Br.F (ae.bu (b:=3) (Br.F (ae.bu (b:=4) (Br.F (ae.bu (b:=5) (Br.F (ae.bu (b:=6) (Br.T (DR.of (dV C1) (Ld.mk qY rfl (Ld.mk qu rfl (get (j:=0) hx (Ld.mk qu rfl (get (j:=1) hy (aa.fn (hole C1) (Vu kE l1 l2 Xb) λw C2 hD=>fin w C2 _ (dV C2) (by rw[s1,s2]at hD;exact hD))))))))))))))))
   ·refine Br.F (ae.bu (b:=3) (Br.F (ae.bu (b:=4) (Br.F (ae.bu (b:=5) (Br.F (ae.bu (b:=6) (Br.F (ae.bu (b:=7) (Br.T (DR.of (dV C1) (Ld.mk qY rfl (Ld.mk qu rfl (get (j:=0) hx (Ld.mk qu rfl (get (j:=1) hy (aa.fn (hole C1) (YU kE l1 l2 Xb) λw C2 hD=>fin w C2 _ (dV C2) (by rw[s1,s2]at hD;exact hD))))))))))))))))))
   ·refine Br.F (ae.bu (b:=3) (Br.F (ae.bu (b:=4) (Br.F (ae.bu (b:=5) (Br.F (ae.bu (b:=6) (Br.F (ae.bu (b:=7) (Br.F (ae.bu (b:=8) (Br.T (DR.of (dV C1) (Ld.mk qY rfl (Ld.mk qu rfl (get (j:=0) hx (Ld.mk qu rfl (get (j:=1) hy (aa.fn (hole C1) (jt kE (op:=11) zD l1 l2 Xb) λw C2 hD=>fin w C2 _ (dV C2) (by rw[s1,s2]at hD;exact hD))))))))))))))))))))
   refine Br.F (ae.bu (b:=3) (Br.F (ae.bu (b:=4) (Br.F (ae.bu (b:=5) (Br.F (ae.bu (b:=6) (Br.F (ae.bu (b:=7) (Br.F (ae.bu (b:=8) (Br.F (ae.bu (b:=9) (Br.T (DR.of (dV C1) (Ld.mk qY rfl (Ld.mk qu rfl (get (j:=0) hx (Ld.mk qu rfl (get (j:=1) hy (aa.fn (hole C1) (jt kE (op:=9) zD l1 l2 Xb) λw C2 hD=>fin w C2 _ (dV C2) (by rw[s1,s2]at hD;exact hD))))))))))))))))))))))
  |ite a b' d=>
   obtain⟨x,hx⟩:∃x,xs[0]? =some x:=⟨_,xab (by rw[hxs,mg];show 0<3;decide)⟩;obtain⟨y,hy⟩:∃y,xs[1]? =some y:=⟨_,xab (by rw[hxs,mg];show 1<3;decide)⟩;obtain⟨z,hz⟩:∃z,xs[2]? =some z:=⟨_,xab (by rw[hxs,mg];show 2<3;decide)⟩;obtain⟨l1,s1⟩:=Aa 0 x a hx rfl;obtain⟨l2,s2⟩:=Aa 1 y b' hy rfl;obtain⟨l3,s3⟩:=Aa 2 z d hz rfl;dsimp only[Tr.kd,Tr.vl]at LN⊢;refine Br.F (ae.bu (b:=3) (Br.F (ae.bu (b:=4) (Br.F (ae.bu (b:=5) (Br.F (ae.bu (b:=6) (Br.F (ae.bu (b:=7) (Br.F (ae.bu (b:=8) (Br.F (ae.bu (b:=9) (Br.F (DR.of (dV C1) (Ld.mk qY rfl (Ld.mk qu rfl (get (j:=0) hx (Ld.mk qu rfl (get (j:=1) hy (Ld.mk qu rfl (get (j:=2) hz (aa.fn (hole C1) (VY kE l1 l2 l3 Xb) λw C2 hD=>fin w C2 _ (dV C2) (by rw[s1,s2,s3]at hD;exact hD))))))))))))))))))))))))
 refine ae.bu (b:=1) (Br.dec (λh1=>?_) (λh1=>?_))
 ·rw[show(decide (t.kd=1))=decide (t.kd=1\/t.kd=2)by simp[h1]];exact JE.mk j36
 refine ae.bu (b:=2) ?_;rw[show(decide (t.kd=2))=decide (t.kd=1\/t.kd=2)by simp[h1]];exact JE.mk j36
theorem Sc(t:Tr):AM t:=by
 induction t with
 |c k=>exact jr _ λa ha=>by cases ha
 |v k=>exact jr _ λa ha=>by cases ha
 |no a i1=>
  exact jr _ λk hk=>by
   simp only[Tr.kids,xag,xaw,xa1]at hk;subst hk;exact i1
 |bin n a b i1 i2=>
  exact jr _ λk hk=>by
   simp only[Tr.kids,xag,xaw,xa1]at hk;rcases hk with rfl|rfl
   ·exact i1
   exact i2
 |ite a b d i1 i2 i3=>
  exact jr _ λk hk=>by
   simp only[Tr.kids,xag,xaw,xa1]at hk;rcases hk with rfl|rfl|rfl
   ·exact i1
   ·exact i2
   exact i3
def SI(t:Tr):Prop:=∀{n:Nat} {B:Hp} {p:zV},r9 B t p->t.Fit n->n<=16->Px zQ 24 #[nI n,p] B (λv H=>eH H v n t.fn)
theorem eH.cell{B:Hp}{v:zV}{n:Nat}{f:aE.Fn}(h:eH B v n f):∃s,v=.agg #[nI n,s]/\s.oneCell'=true:=by
 obtain⟨ws,⟨s,rfl,hw⟩,_⟩:=h;refine⟨s,rfl,?_⟩;obtain⟨a,c,rfl,_⟩:=hw.1.shape;rfl
set_option maxHeartbeats 2000000 in
theorem iX(t:Tr)(ih:∀k∈t.kids,SI k):SI t:=by
 intro n B p ht hf pD;obtain⟨b,sl,ps,rfl,hn,Ca,mg,hps⟩:=ht.node;obtain⟨hkl,pP,hkv⟩:=t.BX;refine aK λg=>NV λb1 _=>Nil.ptr (Ld.u (.tail _ hn) (Ca.bF ?_));rw[xau];refine⟨λvs H=>∃(i:Nat) (rs:List (List zV)) (v:zV) (C N:Hp),vs=[v,nI i]/\i<=ps.length/\rs.length=i/\H=(b1,.cells #[iv 0,.slice none 0 0] 37 zZ)::(C++(N++B))/\aO 37 2 v rs C/\(∀(j:Nat) (r:List zV) (k:Tr),rs[j]? =some r->t.kids[j]? =some k->eH (N++B) (.agg r.toArray) n k.fn),λvs _=>ps.length-bj vs 1,
  JE.mk ⟨0,[],_,[],[],rfl,xaA _,rfl,rfl,aO.nil _ _,λj x k h=>by simp at h⟩,?_⟩
 rintro w11 Xv H ⟨i,rs,v,C,N,⟨⟩,hi,tB,rfl,hv,Aa⟩ gs;refine ae.cU (Br.dec (λhlt=>?_) (λhge=>?_))
 ·have hq:ps[i]? =some ps[i]:=xab hlt;have Om:t.kids[i]? =some (t.kids[i]' zO):=xab _;generalize (t.kids[i]' zO)=k at Om;have hkm:k∈t.kids:=xaz Om;refine ai.sl Ca (r:=[bI ps[i]]) (by rw[xas,hq];rfl) λa ha=>Ld.at ha (λy hy=>.tail _ (xaa _ (xaa _ hy))) ?_;refine aa.px (.cons (.app .here)) (ih k hkm (n:=n) ((hps i k _ Om hq).mono (λy hy=>xaa N hy)) (Tr.BY hf k hkm) pD) ?_;intro tv N' hT;obtain⟨s,rfl,hs1⟩:=hT.cell;have h1:∀u∈[nI n,s],u.oneCell'=true:=λu hu=>by
   simp only[xag,xaw,xa1]at hu;rcases hu with rfl|rfl
   ·rfl
   exact hs1
  refine ak.one (e:=37) (z:=.agg #[iv 0,.slice none 0 0]) (k:=2) (r:=[nI n,s]) zK zK zK zD rfl λbx=>?_;refine hv.mD (r:=[nI n,s]) (.cons (.cons .left)) (.head _) rfl h1 ⟨[iv 0,.slice none 0 0],rfl,rfl⟩ zO zO λv' C' mr=>?_;refine ae.inc (az.of .tail ⟨i+1,rs++[[nI n,s]],v',C',N'++N,rfl,hlt,by simp[tB],by simp[xai],mr,?_⟩ (by simp only[bj];omega));intro j r k' hr hk';rw[xai];by_cases hj:j<rs.length
  ·rw[xaS hj]at hr;exact(Aa j r k' hr hk').mono λy hy=>xaa _ hy
  have QI:j=i:=by
   have:=(xah.1 hr).1;simp only[xaf,xbf]at this;omega
  subst QI;rw[xbC zO,tB,xcC]at hr;rw[Om]at hk';cases hr;cases hk';exact hT
 have Yw:i=ps.length:=by omega
 subst Yw;refine λMF _ J27 h27=>?_;have hole:∀Z:Hp,bB Z ((MF,Obj.cells #[iv 0,.slice none 0 0] 37 zZ)::(b1,Obj.cells #[iv 0,.slice none 0 0] 37 zZ)::(C++Z)) (λX=>(MF,Obj.cells #[iv 0,.slice none 0 0] 37 zZ)::(b1,Obj.cells #[iv 0,.slice none 0 0] 37 zZ)::(C++X)):=λZ=>.cons (.cons (.app .here));have LN:(b,Obj.cells #[nI t.kd,nI t.vl,sl] 101 zZ)∈(MF,Obj.cells #[iv 0,.slice none 0 0] 37 zZ)::(b1,Obj.cells #[iv 0,.slice none 0 0] 37 zZ)::(C++(N++B)):=.tail _ (.tail _ (xaa _ (xaa _ hn)));have Me:∀(w:zV) (N2 R:Hp),(∃tv,w=.tuple #[tv,iv 0]/\eH (N2++(N++B)) tv n t.fn)->(∀x5:zV,aI ((MF,Obj.cells #[nI n,x5] 37 zZ)::(b1,Obj.cells #[iv 0,.slice none 0 0] 37 zZ)::(C++(N2++(N++B)))) R)->
   Ext 0 w λx=>Ext 1 w λe=>St 2 ((MF,Obj.cells #[iv 0,.slice none 0 0] 37 zZ)::(b1,Obj.cells #[iv 0,.slice none 0 0] 37 zZ)::(C++(N2++(N++B)))) (.pointer (some ⟨MF,0,none⟩)) x λH=>aI H R/\JE J27 [] H:=by
  rintro w N2 R ⟨tv,rfl,hT⟩ hR;obtain⟨s,rfl,hs1⟩:=hT.cell;have h1:∀u∈[nI n,s],u.oneCell'=true:=λu hu=>by
   simp only[xag,xaw,xa1]at hu;rcases hu with rfl|rfl
   ·rfl
   exact hs1
  refine Ext.mk rfl (Ext.mk rfl (St.whole (r:=[nI n,s]) (.head _) rfl rfl h1 ⟨hR s,JE.mk (h27 _ λ_=>?_)⟩));refine au.whole (r:=[nI n,s]) (.head _) rfl (St.whole (r:=[nI n,s]) (.tail (.head _)) rfl rfl h1 (au.whole (r:=[nI n,s]) (.tail _ (.head _)) rfl ?_));exact AJ.mk (by repeat (first|exact bH.refl _|apply bH.cons|apply bH.app)) (hT.mono λy hy=>.tail _ (.tail _ (xaa _ hy)))
 have fin:∀(w:zV) (N2:Hp),(∃tv,w=.tuple #[tv,iv 0]/\eH (N2++(N++B)) tv n t.fn)->
   Ext 0 w λx=>Ext 1 w λe=>St 2 ((MF,Obj.cells #[iv 0,.slice none 0 0] 37 zZ)::(b1,Obj.cells #[iv 0,.slice none 0 0] 37 zZ)::(C++(N2++(N++B)))) (.pointer (some ⟨MF,0,none⟩)) x λH=>JE J27 [] H:=by
  rintro w N2 ⟨tv,rfl,hT⟩;obtain⟨s,rfl,hs1⟩:=hT.cell;have h1:∀u∈[nI n,s],u.oneCell'=true:=λu hu=>by
   simp only[xag,xaw,xa1]at hu;rcases hu with rfl|rfl
   ·rfl
   exact hs1
  refine Ext.mk rfl (Ext.mk rfl (St.whole (r:=[nI n,s]) (.head _) rfl rfl h1 (JE.mk (h27 _ λ_=>?_))));refine au.whole (r:=[nI n,s]) (.head _) rfl (St.whole (r:=[nI n,s]) (.tail (.head _)) rfl rfl h1 (au.whole (r:=[nI n,s]) (.tail _ (.head _)) rfl ?_));exact AJ.mk (by repeat (first|exact bH.refl _|apply bH.cons|apply bH.app)) (hT.mono λy hy=>.tail _ (.tail _ (xaa _ hy)))
 refine Nil.ptr (Ld.u (.tail _ (.tail _ (xaa _ (xaa _ hn)))) λZl Z2=>?_);have af3:∀{j:Nat} {r:List zV} {Kc:zV->Prop},rs[j]? =some r->Kc (.agg r.toArray)->ai 2 w11 (iv ((j:Nat):Int)) λp=>au 2 ((MF,Obj.cells #[iv 0,.slice none 0 0] 37 zZ)::(b1,Obj.cells #[iv 0,.slice none 0 0] 37 zZ)::(C++(N++B))) p Kc:=λhx hk=>hv.oB hx (λy hy=>.tail _ (.tail _ (xad _ hy))) hk;have get:∀{j:Nat} {r:List zV} {Kc:zV->Prop},rs[j]? =some r->Kc (.agg r.toArray)->ai 2 w11 (iv ((j:Nat):Int)) λp=>au 2 C p Kc:=λhx hk=>hv.oB hx (λy hy=>hy) hk;have dV:∀(z:Array zV) (Z:Hp),aI ((MF,Obj.cells z 37 zZ)::(b1,Obj.cells #[iv 0,.slice none 0 0] 37 zZ)::(C++Z)) C:=λz Z=>.skip (.skip .left);have j36:Zl [.bool (decide (t.kd=1\/t.kd=2))] ((MF,Obj.cells #[iv 0,.slice none 0 0] 37 zZ)::(b1,Obj.cells #[iv 0,.slice none 0 0] 37 zZ)::(C++(N++B))):=by
  refine Z2 _ _ λ_=>?_;cases t with
  |c k=>
   exact Br.VG hf (Nil.ptr (Ld.u LN (ae.bu (b:=2) (aa.px (hole _) (q8 pD _ _) λw N2 hD=>fin w N2 hD))))
  |v m=>
   dsimp only[Tr.kd,Tr.vl]at LN⊢;exact Br.F (ae.bu (b:=3) (Br.T (Nil.ptr (Ld.u LN (aa.px (hole _) (IG pD hf _) λw N2 hD=>fin w N2 hD)))))
  |no a=>
   obtain⟨x,hx⟩:∃x,rs[0]? =some x:=⟨_,xab (by rw[tB,mg];show 0<1;decide)⟩;have s1:=Aa 0 x a hx rfl;dsimp only[Tr.kd,Tr.vl]at LN⊢;exact Br.F (ae.bu (b:=3) (Br.F (ae.bu (b:=4) (Br.T (af3 (j:=0) hx (aa.px (hole _) (TO s1) λw N2 hD=>fin w N2 hD))))))
  |bin k a b'=>
   obtain⟨x,hx⟩:∃x,rs[0]? =some x:=⟨_,xab (by rw[tB,mg];show 0<2;decide)⟩;obtain⟨y,hy⟩:∃y,rs[1]? =some y:=⟨_,xab (by rw[tB,mg];show 1<2;decide)⟩;have s1:=Aa 0 x a hx rfl;have s2:=Aa 1 y b' hy rfl;have ae2:=hf.1;have Fh:k=5\/k=6\/k=7\/k=8\/k=9:=by omega
   dsimp only[Tr.kd,Tr.vl]at LN⊢;rcases Fh with rfl|rfl|rfl|rfl|rfl
   ·exact Br.F (ae.bu (b:=3) (Br.F (ae.bu (b:=4) (Br.F (ae.bu (b:=5) (Br.T (DR.of (dV _ _) (get (j:=0) hx (get (j:=1) hy (aa.px (hole _) (pW (op:=8) zD s1 s2) λw N2 hD=>⟨dV _ _,Me w N2 _ hD λ_=>dV _ _⟩))))))))))
   ·exact Br.F (ae.bu (b:=3) (Br.F (ae.bu (b:=4) (Br.F (ae.bu (b:=5) (Br.F (ae.bu (b:=6) (Br.T (DR.of (dV _ _) (get (j:=0) hx (get (j:=1) hy (aa.px (hole _) (pW (op:=6) zD s1 s2) λw N2 hD=>⟨dV _ _,Me w N2 _ hD λ_=>dV _ _⟩))))))))))))
   ·exact Br.F (ae.bu (b:=3) (Br.F (ae.bu (b:=4) (Br.F (ae.bu (b:=5) (Br.F (ae.bu (b:=6) (Br.F (ae.bu (b:=7) (Br.T (DR.of (dV _ _) (get (j:=0) hx (get (j:=1) hy (aa.px (hole _) (pW (op:=14) zD s1 s2) λw N2 hD=>⟨dV _ _,Me w N2 _ hD λ_=>dV _ _⟩))))))))))))))
   ·exact Br.F (ae.bu (b:=3) (Br.F (ae.bu (b:=4) (Br.F (ae.bu (b:=5) (Br.F (ae.bu (b:=6) (Br.F (ae.bu (b:=7) (Br.F (ae.bu (b:=8) (Br.T (DR.of (dV _ _) (get (j:=0) hx (get (j:=1) hy (aa.px (hole _) (pW (op:=11) zD s1 s2) λw N2 hD=>⟨dV _ _,Me w N2 _ hD λ_=>dV _ _⟩))))))))))))))))
   exact Br.F (ae.bu (b:=3) (Br.F (ae.bu (b:=4) (Br.F (ae.bu (b:=5) (Br.F (ae.bu (b:=6) (Br.F (ae.bu (b:=7) (Br.F (ae.bu (b:=8) (Br.F (ae.bu (b:=9) (Br.T (DR.of (dV _ _) (get (j:=0) hx (get (j:=1) hy (aa.px (hole _) (pW (op:=9) zD s1 s2) λw N2 hD=>⟨dV _ _,Me w N2 _ hD λ_=>dV _ _⟩))))))))))))))))))
  |ite a b' d=>
   obtain⟨x,hx⟩:∃x,rs[0]? =some x:=⟨_,xab (by rw[tB,mg];show 0<3;decide)⟩;obtain⟨y,hy⟩:∃y,rs[1]? =some y:=⟨_,xab (by rw[tB,mg];show 1<3;decide)⟩;obtain⟨z,hz⟩:∃z,rs[2]? =some z:=⟨_,xab (by rw[tB,mg];show 2<3;decide)⟩;have s1:=Aa 0 x a hx rfl;have s2:=Aa 1 y b' hy rfl;have s3:=Aa 2 z d hz rfl;dsimp only[Tr.kd,Tr.vl]at LN⊢;exact Br.F (ae.bu (b:=3) (Br.F (ae.bu (b:=4) (Br.F (ae.bu (b:=5) (Br.F (ae.bu (b:=6) (Br.F (ae.bu (b:=7) (Br.F (ae.bu (b:=8) (Br.F (ae.bu (b:=9) (Br.F (DR.of (dV _ _) (get (j:=0) hx (get (j:=1) hy (get (j:=2) hz (aa.px (hole _) (IJ s1 s2 s3) λw N2 hD=>⟨dV _ _,Me w N2 _ hD λ_=>dV _ _⟩)))))))))))))))))))
 refine ae.bu (b:=1) (Br.dec (λh1=>?_) (λh1=>?_))
 ·rw[show(decide (t.kd=1))=decide (t.kd=1\/t.kd=2)by simp[h1]];exact JE.mk j36
 refine ae.bu (b:=2) ?_;rw[show(decide (t.kd=2))=decide (t.kd=1\/t.kd=2)by simp[h1]];exact JE.mk j36
theorem O0(t:Tr):SI t:=by
 induction t with
 |c k=>exact iX _ λa ha=>by cases ha
 |v k=>exact iX _ λa ha=>by cases ha
 |no a i1=>
  exact iX _ λk hk=>by
   simp only[Tr.kids,xag,xaw,xa1]at hk;subst hk;exact i1
 |bin n a b i1 i2=>
  exact iX _ λk hk=>by
   simp only[Tr.kids,xag,xaw,xa1]at hk;rcases hk with rfl|rfl
   ·exact i1
   exact i2
 |ite a b d i1 i2 i3=>
  exact iX _ λk hk=>by
   simp only[Tr.kids,xag,xaw,xa1]at hk;rcases hk with rfl|rfl|rfl
   ·exact i1
   ·exact i2
   exact i3
theorem Fm.eo.len{p:Nat}{l:List UInt8}{o:List Tok}(h:eo p l o):o.length<=l.length+1:=by
 induction h with
 |fin=>simp
 |blank _ ih=>simp only[xal];omega
 |wrong=>simp
 |tok hb h _ ih=>
  have:=pT h;simp only[xal,xb5]at ih this⊢;omega
theorem Rz{kp:Nat}{K:Kd}{S:Nat->aE.Fn}{ord ah tr:zL}{C:Hp}(hK:cZ kp K S ord ah tr C)(l:List UInt8)(hB:∀s,K.hold s+32769+2^K.n<=65535):
  Fc zQ 34 #[ptr kp,ay l] C (λr H=>(H=C/\∃at_ e,Reads K.n l (.bad at_ e)/\r=.tuple #[u32 0,nI at_,nI e])\/∃t l' x e,Reads K.n l (.ok t l')/\r=.tuple #[u32 x,nI 0,nI e]/\SX kp K S ord ah t.fn t.iI (.tuple #[u32 x,nI e]) H):=by
 refine aK λg=>NJ (ae.aJ (Br.no (aa.eq (kx hK.rep) (aa.fn .here (yJ l K.n C) ?_))));rintro r _ ⟨N,rfl,h|h⟩
 ·obtain⟨t,l',p,hr,rfl,ht⟩:=h;obtain⟨hf,hl⟩:=hr.wt λo ho=>ho.len;refine Ext.mk rfl (Ext.mk rfl (Ext.mk rfl (ae.mF (b:=0) (Br.F ?_))));refine aa.fn .here (Sc t hK ht hf λs=>by have:=hB s;omega) ?_;rintro w _ ⟨C',rfl,hb⟩;rcases hb with⟨x,K',S',jx,rfl,h1⟩|⟨rfl,h1⟩
  ·exact Ext.mk rfl (Ext.mk rfl (aQ.mk .right (.inr ⟨t,l',x,0,hr,rfl,.inl ⟨x,K',S',jx,rfl,h1⟩⟩)))
  exact Ext.mk rfl (Ext.mk rfl (aQ.mk .right (.inr ⟨t,l',0,9,hr,rfl,.inr ⟨rfl,h1⟩⟩)))
 obtain⟨a,e,hr,rfl⟩:=h;have he:=hr.fit;exact Ext.mk rfl (Ext.mk rfl (Ext.mk rfl (ae.mF (b:=0) (Br.T (aQ.mk .right (.inl ⟨rfl,a,e,hr,rfl⟩)) he))))
theorem Ma{n:Nat}(hn:n<=16)(l:List UInt8)(B:Hp):
  Fc zQ 12 #[nI n,ay l] B (λr H=>∃N,H=N++B/\((∃at_ e,Reads n l (.bad at_ e)/\r=.tuple #[.agg #[nI 0,.slice none 0 0],nI at_,nI e])\/∃t l' v,Reads n l (.ok t l')/\r=.tuple #[v,nI 0,nI 0]/\eH (N++B) v n t.fn)):=by
 refine aK λg=>Oa λb1 _=>ae.cU (b:=0) (Br.F (ae.iF (b:=16) (Br.F (aa.fn .here (yJ l n _) ?_))));rintro r _ ⟨N,rfl,h|h⟩
 ·obtain⟨t,l',p,hr,rfl,ht⟩:=h;obtain⟨hf,hl⟩:=hr.wt λo ho=>ho.len;refine Ext.mk rfl (Ext.mk rfl (Ext.mk rfl (ae.mF (b:=0) (Br.F ?_))));refine aa.pre (ry N B _) (aa.px (.cons .here) (O0 t (ht.mono λy hy=>xad B hy) hf hn) ?_);intro v N2 hT;obtain⟨s,rfl,hs1⟩:=hT.cell;have h1:∀u∈[nI n,s],u.oneCell'=true:=λu hu=>by
   simp only[xag,xaw,xa1]at hu;rcases hu with rfl|rfl
   ·rfl
   exact hs1
  refine St.whole (r:=[nI n,s]) (.head _) rfl rfl h1 (au.whole (r:=[nI n,s]) (.head _) rfl ?_);exact aQ.mk .tail ⟨N2++N,by rw[xai],.inr ⟨t,l',_,hr,rfl,by rw[xai];exact hT⟩⟩
 obtain⟨a,e,hr,rfl⟩:=h;have he:=hr.fit;refine Ext.mk rfl (Ext.mk rfl (Ext.mk rfl (ae.mF (b:=0) (Br.T ?_ he))));refine Build.mk (cs:=[nI 0,.slice none 0 0]) zK (St.whole (r:=[nI 0,.slice none 0 0]) (.aH (.head _) _) rfl rfl (by simp[Value.oneCell']) (au.whole (r:=[nI 0,.slice none 0 0]) (xaa _ (.head _)) rfl ?_));exact aQ.mk (.bY .tail) ⟨[],rfl,.inl ⟨a,e,hr,rfl⟩⟩
end
section
section
variable {bb:Nat} {a buf:zV} {L:Hp} {l:List UInt8} {B:Hp}
abbrev Xj(bb:Nat)(a buf:zV):Nat×Obj:=(bb,.cells #[a,buf] 129 zZ)
theorem Dm(ha:a=.pointer none\/a=bI bb)(h1:buf.oneCell'=true):Fc zQ 122 #[bI bb] [Xj bb a buf] (λ_ H=>H=[Xj bb (bI bb) buf]):=by
 refine aK λg=>Ie (Nil.ptr (Ld.u (.head _) ?_));rcases ha with rfl|rfl
 ·refine⟨.bool true,by simp[fL],?_⟩;refine Br.yes (bA.toUnsafe (t:=129) rfl rfl (.head _) (show 0<2 by decide) zK zK zK (n:=2) zD ?_);refine dD.same rfl func155 zK zK zK zK (λ_=>rfl) ?_;refine bA.PW (u:=129) rfl rfl (.head _) zK zK (n:=2) zK zK (Nil.ptr (.mk ?_));exact St.one (c':=#[bI bb,buf]) (.head _) rfl (show 0<2 by decide) rfl (aQ.mk (.refl _) rfl)
 refine ae.aJ (Br.no (Nil.ptr (Ld.u (.head _) ?_)));exact bA.X0 (te:=129) rfl rfl rfl zK (n:=2) zK (Br.no (aQ.mk (.refl _) rfl))
end
open Fm aE
def agc:List UInt8:=[48,49,50,51,52,53,54,55,56,57,97,98,99,100,101,102,103,104,105,106,107,108,109,110,111,112,113,114,115,116,117,118,119,120,121,122]
theorem Mb{n:Nat}(hn:n<10)(B:Hp):Rd zQ 215 #[nI n] B (· =ay [UInt8.ofNat (48+n)]):=by
 refine aK λg=>wA (ae.cU (b:=10) (Br.T (ae.inc ?_)));refine bA.mM (l:=agc) (i:=n) (j:=n+1) rfl zK rfl (.inr ⟨_,.i64,rfl,rfl⟩) (.inr ⟨_,.i64,rfl,rfl⟩) (Nat.le_succ _) (by show n+1<=36;omega) (bE.mk (.refl _) ?_);have:n=0\/n=1\/n=2\/n=3\/n=4\/n=5\/n=6\/n=7\/n=8\/n=9:=by omega
 rcases this with rfl|rfl|rfl|rfl|rfl|rfl|rfl|rfl|rfl|rfl<;>rfl
end
section
open Fm Sw
def dg(k:Nat):UInt8:=UInt8.ofNat (48+k)
theorem RS{k:Nat}(h:k<10):(dg k).toNat=48+k:=by
 unfold dg;rw[xdN,xa3 (by show 48+k<256;omega)]
def dec(n:Nat):List UInt8:=if n<10 then [dg n]else if n<100 then [dg (n/10),dg (n%10)]else if n<1000 then [dg (n/100),dg (n/10%10),dg (n%10)]else [dg (n/1000),dg (n/100%10),dg (n/10%10),dg (n%10)]
def Mv:List UInt8:=[48,48,48,49,48,50,48,51,48,52,48,53,48,54,48,55,48,56,48,57,49,48,49,49,49,50,49,51,49,52,49,53,49,54,49,55,49,56,49,57,50,48,50,49,50,50,50,51,50,52,50,53,50,54,50,55,50,56,50,57,51,48,51,49,51,50,51,51,51,52,51,53,51,54,51,55,51,56,51,57,52,48,52,49,52,50,52,51,52,52,52,53,52,54,52,55,52,56,52,57,53,48,53,49,53,50,53,51,53,52,53,53,53,54,53,55,53,56,53,57,54,48,54,49,54,50,54,51,54,52,54,53,54,54,54,55,54,56,54,57,55,48,55,49,55,50,55,51,55,52,55,53,55,54,55,55,55,56,55,57,56,48,56,49,56,50,56,51,56,52,56,53,56,54,56,55,56,56,56,57,57,48,57,49,57,50,57,51,57,52,57,53,57,54,57,55,57,56,57,57]
def pwL:zL:=[1,10,100,1000,10000,100000,1000000,10000000,100000000,1000000000,10000000000,100000000000,1000000000000,10000000000000,100000000000000,1000000000000000,10000000000000000,100000000000000000,1000000000000000000,10000000000000000000]
def powC:Array zV:=(pwL.map λ(x:Nat)=>Value.int .u64 (x:Int)).toArray
def Uq(n:Nat):Nat:=if n<1000 then 3 else 4
theorem YZ:(List.range 100).all (λk=>Mv[2*k]? ==some (dg (k/10)) &&Mv[2*k+1]? ==some (dg (k%10)) && (Mv.take (2*k+2)).drop (2*k)==[dg (k/10),dg (k%10)])=true:=by decide+kernel
theorem JD{k:Nat}(h:k<100):Mv[2*k]? =some (dg (k/10))/\Mv[2*k+1]? =some (dg (k%10))/\(Mv.take (2*k+2)).drop (2*k)=[dg (k/10),dg (k%10)]:=by
 have:=xcr.1 YZ k (xaJ.2 h);simp only[xaB,xcY]at this;exact⟨this.1.1,this.1.2,this.2⟩
theorem LF{n r:Nat}(h1:100<=n)(h2:n<10000)(h:qV n r):7<=r/\r<=14:=by
 have h6:=(h.gt (n:=6)).2 (by show 64<=n;omega);have YQ:¬14<r:=λh'=>by
  have:16384<=n:=(h.gt (n:=14)).1 h';omega
 omega
theorem Up{n:Nat}(h1:100<=n)(h2:n<10000){B:Hp}{T:TypeId}{fz:Nat×Nat}(hG:(1,Obj.cells powC T fz)∈B):Rd zQ 216 #[.int .u64 (n:Int)] B (· =nI (Uq n)):=by
 refine aK λg=>GN (aa.rq (BT zO B) ?_);rintro _ ⟨r,hr,rfl⟩;have hr7:7<=r/\r<=14:=LF h1 h2 hr;refine aa.eq (v:=nI (r*78913/262144)) (B:=B) (aK λg=>Gp (ae.ob (b:=78913) (by simp only[aU];omega) (ae.gk (b:=18) (by simp only[aU];omega) (bE.mk (.refl _) ?_)))) ?_
 ·rw[xaR]
 have fin:∀L d:Nat,powC[0+L*1]? =some (.int .u64 (d:Int))->L<5->L+(if d<=n then 1 else 0)=Uq n->fy 20 1 (.pointer (some ⟨1,0,none⟩)) (nI L) λv5=>
   Ld B v5 λv6=>ae .num .geq (.int .u64 (n:Int)) v6 λv7=>
   aa zQ g 258 #[v7] B (λv8 H9=>ae .num .add (nI L) v8 λv10=>aQ (λv H=>H=B/\(λx=>x=nI (Uq n)) v) (.returned v10) H9) (cA (aQ λv H=>H=B/\(λx=>x=nI (Uq n)) v)):=λL d hL h5 he=>by
  refine fy.nat zO (Ld.mk hG hL (ae.mh ?_));refine aa.eq (v:=nI (if d<=n then 1 else 0)) (B:=B) (aK λg=>Gn (Br.dec (λh=>bE.mk (.refl _) (by rw[xae h];rfl)) (λh=>bE.mk (.refl _) (by rw[xac h];rfl)))) ?_;refine ae.e7 (by simp only[aU];split<;>omega) (bE.mk (.refl _) ?_);rw[he]
 have hL:r*78913/262144=if r<=9 then 2 else if r<=13 then 3 else 4:=by
  have:r=7\/r=8\/r=9\/r=10\/r=11\/r=12\/r=13\/r=14:=by omega
  rcases this with rfl|rfl|rfl|rfl|rfl|rfl|rfl|rfl<;>rfl
 have hb:2^(r-1)<=n/\n<2^r:=⟨hr.2.resolve_left zO,hr.1⟩;rw[hL];by_cases h9:r<=9
 ·rw[xae h9];have:n<2^9:=xa0 hb.2 (xax zD h9);exact fin 2 100 rfl zD (by rw[xae h1];unfold Uq;rw[xae zO])
 rw[xac h9];by_cases h13:r<=13
 ·rw[xae h13];refine fin 3 1000 rfl zD ?_;unfold Uq;by_cases h:n<1000
  ·rw[xac zO,xae h]
  rw[xae zO,xac h]
 rw[xac h13];have:2^13<=n:=xbB (xax zD (show 13<=r-1 by omega)) hb.1;refine fin 4 10000 rfl zD ?_;unfold Uq;rw[xac zO,xac zO]
abbrev z24:Array zV:=#[.int .u8 0,.int .u8 0,.int .u8 0,.int .u8 0,.int .u8 0,.int .u8 0,.int .u8 0,.int .u8 0,.int .u8 0,.int .u8 0,.int .u8 0,.int .u8 0,.int .u8 0,.int .u8 0,.int .u8 0,.int .u8 0,.int .u8 0,.int .u8 0,.int .u8 0,.int .u8 0,.int .u8 0,.int .u8 0,.int .u8 0,.int .u8 0]
theorem YX{n b:Nat}{T:TypeId}(h1:100<=n)(h2:n<1000):Fc zQ 217 #[.slice (some ⟨b,1,none⟩) 3 23,.int .u64 (n:Int)] [(b,Obj.cells z24 T zZ)]
  (λ_ H=>H=[(b,Obj.cells #[.int .u8 0,.int .u8 ((dg (n/100)).toNat:Int),.int .u8 ((dg (n%100/10)).toNat:Int),.int .u8 ((dg (n%100%10)).toNat:Int),.int .u8 0,.int .u8 0,.int .u8 0,.int .u8 0,.int .u8 0,.int .u8 0,.int .u8 0,.int .u8 0,.int .u8 0,.int .u8 0,.int .u8 0,.int .u8 0,.int .u8 0,.int .u8 0,.int .u8 0,.int .u8 0,.int .u8 0,.int .u8 0,.int .u8 0,.int .u8 0] T zZ)]):=by
 obtain⟨d1,d2,_⟩:=JD (k:=n%100) zO;refine aK λg=>wz (aG.mk ?_);refine⟨λvs H=>vs=[.int .u64 (n:Int),nI 3]/\H=[(b,Obj.cells z24 T zZ)],λ_ _=>0,JE.mk ⟨rfl,rfl⟩,?_⟩;rintro w6 w7 H ⟨⟨⟩,rfl⟩ gs;refine ae.mh (a:=3) (b:=8) (Br.F (aM.nat (by simp only[aU];omega) λJ64 xp=>?_));refine ae.mh (a:=3) (b:=4) (Br.F (JE.mk (xp _ _ _ λ_=>?_)));intro J69 h69;refine ae.mh (a:=3) (b:=2) (Br.T (ae.K8 (b:=100) zD (ae.ob (b:=2) (by simp only[aU];omega) (ae.tI (b:=100) (by simp only[aU];omega) zD ?_))));rw[xbI (n%100) 2];refine DR.of (R:=[]) .tail (ae.ir (a:=3) (b:=1) zD zD (ae.ir (a:=3) (b:=2) zD zD (ae.e7 (b:=1) (by simp only[aU];omega) ?_)));refine bR.of (l:=Mv) d2 (bR.of (l:=Mv) d1 (ai.nat (j:=2) zD (St.one (c':=#[.int .u8 0,.int .u8 0,.int .u8 0,.int .u8 ((dg (n%100%10)).toNat:Int),.int .u8 0,.int .u8 0,.int .u8 0,.int .u8 0,.int .u8 0,.int .u8 0,.int .u8 0,.int .u8 0,.int .u8 0,.int .u8 0,.int .u8 0,.int .u8 0,.int .u8 0,.int .u8 0,.int .u8 0,.int .u8 0,.int .u8 0,.int .u8 0,.int .u8 0,.int .u8 0]) (.head _) rfl (show 3<24 by decide) rfl ?_)));refine⟨.tail,?_⟩;refine ai.nat (j:=1) zD (St.one (c':=#[.int .u8 0,.int .u8 0,.int .u8 ((dg (n%100/10)).toNat:Int),.int .u8 ((dg (n%100%10)).toNat:Int),.int .u8 0,.int .u8 0,.int .u8 0,.int .u8 0,.int .u8 0,.int .u8 0,.int .u8 0,.int .u8 0,.int .u8 0,.int .u8 0,.int .u8 0,.int .u8 0,.int .u8 0,.int .u8 0,.int .u8 0,.int .u8 0,.int .u8 0,.int .u8 0,.int .u8 0,.int .u8 0]) (.head _) rfl (show 2<24 by decide) rfl ?_);refine ae.ir (a:=3) (b:=2) zD zD (JE.mk (h69 _ _ _ λ_=>?_));refine ae.iF (a:=1) (b:=0) (Br.T (ae.e7 (a:=48) (by simp only[aU];omega) (aM.nat (by simp only[aU];omega) ?_)));have e:((48+n/100:Nat):Int)=((dg (n/100)).toNat:Int):=by rw[RS zO]
 rw[e];refine ai.nat (j:=0) zD (St.one (c':=#[.int .u8 0,.int .u8 ((dg (n/100)).toNat:Int),.int .u8 ((dg (n%100/10)).toNat:Int),.int .u8 ((dg (n%100%10)).toNat:Int),.int .u8 0,.int .u8 0,.int .u8 0,.int .u8 0,.int .u8 0,.int .u8 0,.int .u8 0,.int .u8 0,.int .u8 0,.int .u8 0,.int .u8 0,.int .u8 0,.int .u8 0,.int .u8 0,.int .u8 0,.int .u8 0,.int .u8 0,.int .u8 0,.int .u8 0,.int .u8 0]) (.head _) rfl (show 1<24 by decide) rfl ?_);exact aQ.mk (.refl _) rfl
theorem YW{n b:Nat}{T:TypeId}(h1:1000<=n)(h2:n<10000):Fc zQ 217 #[.slice (some ⟨b,1,none⟩) 4 23,.int .u64 (n:Int)] [(b,Obj.cells z24 T zZ)]
  (λ_ H=>H=[(b,Obj.cells #[.int .u8 0,.int .u8 ((dg (n/100/10)).toNat:Int),.int .u8 ((dg (n/100%10)).toNat:Int),.int .u8 ((dg (n%100/10)).toNat:Int),.int .u8 ((dg (n%100%10)).toNat:Int),.int .u8 0,.int .u8 0,.int .u8 0,.int .u8 0,.int .u8 0,.int .u8 0,.int .u8 0,.int .u8 0,.int .u8 0,.int .u8 0,.int .u8 0,.int .u8 0,.int .u8 0,.int .u8 0,.int .u8 0,.int .u8 0,.int .u8 0,.int .u8 0,.int .u8 0] T zZ)]):=by
 obtain⟨d1,d2,_⟩:=JD (k:=n%100) zO;obtain⟨d3,d4,_⟩:=JD (k:=n/100) zO;refine aK λg=>wz (aG.mk ?_);refine⟨λvs H=>vs=[.int .u64 (n:Int),nI 4]/\H=[(b,Obj.cells z24 T zZ)],λ_ _=>0,JE.mk ⟨rfl,rfl⟩,?_⟩;rintro w6 w7 H ⟨⟨⟩,rfl⟩ gs;refine ae.mh (a:=4) (b:=8) (Br.F (aM.nat (by simp only[aU];omega) λJ64 xp=>?_));refine ae.mh (a:=4) (b:=4) (Br.T (ae.K8 (b:=10000) zD (ae.tI (b:=10000) (by simp only[aU];omega) zD ?_)));rw[xa3 h2,xct h2];refine ae.tI (b:=100) (by simp only[aU];omega) zD (ae.ob (b:=2) (by simp only[aU];omega) (ae.K8 (b:=100) zD (ae.ob (b:=2) (by simp only[aU];omega) ?_)));rw[xbI (n%100) 2,xbI (n/100) 2];refine DR.of (R:=[]) .tail (ae.ir (a:=4) (b:=1) zD zD (ae.ir (a:=4) (b:=2) zD zD (ae.e7 (b:=1) (by simp only[aU];omega) ?_)));refine bR.of (l:=Mv) d2 (bR.of (l:=Mv) d1 (ai.nat (j:=3) zD (St.one (c':=#[.int .u8 0,.int .u8 0,.int .u8 0,.int .u8 0,.int .u8 ((dg (n%100%10)).toNat:Int),.int .u8 0,.int .u8 0,.int .u8 0,.int .u8 0,.int .u8 0,.int .u8 0,.int .u8 0,.int .u8 0,.int .u8 0,.int .u8 0,.int .u8 0,.int .u8 0,.int .u8 0,.int .u8 0,.int .u8 0,.int .u8 0,.int .u8 0,.int .u8 0,.int .u8 0]) (.head _) rfl (show 4<24 by decide) rfl ?_)));refine⟨.tail,?_⟩;refine ai.nat (j:=2) zD (St.one (c':=#[.int .u8 0,.int .u8 0,.int .u8 0,.int .u8 ((dg (n%100/10)).toNat:Int),.int .u8 ((dg (n%100%10)).toNat:Int),.int .u8 0,.int .u8 0,.int .u8 0,.int .u8 0,.int .u8 0,.int .u8 0,.int .u8 0,.int .u8 0,.int .u8 0,.int .u8 0,.int .u8 0,.int .u8 0,.int .u8 0,.int .u8 0,.int .u8 0,.int .u8 0,.int .u8 0,.int .u8 0,.int .u8 0]) (.head _) rfl (show 3<24 by decide) rfl ?_);refine DR.of (R:=[]) .tail (ae.ir (a:=4) (b:=3) zD zD (ae.ir (a:=4) (b:=4) zD zD (ae.e7 (b:=1) (by simp only[aU];omega) ?_)));refine bR.of (l:=Mv) d4 (bR.of (l:=Mv) d3 (ai.nat (j:=1) zD (St.one (c':=#[.int .u8 0,.int .u8 0,.int .u8 ((dg (n/100%10)).toNat:Int),.int .u8 ((dg (n%100/10)).toNat:Int),.int .u8 ((dg (n%100%10)).toNat:Int),.int .u8 0,.int .u8 0,.int .u8 0,.int .u8 0,.int .u8 0,.int .u8 0,.int .u8 0,.int .u8 0,.int .u8 0,.int .u8 0,.int .u8 0,.int .u8 0,.int .u8 0,.int .u8 0,.int .u8 0,.int .u8 0,.int .u8 0,.int .u8 0,.int .u8 0]) (.head _) rfl (show 2<24 by decide) rfl ?_)));refine⟨.tail,?_⟩;refine ai.nat (j:=0) zD (St.one (c':=#[.int .u8 0,.int .u8 ((dg (n/100/10)).toNat:Int),.int .u8 ((dg (n/100%10)).toNat:Int),.int .u8 ((dg (n%100/10)).toNat:Int),.int .u8 ((dg (n%100%10)).toNat:Int),.int .u8 0,.int .u8 0,.int .u8 0,.int .u8 0,.int .u8 0,.int .u8 0,.int .u8 0,.int .u8 0,.int .u8 0,.int .u8 0,.int .u8 0,.int .u8 0,.int .u8 0,.int .u8 0,.int .u8 0,.int .u8 0,.int .u8 0,.int .u8 0,.int .u8 0]) (.head _) rfl (show 1<24 by decide) rfl ?_);refine ae.ir (a:=4) (b:=4) zD zD (JE.mk (xp _ _ _ λ_=>?_));intro J69 h69;refine ae.mh (a:=0) (b:=2) (Br.F (JE.mk (h69 _ _ _ λ_=>?_)));exact ae.iF (a:=0) (b:=0) (Br.F (aQ.mk (.refl _) rfl))
theorem yM{n:Nat}(hn:n<100)(B:Hp):Rd zQ 215 #[nI n] B (· =ay (dec n)):=by
 by_cases h10:n<10
 ·refine Fc.mono (Mb h10 B) ?_;rintro v H ⟨e,rfl⟩;refine⟨e,?_⟩;unfold dec;rw[xae h10];rfl
 refine aK λg=>wA (ae.cU (b:=10) (Br.F (ae.ob (b:=2) (by simp only[aU];omega) (ae.ob (b:=2) (by simp only[aU];omega) (ae.e7 (b:=2) (by simp only[aU];omega) ?_)))));rw[xbI n 2];refine bA.mM (l:=Mv) (i:=2*n) (j:=2*n+2) rfl zK rfl (.inr ⟨_,.i64,rfl,rfl⟩) (.inr ⟨_,.i64,rfl,rfl⟩) zO (by show 2*n+2<=200;omega) (bE.mk (.refl _) ?_);rw[(JD hn).2.2];unfold dec;rw[xac h10,xae hn]
theorem RO{n:Nat}(hn:n<100)(B:Hp):Rd zQ 108 #[.int .u64 (n:Int)] B (· =ay (dec n)):=by
 refine aK λg=>Iq (aa.eq (v:=ay (dec n)) (B:=B) (aK λg=>HN (aa.eq (v:=ay (dec n)) (B:=B) (aK λg=>Hr ?_) (bE.mk (.refl _) rfl))) (bE.mk (.refl _) rfl));refine ae.bu (a:=10) (b:=10) (Br.T (ae.cU (b:=100) (Br.T (aM.nat (by simp only[aU];omega) (aa.eq (yM hn B) (bE.mk (.refl _) rfl))))))
theorem nq{n:Nat}(hn:n<10000){B:Hp}{T:TypeId}{fz:Nat×Nat}(hG:(1,Obj.cells powC T fz)∈B):Rd zQ 110 #[nI n] B (· =ay (dec n)):=by
 refine aK λg=>Ip (aa.eq (v:=ay (dec n)) (B:=B) (aK λg=>HM (aa.eq (v:=ay (dec n)) (B:=B) (aK λg=>Hq ?_) (bE.mk (.refl _) rfl))) (bE.mk (.refl _) rfl));refine ae.bu (a:=10) (b:=10) (Br.T (ae.AR (a:=0) (cr.and (decide (n<100)) (λ_=>ae.cU (b:=100) ⟨rfl,rfl⟩) rfl λ_=>?_)));rw[xav (xaA n),xcv];refine Br.dec (λh=>aa.eq (yM h B) (bE.mk (.refl _) rfl)) (λYS=>?_);intro b8 _;refine aM.nat (by simp only[aU];omega) λJ11 h11=>ae.cU (b:=0) (Br.F (JE.mk (h11 _ _ λ_=>?_)));refine aa.eq (Up zO hn (.tail _ hG)) ?_;by_cases h3:n<1000
 ·rw[show Uq n=3 from xae h3];refine ae.e7 (a:=1) (b:=3) zD (bA.AG (e:=5) (i:=1) (j:=4) (n:=24) rfl zK zK rfl (.inr ⟨_,.i64,rfl,rfl⟩) (.inr ⟨_,.i64,rfl,rfl⟩) zD zD zD ?_);refine aa.fn (.left (C:=[_])) (YX zO h3) ?_;rintro _ _ rfl;refine ae.cU (b:=0) (Br.F (ae.e7 (a:=1) (b:=3) zD (bA.AG (e:=5) (i:=1) (j:=4) (n:=24) rfl zK zK rfl (.inr ⟨_,.i64,rfl,rfl⟩) (.inr ⟨_,.i64,rfl,rfl⟩) zD zD zD ?_)));refine dZ.cut (l:=dec n) (.head _) ?_ zD (λj u hu=>?_) (bE.mk .tail rfl)
  ·unfold dec;rw[xac zO,xac YS,xae h3];rfl
  have ed:dec n=[dg (n/100),dg (n%100/10),dg (n%100%10)]:=by
   unfold dec;rw[xac zO,xac YS,xae h3,show n/10%10=n%100/10 by omega,show n%100%10=n%10 by omega]
  rw[ed]at hu;rcases j with _|_|_|j
  ·cases hu;rfl
  ·cases hu;rfl
  ·cases hu;rfl
  simp at hu
 rw[show Uq n=4 from xac h3];refine ae.e7 (a:=1) (b:=4) zD (bA.AG (e:=5) (i:=1) (j:=5) (n:=24) rfl zK zK rfl (.inr ⟨_,.i64,rfl,rfl⟩) (.inr ⟨_,.i64,rfl,rfl⟩) zD zD zD ?_);refine aa.fn (.left (C:=[_])) (YW zO hn) ?_;rintro _ _ rfl;refine ae.cU (b:=0) (Br.F (ae.e7 (a:=1) (b:=4) zD (bA.AG (e:=5) (i:=1) (j:=5) (n:=24) rfl zK zK rfl (.inr ⟨_,.i64,rfl,rfl⟩) (.inr ⟨_,.i64,rfl,rfl⟩) zD zD zD ?_)));have ed:dec n=[dg (n/100/10),dg (n/100%10),dg (n%100/10),dg (n%100%10)]:=by
  unfold dec;rw[xac zO,xac YS,xac h3,show n/10%10=n%100/10 by omega,show n%100%10=n%10 by omega,show n/1000=n/100/10 by omega]
 refine dZ.cut (l:=dec n) (.head _) (by rw[ed];rfl) zD (λj u hu=>?_) (bE.mk .tail rfl);rw[ed]at hu;rcases j with _|_|_|_|j
 ·cases hu;rfl
 ·cases hu;rfl
 ·cases hu;rfl
 ·cases hu;rfl
 simp at hu
end
end Go.Proofs
namespace Go.Sx
open Go
section
variable {P:Program} {g:Gh} {H:Hp} {K:zV->Hp->Prop} {KP:List PanicEntry->Hp->Prop}
theorem bA.acI{o:Oper}{ρ:Operand->zV}{k:zV->Prop}{x:Operand}{t e:TypeId}{a:Option Addr}{n c:Nat}(ho:o.op=.call ⟨.builtin .cap,#[x],#[t]⟩)(ht:P.underlying t=some (.slice e))(hx:ρ x=.slice a n c)(hk:k (.int .i64 (c:Int))):bA P g o ρ H k:=by
 refine⟨_,λw _=>?_,hk⟩;have e:execOp ρ o=(do pure (.value (<-Builtin.cap_ #[t] o.type #[ρ x]))):=by simp[execOp,ho,resolve,invoke,builtin,bind,Sem.bind];rfl
 rw[e,hx];simp[Builtin.cap_,run_underlying ht,goInt]
theorem bA.aek{o:Oper}{ρ:Operand->zV}{k:zV->Prop}{x y z:Operand}{ts:Array TypeId}{a b c:Nat}{kd:IntKind}(ho:o.op=.call ⟨.builtin .min,#[x,y,z],ts⟩)(hx:ρ x=.int kd (a:Int))(hy:ρ y=.int kd (b:Int))(hz:ρ z=.int kd (c:Int))(hk:k (.int kd ((min (min a b) c:Nat):Int))):bA P g o ρ H k:=by
 refine⟨_,λw _=>?_,hk⟩;have e:execOp ρ o=(do pure (.value (<-Builtin.min_ ts o.type #[ρ x,ρ y,ρ z]))):=by simp[execOp,ho,resolve,invoke,builtin,bind,Sem.bind];rfl
 rw[e,hx,hy,hz];have m2:∀a b:Nat,(Builtin.min2 (.int kd (a:Int)) (.int kd (b:Int))).run P w=.ok (.int kd ((min a b:Nat):Int)) w:=λa b=>by
  by_cases h:b<a
  ·have h2:(b:Int)<(a:Int):=by omega
   simp[Builtin.min2,h2,xdj (xcs h)]
  have h2:¬(b:Int)<(a:Int):=by omega
  simp[Builtin.min2,h2,xcc (xcW h)]
 simp only[Builtin.min_,List.foldlM,Sem.run_bind,m2,Result.andThen_ok,Sem.run_pure]
theorem dD.acG{o:Oper}{ρ:Operand->zV}{x y:Operand}{t t' elem b c:Nat}(ho:o.op=.call ⟨.builtin .copy,#[x,y],#[t,t']⟩)(ht:P.underlying t=some (.slice elem))(hz:cC P elem=some 1)
 (hx:ρ x=.slice (some ⟨b,0,none⟩) 0 c)(hy:ρ y=.slice none 0 0)(hk:K (.int .i64 0) H):dD P g o ρ H K KP:=by
 refine dD.ofValue (s:=Builtin.copy_ #[t,t'] o.type #[ρ x,ρ y]) (by simp[execOp,ho,resolve,invoke,builtin,bind,Sem.bind];rfl) λw hw=>?_;obtain⟨i,hi,hin⟩:=aV hz;refine⟨_,w,H,?_,hw,hk⟩;rw[hx,hy];simp[Builtin.copy_,run_underlying ht,Builtin.lenOf,run_sizeOf hi,hin,goInt,Builtin.firstCells,storeCells]
theorem dD.makeNoZero{o:Oper}{ρ:Operand->zV}{x:Operand}{f t e:TypeId}{fn:Func}{ts ps:Array TypeId}{n:Nat}(ho:o.op=.call ⟨.value (.func f),#[x],ts⟩)(hf:P.funcs[f]? =some fn)(hname:(fn.name== "runtime.NumGoroutine")=false)
 (hb:fn.body.isNone=true)(hn:Extern.findNext fn=none)(he:Extern.find fn=some (Extern.BytealgMakeNoZero.makeNoZero ps #[t]))(ht:P.underlying t=some (.slice e))(hr:∀f,ρ (.func f)=.func (.func f) #[] #[])(hx:ρ x=.int .i64 (n:Int))(hn':n<=1099511627776)
 (hk:∀b cs,n<=cs.size->K (.slice (some ⟨b,0,none⟩) n cs.size) ((b,.cells cs e zZ)::H)):dD P g o ρ H K KP:=by
 intro w hw;have e1:=run_callFunc_extern (P:=P) hf hname hb hn he #[ρ x] w;rw[hx]at e1;obtain⟨cs,hrun,h1,_⟩:=Lib.run_makeNoZero (P:=P) w ps t e ht n zO;rw[hrun]at e1;have:(execOp ρ o).run P w=.ok (.value (.slice (some ⟨w.heap.size,0,none⟩) n cs.size)) (w.drew.drew.alloc (.cells cs e)):=by
  simp only[execOp,ho,resolve,hr];simpa[Deferred.ofValue,invoke,hx]using e1
 rw[this];exact⟨_,hw.drew.drew.alloc _,hk _ cs h1⟩
theorem dD.Sv{o:Oper}{ρ:Operand->zV}{x y:Operand}{t u e:TypeId}{b n c:Nat}{fz:Nat×Nat}{l s:List UInt8}{aC:List (List zV)}{H':Hp}(ho:o.op=.call ⟨.builtin .append,#[x,y],#[t,u]⟩)
 (ht:P.underlying t=some (.slice e))(hu:P.underlying u=some .string)(hi:(P.info? e).map (λi=>(i.size,i.bytes,i.zero))=some (1,1,some (.int .u8 0)))
 (hx:ρ x=.slice (some ⟨b,0,none⟩) n c)(hy:ρ y=ay s)(hn:n=l.length)(hc:c=l.length+aC.length)(hj:∀r∈aC,r.length=1)(hfz:fz.2<=l.length)(hr:s.length<=aC.length)
 (WD:cu b (.cells (rows (dw l++aC)) e fz) (.cells (rows (dw (l++s)++aC.drop s.length)) e fz) H H')(hk:K (.slice (some ⟨b,0,none⟩) (n+s.length) c) H'):dD P g o ρ H K KP:=by
 obtain⟨i,hi,e0⟩:=xdv.1 hi;obtain⟨h1,_,_⟩:i.size=1/\i.bytes=1/\i.zero=some (.int .u8 0):=by simpa using e0
 have sz:(⟨s.toArray⟩:ByteArray).size=s.length:=by simp[ByteArray.size]
 refine dD.ofValue (s:=Builtin.append_ #[t,u] o.type #[.slice (some ⟨b,0,none⟩) n c,ay s]) (by simp[execOp,ho,hx,hy,resolve,invoke,builtin,bind,Sem.bind];rfl) λw hw=>?_;have hm:=WD.mem;have hg:=hw.has _ hm;have Ou:(dw l).length=l.length:=by simp[dw]
 have hbs:(dw s).length=s.length:=by simp[dw]
 have aF:∀r∈dw l++aC,r.length=1:=λr h=>(xao.1 h).elim (vO l r) (hj r);have hsize:(rows (dw l++aC)).size=l.length+aC.length:=by rw[bK aF,xaf,Ou,xbO]
 have hrun:=Lib.run_append_room_stringF (P:=P) w t u o.type e i ht hu hi h1 b n c _ fz hg zO ⟨s.toArray⟩ (by rw[sz];omega) (by rw[sz,hsize];omega);have hcells:((rows (dw l++aC)).toList.take n++Lib.strCells ⟨s.toArray⟩++(rows (dw l++aC)).toList.drop (n+(⟨s.toArray⟩:ByteArray).size)).toArray=rows (dw (l++s)++aC.drop s.length):=by
  have e3:dw (l++s)=dw l++dw s:=by unfold dw;rw[xaF]
  rw[strCells_eq,sz,e3];unfold rows;simp only[xbU];have hfl:=Jy (dw l) (vO l);rw[Ou]at hfl;have e1:((dw l).flatten++aC.flatten).take n=(dw l).flatten:=by rw[hn,<-hfl,xdS]
  have e2:((dw l).flatten++aC.flatten).drop (n+s.length)=(aC.drop s.length).flatten:=by
   rw[hn,<-hfl,xdC,List.drop_of_length_le zO,xbe,show(dw l).flatten.length+s.length-(dw l).flatten.length=s.length by omega]
   conv=>lhs;rw[<-xbr s.length aC,xbU]
   have e4:=Jy (aC.take s.length) λr hr=>hj r (xci hr);rw[xbs,xcc hr]at e4;exact List.drop_left' e4
  rw[e1,e2]
 rw[hcells,sz]at hrun;refine⟨_,_,H',hrun,?_,hk⟩;refine hw.bV WD rfl rfl rfl ?_ λk hk=>?_
 ·unfold World.setRow;simp only at hg;rw[xbx,xae rfl,hg];rfl
 unfold World.setRow;rw[xbx,xac (xbp hk)]
theorem dD.wS{o:Oper}{ρ:Operand->zV}{x y:Operand}{pt it e:TypeId}{b:Nat}{l:List UInt8}{aC:List (List zV)}{fz:Nat×Nat}{H':Hp}(ho:o.op=.call ⟨.builtin .unsafeString,#[x,y],#[pt,it]⟩)
 (hp:P.underlying pt=some (.pointer e))(hc1:P.cellsOf e=1)(hx:ρ x=.pointer (some ⟨b,0,none⟩))(hy:ρ y=.int .i64 (l.length:Int))(hl:l≠[])(hj:∀r∈aC,r.length=1)(h63:l.length<=9223372036854775807)(hfz:fz.2<=l.length)
 (WD:cu b (.cells (rows (dw l++aC)) e fz) (.cells (rows (dw l++aC)) e (0,l.length)) H H')(hk:K (ay l) H'):dD P g o ρ H K KP:=by
 have hl0:l.length≠0:=by simpa using hl
 refine dD.ofValue (s:=Builtin.unsafeString_ #[pt,it] o.type #[.pointer (some ⟨b,0,none⟩),.int .i64 (l.length:Int)]) (by simp[execOp,ho,hx,hy,resolve,invoke,builtin,bind,Sem.bind];rfl) λw hw=>?_;have hm:=WD.mem;have hg:=hw.has _ hm;have aF:∀r∈dw l++aC,r.length=1:=λr hr=>(xao.1 hr).elim (vO l r) (hj r);have hsz:(rows (dw l++aC)).size=l.length+aC.length:=by rw[bK aF,xaf];simp[dw]
 have hr:=Lib.run_unsafeString_row (P:=P) w pt it o.type e hp hc1 b _ (hw.shape hm) l hl (by rw[hsz];omega) h63 (λj u hu=>by
  rw[Addr.add_lit,xaZ,hw.cell hm j];unfold rows;have hb:=yW l;have U6:j<(dw l).flatten.length:=by rw[hb,xau];exact(xah.1 hu).1
  rw[xcp,xbU,xaS U6,hb,xas,hu];rfl)
 refine⟨_,_,H',hr,?_,hk⟩;unfold World.freeze;rw[xac hl0];refine hw.bV WD rfl rfl rfl ?_ λk hk=>?_
 ·show(w.heap.modify b _)[b]? =_;rw[xbx,xae rfl];simp only at hg;rw[hg];obtain⟨lo,hi⟩:=fz;simp only at hfz;simp only[xbj,xaZ];by_cases h:lo=hi
  ·rw[xae (by simpa using h)]
  rw[xac (by simpa using h)];rw[xdj (xaA _),Nat.max_eq_right hfz]
 show(w.heap.modify b _)[k]? =_;rw[xbx,xac (xbp hk)]
end
end Go.Sx
set_option maxRecDepth 100000
namespace Go.Proofs
open Go Go.Sx Tryz
section
open Fm Sw
section
variable {bb c:Nat} {a buf:zV} {l:List UInt8} {B:Hp}
def xE(bb:Nat)(l:List UInt8)(c:Nat)(H:Hp):Prop:=
 ∃(b:Nat) (aC:List (List zV)) (fz:Nat×Nat),H=[Xj bb (bI bb) (.slice (some ⟨b,0,none⟩) l.length c),(b,.cells (rows (dw l++aC)) 5 fz)]/\fz.2<=l.length/\(∀r∈aC,r.length=1)/\c=l.length+aC.length
theorem MD{n:Nat}(hn:0<n/\n<=1000000):Fc zQ 123 #[bI bb,nI n] [Xj bb (bI bb) (.slice none 0 0)] (λ_ H=>∃c,n<=c/\xE bb [] c H):=by
 refine aK λg=>Ic ?_;refine DR.self (Ld.v (.head _) (bA.acI (e:=5) rfl zK rfl (ae.ob (a:=2) (b:=0) zD (ae.e7 (a:=0) (b:=n) (by simp only[aU];omega) (Ld.v (.head _) (aG.mk ?_))))));refine dD.makeNoZero (e:=5) (ps:=#[3]) (t:=34) (n:=0+n) rfl func156 zK zK zK zK zK (λ_=>rfl) rfl zO λb cs hcs=>⟨.tail,?_⟩;refine cR.upto (h:=0) zO (Ld.v (.tail _ (.head _)) ?_);refine dD.acG (elem:=5) rfl zK zK rfl rfl ?_;refine Nil.ptr (.mk (St.one (c':=#[bI bb,.slice (some ⟨b,0,none⟩) 0 cs.size]) (.tail (.head _)) rfl (show 1<2 by decide) rfl ?_));obtain⟨js,e1,h1⟩:=Wv cs.toList;have hc:rows js=cs:=by unfold rows;rw[e1,xcI]
 have hl:js.length=cs.size:=by rw[<-Jy js h1,e1,xb7]
 refine aQ.mk .swap ⟨cs.size,by omega,b,js,(0,0),?_,xaA _,h1,by rw[hl];simp⟩;show [Xj bb (bI bb) (.slice (some ⟨b,0,none⟩) 0 cs.size),(b,Obj.cells cs 5 zZ)]=[Xj bb (bI bb) (.slice (some ⟨b,0,none⟩) 0 cs.size),(b,Obj.cells (rows ([]++js)) 5 zZ)];rw[xbe,hc]
theorem Dk{n:Nat}(hn:0<n/\n<=1000000):Fc zQ 71 #[bI bb,nI n] [Xj bb (.pointer none) (.slice none 0 0)] (λ_ H=>∃c,n<=c/\xE bb [] c H):=by
 refine aK λg=>Ni (aa.fn (.left (C:=[_])) (Dm (.inl rfl) rfl) ?_);rintro _ _ rfl;intro J3 h3;refine ae.cU (b:=0) (Br.F (JE.mk (h3 _ λ_=>?_)));refine Ld.v (.head _) (bA.acI (e:=5) rfl zK rfl (Ld.v (.head _) (aG.mk (ae.ir (a:=0) (b:=0) zD zD (ae.cU (a:=0) (Br.T ?_ hn.1))))));refine aa.fn (.left (C:=[Xj bb (bI bb) (.slice none 0 0)])) (MD hn) ?_;intro _ H h;rw[xaG];exact aQ.mk (.refl _) h
theorem kJ(h:xE bb l c B)(s:List UInt8)(hr:l.length+s.length<=c):Fc zQ 72 #[bI bb,ay s] B (λ_ H=>xE bb (l++s) c H):=by
 obtain⟨b,aC,fz,rfl,hfz,hj,hc⟩:=h;refine aK λg=>Nh (aa.fn (.left (C:=[_])) (Dm (.inr rfl) rfl) ?_);rintro _ _ rfl;refine Nil.ptr (Ld.u (.head _) ?_);refine dD.Sv (e:=5) rfl zK zK zK rfl rfl rfl hc hj hfz zO (.tail (.head _)) ?_;refine Nil.ptr (.mk (St.one (c':=#[bI bb,.slice (some ⟨b,0,none⟩) (l.length+s.length) c]) (.head _) rfl (show 1<2 by decide) rfl (aL.of ?_)));refine aQ.mk (.refl _) ⟨b,aC.drop s.length,fz,by rw[xaf],by rw[xaf];omega,λr hr=>hj r (List.mem_of_mem_drop hr),by rw[xaf,xb5];omega⟩
theorem vQ(h:xE bb l c B):Rd zQ 73 #[bI bb] B (· =nI l.length):=by
 obtain⟨b,aC,fz,rfl,_⟩:=h;exact aK λg=>Ng (Nil.ptr (Ld.u (.head _) (aG.mk (bE.mk (.refl _) rfl))))
theorem nE(h:xE bb l c B)(h0:l≠[])(hm:l.length<1099511627776):Fc zQ 74 #[bI bb] B (λv H=>v=ay l/\xE bb l c H):=by
 obtain⟨b,aC,fz,rfl,hfz,hj,hc⟩:=h;have hpos:=xcA.2 h0;refine aK λg=>Nf (DR.of (.jg (.head _)) (Nil.ptr (Ld.u (.head _) (Nil.ptr (Ld.u (.head _) (aG.mk ?_))))));refine dD.KL rfl rfl zO ⟨.jg (.head _),?_⟩;refine dD.wS rfl zK zK (e:=5) (l:=l) (aC:=aC) (fz:=fz) rfl rfl h0 hj zO hfz (.tail (.head _)) ⟨.jg (.head _),?_⟩;exact aQ.mk (.refl _) ⟨rfl,b,aC,(0,l.length),rfl,xak _,hj,hc⟩
end
theorem Us{n:Nat}(hn:n<1000000)(B:Hp):Rd zQ 69 #[.int .u64 ((1:Nat):Int),.int .u64 (n:Int)] B (· =.tuple #[.int .u64 ((0:Nat):Int),.int .u64 (n:Int)]):=by
 refine aK λg=>Nk (Br.no (aa.eq (v:=.tuple #[.int .u64 ((0:Nat):Int),.int .u64 (n:Int)]) (B:=B) (aK λg=>Ih ?_) (Ext.two (bE.mk (.refl _) rfl))));have hl:aU .u64=18446744073709551616:=rfl;have hand:n&&&4294967295=n:=by
  rw[show(4294967295:Nat)=2^32-1 from rfl,xb0,xa3 zO]
 refine ae.fY (b:=4294967295) zO zO (ae.gk zO (ae.fY (b:=4294967295) zO zO (ae.gk zO ?_)));rw[hand,show(1&&&4294967295:Nat)=1 from rfl,show(1>>>32:Nat)=0 from rfl,xaR n 32,xct (show n<2^32 by omega)];refine ae.ob zO (ae.ob zO (ae.gk zO ?_));rw[xdE,xdM,xaR n 32,xct (show n<2^32 by omega)];refine ae.e7 zO (ae.fY (b:=4294967295) zO zO (ae.gk zO (ae.ob zO (ae.e7 (by simp[aU]) (ae.ob zO (ae.e7 (by simp[aU]) (ae.gk (by simp[aU]) (ae.e7 (by simp[aU]) (ae.ob zO ?_)))))))));exact bE.mk (.refl _) zI
def bln:Hp->Nat
 |(_,Obj.cells cs _ _)::_=>match cs[1]? with
  |some (Value.slice _ n _)=>n
  |_=>0
 |_=>0
theorem Sh{bb c:Nat}{l:List UInt8}{C B:Hp}(h:xE bb l c C):bln (C++B)=l.length:=by
 obtain⟨b,aC,fz,rfl,_⟩:=h;rfl
theorem K7{n:Nat}(hn:n<=400)(B:Hp):Fc zQ 31 #[ay [110],nI n] B (λv H=>v=ay (List.replicate n 110)/\H=B):=by
 refine aK λg=>NM (ae.bu (b:=0) (Br.dec (λh=>?_) (λh0=>ae.bu (b:=1) (Br.dec (λh=>?_) (λh1=>?_)))))
 ·subst h;exact aQ.mk (.refl _) ⟨rfl,rfl⟩
 ·subst h;exact aQ.mk (.refl _) ⟨rfl,rfl⟩
 intro J3 h3;refine ae.cU (b:=0) (Br.F (JE.mk (h3 _ λ_=>?_)));refine aL.of (aM.nat (a:=1) zD (aM.nat (by simp only[aU];omega) (aa.eq (Us zO B) (Ext.two ?_))));intro J13 h13;have go:J13 [] B:=by
  refine h13 _ λ_=>?_;refine aM.nat (by simp only[aU];omega) (aL.of (ae.bu (a:=1) (b:=0) (Br.F ?_)));intro J19 h19;have main:J19 [] B:=by
   refine h19 _ λ_=>?_;intro J22 Z4;refine ae.iF (b:=8192) (Br.F (JE.mk (Z4 _ _ λ_=>?_)));intro Tj _;refine aa.fn (.left (C:=[_])) (Dk (n:=n) zO) ?_;rintro _ C ⟨c,hc,hB⟩;refine aa.fn .left (kJ hB [110] zP) ?_;intro _ C1 Xc;rw[xbe]at Xc;refine⟨λvs H=>∃(m:Nat) (C:Hp),vs=[]/\1<=m/\m<=n/\xE Tj (List.replicate m 110) c C/\H=C++B,λ_ H=>n-bln H,JE.mk ⟨1,C1,rfl,xak _,by omega,Xc,rfl⟩,?_⟩;rintro H ⟨m,C2, -,AT,hmn,Vo,rfl⟩ gs;have hml:(List.replicate m (110:UInt8)).length=m:=xbV;have hne:List.replicate m (110:UInt8)≠[]:=by intro e;rw[e]at hml;simp at hml;omega
   refine aa.eh (args:=#[bI Tj]) .left (vQ Vo) ?_;rw[hml];refine ae.cU (Br.dec (λhlt=>?_) (λhge=>?_))
   ·refine aa.eh (args:=#[bI Tj]) .left (vQ Vo) ?_;rw[hml];refine ae.ir (by simp only[aU];omega) hmn (aa.eh (args:=#[bI Tj]) .left (vQ Vo) ?_);rw[hml];refine bA.aek rfl rfl rfl rfl ?_;obtain⟨k,hk⟩:∃k,k=min (min (n-m) m) n:=⟨_,rfl⟩;rw[<-hk];refine aa.fn (args:=#[bI Tj]) .left (nE Vo hne zO) ?_;rintro _ C3 ⟨rfl,wP⟩;refine bA.mM (l:=List.replicate m 110) (i:=0) (j:=k) rfl zK rfl (.inl ⟨rfl,rfl⟩) (.inr ⟨_,.i64,rfl,rfl⟩) (xaA _) zO ?_;rw[List.drop_zero,List.take_replicate,xcc zO];refine aa.fn (args:=#[bI Tj,ay (List.replicate k 110)]) .left (kJ wP _ (by rw[xbV,xbV];omega)) ?_;intro _ C4 hB4;have af8:List.replicate m (110:UInt8)++List.replicate k 110=List.replicate (m+k) 110:=(List.replicate_append_replicate).symm▸rfl;rw[af8]at hB4;refine az.of (.refl _) ⟨m+k,C4,rfl,by omega,by omega,hB4,rfl⟩ ?_;rw[Sh hB4,Sh Vo,xbV,xbV];omega
   have:m=n:=by omega
   subst this;refine aa.fn (args:=#[bI Tj]) .left (nE Vo hne zO) ?_;rintro _ C3 ⟨rfl,wP⟩;exact aQ.mk .right ⟨rfl,rfl⟩
  refine bR.of (l:=[110]) (i:=0) (b:=110) rfl ?_;intro J60 h60;refine ae.bu (a:=110) (b:=32) (Br.F (ae.bu (a:=110) (b:=45) (Br.F (ae.bu (a:=110) (b:=48) (Br.F (ae.bu (a:=110) (b:=61) (Br.F (ae.bu (a:=110) (b:=9) ?_))))))));exact JE.mk (h60 _ _ λ_=>Br.no (JE.mk main))
 refine ae.iF (a:=0) (b:=0) (cr.or false (λ_=>ae.iF (b:=9223372036854775807) ⟨rfl,by rw[xaq zO]⟩) rfl λ_=>Br.no (JE.mk go))
end
section
open Fm Sw
section
variable {v:zV} {B:Hp}
theorem Qi{s0 s1 s2 s3:List UInt8}(hv:Sl 1 B v [[ay s0],[ay s1],[ay s2],[ay s3]])(h0:s0≠[])(hl:s0.length<=100/\s1.length<=100/\s2.length<=100/\s3.length<=100):Rd zQ 113 #[v,ay [32]] B (λr=>∃t,r=ay t):=by
 refine aK λg=>Il (hv.bF (ae.bu (a:=4) (b:=0) (Br.F (ae.bu (a:=4) (b:=1) (Br.F ?_)))));intro J6 h6;have get:∀i:Nat,i<4->∃s:List UInt8,[[ay s0],[ay s1],[ay s2],[ay s3]][i]? =some [ay s]/\s.length<=100:=λi hi=>by
  have:i=0\/i=1\/i=2\/i=3:=by omega
  rcases this with rfl|rfl|rfl|rfl
  ·exact⟨s0,rfl,hl.1⟩
  ·exact⟨s1,rfl,hl.2.1⟩
  ·exact⟨s2,rfl,hl.2.2.1⟩
  exact⟨s3,rfl,hl.2.2.2⟩
 have main:J6 [nI 3] B:=by
  refine h6 _ _ λ_=>hv.bF ?_;refine⟨λvs H=>∃i n:Nat,vs=[nI n,nI i]/\i<=4/\n=3+(([s0,s1,s2,s3].take i).map List.length).sum/\H=B,λvs _=>4-bj vs 1,JE.mk ⟨0,3,rfl,by decide,rfl,rfl⟩,?_⟩;rintro w15 w16 H ⟨i,n,⟨⟩,hi,hn,rfl⟩ gs;have hn4:n<=403:=by
   have:i=0\/i=1\/i=2\/i=3\/i=4:=by omega
   rcases this with rfl|rfl|rfl|rfl|rfl<;>simp at hn<;>omega
  refine ae.cU (b:=4) (Br.dec (λhlt=>?_) (λhge=>?_))
  ·obtain⟨s,hs,Ca⟩:=get i hlt;have hs':[s0,s1,s2,s3][i]? =some s:=by
    have:i=0\/i=1\/i=2\/i=3:=by omega
    rcases this with rfl|rfl|rfl|rfl<;>(simp only[xbY,xdV,xar,xay,xa5,ay,Value.string.injEq,ByteArray.mk.injEq]at hs⊢;simpa using hs)
   refine ai.sl hv hs λp hp=>Ld.at hp (λy hy=>hy) ?_;intro J20 h20;refine aL.of (ae.ir (a:=9223372036854775807) (by simp[aU]) zO (ae.iF (Br.F (JE.mk (h20 _ λ_=>?_)))));refine aL.of (ae.e7 (by simp only[aU];omega) (ae.inc (az.of (.refl _) ⟨i+1,n+s.length,rfl,hlt,?_,rfl⟩ (by simp only[bj];omega))));rw[xbn,hs',hn,xaF,List.sum_append];simp only[xdR,xaM,xcJ,List.sum_cons,List.sum_nil];omega
  have:i=4:=by omega
  subst this;have hs0:=xcA.2 h0;have hnv:n=3+(s0.length+(s1.length+(s2.length+s3.length))):=by simpa using hn
  intro Y9 _;refine aa.fn (.left (C:=[_])) (Dk (n:=n) zO) ?_;rintro _ C ⟨c,hc,hB⟩;refine ai.sl (hv.mono (B':=C++H) λy hy=>xaa _ hy) (i:=0) (r:=[ay s0]) rfl λp hp=>Ld.at hp (λy hy=>hy) ?_;refine aa.fn .left (kJ hB s0 zP) ?_;intro _ C1 Xc;rw[xbe]at Xc;refine cR.tail (hv.mono (B':=H) λy hy=>hy) λv' mr=>mr.bF ?_;refine⟨λvs X=>∃(i:Nat) (l:List UInt8) (C:Hp),vs=[nI i]/\i<=3/\l.length=s0.length+i+(([s1,s2,s3].take i).map List.length).sum/\xE Y9 l c C/\X=C++H,λvs _=>3-bj vs 0,JE.mk ⟨0,s0,C1,rfl,by decide,by simp,Xc,rfl⟩,?_⟩;rintro w45 X ⟨j,l,C2,⟨⟩,hj,jF,Vo,rfl⟩ gs2;refine ae.cU (b:=3) (Br.dec (λhlt=>?_) (λafe=>?_))
  ·have af4:∃s:List UInt8,[[ay s1],[ay s2],[ay s3]][j]? =some [ay s]/\l.length+1+s.length<=n/\s0.length+(j+1)+(([s1,s2,s3].take (j+1)).map List.length).sum=l.length+1+s.length:=by
    have:j=0\/j=1\/j=2:=by omega
    rcases this with rfl|rfl|rfl
    ·exact⟨s1,rfl,by simp at jF;omega,by simp at jF⊢;omega⟩
    ·exact⟨s2,rfl,by simp at jF;omega,by simp at jF⊢;omega⟩
    exact⟨s3,rfl,by simp at jF;omega,by simp at jF⊢;omega⟩
   obtain⟨s,hs,hle,hsum⟩:=af4;refine ai.sl (mr.mono (B':=C2++H) λy hy=>xaa _ hy) hs λp hp=>Ld.at hp (λy hy=>hy) ?_;refine aa.fn .left (kJ Vo [32] zP) ?_;intro _ C3 wP;refine aa.fn .left (kJ wP s zP) ?_;intro _ C4 hB4;exact ae.inc (az.of (.refl _) ⟨j+1,_,C4,rfl,hlt,by rw[hsum];simp;omega,hB4,rfl⟩ (by simp only[bj];omega))
  have:j=3:=by omega
  subst this;have hl3:l.length=s0.length+3+(s1.length+(s2.length+s3.length)):=by simpa using jF
  refine aa.fn (args:=#[bI Y9]) .left (nE Vo (by intro e;rw[e]at hl3;simp at hl3;omega) zO) ?_;rintro _ C3 ⟨rfl,_⟩;exact bE.mk .right ⟨_,rfl⟩
 refine aL.of (ae.iF (a:=1) (b:=0) (Br.T ?_));intro J58 h58;refine aL.of (hv.bF (ae.ir (a:=4) (b:=1) zD zD (ae.tI (a:=9223372036854775807) (b:=3) (by simp[aU]) zD (ae.mh (a:=1) (Br.F (JE.mk (h58 _ λ_=>?_)))))));exact aL.of (hv.bF (ae.ir (a:=4) (b:=1) zD zD (ae.ob (a:=1) (b:=3) zD (ae.e7 (a:=0) (b:=3) zD (JE.mk main)))))
end
end
end Go.Proofs
namespace aE
def Rm.DI(m:Rm)(g:Nat)(ord:zL)(p:Nat)(dn:Bool):Nat->Nat->Nat->Nat->Nat×Nat×Nat
 |0,j,b,q=>(j,b,q)
 |k+1,j,b,q=>
  if m.fit (ax ord (road p j)) (bif dn then j else j-1)=true then
   if(if m.size (ax ord (road p (bif dn then j+1 else j-1)))<b then m.size (ax ord (road p (bif dn then j+1 else j-1)))else b)*g<m.size (ax ord (road p (bif dn then j+1 else j-1)))*100 then
    (bif dn then j+1 else j-1,if m.size (ax ord (road p (bif dn then j+1 else j-1)))<b then m.size (ax ord (road p (bif dn then j+1 else j-1)))else b,if m.size (ax ord (road p (bif dn then j+1 else j-1)))<b then(bif dn then j+1 else j-1)else q)
   else m.DI g ord p dn k (bif dn then j+1 else j-1) (if m.size (ax ord (road p (bif dn then j+1 else j-1)))<b then m.size (ax ord (road p (bif dn then j+1 else j-1)))else b) (if m.size (ax ord (road p (bif dn then j+1 else j-1)))<b then(bif dn then j+1 else j-1)else q)
  else(j,b,q)
def dst(x y:Nat):Nat:=(x-y)+(y-x)
def Rm.rest(m:Rm)(dn:Bool)(j:Nat):Nat:=bif dn then m.n-1-j else j
def Rm.rh(m:Rm)(g:Nat)(ord:zL)(p:Nat):Nat×Nat:=
 let dn:=decide (m.n-1-p<=p)
 let a:=m.DI g ord p dn (m.rest dn p) p (m.size ord) p
 let b:=m.DI g ord p (!dn) (m.rest (!dn) p) p a.2.1 a.2.2
 (b.2.2,dst a.1 p+dst a.1 p+dst b.1 p+if b.2.2≠a.2.2 then dst b.1 b.2.2 else dst b.1 p+dst p b.2.2)
def Rm.cq(m:Rm)(g:Nat)(ord:zL):zL->zL×Nat
 | []=>([],0)
 |v::r=>let p:=ord.idxOf v;let a:=m.rh g ord p;let b:=m.cq g (ax ord (road p a.1)) r;(road p a.1++b.1,a.2+b.2)
structure acT(m:Rm)(ord:zL)(p:Nat)(dn:Bool)(k j b q:Nat)(r:Nat×Nat×Nat):Prop where
 way:bif dn then j<=r.1/\r.1<=j+k else r.1<=j/\j<=r.1+k
 size:r.2.1=m.size (ax ord (road p r.2.2))
 new:(r.2.1=b/\r.2.2=q)\/(r.2.1<b/\bif dn then j<r.2.2/\r.2.2<=r.1 else r.1<=r.2.2/\r.2.2<j)
 fit:∀i,(bif dn then j<=i/\i<r.1 else r.1<i/\i<=j)->m.fit (ax ord (road p i)) (bif dn then i else i-1)=true
theorem Rm.uZ(m:Rm)(g:Nat)(ord:zL)(p:Nat)(dn:Bool):∀k j b q,(dn=false->k<=j)->b=m.size (ax ord (road p q))->acT m ord p dn k j b q (m.DI g ord p dn k j b q)
 |0,j,b,q,hk,hb=>⟨by cases dn<;>simp[DI],hb,.inl ⟨rfl,rfl⟩,λi hi=>by cases dn<;>simp[DI]at hi<;>omega⟩
 |k+1,j,b,q,hk,hb=>by
  rw[DI];by_cases hf:m.fit (ax ord (road p j)) (bif dn then j else j-1)=true
  ·rw[xae hf];obtain⟨J,hJ⟩:∃J,J=bif dn then j+1 else j-1:=⟨_,rfl⟩;rw[<-hJ];obtain⟨s,hs⟩:∃s,s=m.size (ax ord (road p J)):=⟨_,rfl⟩;rw[<-hs];obtain⟨B,hB⟩:∃B,B=if s<b then s else b:=⟨_,rfl⟩
   obtain⟨Q,hQ⟩:∃Q,Q=if s<b then J else q:=⟨_,rfl⟩
   rw[<-hB,<-hQ];have hbq:(B=b/\Q=q)\/(B<b/\Q=J):=by
    by_cases h:s<b
    ·rw[xae h]at hB hQ;exact .inr ⟨by omega,hQ⟩
    rw[xac h]at hB hQ;exact .inl ⟨hB,hQ⟩
   have hb':B=m.size (ax ord (road p Q)):=by
    by_cases h:s<b
    ·rw[xae h]at hB hQ;rw[hB,hQ,hs]
    rw[xac h]at hB hQ;rw[hB,hQ,hb]
   clear hB hQ;by_cases hg:B*g<s*100
   ·rw[xae hg];refine⟨?_,hb',?_,λi hi=>?_⟩
    ·cases dn
     ·simp only[xaj]at hJ⊢;have:=hk rfl;omega
     simp only[xan]at hJ⊢;omega
    ·cases dn
     ·simp only[xaj]at hJ⊢;have:=hk rfl;omega
     simp only[xan]at hJ⊢;omega
    have:i=j:=by
     cases dn
     ·simp only[xaj]at hi hJ;omega
     simp only[xan]at hi hJ;omega
    subst this;exact hf
   rw[xac hg];have ih:=m.uZ g ord p dn k J B Q (λh=>by subst h;have:=hk rfl;simp only[xaj]at hJ;omega) hb';obtain⟨w1,w2,w3,w4⟩:=ih;refine⟨?_,w2,?_,λi hi=>?_⟩
   ·cases dn
    ·simp only[xaj]at w1 hJ⊢;have:=hk rfl;omega
    simp only[xan]at w1 hJ⊢;omega
   ·cases dn
    ·simp only[xaj]at w3 w1 hJ⊢;have:=hk rfl;omega
    simp only[xan]at w3 w1 hJ⊢;omega
   by_cases e:i=j
   ·subst e;exact hf
   refine w4 i ?_;cases dn
   ·simp only[xaj]at hi hJ⊢;omega
   simp only[xan]at hi hJ⊢;omega
  rw[xac hf];exact⟨by cases dn<;>simp,hb,.inl ⟨rfl,rfl⟩,λi hi=>by cases dn<;>simp at hi<;>omega⟩
structure acM(m:Rm)(ord:zL)(p:Nat)(r:Nat×Nat):Prop where
 lt:r.1<m.n
 le:m.size (ax ord (road p r.1))<=m.size ord
 stay:m.size (ax ord (road p r.1))=m.size ord->r.1=p
 uk:r.2<=3*(m.n-1)
theorem Rm.zo(m:Rm)(g:Nat){ord:zL}{p:Nat}(hp:p<m.n):acM m ord p (m.rh g ord p):=by
 have ha:=m.uZ g ord p (decide (m.n-1-p<=p)) (m.rest (decide (m.n-1-p<=p)) p) p (m.size ord) p (λh=>by unfold Rm.rest;rw[h];exact xak _) (by rw[fR];rfl);unfold rh;simp only;generalize decide (m.n-1-p<=p)=dn at*;generalize m.DI g ord p dn (m.rest dn p) p (m.size ord) p=a at*;have hb:=m.uZ g ord p (!dn) (m.rest (!dn) p) p a.2.1 a.2.2 (λh=>by unfold Rm.rest;rw[h];exact xak _) ha.size;generalize m.DI g ord p (!dn) (m.rest (!dn) p) p a.2.1 a.2.2=b at*;obtain⟨a1,a2,a3,a4⟩:=ha;obtain⟨b1,b2,b3,b4⟩:=hb;unfold Rm.rest at a1 b1;refine⟨?_,?_,λh=>?_,?_⟩
 ·cases dn<;>simp only[xaj,xan,xcH,xdb]at a1 b1 a3 b3<;>simp only<;>omega
 ·simp only;rw[<-b2];cases dn<;>simp only[xaj,xan,xcH,xdb]at a1 b1 a3 b3<;>omega
 ·simp only at h⊢;rw[<-b2]at h;cases dn<;>simp only[xaj,xan,xcH,xdb]at a1 b1 a3 b3<;>omega
 unfold dst;cases dn<;>simp only[xaj,xan,xcH,xdb]at a1 b1 a3 b3<;>simp only<;>split<;>omega
end aE
namespace aE
section
variable {m:Rm} {g:Nat}
theorem IZ{p q:Nat}(hp:p<m.n)(hq:q<m.n):∀x∈road p q,x+1<m.n:=λx hx=>Pw hp hq hx
theorem rI{ord:zL}{v n:Nat}(hp:ord.Perm (List.range n))(hv:v<n):ord.idxOf v<n:=by
 have h1:v∈ord:=hp.mem_iff.2 (xaJ.2 hv);have h2:=xeo h1;rwa [hp.length_eq,xaC]at h2
theorem kZ{ord path:zL}{n:Nat}(hp:ord.Perm (List.range n))(h:∀x∈path,x+1<n):(ax ord path).Perm (List.range n):=
 (j4 λx hx=>by rw[hp.length_eq,xaC];exact h x hx).trans hp
structure Zd(m:Rm)(g:Nat)(ord l:zL)(r:zL×Nat):Prop where
 mem:∀x∈r.1,x+1<m.n
 le:m.size (ax ord r.1)<=m.size ord
 stay:m.size (ax ord r.1)=m.size ord->r.1=[]/\∀v∈l,(m.rh g ord (ord.idxOf v)).1=ord.idxOf v
 uk:r.2<=3*(m.n-1)*l.length
 len:r.1.length<=m.n*l.length
theorem k7:∀{l ord:zL},ord.Perm (List.range m.n)->(∀v∈l,v<m.n)->Zd m g ord l (m.cq g ord l)
 | [],ord,hp,hl=>⟨by simp[Rm.cq],xak _,λ_=>⟨rfl,by simp⟩,by simp[Rm.cq],by simp[Rm.cq]⟩
 |v::l,ord,hp,hl=>by
  have hv:=rI hp (hl v zI);have h1:=m.zo g (ord:=ord) hv;rw[Rm.cq];generalize hq:ord.idxOf v=p at*;generalize hr:m.rh g ord p=a at*;obtain⟨a1,a2,a3,a4⟩:=h1;have hin:=IZ hv a1;have h2:=k7 (l:=l) (ord:=ax ord (road p a.1)) (kZ hp hin) (λx hx=>hl x (by simp[hx]));generalize m.cq g (ax ord (road p a.1)) l=b at*;obtain⟨b1,b2,b3,b4,b5⟩:=h2;have Cb:=uF p a.1;refine⟨λx hx=>?_,?_,λh=>?_,?_,?_⟩
  ·rcases xao.1 hx with h|h
   ·exact hin x h
   exact b1 x h
  ·rw[cm];omega
  ·rw[cm]at h;have e:=a3 zO;rw[e,fR]at b3 h⊢;obtain⟨c1,c2⟩:=b3 h;refine⟨by rw[c1];rfl,λu hu=>?_⟩;rcases xag.1 hu with rfl|hu
   ·rw[hq,hr];exact e
   exact c2 u hu
  ·rw[xal,xdg,xbO];show a.2+b.2<=_;omega
  rw[xaf,xal,xdg,xbO];omega
def Rm.cW(m:Rm)(g:Nat)(ord:zL):List (zL)->zL×Nat
 | []=>([],0)
 |l::r=>let a:=m.cq g ord l;let b:=m.cW g (ax ord a.1) r;(a.1++b.1,a.2+b.2)
def Rm.sP(m:Rm)(g:Nat)(ord:zL):List (zL)->Prop
 | []=>False
 | [l]=>¬m.size (ax ord (m.cq g ord l).1)<m.size ord
 |l::r=>m.size (ax ord (m.cq g ord l).1)<m.size ord/\m.sP g (ax ord (m.cq g ord l).1) r
theorem pG{ord l:zL}{r:List (zL)}(hr:r≠[]):m.sP g ord (l::r)↔m.size (ax ord (m.cq g ord l).1)<m.size ord/\m.sP g (ax ord (m.cq g ord l).1) r:=by
 cases r with
 |nil=>exact absurd rfl hr
 |cons a b=>exact xc8
structure Ze(m:Rm)(g:Nat)(ord:zL)(ls:List (zL))(r:zL×Nat):Prop where
 mem:∀x∈r.1,x+1<m.n
 le:m.size (ax ord r.1)<=m.size ord
 XR:1<=ls.length/\ls.length+m.size (ax ord r.1)<=m.size ord+1
 still:∀v,v<m.n->(m.rh g (ax ord r.1) ((ax ord r.1).idxOf v)).1=(ax ord r.1).idxOf v
 uk:r.2<=3*(m.n-1)*m.n*ls.length
 len:r.1.length<=m.n*m.n*ls.length
theorem IX:∀{ls:List (zL)} {ord:zL},ord.Perm (List.range m.n)->(∀l∈ls,l.Perm (List.range m.n))->m.sP g ord ls->Ze m g ord ls (m.cW g ord ls)
 | [],ord,hp,hl,hg=>hg.elim
 | [l],ord,hp,hl,hg=>by
  have U2:=hl l zI;have jF:l.length=m.n:=by rw[U2.length_eq,xaC]
  obtain⟨a1,a2,a3,a4,a5⟩:=k7 (g:=g) hp (λv hv=>xaJ.1 (U2.mem_iff.1 hv)) (l:=l);have WV:¬m.size (ax ord (m.cq g ord l).1)<m.size ord:=hg;have h:m.cW g ord [l]=((m.cq g ord l).1++[],(m.cq g ord l).2+0):=rfl;rw[h,xaG,xbT];have he:m.size (ax ord (m.cq g ord l).1)=m.size ord:=by omega
  obtain⟨c1,c2⟩:=a3 he;refine⟨a1,a2,⟨by simp,by simp;omega⟩,λv hv=>?_,by rw[jF]at a4;simpa using a4,by rw[jF]at a5;simpa using a5⟩;rw[c1];exact c2 v (U2.mem_iff.2 (xaJ.2 hv))
 |l::l2::r,ord,hp,hl,hg=>by
  have U2:=hl l zI;have jF:l.length=m.n:=by rw[U2.length_eq,xaC]
  obtain⟨a1,a2,a3,a4,a5⟩:=k7 (g:=g) hp (λv hv=>xaJ.1 (U2.mem_iff.1 hv)) (l:=l);obtain⟨g1,g2⟩:=(pG zI).1 hg;have ih:=IX (ls:=l2::r) (kZ hp a1) (λx hx=>hl x (by simp[xag.1 hx])) g2;have h:m.cW g ord (l::l2::r)=((m.cq g ord l).1++(m.cW g (ax ord (m.cq g ord l).1) (l2::r)).1,(m.cq g ord l).2+(m.cW g (ax ord (m.cq g ord l).1) (l2::r)).2):=rfl;rw[h];generalize m.cq g ord l=a at*;generalize m.cW g (ax ord a.1) (l2::r)=b at*;obtain⟨b1,b2,b3,b4,b5,b6⟩:=ih;refine⟨λx hx=>?_,by rw[cm];omega,⟨by simp,?_⟩,?_,?_,?_⟩
  ·rcases xao.1 hx with h|h
   ·exact a1 x h
   exact b1 x h
  ·rw[cm,xal];omega
  ·rw[cm];exact b4
  ·show a.2+b.2<=_;rw[jF]at a4;rw[xal,xdg,xbO];omega
  rw[jF]at a5;rw[xaf,xal,xdg,xbO];omega
theorem xO{v:Nat}:∀{l ord:zL},m.cq g ord (l++[v])=((m.cq g ord l).1++road ((ax ord (m.cq g ord l).1).idxOf v) (m.rh g (ax ord (m.cq g ord l).1) ((ax ord (m.cq g ord l).1).idxOf v)).1,(m.cq g ord l).2+(m.rh g (ax ord (m.cq g ord l).1) ((ax ord (m.cq g ord l).1).idxOf v)).2)
 | [],ord=>by simp[Rm.cq,ax]
 |u::l,ord=>by
  rw[xaN,Rm.cq,Rm.cq];simp only;rw[xO (l:=l)];simp only[cm,xai,xc9]
theorem xP{l:zL}:∀{ls:List (zL)} {ord:zL},m.cW g ord (ls++[l])=((m.cW g ord ls).1++(m.cq g (ax ord (m.cW g ord ls).1) l).1,(m.cW g ord ls).2+(m.cq g (ax ord (m.cW g ord ls).1) l).2)
 | [],ord=>by simp[Rm.cW,ax]
 |u::ls,ord=>by
  rw[xaN,Rm.cW,Rm.cW];simp only;rw[xP (ls:=ls)];simp only[cm,xai,xc9]
def Rm.rQ(m:Rm)(g:Nat)(ord:zL):List (zL)->Prop
 | []=>True
 |l::r=>m.size (ax ord (m.cq g ord l).1)<m.size ord/\m.rQ g (ax ord (m.cq g ord l).1) r
theorem sQ{l:zL}:∀{ls:List (zL)} {ord:zL},m.rQ g ord ls->m.size (ax (ax ord (m.cW g ord ls).1) (m.cq g (ax ord (m.cW g ord ls).1) l).1)<m.size (ax ord (m.cW g ord ls).1)->m.rQ g ord (ls++[l])
 | [],ord,_,h=>⟨h,trivial⟩
 |u::ls,ord,h1,h=>by
  refine⟨h1.1,sQ (ls:=ls) h1.2 ?_⟩;rw[Rm.cW]at h;simp only[cm]at h;exact h
theorem Cw{l:zL}:∀{ls:List (zL)} {ord:zL},m.rQ g ord ls->¬m.size (ax (ax ord (m.cW g ord ls).1) (m.cq g (ax ord (m.cW g ord ls).1) l).1)<m.size (ax ord (m.cW g ord ls).1)->m.sP g ord (ls++[l])
 | [],ord,_,h=>h
 |u::ls,ord,h1,h=>by
  rw[xaN,pG zI];refine⟨h1.1,Cw (ls:=ls) h1.2 ?_⟩;rw[Rm.cW]at h;simp only[cm]at h;exact h
structure SS(m:Rm)(g:Nat)(ord:zL)(ls:List (zL))(r:zL×Nat):Prop where
 mem:∀x∈r.1,x+1<m.n
 le:ls.length+m.size (ax ord r.1)<=m.size ord
 uk:r.2<=3*(m.n-1)*m.n*ls.length
 len:r.1.length<=m.n*m.n*ls.length
theorem yH:∀{ls:List (zL)} {ord:zL},ord.Perm (List.range m.n)->(∀l∈ls,l.Perm (List.range m.n))->m.rQ g ord ls->SS m g ord ls (m.cW g ord ls)
 | [],ord,hp,hl,hg=>⟨by simp[Rm.cW],by simp[Rm.cW,ax],by simp[Rm.cW],by simp[Rm.cW]⟩
 |l::r,ord,hp,hl,hg=>by
  have U2:=hl l zI;have jF:l.length=m.n:=by rw[U2.length_eq,xaC]
  obtain⟨a1,a2,a3,a4,a5⟩:=k7 (g:=g) hp (λv hv=>xaJ.1 (U2.mem_iff.1 hv)) (l:=l);have ih:=yH (ls:=r) (kZ hp a1) (λx hx=>hl x (by simp[hx])) hg.2;have hg1:=hg.1;rw[Rm.cW];generalize m.cq g ord l=a at*;generalize m.cW g (ax ord a.1) r=b at*;obtain⟨b1,b2,b3,b4⟩:=ih;rw[jF]at a4 a5;refine⟨λx hx=>?_,by rw[cm,xal];omega,?_,?_⟩
  ·rcases xao.1 hx with h|h
   ·exact a1 x h
   exact b1 x h
  ·rw[xal,xdg,xbO];show a.2+b.2<=_;omega
  rw[xaf,xal,xdg,xbO];omega
end
end aE
set_option maxRecDepth 100000
namespace Go.Proofs
open Go Go.Sx Tryz
section
open aE
def gD(kp a b q gr sw:Nat)(la:Int)(st:zV):Array zV:=#[ptr kp,iv (a:Int),iv (b:Int),iv (q:Int),iv (gr:Int),iv (sw:Int),iv la,st]
def eU(wp:Nat)(c:Array zV):Nat×Obj:=(wp,.cells c 350 zZ)
def oW(bx wp:Nat):Nat×Obj:=(bx,.cells #[ptr wp] 347 zZ)
def Zv(dn:Bool):Nat:=bif dn then 297 else 299
def AQ(dn:Bool)(bx:Nat):zV:=.func (.func (Zv dn)) #[] #[ptr bx]
def DE:Hp->Nat
 |(_,.cells c _ _)::_=>bj c.toList 1
 |_=>0
section
variable {kp wp bx a b q gr sw p:Nat} {la:Int} {st:zV} {K:Kd} {S:Nat->aE.Fn} {ord o tr:zL} {C:Hp} {dn:Bool}
theorem O3{l a':Nat}{d:Int}(h:At kp K S ord tr C)(hl:l+1<K.n)(ei:tr.length<17592186044416)(hf:gw K S ord l)(ha:(a:Int)+d=(a':Int))(hb:a'<1024)(yx:sw<4611686018427387904):
  Fc zQ 298 #[ptr wp,iv (l:Int),iv d] (eU wp (gD kp a b q gr sw la st)::C) (λv H=>v=iv 0/\∃C',H=eU wp (gD kp a' b q gr (sw+1) la st)::C'/\At kp K S (ff ord l) (tr++[l]) C'):=by
 refine aK λg=>wq (Ld.n ?_);refine aa.fq (tZ h hl ei hf) ?_;rintro v C' ⟨rfl,h'⟩;intro J6 h6;refine ae.jM (Br.T (Ld.n ?_));refine ae.inc (Nil.ptr (ag.mk (St.one (c':=gD kp a b q gr (sw+1) la st) (by exact .head _) rfl (by simp[gD]) rfl ?_)));refine Ld.n ?_;refine ae.Du (c:=(a':Int)) ha zO (Nil.ptr (ag.mk (St.one (c':=gD kp a' b q gr (sw+1) la st) (by exact .head _) rfl (by simp[gD]) rfl ?_)));exact JE.mk (h6 _ λgs=>aQ.here ⟨rfl,C',rfl,h'⟩)
theorem We{l:Nat}{d:Int}(h:At kp K S ord tr C)(hl:l+1<K.n)(ei:tr.length<17592186044416)(hf:¬gw K S ord l):
  Rd zQ 298 #[ptr wp,iv (l:Int),iv d] (eU wp (gD kp a b q gr sw la st)::C) (· =iv 9):=by
 refine aK λg=>wq (Ld.n ?_);refine aa.eq (pK h hl ei hf) λJ6 h6=>?_;exact ae.jM (Br.F (JE.mk (h6 _ λgs=>bE.mk (.refl _) rfl)))
theorem q7(h:At kp K S ord tr C)(DK:1<=K.n):
  Fc zQ 269 #[ptr wp,.bool dn] (eU wp (gD kp a b q gr sw la st)::C) (λv H=>v=.tuple #[]/\∃bx,H=eU wp (gD kp a b q gr sw (bif dn then((K.n-1:Nat):Int)else 0) (AQ dn bx))::oW bx wp::C):=by
 have hn:=h.rC;refine aK λg=>Gd λb1 _=>?_;cases dn
 ·refine Br.no (Ld.q ?_);refine Nil.ptr (ag.mk (St.one (c':=gD kp a b q gr sw 0 st) (by exact .tail (.head _)) rfl (by simp[gD]) rfl ?_));refine Ld.q ?_;refine Nil.ptr (ag.mk (St.one (c':=gD kp a b q gr sw 0 (AQ false b1)) (by exact .tail (.head _)) rfl (by simp[gD]) rfl ?_));exact aQ.mk .swap ⟨rfl,b1,rfl⟩
 refine Br.yes (DR.self (Ld.q ?_));refine Ld.q ?_;refine Ld.n ?_;intro F;refine aa.eq (l7 h) (⟨.refl _,?_⟩);refine ae.cf (b:=1) (Nil.ptr (ag.mk λF=>(St.one (c':=gD kp a b q gr sw ((K.n-1:Nat):Int) st) (by exact .tail (.head _)) rfl (by simp[gD]) rfl ?_)));refine Ld.q ?_;refine Nil.ptr (ag.mk (St.one (c':=gD kp a b q gr sw ((K.n-1:Nat):Int) (AQ true b1)) (by exact .tail (.head _)) rfl (by simp[gD]) rfl ?_));exact aQ.mk .swap ⟨rfl,b1,rfl⟩
def lg(dn:Bool)(j:Nat):Nat:=bif dn then j+1 else j-1
def XE(dn:Bool)(j:Nat):Nat:=bif dn then j else j-1
theorem Pv{j:Nat}(hs:bif dn then p<=j else 0<j/\j<=p):road p (lg dn j)=road p j++[XE dn j]:=by
 cases dn
 ·simp only[xaj]at hs;obtain⟨i,rfl⟩:∃i,j=i+1:=⟨j-1,by omega⟩;exact ru hs.2
 exact rp hs
theorem Bh{j:Nat}(h:At kp K S (ax o (road p j)) (tr++road p j) C)(hp:p<K.n)(hs:bif dn then p<=j/\j+1<K.n else 0<j/\j<=p)(ei:(tr++road p j).length<17592186044416)(hf:gw K S (ax o (road p j)) (XE dn j))(yx:sw<4611686018427387904):
  Fc zQ (Zv dn) #[ptr bx] (eU wp (gD kp j b q gr sw la st)::oW bx wp::C) (λv H=>v=iv 0/\∃C',H=eU wp (gD kp (lg dn j) b q gr (sw+1) la st)::oW bx wp::C'/\At kp K S (ax o (road p (lg dn j))) (tr++road p (lg dn j)) C'):=by
 have hn:=h.rC;have hr:=Pv (p:=p) (dn:=dn) (j:=j) (by cases dn<;>simp only[xaj,xan]at hs⊢ <;>omega);intro g;rw[hr,fP,<-xai];cases dn
 ·simp only[xaj]at hs;refine wo (R:=aQ _) ?_;unfold L299;refine DR.self (Ld.q ?_);refine Ld.q ?_;refine Ld.n ?_;refine ae.cf (b:=1) λF=>?_;refine aa.pre .swap ?_;refine aa.fn (.cons .here) (O3 (a':=j-1) h zO ei hf zO zO yx) ?_;rintro v H ⟨rfl,C',rfl,h'⟩;exact aQ.mk .swap ⟨rfl,C',rfl,h'⟩
 simp only[xan]at hs;refine wu (R:=aQ _) ?_;unfold L297;refine DR.self (Ld.q ?_);refine Ld.q ?_;refine Ld.n ?_;intro F;refine aa.pre .swap ?_;refine aa.fn (.cons .here) (O3 (a':=j+1) h zO ei hf zO zO yx) ?_;rintro v H ⟨rfl,C',rfl,h'⟩;exact aQ.mk .swap ⟨rfl,C',rfl,h'⟩
theorem TU{j:Nat}(h:At kp K S ord tr C)(hs:bif dn then j+1<K.n else 0<j/\j<K.n)(ei:tr.length<17592186044416)(hf:¬gw K S ord (XE dn j)):
  Rd zQ (Zv dn) #[ptr bx] (eU wp (gD kp j b q gr sw la st)::oW bx wp::C) (· =iv 9):=by
 have hn:=h.rC;intro g;cases dn
 ·simp only[xaj]at hs;refine wo (R:=aQ _) ?_;unfold L299;refine DR.self (Ld.q ?_);refine Ld.q ?_;refine Ld.n ?_;refine ae.cf (b:=1) λF=>?_;refine aa.pre .swap ?_;exact aa.eq (We h zO ei hf) (bE.mk .swap rfl)
 simp only[xan]at hs;refine wu (R:=aQ _) ?_;unfold L297;refine DR.self (Ld.q ?_);refine Ld.q ?_;refine Ld.n ?_;intro F;refine aa.pre .swap ?_;exact aa.eq (We h zO ei hf) (bE.mk .swap rfl)
theorem Bf(dn:Bool):bQ zQ (Zv dn)=true:=by cases dn<;>kernel_rfl
theorem o9{n j:Nat}(hn:n<=64)(hp:p<n)(hj:j<n):(road p j).length<=64:=by rw[uF];omega
theorem Ps(h0:At kp K S o tr C)(hp:p<K.n)(jL:100<=gr/\gr<=1000)(hb:b<=1048576)(yx:sw<1099511627776)(ei:tr.length<17454747090944)(hla:la=bif dn then((K.n-1:Nat):Int)else 0){r:Nat×Nat×Nat}(hr:(rm K S).DI gr o p dn ((rm K S).rest dn p) p b q=r):
  Fc zQ 270 #[ptr wp] (eU wp (gD kp p b q gr sw la (AQ dn bx))::oW bx wp::C) (λv H=>v=.tuple #[]/\∃C',H=eU wp (gD kp r.1 r.2.1 r.2.2 gr (sw+dst r.1 p) la (AQ dn bx))::oW bx wp::C'/\At kp K S (ax o (road p r.1)) (tr++road p r.1) C'):=by
 have hn:=h0.rC;refine aK λg=>Gc ?_;refine⟨λvs H=>∃(k j b' q':Nat) (C':Hp),vs=[]/\H=eU wp (gD kp j b' q' gr (sw+dst j p) la (AQ dn bx))::oW bx wp::C'/\At kp K S (ax o (road p j)) (tr++road p j) C'/\k=(rm K S).rest dn j/\(bif dn then p<=j/\j<K.n else j<=p)/\b'<=1048576/\(rm K S).DI gr o p dn k j b' q'=r,
  λ_ H=>bif dn then K.n-DE H else DE H,JE.mk ⟨_,p,b,q,C,rfl,by simp[dst],by rw[fR,xaG];exact h0,rfl,by cases dn<;>simp[hp],hb,hr⟩,?_⟩
 rintro H ⟨k,j,b',q',C',_,rfl,hA,hk,hs,hb',tE⟩ gs;have Ta:j<K.n:=by cases dn<;>simp only[xaj,xan]at hs<;>omega
 have EW:dst j p<=64:=by unfold dst;omega
 have Cb:=o9 hn hp Ta;have Qv:(tr++road p j).length<17592186044416:=by rw[xaf];omega
 have vb:(rm K S).n=K.n:=rfl;have hsz:∀o:zL,(rm K S).size o=cO K S o:=λ_=>rfl;intro J5 h5;have fin:r=(j,b',q')->J5 [.bool false] (eU wp (gD kp j b' q' gr (sw+dst j p) la (AQ dn bx))::oW bx wp::C'):=λe=>h5 _ _ λgs=>Br.no (aQ.here ⟨rfl,C',by rw[e],by rw[e];exact hA⟩);refine DR.self (Ld.n ?_);refine Ld.n ?_;refine ae.fX (Br.dec (λhne=>?_) (λheq=>?_));rotate_left
 ·have LQ:k=0:=by
   rw[hk];unfold Rm.rest;cases dn<;>simp only[xaj,xan]at hla⊢ <;>omega
  subst LQ;exact JE.mk (fin tE.symm)
 have vg:bif dn then j+1<K.n else 0<j:=by
  cases dn<;>simp only[xaj,xan]at hla⊢ <;>omega
 obtain⟨k',hk'⟩:∃k',k=k'+1:=by
  refine⟨k-1,?_⟩;rw[hk];unfold Rm.rest;cases dn<;>simp only[xaj,xan]at vg⊢ <;>omega
 subst hk';rw[Rm.DI]at tE;change (if(rm K S).fit (ax o (road p j)) (XE dn j)=true then _ else _)=r at tE;refine Ld.n ?_;intro F;refine bG.of (f:=Zv dn) rfl (Bf dn) ?_;by_cases hf:gw K S (ax o (road p j)) (XE dn j);rotate_left
 ·refine aa.eq (args:=#[ptr bx]) (TU hA (by cases dn<;>simp only[xaj,xan]at vg⊢ <;>omega) Qv hf) (ae.jM (aS.mk ?_));rw[xac (λh=>hf (mS.1 h))]at tE;exact JE.mk (fin tE.symm)
 refine aa.fn (args:=#[ptr bx]) .here (Bh hA hp (by cases dn<;>simp only[xaj,xan]at vg hs⊢ <;>omega) Qv hf zO) ?_;rintro v H ⟨rfl,C2,rfl,rN⟩;refine ae.jM (aS.mk ?_);rw[xae (show(rm K S).fit (ax o (road p j)) (XE dn j)=true from mS.2 hf)]at tE;change (if(if(rm K S).size (ax o (road p (lg dn j)))<b' then(rm K S).size (ax o (road p (lg dn j)))else b')*gr<(rm K S).size (ax o (road p (lg dn j)))*100 then(lg dn j,if(rm K S).size (ax o (road p (lg dn j)))<b' then(rm K S).size (ax o (road p (lg dn j)))else b',if(rm K S).size (ax o (road p (lg dn j)))<b' then lg dn j else q')else(rm K S).DI gr o p dn k' (lg dn j) (if(rm K S).size (ax o (road p (lg dn j)))<b' then(rm K S).size (ax o (road p (lg dn j)))else b') (if(rm K S).size (ax o (road p (lg dn j)))<b' then lg dn j else q'))=r at tE;have hle:=pJ rN;rw[hsz]at tE;have aez:sw+dst j p+1=sw+dst (lg dn j) p:=by unfold dst lg;cases dn<;>simp only[xaj,xan]at vg hs⊢ <;>omega
 rw[aez];have hnk:k'=(rm K S).rest dn (lg dn j):=by
  unfold Rm.rest at hk⊢;unfold lg;cases dn<;>simp only[xaj,xan]at vg hk⊢ <;>omega
 have hns:bif dn then p<=lg dn j/\lg dn j<K.n else lg dn j<=p:=by
  unfold lg;cases dn<;>simp only[xaj,xan]at vg hs⊢ <;>omega
 have hms:(bif dn then K.n-lg dn j else lg dn j)<(bif dn then K.n-j else j):=by
  unfold lg;cases dn<;>simp only[xaj,xan]at vg⊢ <;>omega
 generalize hj':lg dn j=j' at*;generalize hs':cO K S (ax o (road p j'))=s at*;have abt:∀b2 q2,DE (eU wp (gD kp j b' q' gr (sw+dst j p) la (AQ dn bx))::oW bx wp::C')=j/\∀C2,DE (eU wp (gD kp j' b2 q2 gr (sw+dst j' p) la (AQ dn bx))::oW bx wp::C2)=j':=λb2 q2=>⟨by simp[DE,eU,gD,bj],λC2=>by simp[DE,eU,gD,bj]⟩;refine JE.mk (h5 _ _ λgs=>Br.yes ?_);refine Ld.n ?_;refine aa.eq (di rN) ?_;rw[hs'];intro J14 YQ;have next:∀b2 q2,b2<=1048576->(if b2*gr<s*100 then(j',b2,q2)else(rm K S).DI gr o p dn k' j' b2 q2)=r->J14 [] (eU wp (gD kp j' b2 q2 gr (sw+dst j' p) la (AQ dn bx))::oW bx wp::C2):=by
  intro b2 q2 YD oE;refine YQ _ λgs=>?_;have AT:b2*gr<=1048576*1000:=xbK YD jL.2;refine ae.wY (b:=100) (Ld.n ?_);refine Ld.n ?_;refine ae.wY (ae.iF (Br.dec (λhgt=>?_) (λhgt=>?_)))
  ·rw[xae hgt]at oE;subst oE;exact aQ.here ⟨rfl,C2,rfl,rN⟩
  rw[xac hgt]at oE;refine az.mk ⟨k',j',b2,q2,C2,rfl,rfl,rN,hnk,hns,YD,oE⟩ ?_;rw[(abt b2 q2).1,(abt b2 q2).2];exact hms
 refine Ld.n ?_;refine ae.cU (Br.dec (λhlt=>?_) (λhlt=>?_))
 ·rw[xae hlt,xae hlt]at tE;refine Ld.n ?_;refine Nil.ptr (ag.mk (St.one (c':=gD kp j' s q' gr (sw+dst j' p) la (AQ dn bx)) (by exact .head _) rfl (by simp[gD]) rfl ?_));refine Nil.ptr (ag.mk (St.one (c':=gD kp j' s j' gr (sw+dst j' p) la (AQ dn bx)) (by exact .head _) rfl (by simp[gD]) rfl ?_));exact JE.mk (next _ _ zO tE)
 rw[xac hlt,xac hlt]at tE;exact JE.mk (next _ _ hb' tE)
theorem zi{j t:Nat}(h:At kp K S (ax o (road p j)) (tr++road p j) C)(xk:o.length=K.n)(hp:p<K.n)(hjt:(p<=t/\t<=j/\j<K.n)\/(j<=t/\t<=p))(yx:sw<17592186044416)(ei:tr.length<17454747090944):
  Fc zQ 271 #[ptr wp,iv (t:Int)] (eU wp (gD kp j b q gr sw la st)::C) (λv H=>v=.tuple #[]/\∃C',H=eU wp (gD kp t b q gr (sw+dst j t) la st)::C'/\At kp K S (ax o (road p t)) (tr++road p t) C'):=by
 have hn:=h.rC;refine aK λg=>Gb ?_;refine⟨λvs H=>∃(i:Nat) (C':Hp),vs=[]/\H=eU wp (gD kp i b q gr (sw+dst j i) la st)::C'/\At kp K S (ax o (road p i)) (tr++road p i) C'/\((p<=t/\t<=i/\i<=j/\j<K.n)\/(j<=i/\i<=t/\t<=p)),
  λ_ H=>dst (DE H) t,JE.mk ⟨j,C,rfl,by simp[dst],h,by omega⟩,?_⟩
 rintro H ⟨i,C',_,rfl,hA,hs⟩ gs;have hin:i<K.n:=by omega
 have hdi:dst j i<=64:=by unfold dst;omega
 have Cb:=o9 hn hp hin;have EM:∀i sw C',DE (eU wp (gD kp i b q gr sw la st)::C')=i:=λi sw C'=>by simp[DE,eU,gD,bj]
 refine Ld.n ?_;refine ae.mF (Br.dec (λhne=>?_) (λheq=>?_));rotate_left
 ·obtain rfl:i=t:=by omega
  exact aQ.here ⟨rfl,C',rfl,hA⟩
 refine Ld.n ?_;rcases hs with hs|hs
 ·obtain⟨i,rfl⟩:∃i',i=i'+1:=⟨i-1,by omega⟩;rw[rp zO,fP,<-xai]at hA;refine aa.fq (AE hA (by rw[rp zO,xaf,xbf]at Cb;rw[xaf];omega)) ?_;rintro w C2 ⟨rfl,rN⟩;rw[pY (by rw[fh,xk];omega)]at rN;refine Ext.two (Ld.n ?_);refine ae.inc (Nil.ptr (ag.mk (St.one (c':=gD kp (i+1) b q gr (sw+dst j (i+1)+1) la st) (by exact .head _) rfl (by simp[gD]) rfl ?_)));refine Ld.n ?_;refine ae.cU (Br.T (Nil.ptr (ag.mk (St.one (c':=gD kp i b q gr (sw+dst j (i+1)+1) la st) (by exact .head _) rfl (by simp[gD]) rfl ?_))));refine az.mk ⟨i,C2,rfl,by rw[show sw+dst j (i+1)+1=sw+dst j i by unfold dst;omega];rfl,rN,by omega⟩ ?_;show dst (DE (eU wp (gD kp i b q gr (sw+dst j (i+1)+1) la st)::C2)) t<dst (DE (eU wp (gD kp (i+1) b q gr (sw+dst j (i+1)) la st)::C')) t;rw[EM,EM];unfold dst;omega
 rw[ru zO,fP,<-xai]at hA;refine aa.fq (AE hA (by rw[ru zO,xaf,xbf]at Cb;rw[xaf];omega)) ?_;rintro w C2 ⟨rfl,rN⟩;rw[pY (by rw[fh,xk];omega)]at rN;refine Ext.two (Ld.n ?_);refine ae.inc (Nil.ptr (ag.mk (St.one (c':=gD kp i b q gr (sw+dst j i+1) la st) (by exact .head _) rfl (by simp[gD]) rfl ?_)));refine Ld.n ?_;refine ae.cU (Br.F (ae.inc (Nil.ptr (ag.mk (St.one (c':=gD kp (i+1) b q gr (sw+dst j i+1) la st) (by exact .head _) rfl (by simp[gD]) rfl ?_)))));refine az.mk ⟨i+1,C2,rfl,by rw[show sw+dst j i+1=sw+dst j (i+1)by unfold dst;omega];rfl,rN,by omega⟩ ?_;show dst (DE (eU wp (gD kp (i+1) b q gr (sw+dst j i+1) la st)::C2)) t<dst (DE (eU wp (gD kp i b q gr (sw+dst j i) la st)::C')) t;rw[EM,EM];unfold dst;omega
end
end
section
open aE
section
variable {kp v gr:Nat} {K:Kd} {S:Nat->aE.Fn} {ord tr:zL} {C:Hp}
theorem o5(kp:Nat){gr:Int}(C:Hp):Rd zQ 233 #[ptr kp,iv gr] C (· =iv (if gr<100\/1000<gr then 1 else 0)):=by
 refine aK λg=>GF (ae.aJ (Br.no (ae.lss (cr.or (decide (1000<gr)) (λ_=>ae.gtr ⟨rfl,rfl⟩) rfl λgs=>?_))));by_cases h:gr<100\/1000<gr
 ·rw[xae h];refine Br.To ?_ (bE.mk (.refl _) rfl);simpa using h
 rw[xac h];refine Br.no' ?_ (bE.mk (.refl _) rfl);simpa using h
theorem XN(hp:ord.Perm (List.range K.n)){p:Nat}(S9:p<K.n)(hv:ord.getD p 0=v):ord.idxOf v=p:=by
 have xk:ord.length=K.n:=by rw[hp.length_eq,xaC]
 have gE:ord.Nodup:=hp.nodup_iff.2 xbo;have hm:v∈ord:=by
  rw[<-hv,xap,xab zO];exact xaD _
 have h1:=xeo hm;refine getD_inj gE h1 zO ?_;rw[hv,xap,xab h1];exact List.getElem_idxOf h1
theorem T0(h:At kp K S ord tr C)(hp:ord.Perm (List.range K.n))(hv:v<K.n)(jL:100<=gr/\gr<=1000)(ei:tr.length<17454747090944){r:Nat×Nat}(hr:(rm K S).rh gr ord (ord.idxOf v)=r):
  Fc zQ 235 #[ptr kp,iv (v:Int),iv (gr:Int)] C (λw H=>w=.tuple #[rep (cO K S ord) (cO K S (ax ord (road (ord.idxOf v) r.1))) r.2,iv 0]/\At kp K S (ax ord (road (ord.idxOf v) r.1)) (tr++road (ord.idxOf v) r.1) H):=by
 have hn:=h.rC;have xk:ord.length=K.n:=by rw[hp.length_eq,xaC]
 have hsz:=pJ h;have vb:(rm K S).n=K.n:=rfl;refine aK λg=>GC λb1 _=>?_;refine aa.eq (o5 kp (gr:=(gr:Int)) C) ?_;rw[xac zO];refine ae.fX (Br.F (aa.rq (Su h hv) ?_));rintro w ⟨p,S9,Yk,rfl⟩;have Yl:=XN hp S9 Yk;rw[Yl]at hr⊢;have ajV:p<(rm K S).n:=S9;refine Ext.two (ae.fX (Br.F (aa.eq (di h) (Build.mk (cs:=[iv ((cO K S ord:Nat):Int),iv 0,iv 0,.bool false]) zK λb20 _=>?_))));refine St.q ?_;refine Ld.f ?_;refine Build.mk (cs:=[ptr kp,iv (p:Int),iv ((cO K S ord:Nat):Int),iv (p:Int),iv (gr:Int),iv 0,iv 0,.nilFunc]) zK λwp _=>?_;refine aa.eq (l7 h) (ae.cf (b:=1) (ae.cf (ae.AR ?_)));obtain⟨X,hX⟩:∃X:Hp,X=[(b20,Obj.cells (List.toArray [iv ((cO K S ord:Nat):Int),iv 0,iv 0,.bool false]) 224 zZ),(b1,Obj.cells #[iv 0,iv 0,iv 0,.bool false] 224 zZ)]:=⟨_,rfl⟩;unfold Rm.rh at hr;simp only[vb]at hr;rw[show(rm K S).size ord=cO K S ord from rfl]at hr;generalize hdn:decide (K.n-1-p<=p)=dn at*;have af9:∀x:Nat×Obj,aI (x::(b20,Obj.cells (List.toArray [iv ((cO K S ord:Nat):Int),iv 0,iv 0,.bool false]) 224 zZ)::(b1,Obj.cells #[iv 0,iv 0,iv 0,.bool false] 224 zZ)::C) (X++(x::C)):=λx=>.perm (by rw[hX];exact(xaT (l₁:=[_,_])).symm);refine aa.pre (af9 _) ?_;refine aa.fq (q7 (wp:=wp) (a:=p) (b:=cO K S ord) (q:=p) (gr:=gr) (sw:=0) (la:=0) (st:=.nilFunc) (dn:=dn) h zO) ?_;rintro w H ⟨rfl,bx,rfl⟩;refine aa.fn (.app .here) (Ps h S9 jL zO zO ei rfl rfl) ?_;rintro w H ⟨rfl,C1,rfl,hA1⟩;have yC:=(rm K S).uZ gr ord p dn ((rm K S).rest dn p) p (cO K S ord) p (λh=>by unfold Rm.rest;rw[h];exact xak _) (by rw[fR];rfl);generalize (rm K S).DI gr ord p dn ((rm K S).rest dn p) p (cO K S ord) p=a at*;have oE:=(rm K S).uZ gr ord p (!dn) ((rm K S).rest (!dn) p) p a.2.1 a.2.2 (λh=>by unfold Rm.rest;rw[h];exact xak _) yC.size;obtain⟨a1,a2,a3,a4⟩:=yC;unfold Rm.rest at a1;rw[vb]at a1;have EY:a.1<K.n/\((p<=a.1)\/(a.1<=p)):=by cases dn<;>simp only[xaj,xan]at a1<;>omega
 have hab:a.2.1<=1048576:=by
  have:a.2.1<=cO K S ord:=by omega
  omega
 have AU:dst a.1 p<=64:=by unfold dst;omega
 refine aa.pre (aI.cT (.cons .tail) X) ?_;refine aa.fn (.app .here) (zi (t:=p) hA1 xk S9 zO zO ei) ?_;rintro w H ⟨rfl,C2,rfl,rN⟩;rw[fR,xaG]at rN;have rN:At kp K S ord tr C2:=rN;refine Ld.n ?_;refine Un.not (aa.fq (q7 (dn:= !dn) rN zO) ?_);rintro w H ⟨rfl,bx2,rfl⟩;refine aa.fn (.app .here) (Ps rN S9 jL hab zO ei rfl rfl) ?_;rintro w H ⟨rfl,C3,rfl,ZZ⟩;generalize (rm K S).DI gr ord p (!dn) ((rm K S).rest (!dn) p) p a.2.1 a.2.2=b at*;obtain⟨e1,e2,e3,e4⟩:=oE;unfold Rm.rest at e1;rw[vb]at e1;have mg:bif dn then p<=a.2.2/\a.2.2<=a.1 else a.1<=a.2.2/\a.2.2<=p:=by
  cases dn<;>simp only[xaj,xan]at a3 a1⊢ <;>omega
 have ZP:b.1<K.n/\((p<=b.1)\/(b.1<=p)):=by cases dn<;>simp only[xaj,xan,xcH,xdb]at e1<;>omega
 have xm:dst b.1 p<=64:=by unfold dst;omega
 intro J47 h47;have fin:∀(bb:Nat) (EB:Int) (st':zV) (Cf:Hp),At kp K S (ax ord (road p r.1)) (tr++road p r.1) Cf->J47 [] (X++(eU wp (gD kp r.1 bb r.1 gr r.2 EB st')::Cf)):=by
  intro bb EB st' Cf hAf;rw[hX];refine h47 _ λgs=>?_;refine DR.of (R:=[eU wp (gD kp r.1 bb r.1 gr r.2 EB st')]) (aI.jg (.tail _ (.tail _ (.head _)))) (Ld.n ?_);intro F;refine aa.eq (di hAf) (⟨aI.jg (.tail _ (.tail _ (.head _))),?_⟩);refine ag.mk λF=>(St.one (c':=#[iv ((cO K S ord:Nat):Int),iv ((cO K S (ax ord (road p r.1)):Nat):Int),iv 0,.bool false]) (by exact .head _) rfl zI rfl ?_);refine⟨aI.jg (.tail _ (.tail _ (.head _))),?_⟩;refine ag.mk λF=>(St.one (c':=#[iv ((cO K S ord:Nat):Int),iv ((cO K S (ax ord (road p r.1)):Nat):Int),iv ((r.2:Nat):Int),.bool false]) (by exact .head _) rfl zI rfl ?_);refine au.q ?_;refine St.q ?_;refine au.q ?_;exact aQ.mk (.skip (.skip .tail)) ⟨rfl,hAf⟩
 refine Ld.n ?_;refine ae.mF (Br.dec (λhne=>?_) (λheq=>?_))
 ·-- the other way is better
  rw[xae hne]at hr;refine Ld.n ?_;refine aa.pre (aI.cT (.cons .tail) X) ?_;have hbt:(p<=b.2.2/\b.2.2<=b.1/\b.1<K.n)\/(b.1<=b.2.2/\b.2.2<=p):=by
   cases dn<;>simp only[xaj,xan,xcH,xdb]at e3 e1<;>omega
  refine aa.fn (.app .here) (zi (t:=b.2.2) ZZ xk S9 hbt zO ei) ?_;rintro w H ⟨rfl,C4,rfl,YP⟩;subst hr;refine JE.mk ?_;rw[xaZ];exact fin b.2.1 _ _ C4 YP
 -- back again
 have heq:b.2.2=a.2.2:=xes.1 heq;rw[xac (λh=>h heq)]at hr;refine aa.pre (aI.cT (.cons .tail) X) ?_;refine aa.fn (.app .here) (zi (t:=p) ZZ xk S9 zO zO ei) ?_;rintro w H ⟨rfl,C4,rfl,YP⟩;rw[fR,xaG]at YP;have YP:At kp K S ord tr C4:=YP;refine aa.fq (q7 (dn:=dn) YP zO) ?_;rintro w H ⟨rfl,Sb,rfl⟩;obtain⟨s3,hs3⟩:∃s3,s3=0+dst a.1 p+dst a.1 p+dst b.1 p+dst b.1 p:=⟨_,rfl⟩;rw[<-hs3];obtain⟨Wq,ae0⟩:∃Wq,Wq=(bif dn then((K.n-1:Nat):Int)else 0):=⟨_,rfl⟩;rw[<-ae0];refine⟨λvs H=>∃(i:Nat) (C':Hp),vs=[]/\H=eU wp (gD kp i b.2.1 b.2.2 gr (s3+dst p i) Wq (AQ dn Sb))::oW Sb wp::(X++C')/\At kp K S (ax ord (road p i)) (tr++road p i) C'/\(bif dn then p<=i/\i<=b.2.2 else b.2.2<=i/\i<=p),
  λ_ H=>dst (DE H) b.2.2,JE.of (H':=eU wp (gD kp p b.2.1 b.2.2 gr s3 Wq (AQ dn Sb))::oW Sb wp::(X++C4)) (.perm ?_) ⟨p,C4,rfl,by simp[dst],by rw[fR,xaG];exact YP,?_⟩,?_⟩
 ·exact(xaT (l₁:=X)).trans (List.Perm.cons _ xaT)
 ·rw[heq];cases dn<;>simp only[xaj,xan]at mg⊢ <;>omega
 rintro H ⟨i,C5,_,rfl,hA5,hi⟩ gs;rw[heq]at hi;have hin:i<K.n:=by cases dn<;>simp only[xaj,xan]at hi mg<;>omega
 have hdi:dst p i<=64:=by unfold dst;omega
 have Cb:=o9 hn S9 hin;intro J83 h83;refine DR.self (Ld.n ?_);refine Ld.n ?_;refine ae.mF (Br.dec (λhne=>?_) (λYw=>?_))
 ·refine Ld.n ?_;intro F;refine bG.of (f:=Zv dn) rfl (Bf dn) ?_;have WJ:aI (eU wp (gD kp i b.2.1 b.2.2 gr (s3+dst p i) Wq (AQ dn Sb))::oW Sb wp::(X++C5)) (X++(eU wp (gD kp i b.2.1 b.2.2 gr (s3+dst p i) Wq (AQ dn Sb))::oW Sb wp::C5)):=
   .perm ((xaT (l₁:=X)).trans (List.Perm.cons _ xaT)).symm
  refine aa.pre WJ ?_;have hstep:bif dn then p<=i/\i+1<K.n else 0<i/\i<=p:=by
   rw[heq]at hne;cases dn<;>simp only[xaj,xan]at hi mg⊢ <;>omega
  have hfit:gw K S (ax ord (road p i)) (XE dn i):=by
   refine mS.1 (a4 i ?_);rw[heq]at hne;cases dn<;>simp only[xaj,xan]at hi mg⊢ <;>omega
  refine aa.fn (args:=#[ptr Sb]) (.app .here) (Bh hA5 S9 hstep (by rw[xaf];omega) hfit zO) ?_;rintro w H ⟨rfl,C6,rfl,hA6⟩;refine ae.jM (aS.mk ?_);have hnx:s3+dst p i+1=s3+dst p (lg dn i):=by unfold dst lg;cases dn<;>simp only[xaj,xan]at hstep⊢ <;>omega
  rw[hnx];refine JE.of (.perm ((xaT (l₁:=X)).trans (List.Perm.cons _ xaT))) (h83 _ _ λgs=>Br.yes ?_);refine az.mk ⟨lg dn i,C6,rfl,rfl,hA6,?_⟩ ?_
  ·rw[heq]at hne⊢;unfold lg;cases dn<;>simp only[xaj,xan]at hi hstep⊢ <;>omega
  have EM:∀i sw C',DE (eU wp (gD kp i b.2.1 b.2.2 gr sw Wq (AQ dn Sb))::C')=i:=λi sw C'=>by simp[DE,eU,gD,bj]
  rw[EM,EM,heq];rw[heq]at hne;unfold lg dst;cases dn<;>simp only[xaj,xan]at hi hstep⊢ <;>omega
 have Yw:i=b.2.2:=xes.1 Yw;subst Yw;subst hr;refine JE.mk (h83 _ _ λgs=>Br.no ?_);refine JE.of ?_ (fin b.2.1 Wq (AQ dn Sb) C5 hA5);refine(aI.cons .tail).trans ?_;refine(aI.perm (xaT (l₁:=X)).symm).trans ?_;have e:s3+dst p b.2.2=dst a.1 p+dst a.1 p+dst b.1 p+(dst b.1 p+dst p b.2.2):=by omega
 rw[e];exact .refl _
end
end
section
theorem Pa{n A:Nat}{L:List (zL)}(hn:n<=16)(hl:L.length<33554432){k:Nat}(hk:k<=n):(an.st n L A k).length<2199023255551:=by
 have h2:=an.q9 n L A k;have h3:2^k<=2^16:=xax zD zO;have h4:2^k*L.length<=2^16*L.length:=xa8 _ h3;omega
theorem RL{B:Hp}{v1 v2:zV}{a b:zL}(h1:Words B v1 a)(h2:Words B v2 b)(cL:a.length<2^62):Rd zQ 309 #[v1,v2] B (· =.bool (decide (a=b))):=by
 refine aK λg=>FK (h1.1.bF (h2.1.bF ?_));simp only[aq];refine ae.mF (Br.dec (λh=>?_) (λh=>?_))
 ·exact bE.mk (.refl _) (by rw[xaq (λe=>h (by rw[e]))])
 refine h1.1.bF ?_;simp only[aq];have hlen:a.length=b.length:=by omega
 refine⟨λvs H=>H=B/\∃j:Nat,vs=[iv (j:Int)]/\j<=a.length/\∀i,i<j->a[i]? =b[i]?,λvs _=>a.length-bj vs 0,JE.mk ⟨rfl,0,rfl,by omega,by omega⟩,?_⟩;rintro w H ⟨rfl,j,⟨⟩,hj,aF⟩ gs;refine ae.cU (Br.dec (λhlt=>?_) (λhlt=>?_))
 ·have ga:a[j]? =some a[j]:=xab hlt;have gb:b[j]? =some b[j]:=xab zO;refine h1.1.ld (cI ga) (λ_ h=>h) ?_;refine h2.1.ld (cI gb) (λ_ h=>h) ?_;refine ae.mF (Br.dec (λhne=>?_) (λhne=>?_))
  ·exact bE.mk (.refl _) (by rw[xaq];rintro rfl;exact hne rfl)
  refine ae.inc (az.mk ⟨rfl,j+1,rfl,by omega,λi hi=>?_⟩ (by simp[bj];omega));by_cases e:i=j
  ·subst e;rw[ga,gb];simp;omega
  exact aF i zO
 refine bE.mk (.refl _) ?_;rw[xav];apply xbm ;intro i;by_cases hi:i<a.length
 ·exact aF i zO
 rw[xaH zO,xaH zO]
theorem Qa{B:Hp}{v:zV}{n u A:Nat}{L:List (zL)}(ht:iC B v (L.map λws=>⟨n,ws⟩))(hf:∀ws∈L,an.dG n ws)(hne:L≠[])(cL:L.length<4398046511104)(hA:A<2^n)(hu:u<n)(hAu:A.testBit u=false):
  Rd zQ 303 #[v,.int .u64 (A:Int),iv (u:Int)] B (· =.tuple #[iv ((an.lvl n L A u:Nat):Int),iv 0]):=by
 obtain⟨w0,Oh⟩:∃w0,L[0]? =some w0:=⟨_,xab (xcA.2 hne)⟩;have pD:n<=16:=(hf w0 (xaz Oh)).tw;have akB:A<65536:=xa0 hA (xax (n:=2) zD pD);refine aK λg=>FO (aa.eq (uC ht zP) ?_);rw[xav (BE hf)];refine Un.not (Br.no λJ hJ=>(ht.bF ?_));rw[xau];have hpos:0<L.length:=xcA.2 hne;refine ae.iF (b:=0) (Br.VG hpos (ht.ldN (i:=0) (t:=⟨n,w0⟩) (by rw[xas,Oh];rfl) (λ_ h=>h) ?_));refine JE.mk (hJ _ _ λgs=>?_);simp only;refine ae.lss (cr.or (decide (n<=u)) (λ_=>?_) rfl λgs=>?_)
 ·exact ae.mh ⟨by trivial,rfl⟩
 rw[show(decide ((u:Int)<0)||decide (n<=u))=false by simp;omega];refine cr.or (decide (A>>>n≠0)) (λ_=>?_) rfl λgs=>?_
 ·exact ae.gk (by simp[aU];omega) (ae.mF (b:=0) ⟨by trivial,rfl⟩)
 rw[show(false||decide (A>>>n≠0))=false by rw[xaR,xct hA];rfl];apply Br.no;have abd:∀k,A>>>k<18446744073709551616:=λk=>xaL (xbM _ _) zO;refine ae.gk (by simp[aU];omega) (ae.fY (b:=1) (by simpa[aU]using abd u) zD (ae.bu (b:=1) (Br.RV (by rw[an.AD,hAu];simp) (aa.fq (Lg ht rfl hf zO) ?_))));rintro r H ⟨b,es,ck,m,N,rfl,rfl,hE,hm⟩;have hbound:∀k,k<=n->∀m:List (List UInt8×zL),(m.map Prod.snd).Nodup->(∀x,x∈m.map Prod.snd↔x∈an.st n L A k)->m.length<4611686018427387904:=by
  intro k hk m gE hmem;have h1:=(an.iL gE (an.mN n L A k) hmem).length_eq;have h2:=an.q9 n L A k;have h3:2^k<=2^16:=xax zD zO;have h4:2^k*L.length<=2^16*L.length:=xa8 _ h3;rw[xau]at h1;omega
 refine⟨λvs H=>∃(k:Nat) (b:Nat) (es:Array MapEntry) (ck:Nat) (m:List (List UInt8×zL)) (N:Hp),vs=[.map (some b),iv (k:Int)]/\k<=n/\H=(b,.map es ck)::(N++B)/\fW n (N++B) es ck m/\∀x,x∈m.map Prod.snd↔x∈an.st n L A k,
  λvs _=>n-bj vs 1,JE.mk ⟨0,b,es,ck,m,N,rfl,by omega,rfl,hE,λx=>by rw[hm];exact an.fH.symm⟩,?_⟩
 clear hm hE;rintro w25 w26 H ⟨k,b,es,ck,m,N,⟨⟩,hk,rfl,hE,hm⟩ gs;have vp:=hE.mono (B':=(b,Obj.map es ck)::(N++B)) zS;refine ae.cU (Br.dec (λhlt=>?_) (λhlt=>?_))
 ·intro J hJ;refine ae.gk (by simp[aU];omega) (ae.fY (b:=1) (by simpa[aU]using abd k) zD (ae.bu (b:=1) (Br.dec (λh=>?_) (λh=>?_))))
  ·have hb:=(an.AD A k).1 h;refine aa.fq (Cv (.head _) vp hlt (hbound k hk m hE.nodup hm)) ?_;rintro r H ⟨b',es',cE,m',N',rfl,rfl,Co,hm'⟩;refine Ext.mk rfl (Ext.mk rfl (JE.mk (hJ _ _ λgs=>?_)));refine ae.inc (az.mk ⟨k+1,b',es',cE,m',N'++(b,.map es ck)::N,rfl,by omega,by rw[xai];rfl,by rw[xai];exact Co,λx=>?_⟩ (by simp[bj];omega));rw[hm',an.st,xae hb,an.bZ];constructor
   ·rintro⟨t,h1,h2⟩;exact⟨t,(hm t).1 h1,h2⟩
   rintro⟨t,h1,h2⟩;exact⟨t,(hm t).2 h1,h2⟩
  have hb:A.testBit k=false:=by cases hh:A.testBit k;rfl;exact absurd ((an.AD A k).2 hh) h
  refine JE.mk (hJ _ _ λgs=>?_);refine ae.inc (az.mk ⟨k+1,b,es,ck,m,N,rfl,by omega,rfl,hE,λx=>?_⟩ (by simp[bj];omega));rw[hm,an.st,hb];simp
 have:k=n:=by omega
 subst this;refine aa.fq (Cv (.head _) vp hu (hbound k hk m hE.nodup hm)) ?_;rintro r H ⟨b',es',cE,m',N',rfl,rfl,Co,hm'⟩;refine Ext.mk rfl (Ext.mk rfl (bE.mk ?_ ?_))
 ·exact .skip (.bY (.skip .right))
 have:=an.lj (n:=k) (v:=u) (an.iL hE.nodup (an.mN k L A k) hm);unfold an.lvl;rw[<-this];rfl
theorem um{B:Hp}{v:zV}{t:Tb}(ht:DT B v t):Rd zQ 302 #[v] B (· =.tuple (if TF t then#[.int .u64 ((an.oX t.n.toNat t.ws:Nat):Int),iv 0]else#[.int .u64 0,iv 5])):=by
 obtain⟨tn,ws⟩:=t;obtain⟨s,rfl,hw⟩:=ht;simp only at hw⊢;refine aK λg=>FP λb1 _=>?_;refine au.q ?_;refine nD λb2=>?_;refine aa.rd .here (lZ (t:=⟨tn,ws⟩) (by exact .head _) (hw.mono zS)) ?_;rintro v rfl;apply Un.not;by_cases hT:TF ⟨tn,ws⟩
 case neg=>
  rw[xaq hT,xac hT];exact Br.yes (bE.mk (by repeat (first|exact aI.refl _|apply aI.cons|apply aI.skip|apply aI.cT|apply aI.bY)) rfl)
 rw[xav hT,xae hT];apply Br.no;obtain⟨n,rfl⟩:∃n:Nat,tn=n:=⟨tn.toNat,by have:=hT.1;simp only at this;omega⟩;have hf:an.dG n ws:=by have:=hT.2;simpa using this
 refine ag.mk (Ld.mk zM rfl ?_);refine⟨λvs H=>∃(k:Nat) (N:Hp),vs=[.int .u64 ((an.j5 n ws k:Nat):Int),iv (k:Int)]/\k<=n/\H=(b1,.cells (Value.cells (.agg #[iv (n:Int),s])) 37 zZ)::(N++B),
  λvs _=>n-bj vs 1,JE.of .tail ⟨0,[],rfl,by omega,rfl⟩,?_⟩
 rintro w15 w16 H ⟨k,N,⟨⟩,hk,rfl⟩ gs;have pD:=hf.tw;have Ca:=an.mK n ws k;have ajk:an.j5 n ws k<65536:=xa0 Ca (xax (n:=2) zD (by omega:k<=16));refine ae.cU (Br.dec (λhlt=>?_) (λhlt=>?_))
 ·intro J hJ;refine DR.self (au.q (au.q ?_));refine aa.pq (B:=N++B) (Aj (v:=.agg (List.toArray [iv (n:Int),s])) ⟨s,rfl,hw.mono zS⟩ hf hlt) ?_;rintro v N1 ⟨s1,rfl,kQ⟩;refine⟨.cons .right,A1.mk rfl ?_⟩;refine aa.pq (B:=N1++(N++B)) (Aj (v:=.agg (List.toArray [iv (n:Int),s])) ⟨s,rfl,hw.mono zS⟩ hf hlt) ?_;rintro v N2 ⟨s2,rfl,xh⟩;refine⟨.cons (.bY .right),A1.mk rfl ?_⟩;refine aa.eq (B:=N2++(N1++(N++B))) (RL (kQ.mono zS) xh (by have:=tS (an.dU (v:=k) (ws:=ws) (b:=false) hf.tw);simp only;omega)) (⟨.cons (.bY .right),Un.not ?_⟩);have gG:JE J [.int .u64 ((an.j5 n ws (k+1):Nat):Int)] ((b1,.cells (Value.cells (.agg #[iv (n:Int),s])) 37 zZ)::(N2++(N1++(N++B)))):=by
   refine JE.mk (hJ _ _ λgs=>?_);exact ae.inc (az.mk ⟨k+1,N2++(N1++N),rfl,by omega,by rw[xai,xai]⟩ (by simp[bj];omega))
  rw[an.j5]at gG;by_cases hd:an.dep n ws k=true
  ·rw[xae hd]at gG;have:an.gf n ws k false≠an.gf n ws k true:=by simpa[an.dep]using hd
   rw[xaq this];refine Br.yes (ae.tj (a:=1) ?_);have h2:2^k<65536:=xa0 (xcy (n:=16) zD zO) zD;rw[xbh,xa3 zO];exact ae.Of (by simp[aU];omega) (by simp[aU];omega) gG
  rw[xac hd]at gG;have:an.gf n ws k false=an.gf n ws k true:=by simpa[an.dep]using hd
  rw[xav this];exact Br.no gG
 have:k=n:=by omega
 subst this;refine bE.mk (.skip .right) ?_;simp[an.oX]
theorem PR{B:Hp}{v:zV}{ts:List Tb}(ht:iC B v ts)(cL:ts.length<4398046511104):Px zQ 301 #[v] B (λr _=>∃s,r=.tuple #[s,iv (if qS ts then 0 else 5)]):=by
 refine aK λg=>FQ (aa.eq (uC ht zO) (Un.not ?_));by_cases hO:qS ts
 case neg=>rw[xaq hO,xac hO];exact Br.yes (AJ.mk (.refl _) ⟨_,rfl⟩)
 rw[xav hO,xae hO];refine Br.no (ht.bF (ae.bu (b:=0) (Br.dec (λh0=>AJ.mk (.refl _) ⟨_,rfl⟩) (λh0=>?_))));obtain⟨n,L,pD,rfl,hne,hf⟩:=I7 hO (by intro e;rw[e]at h0;exact h0 rfl);rw[xau]at cL;obtain⟨w0,Oh⟩:∃w0,L[0]? =some w0:=⟨_,xab (xcA.2 hne)⟩;refine ht.ldN (i:=0) (t:=⟨n,w0⟩) (by rw[xas,Oh];rfl) (λ_ h=>h) ?_;simp only;refine dj.ints zO zO λbw=>?_;refine ht.bF ?_;refine⟨λvs H=>∃(k:Nat) (l:zL),vs=[iv (k:Int)]/\k<=L.length/\H=(bw,.cells (aA .u64 (iw l)) 40 zZ)::B/\l.length=n/\∀w∈l,w<18446744073709551616,
  λvs _=>L.length-bj vs 0,JE.mk ⟨0,List.replicate n 0,rfl,by omega,by simp[iw],by simp,λw hw=>by rw[xca hw];decide⟩,?_⟩
 rintro w H ⟨k,l,⟨⟩,hk,rfl,hl,WO⟩ gs;rw[xau];refine ae.cU (Br.dec (λhlt=>?_) (λhlt=>?_))
 ·have hg:(L.map λws=>(⟨n,ws⟩:Tb))[k]? =some ⟨n,L[k]⟩:=by rw[xas,xab hlt];rfl
  have oe:=hf L[k] (xaD hlt);refine ht.ld hg zS λs hw=>?_;intro b2 _;refine St.p ?_ ?_
  ·have:=bC hw;simpa[Value.oneCell']using this
  refine au.q ?_;refine aa.eq (B:=B) (um (v:=.agg (List.toArray [iv (n:Int),s])) (t:=⟨n,L[k]⟩) ⟨s,rfl,hw⟩) ?_;rw[xae (show TF ⟨(n:Int),L[k]⟩from⟨by simp,by simpa using oe⟩)];refine Ext.mk rfl (Ext.mk rfl (aG.mk ?_));simp only[xbH];have abb:an.oX n L[k]<65536:=xa0 (an.mK n L[k] n) (xax (n:=2) zD pD);refine⟨λvs H=>∃(j:Nat) (l:zL),vs=[iv (j:Int)]/\j<=n/\H=(bw,.cells (aA .u64 (iw l)) 40 zZ)::B/\l.length=n/\∀w∈l,w<18446744073709551616,
   λvs _=>n-bj vs 0,JE.of .tail ⟨0,l,rfl,by omega,rfl,hl,WO⟩,?_⟩
  rintro w H ⟨j,l,⟨⟩,hj,rfl,hl,WO⟩ gs;refine ae.cU (Br.dec (λWR=>?_) (λWR=>?_))
  ·intro J hJ;have gG:∀l:zL,l.length=n->(∀w∈l,w<18446744073709551616)->JE J [] ((bw,.cells (aA .u64 (iw l)) 40 zZ)::B):=λl hl WO=>by
    refine JE.mk (hJ _ λgs=>?_);exact ae.inc (az.mk ⟨j+1,l,rfl,by omega,rfl,hl,WO⟩ (by simp[bj];omega))
   have hsh:an.oX n L[k]>>>j<65536:=xaL (xbM _ _) abb;refine ae.gk (by simp[aU];omega) (ae.fY (b:=1) (by simp[aU];omega) zD (ae.bu (b:=1) (Br.dec (λh=>?_) (λh=>gG l hl WO))));refine DR.self ?_;have hgj:l[j]? =some l[j]:=xab zO;have hlj:=WO _ (xaD (show j<l.length by omega));refine ai.nat WR ?_;refine Ld.mk (v:=.int .u64 (l[j]:Int)) (by exact .head _) (by simp[aA,iw,hgj]) ?_;refine ae.tj (a:=1) ?_;have h2:2^j<65536:=xa0 (xcy (n:=16) zD zO) zD;rw[xbh,xa3 zO];refine ae.JU (by simp[aU];omega) (by simp[aU];omega) ?_;have h3:=n7 (an.oX n L[k]) (2^j);refine ae.Of (by simp only[aU];exact hlj) (by simp only[aU];omega) (ai.nat WR ?_);refine St.ints (l:=iw l) (by exact .head _) zP ?_;have e:(iw l).set j ((l[j]|||nF (an.oX n L[k]) (2^j):Nat):Int)=iw (l.set j (l[j]|||nF (an.oX n L[k]) (2^j))):=by simp[iw,xc3]
   rw[e];refine gG _ (by simp[hl]) λw hw=>?_;rcases xcm hw with hw|rfl
   ·exact WO w hw
   exact xb8 (n:=64) hlj zO
  exact ae.inc (az.mk ⟨k+1,l,rfl,by omega,rfl,hl,WO⟩ (by simp[bj];omega))
 exact AJ.mk (by repeat (first|exact bH.refl _|apply bH.cons|apply bH.app)) ⟨_,rfl⟩
end
end Go.Proofs
namespace an
open Go.Sx
def fT:zL->Nat
 | []=>0
 |x::r=>r.foldl min x
theorem qG:∀(r:zL) (x:Nat),r.foldl min x<=x/\∀y∈r,r.foldl min x<=y
 | [],x=>⟨xak _,by simp⟩
 |z::r,x=>by
  obtain⟨h1,h2⟩:=qG r (min x z);refine⟨by rw[xcL];omega,λy hy=>?_⟩;rw[xcL];rcases xag.1 hy with rfl|hy
  ·omega
  exact h2 y hy
theorem oK:∀(r:zL) (x:Nat),r.foldl min x=x\/r.foldl min x∈r
 | [],x=>.inl rfl
 |z::r,x=>by
  rw[xcL];rcases oK r (min x z)with h|h
  ·rw[h];rcases Nat.le_total x z with h'|h'
   ·left;omega
   right;rw[xdj h'];simp
  right;exact xbz _ h
theorem BN{l:zL}{y:Nat}(h:y∈l):fT l<=y:=by
 cases l with
 |nil=>simp at h
 |cons x r=>
  obtain⟨h1,h2⟩:=qG r x;rcases xag.1 h with rfl|h
  ·exact h1
  exact h2 y h
theorem nV{l:zL}(h:l≠[]):fT l∈l:=by
 cases l with
 |nil=>exact absurd rfl h
 |cons x r=>
  rcases oK r x with h|h
  ·show r.foldl min x∈_;rw[h];simp
  exact xbz _ h
theorem BO{l:zL}{m:Nat}(h1:m∈l)(h2:∀y∈l,m<=y):fT l=m:=
 xeD (BN h1) (h2 _ (nV (by intro e;rw[e]at h1;simp at h1)))
theorem Es(l:zL)(x:Nat):fT (l++[x])=if l=[]then x else min (fT l) x:=by
 cases l with
 |nil=>rfl
 |cons y r=>simp[fT,xdY]
def bT(n a:Nat):zL:=(List.range n).filter λv=> !a.testBit v
def has(n a:Nat):zL:=(List.range n).filter λv=>a.testBit v
theorem cH{n a v:Nat}:v∈bT n a↔v<n/\a.testBit v=false:=by simp[bT]
theorem qf{n a v:Nat}:v∈has n a↔v<n/\a.testBit v=true:=by simp[has]
theorem ni{α:Type}(p q:α->Bool)(x:α):∀(l:List α),l.Nodup->x∈l->p x=true->q x=false->(∀y∈l,y≠x->q y=p y)->(l.filter q).length+1=(l.filter p).length
 | [],_,h,_,_,_=>by simp at h
 |y::l,nd,h,hp,hq,aF=>by
  rw[xaX]at nd;by_cases e:y=x
  ·subst e;have hsame:l.filter q=l.filter p:=by
    apply xdw;intro z hz;exact aF z (by simp[hz]) (λe=>nd.1 (e▸hz))
   rw[xb4,xb4,hp,hq,hsame];simp
  have hxl:x∈l:=by rcases xag.1 h with h|h;exact absurd h.symm e;exact h
  have ih:=ni p q x l nd.2 hxl hp hq λz hz hne=>aF z (by simp[hz]) hne;have hy:=aF y zI e;rw[xb4,xb4,hy];cases p y
  ·simpa using ih
  simp only[xa4,xal];omega
theorem p8{a u v:Nat}(h:v≠u):(aD a u true).testBit v=a.testBit v:=by rw[aj,xac h]
theorem gp{n a v:Nat}(h:v∈bT n a):(bT n (aD a v true)).length+1=(bT n a).length:=by
 obtain⟨h1,h2⟩:=cH.1 h;refine ni _ _ v (List.range n) xbo (xaJ.2 h1) (by simp[h2]) (by simp[aj]) λy hy hne=>?_;rw[p8 hne]
def Sp(n:Nat)(c:Nat->Nat->Nat):Nat->Nat->Nat
 |0,_=>0
 |f+1,a=>fT ((bT n a).map λv=>c a v+Sp n c f (aD a v true))
def par(n:Nat)(c:Nat->Nat->Nat):Nat->Nat->Nat
 |0,_=>0
 |f+1,s=>fT ((has n s).map λv=>c (aD s v false) v+par n c f (aD s v false))
theorem Dl{n:Nat}{c:Nat->Nat->Nat}:∀(f:Nat) (a:Nat),(bT n a).length<=f->Sp n c (f+1) a=Sp n c f a
 |0,a,h=>by
  have:bT n a=[]:=xch.1 zO;simp[Sp,this,fT]
 |f+1,a,h=>by
  rw[Sp,Sp];congr 1;apply xbi;intro v hv;rw[Dl f _ (by have:=gp hv;omega)]
theorem Uu(n a:Nat):(bT n a).length<=n:=by have:=xbW (λv=> !a.testBit v) (List.range n);simpa[bT]using this
def B(n:Nat)(c:Nat->Nat->Nat)(a:Nat):Nat:=Sp n c n a
def W(n:Nat)(c:Nat->Nat->Nat)(s:Nat):Nat:=par n c n s
theorem Iz(n:Nat)(c:Nat->Nat->Nat)(a:Nat):B n c a=fT ((bT n a).map λv=>c a v+B n c (aD a v true)):=by
 unfold B;rw[<-Dl n a (Uu n a)];rfl
theorem ac3{n:Nat}{c:Nat->Nat->Nat}{a v:Nat}(hv:v∈bT n a):B n c a<=c a v+B n c (aD a v true):=by
 rw[Iz n c a];exact BN (xam.2 ⟨v,hv,rfl⟩)
theorem ac4{n:Nat}{c:Nat->Nat->Nat}{a:Nat}(h:bT n a≠[]):∃v∈bT n a,B n c a=c a v+B n c (aD a v true):=by
 have:=nV (l:=(bT n a).map λv=>c a v+B n c (aD a v true)) (by simpa using h);rw[<-Iz]at this;obtain⟨v,hv,e⟩:=xam.1 this;exact⟨v,hv,e.symm⟩
theorem Kk{n:Nat}{c:Nat->Nat->Nat}{a:Nat}(h:bT n a=[]):B n c a=0:=by rw[Iz,h];rfl
structure Used(n:Nat)(c:Nat->Nat->Nat)(U:Nat):Prop where
 zero:∀a v,v<n->a.testBit v=false->U.testBit v=false->c a v=0
 mask:∀a v,v<n->a.testBit v=false->c a v=c (a&&&U) v
theorem nG{a U v:Nat}{b:Bool}:(aD a v b) &&&U=if U.testBit v then aD (a&&&U) v b else a&&&U:=by
 apply xaY;intro k;by_cases hU:U.testBit v=true
 ·rw[xae hU,xa6,aj,aj,xa6];by_cases e:k=v
  ·subst e;simp[hU]
  simp[e]
 rw[xac hU,xa6,aj,xa6];by_cases e:k=v
 ·subst e;simp[hU]
 simp[e]
def dr(n U a:Nat):zL:=(bT n a).filter λv=>U.testBit v
theorem eX{n U a v:Nat}:v∈dr n U a↔v<n/\a.testBit v=false/\U.testBit v=true:=by simp[dr,cH,and_assoc]
theorem j9(n U a:Nat):dr n U (a&&&U)=dr n U a:=by
 unfold dr bT;rw[xds,xds];apply xdw;intro v _;rw[xa6];cases a.testBit v<;>cases U.testBit v<;>rfl
theorem Iy{n U:Nat}{c:Nat->Nat->Nat}(hU:Used n c U):∀(d a:Nat),(bT n a).length=d->B n c a=fT ((dr n U a).map λv=>c (a&&&U) v+B n c (aD a v true))/\∀a',(bT n a').length<=d->a'&&&U=a&&&U->B n c a'=B n c a:=by
 intro d;induction d using Nat.strongRecOn with
 |_ d ih=>
  have key:∀a,(bT n a).length=d->B n c a=fT ((dr n U a).map λv=>c (a&&&U) v+B n c (aD a v true)):=by
   intro a hd;by_cases hm:bT n a=[]
   ·have h1:dr n U a=[]:=by unfold dr;rw[hm];rfl
    rw[h1,Kk hm];rfl
   have hle:∀v∈dr n U a,B n c a<=c (a&&&U) v+B n c (aD a v true):=λv hv=>by
    obtain⟨h1,h2,h3⟩:=eX.1 hv;rw[<-hU.mask a v h1 h2];exact ac3 (cH.2 ⟨h1,h2⟩)
   obtain⟨v,hv,he⟩:=ac4 (c:=c) hm;obtain⟨h1,h2⟩:=cH.1 hv;by_cases hu:U.testBit v=true
   ·symm;refine BO (xam.2 ⟨v,eX.2 ⟨h1,h2,hu⟩,by rw[<-hU.mask a v h1 h2];exact he.symm⟩) λy hy=>?_;obtain⟨w,hw,rfl⟩:=xam.1 hy;exact hle w hw
   have xj:U.testBit v=false:=by simpa using hu
   rw[hU.zero a v h1 h2 xj,xaZ]at he;have hlt:(bT n (aD a v true)).length<d:=by have:=gp hv;omega
   have hand:aD a v true&&&U=a&&&U:=by rw[nG,xac hu]
   obtain⟨k1,k2⟩:=ih _ hlt (aD a v true) rfl;have WN:dr n U (aD a v true)=dr n U a:=by rw[<-j9,hand,j9]
   by_cases EO:dr n U a=[]
   ·rw[WN,EO]at k1;rw[he,k1,EO];rfl
   symm;rw[WN,hand]at k1;have hmem:=nV (l:=(dr n U a).map λw=>c (a&&&U) w+B n c (aD (aD a v true) w true)) (by simpa using EO);rw[<-k1]at hmem;obtain⟨w,hw,sM⟩:=xam.1 hmem;obtain⟨w1,w2,w3⟩:=eX.1 hw;have hwv:w≠v:=λe=>by rw[e]at w3;rw[xj]at w3;cases w3
   have W0:aD (aD a v true) w true=aD (aD a w true) v true:=by
    apply xaY;intro k;rw[aj,aj,aj,aj];by_cases e1:k=w<;>by_cases e2:k=v<;>simp[e1,e2]
   have hmw:w∈bT n a:=cH.2 ⟨w1,w2⟩;have hsub:B n c (aD (aD a v true) w true)=B n c (aD a w true):=by
    have rL:(bT n (aD a w true)).length<d:=by have:=gp hmw;omega
    refine(ih _ rL (aD a w true) rfl).2 _ ?_ ?_
    ·have hvm:v∈bT n (aD a w true):=cH.2 ⟨h1,by rw[aj,xac (xbp hwv)];exact h2⟩;have:=gp hvm;rw[W0];omega
    rw[W0,nG,xac hu]
   have hval:c (a&&&U) w+B n c (aD a w true)=B n c a:=by rw[he,<-sM,hsub]
   refine BO (xam.2 ⟨w,hw,hval⟩) λy hy=>?_;obtain⟨z,hz,rfl⟩:=xam.1 hy;exact hle z hz
  intro a hd;refine⟨key a hd,λa' dN hand=>?_⟩;have WN:dr n U a'=dr n U a:=by rw[<-j9,hand,j9]
  have h':B n c a'=fT ((dr n U a').map λv=>c (a'&&&U) v+B n c (aD a' v true)):=by
   rcases xdx (bT n a').length d with h|h
   ·exact(ih _ h a' rfl).1
   exact key a' zO
  rw[h',key a hd,WN,hand];congr 1;apply xbi;intro v hv;congr 1;obtain⟨v1,v2,v3⟩:=eX.1 hv;have hma:v∈bT n a:=cH.2 ⟨v1,v2⟩;have aeT:v∈bT n a':=by
   rw[<-WN]at hv;exact cH.2 ⟨v1,(eX.1 hv).2.1⟩
  have hlt:(bT n (aD a v true)).length<d:=by have:=gp hma;omega
  refine(ih _ hlt (aD a v true) rfl).2 _ ?_ ?_
  ·have:=gp aeT;have:=gp hma;omega
  rw[nG,nG,hand]
theorem Xp{n U:Nat}{c:Nat->Nat->Nat}(hU:Used n c U)(a:Nat):B n c (a&&&U)=B n c a:=by
 have e:(a&&&U) &&&U=a&&&U:=by rw[Nat.and_assoc,Nat.and_self]
 rcases Nat.le_total (bT n (a&&&U)).length (bT n a).length with h|h
 ·exact(Iy hU _ a rfl).2 _ h e
 exact((Iy hU _ (a&&&U) rfl).2 a h e.symm).symm
theorem ac2{n U:Nat}{c:Nat->Nat->Nat}(hU:Used n c U)(a:Nat):B n c a=fT ((dr n U a).map λv=>c (a&&&U) v+B n c (aD (a&&&U) v true)):=by
 rw[(Iy hU _ a rfl).1];congr 1;apply xbi;intro v hv;obtain⟨v1,v2,v3⟩:=eX.1 hv;congr 1;rw[<-Xp hU (aD a v true),nG,xae v3]
def ord(n:Nat)(c:Nat->Nat->Nat):Nat->Nat->zL
 |0,_=>[]
 |f+1,a=>match(bT n a).find? λv=>c a v+B n c (aD a v true)==B n c a with
  |some v=>v::ord n c f (aD a v true)
  |none=>[]
theorem uM{n:Nat}{c:Nat->Nat->Nat}{f a:Nat}(h:bT n a≠[]):∃v,v∈bT n a/\c a v+B n c (aD a v true)=B n c a/\(∀u∈bT n a,u<v->c a u+B n c (aD a u true)≠B n c a)/\ord n c (f+1) a=v::ord n c f (aD a v true):=by
 obtain⟨w,hw,he⟩:=ac4 (c:=c) h;cases hf:(bT n a).find? λv=>c a v+B n c (aD a v true)==B n c a with
 |none=>
  rw[xc2]at hf;exact absurd (by simpa using he.symm) (hf w hw)
 |some v=>
  have h1:=List.find?_some hf;refine⟨v,List.mem_of_find?_eq_some hf,by simpa using h1,λu hu huv=>?_,by rw[ord,hf]⟩;rw[xee]at hf;obtain⟨_,as1,bs,hab,hno⟩:=hf;have hs:(bT n a).Pairwise (· < ·):=List.Pairwise.filter _ List.pairwise_lt_range;rw[hab]at hs hu;rcases xao.1 hu with hu|hu
  ·have:=hno u hu;simpa using this
  rw[List.pairwise_append]at hs;have h2:=hs.2.1;rw[List.pairwise_cons]at h2;rcases xag.1 hu with rfl|hu
  ·omega
  have:=h2.1 u hu;omega
end an
namespace an
open Go.Sx
theorem dx{x u v:Nat}{b c:Bool}(h:u≠v):aD (aD x u b) v c=aD (aD x v c) u b:=by
 apply xaY;intro k;rw[aj,aj,aj,aj];by_cases e1:k=u<;>by_cases e2:k=v
 ·exact absurd (e1.symm.trans e2) h
 ·simp[e1,h]
 ·simp[e2,xbp h]
 simp[e1,e2]
theorem VE{n u v:Nat}{ws:zL}{b:Bool}(hf:dG n ws)(hu:u<n)(hv:v<n)(h:dep n ws v=false):dep n (gf n ws u b) v=false:=by
 by_cases e:u=v
 ·subst e;cases hd:dep n (gf n ws u b) u
  ·rfl
  obtain⟨x,hx,hne⟩:=(tV (dU hf.tw) hu).1 hd;rw[eG hf hu (fA hx hu),eG hf hu (fA hx hu)]at hne;refine absurd ?_ hne;congr 1;apply xaY;intro k;rw[aj,aj,aj,aj];by_cases e:k=u<;>simp[e]
 cases hd:dep n (gf n ws u b) v
 ·rfl
 obtain⟨x,hx,hne⟩:=(tV (dU hf.tw) hv).1 hd;rw[eG hf hu (fA hx hv),eG hf hu (fA hx hv),dx (xbp e),dx (xbp e)]at hne;have:=(tV hf hv).2 ⟨aD x u b,fA hx hu,hne⟩;rw[h]at this;cases this
theorem zm{n:Nat}{L:Fs}{A:Nat}(hL:∀t∈L,dG n t)(hn:n<=16){v:Nat}(hv:v<n)(h:∀t∈L,dep n t v=false):∀k,k<=n->∀t∈st n L A k,dep n t v=false
 |0,_,t,ht=>h t (fH.1 ht)
 |k+1,hk,t,ht=>by
  rw[st]at ht;split at ht
  ·obtain⟨u,hu,b,rfl⟩:=bZ.1 ht;exact VE (D7 hL hn k u hu) zO hv (zm hL hn hv h k zO u hu)
  exact zm hL hn hv h k zO t ht
def aW(n:Nat)(L:Fs):Nat:=L.foldl (λu t=>u|||oX n t) 0
theorem ov(n v:Nat):∀(L:Fs) (u:Nat),(L.foldl (λu t=>u|||oX n t) u).testBit v=(u.testBit v||L.any λt=>(oX n t).testBit v)
 | [],u=>by simp
 |t::L,u=>by rw[xcL,ov n v L,xcx,List.any_cons,Bool.or_assoc]
theorem zl{n v:Nat}{L:Fs}:(aW n L).testBit v=L.any λt=>(oX n t).testBit v:=by
 unfold aW;rw[ov];simp
theorem uc{n v:Nat}{L:Fs}(hv:v<n)(h:(aW n L).testBit v=false):∀t∈L,dep n t v=false:=by
 rw[zl,List.any_eq_false]at h;intro t ht;have:=h t ht;rw[oX,gX]at this;simpa[hv]using this
theorem CB(n:Nat):∀(L:Fs) (u:Nat),u<2^n->L.foldl (λu t=>u|||oX n t) u<2^n
 | [],u,h=>h
 |t::L,u,h=>CB n L _ (xb8 h (mK n t n))
theorem ud(n:Nat)(L:Fs):aW n L<2^n:=CB n L 0 (xbJ n)
theorem IN{n:Nat}{L:Fs}{A:Nat}(hL:∀t∈L,dG n t)(hn:n<=16):∀k,k<=n->∀x,x∈st n L A k↔x∈st n L (A&&&aW n L) k
 |0,_,x=>xc8
 |k+1,hk,x=>by
  have ih:=IN (A:=A) hL hn k zO;rw[st,st,xa6];cases hA:A.testBit k
  ·simpa using ih x
  cases hU:(aW n L).testBit k
  ·simp only[xa4,xel,xaE,xaU];rw[bZ,<-ih x];have hd:=zm (A:=A) hL hn (v:=k) zO (uc zO hU) k zO;have hf:=D7 (A:=A) hL hn k;constructor
   ·rintro⟨t,ht,b,rfl⟩;rw[nx (hf t ht) zO (hd t ht)];exact ht
   intro hx;exact⟨x,hx,false,(nx (hf x hx) zO (hd x hx)).symm⟩
  simp only[xd2,xa4];rw[bZ,bZ];constructor
  ·rintro⟨t,ht,h⟩;exact⟨t,(ih t).1 ht,h⟩
  rintro⟨t,ht,h⟩;exact⟨t,(ih t).2 ht,h⟩
theorem IE{n:Nat}{L:Fs}(hL:∀t∈L,dG n t)(hn:n<=16):Used n (lvl n L) (aW n L):=by
 refine⟨λa v hv _ hU=>?_,λa v hv _=>?_⟩
 ·unfold lvl nodes;rw[xch,xd1];intro t ht;rw[zm hL hn hv (uc hv hU) n (xak _) t ht];simp
 exact lj (iL (mN n L a n) (mN n L _ n) (IN hL hn n (xak _)))
end an
set_option maxRecDepth 100000
namespace Go.Proofs
open Go Go.Sx Tryz
def kp(x:Nat×Nat):zV:=.agg (aA .i64 [(x.1:Int),(x.2:Int)])
def ki(x:Nat):zV:=iv (x:Int)
theorem EE(a b:Nat):Instr.sameNow (.int .i64) (ki a) (ki b)=some (decide (a=b)):=by
 simp only[Instr.sameNow,ki,xa4,xar];rw[xcN];simp;omega
theorem UI(a:Nat):Instr.sameBits 10000 (ki a) (ki a)=true:=by simp[Instr.sameBits,ki]
theorem Qf(a b:Nat×Nat):Dz zQ 386 (kp a) (kp b) (decide (a=b)):=by
 have:=Dz.array (P:=zQ) (t:=386) (e:=3) (q:=.i64) (n:=2) zK zK zK [(a.1:Int),(a.2:Int)] [(b.1:Int),(b.2:Int)] rfl rfl;have e:decide ([(a.1:Int),(a.2:Int)]=[(b.1:Int),(b.2:Int)])=decide (a=b):=by
  rw[xdl];obtain⟨a1,a2⟩:=a;obtain⟨b1,b2⟩:=b;simp;omega
 rw[e]at this;exact this
theorem EC(a:Nat×Nat):mE zQ 386 (kp a):=mE.array (P:=zQ) (t:=386) (e:=3) (q:=.i64) (n:=2) zK zK zK _ rfl
theorem wU(n:Nat)(q:IntKind)(l:List Int):Instr.sameBits (n+1+1) (.agg (aA q l)) (.agg (aA q l))=true:=by
 simp only[Instr.sameBits,aA,xew,xcv,xcr];intro x hx;obtain⟨a,b⟩:=x;have h:=xed hx;have e:a=b:=by
  rw[List.zip_eq_zip_take_min]at hx;obtain⟨i,hi,he⟩:=xbq.1 hx;simp at he;exact he.1.symm.trans he.2
 subst e;have:=h.1;simp only[xdH,xam]at this;obtain⟨y,_,rfl⟩:=this;simp[Instr.sameBits]
theorem UF(a:Nat×Nat):Instr.sameBits 10000 (kp a) (kp a)=true:=wU 9998 _ _
abbrev vrN(v:zV)(x:Nat):Prop:=v=iv (x:Int)
structure J0(n:Nat)(L:List (zL))(n4:Array MapEntry)(mB:Nat)(l5:Array MapEntry)(mA:Nat):Prop where
 ah:∃m,aT kp vrN n4 mB m/\∀x∈m,x.2=an.lvl n L x.1.1 x.1.2
 dow:∃m,aT ki vrN l5 mA m/\∀x∈m,x.2=an.B n (an.lvl n L) x.1
def mi(bp bl bd:Nat)(wM:zV)(n:Nat)(L:List (zL))(U:Nat)(B H:Hp):Prop:=
 ∃n4 mB l5 mA,H=(bp,.cells #[wM,iv (n:Int),iv (U:Int),.map (some bl),.map (some bd)] 364 zZ)::(bl,.map n4 mB)::(bd,.map l5 mA)::B/\J0 n L n4 mB l5 mA
theorem BL{κ:Type}[DecidableEq κ]{f:κ->Nat}{m:List (κ×Nat)}{k:κ}(h:∀x∈m,x.2=f x.1):∀x∈c8 m k (f k),x.2=f x.1:=by
 intro x hx;unfold c8 at hx;split at hx
 ·obtain⟨y,hy,rfl⟩:=xam.1 hx;split
  ·rfl
  exact h y hy
 rcases xao.1 hx with hx|hx
 ·exact h x hx
 simp at hx;subst hx;rfl
theorem BP{κ:Type}[DecidableEq κ]{f:κ->Nat}{m:List (κ×Nat)}{k:κ}{x:Nat}(h:∀x∈m,x.2=f x.1)(hk:bU m k=some x):x=f k:=by
 unfold bU at hk;obtain⟨y,hy,rfl⟩:=xdv.1 hk;have h1:=List.find?_some hy;have h2:=h y (List.mem_of_find?_eq_some hy);simp only[xaQ]at h1;rw[h2,h1]
structure we(wM:zV)(n:Nat)(L:List (zL))(B:Hp):Prop where
 tb:iC B wM (KH n L)
 lY:∀ws∈L,an.dG n ws
 ne:L≠[]
 small:L.length<33554432
 n12:n<=12
theorem Ey{wM:zV}{n:Nat}{L:List (zL)}{B:Hp}(h:we wM n L B)(a v:Nat):an.lvl n L a v<2199023255551:=by
 have h1:an.lvl n L a v<=(an.st n L a n).length:=xbW _ _;have h2:=Pa (n:=n) (A:=a) (L:=L) (by have:=h.n12;omega) h.small (xak n);omega
theorem BI{wM:zV}{n:Nat}{L:List (zL)}{B:Hp}(h:we wM n L B){bp bl bd a v:Nat}{H:Hp}(hp:mi bp bl bd wM n L (an.aW n L) B H)(ha:a<2^n)(hv:v<n)(ie:a.testBit v=false):
  Fc zQ 279 #[.pointer (some ⟨bp,0,none⟩),iv (a:Int),iv (v:Int)] H (λr H'=>r=iv ((an.lvl n L a v:Nat):Int)/\mi bp bl bd wM n L (an.aW n L) B H'):=by
 obtain⟨n4,mB,l5,mA,rfl,hM⟩:=hp;have hU:=an.ud n L;have tD:=h.n12;have kD:2^n<=2^12:=xax zD tD;have Cn:=an.IE h.lY zO;have hsU:an.aW n L>>>v<=an.aW n L:=xbM _ _;refine aK λg=>F3 (Nil.ptr ?_);refine ag.mk (Ld.mk zM rfl ?_);refine ae.gk (by simp[aU];omega) (ae.fY (b:=1) (by simp[aU];omega) zD (ae.bu (b:=0) ?_));have LY:an.aW n L>>>v&&&1=0↔(an.aW n L).testBit v=false:=by
  rw[an.eR,xbg,xbT];cases (an.aW n L).testBit v<;>simp
 refine Br.dec (λh0=>?_) (λh0=>?_)
 ·refine aQ.here ⟨?_,n4,mB,l5,mA,rfl,hM⟩;rw[Cn.zero a v hv ie (LY.1 h0)];rfl
 have hUv:(an.aW n L).testBit v=true:=by cases hh:(an.aW n L).testBit v;exact absurd (LY.2 hh) h0;rfl
 apply Nil.ptr;refine ag.mk (Ld.mk zM rfl ?_);refine ae.fY (by simp[aU];omega) (by simp[aU];omega) ?_;have hlv:an.lvl n L a v=an.lvl n L (a&&&an.aW n L) v:=Cn.mask a v hv ie;have W4:(a&&&an.aW n L).testBit v=false:=by rw[xa6,ie];rfl
 have ZQ:a&&&an.aW n L<2^n:=xaL xcd ha;rw[hlv];obtain⟨a',cY⟩:∃a',a'=a&&&an.aW n L:=⟨_,rfl⟩;rw[<-cY]at W4 ZQ⊢;refine Build.two (q:=.i64) (e:=3) zK zK zK ?_;rw[show aA .i64 [(a':Int),(v:Int)]=List.toArray [iv (a':Int),iv (v:Int)]from rfl];intro Tk _;refine St.q ?_;apply Nil.ptr;refine ag.mk (Ld.mk zM rfl ?_);refine au.q ?_;obtain⟨⟨m1,W9,AT⟩,abL⟩:=hM;have abe:∀J:List zV->Hp->Prop,(∀w25:zV,∀H24:Hp,(∀akL:Fr,aQ (λr H'=>r=iv ((an.lvl n L a' v:Nat):Int)/\mi bp bl bd wM n L (an.aW n L) B H') (.returned w25) H24)->J [w25] H24)->
   ∀VC VK,J0 n L VC VK l5 mA->J [iv ((an.lvl n L a' v:Nat):Int)] ((bp,.cells #[wM,iv (n:Int),iv ((an.aW n L:Nat):Int),.map (some bl),.map (some bd)] 364 zZ)::(bl,.map VC VK)::(bd,.map l5 mA)::B):=
  λJ hJ VC VK hM=>hJ _ _ λgs=>aQ.here ⟨rfl,VC,VK,l5,mA,rfl,hM⟩
 cases hg:bU m1 (a',v)with
 |some x=>
  have hx:=BP (f:=λk=>an.lvl n L k.1 k.2) AT hg;simp only at hx;refine aT.LR (ke:=kp) (k:=(a',v)) Qf EC W9 (by exact .tail _ (.tail _ (.head _))) hg λy hy=>?_;subst hy;refine Ext.two λJ hJ=>(Un.not (Br.no (JE.of .tail ?_)));rw[hx];exact abe J hJ _ _ ⟨⟨m1,W9,AT⟩,abL⟩
 |none=>
  refine aT.xZ (ke:=kp) (k:=(a',v)) Qf EC W9 (by exact .tail _ (.tail _ (.head _))) hg ?_;refine Ext.two λJ hJ=>(Un.not (Br.yes (DR.self (Nil.ptr ?_))));refine ag.mk (Ld.mk zM rfl ?_);refine⟨Tk,0,.i64,0,rfl,rfl,by decide,by decide,?_⟩;refine Ld.q ?_;refine aM.q (aa.eq (B:=B) (Qa (n:=n) (L:=L) h.tb h.lY h.ne (by have:=h.small;omega) ZQ hv W4) (⟨.refl _,Ext.mk rfl (Ext.mk rfl ?_)⟩));refine DR.of (R:=(Tk,.cells (List.toArray [iv (a':Int),iv (v:Int)]) 386 zZ)::(bp,.cells #[wM,iv (n:Int),iv ((an.aW n L:Nat):Int),.map (some bl),.map (some bd)] 364 zZ)::[]) (.cons (.cons (λg w h=>(Own.left (B:=_) (A:=[]) h)))) (Nil.ptr ?_);refine ag.mk (Ld.mk zM rfl ?_);refine au.q ?_;refine aT.OM (ke:=kp) (vr:=vrN) (b:=bl) (val:=iv ((an.lvl n L a' v:Nat):Int)) (k:=(a',v)) (x:=an.lvl n L a' v) Qf EC UF W9 rfl λes' cE Co=>⟨_,.tail (.tail (.head _)),?_⟩;have aeW:∀x∈c8 m1 (a',v) (an.lvl n L a' v),x.2=an.lvl n L x.1.1 x.1.2:=BL (f:=λk:Nat×Nat=>an.lvl n L k.1 k.2) (k:=(a',v)) AT;have YM:J0 n L es' cE l5 mA:=⟨⟨c8 m1 (a',v) (an.lvl n L a' v),Co,aeW⟩,abL⟩;exact JE.of .tail (abe J hJ es' cE YM)
end Go.Proofs
namespace Go.Sx
open Go
theorem uP(n:Int):BitVec.ofInt 64 (IntKind.i64.wrap n)=BitVec.ofInt 64 n:=by
 apply BitVec.eq_of_toNat_eq;simp only[BitVec.toNat_ofInt,IntKind.wrap,IntKind.bits,IntKind.signed,xcv,xaQ];congr 1;split<;>omega
theorem wrap_toInt(x:BitVec 64):IntKind.i64.wrap (x.toNat:Int)=x.toInt:=by
 rw[BitVec.toInt_eq_toNat_cond];have:=x.isLt;have e:(2:Int)^(64-1)=9223372036854775808:=rfl;simp only[IntKind.wrap,IntKind.bits,IntKind.signed,xcv,xaQ,e];split<;>split<;>omega
theorem pA(op:BinOp)(x y:Int):BitVec.ofInt 64 (bits op .i64 x y)=(match op with
  | .and=>BitVec.ofInt 64 x&&&BitVec.ofInt 64 y
  | .or=>BitVec.ofInt 64 x|||BitVec.ofInt 64 y
  | .xor=>BitVec.ofInt 64 x^^^BitVec.ofInt 64 y
  |_=>BitVec.ofInt 64 x&&& ~~~BitVec.ofInt 64 y):=by
 unfold bits;simp only[uP];rw[xcM];simp only[IntKind.bits];rw[BitVec.ofNat_toNat,BitVec.setWidth_eq];cases op<;>rfl
theorem vR(op:BinOp)(x y:Int):bits op .i64 x y=(BitVec.ofInt 64 (bits op .i64 x y)).toInt:=by
 unfold bits;simp only[uP];rw[xcM];simp only[IntKind.bits];rw[BitVec.ofNat_toNat,BitVec.setWidth_eq];exact wrap_toInt _
theorem Le{a U v:Nat}(ha:a<4611686018427387904)(hU:U<4611686018427387904)(hv:v<62):
  bits .and .i64 ((bits .or .i64 a (bits .xor .i64 (-1) U)).fdiv (2^(min (v:Int).toNat IntKind.i64.bits))) 1=if a.testBit v=true\/U.testBit v=false then 1 else 0:=by
 have hX:=pA .or (a:Int) (bits .xor .i64 (-1) U);simp only at hX;have hN:=pA .xor (-1) (U:Int);simp only at hN;rw[hN]at hX;generalize hx:bits .or .i64 a (bits .xor .i64 (-1) U)=x at hX;have hxi:x=(BitVec.ofInt 64 x).toInt:=by rw[<-hx];exact vR _ _ _
 have hm:min (v:Int).toNat IntKind.i64.bits=v:=by simp[IntKind.bits];omega
 rw[hm];have hs:x.fdiv (2^v)=((BitVec.ofInt 64 x).sshiftRight v).toInt:=by
  rw[BitVec.toInt_sshiftRight,<-hxi,Int.shiftRight_eq_div_pow,Int.fdiv_eq_ediv_of_nonneg _ (Int.le_of_lt (Int.pow_pos zD))]
  push_cast;rfl
 rw[hs,vR,pA];simp only[BitVec.ofInt_toInt];rw[hX];have h1:BitVec.ofInt 64 (1:Int)=1#64:=rfl;have h2:BitVec.ofInt 64 (-1:Int)=BitVec.allOnes 64:=by decide
 rw[h1,h2];have LY:((BitVec.ofInt 64 (a:Int)|||BitVec.allOnes 64^^^BitVec.ofInt 64 (U:Int)).sshiftRight v).getLsbD 0=(a.testBit v|| !U.testBit v):=by
  rw[BitVec.getLsbD_sshiftRight];have e1:v+0<64:=by omega
  simp only[xbT,show¬(64<=0)from by decide,xdK,xcH,xcv,show v<64 by omega,xa4];rw[BitVec.getLsbD_or,BitVec.getLsbD_xor,BitVec.getLsbD_allOnes,xcM,xcM,BitVec.getLsbD_ofNat,BitVec.getLsbD_ofNat];simp[show v<64 by omega]
 have gG:∀y:BitVec 64,(y&&&1#64).toInt=if y.getLsbD 0 then 1 else 0:=by
  intro y;have:y&&&1#64=if y.getLsbD 0 then 1#64 else 0#64:=by
   apply BitVec.eq_of_getLsbD_eq;intro i hi;rw[BitVec.getLsbD_and];by_cases h0:i=0
   ·subst h0;cases hb:y.getLsbD 0<;>simp[hb]
   have:(1#64).getLsbD i=false:=by simp[BitVec.getLsbD_one,h0]
   rw[this];cases y.getLsbD 0<;>simp[this]
  rw[this];cases y.getLsbD 0<;>decide
 rw[gG,LY];cases a.testBit v<;>cases U.testBit v<;>simp
theorem aaJ{a U v:Nat}(ha:a<4611686018427387904)(hU:U<4611686018427387904)(hv:v<62){k:zV->Prop}(h:k (.bool (decide (a.testBit v=true\/U.testBit v=false)))):
  Un .xor (.int .i64 (U:Int)) λv33=>ae .num .or (.int .i64 (a:Int)) v33 λv34=>ae .num .shr v34 (.int .i64 (v:Int)) λv35=>ae .num .and v35 (.int .i64 1) λv36=>ae .num .eql v36 (.int .i64 1) k:=by
 refine⟨_,rfl,_,rfl,?_⟩;have h0:¬((v:Int)<0):=by omega
 refine⟨_,by simp only[fL,h0,xaU];rfl,_,rfl,?_⟩;refine ae.jM ?_;have hs:(if IntKind.i64.signed=true then(-1:Int)else IntKind.i64.max)= -1:=rfl;rw[hs,Le ha hU hv];by_cases hc:a.testBit v=true\/U.testBit v=false
 ·rw[xae hc];rw[xav hc]at h;exact h
 rw[xac hc];rw[xaq hc]at h;exact h
end Go.Sx
set_option maxRecDepth 100000
namespace Go.Proofs
open Go Go.Sx Tryz
section
theorem ia(x:zV)(r:List zV)(i:Nat):bj (x::r) (i+1)=bj r i:=by cases x<;>rfl
def ja(n:Nat)(L:List (zL))(U a k:Nat):zL:=((List.range k).filter λv=> !a.testBit v&&U.testBit v).map λv=>an.lvl n L a v+an.B n (an.lvl n L) (an.aD a v true)
theorem KS{n:Nat}{L:List (zL)}{U a:Nat}:ja n L U a n=(an.dr n U a).map λv=>an.lvl n L a v+an.B n (an.lvl n L) (an.aD a v true):=by
 unfold ja an.dr an.bT;rw[xds];congr 1;apply xdw;intro v _;cases a.testBit v<;>cases U.testBit v<;>rfl
theorem uB{n:Nat}{L:List (zL)}{U a k:Nat}:ja n L U a (k+1)=if a.testBit k=true\/U.testBit k=false then ja n L U a k else ja n L U a k++[an.lvl n L a k+an.B n (an.lvl n L) (an.aD a k true)]:=by
 unfold ja;rw[xcO,xcu,xaF];cases h1:a.testBit k<;>cases h2:U.testBit k<;>simp[h1,h2]
def yX(l:zL):zV:=if l=[]then iv (-1)else iv ((an.fT l:Nat):Int)
theorem So(n:Nat)(c:Nat->Nat->Nat)(M:Nat)(hc:∀a v,c a v<=M):∀f a,an.Sp n c f a<=f*M
 |0,a=>by simp[an.Sp]
 |f+1,a=>by
  rw[an.Sp,xbt];by_cases h:an.bT n a=[]
  ·rw[h];simp[an.fT]
  have:=an.nV (l:=(an.bT n a).map λv=>c a v+an.Sp n c f (an.aD a v true)) (by simpa using h);obtain⟨v,_,e⟩:=xam.1 this;rw[<-e];have h1:=hc a v;have h2:=So n c M hc f (an.aD a v true);omega
theorem Kj{wM:zV}{n:Nat}{L:List (zL)}{B:Hp}(h:we wM n L B)(a:Nat):an.B n (an.lvl n L) a<35184372088832:=by
 have h1:=So n (an.lvl n L) 2199023255551 (λa v=>xcs (Ey h a v)) n a;have h2:n*2199023255551<=12*2199023255551:=xa8 _ h.n12;unfold an.B;omega
theorem AH{a U n:Nat}(hU:U<2^n)(h:∀v,v<n->¬(a.testBit v=false/\U.testBit v=true)):a&&&U=U:=by
 apply xaY;intro k;rw[xa6];by_cases hk:k<n
 ·have:=h k hk;cases h1:a.testBit k<;>cases h2:U.testBit k<;>simp_all
 have:U.testBit k=false:=xbQ (xa0 hU (xax zD zO));rw[this];simp
theorem qZ{wM:zV}{n:Nat}{L:List (zL)}{B:Hp}(h:we wM n L B){bp bl bd:Nat}:∀(d a:Nat),(an.dr n (an.aW n L) a).length<=d->a<2^n->∀H,mi bp bl bd wM n L (an.aW n L) B H->
  Fc zQ 280 #[.pointer (some ⟨bp,0,none⟩),iv (a:Int)] H (λr H'=>r=iv ((an.B n (an.lvl n L) a:Nat):Int)/\mi bp bl bd wM n L (an.aW n L) B H'):=by
 have hU:=an.ud n L;have tD:=h.n12;have kD:2^n<=2^12:=xax zD tD;have Cn:=an.IE h.lY zO;intro d;induction d using Nat.strongRecOn with
 |_ d ih=>
  intro a hd ha H hp;obtain⟨n4,mB,l5,mA,rfl,hM⟩:=hp;refine aK λg=>wv (Nil.ptr ?_);refine ag.mk (Ld.mk zM rfl ?_);refine ae.fY (by simp[aU];omega) (by simp[aU];omega) (Nil.ptr ?_);refine ag.mk (Ld.mk zM rfl ?_);have hBa:an.B n (an.lvl n L) a=an.B n (an.lvl n L) (a&&&an.aW n L):=(an.Xp Cn a).symm;have WN:an.dr n (an.aW n L) (a&&&an.aW n L)=an.dr n (an.aW n L) a:=an.j9 _ _ _;have ZQ:a&&&an.aW n L<2^n:=xaL xcd ha;have m8:(a&&&an.aW n L) &&&an.aW n L=a&&&an.aW n L:=by rw[Nat.and_assoc,Nat.and_self]
  rw[hBa];rw[<-WN]at hd;obtain⟨a',cY⟩:∃a',a'=a&&&an.aW n L:=⟨_,rfl⟩;rw[<-cY]at ZQ hd m8⊢;clear hBa WN ha cY;have aF:=KS (n:=n) (L:=L) (U:=an.aW n L) (a:=a');have Ab:an.B n (an.lvl n L) a'=an.fT (ja n L (an.aW n L) a' n):=by
   rw[aF];have:=an.ac2 Cn a';rw[m8]at this;exact this
  refine ae.bu (Br.dec (λh0=>?_) (λh0=>?_))
  ·refine aQ.here ⟨?_,n4,mB,l5,mA,rfl,hM⟩;have:an.dr n (an.aW n L) a'=[]:=by
    rw[xcK];intro v hv;obtain⟨_,h2,h3⟩:=an.eX.1 hv;rw[h0,h3]at h2;cases h2
   rw[Ab,aF,this];rfl
  have hne:ja n L (an.aW n L) a' n≠[]:=by
   rw[aF];intro e;apply h0;rw[<-m8];refine AH hU λv hv hh=>?_;have:v∈an.dr n (an.aW n L) a':=an.eX.2 ⟨hv,hh.1,hh.2⟩;rw[List.map_eq_nil_iff.1 e]at this;simp at this
  apply Nil.ptr;refine ag.mk (Ld.mk zM rfl ?_);obtain⟨QF,m2,vp,tQ⟩:=hM;cases hg:bU m2 a' with
  |some x=>
   have hx:=BP (f:=an.B n (an.lvl n L)) tQ hg;refine aT.hit (ke:=ki) (k:=a') EE vp (by exact .tail _ (.tail _ (.head _))) hg λy hy=>?_;subst hy;refine Ext.mk rfl (Ext.mk rfl (Br.yes (aQ.here ⟨?_,n4,mB,l5,mA,rfl,QF,m2,vp,tQ⟩)));rw[hx];rfl
  |none=>
   refine aT.bT (ke:=ki) (k:=a') EE vp (by exact .tail _ (.tail _ (.head _))) hg ?_;refine Ext.mk rfl (Ext.mk rfl (Br.no (Nil.ptr ?_)));refine ag.mk (Ld.mk zM rfl ?_);refine⟨λvs H=>∃k:Nat,vs=[yX (ja n L (an.aW n L) a' k),iv (k:Int)]/\k<=n/\mi bp bl bd wM n L (an.aW n L) B H,λvs _=>n-bj vs 1,
    JE.mk ⟨0,rfl,xaA _,n4,mB,l5,mA,rfl,QF,m2,vp,tQ⟩,?_⟩
   clear vp tQ hg QF n4 mB l5 mA m2;rintro w22 w23 H ⟨k,⟨⟩,hk,hp⟩ gs;refine ae.cU (Br.dec (λhlt=>?_) (λhlt=>?_))
   ·intro J hJ;have Ol:=hp;obtain⟨n4,mB,l5,mA,rfl,hM⟩:=hp;apply Nil.ptr;refine ag.mk (Ld.mk zM rfl ?_);refine aaJ zO zO zO ?_;have Ce:∀l H,l=ja n L (an.aW n L) a' (k+1)->mi bp bl bd wM n L (an.aW n L) B H->J [yX l] H:=λl H hl hp=>hJ _ _ λgs=>by
     exact ae.inc (az.mk ⟨k+1,by rw[hl],by omega,hp⟩ (by rw[ia,ia];show n-(((k:Int)+1).toNat)<n-((k:Int).toNat);omega))
    by_cases hc:a'.testBit k=true\/(an.aW n L).testBit k=false
    ·rw[xav hc];refine Br.yes (JE.mk (Ce _ _ ?_ Ol));rw[uB,xae hc]
    rw[xaq hc];have hck:a'.testBit k=false/\(an.aW n L).testBit k=true:=by
     cases h1:a'.testBit k<;>cases h2:(an.aW n L).testBit k<;>simp_all
    have hmem:k∈an.dr n (an.aW n L) a':=an.eX.2 ⟨hlt,hck.1,hck.2⟩;refine Br.no (DR.self ?_);have hpk:2^k<=2^12:=xax zD zO;refine ae.Eb (a:=1) (by simp[IntKind.bits];omega) (by rw[xbh];simp[aU];omega) ?_;rw[xbh];refine ae.Of (by simp[aU];omega) (by simp[aU];omega) ?_;have VB:a'|||2^k=an.aD a' k true:=rfl
    rw[VB];refine aa.fq (BI h Ol ZQ hlt hck.1) ?_;rintro r H1 ⟨rfl,ve⟩;have hlen:(an.dr n (an.aW n L) (an.aD a' k true)).length<d:=by
     have h1:(an.dr n (an.aW n L) (an.aD a' k true)).length+1=(an.dr n (an.aW n L) a').length:=by
      unfold an.dr an.bT;rw[xds,xds];refine an.ni _ _ k (List.range n) xbo (xaJ.2 hlt) (by simp[hck]) (by simp[an.aj]) λy hy hne=>?_;rw[an.p8 hne]
     omega
    refine aa.fq (ih _ hlen (an.aD a' k true) (xak _) (an.fA ZQ hlt) H1 ve) ?_;rintro r H2 ⟨rfl,kD⟩;have ZP:=Ey h a' k;have YD:=Kj h (an.aD a' k true);refine ae.eZ ?_;have hstep:=uB (n:=n) (L:=L) (U:=an.aW n L) (a:=a') (k:=k);rw[xac hc]at hstep;generalize an.lvl n L a' k+an.B n (an.lvl n L) (an.aD a' k true)=x at hstep;unfold yX;by_cases hl:ja n L (an.aW n L) a' k=[]
    ·rw[xae hl];refine ae.lss (cr.mk true (λe=>by simp at e) (λ_=>rfl) λgs=>Br.yes (JE.mk ?_));have:=Ce [x] _ (by rw[hstep,hl];rfl) kD;simpa[yX,an.fT]using this
    rw[xac hl];have hms:=an.Es (ja n L (an.aW n L) a' k) x;rw[xac hl,<-hstep]at hms;have aeP:ja n L (an.aW n L) a' (k+1)≠[]:=by rw[hstep];simp
    have DK:=Ce _ H2 rfl kD;unfold yX at DK;rw[xac aeP,hms]at DK;have hneg:decide (((an.fT (ja n L (an.aW n L) a' k):Nat):Int)<0)=false:=xaq zO;by_cases hx:x<an.fT (ja n L (an.aW n L) a' k)
    ·rw[xdj zO]at DK;refine ae.lss ?_;rw[hneg];exact cr.mk true (λ_=>ae.cU ⟨rfl,by rw[xav hx]⟩) (λe=>by simp at e) λgs=>Br.yes (JE.mk DK)
    rw[xcc zO]at DK;refine ae.lss ?_;rw[hneg];exact cr.mk false (λ_=>ae.cU ⟨rfl,by rw[xaq hx]⟩) (λe=>by simp at e) λgs=>Br.no (JE.mk DK)
   have:k=n:=by omega
   subst this;obtain⟨n4,mB,l5,mA,rfl,QF,m2,vp,tQ⟩:=hp;apply Nil.ptr;refine ag.mk (Ld.mk zM rfl ?_);unfold yX;rw[xac hne,<-Ab];refine aT.bV (ke:=ki) (vr:=vrN) (b:=bd) (val:=iv ((an.B k (an.lvl k L) a':Nat):Int)) (k:=a') (x:=an.B k (an.lvl k L) a') EE UI vp rfl λes' cE Co=>⟨_,.tail (.tail (.head _)),?_⟩;have aeV:∀x∈c8 m2 a' (an.B k (an.lvl k L) a'),x.2=an.B k (an.lvl k L) x.1:=BL (f:=an.B k (an.lvl k L)) tQ;exact aQ.here ⟨rfl,n4,mB,es',cE,rfl,QF,_,Co,aeV⟩
end
section
def agu(v:zV)(ts:List Tb)(B:Hp)(r:zV)(H:Hp):Prop:=
 (qS ts/\∃(bp bl bd n:Nat) (L:List (zL)) (N:Hp),ts=KH n L/\(L=[]->n=0)/\n<=16/\(∀ws∈L,an.dG n ws)/\r=.tuple #[.pointer (some ⟨bp,0,none⟩),iv 0]/\mi bp bl bd v n L (an.aW n L) (N++B) H)
 \/(¬qS ts/\r=.tuple #[.pointer none,iv 5])
theorem sD(n:Nat)(L:List (zL)):J0 n L #[] 0 #[] 0:=⟨⟨[],aT.empty,by simp⟩,⟨[],aT.empty,by simp⟩⟩
theorem DY{n:Nat}{L:List (zL)}{k:Nat}(h:k<L.length):an.aW n (L.take (k+1))=an.aW n (L.take k)|||an.oX n L[k]:=by
 unfold an.aW;rw[xbn,xab h,xdR,xdY];rfl
theorem Mo{B:Hp}{v:zV}{ts:List Tb}(ht:iC B v ts)(cL:ts.length<4398046511104):Px zQ 278 #[v] B (agu v ts B):=by
 obtain⟨va,vc,vl,rfl⟩:∃a c l,v=.slice a l c:=by
  obtain⟨rs,h1,_⟩:=ht;obtain⟨a,c,e,_⟩:=h1.shape;exact⟨a,c,_,e⟩
 refine aK λg=>F4 λb1 _ b2 _=>?_;refine Build.mk (cs:=[.slice va vl vc,iv 0,iv 0,.map (some b1),.map (some b2)]) zK λbp _=>?_;generalize hvs:Value.slice va vl vc=vv at ht⊢;refine ht.bF (ae.bu (b:=0) (Br.dec (λh0=>?_) (λh0=>?_)))
 ·have EO:ts=[]:=xb6 h0;subst EO;refine⟨_,_,rfl,aI.cons aI.swap,(by repeat (first|exact bH.refl _|apply bH.cons|apply bH.app)),Or.inl ⟨by simp[qS],bp,b1,b2,0,[],[],rfl,λ_=>rfl,by omega,by simp,rfl,_,_,_,_,?_,sD _ _⟩⟩;subst hvs;rfl
 refine aa.pq (B:=B) (PR ht cL) ?_;rintro r N ⟨s,rfl⟩;apply Ext.two;by_cases hO:qS ts
 case neg=>
  rw[xac hO];exact ae.mF (a:=5) (b:=0) (Br.dec (λ_=>AJ.mk (by repeat (first|exact bH.refl _|apply bH.cons|apply bH.app)) (.inr ⟨hO,rfl⟩)) (λh=>absurd zD h))
 rw[xae hO];refine ae.mF (a:=0) (b:=0) (Br.dec (λh=>absurd rfl h) (λ_=>?_));obtain⟨n,L,pD,rfl,hne,hf⟩:=I7 hO (by intro e;rw[e]at h0;exact h0 rfl);rw[xau]at cL h0;obtain⟨w0,Oh⟩:∃w0,L[0]? =some w0:=⟨_,xab (xcA.2 hne)⟩;refine ht.ldN (i:=0) (t:=⟨n,w0⟩) (by rw[xas,Oh];rfl) zS ?_;simp only;refine Nil.ptr (ag.mk (St.one (c:=#[vv,iv 0,iv 0,.map (some b1),.map (some b2)]) (c':=#[vv,iv (n:Int),iv 0,.map (some b1),.map (some b2)]) (H':=(bp,.cells #[vv,iv (n:Int),iv 0,.map (some b1),.map (some b2)] 364 zZ)::(b2,.map #[] 0)::(b1,.map #[] 0)::(N++B)) (by subst hvs;exact .head _) rfl zI rfl ?_));refine ht.bF ?_;rw[xau];refine⟨λvs H=>∃(k:Nat) (N:Hp),vs=[iv (k:Int)]/\k<=L.length/\H=(bp,.cells #[vv,iv (n:Int),iv ((an.aW n (L.take k):Nat):Int),.map (some b1),.map (some b2)] 364 zZ)::(b2,.map #[] 0)::(b1,.map #[] 0)::(N++B),
  λvs _=>L.length-bj vs 0,JE.mk ⟨0,N,rfl,by omega,rfl⟩,?_⟩
 clear N;rintro w H ⟨k,N,⟨⟩,hk,rfl⟩ gs;refine ae.cU (Br.dec (λhlt=>?_) (λhlt=>?_))
 ·have hg:(L.map λws=>(⟨n,ws⟩:Tb))[k]? =some ⟨n,L[k]⟩:=by rw[xas,xab hlt];rfl
  have oe:=hf L[k] (xaD hlt);refine ht.ld hg zS λs hw=>?_;intro b3 _;refine St.p ?_ ?_
  ·have:=bC hw;simpa[Value.oneCell']using this
  refine au.q ?_;refine aa.eq (B:=B) (um (v:=.agg (List.toArray [iv (n:Int),s])) (t:=⟨n,L[k]⟩) ⟨s,rfl,hw⟩) ?_;rw[xae (show TF ⟨(n:Int),L[k]⟩from⟨by simp,by simpa using oe⟩)];apply Ext.two;simp only[xbH];have ajr:2^n<=2^16:=xax (n:=2) zD pD;have abb:an.oX n L[k]<2^n:=an.mK n L[k] n;have hus:=an.ud n (L.take k);apply Nil.ptr;refine ag.mk (Ld.mk zM rfl ?_);refine aM.q (ae.Of (by simp[aU];omega) (by simp[aU];omega) ?_);rw[<-DY hlt];refine Nil.ptr (ag.mk (St.one (c:=#[vv,iv (n:Int),iv ((an.aW n (L.take k):Nat):Int),.map (some b1),.map (some b2)]) (c':=#[vv,iv (n:Int),iv ((an.aW n (L.take (k+1)):Nat):Int),.map (some b1),.map (some b2)]) (by repeat (first|exact cu.head _|apply cu.tail|apply cu.aH)) rfl zI rfl ?_));exact ae.inc (az.of .tail ⟨k+1,N,rfl,by omega,rfl⟩ (by simp[bj];omega))
 have:k=L.length:=by omega
 subst this;rw[xbc];refine⟨_,_,rfl,aI.cons aI.swap,(by repeat (first|exact bH.refl _|apply bH.cons|apply bH.app)),Or.inl ⟨hO,bp,b1,b2,n,L,N,rfl,λe=>absurd e hne,pD,hf,rfl,_,_,_,_,rfl,sD _ _⟩⟩
theorem PU{n:Nat}{c:Nat->Nat->Nat}{f a v:Nat}(hv:v∈an.bT n a)(he:c a v+an.B n c (an.aD a v true)=an.B n c a)(hm:∀u∈an.bT n a,u<v->c a u+an.B n c (an.aD a u true)≠an.B n c a):
    an.ord n c (f+1) a=v::an.ord n c f (an.aD a v true):=by
  obtain⟨u,h1,h2,h3,h4⟩:=an.uM (c:=c) (f:=f) (List.ne_nil_of_mem hv);rcases xcT u v with h|h|h
  · exact absurd h2 (hm u h1 h)
  · rw[h4,h]
  · exact absurd he (h3 v hv h)
theorem ME{wM:zV}{n:Nat}{L:List (zL)}{B:Hp}{bp bl bd a:Nat}(ha:a<4611686018427387904){H:Hp}(hp:mi bp bl bd wM n L 0 B H):
    Fc zQ 280 #[.pointer (some ⟨bp,0,none⟩),iv (a:Int)] H (λr H'=>r=iv 0/\H'=H):=by
  obtain⟨n4,mB,l5,mA,rfl,hM⟩:=hp;refine aK λg=>wv (Nil.ptr ?_);refine ag.mk (Ld.mk zM rfl ?_);refine ae.fY (b:=0) (by simp[aU];omega) (by simp[aU]) (Nil.ptr ?_);refine ag.mk (Ld.mk zM rfl ?_);exact ae.bu (b:=0) (Br.T (aQ.here ⟨rfl,rfl⟩))
def ac1(ts:List Tb)(B:Hp)(r:zV)(H:Hp):Prop:=
  (¬qS ts/\r=.tuple #[iv 0,.slice none 0 0,iv 5])\/
  (qS ts/\∃(n:Nat) (L:List (zL)),ts=KH n L/\(L=[]->n=0)/\n<=16/\(∀ws∈L,an.dG n ws)/\
    ((12<n/\r=.tuple #[iv 0,.slice none 0 0,iv 6])\/
     (n<=12/\∃(s:zV) (C N:Hp),r=.tuple #[iv ((an.B n (an.lvl n L) 0:Nat):Int),s,iv 0]/\aR 3 .i64 s (iw (an.ord n (an.lvl n L) n 0)) C/\H=C++(N++B))))
structure BSt(n:Nat)(c:Nat->Nat->Nat)(s:zV)(a:Nat)(l:zL)(C:Hp):Prop where
  own:aR 3 .i64 s (iw l) C
  lt:a<2^n
  len:(an.bT n a).length+l.length=n
  pre:l++an.ord n c (n-l.length) a=an.ord n c n 0
theorem JQ{a v:Nat}:(a>>>v&&&1=0)↔a.testBit v=false:=by
  have:=xd6 (x:=a) (i:=v);rw[this,xen,xaR];simp
theorem VO{B:Hp}{v:zV}{ts:List Tb}(ht:iC B v ts)(cL:ts.length<33554432):Px zQ 241 #[v] B (ac1 ts B):=by
  refine aK λg=>Gw (aa.pq (Mo ht zO) ?_);rintro r N0 (⟨hO,bp,bl,bd,n,L,N,rfl,WM,pD,hf,rfl,hp⟩|⟨hO,rfl⟩)
  case inr=>exact Ext.mk rfl (Ext.mk rfl (ae.mF (a:=5) (b:=0) (Br.dec (λ_=>AJ.mk (by repeat (first|exact bH.refl _|apply bH.cons|apply bH.app)) (.inl ⟨hO,rfl⟩)) (λh=>absurd zD h))))
  generalize N0++B=H2 at hp⊢;clear N0;rw[oV]at cL;have Ol:=hp;obtain⟨n4,mB,l5,mA,rfl,hM⟩:=hp;refine Ext.mk rfl (Ext.mk rfl (ae.mF (a:=0) (b:=0) (Br.dec (λh=>absurd rfl h) (λ_=>?_))));apply Nil.ptr;refine ag.mk (Ld.mk zM rfl ?_);refine ae.iF (b:=12) (Br.dec (λh12=>AJ.mk (by repeat (first|exact bH.refl _|apply bH.cons|apply bH.app)) (.inr ⟨hO,n,L,rfl,WM,pD,hf,.inl ⟨h12,rfl⟩⟩)) (λh12=>?_));clear hM;have tD:n<=12:=by omega
  have hOK:L≠[]->we v n L (N++B):=λhne=>⟨ht.mono zS,hf,hne,cL,tD⟩;have kD:2^n<=2^12:=xax zD tD;have hm0:(an.bT n 0).length=n:=by
    have:an.bT n 0=List.range n:=by unfold an.bT;rw[xdn];simp
    rw[this,xaC]
  refine⟨λvs H=>∃(s:zV) (a:Nat) (l:zL) (C H1:Hp),vs=[s,iv (a:Int)]/\BSt n (an.lvl n L) s a l C/\mi bp bl bd v n L (an.aW n L) (N++B) H1/\H=C++H1,
    λvs _=>(an.bT n (bj vs 1)).length,JE.mk ⟨_,0,[],[],_,rfl,⟨aR.nil,xbJ n,by rw[hm0];rfl,by simp⟩,Ol,rfl⟩,?_⟩
  clear Ol n4 mB l5 mA;rintro w14 w15 H ⟨s,a,l,C,H1,⟨⟩,hb,hp,rfl⟩ gs;have Ol:=hp;obtain⟨n4,mB,l5,mA,rfl,hM⟩:=hp;refine hb.own.bF ?_;rw[aq];apply Nil.ptr;refine ag.mk (Ld.mk zM rfl ?_);have W3:=hb.len;refine ae.cU (Br.dec (λhlt=>?_) (λhlt=>?_))
  · have aeS:an.bT n a≠[]:=by intro e;rw[e]at W3;simp at W3;omega
    have hne:L≠[]:=λe=>by have:=WM e;omega
    have mg:=hOK hne;have hnf:n-l.length=n-l.length-1+1:=by omega
    apply Nil.ptr;refine ag.mk (Ld.mk zM rfl ?_);refine⟨λvs H=>∃(k:Nat) (H1:Hp),vs=[w14,iv (a:Int),iv (k:Int)]/\k<=n/\(∀u∈an.bT n a,u<k->an.lvl n L a u+an.B n (an.lvl n L) (an.aD a u true)≠an.B n (an.lvl n L) a)/\mi bp bl bd v n L (an.aW n L) (N++B) H1/\H=C++H1,
      λvs _=>n-bj vs 2,JE.mk ⟨0,_,rfl,by omega,λu _ h=>by omega,Ol,rfl⟩,?_⟩
    clear hM Ol;rintro w28 w29 w30 H ⟨k,H1,⟨⟩,hk,hmin,hp,rfl⟩ gs;refine ae.cU (Br.dec (λhlk=>?_) (λhlk=>?_))
    · intro J hJ
      have hpk:2^k<=2^12:=xax zD zO;have hno:∀H1,¬(a.testBit k=false/\an.lvl n L a k+an.B n (an.lvl n L) (an.aD a k true)=an.B n (an.lvl n L) a)->mi bp bl bd v n L (an.aW n L) (N++B) H1->J [.bool false] (C++H1):=λH1 hx hp=>hJ _ _ λgs=>by
        refine Br.no (ae.inc (az.mk ⟨k+1,H1,rfl,by omega,λu hu hlu=>?_,hp,rfl⟩ (by rw[ia,ia,ia,ia];show n-(((k:Int)+1).toNat)<n-((k:Int).toNat);omega)));by_cases e:u=k
        · subst e;exact λh=>hx ⟨(an.cH.1 hu).2,h⟩
        · exact hmin u hu zO
      refine DR.self ?_;have aka:a<4611686018427387904:=by have:=hb.lt;omega
      refine ae.gk (by simp[aU];omega) (ae.fY (b:=1) (by simp[aU];exact xaL (xbM _ _) zO) zD (ae.bu (b:=0) (Br.dec (λh0=>?_) (λh0=>JE.mk (hno H1 (λh=>h0 (JQ.2 h.1)) hp)))));have hak:=JQ.1 h0;refine ae.Eb (a:=1) (by simp[IntKind.bits];omega) (by rw[xbh];simp[aU];omega) ?_;rw[xbh];refine ae.Of (by simp[aU];omega) (by simp[aU];omega) ?_;have VB:a|||2^k=an.aD a k true:=rfl
      rw[VB];intro F;refine aa.fq (BI mg hp hb.lt hlk hak) ?_;rintro r H2 ⟨rfl,kD⟩;intro F;refine aa.fq (qZ mg _ (an.aD a k true) (xak _) (an.fA hb.lt hlk) H2 kD) ?_;rintro r H3 ⟨rfl,WK⟩;have ZP:=Ey mg a k;have YD:=Kj mg (an.aD a k true);refine ae.eZ λF=>(aa.fq (qZ mg _ a (xak _) hb.lt H3 WK) ?_);rintro r H4 ⟨rfl,ZF⟩;refine ae.bu ?_;by_cases he:an.lvl n L a k+an.B n (an.lvl n L) (an.aD a k true)=an.B n (an.lvl n L) a
      · rw[xav he]
        have hmem:k∈an.bT n a:=an.cH.2 ⟨hlk,hak⟩;have UZ:=PU (f:=n-l.length-1) hmem he hmin;have hml:=an.gp hmem;refine aS.mk (JE.mk (hJ _ _ λgs=>Br.yes ?_));refine ak.int (e:=3) zK zK zK λxb=>?_;refine aR.app (A:=[_]) hb.own (by exact .head _) zP zP λv' C' ho=>?_;refine ae.Eb (a:=1) (by simp[IntKind.bits];omega) (by rw[xbh];simp[aU];omega) ?_;rw[xbh];refine ae.Of (by simp[aU];omega) (by simp[aU];omega) ?_;rw[VB];refine az.of .right ⟨v',an.aD a k true,l++[k],C',H4,rfl,⟨by simpa[iw]using ho,an.fA hb.lt hlk,by simp;omega,?_⟩,ZF,rfl⟩ (by rw[ia,ia];show(an.bT n (an.aD a k true)).length<(an.bT n a).length;omega);have:=hb.pre;rw[hnf,UZ]at this;rw[xaf,xbf,Nat.sub_add_eq,xai];exact this
      · rw[xaq he]
        exact aS.mk (JE.mk (hno H4 (λh=>he h.2) ZF))
    · obtain⟨u,h1,h2,_⟩:=an.uM (c:=an.lvl n L) (f:=0) aeS
      exact absurd h2 (hmin u h1 (by have:=(an.cH.1 h1).1;omega))
  · have jF:l.length=n:=by omega
    have hl:l=an.ord n (an.lvl n L) n 0:=by
      have:=hb.pre;rw[jF,xcC]at this;simpa[an.ord]using this
    have hown:=hb.own;rw[hl]at hown;by_cases hne:L=[]
    · have hn:=WM hne
      subst hne;subst hn;refine aa.fq (ME (a:=0) zO Ol) ?_;rintro r H3 ⟨rfl,rfl⟩;exact⟨_,_,rfl,.refl _,(by repeat (first|exact bH.refl _|apply bH.cons|apply bH.app)),.inr ⟨hO,0,[],rfl,WM,pD,hf,.inr ⟨tD,_,C,(_::_::_::N),rfl,hown,rfl⟩⟩⟩
    · refine aa.fq (qZ (hOK hne) _ 0 (xak _) (xbJ n) _ Ol) ?_
      rintro r H3 ⟨rfl,RK,R9,es4,ck4,rfl,YM⟩;exact⟨_,_,rfl,.refl _,(by repeat (first|exact bH.refl _|apply bH.cons|apply bH.app)),.inr ⟨hO,n,L,rfl,WM,pD,hf,.inr ⟨tD,_,C,(_::_::_::N),rfl,hown,rfl⟩⟩⟩
end
end Go.Proofs
namespace SQ
abbrev It:=Int×Int
def prec(a b:It):Bool:=decide (a.2<b.2)||(a.2==b.2&&decide (a.1<b.1))
theorem uH{a b:It}:prec a b=true↔a.2<b.2\/a.2=b.2/\a.1<b.1:=by simp[prec]
theorem k8{a b:It}:prec a b=false↔¬(a.2<b.2\/a.2=b.2/\a.1<b.1):=by rw[<-uH];simp
theorem mU(a:It):prec a a=false:=by rw[k8];omega
theorem po{a b:It}(h:prec a b=true):prec b a=false:=by rw[uH]at h;rw[k8];omega
theorem le_trans{a b c:It}(h1:prec b a=false)(h2:prec c b=false):prec c a=false:=by rw[k8]at*;omega
theorem EA{a b c:It}(h1:prec a b=true)(h2:prec c b=false):prec c a=false:=by rw[uH]at h1;rw[k8]at*;omega
def gI(V:Nat->It)(i:Nat)(b:It):Nat->It:=λj=>if j=i then b else V j
def E(V:Nat->It)(j:Nat):Prop:=prec (V j) (V ((j-1) /2))=false
def y7(n:Nat)(V:Nat->It)(i:Nat):Prop:=
 (∀j,0<j->j<n->j≠i->(j-1) /2≠i->E V j)/\(∀j,0<j->j<n->(j-1) /2=i->0<i->prec (V j) (V ((i-1) /2))=false)
def n9(n:Nat)(V:Nat->It)(i:Nat):Prop:=∀j,0<j->j<n->(j-1) /2=i->E V j
def V7(n:Nat)(V:Nat->It)(i:Nat):Prop:=
 (∀j,0<j->j<n->(j-1) /2≠i->E V j)/\(∀j,0<j->j<n->(j-1) /2=i->0<i->prec (V j) (V ((i-1) /2))=false)
def Ord(n:Nat)(V:Nat->It):Prop:=∀j,0<j->j<n->E V j
theorem TC{n i:Nat}{V:Nat->It}(hi:0<i)(hn:i<n)(h:y7 n V i)(ha:prec (V i) (V ((i-1) /2))=true):
  y7 n (gI (gI V i (V ((i-1) /2))) ((i-1) /2) (V i)) ((i-1) /2)/\n9 n (gI (gI V i (V ((i-1) /2))) ((i-1) /2) (V i)) ((i-1) /2):=by
 obtain⟨h1,h2⟩:=h;have hq:(i-1) /2≠i:=by omega
 generalize hqd:(i-1) /2=q at*;have hqi:q<i:=by omega
 refine⟨⟨?_,?_⟩,?_⟩
 ·intro j j0 jn jq jp;unfold E gI;rw[xac jq,xac jp];by_cases e1:j=i
  ·exact absurd (by rw[e1,hqd]) jp
  rw[xac e1];by_cases e2:(j-1) /2=i
  ·rw[xae e2];exact h2 j j0 jn e2 hi
  rw[xac e2];exact h1 j j0 jn e1 e2
 ·intro j j0 jn jp q0;unfold gI;have hqq:(q-1) /2≠q:=by omega
  have aeI:(q-1) /2≠i:=by omega
  rw[xac hqq,xac aeI];have ZL:j≠q:=by omega
  rw[xac ZL];have yz:E V q:=h1 q q0 zO hq zO;by_cases e1:j=i
  ·rw[xae e1];exact yz
  rw[xac e1];have:=h1 j j0 jn e1 zO;unfold E at this yz;rw[jp]at this;exact le_trans yz this
 intro j j0 jn jp;unfold E gI;rw[jp,xae rfl];have ZL:j≠q:=by omega
 rw[xac ZL];by_cases e1:j=i
 ·rw[xae e1];exact po ha
 rw[xac e1];have:=h1 j j0 jn e1 zO;unfold E at this;rw[jp]at this;exact EA ha this
theorem TD{n i:Nat}{V:Nat->It}(h:y7 n V i)(ha:i=0\/prec (V i) (V ((i-1) /2))=false):V7 n V i:=by
 refine⟨λj j0 jn jp=>?_,h.2⟩;by_cases e:j=i
 ·subst e;rcases ha with ha|ha
  ·omega
  exact ha
 exact h.1 j j0 jn e jp
theorem yK{n i:Nat}{V:Nat->It}(h:V7 n V i)(hc:n9 n V i):Ord n V:=λj j0 jn=>by
 by_cases e:(j-1) /2=i
 ·exact hc j j0 jn e
 exact h.1 j j0 jn e
def ym(n:Nat)(V:Nat->It)(i:Nat):Nat:=if(decide (2*i+1+1<n) &&prec (V (2*i+1+1)) (V (2*i+1)))=true then 2*i+1+1 else 2*i+1
theorem rG(n:Nat)(V:Nat->It)(i:Nat):ym n V i=2*i+1\/ym n V i=2*i+2/\2*i+2<n:=by
 unfold ym;split
 ·rename_i h;simp only[xaB,xaQ]at h;right;omega
 left;rfl
theorem yl{n i j:Nat}{V:Nat->It}(j0:0<j)(jn:j<n)(jp:(j-1) /2=i):prec (V j) (V (ym n V i))=false:=by
 unfold ym;split
 ·rename_i h;simp only[xaB,xaQ]at h;rcases(show j=2*i+1\/j=2*i+1+1 by omega)with rfl|rfl
  ·exact po h.2
  exact mU _
 rename_i h;rcases(show j=2*i+1\/j=2*i+1+1 by omega)with rfl|rfl
 ·exact mU _
 cases hh:prec (V (2*i+1+1)) (V (2*i+1))
 ·rfl
 exact absurd (by simp[hh,jn]) h
theorem rV{n i:Nat}{V:Nat->It}(h:V7 n V i)(hk:ym n V i<n)(ha:prec (V (ym n V i)) (V i)=true):
  V7 n (gI (gI V i (V (ym n V i))) (ym n V i) (V i)) (ym n V i):=by
 have hl:∀j,0<j->j<n->(j-1) /2=i->prec (V j) (V (ym n V i))=false:=λj=>yl;have hkc:=rG n V i;generalize ym n V i=c at*;obtain⟨h1,h2⟩:=h;have hcp:(c-1) /2=i:=by omega
 have hc0:0<c:=by omega
 have oF:c≠i:=by omega
 refine⟨?_,?_⟩
 ·intro j j0 jn jp;unfold E gI;rw[xac jp];by_cases e1:j=c
  ·rw[xae e1,xae (by rw[e1];exact hcp)];exact po ha
  rw[xac e1];by_cases e2:j=i
  ·rw[xae e2];have:(j-1) /2≠i:=by omega
   rw[xac this,e2];exact h2 c hc0 hk hcp zO
  rw[xac e2];by_cases e3:(j-1) /2=i
  ·rw[xae e3];exact hl j j0 jn e3
  rw[xac e3];exact h1 j j0 jn e3
 intro j j0 jn jp _;unfold gI;rw[hcp];have:j≠c:=by omega
 have e2:j≠i:=by omega
 rw[xac this,xac e2,xac (λe=>oF e.symm),xae rfl];have:=h1 j j0 jn zO;unfold E at this;rwa [jp]at this
theorem Mq{n i:Nat}{V:Nat->It}(h:V7 n V i)(ha:n<=ym n V i\/prec (V (ym n V i)) (V i)=false):Ord n V:=by
 refine yK h λj j0 jn jp=>?_;have hl:=yl (V:=V) j0 jn jp;rcases ha with ha|ha
 ·rcases rG n V i with h|h<;>omega
 unfold E;rw[jp];exact le_trans ha hl
theorem Uj{n:Nat}{V:Nat->It}(h:Ord n V):∀j,j<n->prec (V j) (V 0)=false:=by
 intro j;induction j using Nat.strongRecOn with
 |_ j ih=>
  intro jn;by_cases j0:j=0
  ·subst j0;exact mU _
  exact le_trans (ih ((j-1) /2) zO zO) (h j zO jn)
def at'(l:List It)(j:Nat):It:=l.getD j (0,0)
theorem VR{l:List It}{j:Nat}(h:j<l.length):l[j]? =some (at' l j):=by simp[at',List.getD,h]
theorem gC{l:List It}{i:Nat}(b:It)(h:i<l.length):at' (l.set i b)=gI (at' l) i b:=by
 funext j
 unfold at' gI;simp only[List.getD,xbG];by_cases e:i=j
 ·subst e;simp[h]
 rw[xac e,xac (λx=>e x.symm)]
theorem o8{l:List It}{i:Nat}(h:i<l.length):l.set i (at' l i)=l:=by
 apply xbm;intro j;rw[xbG];by_cases e:i=j
 ·subst e;simp[h,at',List.getD]
 simp[e]
theorem swap_perm{l:List It}{i q:Nat}(hi:i<l.length)(hq:q<l.length)(hne:q≠i):((l.set i (at' l q)).set q (at' l i)).Perm l:=by
 rw[xcV];intro x;have g1:l[i]=at' l i:=by simp[at',List.getD,hi]
 have g2:l[q]=at' l q:=by simp[at',List.getD,hq]
 have g3:(l.set i (at' l q))[q]'(by simp[hq])=at' l q:=by rw[List.getElem_set_ne (λe=>hne e.symm)];exact g2
 rw[xdU (by simp[hq]),xdU hi,g1,g3];have hc:at' l i=x->0<l.count x:=λe=>by rw[xcG,<-e,<-g1];exact xaD hi
 by_cases e1:at' l i=x
 ·have:=hc e1;by_cases e2:at' l q=x<;>simp[e1,e2]<;>omega
 by_cases e2:at' l q=x<;>simp[e1,e2]
def ju(l:List It):Prop:=(l.map Prod.fst).Nodup
theorem ju.perm{l l':List It}(h:ju l)(p:l'.Perm l):ju l':=(p.map _).nodup_iff.2 h
theorem ju.inj{l:List It}(h:ju l){i j:Nat}(hi:i<l.length)(hj:j<l.length)(e:(at' l i).1=(at' l j).1):i=j:=by
 unfold ju at h;have hp:=List.pairwise_iff_getElem.1 h;have g:∀k (hk:k<l.length),(l.map Prod.fst)[k]'(by simpa using hk)=(at' l k).1:=λk hk=>by simp[at',List.getD,hk]
 rcases xcT i j with hlt|rfl|hlt
 ·have:=hp i j (by simpa using hi) (by simpa using hj) hlt;rw[g i hi,g j hj]at this;exact absurd e this
 ·rfl
 have:=hp j i (by simpa using hj) (by simpa using hi) hlt;rw[g i hi,g j hj]at this;exact absurd e.symm this
theorem gO{l:List It}{x:Int}:x∈l.map Prod.fst↔∃j,j<l.length/\(at' l j).1=x:=by
 rw[xbq];constructor
 ·rintro⟨j,hj,e⟩;have hj':j<l.length:=by simpa using hj
  exact⟨j,hj',by simpa[at',List.getD,hj']using e⟩
 rintro⟨j,hj,e⟩;exact⟨j,by simpa using hj,by simpa[at',List.getD,hj]using e⟩
def DF(f:Int->Option Nat)(x:Int)(p:Option Nat):Int->Option Nat:=λy=>if y=x then p else f y
def mq(l:List It)(f:Int->Option Nat)(i:Nat):Prop:=(∀j,j<l.length->j≠i->f (at' l j).1=some j)/\∀x,x∉l.map Prod.fst->f x=none
def Cons(l:List It)(f:Int->Option Nat):Prop:=(∀j,j<l.length->f (at' l j).1=some j)/\∀x,x∉l.map Prod.fst->f x=none
theorem mq.done{l:List It}{f:Int->Option Nat}{i:Nat}(h:mq l f i)(ho:ju l)(hi:i<l.length):Cons l (DF f (at' l i).1 (some i)):=by
 refine⟨λj hj=>?_,λx hx=>?_⟩
 ·unfold DF;by_cases e:(at' l j).1=(at' l i).1
  ·rw[xae e,ho.inj hj hi e]
  rw[xac e];exact h.1 j hj (λe2=>e (by rw[e2]))
 unfold DF;rw[xac (λe=>hx (gO.2 ⟨i,hi,e.symm⟩))];exact h.2 x hx
theorem mq.step{l:List It}{f:Int->Option Nat}{i q:Nat}(h:mq l f i)(ho:ju l)(hi:i<l.length)(hq:q<l.length)(hne:q≠i):
  mq ((l.set i (at' l q)).set q (at' l i)) (DF f (at' l q).1 (some i)) q:=by
 have AV:∀j,at' ((l.set i (at' l q)).set q (at' l i)) j=gI (gI (at' l) i (at' l q)) q (at' l i) j:=λj=>by rw[gC _ (by simpa using hq),gC _ hi]
 refine⟨λj hj ZL=>?_,λx hx=>?_⟩
 ·rw[AV];simp only[xbZ]at hj;unfold gI DF;rw[xac ZL];by_cases e:j=i
  ·rw[xae e,xae rfl,e]
  rw[xac e];rw[xac (λe2=>ZL (ho.inj hj hq e2))];exact h.1 j hj e
 have hx':x∉l.map Prod.fst:=λhm=>hx (by
  have:=(swap_perm hi hq hne).map Prod.fst;exact this.mem_iff.2 hm)
 unfold DF;rw[xac (λe=>hx' (gO.2 ⟨q,hq,e.symm⟩))];exact h.2 x hx'
end SQ
namespace SQ
open Go Go.Sx
def enc(kd:IntKind)(a:It):List zV:=[.int kd a.1,.int .i64 a.2]
def ez(kd:IntKind)(l:List It):List (List zV):=l.map (enc kd)
theorem cM(kd:IntKind)(l:List It):(ez kd l).length=l.length:=by simp[ez]
theorem Mn(kd:IntKind)(l:List It):∀r∈ez kd l,r.length=2:=λr hr=>by
 obtain⟨a,_,rfl⟩:=xam.1 hr;rfl
theorem fo{kd:IntKind}{l:List It}{i:Nat}(h:i<l.length)(aC:List (List zV)):(ez kd l++aC)[i]? =some (enc kd (at' l i)):=by
 rw[xaS (by rw[cM];exact h),ez,xas,VR h];rfl
theorem RN{kd:IntKind}{l:List It}{i:Nat}(h:i<l.length)(a:It)(aC:List (List zV)):(ez kd l++aC).set i (enc kd a)=ez kd (l.set i a)++aC:=by
 rw[xde _ _ (by rw[cM];exact h),ez,ez,xc3]
def idx(i:Nat):zV:=.int .i64 (i:Int)
def HO(kd:IntKind)(TI TH:TypeId)(h:zV)(l:List It)(f:Int->Option Nat)(C:Hp):Prop:=
 ∃bh sv mv Cs Cm,h=.pointer (some ⟨bh,0,none⟩)/\C=(bh,Obj.cells #[sv,mv] TH (0,0))::(Cs++Cm)/\aO TI 2 sv (ez kd l) Cs/\jW kd idx mv f Cm/\(mv=.map none->l=[])
theorem HO.open{kd:IntKind}{TI TH:TypeId}{h:zV}{l:List It}{f:Int->Option Nat}{C:Hp}(H:HO kd TI TH h l f C)(hp:0<l.length):
  ∃bh la mb aC Cm,h=.pointer (some ⟨bh,0,none⟩)/\
   C=(bh,Obj.cells #[.slice (some ⟨la,0,none⟩) l.length (l.length+aC.length),.map (some mb)] TH (0,0))::(la,.cells (rows (ez kd l++aC)) TI (0,0))::Cm/\
   (∀r∈ez kd l++aC,r.length=2)/\jW kd idx (.map (some mb)) f Cm:=by
 obtain⟨bh,sv,mv,Cs,Cm,rfl,rfl,hs,hm,hne⟩:=H;obtain⟨la,aC,rfl,rfl,aF⟩:=hs.pos (by rw[cM];exact hp);rw[cM];rcases hm with⟨rfl,_⟩|⟨mb,m,ck,rfl,h2⟩
 ·rw[hne rfl]at hp;simp at hp
 exact⟨bh,la,mb,aC,Cm,rfl,rfl,aF,.inr ⟨mb,m,ck,rfl,h2⟩⟩
theorem HO.shut{kd:IntKind}{TI TH:TypeId}{bh la mb n c:Nat}{aC:List (List zV)}{Cm:Hp}{l:List It}{f:Int->Option Nat}(aF:∀r∈ez kd l++aC,r.length=2)(hn:n=l.length)(hc:c=l.length+aC.length)
 (hm:jW kd idx (.map (some mb)) f Cm):
  HO kd TI TH (.pointer (some ⟨bh,0,none⟩)) l f ((bh,Obj.cells #[.slice (some ⟨la,0,none⟩) n c,.map (some mb)] TH (0,0))::(la,.cells (rows (ez kd l++aC)) TI (0,0))::Cm):=
 ⟨bh,_,_,[_],Cm,rfl,rfl,aO.mk' aF (by rw[cM];exact hn) (by rw[cM];exact hc),hm,λh=>by simp at h⟩
theorem Pu{l aC:List (List zV)}(h:∀r∈l++aC,r.length=2)(kd:IntKind)(l':List It):∀r∈ez kd l'++aC,r.length=2:=λr hr=>by
 rcases xao.1 hr with hr|hr
 ·exact Mn kd l' r hr
 exact h r (by simp[hr])
theorem n5(kd:IntKind)(a:It):∀v∈enc kd a,v.oneCell'=true:=by simp[enc,Value.oneCell']
end SQ
namespace SQ
open Go Go.Sx
theorem XL(j:Nat)(h:0<j):((j-1:Nat):Int).tdiv 2=(((j-1) /2:Nat):Int):=by
 rw[Int.tdiv_eq_ediv_of_nonneg zO];omega
theorem uz{l:List It}{i q:Nat}(a:It)(hi:i<l.length)(hq:q<l.length)(hne:q≠i):((l.set i a).set i (at' (l.set i a) q)).set q (at' (l.set i a) i)=(l.set i (at' l q)).set q a:=by
 rw[gC a hi,List.set_set];simp[gI,hne]
def HI(kd:IntKind)(TI TH:TypeId)(h:zV)(l:List It)(C:Hp):Prop:=∃f,HO kd TI TH h l f C/\Cons l f/\Ord l.length (at' l)/\ju l
theorem Ft{l:List It}{a:It}{j:Nat}(h:j<l.length):at' (l++[a]) j=at' l j:=by simp[at',List.getD,xaS h]
theorem PD{l:List It}{f:Int->Option Nat}{a:It}(hc:Cons l f)(ho:Ord l.length (at' l))(h1:ju l)(hx:a.1∉l.map Prod.fst):
  y7 (l++[a]).length (at' (l++[a])) l.length/\mq (l++[a]) f l.length/\ju (l++[a])/\n9 (l++[a]).length (at' (l++[a])) l.length:=by
 simp only[xaf,xal,xbA,xaZ];refine⟨⟨λj j0 jn jne jp=>?_,λj j0 jn jp=>by omega⟩,⟨λj jn jne=>?_,λx hx'=>?_⟩,?_,λj j0 jn jp=>by omega⟩
 ·unfold E;rw[Ft zO,Ft zO];exact ho j j0 zO
 ·simp only[xaf,xal,xbA]at jn;rw[Ft zO];exact hc.1 j zO
 ·exact hc.2 x (λh=>hx' (by rw[xaF,xao];exact .inl h))
 unfold ju at*;rw[xaF,xa7];exact⟨h1,by simp,λa' cY b hb=>by simp at hb;subst hb;intro e;subst e;exact hx cY⟩
theorem R1{l:List It}{f:Int->Option Nat}(hc:Cons l f){x:Int}:(x∉l.map Prod.fst/\f x=none)\/∃i,i<l.length/\(at' l i).1=x/\f x=some i:=by
 by_cases h:x∈l.map Prod.fst
 ·obtain⟨j,hj,e⟩:=gO.1 h;exact .inr ⟨j,hj,e,by rw[<-e];exact hc.1 j hj⟩
 exact .inl ⟨h,hc.2 x h⟩
theorem T9{l:List It}{f:Int->Option Nat}(hc:Cons l f)(ho:Ord l.length (at' l))(h1:ju l){n:Nat}(hn:l.length=n+1):
  let l':=l.take n
  ((0<n->(at' l n)::(l'.set 0 (at' l n)).tail=l'.set 0 (at' l n)/\(at' l 0::l'.set 0 (at' l n)).Perm l/\V7 n (at' (l'.set 0 (at' l n))) 0/\ju (l'.set 0 (at' l n))/\
   mq (l'.set 0 (at' l n)) (DF f (at' l 0).1 none) 0)):=by
 intro l' WM;have hl':l'.length=n:=by simp[l',hn]
 have dF:(at' l 0::l'.set 0 (at' l n)).Perm l:=by
  rw[xcV];intro x;have e:l=l'++[at' l n]:=by
   have:l=l.take n++l.drop n:=(xbr n l).symm;have h2:l.drop n=[at' l n]:=by
    rw[xaV zO,xa9 zO];simp[hn,at',List.getD]
   rw[h2]at this;exact this
  have g0:l'[0]' zO=at' l 0:=by simp[l',at',List.getD,hn]
  conv=>rhs;rw[e]
  rw[xcR,xdU zO,g0,xbv];have hc0:at' l 0=x->0<l'.count x:=λe=>by rw[xcG,<-e,<-g0];exact xaD _
  by_cases e1:at' l 0=x
  ·have:=hc0 e1;by_cases e2:at' l n=x<;>simp[e1,e2]<;>omega
  by_cases e2:at' l n=x<;>simp[e1,e2]
 have AV:∀j,j<n->j≠0->at' (l'.set 0 (at' l n)) j=at' l j:=λj hj h0=>by
  rw[gC _ zO];simp[gI,h0,l',at',List.getD,hj]
 have hO:ju (l'.set 0 (at' l n)):=by
  have:=(h1.perm dF:ju _);unfold ju at this⊢;simp only[xaM,xaX]at this;exact this.2
 refine⟨?_,dF,⟨λj j0 jn jp=>?_,λj j0 jn jp h=>by omega⟩,hO,λj hj Yv=>?_,λx hx=>?_⟩
 ·cases hh:l' with
  |nil=>rw[hh]at hl';simp at hl';omega
  |cons a r=>simp
 ·unfold E;rw[AV j jn zO,AV _ zO jp];exact ho j j0 zO
 ·simp only[xbZ,hl']at hj;rw[AV j hj Yv];unfold DF;rw[xac (λe=>Yv (h1.inj zO zO e))];exact hc.1 j zO
 unfold DF;by_cases e:x=(at' l 0).1
 ·rw[xae e]
 rw[xac e];refine hc.2 x λhm=>hx ?_;have:=(dF.map Prod.fst).mem_iff.2 hm;simp only[xaM,xag]at this;rcases this with h|h
 ·exact absurd h e
 exact h
end SQ
set_option maxRecDepth 100000
namespace Go.Proofs
open Go Go.Sx Tryz
section
open SQ
abbrev Tm:=HO .i64 378 376
abbrev V5:=HI .i64 378 376
theorem vY(a b:It)(B:Hp):Rd zQ 307 #[.agg #[iv a.1,iv a.2],.agg #[iv b.1,iv b.2]] B (· =.bool (prec a b)):=by
 refine aK λg=>FM λb1 _ b2 _=>?_
 (repeat (first|apply ag.mk|refine Ld.mk (by repeat (first|exact List.Mem.head _|apply List.Mem.tail|apply xaa)) rfl ?_|apply ae.eql|apply ae.geq))
 refine cr.or (a.2==b.2&&decide (a.1<b.1)) (λ_=>?_) rfl λ_=>bE.mk (.skip .tail) rfl
 (repeat (first|apply ag.mk|refine Ld.mk (by repeat (first|exact List.Mem.head _|apply List.Mem.tail|apply xaa)) rfl ?_|apply ae.eql|apply ae.geq))
 refine cr.and (decide (a.1<b.1)) (λ_=>?_) rfl λ_=>⟨rfl,rfl⟩
 (repeat (first|apply ag.mk|refine Ld.mk (by repeat (first|exact List.Mem.head _|apply List.Mem.tail|apply xaa)) rfl ?_|apply ae.eql|apply ae.geq))
 exact⟨rfl,rfl⟩
theorem qs{h:zV}{l:List It}{f:Int->Option Nat}{C:Hp}(ho:Tm h l f C){i:Nat}(hi:i<l.length)(a:It):
  Fc zQ 295 #[h,iv (i:Int),.agg #[iv a.1,iv a.2]] C (λv C'=>v=.tuple #[]/\Tm h (l.set i a) (DF f a.1 (some i)) C'):=by
 obtain⟨bh,la,mb,aC,Cm,rfl,rfl,aF,hm⟩:=ho.open zO;refine aK λg=>FU λb1 _=>?_;refine DR.self ?_
 (repeat (first|apply Nil.ptr|apply ag.mk|refine Ld.mk (by repeat (first|exact List.Mem.head _|apply List.Mem.tail|apply xaa)) rfl ?_))
 refine au.whole (r:=enc .i64 a) zM rfl ?_;refine ai.nat hi ?_;refine St.row (l:=ez .i64 l++aC) (by repeat (first|exact cu.head _|apply cu.tail|apply cu.aH)) aF (by rw[xaf,cM];omega) rfl (n5 _ _) ?_;refine DR.self ?_
 (repeat (first|apply Nil.ptr|apply ag.mk|refine Ld.mk (by repeat (first|exact List.Mem.head _|apply List.Mem.tail|apply xaa)) rfl ?_))
 rw[<-xaG Cm];refine jW.bV (p:=i) (A:=[_,_,_]) (B:=[]) hm λC' hm'=>?_;refine⟨_,_,rfl,.tail,rfl,?_⟩;rw[RN hi,xaG];exact .shut (Pu aF _ _) zI zI hm'
theorem Yf{h:zV}{l:List It}{f:Int->Option Nat}{C:Hp}(ho:Tm h l f C){i:Nat}(hi:i<l.length)(cL:l.length<4611686018427387904)(hu:y7 l.length (at' l) i)(hc:mq l f i)(hO:ju l):
  Fc zQ 294 #[h,iv (i:Int)] C (λv C'=>v=.tuple #[]/\∃l' f' p,Tm h l' f' C'/\l'.Perm l/\Cons l' f'/\V7 l'.length (at' l') p/\p<l'.length/\at' l' p=at' l i/\
   (n9 l.length (at' l) i->Ord l'.length (at' l'))):=by
 obtain⟨bh,la,mb,aC,Cm,rfl,rfl,aF,hm⟩:=ho.open zO;obtain⟨n,hn⟩:∃n,n=l.length:=⟨_,rfl⟩;obtain⟨a,ha⟩:∃a,a=at' l i:=⟨_,rfl⟩;refine aK λg=>FV ?_
 (repeat (first|apply Nil.ptr|apply ag.mk|refine Ld.mk (by repeat (first|exact List.Mem.head _|apply List.Mem.tail|apply xaa)) rfl ?_))
 refine ai.nat hi ?_;refine au.row (l:=ez .i64 l++aC) zM aF (fo hi aC) ?_;intro b6 _;refine St.p (n5 _ _) ?_;rw[<-ha];refine⟨λvs H=>∃(j:Nat) (L:List It) (f:Int->Option Nat) (C:Hp),vs=[iv (j:Int)]/\H=(b6,Obj.cells (enc .i64 a).toArray 378 zZ)::C/\Tm (.pointer (some ⟨bh,0,none⟩)) L f C/\L.length=n/\j<n/\
   (L.set j a).Perm l/\y7 n (at' (L.set j a)) j/\mq (L.set j a) f j/\(n9 n (at' l) i->n9 n (at' (L.set j a)) j),
  λvs _=>bj vs 0,.mk ⟨i,l,f,_,rfl,rfl,ho,hn.symm,by omega,?_,?_,?_,?_⟩,?_⟩
 ·exact(by rw[ha,o8 hi])
 ·rw[ha,o8 hi,hn];exact hu
 ·rw[ha,o8 hi];exact hc
 ·rw[ha,o8 hi];exact id
 rintro w H ⟨j,L,f,C,hw,rfl,ho,hLn,hj,hp,hu,hc,lT⟩ gs;simp only[xay,xa5]at hw;subst hw;have ZH:=ho;obtain⟨bh',la,mb,aC,Cm,hbh,rfl,aF,hm⟩:=ho.open zO;simp only[Value.pointer.injEq,xar,Addr.mk.injEq,xa5]at hbh;subst hbh;have hOV:ju (L.set j a):=hO.perm hp;have ZJ:(L.set j a).length=n:=by simp[hLn]
 have W7:at' (L.set j a) j=a:=by rw[gC a zO];simp[gI]
 have hVq:0<j->at' (L.set j a) ((j-1) /2)=at' L ((j-1) /2):=λh0=>by rw[gC a zO];simp[gI,show¬((j-1) /2=j)from by omega]
 intro J hJ;have hend:¬(0<j/\prec a (at' L ((j-1) /2))=true)->J [.bool false] ((b6,Obj.cells (enc .i64 a).toArray 378 zZ)::(bh,Obj.cells #[.slice (some ⟨la,0,none⟩) L.length (L.length+aC.length),.map (some mb)] 376 zZ)::(la,.cells (rows (ez .i64 L++aC)) 378 zZ)::Cm):=λhno=>hJ _ _ λgs=>by
  refine Br.no (au.q ?_);refine aa.fq (qs ZH (i:=j) zO a) ?_;rintro v C' ⟨rfl,cB⟩;have hd:=hc.done hOV zO;rw[W7]at hd;have hex:=TD hu (by
   by_cases h0:j=0
   ·exact .inl h0
   right;rw[W7,hVq zO];cases h:prec a (at' L ((j-1) /2))
   ·rfl
   exact absurd ⟨by omega,h⟩ hno)
  rw[<-ZJ]at hex;exact⟨_,_,rfl,.tail,rfl,_,_,j,cB,hp,hd,hex,by omega,by rw[W7,ha],λhk=>yK hex (by rw[ZJ];exact lT (by rw[hn];exact hk))⟩
 refine DR.self (ae.gtr (Br.dec (λh0=>?_) (λh0=>JE.mk (hend (λh=>h0 zO)))));have h0:0<j:=by omega
 refine au.q ?_
 (repeat (first|apply Nil.ptr|apply ag.mk|refine Ld.mk (by repeat (first|exact List.Mem.head _|apply List.Mem.tail|apply xaa)) rfl ?_))
 refine ae.sB (c:=((j-1:Nat):Int)) zO zO (ae.Pz zD (XL j h0) zO (ai.nat zO ?_));refine au.row (l:=ez .i64 L++aC) zM aF (fo zO aC) ?_;intro F;refine aa.eq (vY a _ _) (⟨.refl _,?_⟩);cases WI:prec a (at' L ((j-1) /2))with
 |false=>exact aS.mk (JE.mk (hend (λh=>by rw[WI]at h;exact absurd h.2 zD)))
 |true=>
 refine aS.mk (JE.mk (hJ _ _ λgs=>Br.yes ?_))
 (repeat (first|apply Nil.ptr|apply ag.mk|refine Ld.mk (by repeat (first|exact List.Mem.head _|apply List.Mem.tail|apply xaa)) rfl ?_))
 refine ae.sB (c:=((j-1:Nat):Int)) zO zO (ae.Pz zD (XL j h0) zO (ai.nat zO ?_));refine au.row (l:=ez .i64 L++aC) zM aF (fo zO aC) ?_;refine aa.fq (qs ZH (i:=j) zO (at' L ((j-1) /2))) ?_;rintro v C' ⟨rfl,cB⟩;refine ae.sB (c:=((j-1:Nat):Int)) zO zO (ae.Pz zD (XL j h0) zO ?_);have hst:=TC h0 (by rw[<-ZJ]at hj;rw[ZJ]at hj;exact hj) hu (by rw[W7,hVq h0];exact WI);have hcs:=hc.step hOV (i:=j) (q:=(j-1) /2) zO zO zO;have hpp:=(swap_perm (l:=L.set j a) (i:=j) (q:=(j-1) /2) zO zO zO).trans hp;have YH:(L.set j (at' L ((j-1) /2))).set ((j-1) /2) a=((L.set j a).set j (at' (L.set j a) ((j-1) /2))).set ((j-1) /2) (at' (L.set j a) j):=(uz a zO zO zO).symm;have AV:at' ((L.set j (at' L ((j-1) /2))).set ((j-1) /2) a)=gI (gI (at' (L.set j a)) j (at' (L.set j a) ((j-1) /2))) ((j-1) /2) (at' (L.set j a) j):=by
  rw[YH,gC _ zP,gC _ zO]
 refine az.mk ⟨(j-1) /2,_,_,C',rfl,rfl,cB,by simp[hLn],by omega,?_,?_,?_,λ_=>?_⟩ ?_
 ·rw[YH];exact hpp
 ·rw[AV];exact hst.1
 ·rw[YH];rw[hVq h0]at hcs⊢;exact hcs
 ·rw[AV];exact hst.2
 simp only[bj,xbH];omega
end
section
open SQ
theorem QY{h:zV}{l:List It}{f:Int->Option Nat}{C:Hp}(ho:Tm h l f C){i:Nat}(hi:i<l.length)(cL:l.length<4611686018427387904)(hu:V7 l.length (at' l) i)(hc:mq l f i)(hO:ju l):
  Fc zQ 296 #[h,iv (i:Int)] C (λv C'=>v=.tuple #[]/\∃l' f',Tm h l' f' C'/\l'.Perm l/\Cons l' f'/\Ord l'.length (at' l')):=by
 obtain⟨bh,la,mb,aC,Cm,rfl,rfl,aF,hm⟩:=ho.open zO;obtain⟨n,hn⟩:∃n,n=l.length:=⟨_,rfl⟩;obtain⟨a,ha⟩:∃a,a=at' l i:=⟨_,rfl⟩;refine aK λg=>FR ?_
 (repeat (first|apply Nil.ptr|apply ag.mk|refine Ld.mk (by repeat (first|exact List.Mem.head _|apply List.Mem.tail|apply xaa)) rfl ?_|apply aG.mk|apply ae.geq))
 refine ai.nat hi ?_;refine au.row (l:=ez .i64 l++aC) zM aF (fo hi aC) ?_;intro b6 _;refine St.p (n5 _ _) ?_;rw[<-ha];refine⟨λvs H=>∃(j:Nat) (L:List It) (f:Int->Option Nat) (C:Hp),vs=[iv (j:Int)]/\H=(b6,Obj.cells (enc .i64 a).toArray 378 zZ)::C/\Tm (.pointer (some ⟨bh,0,none⟩)) L f C/\L.length=n/\j<n/\
   (L.set j a).Perm l/\V7 n (at' (L.set j a)) j/\mq (L.set j a) f j,
  λvs _=>n-bj vs 0,.mk ⟨i,l,f,_,rfl,rfl,ho,hn.symm,by omega,?_,?_,?_⟩,?_⟩
 ·exact(by rw[ha,o8 hi])
 ·rw[ha,o8 hi,hn];exact hu
 ·rw[ha,o8 hi];exact hc
 rintro w H ⟨j,L,f,C,hw,rfl,ho,hLn,hj,hp,hu,hc⟩ gs;simp only[xay,xa5]at hw;subst hw;have ZH:=ho;obtain⟨bh',la,mb,aC,Cm,hbh,rfl,aF,hm⟩:=ho.open zO;simp only[Value.pointer.injEq,xar,Addr.mk.injEq,xa5]at hbh;subst hbh;have hOV:ju (L.set j a):=hO.perm hp;have ZJ:(L.set j a).length=n:=by simp[hLn]
 have W7:at' (L.set j a) j=a:=by rw[gC a zO];simp[gI]
 have hVL:∀c,c≠j->at' (L.set j a) c=at' L c:=λc h0=>by rw[gC a zO];simp[gI,h0]
 refine ae.aaL (c:=((2*j:Nat):Int)) zO zO (ae.Du (c:=((2*j+1:Nat):Int)) zO zO λJ hJ=>?_);obtain⟨c,hcd⟩:∃c,c=ym n (at' (L.set j a)) j:=⟨_,rfl⟩;have hkc:=rG n (at' (L.set j a)) j;rw[<-hcd]at hkc;have gK:J [iv (c:Int)] ((b6,Obj.cells (enc .i64 a).toArray 378 zZ)::(bh,Obj.cells #[.slice (some ⟨la,0,none⟩) L.length (L.length+aC.length),.map (some mb)] 376 zZ)::(la,.cells (rows (ez .i64 L++aC)) 378 zZ)::Cm):=by
  refine hJ _ _ λgs2=>?_;intro J2 Jq;have hstop:n<=c\/prec (at' L c) a=false->J2 [.bool true] ((b6,Obj.cells (enc .i64 a).toArray 378 zZ)::(bh,Obj.cells #[.slice (some ⟨la,0,none⟩) L.length (L.length+aC.length),.map (some mb)] 376 zZ)::(la,.cells (rows (ez .i64 L++aC)) 378 zZ)::Cm):=λhst=>Jq _ _ λgs=>by
   refine Br.yes (au.q ?_);refine aa.fq (qs ZH (i:=j) zO a) ?_;rintro v C' ⟨rfl,cB⟩;have hd:=hc.done hOV zO;rw[W7]at hd;have hex:=Mq hu (by
    rw[<-hcd];by_cases h0:n<=c
    ·exact .inl h0
    right;rw[W7,hVL c zO];rcases hst with h|h
    ·omega
    exact h)
   rw[<-ZJ]at hex;exact⟨_,_,rfl,.tail,rfl,_,_,cB,hp,hd,hex⟩
  refine DR.self ?_
  (repeat (first|apply Nil.ptr|apply ag.mk|refine Ld.mk (by repeat (first|exact List.Mem.head _|apply List.Mem.tail|apply xaa)) rfl ?_|apply aG.mk|apply ae.geq))
  refine Br.dec (λh0=>JE.mk (hstop (.inl zO))) (λh0=>?_);have h0:c<n:=by omega
  (repeat (first|apply Nil.ptr|apply ag.mk|refine Ld.mk (by repeat (first|exact List.Mem.head _|apply List.Mem.tail|apply xaa)) rfl ?_|apply aG.mk|apply ae.geq))
  refine ai.nat zO ?_;refine au.row (l:=ez .i64 L++aC) zM aF (fo zO aC) ?_;refine au.q ?_;intro F;refine aa.eq (vY _ a _) (⟨.refl _,Un.not ?_⟩);cases WI:prec (at' L c) a with
  |false=>exact aS.mk (JE.mk (hstop (.inr WI)))
  |true=>
  refine aS.mk (JE.mk (Jq _ _ λgs=>Br.no ?_))
  (repeat (first|apply Nil.ptr|apply ag.mk|refine Ld.mk (by repeat (first|exact List.Mem.head _|apply List.Mem.tail|apply xaa)) rfl ?_|apply aG.mk|apply ae.geq))
  refine ai.nat zO ?_;refine au.row (l:=ez .i64 L++aC) zM aF (fo zO aC) ?_;refine aa.fq (qs ZH (i:=j) zO (at' L c)) ?_;rintro v C' ⟨rfl,cB⟩;have hcj:c≠j:=by omega
  have hst:=rV hu (by rw[<-hcd];exact h0) (by rw[<-hcd,W7,hVL c hcj];exact WI);rw[<-hcd]at hst;have hcs:=hc.step hOV (i:=j) (q:=c) zO zO hcj;have hpp:=(swap_perm (l:=L.set j a) (i:=j) (q:=c) zO zO hcj).trans hp;have YH:(L.set j (at' L c)).set c a=((L.set j a).set j (at' (L.set j a) c)).set c (at' (L.set j a) j):=(uz a zO zO hcj).symm;have AV:at' ((L.set j (at' L c)).set c a)=gI (gI (at' (L.set j a)) j (at' (L.set j a) c)) c (at' (L.set j a) j):=by
   rw[YH,gC _ zP,gC _ zO]
  refine az.mk ⟨c,_,_,C',rfl,rfl,cB,by simp[hLn],by omega,?_,?_,?_⟩ ?_
  ·rw[YH];exact hpp
  ·rw[AV];exact hst
  ·rw[YH];rw[hVL c hcj]at hcs⊢;exact hcs
  simp only[bj,xbH];omega
 intro J3 hJ3;have Om:ym n (at' (L.set j a)) j=if(decide (2*j+1+1<n) &&prec (at' L (2*j+1+1)) (at' L (2*j+1)))=true then 2*j+1+1 else 2*j+1:=by
  unfold ym;rw[hVL _ zO,hVL _ zO]
 rw[Om]at hcd;have hno:¬(2*j+1+1<n/\prec (at' L (2*j+1+1)) (at' L (2*j+1))=true)->J3 [.bool false] ((b6,Obj.cells (enc .i64 a).toArray 378 zZ)::(bh,Obj.cells #[.slice (some ⟨la,0,none⟩) L.length (L.length+aC.length),.map (some mb)] 376 zZ)::(la,.cells (rows (ez .i64 L++aC)) 378 zZ)::Cm):=λhx=>hJ3 _ _ λgs=>by
  rw[xac (by simpa using hx)]at hcd;rw[hcd]at gK;exact Br.no (.mk gK)
 refine DR.self (ae.Du (c:=((2*j+1+1:Nat):Int)) zO zO ?_)
 (repeat (first|apply Nil.ptr|apply ag.mk|refine Ld.mk (by repeat (first|exact List.Mem.head _|apply List.Mem.tail|apply xaa)) rfl ?_|apply aG.mk|apply ae.geq))
 refine Br.dec (λh0=>?_) (λh0=>JE.mk (hno (λh=>h0 zO)));have h0:2*j+1+1<n:=by omega
 (repeat (first|apply Nil.ptr|apply ag.mk|refine Ld.mk (by repeat (first|exact List.Mem.head _|apply List.Mem.tail|apply xaa)) rfl ?_|apply aG.mk|apply ae.geq))
 refine ae.Du (c:=((2*j+1+1:Nat):Int)) zO zO (ai.nat zO ?_);refine au.row (l:=ez .i64 L++aC) zM aF (fo zO aC) ?_
 (repeat (first|apply Nil.ptr|apply ag.mk|refine Ld.mk (by repeat (first|exact List.Mem.head _|apply List.Mem.tail|apply xaa)) rfl ?_|apply aG.mk|apply ae.geq))
 refine ai.nat zO ?_;refine au.row (l:=ez .i64 L++aC) zM aF (fo zO aC) ?_;intro F;refine aa.eq (vY _ _ _) (⟨.refl _,?_⟩);cases WI:prec (at' L (2*j+1+1)) (at' L (2*j+1))with
 |false=>exact aS.mk (JE.mk (hno (λh=>by rw[WI]at h;exact absurd h.2 zD)))
 |true=>
 refine aS.mk (JE.mk (hJ3 _ _ λgs=>Br.yes ?_));refine ae.Du (c:=((2*j+1+1:Nat):Int)) zO zO ?_;rw[xae (by simp[h0,WI])]at hcd;rw[hcd]at gK;exact .mk gK
theorem U0(B:Hp):Fc zQ 264 #[] B (λv H=>∃b C,v=.pointer (some ⟨b,0,none⟩)/\H=C++B/\V5 (.pointer (some ⟨b,0,none⟩)) [] C):=by
 refine aK λg=>Gi (Build.mk (cs:=[.slice none 0 0,.map none]) zK ?_);intro b _;exact⟨_,_,rfl,.refl _,b,[_],rfl,rfl,λ_=>none,⟨b,_,_,[],[],rfl,rfl,aO.nil _ _,.inl ⟨rfl,rfl,rfl⟩,λ_=>rfl⟩,⟨λj hj=>by simp at hj,λ_ _=>rfl⟩,λj _ hj=>by simp at hj,by simp[ju]⟩
theorem Qz{h:zV}{l:List It}{C:Hp}(hi:V5 h l C)(cL:l.length<4398046511104)(x k:Int):
  Fc zQ 266 #[h,iv x,iv k] C (λv C'=>∃l',V5 h l' C'/\
   ((x∈l.map Prod.fst/\v=iv 11/\l'=l)\/(x∉l.map Prod.fst/\v=iv 0/\l'.Perm ((x,k)::l)))):=by
 have EU:=hi;obtain⟨f,ho,hc,hO,h1⟩:=hi;have ZH:=ho;obtain⟨bh,sv,mv,Cs,Cm,rfl,rfl,hs,hm,hne⟩:=ho;refine aK λg=>Gf ?_
 (repeat (first|apply Nil.ptr|refine ag.mk ?_|refine Ld.mk zM rfl ?_|refine aG.mk ?_|refine ae.eql ?_|refine ae.neq ?_|refine ae.lss ?_|refine ae.leq ?_|refine ae.gtr ?_|refine ae.geq ?_|apply Un.not|refine Ext.mk rfl ?_|refine aS.mk ?_|refine ae.aJ ?_|refine ae.jS ?_|refine ae.jf ?_|apply Br.yes|apply Br.no))
 rcases R1 hc (x:=x)with⟨hx,hf⟩|⟨i,hi,hx,hf⟩
 ·refine hm.Lr zS hf ?_
  (repeat (first|apply Nil.ptr|refine ag.mk ?_|refine Ld.mk zM rfl ?_|refine aG.mk ?_|refine ae.eql ?_|refine ae.neq ?_|refine ae.lss ?_|refine ae.leq ?_|refine ae.gtr ?_|refine ae.geq ?_|apply Un.not|refine Ext.mk rfl ?_|refine aS.mk ?_|refine ae.aJ ?_|refine ae.jS ?_|refine ae.jf ?_|apply Br.yes|apply Br.no))
  intro J hJ;obtain⟨ve,kD,WK,ZF⟩:=PD (a:=(x,k)) hc hO h1 hx;have gK:∀mb Xn,jW .i64 idx (.map (some mb)) f Xn->J [] ((bh,Obj.cells #[sv,.map (some mb)] 376 zZ)::(Cs++Xn)):=by
   intro mb Xn hm';refine hJ _ λgs=>?_
   (repeat (first|apply Nil.ptr|refine ag.mk ?_|refine Ld.mk zM rfl ?_|refine aG.mk ?_|refine ae.eql ?_|refine ae.neq ?_|refine ae.lss ?_|refine ae.leq ?_|refine ae.gtr ?_|refine ae.geq ?_|apply Un.not|refine Ext.mk rfl ?_|refine aS.mk ?_|refine ae.aJ ?_|refine ae.jS ?_|refine ae.jf ?_|apply Br.yes|apply Br.no))
   refine Build.mk (cs:=enc .i64 (x,k)) zK (ak.one (k:=2) (e:=378) (z:=.agg #[iv 0,iv 0]) zK zK zK zD rfl λxb=>?_);refine hs.Fu (A:=[_,_]) (B:=Xn) (r:=enc .i64 (x,k)) zM rfl (n5 _ _) ⟨[iv 0,iv 0],rfl,rfl⟩ (by rw[cM];omega) (by rw[cM];omega) λv' C' hs'=>?_
   (repeat (first|apply Nil.ptr|refine ag.mk ?_|refine Ld.mk zM rfl ?_|refine aG.mk ?_|refine ae.eql ?_|refine ae.neq ?_|refine ae.lss ?_|refine ae.leq ?_|refine ae.gtr ?_|refine ae.geq ?_|apply Un.not|refine Ext.mk rfl ?_|refine aS.mk ?_|refine ae.aJ ?_|refine ae.jS ?_|refine ae.jf ?_|apply Br.yes|apply Br.no))
   refine St.one (by repeat (first|exact cu.head _|apply cu.tail|apply cu.aH)) (by obtain⟨a,c,rfl⟩:=hs'.len;rfl) zI rfl ?_
   (repeat (first|apply Nil.ptr|refine ag.mk ?_|refine Ld.mk zM rfl ?_|refine aG.mk ?_|refine ae.eql ?_|refine ae.neq ?_|refine ae.lss ?_|refine ae.leq ?_|refine ae.gtr ?_|refine ae.geq ?_|apply Un.not|refine Ext.mk rfl ?_|refine aS.mk ?_|refine ae.aJ ?_|refine ae.jS ?_|refine ae.jf ?_|apply Br.yes|apply Br.no))
   refine hs'.bF ?_;refine ae.sB (c:=((l.length:Nat):Int)) (by rw[xaf,cM];simp) zO ?_;have mu:aO 378 2 v' (ez .i64 (l++[(x,k)])) C':=by simpa[ez]using hs'
   have cB:Tm (.pointer (some ⟨bh,0,none⟩)) (l++[(x,k)]) f ((bh,Obj.cells #[v',.map (some mb)] 376 zZ)::(C'++Xn)):=
    ⟨bh,_,_,C',Xn,rfl,rfl,mu,hm',λh=>by simp at h⟩
   refine aa.pre (.tail) ?_;refine aa.fq (Yf cB (i:=l.length) zI zP ve kD WK) ?_;rintro v C'' ⟨rfl,l',f',p,Cd,dF,hc2,hex,hp,AV,aeN⟩;refine⟨_,_,rfl,.refl _,l',⟨f',Cd,hc2,aeN ZF,WK.perm dF⟩,.inr ⟨hx,rfl,dF.trans ?_⟩⟩;exact xaW (l₁:=l) (l₂:=[(x,k)])
  (repeat (first|apply Nil.ptr|refine ag.mk ?_|refine Ld.mk zM rfl ?_|refine aG.mk ?_|refine ae.eql ?_|refine ae.neq ?_|refine ae.lss ?_|refine ae.leq ?_|refine ae.gtr ?_|refine ae.geq ?_|apply Un.not|refine Ext.mk rfl ?_|refine aS.mk ?_|refine ae.aJ ?_|refine ae.jS ?_|refine ae.jf ?_|apply Br.yes|apply Br.no))
  rcases hm with⟨rfl,rfl,hfn⟩|⟨mb,m,ck,rfl,h2⟩
  ·(repeat (first|apply Nil.ptr|refine ag.mk ?_|refine Ld.mk zM rfl ?_|refine aG.mk ?_|refine ae.eql ?_|refine ae.neq ?_|refine ae.lss ?_|refine ae.leq ?_|refine ae.gtr ?_|refine ae.geq ?_|apply Un.not|refine Ext.mk rfl ?_|refine aS.mk ?_|refine ae.aJ ?_|refine ae.jS ?_|refine ae.jf ?_|apply Br.yes|apply Br.no))
   intro mb _
   (repeat (first|apply Nil.ptr|refine ag.mk ?_|refine Ld.mk zM rfl ?_|refine aG.mk ?_|refine ae.eql ?_|refine ae.neq ?_|refine ae.lss ?_|refine ae.leq ?_|refine ae.gtr ?_|refine ae.geq ?_|apply Un.not|refine Ext.mk rfl ?_|refine aS.mk ?_|refine ae.aJ ?_|refine ae.jS ?_|refine ae.jf ?_|apply Br.yes|apply Br.no))
   refine St.one (by repeat (first|exact cu.head _|apply cu.tail|apply cu.aH)) rfl zI rfl ?_;refine JE.of ?_ (gK mb _ (by rw[hfn];exact jW.made mb));simp only[xaG];refine .perm ?_;refine(List.Perm.swap _ _ _).trans (.cons _ ?_);exact xaW (l₁:=[_])
  (repeat (first|apply Nil.ptr|refine ag.mk ?_|refine Ld.mk zM rfl ?_|refine aG.mk ?_|refine ae.eql ?_|refine ae.neq ?_|refine ae.lss ?_|refine ae.leq ?_|refine ae.gtr ?_|refine ae.geq ?_|apply Un.not|refine Ext.mk rfl ?_|refine aS.mk ?_|refine ae.aJ ?_|refine ae.jS ?_|refine ae.jf ?_|apply Br.yes|apply Br.no))
  exact JE.mk (gK mb Cm (.inr ⟨mb,m,ck,rfl,h2⟩))
 refine hm.Lq zS hf ?_
 (repeat (first|apply Nil.ptr|refine ag.mk ?_|refine Ld.mk zM rfl ?_|refine aG.mk ?_|refine ae.eql ?_|refine ae.neq ?_|refine ae.lss ?_|refine ae.leq ?_|refine ae.gtr ?_|refine ae.geq ?_|apply Un.not|refine Ext.mk rfl ?_|refine aS.mk ?_|refine ae.aJ ?_|refine ae.jS ?_|refine ae.jf ?_|apply Br.yes|apply Br.no))
 refine⟨_,_,rfl,.refl _,l,EU,.inl ⟨?_,rfl,rfl⟩⟩;rw[gO];exact⟨i,hi,hx⟩
theorem UY{h:zV}{l:List It}{C:Hp}(hi:V5 h l C)(cL:l.length<4398046511104):
  Fc zQ 268 #[h] C (λv C'=>∃l',V5 h l' C'/\
   ((l=[]/\v=.tuple #[iv 0,iv 0,iv 10]/\l'=l)\/(∃a,l.Perm (a::l')/\(∀b∈l,prec b a=false)/\v=.tuple #[iv a.1,iv a.2,iv 0]))):=by
 have EU:=hi;obtain⟨f,ho,hc,hO,h1⟩:=hi;by_cases hl:l=[]
 ·subst hl;refine aK λg=>wy ?_;obtain⟨bh,sv,mv,Cs,Cm,rfl,rfl,hs,hm,hne⟩:=ho
  (repeat (first|apply Nil.ptr|apply ag.mk|refine Ld.mk (by repeat (first|exact List.Mem.head _|apply List.Mem.tail|apply xaa)) rfl ?_|apply aG.mk|apply ae.eql|apply ae.lss|apply Br.yes|apply Br.no|apply ae.aJ))
  refine cr.or true (λ_=>?_) rfl λ_=>?_
  ·(repeat (first|apply Nil.ptr|apply ag.mk|refine Ld.mk (by repeat (first|exact List.Mem.head _|apply List.Mem.tail|apply xaa)) rfl ?_|apply aG.mk|apply ae.eql|apply ae.lss|apply Br.yes|apply Br.no|apply ae.aJ))
   refine hs.bF ?_
   (repeat (first|apply Nil.ptr|apply ag.mk|refine Ld.mk (by repeat (first|exact List.Mem.head _|apply List.Mem.tail|apply xaa)) rfl ?_|apply aG.mk|apply ae.eql|apply ae.lss|apply Br.yes|apply Br.no|apply ae.aJ))
   exact⟨rfl,rfl⟩
  (repeat (first|apply Nil.ptr|apply ag.mk|refine Ld.mk (by repeat (first|exact List.Mem.head _|apply List.Mem.tail|apply xaa)) rfl ?_|apply aG.mk|apply ae.eql|apply ae.lss|apply Br.yes|apply Br.no|apply ae.aJ))
  exact⟨_,_,rfl,.refl _,[],EU,.inl ⟨rfl,rfl,rfl⟩⟩
 obtain⟨n,hn⟩:∃n,l.length=n+1:=⟨l.length-1,by have:=xcA.2 hl;omega⟩;have hmin:∀b∈l,prec b (at' l 0)=false:=λb hb=>by
  obtain⟨j,hj,e⟩:=xbq.1 hb;have:=Uj hO j hj;rwa [show at' l j=b by simp[at',List.getD,hj,e]]at this
 intro g;refine wy (R:=aQ _) ?_;obtain⟨bh,la,mb,aC,Cm,rfl,rfl,aF,hm⟩:=ho.open zO;unfold L268
 (repeat (first|apply Nil.ptr|apply ag.mk|refine Ld.mk (by repeat (first|exact List.Mem.head _|apply List.Mem.tail|apply xaa)) rfl ?_|apply aG.mk|apply ae.eql|apply ae.lss|apply Br.yes|apply Br.no|apply ae.aJ))
 refine cr.or false (λ_=>?_) rfl λ_=>?_
 ·(repeat (first|apply Nil.ptr|apply ag.mk|refine Ld.mk (by repeat (first|exact List.Mem.head _|apply List.Mem.tail|apply xaa)) rfl ?_|apply aG.mk|apply ae.eql|apply ae.lss|apply Br.yes|apply Br.no|apply ae.aJ))
  exact⟨rfl,by rw[hn];simp;omega⟩
 (repeat (first|apply Nil.ptr|apply ag.mk|refine Ld.mk (by repeat (first|exact List.Mem.head _|apply List.Mem.tail|apply xaa)) rfl ?_|apply aG.mk|apply ae.eql|apply ae.lss|apply Br.yes|apply Br.no|apply ae.aJ))
 refine ai.of 0 rfl zO ?_;refine au.row (l:=ez .i64 l++aC) zM aF (fo zO aC) ?_;intro b14 _;refine St.p (n5 _ _) ?_
 (repeat (first|apply Nil.ptr|apply ag.mk|refine Ld.mk (by repeat (first|exact List.Mem.head _|apply List.Mem.tail|apply xaa)) rfl ?_|apply aG.mk|apply ae.eql|apply ae.lss|apply Br.yes|apply Br.no|apply ae.aJ))
 refine ae.sB (c:=(n:Int)) (by rw[hn];simp) zO ?_
 (repeat (first|apply Nil.ptr|apply ag.mk|refine Ld.mk (by repeat (first|exact List.Mem.head _|apply List.Mem.tail|apply xaa)) rfl ?_|apply aG.mk|apply ae.eql|apply ae.lss|apply Br.yes|apply Br.no|apply ae.aJ))
 refine ai.nat zO ?_;refine au.row (l:=ez .i64 l++aC) zM aF (fo zO aC) ?_;intro b27 _;refine St.p (n5 _ _) ?_
 (repeat (first|apply Nil.ptr|apply ag.mk|refine Ld.mk (by repeat (first|exact List.Mem.head _|apply List.Mem.tail|apply xaa)) rfl ?_|apply aG.mk|apply ae.eql|apply ae.lss|apply Br.yes|apply Br.no|apply ae.aJ))
 refine cR.upto (h:=n) zO ?_
 (repeat (first|apply Nil.ptr|apply ag.mk|refine Ld.mk (by repeat (first|exact List.Mem.head _|apply List.Mem.tail|apply xaa)) rfl ?_|apply aG.mk|apply ae.eql|apply ae.lss|apply Br.yes|apply Br.no|apply ae.aJ))
 refine St.one (by repeat (first|exact cu.head _|apply cu.tail|apply cu.aH)) rfl zI rfl ?_;refine DR.self ?_
 (repeat (first|apply Nil.ptr|apply ag.mk|refine Ld.mk (by repeat (first|exact List.Mem.head _|apply List.Mem.tail|apply xaa)) rfl ?_|apply aG.mk|apply ae.eql|apply ae.lss|apply Br.yes|apply Br.no|apply ae.aJ))
 rw[<-xaG Cm];refine jW.del (A:=[_,_,_,_]) (B:=[]) hm λXn hm'=>?_;rw[xaG];have hrows:ez .i64 l++aC=ez .i64 (l.take n)++(enc .i64 (at' l n)::aC):=by
  have e:l=l.take n++[at' l n]:=by
   have h2:l.drop n=[at' l n]:=by
    rw[xaV zO,xa9 zO];simp[hn,at',List.getD]
   have:=(xbr n l).symm;rw[h2]at this;exact this
  conv=>lhs;rw[e]
  simp[ez]
 have Ra:∀r∈ez .i64 (l.take n)++(enc .i64 (at' l n)::aC),r.length=2:=by rw[<-hrows];exact aF
 intro J hJ;have hlt:(l.take n).length=n:=by simp[hn]
 have gK:∀l' C',V5 (.pointer (some ⟨bh,0,none⟩)) l' C'->l.Perm (at' l 0::l')->J [] ((b27,Obj.cells (enc .i64 (at' l n)).toArray 378 zZ)::(b14,Obj.cells (enc .i64 (at' l 0)).toArray 378 zZ)::C'):=by
  intro l' C' hi' hp';refine hJ _ λgs=>?_
  (repeat (first|apply Nil.ptr|apply ag.mk|refine Ld.mk (by repeat (first|exact List.Mem.head _|apply List.Mem.tail|apply xaa)) rfl ?_|apply aG.mk|apply ae.eql|apply ae.lss|apply Br.yes|apply Br.no|apply ae.aJ))
  exact⟨_,_,rfl,.skip .tail,l',hi',.inr ⟨_,hp',hmin,rfl⟩⟩
 (repeat (first|apply Nil.ptr|apply ag.mk|refine Ld.mk (by repeat (first|exact List.Mem.head _|apply List.Mem.tail|apply xaa)) rfl ?_|apply aG.mk|apply ae.eql|apply ae.lss|apply Br.yes|apply Br.no|apply ae.aJ))
 have LL:Tm (.pointer (some ⟨bh,0,none⟩)) (l.take n) (DF f (at' l 0).1 none) ((bh,Obj.cells #[.slice (some ⟨la,0,none⟩) n (l.length+aC.length),.map (some mb)] 376 zZ)::(la,.cells (rows (ez .i64 l++aC)) 378 zZ)::Xn):=by
  rw[hrows];exact .shut Ra hlt.symm (by simp[hn];omega) hm'
 refine Br.mk (λh0=>?_) (λh0=>?_)
 ·have h0:0<n:=by simpa using h0
  obtain⟨_,q1,q2,q3,q4⟩:=T9 hc hO h1 hn h0;refine au.q ?_;refine aa.fq (qs LL (i:=0) zO (at' l n)) ?_;rintro v C2 ⟨rfl,Cd⟩;have DM:mq ((l.take n).set 0 (at' l n)) (DF (DF f (at' l 0).1 none) (at' l n).1 (some 0)) 0:=by
   refine⟨λj hj Yv=>?_,λx hx=>?_⟩
   ·unfold DF;rw[xac]
    ·exact q4.1 j hj Yv
    intro e;have h00:at' ((l.take n).set 0 (at' l n)) 0=at' l n:=by rw[gC _ zO];simp[gI]
    exact Yv (q3.inj hj zP (by rw[e,h00]))
   unfold DF;rw[xac]
   ·exact q4.2 x hx
   intro e;refine hx (gO.2 ⟨0,by simp;omega,?_⟩);rw[gC _ zO];simp[gI,e]
  refine aa.fq (QY Cd (i:=0) zP zP (by simpa[hn]using q2) DM q3) ?_;rintro v C3 ⟨rfl,l3,f3,ho3,QA,hc3,abm⟩;exact JE.mk (gK l3 C3 ⟨f3,ho3,hc3,abm,q3.perm QA⟩ ((QA.cons (at' l 0)).trans q1).symm)
 have h0:n=0:=by simp at h0;omega
 subst h0;refine JE.mk (gK (l.take 0) _ ⟨_,LL,⟨λj hj=>by simp at hj,λx _=>?_⟩,λj _ hj=>by simp at hj,by simp[ju]⟩ ?_)
 ·unfold DF;split
  ·rfl
  rename_i hne;refine hc.2 x λhm=>hne ?_;obtain⟨j,hj,e⟩:=gO.1 hm;rw[show j=0 by omega]at e;exact e.symm
 match l,hn with
 | [a],_=>exact .refl _
end
end Go.Proofs
namespace an
open Go.Sx SQ
def nn(s k:Nat):It:=((s:Int),(k:Int))
variable {n:Nat} {c:Nat->Nat->Nat} {T:Nat} {D:zL} {l l':List It} {s i:Nat}
end an
set_option maxRecDepth 100000
namespace Go.Proofs
open Go Go.Sx Tryz
section
open aE SQ
theorem KC{pt n v:Nat}{T:Nd->Option Nat}{C:Hp}(h:nJ pt n T C)(hv:v<n):
  Rd zQ 293 #[ptr pt,iv (v:Int)] C (λr=>∃l:List (Nd×Nat),(l.map Prod.fst).Nodup/\(∀d r,(d,r)∈l↔T d=some r/\d.v=v)/\r=.tuple #[iv ((l.length:Nat):Int),iv 0]):=by
 have h0:=h;obtain⟨vs,Cs,ms,rfl,hs,ho⟩:=h;obtain⟨m,hm⟩:∃m,ms[v]? =some m:=⟨_,xab (by rw[ho.len];exact hv)⟩;have he:=ho.dV v m hm;have hT:∀d:Nd,d.v=v->T d=bU m.l d:=λd hd=>by rw[ho.T,hd,hm];rfl
 have hmem:∀d r,(d,r)∈m.l↔T d=some r/\d.v=v:=λd r=>by
  constructor
  ·intro hx;have hd:=ho.var v m hm _ hx;exact⟨by rw[hT d hd];exact(fk he.nd).2 hx,hd⟩
  rintro⟨h1,h2⟩;rw[hT d h2]at h1;exact(fk he.nd).1 h1
 refine aK λg=>FW (aa.eq (j3 h0 hv) (ae.fX (Br.F (Nil.ptr ?_))));refine ag.mk (Ld.mk zM rfl ?_);refine hs.Wp (x:=.map (some m.b)) (by rw[xas,hm];rfl) (λ_ h=>by exact .tail _ (xad _ h)) ?_;refine he.Qd (b:=m.b) (by exact .tail _ (xaa _ (qg hm))) ?_;exact bE.mk (.refl _) ⟨m.l,he.nd,hmem,rfl⟩
section
variable {kp v gr:Nat} {K:Kd} {S:Nat->aE.Fn} {ord tr:zL} {C:Hp}
theorem Lz{ah:zL}(h:cS kp K ord ah tr C)(hv:v<K.n):Rd zQ 265 #[ptr kp,iv (v:Int)] C (λr=>∃l:List (Nd×Nat),(l.map Prod.fst).Nodup/\(∀d r,(d,r)∈l↔K.T d=some r/\d.v=v)/\r=.tuple #[iv ((l.length:Nat):Int),iv 0]):=by
 have h0:=h;obtain⟨b,rfl,hO⟩:=h;refine aK λg=>Gg (ae.aJ (Br.no (aa.eq (tN h0 (v:Int)) ?_)));rw[xav zO];refine Un.not (Br.no (Nil.ptr (ag.mk (Ld.f ?_))));refine aa.rq (KC hO.ut hv) ?_;rintro r ⟨l,h1,h2,rfl⟩;exact Ext.mk rfl (Ext.mk rfl (bE.mk (.refl _) ⟨l,h1,h2,rfl⟩))
theorem Sr(h:At kp K S ord tr C)(hv:v<K.n):Rd zQ 265 #[ptr kp,iv (v:Int)] C (λr=>∃w:Nat,r=.tuple #[iv (w:Int),iv 0]):=by
 obtain⟨K',S',fI,h,hk⟩:=h;exact(Lz h.rep (by rw[hk.n];exact hv)).mono λr H ⟨e,l,_,_,h3⟩=>⟨e,_,h3⟩
theorem U3{h:zV}{l:List It}{C:Hp}(hi:V5 h l C):Rd zQ 267 #[h] C (· =iv ((l.length:Nat):Int)):=by
 obtain⟨f,⟨bh,sv,mv,Cs,Cm,rfl,rfl,hs,hm,hne⟩,_⟩:=hi;refine aK λg=>Ge (ae.aJ (Br.no (Ld.n ?_)));refine hs.bF ?_;rw[cM];exact bE.mk (.refl _) rfl
def sln:List zV->Nat
 | .slice _ n _::_=>n
 |_=>0
theorem PA(h:At kp K S ord tr C):Fc zQ 234 #[ptr kp] C (λr H=>∃N l,H=N++C/\l.Perm (List.range K.n)/\aR 3 .i64 r (iw l) N):=by
 have hn:=h.rC;refine aK λg=>GD (ae.aJ (Br.no (aa.fq (U0 C) ?_)));rintro w H ⟨bh,C0,rfl,rfl,EU⟩;refine aa.eq (l7 h) (⟨λvs H=>∃(i:Nat) (l:List It) (C':Hp),vs=[iv (i:Int)]/\i<=K.n/\H=C'++C/\V5 (.pointer (some ⟨bh,0,none⟩)) l C'/\(l.map Prod.fst).Perm (iw (List.range i)),λvs _=>K.n-bj vs 0,JE.mk ⟨0,[],C0,rfl,xaA _,rfl,EU,.refl _⟩,?_⟩);rintro w H ⟨i,l,C',⟨⟩,hi,rfl,hh,hp⟩ gs;have jF:l.length=i:=by have:=hp.length_eq;simpa[iw]using this
 refine ae.cU (Br.dec (λhlt=>?_) (λhge=>?_))
 ·refine aa.rq (Sr h hlt) ?_;rintro r ⟨w,rfl⟩;refine Ext.two (⟨_,rfl,?_⟩);refine aa.fq (Qz hh zO _ _) ?_;rintro r C2 ⟨l2,DL,⟨hin,_⟩|⟨_,rfl,dF⟩⟩
  ·exfalso;have:=hp.mem_iff.1 hin;rw[P6,xaJ]at this;omega
  refine ae.inc (az.mk ⟨i+1,l2,C2,rfl,hlt,rfl,DL,?_⟩ (by simp only[bj];omega));refine(dF.map _).trans ?_;rw[xaM,xcO,cc];exact(List.Perm.cons _ hp).trans (xaW (l₁:=[((i:Nat):Int)]))
 obtain rfl:i=K.n:=by omega
 refine⟨λvs H=>∃(s:zV) (done:zL) (l:List It) (CS C':Hp),vs=[s]/\H=CS++(C'++C)/\V5 (.pointer (some ⟨bh,0,none⟩)) l C'/\aR 3 .i64 s (iw done) CS/\(iw done++l.map Prod.fst).Perm (iw (List.range K.n)),λvs _=>K.n-sln vs,JE.mk ⟨_,[],l,[],C',rfl,rfl,hh,aR.nil,hp⟩,?_⟩;clear hp hh jF;rintro w H ⟨s,done,l,CS,C',⟨⟩,rfl,hh,hs,hp⟩ gs;have hlen:done.length+l.length=K.n:=by have:=hp.length_eq;simpa[iw]using this
 refine aa.eq (U3 hh) (ae.iF (b:=0) (Br.dec (λhlt=>?_) (λhge=>?_)))
 ·refine aa.fq (UY hh zO) ?_;rintro r C2 ⟨l2,DL,⟨rfl,_⟩|⟨a,dF,_,rfl⟩⟩
  ·simp at hlt
  have ha:a.1∈iw (List.range K.n):=hp.mem_iff.1 (xaa _ (xba (dF.mem_iff.2 (.head _))));obtain⟨x,hx,hxa⟩:=xam.1 ha;refine Ext.mk rfl (Ext.mk rfl (Ext.mk rfl ?_));rw[<-hxa];refine ak.int (e:=3) zK zK zK λbx=>?_;refine hs.mD (x:=(x:Int)) (.cons .left) (by exact .head _) (by rw[aq];omega) (by rw[aq];omega) λs2 CS2 mu=>?_;have kD:(iw (done++[x])++l2.map Prod.fst).Perm (iw (List.range K.n)):=by
   refine .trans ?_ hp;rw[cc,xai];refine xcn _ ?_;refine .trans ?_ (dF.map _).symm;rw[xaM,<-hxa];exact .refl _
  have e1:∀{s:zV} {done:zL} {CS:Hp},aR 3 .i64 s (iw done) CS->sln [s]=done.length:=λ{s done CS} h=>by
   obtain⟨a,c,h⟩:=aO.len h;rw[h];simp[sln,iw]
  refine az.of .tail ⟨s2,done++[x],l2,CS2,C2,rfl,rfl,DL,by rw[cc];exact mu,kD⟩ ?_;rw[e1 (done:=done++[x]) (by rw[cc];exact mu),e1 hs,xaf,xbf];have:=dF.length_eq;rw[xal]at this;omega
 have hl0:l=[]:=xch.1 zO;subst hl0;rw[xcJ,xaG]at hp;obtain⟨l',hl',e⟩:=Uh hp;rw[e]at hs;exact aQ.mk (aI.cT .right CS) ⟨CS,l',rfl,hl',hs⟩
theorem Bp(h:At kp K S ord tr C)(hp:ord.Perm (List.range K.n))(jL:100<=gr/\gr<=1000)(ei:tr.length<17317308137472):
  Fc zQ 194 #[ptr kp,iv (gr:Int)] C (λv H=>∃l,l.Perm (List.range K.n)/\v=.tuple #[rep (cO K S ord) (cO K S (ax ord ((rm K S).cq gr ord l).1)) ((rm K S).cq gr ord l).2,iv 0]/\At kp K S (ax ord ((rm K S).cq gr ord l).1) (tr++((rm K S).cq gr ord l).1) H):=by
 have hn:=h.rC;have vb:(rm K S).n=K.n:=rfl;refine aK λg=>G6 λb1 _=>?_;refine aa.eq (o5 kp (gr:=(gr:Int)) C) ?_;rw[xac zO];refine ae.fX (Br.F (aa.eq (di h) (Build.mk (cs:=[iv ((cO K S ord:Nat):Int),iv 0,iv 0,.bool false]) zK λTk _=>?_)));refine St.q ?_;refine aa.fq (PA h) ?_;rintro s H ⟨NQ,l,rfl,hl,hQ⟩;have jF:l.length=K.n:=by rw[hl.length_eq,xaC]
 refine hQ.bF ?_;rw[aq,jF];refine⟨λvs H=>∃(i:Nat) (C':Hp),vs=[iv (i:Int)]/\i<=K.n/\H=(Tk,.cells (List.toArray [iv ((cO K S ord:Nat):Int),iv 0,iv ((((rm K S).cq gr ord (l.take i)).2:Nat):Int),.bool false]) 224 zZ)::(b1,.cells #[iv 0,iv 0,iv 0,.bool false] 224 zZ)::(NQ++C')/\At kp K S (ax ord ((rm K S).cq gr ord (l.take i)).1) (tr++((rm K S).cq gr ord (l.take i)).1) C',
  λvs _=>K.n-bj vs 0,JE.mk ⟨0,C,rfl,xaA _,rfl,by simpa[Rm.cq,ax]using h⟩,?_⟩
 rintro w H ⟨i,C',⟨⟩,hi,rfl,hA⟩ gs;have hok:=k7 (m:=rm K S) (g:=gr) (l:=l.take i) hp (λv hv=>xaJ.1 (hl.mem_iff.1 (xci hv)));have hlt:(l.take i).length<=64:=by rw[xbs];omega
 have h1:=hok.len;have h2:=hok.uk;have h3:(rm K S).n*(l.take i).length<=64*64:=xbK hn hlt;have h4:3*((rm K S).n-1)*(l.take i).length<=(3*64)*64:=xbK (xcU _ (by rw[vb];omega)) hlt;have Yl:=kZ hp hok.mem;refine ae.cU (Br.dec (λhlt=>?_) (λhge=>?_))
 ·have QM:i<l.length:=by omega
  have kR:l.take (i+1)=l.take i++[l[i]]:=xbd QM;refine hQ.ld (x:=((l[i]:Nat):Int)) (cI (xab QM)) (λ_ h=>.tail _ (.tail _ (xad _ h))) ?_;have hvn:l[i]<K.n:=xaJ.1 (hl.mem_iff.1 (xaD QM));refine aa.fq (T0 hA Yl hvn jL (by rw[xaf];omega) rfl) ?_;rintro w C2 ⟨rfl,rN⟩;have hs1:=(rm K S).zo gr (ord:=ax ord ((rm K S).cq gr ord (l.take i)).1) (rI Yl hvn);have yx:=hs1.uk;rw[vb]at yx;have UW:=xO (m:=rm K S) (g:=gr) (v:=l[i]) (l:=l.take i) (ord:=ord);rw[<-kR]at UW;rw[xai,<-cm]at rN;refine Ext.two λb30 _=>(St.q ?_);refine Ld.f ?_;refine Ld.f ?_;refine ae.eZ (ag.mk (St.one (c':=List.toArray [iv ((cO K S ord:Nat):Int),iv 0,iv ((((rm K S).cq gr ord (l.take (i+1))).2:Nat):Int),.bool false]) (by exact .tail (.head _)) rfl zI (by rw[UW];rfl) ?_));exact ae.inc (az.of .tail ⟨i+1,C2,rfl,hlt,rfl,by rw[UW];exact rN⟩ (by simp only[bj];omega))
 obtain rfl:i=K.n:=by omega
 rw[show l.take K.n=l from by rw[<-jF];exact xbc]at hA⊢;refine aa.eq (di hA) (ag.mk (St.one (c':=List.toArray [iv ((cO K S ord:Nat):Int),iv ((cO K S (ax ord ((rm K S).cq gr ord l).1):Nat):Int),iv ((((rm K S).cq gr ord l).2:Nat):Int),.bool false]) (by exact .head _) rfl zI rfl ?_));refine au.q ?_;refine St.q ?_;refine au.q ?_;exact aQ.mk (.skip (.skip .right)) ⟨l,hl,rfl,hA⟩
end
end
section
open aE
section
variable {kp v gr:Nat} {K:Kd} {S:Nat->aE.Fn} {ord tr:zL} {C:Hp}
theorem Bi(h:At kp K S ord tr C)(hp:ord.Perm (List.range K.n))(jL:100<=gr/\gr<=1000)(ei:tr.length<17042430230528):
  Fc zQ 195 #[ptr kp,iv (gr:Int)] C (λv H=>∃ls,(∀l∈ls,l.Perm (List.range K.n))/\(rm K S).sP gr ord ls/\v=.tuple #[rep (cO K S ord) (cO K S (ax ord ((rm K S).cW gr ord ls).1)) ((rm K S).cW gr ord ls).2,iv ((ls.length:Nat):Int),iv 0]/\At kp K S (ax ord ((rm K S).cW gr ord ls).1) (tr++((rm K S).cW gr ord ls).1) H):=by
 have hn:=h.rC;have hsz:=pJ h;have vb:(rm K S).n=K.n:=rfl;have tB:∀o,(rm K S).size o=cO K S o:=λ_=>rfl;refine aK λg=>G5 λb1 _=>?_;refine aa.eq (o5 kp (gr:=(gr:Int)) C) ?_;rw[xac zO];refine ae.fX (Br.F (aa.eq (di h) (Build.mk (cs:=[iv ((cO K S ord:Nat):Int),iv 0,iv 0,.bool false]) zK λTk _=>?_)));refine St.q ?_;refine⟨λvs H=>∃(ls:List (zL)) (af:Int) (C':Hp),vs=[iv ((ls.length+1:Nat):Int)]/\(∀l∈ls,l.Perm (List.range K.n))/\(rm K S).rQ gr ord ls/\H=(Tk,.cells (List.toArray [iv ((cO K S ord:Nat):Int),iv af,iv ((((rm K S).cW gr ord ls).2:Nat):Int),.bool false]) 224 zZ)::(b1,.cells #[iv 0,iv 0,iv 0,.bool false] 224 zZ)::C'/\At kp K S (ax ord ((rm K S).cW gr ord ls).1) (tr++((rm K S).cW gr ord ls).1) C',
  λvs _=>cO K S ord+1-bj vs 0,JE.mk ⟨[],0,C,rfl,by simp,trivial,rfl,by simpa[Rm.cW,ax]using h⟩,?_⟩
 rintro w H ⟨ls,af,C',⟨⟩,hls,hgd,rfl,hA⟩ gs;obtain⟨g1,g2,g3,g4⟩:=yH hp hls hgd;rw[vb]at g1 g3 g4;rw[tB,tB]at g2;have jF:ls.length<=1048576:=by omega
 have h3:3*(K.n-1)*K.n*ls.length<=(3*64*64)*1048576:=xbK (xbK (xcU _ zO) hn) jF;have h4:K.n*K.n*ls.length<=(64*64)*1048576:=xbK (xbK hn hn) jF;have Yl:=kZ hp g1;refine aa.fq (Bp hA Yl jL (by rw[xaf];omega)) ?_;rintro w C2 ⟨l,hl,rfl,rN⟩;have hok:=k7 (m:=rm K S) (g:=gr) (l:=l) Yl (λv hv=>xaJ.1 (hl.mem_iff.1 hv));have yx:=hok.uk;have hlen:l.length=K.n:=by rw[hl.length_eq,xaC]
 have hle:=hok.le;rw[vb,hlen]at yx;rw[tB,tB]at hle;have h5:3*(K.n-1)*K.n<=3*64*64:=xbK (xcU _ zO) hn;have UW:=xP (m:=rm K S) (g:=gr) (l:=l) (ls:=ls) (ord:=ord);have QB:∀x∈ls++[l],x.Perm (List.range K.n):=λx hx=>by
  rcases xao.1 hx with h|h
  ·exact hls x h
  rw[xaK.1 h];exact hl
 rw[xai,<-cm]at rN;have Oo:=sQ (m:=rm K S) (g:=gr) (l:=l) hgd;have hge:=Cw (m:=rm K S) (g:=gr) (l:=l) hgd;rw[tB,tB]at Oo hge;generalize hx:(rm K S).cq gr (ax ord ((rm K S).cW gr ord ls).1) l=x at*;have e1:ax (ax ord ((rm K S).cW gr ord ls).1) x.1=ax ord ((rm K S).cW gr ord (ls++[l])).1:=by rw[UW,cm]
 rw[e1]at Oo hge hle;refine Ext.two λb24 _=>(St.q ?_);refine Ld.f ?_;refine Ld.f ?_;refine ae.eZ (ag.mk (St.one (c':=List.toArray [iv ((cO K S ord:Nat):Int),iv af,iv ((((rm K S).cW gr ord (ls++[l])).2:Nat):Int),.bool false]) (by exact .tail (.head _)) rfl zI (by rw[UW];rfl) ?_));refine Ld.f ?_;refine ag.mk (St.one (c':=List.toArray [iv ((cO K S ord:Nat):Int),iv ((cO K S (ax ord ((rm K S).cW gr ord (ls++[l])).1):Nat):Int),iv ((((rm K S).cW gr ord (ls++[l])).2:Nat):Int),.bool false]) (by exact .tail (.head _)) rfl zI (by rw[<-e1];rfl) ?_);refine Ld.f ?_;refine Ld.f ?_;rw[e1];refine ae.mh (Br.dec (λajP=>?_) (λhlt=>?_))
 ·refine au.q ?_;refine St.q ?_;refine au.q ?_;exact aQ.mk (.skip (.skip .tail)) ⟨ls++[l],QB,hge zO,by rw[xaf];rfl,by rw[UW];exact rN⟩
 refine ae.inc (az.of .tail ⟨ls++[l],_,C2,by rw[xaf];rfl,QB,Oo zO,rfl,by rw[UW];exact rN⟩ ?_);simp only[bj];omega
end
end
section
theorem ae.K8{kd:IntKind}{a b:Nat}{k:zV->Prop}(hb:b≠0)(h:k (.int kd ((a%b:Nat):Int))):ae .num .rem (.int kd a) (.int kd b) k:=
 ae.Wj zO rfl (by have:((a:Int)).tmod (b:Int)=((a%b:Nat):Int):=rfl;rw[this];exact h)
open aE
section
variable {kp mb DS b1 b7 DQ bn:Nat} {K:Kd} {S:Nat->aE.Fn} {ord ah tr:zL} {C:Hp}
def kr(r:Nat):zV:=u32 r
theorem gv(a b:Nat):Instr.sameNow (.int .u32) (kr a) (kr b)=some (decide (a=b)):=by
 simp only[Instr.sameNow,kr,u32,xa4,xar];rw[xcN];simp;omega
theorem lB(a:Nat):Instr.sameBits 10000 (kr a) (kr a)=true:=by simp[Instr.sameBits,kr,u32]
structure Kn(n:Nat)(S:Nat->aE.Fn)(es:Array MapEntry)(ck:Nat)(m:List (Nat×zV))(Y:Hp):Prop where
 dV:aT kr (λv x=>v=x) es ck m
 jD:∀r v,bU m r=some v->eH Y v n (S r)
 low:∀r,r<2->bU m r≠none
theorem Kn.mono{n:Nat}{S:Nat->aE.Fn}{es:Array MapEntry}{ck:Nat}{m:List (Nat×zV)}{Y Y':Hp}(h:Kn n S es ck m Y)(hs:∀x∈Y,x∈Y'):Kn n S es ck m Y':=⟨h.dV,λr v hm=>(h.jD r v hm).mono hs,h.low⟩
theorem eH.one{B:Hp}{v:zV}{n:Nat}{f:aE.Fn}(h:eH B v n f):∃s,v=.agg #[iv (n:Int),s]/\s.oneCell'=true:=by
 obtain⟨ws,⟨s,rfl,hw⟩,_,_⟩:=h;exact⟨s,rfl,bC hw⟩
theorem cQ{n:Nat}{s:zV}(h:s.oneCell'=true):∀u∈[Value.int .i64 (n:Int),s],u.oneCell'=true:=λu hu=>by
 simp only[xag,xaw,xa1]at hu;rcases hu with rfl|rfl
 ·rfl
 exact h
theorem j8(d:Nd):∀u∈bJ d,u.oneCell'=true:=λu hu=>by
 simp only[bJ,xag,xaw,xa1]at hu;rcases hu with rfl|rfl|rfl<;>rfl
theorem Db{X:Hp}(h:cZ kp K S ord ah tr C){r:Nat}{d:Nd}(hd:K.N r=some d):Px zQ 138 #[ptr kp,u32 r] (X++C) (λv _=>v=.agg (bJ d).toArray):=by
 have hlt:=h.eC (.inr ⟨d,hd⟩);refine aK λg=>HT λb1 _=>?_;refine aa.eq (args:=#[ptr kp,u32 r]) (qo h.rep zO) ?_;rw[gy hd (h.ok.mid.two hd).1];refine Ext.two λb7 _=>(St.p (j8 d) ?_);refine au.q ?_;refine St.p (j8 d) ?_;refine au.q ?_;exact AJ.mk (by repeat (first|exact bH.refl _|apply bH.cons|apply bH.app)) rfl
theorem Dg{X:Hp}{v:zV}(h:cZ kp K S ord ah tr C){rs:zL}(hv:dY .u32 (X++C) v (iw rs))(hr:∀r∈rs,live K.N r)(hl:rs.length<4611686018427387904):Px zQ 136 #[ptr kp,v] (X++C) (λw _=>w=iv 0):=by
 refine aK λg=>HV (ae.aJ (Br.no (hv.bF ?_)));rw[aq];refine⟨λvs H=>∃(i:Nat) (N:Hp),vs=[iv (i:Int)]/\i<=rs.length/\H=N++(X++C),λvs _=>rs.length-bj vs 0,JE.mk ⟨0,[],rfl,xaA _,rfl⟩,?_⟩;rintro w H ⟨i,N,hw,hi,rfl⟩ gs;simp only[xay,xa5]at hw;subst hw;refine ae.cU (Br.dec (λhlt=>?_) (λhge=>?_))
 ·have DJ:=hr _ (xaD hlt);have rL:=h.eC DJ;refine hv.ld (n:=((rs[i]:Nat):Int)) (cI (xab hlt)) (λ_ h=>xaa _ h) ?_;refine aa.eq (args:=#[ptr kp,u32 rs[i]]) (qo h.rep zO) ?_;rw[xae (cz.2 DJ)];refine Ext.two λb15 _=>(St.whole (r:=got K.N rs[i]) (by exact .head _) rfl (bL _ _).1 (bL _ _).2 ?_);exact ae.fX (Br.F (ae.inc (az.mk ⟨i+1,_::N,rfl,hlt,rfl⟩ (by simp only[bj];omega))))
 exact AJ.mk (by repeat (first|exact bH.refl _|apply bH.cons|apply bH.app)) rfl
theorem RA{X:Hp}{n:Nat}(hn:n<=16){d:Nd}(hd:d.v<n){v1 v2:zV}{f1 f2:aE.Fn}(h1:eH X v1 n f1)(h2:eH X v2 n f2)(hm:(bn,Obj.cells #[iv (n:Int)] 3 zZ)∈X):
  Px zQ 277 #[.agg (bJ d).toArray,v1,v2,ptr bn] X (λw H=>eH H w n (λx=>if x.testBit d.v then f2 x else f1 x)):=by
 obtain⟨s1,rfl,o1⟩:=h1.one;obtain⟨s2,rfl,o2⟩:=h2.one;refine aK λg=>F5 λc1 _ c3 _ c5 _ c7 _=>?_;refine Ld.mk (v:=iv (n:Int)) (by exact .tail _ (.tail _ (.tail _ (.tail _ hm)))) rfl ?_;refine Ld.f ?_;refine aa.px (bB.left (C:=[]) (A:=_)) (IG hn hd []) ?_;rintro w N ⟨t,rfl,ht⟩;rw[xaG]at ht⊢;obtain⟨s3,rfl,o3⟩:=ht.one;refine Ext.two λXi _=>(St.p (cQ o3) ?_);refine au.q ?_;refine au.q ?_;refine au.q ?_;refine aa.pre (.perm (.cons _ (xaT.trans (.cons _ (xaT.trans (.cons _ (xaT.trans (.cons _ xaT)))))))) ?_;refine aa.pq (IJ (B:=N++X) (ht.mono λ_ h=>xad _ h) (h2.mono λ_ h=>xaa _ h) (h1.mono λ_ h=>xaa _ h)) ?_;rintro w N2 ⟨t4,rfl,ht4⟩;obtain⟨s4,rfl,o4⟩:=ht4.one;refine Ext.two λc26 _=>(St.p (cQ o4) ?_);refine au.q ?_;refine St.p (cQ o4) ?_;refine au.q ?_;refine AJ.mk (by repeat (first|exact bH.refl _|apply bH.cons|apply bH.app)) (ht4.mono ?_);intro x hx;repeat (first|exact hx|apply xbz)
theorem acJ(h:cZ kp K S ord ah tr C)(hn:K.n<=16){Z0:Hp}(h19:(DS,Obj.cells #[.map (some mb)] 381 zZ)∈Z0)(h1:(b1,Obj.cells #[ptr kp] 45 zZ)∈Z0)(h7:(b7,Obj.cells #[.func (.func 277) #[] #[ptr bn]] 357 zZ)∈Z0)
 (Z4:(DQ,Obj.cells #[.func (.func 300) #[] #[ptr DS,ptr b1,ptr b7,ptr DQ]] 382 zZ)∈Z0)(ZO:(bn,Obj.cells #[iv (K.n:Int)] 3 zZ)∈Z0):
  ∀(k r:Nat) (es:Array MapEntry) (ck:Nat) (m:List (Nat×zV)) (Z:Hp),K.n-dep K.n (lv ah) K.N r<=k->live K.N r->(∀x∈Z0,x∈Z)->Kn K.n S es ck m Z->
  Fc zQ 300 #[u32 r,ptr DS,ptr b1,ptr b7,ptr DQ] ((mb,.map es ck)::(Z++C)) (λv H=>∃es' cE m' N,H=(mb,.map es' cE)::(N++(Z++C))/\Kn K.n S es' cE m' (N++Z)/\eH (N++Z) v K.n (S r)):=by
 have hit:∀{r:Nat} {es:Array MapEntry} {ck:Nat} {m:List (Nat×zV)} {Z:Hp} {v:zV},(∀x∈Z0,x∈Z)->Kn K.n S es ck m Z->bU m r=some v->
   Fc zQ 300 #[u32 r,ptr DS,ptr b1,ptr b7,ptr DQ] ((mb,.map es ck)::(Z++C)) (λv H=>∃es' cE m' N,H=(mb,.map es' cE)::(N++(Z++C))/\Kn K.n S es' cE m' (N++Z)/\eH (N++Z) v K.n (S r)):=by
  intro r es ck m Z v hZ hm hv g;obtain⟨s,rfl,hs⟩:=(hm.jD r v hv).one;refine wm (R:=aQ _) ?_;unfold L300;intro c1 _;refine Ld.mk (v:=.map (some mb)) (by exact .tail _ (.tail _ (xad _ (hZ _ h19)))) rfl ?_;refine hm.dV.hit (k:=r) gv (b:=mb) (by exact .tail _ (.head _)) hv λv' e=>?_;subst e;refine Ext.two λc7 _=>(St.p (cQ hs) ?_);refine Br.yes (au.q ?_);refine St.p (cQ hs) ?_;refine au.q ?_;exact aQ.mk (.skip .tail) ⟨es,ck,m,[],rfl,hm,hm.jD r _ hv⟩
 intro k;induction k with
 |zero=>
  intro r es ck m Z hk hr hZ hm;have rK:r<2:=by
   cases hN:K.N r with
   |some d=>
    have:=h.ok.wf.iA h.ok.lv r;rw[aB hN]at hk;have:=h.ok.lv.lt _ (h.ok.mid.var hN);omega
   |none=>
    rcases hr with hr|⟨d,e⟩
    ·exact hr
    rw[hN]at e;cases e
  cases hv:bU m r with
  |none=>exact absurd hv (hm.low r rK)
  |some v=>exact hit hZ hm hv
 |succ k ih=>
  intro r es ck m Z hk hr hZ hm;cases hv:bU m r with
  |some v=>exact hit hZ hm hv
  |none=>
  have rK:¬r<2:=λh2=>hm.low r h2 hv;obtain⟨d,hN⟩:∃d,K.N r=some d:=by
   rcases hr with hr|hr
   ·omega
   exact hr
  have vj:=h.ok.mid.var hN;have hlo:=h.ok.wf.lo hN;have hhi:=h.ok.wf.hi hN;have hdl:=h.ok.wf.iA h.ok.lv r;rw[aB hN]at hk;have hvl:=h.ok.lv.lt _ vj;have Ow:S r=λx=>if x.testBit d.v then S d.hi x else S d.lo x:=funext λx=>h.ok.mid.int.node hN x
  refine aK λg=>wm λc1 _=>?_;refine Ld.mk (v:=.map (some mb)) (by exact .tail _ (.tail _ (xad _ (hZ _ h19)))) rfl ?_;refine hm.dV.bT (k:=r) gv (b:=mb) (by exact .tail _ (.head _)) hv ?_;refine Ext.two λc7 _=>(St.q ?_);refine Br.no (Ld.mk (v:=ptr kp) (by exact .tail _ (.tail _ (.tail _ (xad _ (hZ _ h1))))) rfl ?_);refine aa.pq (args:=#[ptr kp,u32 r]) (Db (X:=Z) h hN) ?_;rintro w N0 rfl;intro Xi _;refine St.p (j8 d) ?_;obtain⟨Z1,hZ1⟩:∃Z1,Z1=(Xi,Obj.cells (bJ d).toArray 201 zZ)::(N0++Z):=⟨_,rfl⟩;have Re:∀x∈Z,x∈Z1:=λx hx=>by rw[hZ1];exact .tail _ (xaa _ hx)
  have QT:aI (Z1++C) ((Xi,Obj.cells (bJ d).toArray 201 zZ)::Z):=by rw[hZ1];exact aI.left.trans (.cons .right)
  have ve:((Xi,Obj.cells (bJ d).toArray 201 zZ)::(c7,.cells (List.toArray [iv 0,.slice none 0 0]) 37 zZ)::(c1,.cells #[iv 0,.slice none 0 0] 37 zZ)::(mb,Obj.map es ck)::(N0++(Z++C))).Perm
    ((c1,.cells #[iv 0,.slice none 0 0] 37 zZ)::(c7,.cells (List.toArray [iv 0,.slice none 0 0]) 37 zZ)::(mb,Obj.map es ck)::(Z1++C)):=by
   rw[hZ1,xaN,xai];refine(List.Perm.swap _ _ _).trans ?_;refine(List.Perm.cons _ (List.Perm.swap _ _ _)).trans ?_;refine(List.Perm.swap _ _ _).trans (.cons _ (.cons _ (.swap _ _ _)))
  have hR0:aI ((Xi,Obj.cells (bJ d).toArray 201 zZ)::(c7,.cells (List.toArray [iv 0,.slice none 0 0]) 37 zZ)::(c1,.cells #[iv 0,.slice none 0 0] 37 zZ)::(mb,Obj.map es ck)::(N0++(Z++C))) ((Xi,Obj.cells (bJ d).toArray 201 zZ)::Z):=
   .cons (.skip (.skip (.skip (.bY .left))))
  refine DR.of hR0 (Ld.mk (v:=.func (.func 277) #[] #[ptr bn]) (by exact .tail _ (hZ _ h7)) rfl ?_);refine au.q ?_;refine Ld.mk (v:=.func (.func 300) #[] #[ptr DS,ptr b1,ptr b7,ptr DQ]) (by exact .tail _ (hZ _ Z4)) rfl ?_;refine Ld.f ?_;refine Ld.mk (v:=.func (.func 300) #[] #[ptr DS,ptr b1,ptr b7,ptr DQ]) (by exact .tail _ (hZ _ Z4)) rfl ?_;refine Ld.f ?_;intro F;refine bG.of rfl zK (aa.pre (.perm ve) ?_);refine aa.fq (args:=#[u32 d.lo,ptr DS,ptr b1,ptr b7,ptr DQ]) (ih d.lo es ck m Z1 zO hlo.1 (λx hx=>Re _ (hZ x hx)) (hm.mono Re)) ?_;rintro v1 H ⟨n4,mB,m1,N1,rfl,AT,UT⟩;refine⟨.skip (.skip (.skip (.bY QT))),?_⟩;rw[<-xai];intro F;refine bG.of rfl zK (aa.fq (args:=#[u32 d.hi,ptr DS,ptr b1,ptr b7,ptr DQ]) (ih d.hi n4 mB m1 (N1++Z1) zO hhi.1 (λx hx=>xaa _ (Re _ (hZ x hx))) AT) ?_);rintro v2 H ⟨l5,mA,m2,N2,rfl,tQ,LH⟩;refine⟨.skip (.skip (.skip (.bY (aI.assoc.trans (.bY QT))))),?_⟩;rw[<-xai];intro F;refine bG.of rfl zK (aa.pq (args:=#[.agg (bJ d).toArray,v1,v2,ptr bn]) (RA (bn:=bn) hn vj (UT.mono λ_ h=>xaa _ h) LH (xaa _ (xaa _ (Re _ (hZ _ ZO))))) ?_);intro v3 N3 Jl;rw[<-Ow]at Jl;refine⟨.skip (.skip (.skip (aI.assoc.trans (.bY (aI.assoc.trans (.bY (aI.assoc.trans (.bY QT)))))))),?_⟩;obtain⟨s3,rfl,o3⟩:=Jl.one;intro c37 _;intro F;refine St.p (cQ o3) ?_;refine Ld.mk (v:=.map (some mb)) (by exact .tail _ (.tail _ (.tail _ (.tail _ (xad _ (xaa _ (xaa _ (xaa _ (Re _ (hZ _ h19)))))))))) rfl ?_;refine au.q ?_;refine tQ.dV.bV (k:=r) (b:=mb) (x:=.agg #[iv (K.n:Int),s3]) gv lB rfl λRK R9 he=>⟨_,.tail (.tail (.tail (.head _))),?_⟩;refine au.q ?_;refine St.p (cQ o3) ?_;refine au.q ?_;have hmem:∀x∈N3++(N2++(N1++Z1)),x∈(N3++(N2++(N1++((Xi,Obj.cells (bJ d).toArray 201 zZ)::N0))))++Z:=λx hx=>by
   rw[hZ1]at hx;simpa only[xai,xaN]using hx
  refine aQ.mk (.skip (.skip .tail)) ⟨RK,R9,c8 m2 r (.agg #[iv (K.n:Int),s3]),N3++(N2++(N1++((Xi,Obj.cells (bJ d).toArray 201 zZ)::N0))),by rw[hZ1];simp only[xai,xaN],⟨he,λr' v' mr=>?_,λr' hr'=>?_⟩,Jl.mono hmem⟩
  ·rw[cP]at mr;split at mr
   ·rename_i e;subst e;cases mr;exact Jl.mono hmem
   exact(tQ.jD r' v' mr).mono λx hx=>hmem x (xaa _ hx)
  rw[cP];split
  ·simp
  exact tQ.low r' hr'
end
section
variable {kp bn:Nat} {K:Kd} {S:Nat->aE.Fn} {ord ah tr:zL} {C:Hp}
theorem Vx(h:cZ kp K S ord ah tr C)(hn:K.n<=16){r:Nat}(hr:live K.N r){X:Hp}{v0 v1:zV}(hv0:eH X v0 K.n (λ_=>false))(WC:eH X v1 K.n (λ_=>true))(ZO:(bn,Obj.cells #[iv (K.n:Int)] 3 zZ)∈X):
  Fc zQ 276 #[ptr kp,u32 r,v0,v1,.func (.func 277) #[] #[ptr bn]] (X++C) (λv H=>∃N,H=N++(X++C)/\eH (N++X) v K.n (S r)):=by
 obtain⟨s0,rfl,o0⟩:=hv0.one;obtain⟨s1,rfl,o1⟩:=WC.one;have hi:=h.ok.mid.int;refine aK λg=>F6 λb1 _ b3 _ b5 _ b7 _ b9 _ mb _=>?_;refine au.q ?_;refine aT.bV (ke:=kr) (vr:=λv x=>v=x) (k:=0) (b:=mb) (x:=Value.agg #[iv (K.n:Int),s0]) gv lB aT.empty rfl λn4 mB Vb=>⟨_,.head _,?_⟩;refine au.q ?_;refine aT.bV (ke:=kr) (vr:=λv x=>v=x) (k:=1) (b:=mb) (x:=Value.agg #[iv (K.n:Int),s1]) gv lB Vb rfl λl5 mA WW=>⟨_,.head _,?_⟩;intro DS _;refine St.one (c':=#[.map (some mb)]) (by exact .head _) rfl zI rfl ?_;intro DQ _;refine St.one (c':=#[.func (.func 300) #[] #[ptr DS,ptr b1,ptr b7,ptr DQ]]) (by exact .head _) rfl zI rfl ?_;refine Ld.q ?_;refine bG.of rfl zK ?_;obtain⟨Z0,W5⟩:∃Z0:Hp,Z0=(DQ,Obj.cells #[.func (.func 300) #[] #[ptr DS,ptr b1,ptr b7,ptr DQ]] 382 zZ)::(DS,.cells #[.map (some mb)] 381 zZ)::(b7,.cells #[.func (.func 277) #[] #[ptr bn]] 357 zZ)::(b5,.cells (Value.cells (.agg #[iv (K.n:Int),s1])) 37 zZ)::(b3,.cells (Value.cells (.agg #[iv (K.n:Int),s0])) 37 zZ)::(b1,.cells #[ptr kp] 45 zZ)::X:=⟨_,rfl⟩;have hXZ:∀x∈X,x∈Z0:=λx hx=>by rw[W5];exact .tail _ (.tail _ (.tail _ (.tail _ (.tail _ (.tail _ hx)))))
 refine aa.pre (H':=(b9,Obj.cells #[iv 0,.slice none 0 0] 37 zZ)::(mb,Obj.map l5 mA)::(Z0++C)) (.perm ?_) ?_
 ·rw[W5];simp only[xaN];refine(List.Perm.cons _ (List.Perm.cons _ (List.Perm.swap _ _ _))).trans ?_;refine(List.Perm.cons _ (List.Perm.swap _ _ _)).trans ?_;refine(List.Perm.swap _ _ _).trans (.cons _ ?_);refine(List.Perm.cons _ (List.Perm.swap _ _ _)).trans ?_;exact List.Perm.swap _ _ _
 refine aa.fq (args:=#[u32 r,ptr DS,ptr b1,ptr b7,ptr DQ]) (acJ (Z0:=Z0) (bn:=bn) h hn (by rw[W5];exact .tail _ (.head _)) (by rw[W5];exact .tail _ (.tail _ (.tail _ (.tail _ (.tail _ (.head _)))))) (by rw[W5];exact .tail _ (.tail _ (.head _))) (by rw[W5];exact .head _) (hXZ _ ZO) K.n r l5 mA _ Z0 (xdB _ _) hr (λ_ h=>h) ⟨WW,λr v hm=>?_,λr hr=>?_⟩) ?_
 ·rw[cP,cP]at hm;split at hm
  ·rename_i e;subst e;cases hm;have:=WC.mono hXZ;rwa [show(λ_=>true)=S 1 from funext λx=>(hi.one x).symm]at this
  split at hm
  ·rename_i e;subst e;cases hm;have:=hv0.mono hXZ;rwa [show(λ_=>false)=S 0 from funext λx=>(hi.zero x).symm]at this
  simp[bU]at hm
 ·rw[cP,cP];have:r=0\/r=1:=by omega
  rcases this with rfl|rfl<;>simp
 rintro v H ⟨RK,R9,m3,N,rfl,_,ht⟩;obtain⟨s3,rfl,o3⟩:=ht.one;refine St.p (cQ o3) ?_;refine au.q ?_;refine aQ.mk (.skip .tail) ⟨N++[(DQ,Obj.cells #[.func (.func 300) #[] #[ptr DS,ptr b1,ptr b7,ptr DQ]] 382 zZ),(DS,.cells #[.map (some mb)] 381 zZ),(b7,.cells #[.func (.func 277) #[] #[ptr bn]] 357 zZ),(b5,.cells (Value.cells (.agg #[iv (K.n:Int),s1])) 37 zZ),(b3,.cells (Value.cells (.agg #[iv (K.n:Int),s0])) 37 zZ),(b1,.cells #[ptr kp] 45 zZ)],by rw[W5];simp,ht.mono λx hx=>?_⟩;rw[W5]at hx;simpa using hx
theorem Mw(h:cZ kp K S ord ah tr C)(hn:K.n<=16){r:Nat}(hr:live K.N r):
  Fc zQ 240 #[ptr kp,u32 r] C (λv H=>∃N t,H=N++C/\v=.tuple #[t,iv 0]/\eH N t K.n (S r)):=by
 refine aK λg=>Gx λb1 _=>?_;refine ak.int (e:=82) zK zK zK λbx=>?_;refine aa.px .here (Dg (X:=[(bx,_),(b1,_)]) (rs:=[r]) h (dY.block (by exact .head _) zI) (λx hx=>by rw[xaK.1 hx];exact hr) zI) ?_;rintro w N0 rfl;refine ae.fX (Br.F (aa.eq (kx h.rep) λoo _=>?_));refine St.one (c':=#[iv (K.n:Int)]) (by exact .head _) rfl zI rfl ?_;refine Ld.q ?_;refine ae.iF (b:=16) (Br.F (Ld.q ?_));refine aa.px (bB.left (C:=[]) (A:=_)) (q8 hn false []) ?_;rintro w N1 ⟨t0,rfl,UU⟩;rw[xaG]at UU⊢;obtain⟨s0,rfl,o0⟩:=UU.one;refine Ext.two λTj _=>(St.p (cQ o0) ?_);refine Ld.q ?_;refine aa.px (bB.left (C:=[]) (A:=_)) (q8 hn true []) ?_;rintro w N2 ⟨t1,rfl,UT⟩;rw[xaG]at UT⊢;obtain⟨s1,rfl,o1⟩:=UT.one;refine Ext.two λb34 _=>(St.p (cQ o1) ?_);refine au.q ?_;refine au.q ?_;obtain⟨X,hX⟩:∃X:Hp,X=(b34,Obj.cells (List.toArray [iv (K.n:Int),s1]) 37 zZ)::(N2++((Tj,Obj.cells (List.toArray [iv (K.n:Int),s0]) 37 zZ)::(N1++((oo,Obj.cells #[iv (K.n:Int)] 3 zZ)::(N0++[(bx,Obj.cells (aA .u32 [(r:Int)]) 82 zZ)]))))):=⟨_,rfl⟩;refine aa.pre (H':=(b1,Obj.cells #[iv 0,.slice none 0 0] 37 zZ)::(X++C)) (.perm ?_) ?_
 ·rw[hX];have:=xaT (a:=(b1,Obj.cells #[Value.int .i64 0,.slice none 0 0] 37 zZ)) (l₂:=C) (l₁:=(b34,Obj.cells (List.toArray [Value.int .i64 (K.n:Int),s1]) 37 zZ)::(N2++((Tj,Obj.cells (List.toArray [Value.int .i64 (K.n:Int),s0]) 37 zZ)::(N1++((oo,Obj.cells #[Value.int .i64 (K.n:Int)] 3 zZ)::(N0++[(bx,Obj.cells (aA .u32 [(r:Int)]) 82 zZ)]))))));simpa only[xaN,xai,xbe]using this
 refine aa.fq (Vx (X:=X) (bn:=oo) h hn hr (UU.mono λx hx=>?_) (UT.mono λx hx=>?_) ?_) ?_
 ·rw[hX];exact .tail _ (xaa _ (.tail _ (xad _ hx)))
 ·rw[hX];exact .tail _ (xad _ hx)
 ·rw[hX];exact .tail _ (xaa _ (.tail _ (xaa _ (.head _))))
 rintro v H ⟨N,rfl,ht⟩;obtain⟨s3,rfl,o3⟩:=ht.one;refine St.p (cQ o3) ?_;refine au.q ?_;exact aQ.mk .tail ⟨N++X,_,by rw[xai],rfl,ht⟩
def rts(K:Kd):zL:=(List.range K.ho.length).filter λr=>decide (0<K.hold r)
theorem KZ(h:cZ kp K S ord ah tr C):Fc zQ 239 #[ptr kp] C (λr H=>∃N,H=N++C/\aR 82 .u32 r (iw (rts K)) N):=by
 obtain⟨b,hC,hO⟩:=h.rep;have hcap:=h.ok.mid.cap;have hle:=h.nX;have hfit:K.ho.length<=1048576:=by
  have:=hO.ul;omega
 refine aK λg=>Gy (ae.aJ (Br.no ?_));have abc:∀z∈b.CH,z∈C:=by rw[hC];exact bB.sub (.cons (.app (.app (.app .left))))
 refine Nil.ptr (ag.mk (Ld.u (by rw[hC];exact .head _) ?_));refine hO.ho.bF ?_;rw[aq]
 let rk:Nat->zL:=λk=>(List.range k).filter λr=>decide (0<K.hold r)
 refine⟨λvs H=>∃(k:Nat) (w:zV) (N:Hp),vs=[w,iv (k:Int)]/\k<=K.ho.length/\H=N++C/\aR 82 .u32 w (iw (rk k)) N,λvs _=>K.ho.length-bj vs 1,JE.mk ⟨0,_,[],rfl,xaA _,rfl,aR.nil⟩,?_⟩;rintro w11 Xv H ⟨k,w,N,⟨⟩,hk,rfl,hN⟩ gs;refine ae.cU (Br.dec (λhlt=>?_) (λhlt=>?_))
 ·intro J hJ;have fin:∀w' N',aR 82 .u32 w' (iw (rk (k+1))) N'->J [w'] (N'++C):=λw' N' h'=>hJ _ _ λgs=>by
   exact ae.inc (az.of (.refl _) ⟨k+1,w',N',rfl,hlt,rfl,h'⟩ (by simp only[bj];omega))
  have e:rk (k+1)=rk k++if 0<K.hold k then [k]else []:=by
   show(List.range (k+1)).filter _=_;rw[xcO,xcu];congr 1;by_cases hp:0<K.hold k<;>simp[hp]
  refine hO.ho.ld (x:=((K.hold k:Nat):Int)) (bW hlt) (λz hz=>xaa _ (abc z hz)) (ae.iF (b:=0) (Br.dec (λhp=>?_) (λhp=>?_)))
  ·rw[e,xae hp]at fin;refine aM.q ?_;have Cb:(rk k).length<=k:=by
    have:=xbW (λr=>decide (0<K.hold r)) (List.range k);rwa [xaC]at this
   refine ak.int (e:=82) zK zK zK λbx=>?_;refine hN.mD (.cons .left) (by exact .head _) (by rw[aq];omega) (by rw[aq];omega) λv' N' cB=>?_;rw[cc]at fin;exact JE.of .tail (fin v' N' cB)
  rw[e,xac hp,xaG]at fin;exact JE.mk (fin w11 N hN)
 obtain rfl:k=K.ho.length:=by omega
 exact aQ.here ⟨N,rfl,hN⟩
end
end
end Go.Proofs
namespace an
open Go.Sx
def Mx(c:Nat->Nat->Nat):Nat->zL->Nat
 |_,[]=>0
 |a,v::o=>c a v+Mx c (aD a v true) o
def o6(a:Nat)(o:zL):Nat:=o.foldl (λa v=>aD a v true) a
theorem Bo(a:Nat)(o o':zL):o6 a (o++o')=o6 (o6 a o) o':=xdY ..
theorem vI(c:Nat->Nat->Nat):∀(o o':zL) (a:Nat),Mx c a (o++o')=Mx c a o+Mx c (o6 a o) o'
 | [],o',a=>by simp[Mx,o6]
 |v::o,o',a=>by rw[xaN,Mx,vI c o o',Mx,xc9];rfl
theorem pU:∀(o:zL) (a u:Nat),(o6 a o).testBit u=(a.testBit u||decide (u∈o))
 | [],a,u=>by simp[o6]
 |v::o,a,u=>by
  show(o6 (aD a v true) o).testBit u=_;rw[pU o,aj];by_cases e:u=v
  ·simp[e]
  simp[e]
structure mj(n a:Nat)(o:zL):Prop where
 nd:o.Nodup
 mem:∀v,v∈o↔v∈bT n a
variable {n:Nat} {c:Nat->Nat->Nat}
theorem mj.nil{a:Nat}(h:mj n a []):bT n a=[]:=xcK.2 λv hv=>by simpa using(h.mem v).2 hv
theorem mj.tail{a v:Nat}{o:zL}(h:mj n a (v::o)):v∈bT n a/\mj n (aD a v true) o:=by
 have h1:=xaX.1 h.nd;refine⟨(h.mem v).1 zI,h1.2,λu=>?_⟩;rw[cH,aj];have hu:=h.mem u;rw[cH,xag]at hu;by_cases e:u=v
 ·subst e;simp[h1.1]
 simp only[e,false_or,xaU]at hu⊢;exact hu
theorem mj.cons{a v:Nat}{o:zL}(hv:v∈bT n a)(h:mj n (aD a v true) o):mj n a (v::o):=by
 have hm:=h.mem;refine⟨xaX.2 ⟨λhx=>?_,h.nd⟩,λu=>?_⟩
 ·have:=(hm v).1 hx;rw[cH,aj,xae rfl]at this;exact absurd this.2 zI
 rw[xag,hm,cH,cH,aj];rw[cH]at hv;by_cases e:u=v
 ·subst e;simp[hv]
 simp[e]
theorem DC:∀(o:zL) (a:Nat),mj n a o->B n c a<=Mx c a o
 | [],a,h=>by rw[Kk h.nil];exact xaA _
 |v::o,a,h=>by
  obtain⟨h1,h2⟩:=h.tail;exact xbB (ac3 h1) (Nat.add_le_add_left (DC o _ h2) _)
theorem Eo:∀(f a:Nat),(bT n a).length<=f->mj n a (ord n c f a)/\Mx c a (ord n c f a)=B n c a
 |0,a,h=>by
  have hm:bT n a=[]:=xb6 zO;rw[ord,Kk hm];exact⟨⟨by simp,λv=>by rw[hm]⟩,rfl⟩
 |f+1,a,h=>by
  by_cases hm:bT n a=[]
  ·have:ord n c (f+1) a=[]:=by rw[ord,hm];rfl
   rw[this,Kk hm];exact⟨⟨by simp,λv=>by rw[hm]⟩,rfl⟩
  obtain⟨v,hv,he,_,ho⟩:=uM (c:=c) (f:=f) hm;have:=gp hv;obtain⟨h1,h2⟩:=Eo f (aD a v true) zO;rw[ho];exact⟨h1.cons hv,by rw[Mx,h2,he]⟩
theorem nU(n:Nat):bT n 0=List.range n:=by
 unfold bT;rw[xdn.2];simp
end an
namespace an
open Go.Sx
def TS(n:Nat)(l:Fs)(vs:zL):Fs:=vs.foldl (λl v=>given n l v) l
theorem Q6(A k:Nat):has (k+1) A=has k A++(if A.testBit k then [k]else []):=by
 unfold has;rw[xcO,xcu];congr 1;rw[xb4];simp
theorem uo(n:Nat)(l:Fs)(a b:zL):TS n l (a++b)=TS n (TS n l a) b:=xdY ..
theorem uu(n:Nat)(L:Fs)(A:Nat):∀k,st n L A k=TS n (iW L) (has k A)
 |0=>rfl
 |k+1=>by
  rw[st,Q6,uo,<-uu n L A k];split<;>rfl
def Sm(a b:Fs):Prop:=∀x,x∈a↔x∈b
theorem Sm.trans{a b c:Fs}(h:Sm a b)(h':Sm b c):Sm a c:=λx=>(h x).trans (h' x)
theorem Sm.symm{a b:Fs}(h:Sm a b):Sm b a:=λx=>(h x).symm
theorem Sm.refl(a:Fs):Sm a a:=λ_=>xc8
def AF(n:Nat)(l:Fs):Prop:=∀t∈l,dG n t
variable {n:Nat}
theorem sN{a b:Fs}(h:Sm a b)(v:Nat):Sm (given n a v) (given n b v):=λx=>by
 rw[bZ,bZ];constructor
 ·rintro⟨t,ht,h'⟩;exact⟨t,(h t).1 ht,h'⟩
 rintro⟨t,ht,h'⟩;exact⟨t,(h t).2 ht,h'⟩
theorem Ro(hn:n<=16)(l:Fs)(v:Nat):AF n (given n l v):=λt ht=>by
 obtain⟨u,_,b,rfl⟩:=bZ.1 ht;exact dU hn
theorem C8{t:zL}{u v:Nat}{b c:Bool}(hf:dG n t)(hu:u<n)(hv:v<n)(h:u≠v):gf n (gf n t u b) v c=gf n (gf n t v c) u b:=
 (dU hf.tw).ext (dU hf.tw) λx hx=>by
  rw[eG (dU hf.tw) hv hx,eG hf hu (fA hx hv),eG (dU hf.tw) hu hx,eG hf hv (fA hx hu),dx (xbp h)]
theorem E3{l:Fs}{u v:Nat}(hl:AF n l)(hu:u<n)(hv:v<n)(h:u≠v):Sm (given n (given n l u) v) (given n (given n l v) u):=λx=>by
 rw[bZ,bZ];constructor
 ·rintro⟨t,ht,c,rfl⟩;obtain⟨s,hs,b,rfl⟩:=bZ.1 ht;exact⟨gf n s v c,bZ.2 ⟨s,hs,c,rfl⟩,b,C8 (hl s hs) hu hv h⟩
 rintro⟨t,ht,c,rfl⟩;obtain⟨s,hs,b,rfl⟩:=bZ.1 ht;exact⟨gf n s u c,bZ.2 ⟨s,hs,c,rfl⟩,b,C8 (hl s hs) hv hu (xbp h)⟩
theorem xK:∀(vs:zL) {a b:Fs},Sm a b->Sm (TS n a vs) (TS n b vs)
 | [],_,_,h=>h
 |v::vs,_,_,h=>xK vs (sN h v)
theorem O6(hn:n<=16){vs vs':zL}(hp:vs.Perm vs'):(∀v∈vs,v<n)->∀l,AF n l->Sm (TS n l vs) (TS n l vs'):=by
 induction hp with
 |nil=>exact λ_ l _=>Sm.refl _
 |cons v _ ih=>exact λh l hl=>ih (λu hu=>h u (by simp[hu])) _ (Ro hn l v)
 |swap x y r=>
  intro h l hl;by_cases e:x=y
  ·subst e;exact Sm.refl _
  exact xK r (E3 hl (h y zI) (h x zI) (xbp e))
 |trans ve _ ih1 ih2=>exact λh l hl=>(ih1 h l hl).trans (ih2 (λv hv=>h v (ve.mem_iff.2 hv)) l hl)
theorem xJ:∀(vs:zL) {l:Fs},l.Nodup->(TS n l vs).Nodup
 | [],_,h=>h
 |v::vs,_,_=>xJ vs (ng _ _ _)
theorem KB{L:Fs}(h:AF n L):AF n (iW L):=λt ht=>h t (fH.1 ht)
theorem Ep{a b:Fs}(ha:a.Nodup)(hb:b.Nodup)(h:Sm a b)(v:Nat):(nodes n a v).length=(nodes n b v).length:=lj (iL ha hb h)
theorem yG(n a:Nat):(has n a).Nodup:=List.Pairwise.filter _ xbo
theorem YE{a v:Nat}(h:v∈has n a):v<n:=(qf.1 h).1
theorem Q7{a v:Nat}(hv:v<n)(ha:a.testBit v=false):(has n (aD a v true)).Perm (has n a++[v]):=by
 refine(xda (yG _ _) ?_).2 λu=>?_
 ·rw[xa7];refine⟨yG _ _,by simp,λx hx y hy=>?_⟩;simp at hy;subst hy;rintro rfl;rw[(qf.1 hx).2]at ha;cases ha
 rw[qf,xao,xaK,qf,aj];by_cases e:u=v
 ·subst e;simp[hv]
 simp[e]
theorem TV(hn:n<=16){L:Fs}(hL:AF n L){a v:Nat}(hv:v<n)(ha:a.testBit v=false):Sm (st n L (aD a v true) n) (given n (st n L a n) v):=by
 rw[uu,uu];have h:=O6 hn (Q7 hv ha) (λu hu=>YE hu) _ (KB hL);rw[uo]at h;exact h
variable {φ:zL->zL} {π:Nat->Nat}
def lay(n:Nat)(F:Nat->Nat):zL:=(List.range (wN n)).map λi=>F i&&&dz n
def neg(n:Nat)(ws:zL):zL:=lay n λi=>18446744073709551615-ws.getD i 0
end an
namespace aE
open an
section
variable {n:Nat} {ord:zL} {L:an.Fs}
theorem Ed(a:Nat)(o:zL)(v:Nat):o6 a (o++[v])=aD (o6 a o) v true:=by rw[Bo];rfl
theorem RX(hn:n<=16)(hL:∀t∈L,dG n t)(hp:ord.Perm (List.range n)):∀k,k<=n->Sm (cur n ord L k) (st n L (o6 0 (ord.take k)) n)
 |0,_=>by
  have e:st n L (o6 0 (ord.take 0)) n=iW L:=by
   rw[uu];have:has n (o6 0 (ord.take 0))=[]:=by
    show has n 0=[];rw[xcK];intro v hv;have:=(qf.1 hv).2;rw[xcX]at this;cases this
   rw[this];rfl
  rw[e];exact .refl _
 |k+1,hk=>by
  have xk:ord.length=n:=by rw[hp.length_eq,xaC]
  have gE:ord.Nodup:=hp.nodup_iff.2 xbo;have hlt:k<ord.length:=by omega
  have hv:ord[k]<n:=xaJ.1 (hp.mem_iff.1 (xaD hlt));have hg:ord.getD k 0=ord[k]:=by rw[xap,xab hlt];rfl
  have ht:ord.take (k+1)=ord.take k++[ord[k]]:=xbd hlt;have hno:ord[k]∉ord.take k:=λhm=>by
   have h2:(ord.take (k+1)).Nodup:=gE.sublist (xdX _ _);rw[ht]at h2;exact(xa7.1 h2).2.2 _ hm _ zI rfl
  have hb:(o6 0 (ord.take k)).testBit ord[k]=false:=by
   rw[pU,xcX,xaq hno];rfl
  rw[ht,Ed];refine Sm.trans ?_ (Sm.symm (TV hn hL hv hb));rw[cur,hg];exact sN (RX hn hL hp k zO) _
theorem UA(hn:n<=16)(hL:∀t∈L,dG n t)(hp:ord.Perm (List.range n)){k:Nat}(hk:k<=n)(v:Nat):(nodes n (cur n ord L k) v).length=lvl n L (o6 0 (ord.take k)) v:=by
 unfold lvl;refine Ep (rW k) ?_ (RX hn hL hp k hk) v;rw[uu];exact xJ _ (kW _)
theorem CY(hn:n<=16)(hL:∀t∈L,dG n t)(hp:ord.Perm (List.range n)):∀k,k<=n->Mx (lvl n L) 0 (ord.take k)=fQ n ord L k
 |0,_=>rfl
 |k+1,hk=>by
  have xk:ord.length=n:=by rw[hp.length_eq,xaC]
  have hlt:k<ord.length:=by omega
  have hg:ord.getD k 0=ord[k]:=by rw[xap,xab hlt];rfl
  rw[xbd hlt,vI,CY hn hL hp k zO,fQ];congr 1;unfold qj;rw[UA hn hL hp zO,hg];simp[Mx]
theorem yT(hn:n<=16)(hL:∀t∈L,dG n t)(hp:ord.Perm (List.range n)):Mx (lvl n L) 0 ord=fQ n ord L n:=by
 have xk:ord.length=n:=by rw[hp.length_eq,xaC]
 rw[<-CY hn hL hp n (xak n),<-xk,xbc]
theorem EJ(hp:ord.Perm (List.range n)):mj n 0 ord:=⟨hp.nodup_iff.2 xbo,λv=>by rw[nU];exact hp.mem_iff⟩
theorem El(h:mj n 0 ord):ord.Perm (List.range n):=by
 refine(xda h.nd xbo).2 λv=>?_;rw[h.mem,nU]
theorem rZ(c:Nat->Nat->Nat):(an.ord n c n 0).Perm (List.range n):=El (Eo n 0 (by rw[nU,xaC];exact xak n)).1
theorem rY(hn:n<=16)(hL:∀t∈L,dG n t):fQ n (an.ord n (lvl n L) n 0) L n=B n (lvl n L) 0:=by
 rw[<-yT hn hL (rZ _)];exact(Eo n 0 (by rw[nU,xaC];exact xak n)).2
theorem VP(hn:n<=16)(hL:∀t∈L,dG n t)(hp:ord.Perm (List.range n)):B n (lvl n L) 0<=fQ n ord L n:=by
 rw[<-yT hn hL hp];exact DC ord 0 (EJ hp)
end
end aE
set_option maxRecDepth 100000
namespace Go.Proofs
open Go Go.Sx Tryz
section
open aE
section
variable {kp:Nat} {K:Kd} {S:Nat->aE.Fn} {ord tr:zL} {C:Hp}
theorem uv{n:Nat}{o:zL}:∀k,fQ n o [] k=0:=by
  have hc:∀k,cur n o [] k=[]:=λk=>by
    induction k with
    |zero=>rfl
    |succ k ih=>rw[cur,ih];rfl
  intro k;induction k with
  |zero=>rfl
  |succ k ih=>rw[fQ,ih];unfold qj;rw[hc];rfl
theorem D4{B:Hp}{v:zV}{n:Nat}{f:aE.Fn}(h:eH B v n f):∃s ws,v=.agg #[iv (n:Int),s]/\Words B s ws/\an.dG n ws/\gL n ws=f:=by
  obtain⟨ws,⟨s,rfl,hw⟩,hf,he⟩:=h;exact⟨s,ws,rfl,hw,hf,he⟩
def agl(kp:Nat)(K:Kd)(S:Nat->aE.Fn)(ord tr:zL)(v:zV)(H:Hp):Prop:=
  ∃L:an.Fs,(∀t∈L,an.dG K.n t)/\K.held S=FT K.n L/\L.length<=1048576/\
   ((cO K S ord=an.B K.n (an.lvl K.n L) 0/\v=.tuple #[.agg #[iv ((cO K S ord:Nat):Int),iv ((cO K S ord:Nat):Int),iv 0,.bool true],iv 0]/\At kp K S ord tr H)\/
    (cO K S ord≠an.B K.n (an.lvl K.n L) 0/\∃o ls,o=an.ord K.n (an.lvl K.n L) K.n 0/\ls=path ord o/\
     (((rm K S).can ord ls=true/\v=.tuple #[.agg #[iv ((cO K S ord:Nat):Int),iv ((cO K S o:Nat):Int),iv ((ls.length:Nat):Int),.bool true],iv 0]/\At kp K S o (tr++ls) H)\/
      ((rm K S).can ord ls=false/\v=.tuple #[.agg #[iv ((cO K S ord:Nat):Int),iv ((cO K S ord:Nat):Int),iv ((2*((rm K S).goes 0 ls ord).length:Nat):Int),.bool false],iv 0]/\At kp K S ord tr H))))
theorem Tt(h:At kp K S ord tr C)(hp:ord.Perm (List.range K.n))(hn:K.n<=12)(ei:tr.length<17317308137472):
    Fc zQ 198 #[ptr kp] C (λv H=>agl kp K S ord tr v H):=by
  have h0:=h;obtain⟨K',S',fI,hK,hk⟩:=h;have EZ:=hk.n;have jh:∀r,K'.hold r≠0->live K'.N r:=λr hr=>(.inr (hK.ok.mid.held r hr));have hcap:=hK.ok.mid.cap;have hle:=hK.nX;have Cb:(rts K').length<=1048576:=by
    obtain⟨b,_,hO⟩:=hK.rep;have:=hO.ul;have h2:=xbW (λr=>decide (0<K'.hold r)) (List.range K'.ho.length);rw[xaC]at h2;show(List.filter _ _).length<=_;omega
  have vb:∀r,r∈rts K'↔K'.hold r≠0:=λr=>by
    unfold rts;rw[xcP,xaJ,decide_eq_true_iff];constructor
    · rintro⟨_,h⟩;omega
    · intro h
      refine⟨xa2 λh2=>h ?_,by omega⟩;unfold Kd.hold;rw[xap,xaH zO];rfl
  refine aK λg=>GZ λb1 _=>?_;refine ae.aJ (Br.no (aa.eq (l7 h0) (ae.iF (b:=12) (Br.F (aa.fq (KZ hK) ?_)))));rintro vr H ⟨NR,rfl,hR⟩;have YI:dY .u32 NR vr (iw (rts K')):=hR.ints;refine hR.bF ?_;rw[aq];refine⟨λvs H=>∃(i:Nat) (s:zV) (L:an.Fs) (CS N:Hp),vs=[s,iv (i:Int)]/\i<=(rts K').length/\H=(b1,.cells #[iv 0,iv 0,iv 0,.bool false] 224 zZ)::(CS++(N++C))/\(∀x∈NR,x∈N)/\qR 37 s (KH K'.n L) CS N/\L.length=i/\(∀t∈L,an.dG K'.n t)/\∀j t,L[j]? =some t->∃r,(rts K')[j]? =some r/\gL K'.n t=S' r,
    λvs _=>(rts K').length-bj vs 1,JE.mk ⟨0,_,[],[],NR,rfl,xaA _,rfl,λ_ h=>h,qR.nil,rfl,λt ht=>absurd ht (xaw),λj t (hj:([]:List (zL))[j]? =some t)=>absurd hj (by rw[List.getElem?_nil];exact nofun)⟩,?_⟩
  rintro w20 w21 H ⟨i,s,L,CS,N,⟨⟩,hi,rfl,hN,hT,hLl,DN,hLr⟩ gs;refine ae.cU (Br.dec (λhlt=>?_) (λhge=>?_))
  · refine YI.ld (n:=(((rts K')[i]:Nat):Int)) (cI (xab hlt)) (λx hx=>.tail _ (xaa _ (xad _ (hN x hx)))) ?_
    refine aa.fq (args:=#[ptr kp,u32 (rts K')[i]]) (Mw hK zO (jh _ ((vb _).1 (xaD hlt)))) ?_;rintro w H ⟨Nt,t,rfl,rfl,ht⟩;obtain⟨sw,ws,rfl,hw,hf,he⟩:=D4 ht;refine Ext.two λZa _=>(St.p (cQ (bC hw)) ?_);refine au.q ?_;refine nD λXk=>?_;have hT':qR 37 w20 (KH K'.n L) CS (N++Nt):=hT.mono λ_ h=>xad _ h;refine qR.app hT' (A:=[(Xk,_),(Za,_),(b1,_)]) (B:=N++(Nt++C)) (t:=⟨(K'.n:Int),ws⟩) (by exact .head _) (hw.mono λ_ h=>xaa _ h) (by rw[oV];omega) λv' CS' hT2=>?_;refine ae.inc (az.of (.skip .tail) ⟨i+1,v',L++[ws],CS',N++Nt,rfl,hlt,by rw[xai];rfl,λx hx=>xad _ (hN x hx),by unfold KH at hT2⊢;rw[xaF];exact hT2,by rw[xaf,hLl];rfl,λt ht=>?_,λj t hj=>?_⟩ (by simp only[bj];omega))
    · rcases xao.1 ht with ht|ht
      · exact DN t ht
      · rw[xaK.1 ht];exact hf
    · by_cases QI:j<L.length
      · rw[xaS QI]at hj
        exact hLr j t hj
      · rw[xbC zO]at hj
        have:j=i:=by
          have:=(xah.1 hj).1;rw[xbf]at this;omega
        subst this;rw[hLl,xcC]at hj;simp at hj;subst hj;exact⟨_,xab hlt,he⟩
  have hi':i=(rts K').length:=by omega
  subst hi';rw[EZ]at hT DN hLr;have yE:K.held S=FT K.n L:=by
    refine funext λg=>propext ?_;rw[<-hk.held g];constructor
    · rintro⟨r,hr,rfl⟩
      obtain⟨j,hj,e⟩:=xbq.1 ((vb r).2 hr);obtain⟨r2,rK,he⟩:=hLr j L[j] (xab zO);rw[xab hj,e]at rK;cases rK;exact⟨L[j],xaD _,he.symm⟩
    · rintro⟨t,ht,rfl⟩
      obtain⟨j,hj,e⟩:=xbq.1 ht;obtain⟨r2,rK,he⟩:=hLr j t (by rw[xab hj,e]);exact⟨r2,(vb r2).1 (xaz rK),he⟩
  have hlt:=tK hp;have hkz:cO K S ord=fQ K.n ord L K.n:=by
    unfold cO;rw[yE];exact O2 DN zO hlt
  have Rh:L.length<=1048576:=by omega
  refine aa.eq (di h0) ?_;have hTb:iC (CS++N) w20 (KH K.n L):=hT.ad7 (λ_ h=>xad _ h) (λ_ h=>xaa _ h);rw[<-xai];refine aa.pq (VO hTb (by rw[oV];omega)) ?_;intro w NB hB;obtain⟨so,Y,hY,rfl,hI⟩:∃so Y,NB++(CS++N)=Y/\w=.tuple #[iv ((an.B K.n (an.lvl K.n L) 0:Nat):Int),so,iv 0]/\(L≠[]->dY .i64 Y so (iw (an.ord K.n (an.lvl K.n L) K.n 0))):=by
    have hO:qS (KH K.n L):=BE DN;rcases hB with⟨hno,_⟩|⟨_,n2,L2,e,hz,_,QS,hB⟩
    · exact absurd hO hno
    by_cases DO:L=[]
    · subst DO
      have hL2:L2=[]:=by cases L2 with
        |nil=>rfl
        |cons a b=>simp[KH]at e
      subst hL2;obtain rfl:=hz rfl;have hB0:an.B K.n (an.lvl K.n []) 0=0:=by rw[<-rY zO zI];exact uv _
      rcases hB with⟨h,_⟩|⟨_,s2,C2,N2,rfl,_,_⟩
      · omega
      exact⟨s2,_,rfl,by rw[hB0];rfl,λh=>absurd rfl h⟩
    · have QC:n2=K.n/\L2=L:=by
        cases L with
        |nil=>exact absurd rfl DO
        |cons a b=>
          cases L2 with
          |nil=>simp[KH]at e
          |cons a2 b2=>
            simp only[KH,xaM,xay,Tb.mk.injEq]at e;obtain⟨⟨e1,e2⟩,e3⟩:=e;have e1:n2=K.n:=by omega
            subst e1;refine⟨rfl,?_⟩;rw[e2];congr 1;refine((List.map_inj_right (f:=λws=>(⟨(K.n:Int),ws⟩:Tb)) ?_).1 e3).symm;intro x y hxy;simpa using hxy
      obtain⟨rfl,rfl⟩:=QC;rcases hB with⟨h,_⟩|⟨_,s2,C2,N2,rfl,hown,hH⟩
      · omega
      exact⟨s2,_,rfl,rfl,λ_=>by rw[hH];exact hown.ints.mono λ_ h=>xad _ h⟩
  rw[hY];clear hB;refine Ext.mk rfl (Ext.mk rfl (Ext.mk rfl (ae.bu (Br.dec (λheq=>?_) (λhne=>?_)))))
  · refine Build.mk (cs:=[iv ((cO K S ord:Nat):Int),iv ((cO K S ord:Nat):Int),iv 0,.bool true]) zK (St.q ?_)
    refine au.q ?_;exact aQ.mk (.skip .right) ⟨L,DN,yE,Rh,.inl ⟨heq,rfl,h0⟩⟩
  · have DO:L≠[]:=λe=>by
      subst e;refine hne ?_;rw[hkz,<-rY zO zI,uv,uv]
    obtain⟨o,ho⟩:∃o,o=an.ord K.n (an.lvl K.n L) K.n 0:=⟨_,rfl⟩;have hop:o.Perm (List.range K.n):=by rw[ho];exact rZ _
    have hIo:=hI DO;rw[<-ho]at hIo;refine aa.fq (BB h0 hIo hp hop zO) ?_;rintro w H ⟨C2,rfl,hM⟩;have Oi:=(tL (hop.nodup_iff.2 xbo) (hp.trans hop.symm)).1;rcases hM with⟨hc,rfl,hA⟩|⟨hc,rfl,hA⟩
    · rw[Oi]at hA
      refine Ext.two (aa.eq (di hA) (ae.jM ?_));rw[xav rfl];refine Build.mk (cs:=[iv ((cO K S ord:Nat):Int),iv ((cO K S o:Nat):Int),iv (((path ord o).length:Nat):Int),.bool true]) zK (St.q ?_);refine au.q ?_;exact aQ.mk (.skip .right) ⟨L,DN,yE,Rh,.inr ⟨hne,o,_,ho,rfl,.inl ⟨hc,rfl,hA⟩⟩⟩
    · refine Ext.two (aa.eq (di hA) (ae.jM ?_))
      rw[xaq zD];refine Build.mk (cs:=[iv ((cO K S ord:Nat):Int),iv ((cO K S ord:Nat):Int),iv ((2*((rm K S).goes 0 (path ord o) ord).length:Nat):Int),.bool false]) zK (St.q ?_);refine au.q ?_;exact aQ.mk (.skip .right) ⟨L,DN,yE,Rh,.inr ⟨hne,o,_,ho,rfl,.inr ⟨hc,rfl,hA⟩⟩⟩
end
end
section
open aE
section
variable {kp:Nat} {K:Kd} {S:Nat->aE.Fn} {ord tr:zL} {C:Hp} {Q:zV->Hp->Prop}
theorem Pp{w:Nat}(hw:3<=w/\w<=5):Rd zQ 197 #[.int .u8 (w:Int)] C (· =iv ((w-1:Nat):Int)):=by
 refine aK λg=>G0 ?_;refine ae.cf (b:=3) (aM.q (ae.eZ (b:=2) (bE.mk (.refl _) ?_)));rw[show w-3+2=w-1 by omega]
theorem gM(h:At kp K S ord tr C){s gr:Nat}:Rd zQ 193 #[ptr kp,.int .u8 (s:Int),iv (gr:Int)] C (· =iv (if 6<s\/gr<100\/1000<gr then 1 else if s=6/\12<K.n then 6 else 0)):=by
 refine aK λg=>G7 ?_;refine ae.aJ (Br.no (ae.iF (b:=6) (cr.or (a:=decide (6<s)) (decide (gr<100)) (λ_=>ae.cU (b:=100) ⟨rfl,rfl⟩) rfl λ_=>?_)));refine cr.or (a:=decide (6<s)||decide (gr<100)) (decide (1000<gr)) (λ_=>ae.iF (b:=1000) ⟨rfl,rfl⟩) rfl λ_=>?_;rw[<-xbb,<-xbb];refine Br.dec (λhb=>?_) (λhb=>?_)
 ·rw[xae zO];exact bE.mk (.refl _) rfl
 rw[xac zO];intro J9 h9;refine ae.bu (b:=6) ?_;by_cases hs:s=6
 ·rw[xav hs];refine Split.go rfl (aa.eq (l7 h) (ae.iF (b:=12) (aS.mk (JE.mk (h9 _ _ λ_=>?_)))));show Br (.bool (decide (12<K.n))) _ _;refine Br.dec (λh12=>?_) (λh12=>?_)
  ·rw[xae ⟨hs,h12⟩];exact bE.mk (.refl _) rfl
  rw[xac zO];exact bE.mk (.refl _) rfl
 rw[xaq hs];refine Split.XQ rfl (aS.mk (JE.mk (h9 _ _ λ_=>Br.no ?_)));rw[xac zO];exact bE.mk (.refl _) rfl
theorem qb(a b c:Int)(d:Bool):∀u∈[Value.int .i64 a,iv b,iv c,.bool d],u.oneCell'=true:=λu hu=>by
 simp only[xag,xaw,xa1]at hu;rcases hu with rfl|rfl|rfl|rfl<;>rfl
abbrev zv(a b c:Int)(d:Bool):zV:=.agg #[iv a,iv b,iv c,.bool d]
theorem aay(h:At kp K S ord tr C){gr:Nat}(jL:100<=gr/\gr<=1000)(hn:12<K.n):Rd zQ 151 #[ptr kp,.int .u8 6,iv (gr:Int)] C (· =.tuple #[zv 0 0 0 false,iv 6]):=by
 refine aK λg=>gU ?_;intro b1 _;refine aa.eq (gM h (s:=6)) ?_;rw[xac zO,xae ⟨rfl,hn⟩];refine ae.fX (Br.T (Build.mk (cs:=[iv 0,iv 0,iv 0,.bool false]) zK ?_));refine St.q ?_;refine au.q ?_;exact bE.mk .tail rfl
theorem Pq(h:At kp K S ord tr C){gr:Nat}(jL:100<=gr/\gr<=1000)(hin:Fc zQ 194 #[ptr kp,iv (gr:Int)] C Q)(hQ:∀v H,Q v H->∃(a b c:Int) (d:Bool) (e:zV),v=.tuple #[zv a b c d,e]):
  Fc zQ 151 #[ptr kp,.int .u8 1,iv (gr:Int)] C Q:=by
 refine aK λg=>gU ?_;intro b1 _;refine aa.eq (gM h (s:=1)) ?_;rw[xac zO,xac zO];refine ae.fX (Br.F (ae.bu (a:=1) (b:=1) (Br.yes (aa.fq hin ?_))));intro v H hv;obtain⟨a,b,c,d,e,rfl⟩:=hQ v H hv;refine Ext.two (St.p (qb a b c d) ?_);refine au.q ?_;exact aQ.mk .tail hv
theorem Eg(h:At kp K S ord tr C){gr:Nat}(jL:100<=gr/\gr<=1000)(hin:Fc zQ 195 #[ptr kp,iv (gr:Int)] C (λv H=>∃(a b c:Int) (d:Bool) (r:zV),v=.tuple #[zv a b c d,r,iv 0]/\Q (.tuple #[zv a b c d,iv 0]) H)):
  Fc zQ 151 #[ptr kp,.int .u8 2,iv (gr:Int)] C Q:=by
 refine aK λg=>gU ?_;intro b1 _;refine aa.eq (gM h (s:=2)) ?_;rw[xac zO,xac zO];refine ae.fX (Br.F (ae.bu (a:=2) (b:=1) (Br.no (ae.bu (a:=2) (b:=2) (Br.yes (aa.fq hin ?_))))));rintro v H ⟨a,b,c,d,r,rfl,hv⟩;refine Ext.mk rfl (Ext.mk rfl (Ext.mk rfl ?_));intro DQ _;refine St.p (qb a b c d) ?_;refine au.q ?_;refine St.p (qb a b c d) ?_;refine au.q ?_;exact aQ.mk (.skip .tail) hv
theorem Ef(h:At kp K S ord tr C){w gr:Nat}(hw:3<=w/\w<=5)(jL:100<=gr/\gr<=1000)(hin:Fc zQ 196 #[ptr kp,iv ((w-1:Nat):Int)] C Q)(hQ:∀v H,Q v H->∃(a b c:Int) (d:Bool) (e:zV),v=.tuple #[zv a b c d,e]):
  Fc zQ 151 #[ptr kp,.int .u8 (w:Int),iv (gr:Int)] C Q:=by
 refine aK λg=>gU ?_;intro b1 _;refine aa.eq (gM h (s:=w)) ?_;rw[xac zO,xac zO];refine ae.fX (Br.F (ae.bu (b:=1) (Br.F (ae.bu (b:=2) (Br.F ?_)))));intro J28 h28;have good:J28 [.bool true] ((b1,.cells #[iv 0,iv 0,iv 0,.bool false] 224 zZ)::C):=by
  refine h28 _ _ λ_=>Br.yes ?_;refine aa.eq (Pp hw) (aa.fq hin ?_);intro v H hv;obtain⟨a,b,c,d,e,rfl⟩:=hQ v H hv;refine Ext.two (St.p (qb a b c d) ?_);refine au.q ?_;exact aQ.mk .tail hv
 refine ae.bu (b:=3) (Br.dec (λe=>?_) (λe=>?_))
 ·rw[xav e];exact JE.mk good
 refine ae.bu (b:=4) (Br.dec (λe=>?_) (λe=>?_))
 ·rw[xav e];exact JE.mk good
 refine ae.bu (b:=5) ?_;rw[xav zO];exact JE.mk good
theorem KW(h:At kp K S ord tr C){gr:Nat}(hn:K.n<=12)(jL:100<=gr/\gr<=1000)(hin:Fc zQ 198 #[ptr kp] C Q)(hQ:∀v H,Q v H->∃(a b c:Int) (d:Bool) (e:zV),v=.tuple #[zv a b c d,e]):
  Fc zQ 151 #[ptr kp,.int .u8 6,iv (gr:Int)] C Q:=by
 refine aK λg=>gU ?_;intro b1 _;refine aa.eq (gM h (s:=6)) ?_;rw[xac zO,xac zO];refine ae.fX (Br.F (ae.bu (a:=6) (b:=1) (Br.no (ae.bu (a:=6) (b:=2) (Br.no ?_)))));intro J28 h28;refine ae.bu (a:=6) (b:=3) (Br.no (ae.bu (a:=6) (b:=4) (Br.no (ae.bu (a:=6) (b:=5) (JE.mk (h28 _ _ λ_=>Br.no ?_))))));refine ae.bu (a:=6) (b:=6) (Br.yes (aa.fq hin ?_));intro v H hv;obtain⟨a,b,c,d,e,rfl⟩:=hQ v H hv;refine Ext.two (St.p (qb a b c d) ?_);refine au.q ?_;exact aQ.mk .tail hv
theorem Pt(h:At kp K S ord tr C){gr:Nat}(jL:100<=gr/\gr<=1000):Rd zQ 151 #[ptr kp,.int .u8 0,iv (gr:Int)] C (· =.tuple #[zv (cO K S ord:Nat) (cO K S ord:Nat) 0 false,iv 0]):=by
 refine aK λg=>gU ?_;intro b1 _;refine aa.eq (gM h (s:=0)) ?_;rw[xac zO,xac zO];refine ae.fX (Br.F (ae.bu (a:=0) (b:=1) (Br.no (ae.bu (a:=0) (b:=2) (Br.no ?_)))));intro J28 h28;refine ae.bu (a:=0) (b:=3) (Br.no (ae.bu (a:=0) (b:=4) (Br.no (ae.bu (a:=0) (b:=5) (JE.mk (h28 _ _ λ_=>Br.no ?_))))));refine ae.bu (a:=0) (b:=6) (Br.no (aa.eq (di h) (aa.eq (di h) (Build.mk (cs:=[iv ((cO K S ord:Nat):Int),iv ((cO K S ord:Nat):Int),iv 0,.bool false]) zK ?_))));refine St.q ?_;refine au.q ?_;exact bE.mk .tail rfl
end
section
variable {C:Hp}
def swB(n s:Nat):Nat->Nat
 |1=>3*n*(n-1)
 |2=>3*n*(n-1)*(s+1)
 |3=>(n-1)*2
 |4=>(n-2)*10
 |5=>(n-3)*46
 |6=>n*(n-1)
 |_=>0
end
end
end Go.Proofs
namespace aE
section
variable {m:Rm} {g:Nat}
theorem Rm.yp(m:Rm)(ord path:zL):∀i,m.size (ax ord (path.take (m.keep ord path i)))=m.size ord->m.keep ord path i=0
 |0,_=>rfl
 |i+1,h=>by
  rw[keep]at h⊢;have h0:=m.u4 ord path i 0 (xaA _);have h0:m.size (ax ord (path.take (m.keep ord path i)))<=m.size ord:=h0;split at h
  ·omega
  rename_i hn;rw[xac hn];exact m.yp ord path i h
theorem Rm.DW(m:Rm)(w p:Nat)(ord:zL)(h:m.size (ax ord (m.visit w p ord).1)=m.size ord):(m.visit w p ord).1=[]:=by
 have:=m.yp ord (m.goes p (kI w) ord) (m.goes p (kI w) ord).length h;show List.take _ _=[];rw[this];rfl
theorem Rm.A4(m:Rm)(w p:Nat)(ord:zL):(m.visit w p ord).2<=2*(kI w).length:=by
 have h1:=m.kF p (kI w) ord;show _+(_-_)<=_;omega
theorem Rm.y4(m:Rm)(w:Nat)(ord:zL):∀i,(m.all w ord i).2<=i*(2*(kI w).length)
 |0=>xaA _
 |i+1=>by
  have h1:=m.y4 w ord i;have h2:=m.A4 w i (ax ord (m.all w ord i).1);show(m.all w ord i).2+(m.visit w i (ax ord (m.all w ord i).1)).2<=_;rw[xbt];omega
theorem uJ{p q:zL}(hq:q.Nodup)(hp:p.Perm q):∀i,i<=q.length->2*(dQ p q i).length+i*i<=i*(2*p.length-1)
 |0,_=>by simp[dQ]
 |i+1,hi=>by
  have:=uJ hq hp i zO;obtain⟨_,_,h3⟩:=jc hq hp i zO;have hl:=hp.length_eq;rw[dQ,xaf,Az];have h4:=(h3 zO).2;have e1:(i+1)*(i+1)=i*i+i+i+1:=by rw[xbt,Nat.mul_succ];omega
  have e2:(i+1)*(2*p.length-1)=i*(2*p.length-1)+(2*p.length-1):=xbt _ _;rw[e1,e2];omega
theorem uI{p q:zL}{n:Nat}(hq:q.Nodup)(hp:p.Perm q)(hn:q.length=n):2*(path p q).length<=n*(n-1):=by
 have:=uJ hq hp q.length (xak _);have hl:=hp.length_eq;rw[hl,hn]at this;unfold path;rw[hn];cases n with
 |zero=>simpa using this
 |succ k=>
  rw[show 2*(k+1) -1=(k+1)+k by omega,xdg (k+1) (k+1) k]at this;show 2*(dQ p q (k+1)).length<=(k+1)*k;omega
structure s9(m:Rm)(ord:zL)(ls:zL):Prop where
 mem:∀x∈ls,x+1<m.n
 le:m.size (ax ord ls)<=m.size ord
 len:ls.length+66*m.size (ax ord ls)<=66*m.size ord
theorem s9.nil{ord:zL}:s9 m ord []:=⟨by simp,xak _,by simp[ax]⟩
theorem s9.of{ord ls:zL}(h1:∀x∈ls,x+1<m.n)(h2:m.size (ax ord ls)<=m.size ord)(h3:m.size (ax ord ls)=m.size ord->ls=[])(h4:ls.length<=66):s9 m ord ls:=by
 refine⟨h1,h2,?_⟩;by_cases e:m.size (ax ord ls)=m.size ord
 ·rw[h3 e];simp[ax]
 omega
theorem Bn(hn:m.n<=64):∀{l ord:zL},ord.Perm (List.range m.n)->(∀v∈l,v<m.n)->(m.cq g ord l).1.length+66*m.size (ax ord (m.cq g ord l).1)<=66*m.size ord
 | [],ord,hp,hl=>by simp[Rm.cq,ax]
 |v::l,ord,hp,hl=>by
  have hv:=rI hp (hl v zI);obtain⟨a1,a2,a3,a4⟩:=m.zo g (ord:=ord) hv;have hin:=IZ hv a1;have ih:=Bn hn (l:=l) (ord:=ax ord (road (ord.idxOf v) (m.rh g ord (ord.idxOf v)).1)) (kZ hp hin) (λx hx=>hl x (by simp[hx]));have Cb:=uF (ord.idxOf v) (m.rh g ord (ord.idxOf v)).1;rw[Rm.cq];simp only;rw[cm,xaf];by_cases e:m.size (ax ord (road (ord.idxOf v) (m.rh g ord (ord.idxOf v)).1))=m.size ord
  ·have e2:=a3 e;rw[e2,fR]at ih Cb⊢;simpa[ax]using ih
  omega
theorem oY{ord l:zL}(hp:ord.Perm (List.range m.n))(hl:l.Perm (List.range m.n))(hn:m.n<=64):s9 m ord (m.cq g ord l).1/\(m.cq g ord l).2<=3*m.n*(m.n-1):=by
 have hlt:∀v∈l,v<m.n:=λv hv=>xaJ.1 (hl.mem_iff.1 hv);have h:=k7 (m:=m) (g:=g) (l:=l) hp hlt;have jF:l.length=m.n:=by rw[hl.length_eq,xaC]
 obtain⟨h1,h2,h3,h4,h5⟩:=h;rw[jF]at h4;exact⟨⟨h1,h2,Bn hn hp hlt⟩,by rw[xck,xbI m.n,<-xck];exact h4⟩
theorem ur(hn:m.n<=64):∀{ls:List (zL)} {ord:zL},ord.Perm (List.range m.n)->(∀l∈ls,l.Perm (List.range m.n))->m.sP g ord ls->s9 m ord (m.cW g ord ls).1
 | [],ord,hp,hl,hg=>hg.elim
 | [l],ord,hp,hl,hg=>by
  have e:(m.cW g ord [l]).1=(m.cq g ord l).1++[]:=rfl;rw[e,xaG];exact(oY hp (hl l zI) hn).1
 |l::l2::r,ord,hp,hl,hg=>by
  obtain⟨g1,g2⟩:=(pG zI).1 hg;have a:=(oY (g:=g) hp (hl l zI) hn).1;have ih:=ur hn (ls:=l2::r) (kZ hp a.mem) (λx hx=>hl x (by simp[xag.1 hx])) g2;have e:(m.cW g ord (l::l2::r)).1=(m.cq g ord l).1++(m.cW g (ax ord (m.cq g ord l).1) (l2::r)).1:=rfl;rw[e];have a1:=a.le;have a2:=a.len;have b1:=ih.le;have b2:=ih.len;refine⟨λx hx=>(xao.1 hx).elim (a.mem x) (ih.mem x),by rw[cm];omega,by rw[cm,xaf];omega⟩
theorem D5{ls:List (zL)}{ord:zL}(hp:ord.Perm (List.range m.n))(hl:∀l∈ls,l.Perm (List.range m.n))(hg:m.sP g ord ls):(m.cW g ord ls).2<=3*m.n*(m.n-1)*(m.size ord+1):=by
 have h:=IX hp hl hg;have h1:=h.XR.2;have h2:=h.uk;have e:3*(m.n-1)*m.n=3*m.n*(m.n-1):=by rw[xck,xbI (m.n-1),<-xck]
 rw[e]at h2;exact xbB h2 (xcU _ zO)
theorem Rm.Dr(m:Rm)(w:Nat)(ord:zL):∀i,(m.all w ord i).1.length+66*m.size (ax ord (m.all w ord i).1)<=66*m.size ord
 |0=>by simp[Rm.all,ax]
 |i+1=>by
  have e:(m.all w ord (i+1)).1=(m.all w ord i).1++(m.visit w i (ax ord (m.all w ord i).1)).1:=rfl;have ih:=m.Dr w ord i;have h1:=m.A5 w i (ax ord (m.all w ord i).1);have h2:=m.DW w i (ax ord (m.all w ord i).1);have h3:=(m.q5 w i (ax ord (m.all w ord i).1)).1;rw[e,cm,xaf];by_cases e2:m.size (ax (ax ord (m.all w ord i).1) (m.visit w i (ax ord (m.all w ord i).1)).1)=m.size (ax ord (m.all w ord i).1)
  ·rw[h2 e2];simpa[ax]using ih
  omega
theorem D6{w:Nat}{ord:zL}(hw:2<=w/\w<=4)(hn:m.n<=64):s9 m ord (m.pass w ord).1/\(m.pass w ord).2<=(m.n+1-w)*(2*(kI w).length):=by
 refine⟨⟨λx hx=>?_,m.SB w ord _,m.Dr w ord _⟩,m.y4 w ord _⟩;by_cases e:m.n+1-w=0
 ·have hx:x∈(m.all w ord (m.n+1-w)).1:=hx;rw[e]at hx;exact absurd hx xaw
 have:=m.JV hx;omega
end
end aE
set_option maxRecDepth 100000
namespace Go.Proofs
open Go Go.Sx Tryz
open aE
section
variable {kp:Nat} {K:Kd} {S:Nat->aE.Fn} {ord tr:zL} {C:Hp}
def V4(kp:Nat)(K:Kd)(S:Nat->aE.Fn)(ord tr:zL)(s:Nat)(v:zV)(H:Hp):Prop:=
 ∃(ls:zL) (c:Nat) (d:Bool),v=.tuple #[zv (cO K S ord:Nat) (cO K S (ax ord ls):Nat) (c:Nat) d,iv 0]/\At kp K S (ax ord ls) (tr++ls) H/\s9 (rm K S) ord ls/\c<=swB K.n (cO K S ord) s/\(d=true->s=6)
theorem V4.shape{s:Nat}{v:zV}{H:Hp}(h:V4 kp K S ord tr s v H):∃(a b c:Int) (d:Bool) (e:zV),v=.tuple #[zv a b c d,e]:=by
 obtain⟨ls,c,d,rfl,_⟩:=h;exact⟨_,_,_,_,_,rfl⟩
theorem T4(h:At kp K S ord tr C)(hp:ord.Perm (List.range K.n)){s gr:Nat}(hs:s<=6)(jL:100<=gr/\gr<=1000)(hx:s=6->K.n<=12)(ei:tr.length<16492674416640):
  Fc zQ 151 #[ptr kp,.int .u8 (s:Int),iv (gr:Int)] C (V4 kp K S ord tr s):=by
 have hn:=h.rC;have ZE:(rm K S).n=K.n:=rfl;have tB:∀o,(rm K S).size o=cO K S o:=λ_=>rfl;have win:∀w:Nat,3<=w/\w<=5->Fc zQ 151 #[ptr kp,.int .u8 (w:Int),iv (gr:Int)] C (V4 kp K S ord tr w):=λw hw=>by
  refine Ef h hw jL ((VX h (w:=w-1) zO zO).mono ?_) λv H h=>h.shape;rintro v H ⟨rfl,hA⟩;obtain⟨h1,h2⟩:=D6 (m:=rm K S) (w:=w-1) (ord:=ord) zO hn;refine⟨_,_,false,rfl,hA,h1,xbB h2 (Nat.le_of_eq ?_),nofun⟩;rw[ZE];obtain rfl|rfl|rfl:w=3\/w=4\/w=5:=by omega
  ·rfl
  ·show(K.n+1-3)*10=(K.n-2)*10;rw[show K.n+1-3=K.n-2 by omega]
  show(K.n+1-4)*46=(K.n-3)*46;rw[show K.n+1-4=K.n-3 by omega]
 obtain rfl|rfl|rfl|h3|rfl:s=0\/s=1\/s=2\/(3<=s/\s<=5)\/s=6:=by omega
 ·refine Fc.mono (Pt h jL) ?_;rintro v H ⟨rfl,rfl⟩;exact⟨[],0,false,rfl,by rw[xaG];exact h,.nil,xaA _,nofun⟩
 ·refine Pq h jL ((Bp h hp jL zO).mono ?_) λv H h=>h.shape;rintro v H ⟨l,hl,rfl,hA⟩;obtain⟨h1,h2⟩:=oY (m:=rm K S) (g:=gr) hp hl hn;exact⟨_,_,false,rfl,hA,h1,h2,nofun⟩
 ·refine Eg h jL ((Bi h hp jL zO).mono ?_);rintro v H ⟨lss,hls,hg,rfl,hA⟩;exact⟨_,_,_,false,_,rfl,_,_,false,rfl,hA,ur hn hp hls hg,D5 hp hls hg,nofun⟩
 ·exact win s h3
 have tD:=hx rfl;refine KW h tD jL ((Tt h hp tD zO).mono ?_) λv H h=>h.shape;rintro v H ⟨L,DN,yE,Rh,hQ⟩;have hk:∀p:zL,p.Perm (List.range K.n)->cO K S p=fQ K.n p L K.n:=λp hp=>by
  unfold cO;rw[yE];exact O2 DN zO (tK hp)
 rcases hQ with⟨e,rfl,hA⟩|⟨hne,o,ls,ho,hls,hQ⟩
 ·exact⟨[],0,true,rfl,by rw[xaG];exact hA,.nil,xaA _,λ_=>rfl⟩
 have hop:o.Perm (List.range K.n):=by rw[ho];exact rZ _
 have hoB:cO K S o=an.B K.n (an.lvl K.n L) 0:=by rw[hk o hop,ho];exact rY zO DN
 have hle:an.B K.n (an.lvl K.n L) 0<=cO K S ord:=by rw[hk ord hp];exact VP zO DN hp
 have abp:o.Nodup:=hop.nodup_iff.2 xbo;have xk:o.length=K.n:=by rw[hop.length_eq,xaC]
 have hdl:ord.length=K.n:=by rw[hp.length_eq,xaC]
 obtain⟨Oj,WJ⟩:=tL abp (hp.trans hop.symm);have yx:=uI abp (hp.trans hop.symm) xk;rw[<-hls]at Oj WJ yx;have xp:K.n*(K.n-1)<=12*11:=xbK tD zO;rcases hQ with⟨_,rfl,hA⟩|⟨hc,rfl,hA⟩
 ·refine⟨ls,_,true,by rw[Oj],by rw[Oj];exact hA,.of (λx hx=>by have:=WJ x hx;omega) ?_ ?_ zO,by show ls.length<=K.n*(K.n-1);omega,λ_=>rfl⟩
  ·rw[Oj,tB,tB];omega
  rw[Oj,tB,tB];omega
 have hgl:=(rm K S).kF 0 ls ord;exact⟨[],_,false,rfl,by rw[xaG];exact hA,.nil,by show 2*_<=K.n*(K.n-1);omega,nofun⟩
end
end Go.Proofs
namespace aE
open an
variable {n:Nat}
def sat(n:Nat)(f:Fn):Nat:=(List.range (2^n)).countP f
def flip(v x:Nat):Nat:=aD x v (!x.testBit v)
theorem flip_flip(v x:Nat):flip v (flip v x)=x:=by
 unfold flip;rw[aj,xae rfl,ri];simpa using iS x v
theorem Jx{v x:Nat}(hv:v<n)(hx:x<2^n):flip v x<2^n:=fA hx hv
theorem Md{v:Nat}(hv:v<n):((List.range (2^n)).map (flip v)).Perm (List.range (2^n)):=by
 refine(xda ?_ xbo).2 λx=>?_
 ·refine xb9.2 (xbo.imp λ{a b} h e=>h ?_);rw[<-flip_flip v a,e,flip_flip]
 rw[xam];constructor
 ·rintro⟨y,hy,rfl⟩;exact xaJ.2 (Jx hv (xaJ.1 hy))
 intro hx;exact⟨flip v x,xaJ.2 (Jx hv (xaJ.1 hx)),flip_flip v x⟩
theorem vK{f g p q:Nat->Bool}(h:∀x,(p x).toNat+(q x).toNat=(f x).toNat+(g x).toNat):∀l:zL,l.countP p+l.countP q=l.countP f+l.countP g
 | []=>rfl
 |x::l=>by
  have:=h x;have:=vK h l;simp only[List.countP_cons];cases hp:p x<;>cases hq:q x<;>cases hf:f x<;>cases hg:g x<;>simp_all<;>omega
theorem Po{v:Nat}(hv:v<n)(f:Fn):sat n (λx=>f (aD x v false))+sat n (λx=>f (aD x v true))=2*sat n f:=by
 unfold sat;rw[vK (f:=f) (g:=λx=>f (flip v x)) (λx=>?_)]
 ·have:List.countP (λx=>f (flip v x)) (List.range (2^n))=List.countP f (List.range (2^n)):=by
   have h:=(Md hv).countP_eq f;rw[List.countP_map]at h;exact h
  omega
 unfold flip;have:=iS x v;cases hb:x.testBit v<;>rw[hb]at this<;>simp only[xdb,xcH]<;>rw[this]<;>omega
theorem rj:sat n (λ_=>false)=0:=by simp[sat]
theorem sat_true:sat n (λ_=>true)=2^n:=by simp[sat]
variable {N:eA} {S:Nat->Fn} {ah:Nat->Nat}
theorem Pn(h:WF n ah N)(hl:n8 n ah)(hi:Interp N S){r a b:Nat}{d:Nd}(hd:N r=some d)(hv:d.v<n)(ha:a*2^dep n ah N d.lo=sat n (S d.lo))(hb:b*2^dep n ah N d.hi=sat n (S d.hi)):
  (a*2^(dep n ah N d.lo-ah d.v-1)+b*2^(dep n ah N d.hi-ah d.v-1))*2^dep n ah N r=sat n (S r):=by
 have h1:=(h.lo hd).2;have h2:=(h.hi hd).2;rw[aB hd];have e1:(λx=>S r (aD x d.v false))=S d.lo:=by
  have:=(qL h hl hi (r:=r) (.inr ⟨d,hd⟩) hv (by rw[aB hd];exact xak _) false);rw[(JG hd).1]at this;exact(funext this.1).symm
 have e2:(λx=>S r (aD x d.v true))=S d.hi:=by
  have:=(qL h hl hi (r:=r) (.inr ⟨d,hd⟩) hv (by rw[aB hd];exact xak _) true);rw[(JG hd).2]at this;exact(funext this.1).symm
 have hh:=Po hv (S r);rw[e1,e2,<-ha,<-hb]at hh;have p1:2^dep n ah N d.lo=2^(dep n ah N d.lo-ah d.v-1)*(2*2^ah d.v):=by
  rw[<-Nat.pow_succ',<-xdD];congr 1;omega
 have p2:2^dep n ah N d.hi=2^(dep n ah N d.hi-ah d.v-1)*(2*2^ah d.v):=by
  rw[<-Nat.pow_succ',<-xdD];congr 1;omega
 rw[p1,p2]at hh;rw[<-xck a,<-xck b,<-xeG,Nat.mul_left_comm]at hh;omega
end aE
set_option maxRecDepth 100000
namespace Go.Proofs
open Go Go.Sx Tryz
open aE
theorem aaD{P:Program}{f:FuncId}{args:Array zV}{B:Hp}{Q:zV->Prop}(h:Px P f args B (λv _=>Q v)):Rd P f args B Q:=λg=>(h g).mono λe H h=>by
 obtain⟨v,H2,rfl,he,hg,hq⟩:=h;exact⟨v,B,rfl,he.trans hg.dV,rfl,hq⟩
theorem ae.agj{a b:Nat}{k:zV->Prop}(h:k (.int .u64 (((a+b)%18446744073709551616:Nat):Int))):ae .num .add (.int .u64 (a:Int)) (.int .u64 (b:Int)) k:=by
 refine ae.add ?_;rw[wrap_u64];have:(((a:Int)+(b:Int))%18446744073709551616)=((((a+b)%18446744073709551616:Nat)):Int):=by omega
 rw[this];exact h
section
variable {kp:Nat} {K:Kd} {S:Nat->aE.Fn} {ord ah tr:zL} {C:Hp}
theorem rX(r:Nat)(B:Hp):Rd zQ 137 #[u32 r] B (· =.bool (decide (r<2))):=by
 refine aK λg=>HU (ae.bu (b:=0) (cr.or (a:=decide (r=0)) (decide (r=1)) (λ_=>ae.bu (b:=1) ⟨rfl,rfl⟩) rfl λ_=>?_));refine bE.mk (.refl _) ?_;rw[<-xbb];congr 1;exact xdl.2 zO
end
end Go.Proofs
