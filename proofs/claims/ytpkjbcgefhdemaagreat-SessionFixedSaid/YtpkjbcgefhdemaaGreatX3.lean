import Derived.Test.YtpkjbcgefhdemaaGreatX2
import Derived.Test.YtpkjbcgefhdemaaGreatX1
import Derived.RangeFuncIn
import Derived.RangeFuncLeaves
import Derived.RangeFuncRecord
import Derived.RangeFuncSeq
import Derived.Deep.Slices
import Derived.SizedLaws
set_option linter.unusedVariables false
set_option linter.unusedSimpArgs false
set_option linter.unusedSectionVars false
set_option maxRecDepth 100000
namespace Go.Proofs
open Go Go.Sx
open av
section
variable {kp:Nat} {K:Kd} {ord af tr:List Nat} {C:Hp} {S:Nat→av.Fn}
theorem FY(B:Hp)(v:Int)(r:Nat)(kv:Value):Rd Tryz.prog 299 #[kv,.int .i64 v,u32 r,u32 r] B (· =u32 r):=by
 refine aP fun g=>kJ ?_
 exact aa.mI (Br.T (bC.mk (.refl _) rfl))
theorem F0(h:bS kp K ord af tr C){v lo hi r:Nat}(hne:lo≠hi)(hv:v<K.n)(hT:K.T ⟨v,lo,hi⟩=some r):
  Rd Tryz.prog 299 #[ptr kp,.int .i64 (v:Int),u32 lo,u32 hi] C (· =u32 r):=by
 obtain⟨b,rfl,hO⟩:=h
 refine aP fun g=>kJ ?_
 refine aa.mI (Br.Gf hne ?_)
 refine Build.mk (cs:=bp ⟨v,lo,hi⟩) (by kernel_rfl) ?_
 intro b3 _
 refine St.p (fun x hx=>by simp[bp,u32]at hx;rcases hx with rfl|rfl|rfl<;>rfl) ?_
 refine DR.self ?_
 refine Nil.ptr ?_
 refine Ld.f ?_
 refine ay.q ?_
 refine ae.eq (nJ (d:=⟨v,lo,hi⟩) hO.ut hv) ?_
 rw[hT]
 exact⟨.refl _,Ext.mk rfl (Ext.mk rfl (Br.yes (bC.mk .tail rfl)))⟩
theorem FZ(h:bS kp K ord af tr C){d:Nd}(hne:d.lo≠d.hi)(hd:LU K.N d)(hv:d.v<K.n)(hT:K.T d=none)(hroom:K.used<K.cap)(hlo:d.lo<2∨d.lo<K.us.length)(hhi:d.hi<2∨d.hi<K.us.length)
 (hb:∀s,K.use s+2<2147483648):
  Fc Tryz.prog 299 #[ptr kp,.int .i64 (d.v:Int),u32 d.lo,u32 d.hi] C (fun v C'=>∃r cf bO,v=u32 r∧K.N r=none∧2≤r∧r<K.cap∧cf.length=bO.length∧r<cf.length∧K.us.length≤cf.length∧cf.getD r 0=0∧
   (∀s,2≤s→s≠r→cf.getD s 0=K.use s+e1 (some d) s)∧(∀s,s<2→cf.getD s 0=K.use s)∧bO.getD r 0=0∧(∀s,s≠r→bO.getD s 0=K.hold s)∧
   bS kp {K with N:=up K.N r (some d),T:=kM K.T d (some r),used:=K.used+1,us:=cf,ho:=bO} ord af tr C'):=by
 have h0:=h
 obtain⟨b,rfl,hO⟩:=h
 refine aP fun g=>kJ ?_
 refine aa.mI (Br.Gf hne ?_)
 refine Build.mk (cs:=bp d) (by kernel_rfl) ?_
 intro b3 _
 refine St.p (fun x hx=>by simp[bp,u32]at hx;rcases hx with rfl|rfl|rfl<;>rfl) ?_
 refine DR.self ?_
 refine Nil.ptr ?_
 refine Ld.f ?_
 refine ay.q ?_
 refine ae.eq (nJ (d:=d) hO.ut hv) ?_
 rw[hT]
 refine⟨.refl _,Ext.mk rfl (Ext.mk rfl (Br.no ?_))⟩
 refine ay.q ?_
 refine ae.fq (xX h0 hd hv hT hroom hlo hhi hb) ?_
 rintro v C' ⟨r,cf,bO,rfl,hh⟩
 exact aZ.mk .tail ⟨r,cf,bO,rfl,hh⟩
structure pP(K' K:Kd):Prop where
 N:∀{s d},K'.N s=some d→K.N s=some d
 n:K'.n=K.n
 cap:K'.cap=K.cap
 ho:K'.ho=K.ho
 us:∀s,K'.use s≤K.use s
 idle:(∀s,K.N s=none→K.use s=0)→∀s,K'.N s=none→K'.use s=0
theorem pP.refl(K:Kd):pP K K:=⟨fun h=>h,rfl,rfl,rfl,fun _=>Nat.le_refl _,fun h=>h⟩
theorem pP.trans{A B C:Kd}(h:pP A B)(h':pP B C):pP A C:=⟨fun x=>h'.N (h.N x),h.n.trans h'.n,h.cap.trans h'.cap,h.ho.trans h'.ho,fun s=>Nat.le_trans (h.us s) (h'.us s),fun hi=>h.idle (h'.idle hi)⟩
def PL(P:Nat→Nat)(N:cN):Prop:=∀t,2≤t→0<P t→∃d,N t=some d
def eE(P0:Nat→Nat)(l:List Nat):Nat→Nat:=fun s=>P0 s+l.count s
theorem Ao{P0:Nat→Nat}{l:List Nat}{t:Nat}:up (eE P0 (l++[t])) t (eE P0 (l++[t]) t-1)=eE P0 l:=by
 funext s
 unfold up eE
 split
 ·rename_i e;subst e;simp
 ·rename_i e;simp[List.count_append,List.count_singleton,Ne.symm e]
theorem kg{P0:Nat→Nat}(h:bS kp K ord af tr C){r:Nat}(hm:fQ K S eZ (eE P0 [r]))(hp:Pos K)(hl:PL (eE P0 [r]) K.N)(hr:r<1048576)(RR:∀s,K.use s<2147483648):
  Fc Tryz.prog 199 #[ptr kp,u32 r] C (fun v C'=>v=.tuple #[]∧∃K',bS kp K' ord af tr C'∧fQ K' S eZ P0∧Pos K'∧PL P0 K'.N∧pP K' K):=by
 refine aP fun g=>xf ?_
 refine ak.int (e:=110) (by kernel_rfl) (by kernel_rfl) (by kernel_rfl) fun bx=>?_
 refine J8 (fun k vs H=>∃(w:Value) (Ct C':Hp) (todo:List Nat) (K':Kd),vs=[w]∧H=Ct++C'∧aN 110 .u32 w (iw todo) Ct∧bS kp K' ord af tr C'∧fQ K' S eZ (eE P0 todo)∧Pos K'∧PL (eE P0 todo) K'.N∧pP K' K∧(∀t∈todo,t<1048576)∧k=3*K'.used+todo.length∧k≤3*K.used+1)
  _ ⟨_,[_],C,[r],K,rfl,rfl,aN.made [(r:Int)],h,hm,hp,hl,.refl K,by simpa using hr,rfl,by simp⟩ ?_
 rintro w H hJ gs
 obtain⟨k,⟨w',Ct,C',todo,K',hw,rfl,ht,hK,hM,Db,A5,jX,hT,hk,TN⟩,hkm⟩:=hJ.open
 simp only[List.cons.injEq,and_true]at hw
 subst hw
 refine ht.cP ?_
 rw[aC]
 refine aa.pA (b:=0) (Br.dec (fun hpos=>?_) (fun hpos=>?_))
 ·have PX:=hm.cap
  obtain⟨pre,t,rfl⟩:∃pre t,todo=pre++[t]:=⟨todo.dropLast,todo.getLast (by intro e;simp[e]at hpos),(List.dropLast_concat_getLast _).symm⟩
  have Re:(pre++[t]).length=pre.length+1:=by simp
  have Ty:=hT t (by simp)
  refine ht.cP ?_
  rw[aC,Re]
  refine aa.Bn (b:=1) ?_ (by omega) ?_
  ·simp[dc];omega
  rw[Nat.add_sub_cancel]
  refine ht.ld (i:=pre.length) (x:=(t:Int)) (by rw[bQ];simp[iw]) (br.sub .left) ?_
  refine ht.cut (i:=pre.length) (by simp) fun w' ht'=>?_
  have Jo:aN 110 .u32 w' (iw pre) Ct:=by
   rw[bQ,List.take_left' (by simp)]at ht';exact ht'
  have Ot:∀s∈pre,s<1048576:=fun s hs=>hT s (List.mem_append_left _ hs)
  refine aa.zF (b:=1) (Br.dec (fun h1=>?_) (fun h1=>?_))
  ·have hc:∀s,2≤s→eE P0 (pre++[t]) s=eE P0 pre s:=fun s hs=>by
    unfold eE;rw[List.count_append,List.count_singleton];simp;omega
   exact je.back (.refl _) hkm (3*K'.used+pre.length) ⟨w',Ct,C',pre,K',rfl,rfl,Jo,hK,hM.congr (fun _=>Iff.rfl) hc,Db,fun s hs h0=>A5 s hs (by rw[hc s hs];exact h0),jX,Ot,rfl,by simp at hk;omega⟩ (by rw[hk];simp)
  ·have P4:0<eE P0 (pre++[t]) t:=by unfold eE;simp;omega
   obtain⟨d,hd⟩:=A5 t (by omega) P4
   have hfit:=hM.fit hd
   have TD:=Db t d hd
   obtain⟨b,rfl,hO⟩:=hK
   refine Nil.ptr ?_
   refine Ld.f ?_
   refine hO.us.ld (x:=((K'.use t:Nat):Int)) (bP hfit) (br.sub (.app (.cons (.app (.app .left))))) ?_
   refine aa.Bn (b:=1) ?_ (by omega) ?_
   ·have:=jX.us t
    have:=RR t
    simp[dc];omega
   refine hO.us.iI (x:=((K'.use t-1:Nat):Int)) (.app (.cons (.app (.app .left)))) (by simpa using hfit) fun Em tV=>?_
   rw[eV]at tV
   have g1:∀s,(K'.us.set t (K'.use t-1)).getD s 0=if s=t then K'.use t-1 else K'.use s:=fun s=>eS hfit
   have z9:=hM.less (r:=t) (cf:=K'.us.set t (K'.use t-1)) P4 (by simp) (by rw[g1,if_pos rfl];omega) (fun s hs=>by rw[g1,if_neg hs])
   rw[Ao]at z9
   have Hh:Ja {b with CU:=Em} {K' with us:=K'.us.set t (K'.use t-1)} ord af tr:={hO with us:=tV,ul:=by simp;exact hO.ul}
   have JH:pP {K' with us:=K'.us.set t (K'.use t-1)} K:=⟨jX.N,jX.n,jX.cap,jX.ho,fun s=>by
    show(K'.us.set t (K'.use t-1)).getD s 0≤_
    rw[g1]
    have:=jX.us s
    split
    ·rename_i e;subst e;omega
    ·exact this,fun hi s hs=>by
    show(K'.us.set t (K'.use t-1)).getD s 0=0
    have hs':K'.N s=none:=hs
    rw[g1,if_neg (fun e=>by subst e;rw[hd]at hs';cases hs')]
    exact jX.idle hi s hs'⟩
   have Lf:PL (eE P0 pre) K'.N:=fun s hs h0=>A5 s hs (by unfold eE at h0⊢;rw[List.count_append];omega)
   refine Nil.ptr ?_
   refine Ld.f ?_
   refine tV.ld (x:=((K'.use t-1:Nat):Int)) (by rw[←eV];simp[hfit]) (br.sub (.app (.cons (.app (.app .left))))) ?_
   refine aa.pA (b:=0) (Br.dec (fun h3=>?_) (fun h3=>?_))
   ·refine je.back (.refl _) hkm (3*K'.used+pre.length) ⟨w',Ct,_,pre,_,rfl,rfl,Jo,⟨_,rfl,Hh⟩,z9,fun s e hs=>?_,Lf,JH,Ot,rfl,by simp at hk;omega⟩ (by rw[hk];simp)
    show 0<(K'.us.set t (K'.use t-1)).getD s 0
    rw[g1]
    split
    ·exact h3
    ·exact Db s e hs
   ·have Rb:K'.use t=1:=by omega
    have nH:bS kp {K' with us:=K'.us.set t (K'.use t-1)} ord af tr (({b with CU:=Em}:pB).hp kp K'.n):=⟨_,rfl,Hh⟩
    refine ae.eq (iO nH (by omega)) ?_
    have Eg:2≤t:=by omega
    have N6:got K'.N t=bp d:=dQ hd Eg
    show dh _ _ _
    intro T2 _
    rw[N6]
    refine St.p (fun x hx=>by simp[bp,u32]at hx;rcases hx with rfl|rfl|rfl<;>rfl) ?_
    refine DR.self ?_
    refine Nil.ptr ?_
    refine Ld.f ?_
    refine ay.q ?_
    have Ov:K'.T d=some t:=(hM.gK d t).2 ⟨hd,fun h=>h⟩
    refine ae.fq (p5 Hh.ut (hM.var hd) Ov) ?_
    rintro v Jg ⟨rfl,Ih⟩
    refine Nil.ptr ?_
    refine Ld.f ?_
    refine ae.fq (DV Hh.ar ⟨d,hd⟩ Eg) ?_
    rintro v L1 ⟨rfl,KW⟩
    refine Ld.f ?_
    refine Ld.f ?_
    refine ak.GP (e:=110) (by kernel_rfl) (by kernel_rfl) (by kernel_rfl) fun bz=>?_
    refine Jo.Ht (.cons (.cons .left)) (fR.block (l:=[(d.lo:Int),(d.hi:Int)]) (by exact .head _) (by simp)) (by simp at hk⊢;omega) (by simp at hk⊢;omega) fun w2 Ti PG=>?_
    have e0:iw pre++[(d.lo:Int),(d.hi:Int)]=iw (pre++[d.lo,d.hi]):=by rw[bQ];rfl
    rw[e0]at PG
    have D6:({K' with us:=K'.us.set t (K'.use t-1)}:Kd).use t=0:=by show(K'.us.set t (K'.use t-1)).getD t 0=0;rw[g1,if_pos rfl];omega
    have A6:=z9.free (r:=t) (d:=d) hd (fun h=>h) D6
    have KM:bX K'.N t K'.cap=0:=by have:=z9.use hd;rw[D6]at this;exact(by have h5:bX K'.N t K'.cap+_+_=0:=this.symm;omega)
    have fo:=fN KM t (hM.two hd).2 d hd
    have Oy:eE P0 pre t=0:=by have:=z9.use hd;rw[D6]at this;omega
    have hroom:0<K'.used:=by have:=hM.room;omega
    have hlt:∀x,live K'.N x→x<1048576:=fun x hx=>nH.lt hx
    have jM:∀s,2≤s→eE P0 pre s+e1 (some d) s=eE P0 (pre++[d.lo,d.hi]) s:=fun s _=>by
     unfold eE
     rw[cz,List.count_append,List.count_cons,List.count_cons,List.count_nil]
     simp only[beq_iff_eq]
     omega
    refine je.back (.skip (.skip (.refl _))) hkm (3*(K'.used-1)+(pre++[d.lo,d.hi]).length) ⟨w2,Ti,_,pre++[d.lo,d.hi],{K' with us:=K'.us.set t (K'.use t-1),N:=up K'.N t none,T:=kM K'.T d none,used:=K'.used-1},rfl,rfl,PG,
     ⟨{b with CU:=Em,CT:=Jg,CA:=L1},rfl,{Hh with ar:=KW,ut:=Ih}⟩,A6.congr (fun _=>Iff.rfl) jM,fun s e hs=>?_,fun s hs h0=>?_,⟨fun{s e} hs=>?_,JH.n,JH.cap,JH.ho,JH.us,fun hi s hs=>?_⟩,fun s hs=>?_,rfl,by simp at hk⊢;omega⟩ (by simp at hk⊢;omega)
    ·have hne:s≠t:=fun e2=>by subst e2;have pz:up K'.N s none s=some e:=hs;rw[az]at pz;cases pz
     show 0<(K'.us.set t (K'.use t-1)).getD s 0
     rw[g1,if_neg hne]
     have pz:up K'.N t none s=some e:=hs
     rw[aA hne]at pz
     exact Db s e pz
    ·have hne:s≠t:=fun e2=>by
      subst e2
      rw[←jM s hs,Oy]at h0
      rw[cz,if_neg fo.1,if_neg fo.2]at h0
      omega
     show∃e,up K'.N t none s=some e
     rw[aA hne]
     rw[←jM s hs]at h0
     by_cases h5:0<eE P0 pre s
     ·exact Lf s hs h5
     ·rw[cz]at h0
      have:d.lo=s∨d.hi=s:=by
       by_cases h6:d.lo=s
       ·exact .inl h6
       ·by_cases h7:d.hi=s
        ·exact .inr h7
        ·rw[if_neg h6,if_neg h7]at h0;omega
      rcases this with rfl|rfl
      ·rcases hM.lo hd with h8|h8
       ·omega
       ·exact h8
      ·rcases hM.hi hd with h8|h8
       ·omega
       ·exact h8
    ·have pz:up K'.N t none s=some e:=hs
     by_cases e2:s=t
     ·subst e2;rw[az]at pz;cases pz
     ·rw[aA e2]at pz;exact jX.N pz
    ·have pz:up K'.N t none s=none:=hs
     show(K'.us.set t (K'.use t-1)).getD s 0=0
     by_cases e2:s=t
     ·subst e2;rw[g1,if_pos rfl];omega
     ·rw[aA e2]at pz
      exact JH.idle hi s pz
    ·rcases List.mem_append.1 hs with hs|hs
     ·exact Ot s hs
     ·simp at hs
      rcases hs with rfl|rfl
      ·exact hlt _ (hM.lo hd)
      ·exact hlt _ (hM.hi hd)
 ·obtain rfl:todo=[]:=List.eq_nil_of_length_eq_zero (by omega)
  exact aZ.mk .right ⟨rfl,K',hK,hM.congr (fun _=>Iff.rfl) (fun s _=>by simp[eE]),Db,fun s hs h0=>A5 s hs (by simpa[eE]using h0),jX⟩
end
abbrev lv(af:List Nat):Nat→Nat:=fun v=>af.getD v 0
section
variable {kp:Nat} {K:Kd} {ord af tr:List Nat} {C:Hp} {S:Nat→av.Fn}
theorem lq(h:bS kp K ord af tr C)(v:Int):Rd Tryz.prog 210 #[ptr kp,.int .i64 v] C (· =.bool (decide (0≤v∧v<K.n))):=by
 obtain⟨b,rfl,hO⟩:=h
 refine aP fun g=>wS ?_
 refine aa.geq ?_
 refine c7.and (decide (v<K.n)) (fun _=>?_) rfl fun _=>bC.mk (.refl _) (by rw[Bool.decide_and])
 refine Nil.ptr ?_
 refine Ld.f ?_
 exact aa.lss ⟨rfl,rfl⟩
theorem qo(h:bS kp K ord af tr C){r:Nat}(hl:live K.N r)(hv:∀d,K.N r=some d→d.v<K.n)(MD:r<2→K.N r=none):Rd Tryz.prog 319 #[ptr kp,u32 r] C (· =.int .i64 ((dep K.n (lv af) K.N r:Nat):Int)):=by
 have h0:=h
 have hr:=h.lt hl
 obtain⟨b,rfl,hO⟩:=h
 refine aP fun g=>v9 ?_
 refine Nil.ptr (ag.mk ?_)
 refine ae.eq (iO h0 (by omega)) ?_
 intro b5 _
 refine St.whole (r:=got K.N r) (by exact .head _) rfl (aQ _ _).1 (aQ _ _).2 ?_
 by_cases h2:r<2
 ·rw[eC h2,aL (MD h2)]
  refine Ld.f ?_
  refine aa.geq (Br.L4 (by decide) ?_)
  refine Nil.ptr ?_
  refine Ld.f ?_
  exact bC.mk .tail rfl
 ·obtain⟨d,hd⟩:∃d,K.N r=some d:=by rcases hl with hl|hl;omega;exact hl
  rw[dQ hd (by omega),aj hd]
  have oz:=hv d hd
  have hlen:=hO.ol.2
  refine Ld.f ?_
  refine aa.geq (Br.En (by simp) ?_)
  refine Nil.ptr ?_
  refine Ld.f ?_
  refine Ld.f ?_
  refine hO.lv.ld (x:=((af.getD d.v 0:Nat):Int)) (bP (by omega)) (br.sub (.cons (.cons (.app (.app (.app (.app (.app .left)))))))) ?_
  exact bC.mk .tail rfl
def jY(K:Kd)(af:List Nat)(v:Int)(lo hi:Nat):Int:=
 if¬(0≤v∧v<K.n)then 2 else if dH K.N lo=false∨dH K.N hi=false then 3 else if lo≠hi∧min (dep K.n (lv af) K.N lo) (dep K.n (lv af) K.N hi)≤af.getD v.toNat 0 then 4 else 0
theorem yG(h:bS kp K ord af tr C)(v:Int){lo hi:Nat}(hlo:lo<4294967296)(hhi:hi<4294967296)(hv:∀r d,K.N r=some d→d.v<K.n∧2≤r):
  Rd Tryz.prog 243 #[ptr kp,.int .i64 v,u32 lo,u32 hi] C (· =.int .i64 (jY K af v lo hi)):=by
 have h0:=h
 have MD:∀r,r<2→K.N r=none:=fun r hr=>by
  cases e:K.N r with
  |none=>rfl
  |some d=>have:=(hv r d e).2;omega
 obtain⟨b,rfl,hO⟩:=h
 refine aP fun g=>wP ?_
 refine ae.eq (lq h0 v) ?_
 refine Un.not ?_
 by_cases Cc:0≤v∧v<K.n
 rotate_left
 ·rw[decide_eq_false Cc]
  exact Br.yes (bC.mk (.refl _) (by unfold jY;rw[if_pos Cc]))
 rw[decide_eq_true Cc]
 refine Br.no ?_
 obtain⟨n,rfl⟩:∃n:Nat,v=n:=⟨v.toNat,by omega⟩
 have TE:n<K.n:=by omega
 intro J hJ
 refine Nil.ptr (ag.mk ?_)
 refine ae.eq (iP h0 hlo) ?_
 refine Un.not ?_
 by_cases pF:dH K.N lo=true
 rotate_left
 ·have KB:dH K.N lo=false:=by simpa using pF
  rw[KB]
  exact Split.EX rfl (aq.mk (JE.mk (hJ _ _ fun gs=>Br.yes (bC.mk (.refl _) (by unfold jY;rw[if_neg (by simpa using Cc),if_pos (.inl KB)])))))
 rw[pF]
 refine Split.go rfl ?_
 refine Nil.ptr (ag.mk ?_)
 refine ae.eq (iP h0 hhi) ?_
 refine Un.not ?_
 by_cases Mm:dH K.N hi=true
 rotate_left
 ·have KJ:dH K.N hi=false:=by simpa using Mm
  rw[KJ]
  exact aq.mk (JE.mk (hJ _ _ fun gs=>Br.yes (bC.mk (.refl _) (by unfold jY;rw[if_neg (by simpa using Cc),if_pos (.inr KJ)]))))
 rw[Mm]
 refine aq.mk (JE.mk (hJ _ _ fun gs=>Br.no ?_))
 intro J2 Ef
 have hE:jY K af n lo hi=if lo≠hi∧min (dep K.n (lv af) K.N lo) (dep K.n (lv af) K.N hi)≤af.getD n 0 then 4 else 0:=by
  unfold jY
  rw[if_neg (by simpa using Cc),if_neg (by rw[pF,Mm];simp)]
  rfl
 refine DR.self ?_
 refine aa.Jm ?_
 by_cases hne:lo≠hi
 rotate_left
 ·rw[decide_eq_false hne]
  exact Br.no (JE.mk (Ef _ _ fun gs=>Br.no (bC.mk (.refl _) (by rw[hE,if_neg (fun h=>hne h.1)]))))
 rw[decide_eq_true hne]
 refine Br.yes ?_
 refine Nil.ptr ?_
 refine Ld.f ?_
 have hlen:=hO.ol.2
 refine hO.lv.ld (x:=((af.getD n 0:Nat):Int)) (bP (by omega)) (br.sub (.cons (.app (.app (.app (.app (.app .left))))))) ?_
 intro F
 refine ae.eq (qo h0 (bD.1 pF) (fun d hd=>(hv _ _ hd).1) (MD _)) ?_
 refine⟨.refl _,?_⟩
 intro F2
 refine ae.eq (qo h0 (bD.1 Mm) (fun d hd=>(hv _ _ hd).1) (MD _)) ?_
 refine⟨.refl _,?_⟩
 refine⟨_,_,_,rfl,rfl,?_⟩
 have hmin:(if((dep K.n (lv af) K.N hi:Nat):Int)<((dep K.n (lv af) K.N lo:Nat):Int)then((dep K.n (lv af) K.N hi:Nat):Int)else((dep K.n (lv af) K.N lo:Nat):Int))=((min (dep K.n (lv af) K.N lo) (dep K.n (lv af) K.N hi):Nat):Int):=by
  split<;>omega
 rw[hmin]
 refine aa.rK ?_
 refine aq.mk ?_
 by_cases hm:min (dep K.n (lv af) K.N lo) (dep K.n (lv af) K.N hi)≤af.getD n 0
 ·rw[decide_eq_true hm]
  exact JE.mk (Ef _ _ fun gs=>Br.yes (bC.mk (.refl _) (by rw[hE,if_pos ⟨hne,hm⟩])))
 ·rw[decide_eq_false hm]
  exact JE.mk (Ef _ _ fun gs=>Br.no (bC.mk (.refl _) (by rw[hE,if_neg (fun h=>hm h.2)])))
theorem x6(h:bS kp K ord af tr C){v lo hi:Nat}(hv:v<K.n):
  Rd Tryz.prog 244 #[ptr kp,.int .i64 (v:Int),u32 lo,u32 hi] C (· =if lo=hi then .tuple #[u32 lo,.bool true]else .tuple #[u32 ((K.T ⟨v,lo,hi⟩).getD 0),.bool (K.T ⟨v,lo,hi⟩).isSome]):=by
 obtain⟨b,rfl,hO⟩:=h
 refine aP fun g=>wO ?_
 refine aa.mI (Br.dec (fun he=>bC.mk (.refl _) (by rw[if_pos he])) (fun he=>?_))
 refine Nil.ptr (ag.mk ?_)
 refine Ld.f ?_
 refine Build.mk (cs:=bp ⟨v,lo,hi⟩) (by kernel_rfl) ?_
 refine ae.eq (nJ (d:=⟨v,lo,hi⟩) hO.ut hv) ?_
 exact Ext.mk rfl (Ext.mk rfl (bC.mk (.refl _) (by rw[if_neg he];rfl)))
theorem sU(h:bS kp K ord af tr C){r:Nat}(hr:r<4294967296)(hb:∀s,K.hold s<2147483648):Rd Tryz.prog 198 #[ptr kp,u32 r] C (· =.int .i64 ((K.hold r:Nat):Int)):=by
 obtain⟨b,rfl,hO⟩:=h
 refine aP fun g=>xg ?_
 refine aa.an ?_
 refine c7.or (decide (K.ho.length≤r)) (fun _=>?_) (by simp) fun _=>?_
 ·refine bB.q (Nil.ptr (ag.mk ?_))
  refine Ld.f ?_
  refine hO.ho.cP ?_
  rw[aC]
  exact aa.rK ⟨rfl,rfl⟩
 ·rw[Bool.false_or]
  refine Br.dec (fun hge=>?_) (fun hlt=>?_)
  ·refine bC.mk (.refl _) ?_
   unfold Kd.hold;rw[List.getD,List.getElem?_eq_none hge];rfl
  ·refine Nil.ptr (ag.mk ?_)
   refine Ld.f ?_
   refine hO.ho.ld (x:=((K.hold r:Nat):Int)) (bP (by omega)) (br.sub (.cons (.app (.app (.app .left))))) ?_
   refine bB.nat (by have:=hb r;simp[dc];omega) ?_
   exact bC.mk (.refl _) rfl
theorem Fm(h:bS kp K ord af tr C)(h2:2≤K.used)(hu:K.used≤1048576):Rd Tryz.prog 140 #[ptr kp] C (· =.int .i64 ((K.used-2:Nat):Int)):=by
 obtain⟨b,rfl,hO⟩:=h
 refine aP fun g=>xF ?_
 refine aa.an (Br.no (Nil.ptr (ag.mk ?_)))
 refine Ld.f ?_
 refine ae.eq (tD hO.ar) ?_
 refine aa.Bn (b:=2) (by simp[dc];omega) h2 ?_
 exact bC.mk (.refl _) rfl
theorem oe(h:bS kp K ord af tr C):Rd Tryz.prog 185 #[ptr kp] C (· =.int .i64 ((K.n:Nat):Int)):=by
 obtain⟨b,rfl,hO⟩:=h
 refine aP fun g=>xp ?_
 refine aa.an (Br.no (Nil.ptr ?_))
 refine Ld.f ?_
 exact bC.mk (.refl _) rfl
theorem iR(h:bS kp K ord af tr C){r:Nat}(hr:r<4294967296):Rd Tryz.prog 249 #[ptr kp,u32 r] C (· =.tuple #[.agg (got K.N r).toArray,.int .i64 (if dH K.N r then 0 else 3)]):=by
 have h0:=h
 obtain⟨b,rfl,hO⟩:=h
 refine aP fun g=>wI ?_
 intro b1 _
 refine aa.an (Br.no (Nil.ptr (ag.mk ?_)))
 refine ae.eq (iP h0 hr) ?_
 refine Un.not ?_
 cases hb:dH K.N r with
 |false=>
  refine Br.yes ?_
  refine Build.mk (cs:=[.int .i64 0,.int .u32 0,.int .u32 0]) (by kernel_rfl) ?_
  refine St.q ?_
  refine ay.q ?_
  exact bC.mk .tail (by rw[s8 hb];rfl)
 |true=>
  refine Br.no (Nil.ptr (ag.mk ?_))
  refine ae.eq (iO h0 hr) ?_
  refine St.whole (r:=got K.N r) (by exact .head _) rfl (aQ _ _).1 (aQ _ _).2 ?_
  refine ay.whole (r:=got K.N r) (by exact .head _) (aQ _ _).1 ?_
  exact bC.mk .tail rfl
end
theorem tt{B:Hp}{v:Value}{l:List Int}(h:fR .i64 B v l)(hl:l.length≤1099511627776):Fc Tryz.prog 71 #[v] B (fun r H=>∃C,H=C++B∧aN 3 .i64 r l C):=by
 refine aP fun g=>AO ?_
 obtain⟨a,c,rfl,hc⟩:=h.shape
 refine⟨.bool a.isNone,by simp[eX],?_⟩
 refine Br.mk (fun ha=>?_) (fun ha=>?_)
 ·have:l=[]:=by
   rcases h.2 with⟨_,_,h1,h2⟩|⟨b,o,cap,cs,T,fz,h1,_⟩
   ·simpa using h2
   ·simp at h1;rw[h1.1]at ha;simp at ha
  subst this
  exact aZ.here ⟨[],rfl,aN.nil⟩
 ·refine ak.none (z:=.int .i64 0) (e:=3) (k:=1) (by kernel_rfl) (by kernel_rfl) (by kernel_rfl) fun b=>?_
  refine(aN.made (T:=3) (kd:=.i64) (b:=b) []).Ht (l2:=l) .left ((show fR .i64 B _ l from h).mono fun _ h=>.tail _ h) (by simp;omega) (by simp;omega) fun v' C' ho=>?_
  exact aZ.here ⟨C',rfl,by simpa using ho⟩
theorem zJ{kp:Nat}{K:Kd}{ord af tr:List Nat}{C:Hp}(h:bS kp K ord af tr C):Fc Tryz.prog 65 #[ptr kp] C (fun r H=>∃N,H=N++C∧aN 3 .i64 r (iw ord) N):=by
 obtain⟨b,rfl,hO⟩:=h
 refine aP fun g=>AR ?_
 refine aa.an (Br.no (Nil.ptr ?_))
 refine Ld.f ?_
 refine ae.fq (tt (hO.od.ints.mono (br.sub (.cons (.app (.app (.app (.app .left))))))) (by have:=hO.ol.1;have:=hO.mV;simp;omega)) ?_
 rintro v C' ⟨N,rfl,ho⟩
 exact aZ.here ⟨N,rfl,ho⟩
end Go.Proofs
set_option maxRecDepth 100000
namespace Go.Proofs
open Go Go.Sx
def qO(x r:Nat):Prop:=x<2^r∧(r=0∨2^(r-1)≤x)
theorem qO.up{x s t:Nat}(h:qO (x>>>s) t)(h0:s=0∨x>>>s≠0):qO x (s+t):=by
 rw[Nat.shiftRight_eq_div_pow]at h h0
 have hp:=Nat.two_pow_pos s
 refine⟨?_,?_⟩
 ·have:=h.1
  rw[Nat.div_lt_iff_lt_mul hp]at this
  rw[Nat.pow_add,Nat.mul_comm];exact this
 ·rcases h.2 with h2|h2
  ·subst h2
   have:=h.1
   rcases h0 with h0|h0
   ·exact .inl (by omega)
   ·rw[Nat.pow_zero]at this;exact absurd (Nat.lt_one_iff.1 this) h0
  ·by_cases ht:t=0
   ·subst ht
    rcases h0 with h0|h0
    ·exact .inl (by omega)
    ·have:=h.1;rw[Nat.pow_zero]at this;exact absurd (Nat.lt_one_iff.1 this) h0
   ·right
    have:=(Nat.le_div_iff_mul_le hp).1 h2
    rw[show s+t-1=(t-1)+s by omega,Nat.pow_add];exact this
theorem Fi:∀y:Fin 256,∃b:UInt8,(ByteArray.mk #[0,1,2,2,3,3,3,3,4,4,4,4,4,4,4,4,5,5,5,5,5,5,5,5,5,5,5,5,5,5,5,5,6,6,6,6,6,6,6,6,6,6,6,6,6,6,6,6,6,6,6,6,6,6,6,6,6,6,6,6,6,6,6,6,7,7,7,7,7,7,7,7,7,7,7,7,7,7,7,7,7,7,7,7,7,7,7,7,7,7,7,7,7,7,7,7,7,7,7,7,7,7,7,7,7,7,7,7,7,7,7,7,7,7,7,7,7,7,7,7,7,7,7,7,7,7,7,7,8,8,8,8,8,8,8,8,8,8,8,8,8,8,8,8,8,8,8,8,8,8,8,8,8,8,8,8,8,8,8,8,8,8,8,8,8,8,8,8,8,8,8,8,8,8,8,8,8,8,8,8,8,8,8,8,8,8,8,8,8,8,8,8,8,8,8,8,8,8,8,8,8,8,8,8,8,8,8,8,8,8,8,8,8,8,8,8,8,8,8,8,8,8,8,8,8,8,8,8,8,8,8,8,8,8,8,8,8,8,8,8,8,8,8,8,8,8,8,8,8,8,8,8,8,8,8,8])[y.1]? =some b∧(y.1<2^b.toNat∧(b.toNat=0∨2^(b.toNat-1)≤y.1)):=by
 have h:∀y:Fin 256,(match(ByteArray.mk #[0,1,2,2,3,3,3,3,4,4,4,4,4,4,4,4,5,5,5,5,5,5,5,5,5,5,5,5,5,5,5,5,6,6,6,6,6,6,6,6,6,6,6,6,6,6,6,6,6,6,6,6,6,6,6,6,6,6,6,6,6,6,6,6,7,7,7,7,7,7,7,7,7,7,7,7,7,7,7,7,7,7,7,7,7,7,7,7,7,7,7,7,7,7,7,7,7,7,7,7,7,7,7,7,7,7,7,7,7,7,7,7,7,7,7,7,7,7,7,7,7,7,7,7,7,7,7,7,8,8,8,8,8,8,8,8,8,8,8,8,8,8,8,8,8,8,8,8,8,8,8,8,8,8,8,8,8,8,8,8,8,8,8,8,8,8,8,8,8,8,8,8,8,8,8,8,8,8,8,8,8,8,8,8,8,8,8,8,8,8,8,8,8,8,8,8,8,8,8,8,8,8,8,8,8,8,8,8,8,8,8,8,8,8,8,8,8,8,8,8,8,8,8,8,8,8,8,8,8,8,8,8,8,8,8,8,8,8,8,8,8,8,8,8,8,8,8,8,8,8,8,8,8,8,8,8])[y.1]? with|some b=>decide (y.1<2^b.toNat∧(b.toNat=0∨2^(b.toNat-1)≤y.1))|none=>false)=true:=by decide+kernel
 intro y
 have:=h y
 split at this
 ·rename_i b hb
  exact⟨b,hb,by simpa using this⟩
 ·cases this
theorem B0{x:Nat}(hx:x<18446744073709551616)(B:Hp):Rd Tryz.prog 222 #[.int .u64 (x:Int)] B (fun v=>∃r:Nat,qO x r∧v=.int .i64 (r:Int)):=by
 refine aP fun g=>wQ ?_
 intro J1 OK
 have h1:∀s,s≤32→x>>>s<4294967296→(s=0∨x>>>s≠0)→J1 [.int .u64 ((x>>>s:Nat):Int),.int .i64 (s:Int)] B:=by
  intro s hs hlt h0
  refine OK _ _ _ fun gs=>?_
  intro J2 Ef
  have h2:∀s,s≤48→x>>>s<65536→(s=0∨x>>>s≠0)→J2 [.int .u64 ((x>>>s:Nat):Int),.int .i64 (s:Int)] B:=by
   intro s hs hlt h0
   refine Ef _ _ _ fun gs=>?_
   intro J3 MB
   have h3:∀s,s≤56→x>>>s<256→(s=0∨x>>>s≠0)→J3 [.int .u64 ((x>>>s:Nat):Int),.int .i64 (s:Int)] B:=by
    intro s hs hlt h0
    refine MB _ _ _ fun gs=>?_
    refine bB.nat (show x>>>s<256 from hlt) ?_
    obtain⟨b,hb,hl⟩:=Fi ⟨x>>>s,hlt⟩
    refine⟨_,_,_,b,rfl,rfl,Int.natCast_nonneg _,by rw[Int.toNat_natCast];exact hb,?_⟩
    have IM:b.toNat<256:=b.toNat_lt
    refine bB.q ?_
    refine aa.fO ?_
    exact bC.mk (.refl _) ⟨s+b.toNat,qO.up (t:=b.toNat) hl h0,rfl⟩
   refine aa.rK (b:=256) (Br.dec (fun hge=>?_) (fun hge=>JE.mk (h3 s (by omega) (by omega) h0)))
   refine aa.uo (b:=8) (by simp only[dc];omega) ?_
   refine aa.fO (b:=8) ?_
   rw[←Nat.shiftRight_add]
   have e:x>>>(s+8)=x>>>s/256:=by rw[Nat.shiftRight_add,Nat.shiftRight_eq_div_pow (x>>>s) 8]
   exact JE.mk (h3 (s+8) (by omega) (by omega) (.inr (by omega)))
  refine aa.rK (b:=65536) (Br.dec (fun hge=>?_) (fun hge=>JE.mk (h2 s (by omega) (by omega) h0)))
  refine aa.uo (b:=16) (by simp only[dc];omega) ?_
  refine aa.fO (b:=16) ?_
  rw[←Nat.shiftRight_add]
  have e:x>>>(s+16)=x>>>s/65536:=by rw[Nat.shiftRight_add,Nat.shiftRight_eq_div_pow (x>>>s) 16]
  exact JE.mk (h2 (s+16) (by omega) (by omega) (.inr (by omega)))
 refine aa.rK (b:=4294967296) (Br.dec (fun hge=>?_) (fun hge=>JE.mk (h1 0 (by omega) (by simp;omega) (.inl rfl))))
 refine aa.uo (b:=32) (by simp only[dc];exact hx) ?_
 have e:x>>>32=x/4294967296:=by rw[Nat.shiftRight_eq_div_pow]
 exact JE.mk (h1 32 (by omega) (by omega) (.inr (by omega)))
end Go.Proofs
namespace Go.Sx
open Go
section
variable {P:Program} {H C:Hp} {c:Hp→Hp}
theorem br.re(h:br C H c)(X:Hp):br X (c X) c:=by
 induction h with
 |here=>exact .here
 |left=>exact .left
 |cons _ ih=>exact .cons ih
 |app _ ih=>exact .app ih
def Dt(T:TypeId)(kd:IntKind)(v:Value)(l0:List Int)(C:Hp):Prop:=∃l:List Int,l.Perm l0∧aN T kd v l C
theorem swap_perm{l:List Int}{i j:Nat}{x y:Int}(hi:l[i]? =some x)(hj:l[j]? =some y):((l.set i y).set j x).Perm l:=by
 have h1:=(List.getElem?_eq_some_iff.1 hi).1
 have h2:=(List.getElem?_eq_some_iff.1 hj).1
 rw[List.perm_iff_count]
 intro a
 by_cases e:i=j
 ·subst e
  rw[hi]at hj;cases hj
  rw[List.set_set]
  have:l.set i x=l:=by
   have hx:l[i]=x:=by rw[List.getElem?_eq_getElem h1]at hi;exact Option.some.inj hi
   rw[←hx];exact List.set_getElem_self h1
  rw[this]
 ·have hx:l[i]=x:=by rw[List.getElem?_eq_getElem h1]at hi;exact Option.some.inj hi
  have hy:l[j]=y:=by rw[List.getElem?_eq_getElem h2]at hj;exact Option.some.inj hj
  rw[List.count_set (by simpa using h2),List.count_set h1]
  have:(l.set i y)[j]'(by simpa using h2)=y:=by rw[List.getElem_set_ne e];exact hy
  rw[this,hx]
  have c1:l.count x≥1:=List.one_le_count_iff.2 (hx▸List.getElem_mem h1)
  have c2:l.count y≥1:=List.one_le_count_iff.2 (hy▸List.getElem_mem h2)
  by_cases e1:x=a
  ·subst e1
   by_cases e2:y=x
   ·subst e2;simp<;>omega
   ·simp[e2,Ne.symm e2]<;>omega
  ·by_cases e2:y=a
   ·subst e2;simp[e1]<;>omega
   ·simp[e1,e2]<;>omega
theorem Dt.ld{T:TypeId}{kd rA:IntKind}{v:Value}{l0:List Int}(h:Dt T kd v l0 C)(hC:∀y∈C,y∈H){i:Nat}(hi:i<l0.length){K:Value→Prop}(hk:∀x,K (.int kd x)):ai 1 v (.int rA (i:Int)) fun p=>Ld H p K:=by
 obtain⟨l,hp,ho⟩:=h
 have:i<l.length:=by rw[hp.length_eq];exact hi
 exact ho.ld (List.getElem?_eq_getElem this) hC (hk _)
theorem Dt.swap{T:TypeId}{kd k1 k2 k3 k4:IntKind}{v:Value}{l0:List Int}(h:Dt T kd v l0 C)(hh:br C H c){i j:Nat}(hi:i<l0.length)(hj:j<l0.length){K:Hp→Prop}(hk:∀C',Dt T kd v l0 C'→K (c C')):
  ai 1 v (.int k1 (j:Int)) fun p1=>Ld H p1 fun x=>ai 1 v (.int k2 (i:Int)) fun p2=>Ld H p2 fun y=>ai 1 v (.int k3 (i:Int)) fun p3=>St 1 H p3 x fun H1=>ai 1 v (.int k4 (j:Int)) fun p4=>St 1 H1 p4 y K:=by
 obtain⟨l,hp,ho⟩:=h
 have hl:=hp.length_eq
 have hi':l[i]? =some l[i]:=List.getElem?_eq_getElem (by omega)
 have hj':l[j]? =some l[j]:=List.getElem?_eq_getElem (by omega)
 refine ho.ld hj' hh.sub ?_
 refine ho.ld hi' hh.sub ?_
 refine ho.iI hh (by omega) fun C1 h1=>?_
 refine h1.iI (hh.re C1) (by simp;omega) fun C2 h2=>?_
 exact hk C2 ⟨_,(swap_perm hi' hj').trans hp,h2⟩
theorem Dt.JS{T:TypeId}{kd k1 k2 k3 k4:IntKind}{v:Value}{l0:List Int}(h:Dt T kd v l0 C)(hh:br C H c){i j:Nat}(hi:i<l0.length)(hj:j<l0.length){B:(Value→Prop)→Prop}
 (hB:∀k:Value→Prop,k (.int k2 (i:Int))→B k){K:Hp→Prop}(hk:∀C',Dt T kd v l0 C'→K (c C')):
  ai 1 v (.int k1 (j:Int)) fun p1=>Ld H p1 fun x=>B fun u=>ai 1 v u fun p2=>Ld H p2 fun y=>ai 1 v (.int k3 (i:Int)) fun p3=>St 1 H p3 x fun H1=>ai 1 v (.int k4 (j:Int)) fun p4=>St 1 H1 p4 y K:=by
 obtain⟨l,hp,ho⟩:=h
 have hl:=hp.length_eq
 have hi':l[i]? =some l[i]:=List.getElem?_eq_getElem (by omega)
 have hj':l[j]? =some l[j]:=List.getElem?_eq_getElem (by omega)
 refine ho.ld hj' hh.sub (hB _ ?_)
 refine ho.ld hi' hh.sub ?_
 refine ho.iI hh (by omega) fun C1 h1=>?_
 refine h1.iI (hh.re C1) (by simp;omega) fun C2 h2=>?_
 exact hk C2 ⟨_,(swap_perm hi' hj').trans hp,h2⟩
theorem aN.dt{T:TypeId}{kd:IntKind}{v:Value}{l:List Int}(h:aN T kd v l C):Dt T kd v l C:=⟨l,.refl _,h⟩
def MX(vs:List Value):Nat:=match vs with
 | .int _ q::_=>(q+1).toNat
 |_=>0
theorem qQ{k:IntKind}{q:Int}{r:List Value}:MX (.int k q::r)=(q+1).toNat:=rfl
end
end Go.Sx
set_option maxRecDepth 100000
namespace Go.Proofs
open Go Go.Sx
abbrev DT(v:Value)(l0:List Int)(C:Hp):Prop:=Dt 110 .u32 v l0 C
def SQ(v:Value)(l0:List Int):Value→Hp→Prop:=fun r C'=>r=.tuple #[]∧DT v l0 C'
section
variable {v:Value} {l0:List Int} {C:Hp}
theorem HW(x:Int)(B:Hp):Rd Tryz.prog 419 #[.int .u32 x] B (· =.bool false):=by
 refine aP fun g=>vq ?_
 refine aa.eP ?_
 exact bC.mk (.refl _) (by simp)
theorem cO(x y:Int)(B:Hp):Rd Tryz.prog 413 #[.int .u32 x,.int .u32 y] B (· =.bool (decide (x<y))):=by
 refine aP fun g=>vA ?_
 intro J1 OK
 refine ae.eq (HW x B) ?_
 refine Split.EX rfl ?_
 refine aq.mk ?_
 refine aa.lss ?_
 refine aq.mk ?_
 exact JE.mk (OK _ _ fun gs=>bC.mk (.refl _) rfl)
theorem sW(h:DT v l0 C){a b:Nat}(hab:a≤b)(hb:b≤l0.length)(cc:l0.length<1152921504606846976):Fc Tryz.prog 407 #[v,.int .i64 (a:Int),.int .i64 (b:Int)] C (SQ v l0):=by
 refine aP fun g=>vH ?_
 refine aa.inc ?_
 refine⟨fun vs H=>∃i:Nat,vs=[.int .i64 (i:Int)]∧a<i∧DT v l0 H,fun vs _=>l0.length-ca vs 0,JE.mk ⟨a+1,rfl,by omega,h⟩,?_⟩
 rintro w H ⟨i,hw,hi,hd⟩ gs
 simp only[List.cons.injEq,and_true]at hw
 subst hw
 refine aa.iC (Br.dec (fun hlt=>?_) (fun _=>aZ.here ⟨rfl,hd⟩))
 refine⟨fun vs H=>∃j:Nat,vs=[.int .i64 (j:Int)]∧a≤j∧j≤i∧DT v l0 H,fun vs _=>ca vs 0,JE.mk ⟨i,rfl,by omega,Nat.le_refl _,hd⟩,?_⟩
 rintro w H ⟨j,hw,He,KE,hd⟩ gs
 simp only[List.cons.injEq,and_true]at hw
 subst hw
 intro J hJ
 have no:J [.bool false] H:=hJ _ _ fun gs=>Br.no (aa.inc (aB.mk ⟨i+1,rfl,by omega,hd⟩ (by simp[ca];omega)))
 have yes:a<j→J [.bool true] H:=fun He=>hJ _ _ fun gs=>Br.yes (DR.self (aa.bF (b:=1) (aa.bF (b:=1)
  (hd.swap .here (by omega) (by omega) fun C' cE=>aa.bF (b:=1) (aB.mk ⟨j-1,rfl,by omega,by omega,cE⟩ (by simp[ca];omega))))))
 refine DR.self (aa.pA (Br.dec (fun hgt=>?_) fun _=>JE.mk no))
 refine hd.ld (fun _ h=>h) (by omega) fun x=>?_
 refine aa.bF (b:=1) ?_
 refine hd.ld (fun _ h=>h) (by omega) fun y=>?_
 intro F
 refine ae.eq (cO x y _) ?_
 refine aq.mk ?_
 by_cases e:x<y
 ·rw[decide_eq_true e];exact JE.mk (yes hgt)
 ·rw[decide_eq_false e];exact JE.mk no
theorem HM(h:DT v l0 C){a b:Nat}(hab:a<b)(hb:b≤l0.length)(cc:l0.length<1152921504606846976):Fc Tryz.prog 411 #[v,.int .i64 (a:Int),.int .i64 (b:Int)] C (SQ v l0):=by
 refine aP fun g=>vC ?_
 refine aa.bF (b:=1) ?_
 refine⟨fun vs H=>∃i j:Nat,vs=[.int .i64 (i:Int),.int .i64 (j:Int)]∧j<l0.length∧DT v l0 H,fun vs _=>ca vs 1-ca vs 0,JE.mk ⟨a,b-1,rfl,by omega,h⟩,?_⟩
 rintro w w' H ⟨i,j,hw,hj,hd⟩ gs
 simp only[List.cons.injEq,and_true]at hw
 obtain⟨rfl,rfl⟩:=hw
 refine aa.iC (Br.dec (fun hlt=>?_) (fun _=>aZ.here ⟨rfl,hd⟩))
 refine DR.self (hd.swap .here (by omega) (by omega) fun C' cE=>?_)
 refine aa.inc ?_
 refine aa.bF (b:=1) ?_
 exact aB.mk ⟨i+1,j-1,rfl,by omega,cE⟩ (by simp[ca];omega)
theorem EW(h:DT v l0 C){a b:Nat}(hab:a<b)(hb:b≤l0.length)(cc:l0.length<1152921504606846976):Fc Tryz.prog 412 #[v,.int .i64 (a:Int),.int .i64 (b:Int)] C (fun r C'=>(∃t,r=.bool t)∧DT v l0 C'):=by
 refine aP fun g=>vB ?_
 refine aa.inc ?_
 refine⟨fun vs H=>∃i k:Nat,vs=[.int .i64 (i:Int),.int .i64 (k:Int)]∧a<i∧i≤b∧DT v l0 H,fun vs _=>5-ca vs 1,JE.mk ⟨a+1,0,rfl,by omega,by omega,h⟩,?_⟩
 rintro w w' H ⟨i,k,hw,Eb,ov,hd⟩ gs
 simp only[List.cons.injEq,and_true]at hw
 obtain⟨rfl,rfl⟩:=hw
 refine aa.iC (b:=5) (Br.dec (fun hk=>?_) (fun _=>aZ.here ⟨⟨_,rfl⟩,hd⟩))
 intro J9 Dd
 have next:∀(i':Nat) H',a<i'→i'≤b→DT v l0 H'→J9 [.int .i64 (i':Int)] H':=fun i' H' h1 h2 cE=>Dd _ _ fun gs=>aa.inc (aB.mk ⟨i',k+1,rfl,h1,h2,cE⟩ (by simp[ca];omega))
 refine⟨fun vs H=>∃i:Nat,vs=[.int .i64 (i:Int)]∧a<i∧i≤b∧DT v l0 H,fun vs _=>b-ca vs 0,JE.mk ⟨i,rfl,Eb,ov,hd⟩,?_⟩
 clear hd Eb ov
 rintro w H ⟨i,hw,Eb,ov,hd⟩ gs
 simp only[List.cons.injEq,and_true]at hw
 subst hw
 intro MR Lq
 have yes:i<b→MR [.bool true] H:=fun hlt=>Lq _ _ fun gs=>Br.yes (aa.inc (aB.mk ⟨i+1,rfl,by omega,by omega,hd⟩ (by simp[ca];omega)))
 have no:MR [.bool false] H:=by
  refine Lq _ _ fun gs=>Br.no ?_
  refine aa.mI (Br.dec (fun he=>aZ.here ⟨⟨_,rfl⟩,hd⟩) (fun hne=>?_))
  refine aa.bF ?_
  refine aa.iC (b:=50) (Br.dec (fun he=>aZ.here ⟨⟨_,rfl⟩,hd⟩) (fun _=>?_))
  refine DR.self ?_
  refine aa.bF (b:=1) ?_
  refine aa.bF (b:=1) ?_
  refine hd.swap .here (by omega) (by omega) fun C1 CP=>?_
  intro SX OD
  have tail:∀H',DT v l0 H'→SX [] H':=fun H' cE=>by
   refine OD _ fun gs=>?_
   refine aa.bF ?_
   refine aa.rK (b:=2) (Br.dec (fun h2=>?_) (fun _=>JE.mk (next i _ Eb ov cE)))
   refine aa.inc ?_
   refine⟨fun vs H=>∃j:Nat,vs=[.int .i64 (j:Int)]∧0<j∧DT v l0 H,fun vs _=>b-ca vs 0,JE.mk ⟨i+1,rfl,by omega,cE⟩,?_⟩
   rintro w H ⟨j,hw,IC,uQ⟩ gs
   simp only[List.cons.injEq,and_true]at hw
   subst hw
   refine aa.iC (Br.dec (fun hlt=>?_) (fun _=>JE.mk (next i _ Eb ov uQ)))
   refine DR.self ?_
   refine uQ.ld (fun _ h=>h) (by omega) fun x=>?_
   refine aa.bF (b:=1) ?_
   refine uQ.ld (fun _ h=>h) (by omega) fun y=>?_
   refine ae.eq (cO x y _) ?_
   refine Un.not ?_
   refine Br.mk (fun _=>JE.mk (next i _ Eb ov uQ)) (fun _=>?_)
   refine DR.self ?_
   refine aa.bF (b:=1) ?_
   refine aa.bF (b:=1) ?_
   refine uQ.swap .here (by omega) (by omega) fun C2 qq=>?_
   refine aa.inc ?_
   exact aB.mk ⟨j+1,rfl,by omega,qq⟩ (by simp[ca];omega)
  refine aa.bF ?_
  refine aa.rK (b:=2) (Br.dec (fun h2=>?_) (fun _=>JE.mk (tail _ CP)))
  refine aa.bF (b:=1) ?_
  refine⟨fun vs H=>∃j:Nat,vs=[.int .i64 (j:Int)]∧j<l0.length∧DT v l0 H,fun vs _=>ca vs 0,JE.mk ⟨i-1,rfl,by omega,CP⟩,?_⟩
  rintro w H ⟨j,hw,IC,uQ⟩ gs
  simp only[List.cons.injEq,and_true]at hw
  subst hw
  refine aa.rK (b:=1) (Br.dec (fun hlt=>?_) (fun _=>JE.mk (tail _ uQ)))
  refine DR.self ?_
  refine uQ.ld (fun _ h=>h) (by omega) fun x=>?_
  refine aa.bF (b:=1) ?_
  refine uQ.ld (fun _ h=>h) (by omega) fun y=>?_
  refine ae.eq (cO x y _) ?_
  refine Un.not ?_
  refine Br.mk (fun _=>JE.mk (tail _ uQ)) (fun _=>?_)
  refine DR.self ?_
  refine aa.bF (b:=1) ?_
  refine aa.bF (b:=1) ?_
  refine uQ.swap .here (by omega) (by omega) fun C2 qq=>?_
  refine aa.bF (b:=1) ?_
  exact aB.mk ⟨j-1,rfl,by omega,qq⟩ (by simp[ca];omega)
 refine DR.self (aa.iC (Br.dec (fun hlt=>?_) fun _=>JE.mk no))
 refine hd.ld (fun _ h=>h) (by omega) fun x=>?_
 refine aa.bF (b:=1) ?_
 refine hd.ld (fun _ h=>h) (by omega) fun y=>?_
 intro F
 refine ae.eq (cO x y _) ?_
 refine Un.not ?_
 refine aq.mk ?_
 by_cases e:x<y
 ·rw[decide_eq_true e];exact JE.mk no
 ·rw[decide_eq_false e];exact JE.mk (yes hlt)
theorem zq(h:DT v l0 C){a b p:Nat}(hp:a≤p∧p<b)(hb:b≤l0.length)(cc:l0.length<1152921504606846976):Fc Tryz.prog 414 #[v,.int .i64 (a:Int),.int .i64 (b:Int),.int .i64 (p:Int)] C
  (fun r C'=>(∃m:Nat,r=.int .i64 (m:Int)∧a<m∧m≤b)∧DT v l0 C'):=by
 refine aP fun g=>vz ?_
 refine DR.self (h.swap .here (by omega) (by omega) fun C1 hd=>?_)
 refine aa.inc ?_
 refine aa.bF (b:=1) ?_
 refine⟨fun vs H=>∃i j:Nat,vs=[.int .i64 (i:Int),.int .i64 (j:Int)]∧a<i∧i≤b∧a≤j∧j<b∧DT v l0 H,fun vs _=>b-ca vs 0,JE.mk ⟨a+1,b-1,rfl,by omega,by omega,by omega,by omega,hd⟩,?_⟩
 clear hd
 rintro w w' H0 ⟨i0,j0,hw,Eb,ov,He,Jx,hd⟩ gs
 simp only[List.cons.injEq,and_true]at hw
 obtain⟨rfl,rfl⟩:=hw
 refine⟨fun vs H=>∃i:Nat,vs=[.int .i64 (i:Int)]∧i0≤i∧i≤b∧DT v l0 H,fun vs _=>b-ca vs 0,JE.mk ⟨i0,rfl,Nat.le_refl _,ov,hd⟩,?_⟩
 clear hd ov
 rintro w H ⟨i,hw,FJ,ov,hd⟩ gs
 simp only[List.cons.injEq,and_true]at hw
 subst hw
 intro O7 Lp
 have yes:i≤j0→O7 [.bool true] H:=fun hle=>Lp _ _ fun gs=>Br.yes (aa.inc (aB.mk ⟨i+1,rfl,by omega,by omega,hd⟩ (by simp[ca];omega)))
 have no:O7 [.bool false] H:=by
  refine Lp _ _ fun gs=>Br.no ?_
  refine⟨fun vs H=>∃j:Nat,vs=[.int .i64 (j:Int)]∧a≤j∧j<b∧DT v l0 H,fun vs _=>ca vs 0,JE.mk ⟨j0,rfl,He,Jx,hd⟩,?_⟩
  rintro w H' ⟨j,hw,K6,KG,cE⟩ gs
  simp only[List.cons.injEq,and_true]at hw
  subst hw
  intro MP FW
  have y7:i≤j→MP [.bool true] H':=fun hle=>FW _ _ fun gs=>Br.yes (aa.bF (b:=1) (aB.mk ⟨j-1,rfl,by omega,by omega,cE⟩ (by simp[ca];omega)))
  have GG:MP [.bool false] H':=by
   refine FW _ _ fun gs=>Br.no ?_
   refine aa.pA (Br.dec (fun _=>aZ.here ⟨⟨i,rfl,by omega,ov⟩,cE⟩) (fun hle=>?_))
   refine DR.self (cE.swap .here (by omega) (by omega) fun C2 qq=>?_)
   refine aa.inc ?_
   refine aa.bF (b:=1) ?_
   exact aB.mk ⟨i+1,j-1,rfl,by omega,by omega,by omega,by omega,qq⟩ (by simp[ca];omega)
  refine DR.self (aa.zF (Br.dec (fun hle=>?_) fun _=>JE.mk GG))
  refine cE.ld (fun _ h=>h) (by omega) fun x=>?_
  refine cE.ld (fun _ h=>h) (by omega) fun y=>?_
  intro F
  refine ae.eq (cO x y _) ?_
  refine aq.mk ?_
  by_cases e:x<y
  ·rw[decide_eq_true e];exact JE.mk (y7 hle)
  ·rw[decide_eq_false e];exact JE.mk GG
 refine DR.self (aa.zF (Br.dec (fun hle=>?_) fun _=>JE.mk no))
 refine hd.ld (fun _ h=>h) (by omega) fun x=>?_
 refine hd.ld (fun _ h=>h) (by omega) fun y=>?_
 intro F
 refine ae.eq (cO x y _) ?_
 refine Un.not ?_
 refine aq.mk ?_
 by_cases e:x<y
 ·rw[decide_eq_true e];exact JE.mk no
 ·rw[decide_eq_false e];exact JE.mk (yes hle)
end
end Go.Proofs
set_option maxRecDepth 100000
namespace Go.Proofs
open Go Go.Sx
section
variable {v:Value} {l0:List Int} {C:Hp}
def PQ(v:Value)(l0:List Int)(a b:Nat):Value→Hp→Prop:=fun r C'=>(∃(m:Nat) (t:Bool),r=.tuple #[.int .i64 (m:Int),.bool t]∧a≤m∧m<b)∧DT v l0 C'
theorem EY(h:DT v l0 C){a b p:Nat}(hp:a≤p∧p<b)(hb:b≤l0.length)(cc:l0.length<1152921504606846976):Fc Tryz.prog 415 #[v,.int .i64 (a:Int),.int .i64 (b:Int),.int .i64 (p:Int)] C (PQ v l0 a b):=by
 refine aP fun g=>vy ?_
 refine DR.self (h.swap .here (by omega) (by omega) fun C1 hd=>?_)
 refine aa.inc ?_
 refine aa.bF (b:=1) ?_
 refine⟨fun vs H=>∃i:Nat,vs=[.int .i64 (i:Int)]∧a<i∧i≤b∧DT v l0 H,fun vs _=>b-ca vs 0,JE.mk ⟨a+1,rfl,by omega,by omega,hd⟩,?_⟩
 clear hd
 rintro w H ⟨i,hw,Eb,ov,hd⟩ gs
 simp only[List.cons.injEq,and_true]at hw
 subst hw
 intro Jb uR
 have yes:i<b→Jb [.bool true] H:=fun hle=>uR _ _ fun gs=>Br.yes (aa.inc (aB.mk ⟨i+1,rfl,by omega,by omega,hd⟩ (by simp[ca];omega)))
 have no:Jb [.bool false] H:=by
  refine uR _ _ fun gs=>Br.no ?_
  refine⟨fun vs H=>∃j:Nat,vs=[.int .i64 (j:Int)]∧a≤j∧j<b∧DT v l0 H,fun vs _=>ca vs 0,JE.mk ⟨b-1,rfl,by omega,by omega,hd⟩,?_⟩
  clear hd
  rintro w H ⟨j,hw,He,Jx,hd⟩ gs
  simp only[List.cons.injEq,and_true]at hw
  subst hw
  intro O6 IV
  have y7:i≤j→O6 [.bool true] H:=fun hle=>IV _ _ fun gs=>Br.yes (aa.bF (b:=1) (aB.mk ⟨j-1,rfl,by omega,by omega,hd⟩ (by simp[ca];omega)))
  have GG:O6 [.bool false] H:=by
   refine IV _ _ fun gs=>Br.no ?_
   refine aa.pA (Br.dec (fun _=>?_) (fun hle=>?_))
   ·refine DR.self (hd.swap .here (by omega) (by omega) fun C2 qq=>?_)
    exact aZ.here ⟨⟨j,true,rfl,He,Jx⟩,qq⟩
   ·refine DR.self (hd.swap .here (by omega) (by omega) fun C2 qq=>?_)
    refine aa.inc ?_
    refine aa.bF (b:=1) ?_
    refine⟨fun vs H=>∃i j:Nat,vs=[.int .i64 (i:Int),.int .i64 (j:Int)]∧a<i∧i≤b∧a≤j∧j<b∧DT v l0 H,fun vs _=>b-ca vs 0,JE.mk ⟨i+1,j-1,rfl,by omega,by omega,by omega,by omega,qq⟩,?_⟩
    clear qq hd Eb ov He Jx hle y7 IV O6 uR Jb yes
    rintro w w' H0 ⟨i0,j0,hw,Eb,ov,He,Jx,hd⟩ gs
    simp only[List.cons.injEq,and_true]at hw
    obtain⟨rfl,rfl⟩:=hw
    refine⟨fun vs H=>∃i:Nat,vs=[.int .i64 (i:Int)]∧i0≤i∧i≤b∧DT v l0 H,fun vs _=>b-ca vs 0,JE.mk ⟨i0,rfl,Nat.le_refl _,ov,hd⟩,?_⟩
    clear hd ov
    rintro w H ⟨i,hw,FJ,ov,hd⟩ gs
    simp only[List.cons.injEq,and_true]at hw
    subst hw
    intro MO Lm
    have yes:i≤j0→MO [.bool true] H:=fun hle=>Lm _ _ fun gs=>Br.yes (aa.inc (aB.mk ⟨i+1,rfl,by omega,by omega,hd⟩ (by simp[ca];omega)))
    have no:MO [.bool false] H:=by
     refine Lm _ _ fun gs=>Br.no ?_
     refine⟨fun vs H=>∃j:Nat,vs=[.int .i64 (j:Int)]∧a≤j∧j<b∧DT v l0 H,fun vs _=>ca vs 0,JE.mk ⟨j0,rfl,He,Jx,hd⟩,?_⟩
     rintro w H' ⟨j,hw,K6,KG,cE⟩ gs
     simp only[List.cons.injEq,and_true]at hw
     subst hw
     intro Qu Ll
     have y7:i≤j→Qu [.bool true] H':=fun hle=>Ll _ _ fun gs=>Br.yes (aa.bF (b:=1) (aB.mk ⟨j-1,rfl,by omega,by omega,cE⟩ (by simp[ca];omega)))
     have GG:Qu [.bool false] H':=by
      refine Ll _ _ fun gs=>Br.no ?_
      refine aa.pA (Br.dec (fun _=>?_) (fun hle=>?_))
      ·refine DR.self (cE.swap .here (by omega) (by omega) fun C2 qq=>?_)
       exact aZ.here ⟨⟨j,false,rfl,K6,KG⟩,qq⟩
      ·refine DR.self (cE.swap .here (by omega) (by omega) fun C2 qq=>?_)
       refine aa.inc ?_
       refine aa.bF (b:=1) ?_
       exact aB.mk ⟨i+1,j-1,rfl,by omega,by omega,by omega,by omega,qq⟩ (by simp[ca];omega)
     refine DR.self (aa.zF (Br.dec (fun hle=>?_) fun _=>JE.mk GG))
     refine cE.ld (fun _ h=>h) (by omega) fun x=>?_
     refine cE.ld (fun _ h=>h) (by omega) fun y=>?_
     intro F
     refine ae.eq (cO x y _) ?_
     refine Un.not ?_
     refine aq.mk ?_
     by_cases e:x<y
     ·rw[decide_eq_true e];exact JE.mk GG
     ·rw[decide_eq_false e];exact JE.mk (y7 hle)
    refine DR.self (aa.zF (Br.dec (fun hle=>?_) fun _=>JE.mk no))
    refine hd.ld (fun _ h=>h) (by omega) fun x=>?_
    refine hd.ld (fun _ h=>h) (by omega) fun y=>?_
    intro F
    refine ae.eq (cO x y _) ?_
    refine aq.mk ?_
    by_cases e:x<y
    ·rw[decide_eq_true e];exact JE.mk (yes hle)
    ·rw[decide_eq_false e];exact JE.mk no
  refine DR.self (aa.zF (Br.dec (fun hle=>?_) fun _=>JE.mk GG))
  refine hd.ld (fun _ h=>h) (by omega) fun x=>?_
  refine hd.ld (fun _ h=>h) (by omega) fun y=>?_
  intro F
  refine ae.eq (cO x y _) ?_
  refine Un.not ?_
  refine aq.mk ?_
  by_cases e:x<y
  ·rw[decide_eq_true e];exact JE.mk GG
  ·rw[decide_eq_false e];exact JE.mk (y7 hle)
 refine DR.self (aa.zF (Br.dec (fun hle=>?_) fun _=>JE.mk no))
 refine hd.ld (fun _ h=>h) (by omega) fun x=>?_
 refine hd.ld (fun _ h=>h) (by omega) fun y=>?_
 intro F
 refine ae.eq (cO x y _) ?_
 refine aq.mk ?_
 by_cases e:x<y
 ·rw[decide_eq_true e];exact JE.mk (yes (by omega))
 ·rw[decide_eq_false e];exact JE.mk no
theorem x4(h:DT v l0 C){lo hi f:Nat}(hlo:lo≤l0.length)(hb:f+hi≤l0.length)(cc:l0.length<1152921504606846976):Fc Tryz.prog 416 #[v,.int .i64 (lo:Int),.int .i64 (hi:Int),.int .i64 (f:Int)] C (SQ v l0):=by
 refine aP fun g=>vx ?_
 refine⟨fun vs H=>∃i:Nat,vs=[.int .i64 (i:Int)]∧i≤l0.length∧DT v l0 H,fun vs _=>l0.length-ca vs 0,JE.mk ⟨lo,rfl,hlo,h⟩,?_⟩
 rintro w H ⟨r,hw,hr,hd⟩ gs
 simp only[List.cons.injEq,and_true]at hw
 subst hw
 refine aa.rf (a:=2) ?_
 refine aa.inc ?_
 refine aa.rK (Br.dec (fun _=>aZ.here ⟨rfl,hd⟩) (fun hlt=>?_))
 intro J9 Dd
 have go:∀c:Nat,r<c→c<hi→J9 [.int .i64 (c:Int)] H:=fun c hrc RO=>by
  refine Dd _ _ fun gs=>?_
  refine DR.self ?_
  refine aa.fO ?_
  refine hd.ld (fun _ h=>h) (by omega) fun x=>?_
  refine aa.fO ?_
  refine hd.ld (fun _ h=>h) (by omega) fun y=>?_
  refine ae.eq (cO x y _) ?_
  refine Un.not ?_
  refine Br.mk (fun _=>aZ.here ⟨rfl,hd⟩) (fun _=>?_)
  refine DR.self ?_
  refine aa.fO ?_
  refine aa.fO ?_
  refine aa.fO ?_
  refine hd.JS .here (i:=f+r) (j:=f+c) (B:=fun k=>aa .num .add (.int .i64 (f:Int)) (.int .i64 (r:Int)) k) (by omega) (by omega) (fun k hk=>aa.fO hk) fun C1 CP=>?_
  exact aB.mk ⟨c,rfl,by omega,CP⟩ (by simp[ca];omega)
 intro SY Ln
 have stay:SY [.bool false] H:=Ln _ _ fun gs=>Br.no (JE.mk (go _ (by omega) (by omega)))
 refine DR.self ?_
 refine aa.inc ?_
 refine aa.iC (Br.dec (fun hc=>?_) fun _=>JE.mk stay)
 refine aa.fO ?_
 refine hd.ld (fun _ h=>h) (by omega) fun x=>?_
 refine aa.fO ?_
 refine aa.inc ?_
 refine hd.ld (fun _ h=>h) (by omega) fun y=>?_
 intro F
 refine ae.eq (cO x y _) ?_
 refine aq.mk ?_
 by_cases e:x<y
 ·rw[decide_eq_true e]
  exact JE.mk (Ln _ _ fun gs=>Br.yes (aa.inc (JE.mk (go _ (by omega) hc))))
 ·rw[decide_eq_false e];exact JE.mk stay
theorem Ck(h:DT v l0 C){a b:Nat}(hab:a<b)(hb:b≤l0.length)(cc:l0.length<1152921504606846976):Fc Tryz.prog 408 #[v,.int .i64 (a:Int),.int .i64 (b:Int)] C (SQ v l0):=by
 refine aP fun g=>vG ?_
 refine aa.bF ?_
 refine aa.bF (b:=1) ?_
 refine aa.uU (b:=2) (by simp[dc];omega) (by omega) ?_
 refine⟨fun vs H=>∃q:Int,vs=[.int .i64 q]∧ -1≤q∧q<(b:Int) -a∧DT v l0 H,fun vs _=>MX vs,JE.mk ⟨(((b-a-1) /2:Nat):Int),rfl,by omega,by omega,h⟩,?_⟩
 rintro w H ⟨q,hw,Fy,NI,hd⟩ gs
 simp only[List.cons.injEq,and_true]at hw
 subst hw
 refine aa.geq (Br.dec (fun h0=>?_) (fun _=>?_))
 ·obtain⟨i,rfl⟩:∃i:Nat,q=i:=⟨q.toNat,by omega⟩
  refine ae.fq (x4 hd (by omega) (by omega) cc) ?_
  rintro w C1 ⟨rfl,CP⟩
  refine aa.kW (c:=(i:Int) -1) rfl (by omega) ?_
  exact aB.mk ⟨(i:Int) -1,rfl,by omega,by omega,CP⟩ (by rw[qQ,qQ];omega)
 ·refine aa.bF (b:=1) ?_
  refine⟨fun vs H=>∃q:Int,vs=[.int .i64 q]∧ -1≤q∧q<(b:Int) -a∧DT v l0 H,fun vs _=>MX vs,JE.mk ⟨((b-a-1:Nat):Int),rfl,by omega,by omega,hd⟩,?_⟩
  clear hd
  rintro w H ⟨q,hw,Fy,NI,hd⟩ gs
  simp only[List.cons.injEq,and_true]at hw
  subst hw
  refine aa.geq (Br.dec (fun h0=>?_) (fun _=>aZ.here ⟨rfl,hd⟩))
  obtain⟨i,rfl⟩:∃i:Nat,q=i:=⟨q.toNat,by omega⟩
  refine DR.self ?_
  refine aa.fO ?_
  refine aa.fO ?_
  refine hd.swap .here (by omega) (by omega) fun C1 CP=>?_
  refine ae.fq (x4 CP (lo:=0) (by omega) (by omega) cc) ?_
  rintro w C2 ⟨rfl,qq⟩
  refine aa.kW (c:=(i:Int) -1) rfl (by omega) ?_
  exact aB.mk ⟨(i:Int) -1,rfl,by omega,by omega,qq⟩ (by rw[qQ,qQ];omega)
end
section
variable {v:Value} {l0:List Int} {C:Hp}
theorem MU{a b:Nat}(ha:a<18446744073709551616)(hb:b<18446744073709551616):a^^^b<18446744073709551616:=Nat.xor_lt_two_pow (n:=64) ha hb
theorem A9(b x:Nat)(hx:x<18446744073709551616):Fc Tryz.prog 305 #[ptr b] [(b,.cells #[.int .u64 (x:Int)] 371 (0,0))]
  (fun r H=>∃y:Nat,y<18446744073709551616∧r=.int .u64 (y:Int)∧H=[(b,.cells #[.int .u64 (y:Int)] 371 (0,0))]):=by
 refine aP fun g=>wc ?_
 refine DR.self ?_
 refine Nil.ptr (Ld.q ?_)
 refine Nil.ptr (Ld.q ?_)
 refine aa.ur (b:=13) ?_
 refine aa.HA hx (Nat.mod_lt _ (by decide)) ?_
 have h1:=MU hx (Nat.mod_lt (x<<<13) (show 0<18446744073709551616 by decide))
 generalize x^^^x<<<13%18446744073709551616=x1 at h1
 refine Nil.ptr (St.one (by exact .head _) rfl (by simp) rfl ?_)
 refine DR.self ?_
 refine Nil.ptr (Ld.q ?_)
 refine Nil.ptr (Ld.q ?_)
 refine aa.uo (b:=7) h1 ?_
 have h2:x1>>>7<18446744073709551616:=by rw[Nat.shiftRight_eq_div_pow];omega
 refine aa.HA h1 h2 ?_
 have h3:=MU h1 h2
 generalize x1^^^x1>>>7=x2 at h3
 refine Nil.ptr (St.one (by exact .head _) rfl (by simp) rfl ?_)
 refine DR.self ?_
 refine Nil.ptr (Ld.q ?_)
 refine Nil.ptr (Ld.q ?_)
 refine aa.ur (b:=17) ?_
 refine aa.HA h3 (Nat.mod_lt _ (by decide)) ?_
 have h4:=MU h3 (Nat.mod_lt (x2<<<17) (show 0<18446744073709551616 by decide))
 generalize x2^^^x2<<<17%18446744073709551616=x3 at h4
 refine Nil.ptr (St.one (by exact .head _) rfl (by simp) rfl ?_)
 refine Nil.ptr (Ld.q ?_)
 exact aZ.here ⟨x3,h4,rfl,rfl⟩
theorem yQ{x:Nat}(hx:x<18446744073709551616)(B:Hp):Rd Tryz.prog 154 #[.int .u64 (x:Int)] B (fun v=>∃r:Nat,qO x r∧v=.int .i64 (r:Int)):=by
 refine aP fun g=>xy ?_
 refine Br.no ?_
 refine ae.rq (B0 hx B) ?_
 rintro w hw
 exact bC.mk (.refl _) hw
theorem E0{x:Nat}(h0:0<x)(hx:x<1152921504606846976)(B:Hp):Rd Tryz.prog 304 #[.int .i64 (x:Int)] B (fun v=>∃r:Nat,0<r∧r≤2*x∧v=.int .u64 (r:Int)):=by
 refine aP fun g=>we ?_
 refine bB.q ?_
 refine ae.rq (yQ (by omega) B) ?_
 rintro w ⟨r,hr,rfl⟩
 have Kn:0<r:=by
  rcases Nat.eq_zero_or_pos r with e|e
  ·subst e;have:=hr.1;omega
  ·exact e
 have h2:2^(r-1)≤x:=by
  rcases hr.2 with e|e
  ·omega
  ·exact e
 have h3:2^r=2*2^(r-1):=by
  obtain⟨k,rfl⟩:∃k,r=k+1:=⟨r-1,by omega⟩
  rw[Nat.add_sub_cancel,Nat.pow_succ];omega
 refine aa.ur (a:=1) ?_
 have e:1<<<r%18446744073709551616=2^r:=by
  rw[Nat.shiftLeft_eq,Nat.one_mul]
  exact Nat.mod_eq_of_lt (by omega)
 rw[e]
 exact bC.mk (.refl _) ⟨2^r,Nat.two_pow_pos r,by omega,rfl⟩
theorem I3(h:DT v l0 C){a b:Nat}(hab:a<b)(hb:b≤l0.length)(cc:l0.length<1152921504606846976):Fc Tryz.prog 409 #[v,.int .i64 (a:Int),.int .i64 (b:Int)] C (SQ v l0):=by
 refine aP fun g=>vE ?_
 refine aa.bF ?_
 refine aa.rK (b:=8) (Br.dec (fun h8=>?_) (fun _=>aZ.here ⟨rfl,h⟩))
 refine bB.q ?_
 intro b4 _
 refine St.one (by exact .head _) rfl (by simp) rfl ?_
 refine ae.rq (E0 (by omega) (by omega) C) ?_
 rintro w ⟨m,hm0,hm,rfl⟩
 refine aa.uU (b:=4) (by simp[dc];omega) (by omega) ?_
 refine aa.rf (b:=2) ?_
 refine aa.fO ?_
 refine aa.bF (b:=1) ?_
 refine⟨fun vs H=>∃(i x:Nat) (C':Hp),vs=[.int .i64 (i:Int)]∧x<18446744073709551616∧H=(b4,.cells #[.int .u64 (x:Int)] 371 (0,0))::C'∧DT v l0 C',fun vs _=>b-ca vs 0,
  JE.mk ⟨_,b-a,C,rfl,by omega,rfl,h⟩,?_⟩
 rintro w H ⟨i,x,C',hw,hx,rfl,hd⟩ gs
 simp only[List.cons.injEq,and_true]at hw
 subst hw
 refine aa.uU (b:=4) (by simp[dc];omega) (by omega) ?_
 refine aa.rf (b:=2) ?_
 refine aa.fO ?_
 refine aa.inc ?_
 refine aa.zF (Br.dec (fun hle=>?_) (fun _=>aZ.mk .tail ⟨rfl,hd⟩))
 refine ae.fn (.left (A:=C')) (A9 b4 x hx) ?_
 rintro w H' ⟨y,hy,rfl,rfl⟩
 refine aa.bF (b:=1) ?_
 refine aa.Gq (by simp[dc];omega) (by simp[dc];omega) ?_
 have hand:y&&& (m-1)<m:=by have:=Nat.and_le_right (n:=y) (m:=m-1);omega
 generalize y&&& (m-1)=z at hand
 refine bB.q ?_
 intro S7 OG
 have go:∀o:Nat,o<b-a→S7 [.int .i64 (o:Int)] ([(b4,Obj.cells #[.int .u64 (y:Int)] 371 (0,0))]++C'):=fun o ho=>by
  refine OG _ _ fun gs=>?_
  refine DR.self ?_
  refine aa.fO ?_
  refine aa.fO ?_
  refine hd.swap (.cons .here) (by omega) (by omega) fun C1 CP=>?_
  refine aa.inc ?_
  exact aB.mk ⟨i+1,y,C1,rfl,hy,rfl,CP⟩ (by simp[ca];omega)
 refine aa.rK (Br.dec (fun hge=>?_) (fun hlt=>JE.mk (go z (by omega))))
 refine aa.bF ?_
 exact JE.mk (go _ (by omega))
def OQ(b:Nat)(C:Hp)(i j:Nat):Value→Hp→Prop:=fun r H=>(r=.tuple #[.int .i64 (i:Int),.int .i64 (j:Int)]∨r=.tuple #[.int .i64 (j:Int),.int .i64 (i:Int)])∧∃z:Int,H=(b,.cells #[.int .i64 z] 3 (0,0))::C
theorem q7(h:DT v l0 C){b:Nat}{z:Int}{i j:Nat}(hi:i<l0.length)(hj:j<l0.length):
  Fc Tryz.prog 420 #[v,.int .i64 (i:Int),.int .i64 (j:Int),ptr b] ((b,.cells #[.int .i64 z] 3 (0,0))::C) (OQ b C i j):=by
 refine aP fun g=>vp ?_
 refine DR.self ?_
 refine h.ld (fun _ h=>.tail _ h) hj fun x=>?_
 refine h.ld (fun _ h=>.tail _ h) hi fun y=>?_
 refine ae.eq (cO x y _) ?_
 refine Br.mk (fun _=>?_) (fun _=>aZ.here ⟨.inl rfl,z,rfl⟩)
 refine Nil.ptr (Ld.q ?_)
 refine aa.add ?_
 refine Nil.ptr (St.one (by exact .head _) rfl (by simp) rfl ?_)
 exact aZ.here ⟨.inr rfl,_,rfl⟩
def MQ(b:Nat)(C:Hp)(p:Nat→Prop):Value→Hp→Prop:=fun r H=>(∃m:Nat,r=.int .i64 (m:Int)∧p m)∧∃z:Int,H=(b,.cells #[.int .i64 z] 3 (0,0))::C
theorem BW(h:DT v l0 C){b:Nat}{z:Int}{i j k:Nat}(hi:i<l0.length)(hj:j<l0.length)(hk:k<l0.length):
  Fc Tryz.prog 418 #[v,.int .i64 (i:Int),.int .i64 (j:Int),.int .i64 (k:Int),ptr b] ((b,.cells #[.int .i64 z] 3 (0,0))::C) (MQ b C fun m=>m=i∨m=j∨m=k):=by
 refine aP fun g=>vv ?_
 refine ae.fq (q7 h hi hj) ?_
 rintro w H ⟨hw,z1,rfl⟩
 obtain⟨i1,j1,rfl,hij⟩:∃i1 j1:Nat,w=.tuple #[.int .i64 (i1:Int),.int .i64 (j1:Int)]∧((i1=i∧j1=j)∨(i1=j∧j1=i)):=by
  rcases hw with rfl|rfl
  ·exact⟨i,j,rfl,.inl ⟨rfl,rfl⟩⟩
  ·exact⟨j,i,rfl,.inr ⟨rfl,rfl⟩⟩
 refine Ext.two ?_
 refine ae.fq (q7 h (i:=j1) (j:=k) (by omega) hk) ?_
 rintro w H ⟨hw,z2,rfl⟩
 obtain⟨j2,k2,rfl,G0⟩:∃j2 k2:Nat,w=.tuple #[.int .i64 (j2:Int),.int .i64 (k2:Int)]∧((j2=j1∧k2=k)∨(j2=k∧k2=j1)):=by
  rcases hw with rfl|rfl
  ·exact⟨_,_,rfl,.inl ⟨rfl,rfl⟩⟩
  ·exact⟨_,_,rfl,.inr ⟨rfl,rfl⟩⟩
 refine Ext.two ?_
 refine ae.fq (q7 h (i:=i1) (j:=j2) (by omega) (by omega)) ?_
 rintro w H ⟨hw,z3,rfl⟩
 rcases hw with rfl|rfl
 ·exact Ext.mk rfl (Ext.mk rfl (aZ.here ⟨⟨_,rfl,by omega⟩,_,rfl⟩))
 ·exact Ext.mk rfl (Ext.mk rfl (aZ.here ⟨⟨_,rfl,by omega⟩,_,rfl⟩))
theorem rh(h:DT v l0 C){b:Nat}{z:Int}{i:Nat}(h0:0<i)(hi:i+1<l0.length)(cc:l0.length<1152921504606846976):
  Fc Tryz.prog 417 #[v,.int .i64 (i:Int),ptr b] ((b,.cells #[.int .i64 z] 3 (0,0))::C) (MQ b C fun m=>i≤m+1∧m≤i+1):=by
 refine aP fun g=>vw ?_
 refine aa.bF (b:=1) ?_
 refine aa.inc ?_
 refine ae.fq (BW h (by omega) (by omega) hi) ?_
 rintro w H ⟨⟨m,rfl,hm⟩,z',rfl⟩
 exact aZ.here ⟨⟨m,rfl,by omega⟩,z',rfl⟩
theorem HQ(h:DT v l0 C){a b:Nat}(hab:a<b)(hb:b≤l0.length)(cc:l0.length<1152921504606846976):
  Rd Tryz.prog 410 #[v,.int .i64 (a:Int),.int .i64 (b:Int)] C (fun r=>∃(p:Nat) (q:Int),r=.tuple #[.int .i64 (p:Int),.int .i64 q]∧a≤p∧p<b):=by
 refine aP fun g=>vD ?_
 refine aa.bF ?_
 intro b2 _
 refine aa.uU (b:=4) (by simp[dc];omega) (by omega) ?_
 refine aa.rf (b:=1) ?_
 refine aa.fO ?_
 refine aa.uU (b:=4) (by simp[dc];omega) (by omega) ?_
 refine aa.rf (b:=2) ?_
 refine aa.fO ?_
 refine aa.uU (b:=4) (by simp[dc];omega) (by omega) ?_
 refine aa.rf (b:=3) ?_
 refine aa.fO ?_
 intro Td OJ
 have fin:∀(p:Nat) (z:Int),a≤p→p<b→Td [.int .i64 (p:Int)] ((b2,.cells #[.int .i64 z] 3 (0,0))::C):=fun p z uK me=>by
  refine OJ _ _ fun gs=>?_
  refine Ld.q ?_
  refine aa.iq (Br.dec (fun _=>bC.mk .tail ⟨p,_,rfl,uK,me⟩) (fun _=>?_))
  exact aa.iq (Br.dec (fun _=>bC.mk .tail ⟨p,_,rfl,uK,me⟩) (fun _=>bC.mk .tail ⟨p,_,rfl,uK,me⟩))
 refine aa.rK (b:=8) (Br.dec (fun h8=>?_) (fun _=>JE.mk (fin _ _ (by omega) (by omega))))
 intro S9 OI
 have three:∀(x y u:Nat) (z:Int),a≤x∧x<b→a≤y∧y<b→a≤u∧u<b→S9 [.int .i64 (x:Int),.int .i64 (y:Int),.int .i64 (u:Int)] ((b2,.cells #[.int .i64 z] 3 (0,0))::C):=fun x y u z hx hy hu=>by
  refine OI _ _ _ _ fun gs=>?_
  refine ae.fq (BW h (by omega) (by omega) (by omega)) ?_
  rintro w H ⟨⟨m,rfl,hm⟩,z',rfl⟩
  exact JE.mk (fin _ _ (by omega) (by omega))
 refine aa.rK (b:=50) (Br.dec (fun Qj=>?_) (fun _=>JE.mk (three _ _ _ _ (by omega) (by omega) (by omega))))
 refine ae.fq (rh h (by omega) (by omega) cc) ?_
 rintro w H ⟨⟨m1,rfl,tY⟩,z1,rfl⟩
 refine ae.fq (rh h (by omega) (by omega) cc) ?_
 rintro w H ⟨⟨m2,rfl,nu⟩,z2,rfl⟩
 refine ae.fq (rh h (by omega) (by omega) cc) ?_
 rintro w H ⟨⟨m3,rfl,TL⟩,z3,rfl⟩
 exact JE.mk (three _ _ _ _ (by omega) (by omega) (by omega))
theorem HR:∀(N:Nat) {C:Hp} (h:DT v l0 C) {a b:Nat} (hN:b-a≤N) (hab:a≤b) (hb:b≤l0.length) (cc:l0.length<1152921504606846976) (z:Int),Fc Tryz.prog 406 #[v,.int .i64 (a:Int),.int .i64 (b:Int),.int .i64 z] C (SQ v l0):=by
 intro N
 induction N with
 |zero=>
  intro C h a b hN hab hb cc z g
  refine oZ (R:=aZ _) ?_
  unfold L406
  refine⟨fun vs H=>vs=[.int .i64 (a:Int),.int .i64 (b:Int),.int .i64 z,.bool true,.bool true]∧H=C,fun _ _=>0,JE.mk ⟨rfl,rfl⟩,?_⟩
  rintro w1 w2 w3 w4 w5 H ⟨hw,rfl⟩ gs
  simp only[List.cons.injEq,and_true]at hw
  obtain⟨rfl,rfl,rfl,rfl,rfl⟩:=hw
  refine aa.bF ?_
  refine aa.zF (b:=12) (Br.T ?_)
  refine ae.fq (sW h hab hb cc) ?_
  rintro w C' ⟨rfl,hd⟩
  exact aZ.here ⟨rfl,hd⟩
 |succ N ih=>
  intro C h a b hN hab hb cc z g
  refine oZ (R:=aZ _) ?_
  unfold L406
  refine⟨fun vs H=>∃(a b:Nat) (z:Int) (t1 t2:Bool),vs=[.int .i64 (a:Int),.int .i64 (b:Int),.int .i64 z,.bool t1,.bool t2]∧b-a≤N+1∧a≤b∧b≤l0.length∧DT v l0 H,fun vs _=>ca vs 1-ca vs 0,JE.mk ⟨a,b,z,true,true,rfl,hN,hab,hb,h⟩,?_⟩
  clear h hN hab hb
  rintro w1 w2 w3 w4 w5 H ⟨a,b,z,t1,t2,hw,hN,hab,hb,h⟩ gs
  simp only[List.cons.injEq,and_true]at hw
  obtain⟨rfl,rfl,rfl,rfl,rfl⟩:=hw
  refine aa.bF ?_
  refine aa.zF (b:=12) (Br.dec (fun IY=>?_) (fun IY=>?_))
  ·refine ae.fq (sW h hab hb cc) ?_
   rintro w C' ⟨rfl,hd⟩
   exact aZ.here ⟨rfl,hd⟩
  refine aa.iq (Br.dec (fun _=>?_) (fun _=>?_))
  ·refine ae.fq (Ck h (by omega) hb cc) ?_
   rintro w C' ⟨rfl,hd⟩
   exact aZ.here ⟨rfl,hd⟩
  intro Jb uR
  have Pz:∀(z1:Int) H1,DT v l0 H1→Jb [.int .i64 z1] H1:=fun z1 H1 h1=>by
   refine uR _ _ fun gs=>?_
   refine ae.rq (HQ h1 (a:=a) (b:=b) (by omega) hb cc) ?_
   rintro w ⟨p,q,rfl,uK,me⟩
   refine Ext.two ?_
   intro S8 OH
   have Pw:∀(p:Nat) (q:Int) H2,a≤p→p<b→DT v l0 H2→S8 [.int .i64 (p:Int),.int .i64 q] H2:=fun p q H2 uK me h2=>by
    refine OH _ _ _ fun gs=>?_
    intro S6 OF
    have Pv:∀H3,DT v l0 H3→S6 [] H3:=fun H3 h3=>by
     refine OF _ fun gs=>?_
     intro MP FW
     have Pu:∀(t:Bool),MP [.bool t] H3:=fun t=>by
      refine FW _ _ fun gs=>?_
      refine Br.mk (fun _=>?_) (fun _=>?_)
      ·refine ae.fq (zq h3 ⟨uK,me⟩ hb cc) ?_
       rintro w C' ⟨⟨m,rfl,tY,nu⟩,hd⟩
       exact aB.mk ⟨m,b,z1,t1,t2,rfl,by omega,by omega,hb,hd⟩ (by simp[ca];omega)
      ·refine ae.fq (EY h3 ⟨uK,me⟩ hb cc) ?_
       rintro w C' ⟨⟨m,t,rfl,tY,nu⟩,hd⟩
       refine Ext.two ?_
       refine aa.bF ?_
       refine aa.bF ?_
       refine aa.uU (b:=8) (by simp[dc];omega) (by omega) ?_
       refine aa.iC (Br.dec (fun _=>?_) (fun _=>?_))
       ·refine aa.rK ?_
        refine ae.fq (ih hd (a:=a) (b:=m) (by omega) (by omega) (by omega) cc z1) ?_
        rintro w C' ⟨rfl,cE⟩
        refine aa.inc ?_
        exact aB.mk ⟨m+1,b,z1,_,t,rfl,by omega,by omega,hb,cE⟩ (by simp[ca];omega)
       ·refine aa.rK ?_
        refine aa.inc ?_
        refine ae.fq (ih hd (a:=m+1) (b:=b) (by omega) (by omega) (by omega) cc z1) ?_
        rintro w C' ⟨rfl,cE⟩
        exact aB.mk ⟨a,m,z1,_,t,rfl,by omega,by omega,by omega,cE⟩ (by simp[ca];omega)
     refine DR.self ?_
     refine aa.pA (b:=0) (Br.dec (fun h0=>?_) (fun _=>JE.mk (Pu false)))
     refine aa.bF (b:=1) ?_
     refine h3.ld (fun _ h=>h) (by omega) fun x=>?_
     refine h3.ld (fun _ h=>h) (by omega) fun y=>?_
     intro F
     refine ae.eq (cO x y _) ?_
     exact Un.not (aq.mk (JE.mk (Pu _)))
    refine c7.and t2 (fun _=>⟨rfl,rfl⟩) rfl fun gs=>?_
    refine c7.and (decide (q=1)) (fun _=>aa.iq ⟨rfl,rfl⟩) rfl fun gs=>?_
    refine Br.mk (fun _=>?_) (fun _=>JE.mk (Pv _ h2))
    refine ae.fq (EW h2 (by omega) hb cc) ?_
    rintro w C' ⟨⟨t,rfl⟩,hd⟩
    exact Br.mk (fun _=>aZ.here ⟨rfl,hd⟩) (fun _=>JE.mk (Pv _ hd))
   refine aa.iq (Br.dec (fun _=>?_) (fun _=>JE.mk (Pw p q _ uK me h1)))
   refine ae.fq (HM h1 (a:=a) (b:=b) (by omega) hb cc) ?_
   rintro w C' ⟨rfl,hd⟩
   refine aa.bF (b:=1) ?_
   refine aa.bF ?_
   refine aa.bF ?_
   exact JE.mk (Pw _ _ _ (by omega) (by omega) hd)
  refine Un.not ?_
  refine Br.mk (fun _=>?_) (fun _=>JE.mk (Pz _ _ h))
  refine ae.fq (I3 h (a:=a) (b:=b) (by omega) hb cc) ?_
  rintro w C' ⟨rfl,hd⟩
  exact aa.sub (JE.mk (Pz _ _ hd))
theorem ED{l:List Int}(h:aN 110 .u32 v l C)(cc:l.length<1152921504606846976):Fc Tryz.prog 401 #[v] C (fun r C'=>r=.tuple #[]∧∃l',l'.Perm l∧aN 110 .u32 v l' C'):=by
 refine aP fun g=>vI ?_
 refine h.cP ?_
 refine bB.q ?_
 refine ae.rq (yQ (by omega) C) ?_
 rintro w ⟨r,_,rfl⟩
 refine ae.fq (HR l.length h.dt (a:=0) (b:=l.length) (by omega) (by omega) (Nat.le_refl _) cc _) ?_
 rintro w C' ⟨rfl,hd⟩
 exact aZ.here ⟨rfl,hd⟩
end
end Go.Proofs
namespace Go.Sx
open Go
section
variable {P:Program} {g:Gh} {F:Fence} {n:Nat} {ops:Array Oper} {Q:Exit→Act→World→Prop} {rest:List Oper} {o:Oper} {a:Act} {fr:Fr} {w:World} {H:Hp}
abbrev tO(ds:List Deferred)(n:Nat)(a:Act)(fr:Fr):Prop:=bH ds n a fr
variable {ds:List Deferred}
theorem tO.put(h:tO ds n a fr){d:Option Nat}(hd:cD n d=true)(v:Value):tO ds n (a.put d v) (bc fr d v):=bH.put h hd v
theorem fD{v0:Value}(hF:∀f,F.fn f)(hg:o.guard=none)(fI:∀c,o.op≠.defer c)(hd:cD n o.dst=true)(ha:tO ds n a fr)(hw:Own g H w)(h:tT P g o (ev fr) H (· =v0))
 (k:∀a',tO ds n a' (bc fr o.dst v0)→wpListIn F 0 P ops Q rest a' w):wpListIn F 0 P ops Q (o::rest) a w:=by
 refine wpListIn_plain hg fun K hK=>⟨fun f _=>hF f,?_⟩
 rw[Oper.semAt_eq _ _ _ fI,ha.eval]
 obtain⟨v,hv,hr,_⟩:=jx h
 rw[hr w hw]
 subst hv
 exact hK _ _ (k _ (ha.put hd _))
theorem xZ{s:Sem Value}{K:Value→Hp→Prop}(hF:∀f,F.fn f)(hg:o.guard=none)(fI:∀c,o.op≠.defer c)(hd:cD n o.dst=true)(ha:tO ds n a fr)(he:execOp (ev fr) o=(do pure (.value (←s))))
 (h:∃v w' H',s.run P w=.ok v w'∧Own g H' w'∧K v H')
 (k:∀v H' w' a',K v H'→Own g H' w'→tO ds n a' (bc fr o.dst v)→wpListIn F 0 P ops Q rest a' w'):wpListIn F 0 P ops Q (o::rest) a w:=by
 refine wpListIn_plain hg fun K hK=>⟨fun f _=>hF f,?_⟩
 rw[Oper.semAt_eq _ _ _ fI,ha.eval,he]
 obtain⟨v,w',H',hr,ho,hk⟩:=h
 simp only[Sem.run_bind,hr,Result.andThen_ok,Sem.run_pure]
 exact hK _ _ (k v H' w' _ hk ho (ha.put hd _))
theorem Bo{s:Sem Value}{K:Value→Hp→Prop}(hF:∀f,F.fn f)(hg:o.guard=none)(fI:∀c,o.op≠.defer c)(hd:cD n o.dst=true)(ha:tO ds n a fr)(hw:Own g H w)(he:execOp (ev fr) o=(do pure (.value (←s))))
 (h:D4 P g o (ev fr) H K (fun _ _=>False))
 (k:∀v H' w' a',K v H'→Own g H' w'→tO ds n a' (bc fr o.dst v)→wpListIn F 0 P ops Q rest a' w'):wpListIn F 0 P ops Q (o::rest) a w:=by
 have h1:=nZ (jE fr) h w hw
 rw[he]at h1
 refine xZ (g:=g) (K:=K) hF hg fI hd ha he ?_ k
 cases hs:s.run P w with
 |ok v w'=>
  simp only[Sem.run_bind,hs,Result.andThen_ok,Sem.run_pure,jj]at h1
  obtain⟨H',ho,hk⟩:=h1
  exact⟨v,w',H',rfl,ho,hk⟩
 |halt x w'=>
  simp only[Sem.run_bind,hs,Result.andThen]at h1
  cases x<;>simp only[jj]at h1
  obtain⟨_,_,hk⟩:=h1;exact hk.elim
theorem JT{s:Sem Unit}{K:Value→Hp→Prop}(hF:∀f,F.fn f)(hg:o.guard=none)(fI:∀c,o.op≠.defer c)(hd:cD n o.dst=true)(ha:tO ds n a fr)(hw:Own g H w)(he:execOp (ev fr) o=(do s;pure .skip))
 (h:D4 P g o (ev fr) H K (fun _ _=>False))
 (k:∀H' w' a',K undef H'→Own g H' w'→tO ds n a' (bc fr o.dst undef)→wpListIn F 0 P ops Q rest a' w'):wpListIn F 0 P ops Q (o::rest) a w:=by
 have h1:=nZ (jE fr) h w hw
 rw[he]at h1
 refine wpListIn_plain hg fun K hK=>⟨fun f _=>hF f,?_⟩
 rw[Oper.semAt_eq _ _ _ fI,ha.eval,he]
 cases hs:s.run P w with
 |ok v w'=>
  simp only[Sem.run_bind,hs,Result.andThen_ok,Sem.run_pure,jj]at h1⊢
  obtain⟨H',ho,hk⟩:=h1
  exact hK _ _ (k H' w' _ hk ho (ha.put hd _))
 |halt x w'=>
  simp only[Sem.run_bind,hs,Result.andThen]at h1
  cases x<;>simp only[jj]at h1
  obtain⟨_,_,hk⟩:=h1;exact hk.elim
theorem oV{m:Nat}{args:List Value}(hl:args.length≤m):tO [] m {tmps:=args.toArray++Array.replicate (m-args.toArray.size) undef,defers:=[]} (fH args 0):=by
 refine⟨rfl,by simp;omega,fun s=>?_⟩
 rw[gX,Array.getD_eq_getD_getElem?,Array.getElem?_append]
 simp only[List.size_toArray,Nat.not_lt_zero,if_false,Nat.sub_zero]
 by_cases hs:s<args.length
 ·simp[hs,List.getD]
 ·rw[if_neg hs,Array.getElem?_replicate]
  have:args.getD s undef=undef:=by simp[List.getD,List.getElem?_eq_none (Nat.le_of_not_lt hs)]
  rw[this]
  split<;>rfl
theorem Own.putObj{g:Gh}{H H':Hp}{w:World}{b:Nat}{o o':Obj}(h:Own g H w)(u:ct b o o' H H'):Own g H' (w.putObj b o'):=by
 have hb:=h.lt u.mem
 exact h.bc u rfl rfl rfl (World.putObj_heap_same hb) fun c hc=>World.putObj_heap_other hc
def y3{α:Type}(P:Program)(f:FuncId)(cap:Array Value)(B:Hp)(enc:α→Value)(N:Nat)(S:List α→Prop):Prop:=
 ∀(g:Gh) (l:Nat) (G:List α→Hp→Prop),
  (∀ss x A X W,G ss A→ss.length<N→Own g (A++X) W→YieldAt Fence.wide 0 P l #[enc x] W (fun e W'=>e=.returned (.bool true)∧∃A',G (ss++[x]) A'∧Own g (A'++X) W'))→
  ∀A W,G [] A→Own g (A++B) W→CallsIn Fence.wide 0 P f (#[.func (.yield l) #[] #[]]++cap) W (fun e W'=>(∃v,e=.returned v)∧∃ss A',S ss∧G ss A'∧Own g (A'++B) W')
open Classical in
noncomputable def lp(p:Nat→Prop):Nat:=if h:∃k,p k then Classical.choose (gz h)else 0
theorem uB{p:Nat→Prop}{k:Nat}(h:p k):lp p≤k:=by
 unfold lp
 rw[dif_pos ⟨k,h⟩]
 exact(Classical.choose_spec (gz ⟨k,h⟩)).2 k h
theorem ry{p:Nat→Prop}(h:∃k,p k):p (lp p):=by
 unfold lp
 rw[dif_pos h]
 exact(Classical.choose_spec (gz h)).1
theorem ue{c:Code}(J:Nat→Act→World→Prop){k:Nat}(h0:J k a w)
 (round:∀k a w,J k a w→c.wpIn F 0 P (Exit.then (fun a' w'=>∃k',k'<k∧J k' a' w') Q) a w):(Code.loop c).wpIn F 0 P Q a w:=by
 refine wpIn_loop (fun a w=>∃k,J k a w) (fun a w=>lp fun k=>J k a w) ⟨k,h0⟩ fun a w h=>?_
 refine Code.wpIn_mono (fun e a' w' hq=>?_) (round _ a w (ry h))
 cases e with
 |normal=>
  obtain⟨k',hlt,hj⟩:=hq
  exact⟨⟨k',hj⟩,Nat.lt_of_le_of_lt (uB hj) hlt⟩
 |_=>exact hq
end
end Go.Sx
set_option maxRecDepth 100000
namespace Go.Proofs
open Go Go.Sx
open av
section
variable {es:Array MapEntry} {ck b:Nat} {m:List (Nd×Nat)}
theorem zb(B:Hp):Fc Tryz.prog 392 #[.map (some b)] B
  (fun v H=>∃bm,v=.func (.func 402) #[] #[ptr bm]∧H=(bm,.cells #[.map (some b)] 167 (0,0))::B):=by
 refine aP fun g=>vK ?_
 intro b1 _
 exact aZ.here ⟨b1,rfl,rfl⟩
noncomputable abbrev VF:Func:=Tryz.f402
def SN(g:Gh)(bi b:Nat)(l:Nat)(es:Array MapEntry)(ck:Nat)(m:List (Nd×Nat))(G:List Nat→Hp→Prop)(B:Hp)(k:Nat)(a:Act)(w:World):Prop:=
 ∃(fr:Fr) (ss:List Nat) (A:Hp) (seen:Array Nat),tO [] 15 a fr∧fr 0=.func (.yield l) #[] #[]∧fr 6=ptr bi∧G ss A∧Own g (A++((bi,.mapIter (some b) ck seen ck)::B)) w∧
  (ss++(cJ es m seen).map Prod.snd).Perm (m.map Prod.snd)∧k=(cJ es m seen).length
theorem uf{bm:Nat}{fz:Nat×Nat}(h:aE nK Ep es ck m):y3 Tryz.prog 402 #[ptr bm] [(bm,.cells #[.map (some b)] 167 fz),(b,.map es ck)] u32 m.length
  (fun ss=>ss.Perm (m.map Prod.snd)):=by
 intro g l G hY A W h0 hW
 have hF:∀f,Fence.wide.fn f:=fun _=>trivial
 refine callsIn_of_wp Tryz.func402 rfl trivial ?_
 have ha:=oV (m:=15) (args:=[.func (.yield l) #[] #[],ptr bm]) (by simp)
 refine wpIn_seq ?_
 refine wpIn_region_lit ?_
 obtain⟨B,hB⟩:∃B,B=[(bm,Obj.cells #[.map (some b)] 167 fz),(b,.map es ck)]:=⟨_,rfl⟩
 rw[←hB]at hW
 have tY:(bm,Obj.cells #[.map (some b)] 167 fz)∈A++B:=by rw[hB];exact List.mem_append_right _ (.head _)
 have nu:(b,Obj.map es ck)∈A++B:=by rw[hB];exact List.mem_append_right _ (.tail _ (.head _))
 have TK:∀{X:Hp},(b,Obj.map es ck)∈X++B:=by intro X;rw[hB];exact List.mem_append_right _ (.tail _ (.head _))
 rw[←hB]
 have e0:tT Tryz.prog g (dJ VF 0 0) (ev (fH [.func (.yield l) #[] #[],ptr bm] 0)) (A++B) (fun x=>x=.map (some b))=Ld (A++B) (ptr bm) (fun x=>x=.map (some b)):=by kernel_rfl
 refine fD (g:=g) (n:=15) (v0:=.map (some b)) hF rfl (by intro c h;cases h) rfl ha hW (e0.mpr (Ld.mk tY rfl rfl)) fun a1 s6=>?_
 refine xZ (g:=g) (n:=15) (s:=Instr.range 167 (.map (some b))) (K:=fun v H=>∃bi,v=ptr bi∧H=(bi,.mapIter (some b) ck #[] ck)::(A++B)) hF rfl (by intro c h;cases h) rfl s6 rfl
  (MM.run (.inr ⟨b,es,ck,rfl,nu,fun bi _=>⟨bi,rfl,rfl⟩⟩) hW (t:=167) (kt:=226) (e:=110) (by kernel_rfl)) fun v H' w1 a2 hv kO tZ=>?_
 obtain⟨bi,rfl,rfl⟩:=hv
 refine wpListIn_nil ?_
 have D5:Own g (A++((bi,.mapIter (some b) ck #[] ck)::B)) w1:=kO.perm (List.perm_middle).symm
 clear kO s6 ha hW tY nu
 refine wpIn_block ?_
 refine ue (SN g bi b l es ck m G B) (k:=(cJ es m #[]).length) ⟨_,[],A,#[],tZ,rfl,rfl,h0,D5,by rw[uh h];exact .refl _,rfl⟩ ?_
 clear tZ D5 h0 e0 A
 rintro k a w ⟨fr,ss,A,seen,ha,f0,f6,hG,hw,dI,hk⟩
 refine wpIn_seq ?_
 refine wpIn_region_lit ?_
 have e6:ev fr (.tmp 6)=ptr bi:=f6
 refine xZ (g:=g) (n:=15) (s:=Instr.next (ptr bi) false 0)
  (K:=fun v H=>(cJ es m seen=[]∧v=.tuple #[.bool false]∧H=A++((bi,.mapIter (some b) ck seen ck)::B))∨
   ∃(e:MapEntry) (x:Nd×Nat) (seen':Array Nat),v=.tuple #[.bool true,e.key,e.val]∧e.val=u32 x.2∧(cJ es m seen).Perm (x::cJ es m seen')∧seen'.back?=some e.born∧es.find? (·.born==e.born)=some e∧
    H=A++((bi,.mapIter (some b) ck seen' ck)::B)) hF rfl (by intro c h;cases h) rfl ha ?_
  (LR.run (h.next (bi:=bi) (bm:=b) (seen:=seen) (H:=A++((bi,.mapIter (some b) ck seen ck)::B)) (List.mem_append_right _ (.tail _ (by rw[hB];exact .tail _ (.head _)))) (List.mem_append_right _ (.head _))
   (fun e x seen' he hk hv hp hb hf=>⟨_,(ct.head _).bL A,.inr ⟨e,x,seen',rfl,hv,hp,hb,hf,rfl⟩⟩) (fun hu=>.inl ⟨hu,rfl,rfl⟩)) hw) fun v H' w1 a1 hv kO s6=>?_
 ·rw[e6.symm];rfl
 rcases hv with⟨hu,rfl,rfl⟩|⟨e,x,seen',rfl,zX,hp,PZ,RF,rfl⟩
 ·refine fD (g:=g) (n:=15) (v0:=.bool false) hF rfl (by intro c h;cases h) rfl s6 kO ⟨_,_,rfl,rfl,rfl⟩ fun a2 tZ=>?_
  refine wpListIn_nil ?_
  refine wpIn_seq ?_
  refine wpIn_cond_false (by rw[tZ.eval];rfl) ?_
  refine wpIn_exit ?_
  simp only[Exit.then,Exit.inBlock,if_true,bodyPost]
  refine⟨tZ.defers,_,results_none rfl _ _ _,⟨_,rfl⟩,ss,A,?_,hG,(kO.perm List.perm_middle).tail⟩
  rw[hu,List.map_nil,List.append_nil]at dI
  exact dI
 ·refine fD (g:=g) (n:=15) (v0:=.bool true) hF rfl (by intro c h;cases h) rfl s6 kO ⟨_,_,rfl,rfl,rfl⟩ fun a2 tZ=>?_
  refine wpListIn_nil ?_
  refine wpIn_seq ?_
  refine wpIn_cond_true (by rw[tZ.eval];rfl) ?_
  refine wpIn_skip ?_
  refine wpIn_block ?_
  refine wpIn_seq ?_
  refine wpIn_region_lit ?_
  refine xZ (g:=g) (n:=15) (s:=Instr.entry (ptr bi)) (K:=fun v H=>v=.tuple #[e.key,e.val]∧H=A++((bi,.mapIter (some b) ck seen' ck)::B)) hF rfl (by intro c h;cases h) rfl tZ ?_ ?_ fun v H' w2 a3 hv D5 z6=>?_
  ·rw[e6.symm];rfl
  ·obtain⟨v,hr,hv⟩:=Gy.run (P:=Tryz.prog) (k:=fun v=>v=.tuple #[e.key,e.val]) ⟨bi,b,ck,seen',e.born,ck,es,e,rfl,List.mem_append_right _ (.head _),PZ,List.mem_append_right _ (.tail _ (by rw[hB];exact .tail _ (.head _))),RF,rfl⟩ kO
   exact⟨v,w1,_,hr,kO,hv,rfl⟩
  obtain⟨rfl,rfl⟩:=hv
  refine fD (g:=g) (n:=15) (v0:=u32 x.2) hF rfl (by intro c h;cases h) rfl z6 D5 ⟨_,_,rfl,rfl,zX⟩ fun a4 FR=>?_
  refine fD (g:=g) (n:=15) (v0:=u32 x.2) hF rfl (by intro c h;cases h) rfl FR D5 (show u32 x.2=u32 x.2 from rfl) fun a5 FQ=>?_
  refine wpListIn_nil ?_
  refine wpIn_seq ?_
  refine wpIn_region_lit ?_
  refine fD (g:=g) (n:=15) (v0:=.func (.yield l) #[] #[]) hF rfl (by intro c h;cases h) rfl FQ D5 f0 fun a6 FP=>?_
  refine fD (g:=g) (n:=15) (v0:=u32 x.2) hF rfl (by intro c h;cases h) rfl FP D5 (show u32 x.2=u32 x.2 from rfl) fun a7 JC=>?_
  have hlen:(cJ es m seen).length=(cJ es m seen').length+1:=by rw[hp.length_eq];rfl
  have hlt:ss.length<m.length:=by
   have:=dI.length_eq
   simp only[List.length_append,List.length_map]at this⊢
   omega
  obtain⟨fn,tmps,assign,body,hy,hR⟩:=hY _ x.2 A _ w2 hG hlt D5
  refine wpListIn_plain rfl fun K hK=>⟨fun _ _=>trivial,?_⟩
  rw[Oper.semAt_eq _ _ _ (by intro c h;cases h),JC.eval]
  have hex:∀F7:Fr,F7=bc (bc (bc (bc (bc (bc (bc fr (some 7) (.tuple #[.bool true,e.key,e.val])) (some 8) (.bool true)) (some 9) (.tuple #[e.key,e.val])) (some 10) (u32 x.2)) (some 4) (u32 x.2)) (some 11) (.func (.yield l) #[] #[])) (some 12) (u32 x.2)→(execOp (ev F7) (dJ VF 3 2)).run Tryz.prog w2=.ok (.round l fn tmps assign body) w2:=fun F7 Qc=>by
   have v11:ev F7 (.tmp 11)=.func (.yield l) #[] #[]:=by rw[Qc];rfl
   have QK:ev F7 (.tmp 12)=u32 x.2:=by rw[Qc];rfl
   have Ly:execOp (ev F7) (dJ VF 3 2)=(do let d ←resolve (ev F7) {callee:=.value (.tmp 11),args:=#[.tmp 12],argTypes:=#[110]} 4;invoke d.target d.args):=rfl
   rw[Ly]
   simp[resolve,Deferred.ofValue,v11,QK,invoke,go_sem,hy]
  refine(congrArg (Oper.uponIn Fence.wide 0 Tryz.prog (dJ VF 3 2) a7 K _) (hex _ rfl)).mpr ⟨fun h=>(by cases h),hR.mono ?_⟩
  rintro e' w3 ⟨rfl,A',Sb,PD⟩
  refine hK _ _ ?_
  have RV:=JC.put (d:=some 13) rfl (.bool true)
  refine fD (g:=g) (n:=15) (v0:=.bool false) hF rfl (by intro c h;cases h) rfl RV PD ⟨_,rfl,rfl⟩ fun a9 P1=>?_
  refine wpListIn_nil ?_
  refine wpIn_cond_false (by rw[P1.eval];rfl) ?_
  refine wpIn_skip ?_
  refine⟨(cJ es m seen').length,by omega,_,ss++[x.2],A',seen',P1,f0,f6,Sb,PD,?_,rfl⟩
  rw[List.append_assoc]
  exact((hp.map Prod.snd).append_left ss).symm.trans dI
end
end Go.Proofs
set_option maxRecDepth 100000
namespace Go.Proofs
open Go Go.Sx
open av
section
noncomputable abbrev AF:Func:=Tryz.f405
variable {f:FuncId} {cap:Array Value} {B:Hp} {N:Nat} {S:List Nat→Prop}
noncomputable def bZ:Code:=match AF.body with|some (.seq _ (.seq (.seq _ (.block _ (.rangeFunc _ _ c _))) _))=>c|_=>.skip
noncomputable def c5:Code:=match AF.body with|some (.seq _ (.seq (.seq _ (.block _ (.rangeFunc _ _ _ c))) _))=>c|_=>.skip
noncomputable def Gn(i:Nat):Oper:=match c5 with| .block _ (.region _ ops _)=>(match ops[i]? with|some o=>o|none=>default)|_=>default
def gF(fn:FuncId)(tmps:Array Value)(assign body:Code)(D:Nat):Loop:={state:=.ready,pending:=none,fn,tmps,params:=#[7],assign,body,defers:=D}
def Pc(l D bs:Nat)(fn:FuncId)(tmps:Array Value)(assign body:Code)(ss:List Nat)(A:Hp):Prop:=
 ∃v C',A=(l,.loop (gF fn tmps assign body D))::(D,.deferred (some []))::(bs,.cells #[v] 194 (0,0))::C'∧aN 110 .u32 v (iw ss) C'
theorem DO{g:Gh}{l D bs:Nat}{fn:FuncId}{tmps:Array Value}{fr:Fr}(hsz:tmps.size=13)(fK:∀s,tmps.getD s undef=fr s)(f2:fr 2=ptr bs){ss:List Nat}{x:Nat}{A X:Hp}{W:World}
 (hG:Pc l D bs fn tmps bZ c5 ss A)(hl:ss.length<1099511627776)(hW:Own g (A++X) W):
  YieldAt Fence.wide 0 Tryz.prog l #[u32 x] W (fun e W'=>e=.returned (.bool true)∧∃A',Pc l D bs fn tmps bZ c5 (ss++[x]) A'∧Own g (A'++X) W'):=by
 obtain⟨v,C',rfl,ho⟩:=hG
 have hF:∀f,(Fence.wide.inRound l).fn f:=fun _=>trivial
 have hL:W.heap[l]? =some (.loop (gF fn tmps bZ c5 D)):=hW.has _ (.head _)
 refine⟨fn,_,bZ,c5,run_yield hL rfl,roundIn_of_wpIn trivial ?_⟩
 have ha:tO [] 13 {tmps:=tmps.setIfInBounds 7 (u32 x),defers:=[]} (bc fr (some 7) (u32 x)):=(tO.put (a:={tmps:=tmps,defers:=[]}) (d:=some 7) ⟨rfl,hsz,fK⟩ rfl (u32 x))
 have ha:tO [] 13 {tmps:=(#[7].zip #[u32 x]).foldl (fun tmps (t,a)=>tmps.setIfInBounds t a) tmps,defers:=[]} (bc fr (some 7) (u32 x)):=by simpa using ha
 change Code.wpIn _ 0 Tryz.prog (.region _ #[_] false) _ _ _
 refine wpIn_region_lit ?_
 refine fD (g:=g) (n:=13) (v0:=u32 x) hF rfl (by intro c h;cases h) rfl ha hW rfl fun a1 s6=>?_
 refine wpListIn_nil ?_
 have RT:=run_beginRound (P:=Tryz.prog) hL rfl
 refine⟨_,RT,?_⟩
 have Hf:=hW.putObj (o':=.loop {gF fn tmps bZ c5 D with state:=.busy}) (.head _)
 change Code.wpIn _ 0 Tryz.prog (.block _ (.region _ #[_,_,_,_,_] false)) _ _ _
 refine wpIn_block ?_
 refine wpIn_region_lit ?_
 obtain⟨H1,OM⟩:∃H1,H1=(l,Obj.loop {gF fn tmps bZ c5 D with state:=.busy})::(((D,.deferred (some []))::(bs,.cells #[v] 194 (0,0))::C')++X):=⟨_,rfl⟩
 replace Hf:Own g H1 (W.putObj l (.loop {gF fn tmps bZ c5 D with state:=.busy})):=by rw[OM];exact Hf
 have e0:tT Tryz.prog g (Gn 0) (ev (bc (bc fr (some 7) (u32 x)) (some 5) (u32 x))) H1 (fun z=>z=v)=Ld H1 (fr 2) (fun z=>z=v):=by kernel_rfl
 refine fD (g:=g) (n:=13) (v0:=v) hF rfl (by intro c h;cases h) rfl s6 Hf (e0.mpr (by rw[f2];exact Ld.mk (by rw[OM];exact .tail _ (.tail _ (.head _))) rfl rfl)) fun a2 tZ=>?_
 refine fD (g:=g) (n:=13) (v0:=u32 x) hF rfl (by intro c h;cases h) rfl tZ Hf rfl fun a3 z6=>?_
 have eb:∀K:Value→Hp→Prop,ak Tryz.prog 194 1 [(0,.int .u32 (x:Int))] H1 K=D4 Tryz.prog g (Gn 2) (ev (bc (bc (bc (bc fr (some 7) (u32 x)) (some 5) (u32 x)) (some 8) v) (some 9) (u32 x))) H1 K (fun _ _=>False):=fun K=>by kernel_rfl
 refine Bo (g:=g) (n:=13) (s:=_) (K:=fun v H=>∃b,v=.slice (some ⟨b,0,none⟩) 1 1∧H=(b,.cells (au .u32 [(x:Int)]) 110 (0,0))::H1) hF rfl (by intro c h;cases h) rfl z6 Hf rfl
  ((eb _).mp (ak.int (by kernel_rfl) (by kernel_rfl) (by kernel_rfl) fun b=>⟨b,rfl,rfl⟩)) fun v1 H2 w2 a4 hv K8 FR=>?_
 obtain⟨b,rfl,rfl⟩:=hv
 have hn:(iw ss).length=ss.length:=aC ss
 obtain⟨H2,Qb⟩:∃H2,H2=(b,Obj.cells (au .u32 [(x:Int)]) 110 (0,0))::H1:=⟨_,rfl⟩
 rw[←Qb]at K8
 refine Bo (g:=g) (n:=13) (s:=_) (K:=fun v' H=>∃C2,aN 110 .u32 v' (iw (ss++[x])) C2∧H=(b,Obj.cells (au .u32 [(x:Int)]) 110 (0,0))::(l,Obj.loop {gF fn tmps bZ c5 D with state:=.busy})::(D,.deferred (some []))::(bs,.cells #[v] 194 (0,0))::(C2++X))
  hF rfl (by intro c h;cases h) rfl FR K8 (by simp only[execOp,resolve,invoke,builtin];simp[bind,Sem.bind];rfl) ?_ fun v2 H3 w3 a5 hv FT FQ=>?_
 ·have e1:∀K:Value→Hp→Prop,App Tryz.prog 110 1 4 (.int .u32 0) H2 v (.slice (some ⟨b,0,none⟩) 1 1) K=
   D4 Tryz.prog g (Gn 3) (ev (bc (bc (bc (bc (bc fr (some 7) (u32 x)) (some 5) (u32 x)) (some 8) v) (some 9) (u32 x)) (some 10) (.slice (some ⟨b,0,none⟩) 1 1))) H2 K (fun _ _=>False):=fun K=>by kernel_rfl
  refine(e1 _).mp ?_
  rw[Qb,OM]
  refine ho.pK (.cons (.cons (.cons (.cons .left)))) (by exact .head _) (by omega) (by omega) fun v' C2 yq=>⟨C2,?_,rfl⟩
  rw[bQ];exact yq
 obtain⟨C2,yq,rfl⟩:=hv
 have es:∀(H:Hp) (K:Value→Hp→Prop),St 1 H (fr 2) v2 (fun H'=>K undef H')=D4 Tryz.prog g (Gn 4) (ev (bc (bc (bc (bc (bc (bc fr (some 7) (u32 x)) (some 5) (u32 x)) (some 8) v) (some 9) (u32 x)) (some 10) (.slice (some ⟨b,0,none⟩) 1 1)) (some 11) v2)) H K (fun _ _=>False):=fun H K=>by kernel_rfl
 refine JT (g:=g) (n:=13) (s:=_) (K:=fun _ H=>H=(b,Obj.cells (au .u32 [(x:Int)]) 110 (0,0))::(l,Obj.loop {gF fn tmps bZ c5 D with state:=.busy})::(D,.deferred (some []))::(bs,.cells #[v2] 194 (0,0))::(C2++X))
  hF rfl (by intro c h;cases h) rfl FQ FT rfl ((es _ _).mp ?_) fun H4 w4 a6 hv Mu FP=>?_
 ·rw[f2]
  exact St.one (.tail (.tail (.tail (.head _)))) yq.one (by simp) rfl rfl
 subst hv
 refine wpListIn_nil ?_
 simp only[Exit.inBlock,roundPost]
 refine⟨_,_,run_endRound none (Mu.has _ (.tail _ (.head _))),rfl,_,⟨v2,C2,rfl,yq⟩,?_⟩
 exact(Mu.putObj (.tail (.head _))).tail
theorem Av(hg:y3 Tryz.prog f cap B u32 N S)(hc:aS Tryz.prog f=true)(hN:N≤1099511627776):
  Fc Tryz.prog 405 #[.slice none 0 0,.func (.func f) #[] cap] B (fun v H=>∃ss C',S ss∧H=C'++B∧aN 110 .u32 v (iw ss) C'):=by
 intro g w hw
 rw[←callsIn_wide (n:=0)]
 have hF:∀f,Fence.wide.fn f:=fun _=>trivial
 refine callsIn_of_wp_marks Tryz.func405 rfl trivial ?_
 have ha:=oV (m:=13) (args:=[.slice none 0 0,.func (.func f) #[] cap]) (by simp)
 refine wpIn_seq ?_
 refine wpIn_region_lit ?_
 refine Bo (g:=g) (n:=13) (s:=_) (K:=fun v H=>∃bs,v=ptr bs∧H=(bs,.cells #[.slice none 0 0] 194 (0,0))::B) hF rfl (by intro c h;cases h) rfl ha hw rfl (fun bs _=>⟨bs,rfl,rfl⟩) fun v H1 w1 a1 hv kO s6=>?_
 obtain⟨bs,rfl,rfl⟩:=hv
 refine fD (g:=g) (n:=13) (v0:=.slice none 0 0) hF rfl (by intro c h;cases h) rfl s6 kO rfl fun a2 tZ=>?_
 refine wpListIn_nil ?_
 refine wpIn_seq ?_
 refine wpIn_seq ?_
 refine wpIn_region_lit ?_
 refine fD (g:=g) (n:=13) (v0:=.func (.func f) #[] cap) hF rfl (by intro c h;cases h) rfl tZ kO rfl fun a3 z6=>?_
 refine wpListIn_nil ?_
 refine wpIn_block ?_
 refine wpIn_rangeFunc fun fn hfn=>?_
 have zN:=(kO.alloc (.deferred (some []))).alloc (.loop (gF fn a3.tmps bZ c5 w1.heap.size))
 have f6:a3.tmps[6]?.getD undef=.func (.func f) #[] cap:=by have:=z6.get 6;rw[Array.getD_eq_getD_getElem?]at this;exact this
 obtain⟨W1,Hf⟩:∃W1,W1=(w1.alloc (.deferred (some []))).alloc (.loop (gF fn a3.tmps bZ c5 w1.heap.size)):=⟨_,rfl⟩
 rw[←Hf]at zN
 refine⟨w1.heap.size+1,[{target:=.collected w1.heap.size,args:=#[]}],W1,{target:=.fn (.func f) cap,args:=#[.func (.yield (w1.heap.size+1)) #[] #[]]},W1,f,#[.func (.yield (w1.heap.size+1)) #[] #[]]++cap,W1,?_,?_,fun _ _=>trivial,?_,fun h=>(by cases h),?_⟩
 ·rw[Hf];exact run_enterLoop_outer fn a3.tmps #[7] _ _
 ·simp[resolve,Deferred.ofValue,f6,go_sem]
 ·simp[invoke,go_sem]
  exact cY hc _ _
 have hsz:(w1.alloc (.deferred (some []))).heap.size=w1.heap.size+1:=by simp
 rw[hsz]at zN
 refine CallsIn.mono (hg g (w1.heap.size+1) (Pc (w1.heap.size+1) w1.heap.size bs fn a3.tmps bZ c5) (fun ss x A X W hG hl hW=>DO z6.size z6.get rfl hG (by omega) hW) [_,_,_] W1 ⟨_,[],rfl,aN.nil⟩ zN) ?_
 rintro e W2 ⟨⟨v0,rfl⟩,ss,A',hS,⟨v,C',rfl,ho⟩,K8⟩
 refine⟨none,_,run_endLoop (K8.has _ (.head _)) (by simp[gF]),?_⟩
 have FT:=K8.putObj (o':=.loop {gF fn a3.tmps bZ c5 w1.heap.size with state:=.exhausted}) (.head _)
 simp only[Exit.then,Exit.inBlock]
 have FR:tO [{target:=.collected w1.heap.size,args:=#[]}] 13 {a3 with defers:=[{target:=.collected w1.heap.size,args:=#[]}]++a3.defers} (bc (bc (bc (fH [.slice none 0 0,.func (.func f) #[] cap] 0) (some 2) (ptr bs)) (some 4) (.slice none 0 0)) (some 6) (.func (.func f) #[] cap)):=
  ⟨by rw[z6.defers];rfl,z6.size,z6.get⟩
 refine wpIn_seq ?_
 refine wpIn_region_lit ?_
 obtain⟨H3,OL⟩:∃H3,H3=(w1.heap.size+1,Obj.loop {gF fn a3.tmps bZ c5 w1.heap.size with state:=.exhausted})::(((w1.heap.size,.deferred (some []))::(bs,.cells #[v] 194 (0,0))::C')++B):=⟨_,rfl⟩
 replace FT:Own g H3 (W2.putObj (w1.heap.size+1) (.loop {gF fn a3.tmps bZ c5 w1.heap.size with state:=.exhausted})):=by rw[OL];exact FT
 have e0:tT Tryz.prog g (dJ AF 4 0) (ev (bc (bc (bc (fH [.slice none 0 0,.func (.func f) #[] cap] 0) (some 2) (ptr bs)) (some 4) (.slice none 0 0)) (some 6) (.func (.func f) #[] cap))) H3 (fun z=>z=v)=Ld H3 (ptr bs) (fun z=>z=v):=by kernel_rfl
 refine fD (g:=g) (n:=13) (v0:=v) hF rfl (by intro c h;cases h) rfl FR FT (e0.mpr (Ld.mk (by rw[OL];exact .tail _ (.tail _ (.head _))) rfl rfl)) fun a5 FQ=>?_
 refine fD (g:=g) (n:=13) (v0:=v) hF rfl (by intro c h;cases h) rfl FQ FT rfl fun a6 FP=>?_
 refine wpListIn_nil ?_
 refine wpIn_ret ?_
 simp only[Exit.then,bodyPostM]
 rw[FP.defers]
 rw[OL]at FT
 refine⟨by simp,.inl ⟨w1.heap.size,_,rfl,run_takeDeferred (FT.has _ (.tail _ (.head _))),?_⟩⟩
 have Mu:=FT.putObj (o':=.deferred none) (.tail (.head _))
 refine⟨_,results_tmp rfl _ _ _,C'++B,Mu.tail.tail.tail,v,C'++B,?_,.refl _,ss,C',hS,rfl,ho⟩
 have:=FP.get 4
 rw[this]
 rfl
end
section
variable {f:FuncId} {cap:Array Value} {B:Hp} {N:Nat} {S:List Nat→Prop}
theorem uZ(hg:y3 Tryz.prog f cap B u32 N S)(hc:aS Tryz.prog f=true)(hN:N≤1099511627776):
  Fc Tryz.prog 400 #[.func (.func f) #[] cap] B (fun v H=>∃ss C',S ss∧H=C'++B∧aN 110 .u32 v (iw ss) C'):=by
 refine aP fun g=>vJ ?_
 refine ae.fq (Av hg hc hN) ?_
 rintro v H h
 exact aZ.here h
theorem yb{l':List Int}{ss:List Nat}(h:l'.Perm (iw ss)):∃l:List Nat,l.Perm ss∧l'=iw l:=by
 refine⟨l'.map Int.toNat,?_,?_⟩
 ·have:=h.map Int.toNat
  rw[iw,List.map_map]at this
  have e:(Int.toNat∘(Nat.cast:Nat→Int))=id:=by funext x;simp
  rw[e,List.map_id]at this
  exact this
 ·unfold iw
  rw[List.map_map]
  have:∀x∈l',((Nat.cast:Nat→Int)∘Int.toNat) x=x:=fun x hx=>by
   obtain⟨n,_,rfl⟩:=List.mem_map.1 (h.mem_iff.1 hx)
   simp
  rw[List.map_congr_left this,List.map_id']
theorem zf(hg:y3 Tryz.prog f cap B u32 N S)(hS:∀ss,S ss→ss.length≤N)(hc:aS Tryz.prog f=true)(hN:N≤1099511627776):
  Fc Tryz.prog 391 #[.func (.func f) #[] cap] B (fun v H=>∃ss l C',S ss∧l.Perm ss∧H=C'++B∧aN 110 .u32 v (iw l) C'):=by
 refine aP fun g=>vL ?_
 refine ae.fq (uZ hg hc hN) ?_
 rintro v H ⟨ss,C',hs,rfl,ho⟩
 have hlen:=hS ss hs
 refine ae.fn (.left (A:=B)) (ED ho (by rw[aC];omega)) ?_
 rintro w C2 ⟨rfl,l',hp,bO⟩
 obtain⟨l,hl,rfl⟩:=yb hp
 exact aZ.here ⟨ss,l,C2,hs,hl,rfl,bO⟩
end
theorem EP{pt n v:Nat}{T:Nd→Option Nat}{C:Hp}(h:jd pt n T C)(hv:v<n)(hinj:∀d d' r,T d=some r→T d'=some r→d=d')(hb:∀d r,T d=some r→r<1048576):
  Fc Tryz.prog 366 #[ptr pt,.int .i64 (v:Int)] C (fun r H=>∃w l N,r=.tuple #[w,.int .i64 0]∧H=N++C∧aN 110 .u32 w (iw l) N∧l.Nodup∧∀r,r∈l↔∃d,T d=some r∧d.v=v):=by
 have h0:=h
 obtain⟨vs,Cs,ms,rfl,hs,ho⟩:=h
 obtain⟨m,hm⟩:∃m,ms[v]? =some m:=⟨_,List.getElem?_eq_getElem (by rw[ho.len];exact hv)⟩
 have he:=ho.gg v m hm
 have hT:∀d:Nd,d.v=v→T d=aJ m.l d:=fun d hd=>by rw[ho.T,hd,hm];rfl
 have hmem:∀d r,(d,r)∈m.l↔T d=some r∧d.v=v:=fun d r=>by
  constructor
  ·intro hx
   have hd:=ho.var v m hm _ hx
   exact⟨by rw[hT d hd];exact(cR he.nd).2 hx,hd⟩
  ·rintro⟨h1,h2⟩
   rw[hT d h2]at h1
   exact(cR he.nd).1 h1
 have fI:(m.l.map Prod.snd).Nodup:=by
  refine List.pairwise_map.2 ((List.pairwise_map.1 he.nd).imp_of_mem fun{a b} ha hb' hne e=>hne ?_)
  have h1:=((hmem a.1 a.2).1 ha).1
  have h2:=((hmem b.1 b.2).1 hb').1
  rw[←e]at h2
  exact hinj _ _ _ h1 h2
 have hlen:m.l.length≤1048576:=by
  have:=bE (l':=List.range 1048576) fI fun x hx=>by
   obtain⟨y,hy,rfl⟩:=List.mem_map.1 hx
   exact List.mem_range.2 (hb _ _ ((hmem y.1 y.2).1 hy).1)
  simpa using this
 refine aP fun g=>vP ?_
 refine ae.eq (gn h0 hv) ?_
 refine aa.eP (Br.F ?_)
 refine Nil.ptr ?_
 refine ag.mk (Ld.mk zM rfl ?_)
 refine hs.GK (x:=.map (some m.b)) (by rw[List.getElem?_map,hm];rfl) (fun _ h=>by exact .tail _ (List.mem_append_left _ h)) ?_
 refine ae.fq (zb (b:=m.b) _) ?_
 rintro w H ⟨bm,rfl,rfl⟩
 obtain⟨X,Y,RW⟩:=List.append_of_mem (k9 hm)
 have dI:((bm,Obj.cells #[.map (some m.b)] 167 (0,0))::(pt,.cells #[vs] 166 (0,0))::(Cs++zz ms)).Perm
   ([(bm,.cells #[.map (some m.b)] 167 (0,0)),(m.b,.map m.es m.ck)]++((pt,.cells #[vs] 166 (0,0))::(Cs++(X++Y)))):=by
  rw[RW]
  refine .cons _ ?_
  show((pt,_)::(Cs++(X++(m.b,_)::Y))).Perm ((m.b,_)::(pt,_)::(Cs++(X++Y)))
  refine .trans (.cons _ ?_) (.swap _ _ _)
  rw[←List.append_assoc,←List.append_assoc]
  exact List.perm_middle
 refine ae.pre (.perm dI) ?_
 refine ae.fq (zf (uf he) (fun ss Nz=>by rw[Nz.length_eq,List.length_map];exact Nat.le_refl _) (by kernel_rfl) (by omega)) ?_
 rintro w H ⟨ss,l,C',Nz,hl,rfl,hown⟩
 have jC:l.Perm (m.l.map Prod.snd):=hl.trans Nz
 refine aZ.mk (jQ:=C'++((pt,.cells #[vs] 166 (0,0))::(Cs++zz ms))) ?_ ⟨w,l,C',rfl,rfl,hown,jC.nodup_iff.2 fI,fun r=>?_⟩
 ·rw[List.append_assoc]
  refine aR.dx ?_ C'
  exact(aR.perm dI.symm).trans .tail
 ·rw[jC.mem_iff,List.mem_map]
  constructor
  ·rintro⟨y,hy,rfl⟩;exact⟨y.1,(hmem y.1 y.2).1 hy⟩
  ·rintro⟨d,hd⟩;exact⟨(d,r),(hmem d r).2 hd,rfl⟩
end Go.Proofs
namespace Go.Sx
open Go
section
variable {P:Program} {g:Gh} {H:Hp} {κ β:Type} [DecidableEq κ] {ke:κ→Value} {vr:Value→β→Prop} {es:Array MapEntry} {ck b:Nat} {m:List (κ×β)} {K:Value→Hp→Prop} {KP:List PanicEntry→Hp→Prop}
omit [DecidableEq κ] in
theorem aE.sameKey(h:aE ke vr es ck m){i:Nat}{k:κ}{x:β}(hi:m[i]? =some (k,x)):es.modify i (fun e=>{e with key:=ke k})=es:=by
 apply Array.ext_getElem?
 intro j
 rw[Array.getElem?_modify]
 split
 ·rename_i e;subst e
  cases he:es[i]? with
  |none=>rfl
  |some e0=>rw[Option.map_some,←(h.key i e0 _ he hi).1]
 ·rfl
theorem aE.Gd{o:Oper}{ρ:Operand→Value}{t kt e:TypeId}{kd:TypeDesc}{mo ko:Operand}{z:Value}{k:κ}{y0:β}(hk:∀a b,xQ P kt (ke a) (ke b) (decide (a=b)))(hc:∀a,jR P kt (ke a))(hb:∀a,Instr.sameBits 10000 (ke a) (ke a)=true)
 (ho:o.op=.mapEntry t mo ko)(hm':ρ mo=.map (some b))(hk':ρ ko=ke k)(ht:P.underlying t=some (.map kt e))(sZ:P.underlying kt=some kd)(K7:bM kd=true)(hzd:ed P e=some z)(Q6:vr z y0)
 (h:aE ke vr es ck m){c:Obj→Hp}(CQ:∀o o',ct b o o' (c o) (c o'))
 (h1:∀es' cg v st,aE ke vr es' cg (if k∈m.map Prod.fst then m else m++[(k,y0)])→(∃e∈es'.toList,e.born=st)→K (.tuple #[v,.int .i64 (st:Int)]) (c (.map es' cg))):jg P g o ρ (c (.map es ck)) K KP:=by
 have D9:(b,Obj.map es ck)∈c (.map es ck):=(CQ _ (.map es ck)).mem
 obtain⟨i,hi,pG⟩:=bV hzd
 refine jg.ofValue (s:=Instr.mapEntry t (.map (some b)) (ke k)) (by simp only[execOp,ho,hm',hk']) fun w hw=>?_
 have cX:=fun b=>hc k b w
 rcases h.td hk k with⟨j,x,e0,g1,g2,g3,g4⟩|⟨g1,g2⟩
 ·have m5:=dN (P:=P) sZ K7 g4 w
  have hj:=(Array.getElem?_eq_some_iff.1 g1).1
  have hkey:es[j].key=ke k:=(h.key j _ _ (Array.getElem?_eq_getElem hj) g2).1
  have hmem:k∈m.map Prod.fst:=List.mem_map.2 ⟨_,List.mem_of_getElem? g2,rfl⟩
  obtain⟨w',hs,hown⟩:=bj (P:=P) hw (es.modify j fun e=>{e with key:=ke k}) ck (by rw[h.sameKey g2];exact CQ _ (.map es ck))
  refine⟨.tuple #[e0.val,.int .i64 (es[j].born:Int)],w',_,?_,hown,h1 es ck e0.val es[j].born (by rw[if_pos hmem];exact h) ⟨es[j],by simp,rfl⟩⟩
  simp[Instr.mapEntry,run_underlying ht,aG hw D9,cX,m5,hj,Instr.keyThatStays,hkey,hb k,hs,goInt]
 ·have m5:=dN (P:=P) sZ K7 g2 w
  obtain⟨w',hs,hown⟩:=bj (P:=P) hw (es.push {key:=ke k,val:=z,born:=ck}) (ck+1) (CQ _ _)
  have nu:=h.more (k:=k) g1 Q6
  have e2:eR m k y0=m++[(k,y0)]:=by unfold eR;rw[if_neg g1]
  rw[e2]at nu
  refine⟨.tuple #[z,.int .i64 (ck:Int)],w',_,?_,hown,h1 _ _ z ck (by rw[if_neg g1];exact nu) ⟨_,by rw[Array.toList_push];exact List.mem_append_right _ (.head _),rfl⟩⟩
  simp[Instr.mapEntry,run_underlying ht,aG hw D9,cX,m5,cQ hi pG,hs,goInt]
omit [DecidableEq κ] in
theorem aE.EB{o:Oper}{ρ:Operand→Value}{t:TypeId}{mo so xo:Operand}{st:Nat}(ho:o.op=.entryStore t mo so xo)(hm':ρ mo=.map (some b))(hs':ρ so=.int .i64 (st:Int))
 (h:aE ke vr es ck m)(hst:∃e∈es.toList,e.born=st)(hv:∀x,vr (ρ xo) x){c:Obj→Hp}(CQ:∀o o',ct b o o' (c o) (c o'))
 (h1:∀es',aE ke vr es' ck m→K undef (c (.map es' ck))):jg P g o ρ (c (.map es ck)) K KP:=by
 have D9:(b,Obj.map es ck)∈c (.map es ck):=(CQ _ (.map es ck)).mem
 refine jg.mz (s:=Instr.entryStore t (.map (some b)) (.int .i64 (st:Int)) (ρ xo)) (by simp only[execOp,ho,hm',hs']) fun w hw=>?_
 obtain⟨i,hi⟩:∃i,es.findIdx? (fun e=>(e.born:Int)==(st:Int))=some i:=by
  obtain⟨e,he,rfl⟩:=hst
  rw[←Option.isSome_iff_exists,Array.findIdx?_isSome]
  rw[Array.any_eq_true']
  exact⟨e,by simpa using he,by simp⟩
 obtain⟨w',hs,hown⟩:=bj (P:=P) hw (es.modify i fun e=>{e with val:=ρ xo}) ck (CQ _ _)
 have PY:((es.modify i fun e=>{e with val:=ρ xo}).toList.map MapEntry.born)=es.toList.map MapEntry.born:=by
  apply List.ext_getElem?;intro j
  simp only[List.getElem?_map,Array.getElem?_toList,Array.getElem?_modify]
  split
  ·cases es[j]? <;>rfl
  ·rfl
 refine⟨w',_,?_,hown,h1 _ ⟨by simp[h.len],fun j e x he hx=>?_,h.nd,by rw[PY];exact h.born,fun e he=>?_⟩⟩
 ·simp only[Instr.entryStore,Sem.run_bind,aG hw D9,Result.andThen_ok,asInt,asIntOf,Sem.run_pure]
  simp only[hi,hs]
 ·rw[Array.getElem?_modify]at he
  split at he
  ·cases h0:es[j]? with
   |none=>rw[h0]at he;simp at he
   |some e0=>
    rw[h0]at he
    simp only[Option.map_some,Option.some.injEq]at he
    subst he
    exact⟨(h.key j _ _ h0 hx).1,hv _⟩
  ·exact h.key j _ _ he hx
 ·have:e.born∈(es.modify i fun e=>{e with val:=ρ xo}).toList.map MapEntry.born:=List.mem_map_of_mem he
  rw[PY]at this
  obtain⟨e0,h1,h2⟩:=List.mem_map.1 this
  rw[←h2];exact h.lt e0 h1
end
theorem br.out{C H:Hp}{c:Hp→Hp}(h:br C H c)(N:Hp):aR (c (N++C)) (N++H):=by
 obtain⟨e,F,hp⟩:=h.spec
 refine .perm ((hp (N++C)).trans ?_)
 rw[List.append_assoc]
 refine List.Perm.append_left N ?_
 have:=hp C
 rw[←e]at this
 exact this.symm
end Go.Sx
set_option maxRecDepth 100000
namespace Go.Proofs
open Go Go.Sx
open av
section
variable {kp:Nat} {K:Kd} {ord af tr:List Nat} {C:Hp} {S:Nat→av.Fn}
def rV(N:cN)(r:Nat):Int:=match N r with|some d=>(d.v:Int)|none=> -1
theorem s9{N:cN}{r:Nat}(hl:live N r)(h2:∀d,N r=some d→2≤r):∃lo hi,got N r=[.int .i64 (rV N r),u32 lo,u32 hi]∧∀e,N r=some e→lo=e.lo∧hi=e.hi:=by
 cases h:N r with
 |some d=>
  refine⟨d.lo,d.hi,?_,fun e he=>by cases he;exact⟨rfl,rfl⟩⟩
  rw[dQ h (h2 d h)];simp[bp,rV,h]
 |none=>
  have hr:r<2:=by
   rcases hl with hl|⟨d,hd⟩
   ·exact hl
   ·rw[h]at hd;cases hd
  refine⟨r,r,?_,fun e he=>by cases he⟩
  rw[eC hr];simp[rV,h]
theorem sE(h:bS kp K ord af tr C){r:Nat}(hr:r<4294967296)(hl:live K.N r)(h2:∀d,K.N r=some d→2≤r)(y:Nat):
  Rd Tryz.prog 367 #[ptr kp,u32 r,.int .i64 (y:Int)] C (· =.tuple #[u32 (pl K.N y r),u32 (ph K.N y r)]):=by
 have h0:=h
 obtain⟨b,rfl,hO⟩:=h
 obtain⟨lo,hi,hg,he⟩:=s9 hl h2
 refine aP fun g=>vO ?_
 refine Nil.ptr (ag.mk ?_)
 refine ae.eq (iO h0 hr) ?_
 intro b5 _
 refine St.whole (r:=got K.N r) (by exact .head _) rfl (aQ _ _).1 (aQ _ _).2 ?_
 rw[hg]
 refine Ld.f ?_
 refine aa.iq (Br.dec (fun e=>?_) (fun e=>?_))
 ·refine Ld.f ?_
  refine Ld.f ?_
  cases hN:K.N r with
  |none=>simp[rV,hN]at e<;>omega
  |some d=>
   obtain⟨rfl,rfl⟩:=he d hN
   have hv:d.v=y:=by simp[rV,hN]at e;omega
   obtain⟨e1,e2⟩:=EU hN hv
   exact bC.mk .tail (by rw[e1,e2];rfl)
 ·obtain⟨e1,e2⟩:=EV (N:=K.N) (y:=y) (r:=r) fun d hd=>by simp[rV,hd]at e<;>omega
  exact bC.mk .tail (by rw[e1,e2])
def gJ(c:Cx):List Value:=[u32 c.r,.int .i64 (c.d.v:Int),u32 c.d.lo,u32 c.d.hi,u32 c.pN,u32 c.pM,u32 c.nC,u32 c.nB]
theorem gE(c:Cx):∀x∈gJ c,x.oneCell'=true:=by intro x hx;simp[gJ,u32]at hx;rcases hx with rfl|rfl|rfl|rfl|rfl|rfl|rfl|rfl<;>rfl
structure pR(N:cN)(x y:Nat)(l:List Nat)(all:List Cx):Prop where
 nd:(all.map Cx.r).Nodup
 mem:∀c,c∈all↔c.r∈l∧g9 N x y c.r c.d∧c=iY N y c.r c.d
theorem pR.skip{N:cN}{x y r:Nat}{l:List Nat}{all:List Cx}{d:Nd}(h:pR N x y l all)(hd:N r=some d)(hn:¬g9 N x y r d):pR N x y (l++[r]) all where
 nd:=h.nd
 mem:=fun c=>by
  rw[h.mem,List.mem_append]
  constructor
  ·rintro⟨h1,h2⟩;exact⟨.inl h1,h2⟩
  ·rintro⟨h1|h1,h2,h3⟩
   ·exact⟨h1,h2,h3⟩
   ·simp at h1
    have:=h2.1
    rw[h1,hd]at this;cases this
    rw[h1]at h2;exact absurd h2 hn
theorem pR.more{N:cN}{x y r:Nat}{l:List Nat}{all:List Cx}{d:Nd}(h:pR N x y l all)(hr:r∉l)(hn:g9 N x y r d):pR N x y (l++[r]) (all++[iY N y r d]) where
 nd:=by
  rw[List.map_append]
  refine List.nodup_append.2 ⟨h.nd,by simp,fun a ha b hb e=>?_⟩
  simp[iY]at hb
  subst e
  obtain⟨c,hc,rfl⟩:=List.mem_map.1 ha
  exact hr (hb▸((h.mem c).1 hc).1)
 mem:=fun c=>by
  rw[List.mem_append,h.mem,List.mem_append,List.mem_singleton,List.mem_singleton]
  constructor
  ·rintro(⟨h1,h2⟩|rfl)
   ·exact⟨.inl h1,h2⟩
   ·exact⟨.inr rfl,hn,rfl⟩
  ·rintro⟨h1|h1,h2,h3⟩
   ·exact .inl ⟨h1,h2,h3⟩
   ·right
    have h4:=h2.1
    rw[h1,hn.1]at h4;cases h4
    exact h3.trans (by rw[h1])
theorem pR.all{N:cN}{x y:Nat}{l:List Nat}{all:List Cx}(h:pR N x y l all)(hl:∀r d,N r=some d→d.v=x→r∈l):y5 N x y all where
 nd:=h.nd
 mem:=fun c=>by
  rw[h.mem]
  exact⟨fun h=>h.2,fun h=>⟨hl _ _ h.1.1 h.1.2.1,h⟩⟩
theorem q9(h:bS kp K ord af tr C){r:Nat}(hl:live K.N r)(h2:∀d,K.N r=some d→2≤r){H:Hp}{c:Hp→Hp}(hh:br C H c){g:Gh}{Q:Value→Hp→Prop}{KP:List PanicEntry→Hp→Prop}
 (hk:∀lo hi,got K.N r=[.int .i64 (rV K.N r),u32 lo,u32 hi]→(∀e,K.N r=some e→lo=e.lo∧hi=e.hi)→Q (.agg #[.int .i64 (rV K.N r),u32 lo,u32 hi]) H):ae Tryz.prog g 287 #[ptr kp,u32 r] H Q KP:=by
 have hr:=h.lt hl
 obtain⟨lo,hi,hg,he⟩:=s9 hl h2
 refine ae.eh hh (iO h (by omega)) ?_
 have:=hk lo hi hg he
 rw[hg]
 exact this
theorem rO(h:bS kp K ord af tr C)(hok:Ok K S (lv af)){x y:Nat}(hx:x<K.n):
  Fc Tryz.prog 297 #[ptr kp,.int .i64 (x:Int),.int .i64 (y:Int)] C (fun r H=>∃all Na,H=Na++C∧aI 367 8 r (all.map gJ) Na∧y5 K.N x y all∧all.length≤1048576):=by
 have hcap:=h.cap
 have h0:=h
 obtain⟨b,hC,hO⟩:=h
 have Fx:∀d r,K.T d=some r↔K.N r=some d:=fun d r=>by rw[hok.mid.gK];exact⟨fun h=>h.1,fun h=>⟨h,fun x=>x⟩⟩
 have two:∀{r d},K.N r=some d→2≤r:=fun hd=>(hok.mid.two hd).1
 refine aP fun g=>wm ?_
 rw[hC]
 refine Nil.ptr (ag.mk (ag.mk ?_))
 refine Ld.q ?_
 refine ae.fq (EP hO.ut hx (fun d d' r h1 h2=>by rw[Fx]at h1 h2;rw[h1]at h2;cases h2;rfl) (fun d r h1=>by have:=(hok.mid.two ((Fx d r).1 h1)).2;omega)) ?_
 rintro w H ⟨sl,l,Nr,rfl,rfl,PI,fI,hmem⟩
 refine Ext.two ?_
 refine PI.cP ?_
 rw[aC]
 have hl:∀r∈l,∃d,K.N r=some d∧d.v=x:=fun r hr=>by obtain⟨d,h1,h2⟩:=(hmem r).1 hr;exact⟨d,(Fx d r).1 h1,h2⟩
 have hlen:l.length≤1048576:=by
  have:=bE (l':=List.range 1048576) fI fun r hr=>by
   obtain⟨d,hd,_⟩:=hl r hr
   have:=(hok.mid.two hd).2
   exact List.mem_range.2 (by omega)
  simpa using this
 refine⟨fun vs H=>∃(v:Value) (i:Nat) (all:List Cx) (Na:Hp),vs=[v,.int .i64 (i:Int)]∧H=Na++(Nr++C)∧i≤l.length∧aI 367 8 v (all.map gJ) Na∧pR K.N x y (l.take i) all∧all.length≤i,
  fun vs _=>l.length-ca vs 1,JE.of (br.out (C:=b.CT) (.cons (.app .left)) Nr) ⟨_,0,[],[],rfl,by rw[hC];rfl,Nat.zero_le _,aI.nil _ _,⟨by simp,by simp⟩,Nat.le_refl _⟩,?_⟩
 rintro w w' H ⟨v,i,all,Na,hw,rfl,hi,ho,zY,G9⟩ gs
 simp only[List.cons.injEq,and_true]at hw
 obtain⟨rfl,rfl⟩:=hw
 refine aa.iC (Br.dec (fun hlt=>?_) (fun hge=>?_))
 rotate_left
 ·have:i=l.length:=by omega
  subst this
  rw[List.take_length]at zY
  refine aZ.mk (jQ:=Na++C) ?_ ⟨all,Na,by rw[hC],ho,zY.all fun r d hd hv=>(hmem r).2 ⟨d,(Fx d r).2 hd,hv⟩,by omega⟩
  exact aR.dx .right Na
 obtain⟨r,tX⟩:∃r,l[i]? =some r:=⟨_,List.getElem?_eq_getElem hlt⟩
 have m4:l.take (i+1)=l.take i++[r]:=by rw[List.take_add_one,tX];rfl
 have Mf:r∉l.take i:=fun hm=>by
  have:(l.take (i+1)).Nodup:=fI.sublist (List.take_sublist _ _)
  rw[m4]at this
  exact(List.nodup_append.1 this).2.2 r hm r (by simp) rfl
 obtain⟨d,hd,oz⟩:=hl r (List.mem_of_getElem? tX)
 have IJ:=hok.mid.lo hd
 have IK:=hok.mid.hi hd
 intro Jb uR
 have next:∀v' DU JP,aI 367 8 v' (DU.map gJ) JP→pR K.N x y (l.take (i+1)) DU→DU.length≤i+1→Jb [v'] (JP++(Nr++C)):=fun v' DU JP h1 h2 h3=>
  uR _ _ fun gs=>aa.inc (aB.mk ⟨v',i+1,DU,JP,rfl,rfl,by omega,h1,h2,h3⟩ (by simp[ca];omega))
 refine PI.ld (x:=(r:Int)) (iS tX) (fun y hy=>List.mem_append_right _ (List.mem_append_left _ hy)) ?_
 refine Nil.ptr (ag.mk ?_)
 refine q9 h0 (.inr ⟨d,hd⟩) (fun _ h=>two h) (.app (.app .here)) fun lo hi hg he=>?_
 obtain⟨rfl,rfl⟩:=he d hd
 have Q8:rV K.N r=(x:Int):=by simp[rV,hd,oz]
 rw[Q8]
 intro MK _
 refine St.p (by intro z hz;simp[u32]at hz;rcases hz with rfl|rfl|rfl<;>rfl) ?_
 obtain⟨H0,FX⟩:∃H0,H0=(MK,Obj.cells #[.int .i64 (x:Int),u32 d.lo,u32 d.hi] 226 (0,0))::(Na++(Nr++C)):=⟨_,rfl⟩
 have Sc:((MK,Obj.cells [Value.int .i64 (x:Int),u32 d.lo,u32 d.hi].toArray 226 (0,0))::(Na++(Nr++C)))=H0:=FX.symm
 rw[Sc]
 intro Qv Lo
 have skip:¬g9 K.N x y r d→Qv [.bool true] H0:=fun hn=>Lo _ _ fun gs=>Br.yes (JE.of (by rw[FX];exact .tail) (next w all Na ho (by rw[m4];exact zY.skip hd hn) (by omega)))
 have take:g9 K.N x y r d→Qv [.bool false] H0:=fun hn=>by
  refine Lo _ _ fun gs=>Br.no ?_
  rw[FX]
  refine ay.q ?_
  refine Build.mk (cs:=gJ ⟨r,⟨x,d.lo,d.hi⟩,0,0,0,0⟩) (by kernel_rfl) ?_
  intro T1 _
  refine St.p (gE _) ?_
  refine Ld.f ?_
  refine ae.eq (sE h0 (by have:=h0.lt IJ;omega) IJ (fun _ h=>two h) y) ?_
  refine Ext.two ?_
  refine ag.mk (St.one (by exact .head _) rfl (by simp[gJ]) rfl ?_)
  refine ag.mk (St.one (by exact .head _) rfl (by simp[gJ]) rfl ?_)
  refine Ld.f ?_
  refine ae.eq (sE h0 (by have:=h0.lt IK;omega) IK (fun _ h=>two h) y) ?_
  refine Ext.two ?_
  refine ag.mk (St.one (by exact .head _) rfl (by simp[gJ]) rfl ?_)
  refine ag.mk (St.one (by exact .head _) rfl (by simp[gJ]) rfl ?_)
  have cE:d=⟨x,d.lo,d.hi⟩:=by cases d;simp at oz;subst oz;rfl
  have hcell:gJ (iY K.N y r d)=[u32 r,.int .i64 (x:Int),u32 d.lo,u32 d.hi,u32 (pl K.N y d.lo),u32 (ph K.N y d.lo),u32 (pl K.N y d.hi),u32 (ph K.N y d.hi)]:=by
   simp[gJ,iY,oz]
  refine ay.whole (r:=gJ (iY K.N y r d)) (by rw[hcell];exact .head _) rfl ?_
  refine ak.one (e:=367) (z:=.agg #[.int .u32 0,.int .i64 0,.int .u32 0,.int .u32 0,.int .u32 0,.int .u32 0,.int .u32 0,.int .u32 0]) (k:=8) (r:=gJ (iY K.N y r d)) (by kernel_rfl) (by kernel_rfl) (by kernel_rfl) (by decide) rfl fun xb=>?_
  refine ho.pK (.cons (.cons (.cons .left))) (by exact .head _) rfl (gE _) ⟨_,rfl,rfl⟩ (by simp;omega) (by simp;omega) fun v' JP bO=>?_
  refine JE.of (.skip (.skip .tail)) (next v' (all++[iY K.N y r d]) JP (by rw[List.map_append];exact bO) (by rw[m4];exact zY.more Mf hn) (by simp;omega))
 refine DR.of (R:=[(MK,Obj.cells #[.int .i64 (x:Int),u32 d.lo,u32 d.hi] 226 (0,0))]) (by rw[FX];exact .left (A:=[_])) ?_
 refine Nil.ptr (ag.mk (Ld.f ?_))
 have PV:aR H0 [(MK,Obj.cells #[.int .i64 (x:Int),u32 d.lo,u32 d.hi] 226 (0,0))]:=by rw[FX];exact .left (A:=[_])
 intro F
 rw[FX]
 refine q9 h0 IJ (fun _ h=>two h) (.cons (.app (.app .here))) fun Tw KI PU II=>?_
 rw[←FX]
 refine⟨PV,A7.mk rfl (aa.eP (Br.dec (fun hne=>?_) (fun he=>?_)))⟩
 ·refine Nil.ptr (ag.mk (Ld.f ?_))
  intro F2
  rw[FX]
  refine q9 h0 IK (fun _ h=>two h) (.cons (.app (.app .here))) fun Tv zV PT Jy=>?_
  rw[←FX]
  refine⟨PV,A7.mk rfl (aa.eP (aq.mk ?_))⟩
  by_cases e2:rV K.N d.hi=(y:Int)
  ·rw[decide_eq_false (by simpa using e2)]
   refine JE.mk (take ⟨hd,oz,.inr ?_⟩)
   cases hN:K.N d.hi with
   |none=>simp[rV,hN]at e2<;>omega
   |some f=>exact⟨f,rfl,by simp[rV,hN]at e2;omega⟩
  ·rw[decide_eq_true (by simpa using e2)]
   refine JE.mk (skip ?_)
   rintro⟨_,_,⟨f,hf,IE⟩|⟨f,hf,IE⟩⟩
   ·exact hne (by simp[rV,hf,IE])
   ·exact e2 (by simp[rV,hf,IE])
 ·have e1:rV K.N d.lo=(y:Int):=by simpa using he
  refine JE.mk (take ⟨hd,oz,.inl ?_⟩)
  cases hN:K.N d.lo with
  |none=>simp[rV,hN]at e1<;>omega
  |some f=>exact⟨f,rfl,by simp[rV,hN]at e1;omega⟩
end
end Go.Proofs
set_option maxRecDepth 100000
namespace Go.Proofs
open Go Go.Sx
open av
section
def MT:Value→Int
 | .int _ z=>z
 |_=>0
abbrev MW(v:Value)(z:Int):Prop:=v=.int .i64 z
def oY(es:Array MapEntry)(ck:Nat)(ks:List Nd):Prop:=∃m:List (Nd×Int),aE nK MW es ck m∧m.map Prod.fst=ks
theorem oY.empty:oY #[] 0 []:=⟨[],aE.empty,rfl⟩
theorem oY.of{es:Array MapEntry}{ck:Nat}{m:List (Nd×Int)}(h:aE nK (fun v _=>∃z,v=.int .i64 z) es ck m):oY es ck (m.map Prod.fst):=by
 have hlen:es.toList.length=m.length:=by simpa using h.len
 have hz:((es.toList.zip m).map fun p=>((p.2.1,MT p.1.val):Nd×Int)).map Prod.fst=m.map Prod.fst:=by
  rw[List.map_map]
  have:(Prod.fst∘fun(p:MapEntry×(Nd×Int))=>((p.2.1,MT p.1.val):Nd×Int))=Prod.fst∘Prod.snd:=rfl
  rw[this,←List.map_map,List.map_snd_zip (by omega)]
 refine⟨_,⟨?_,fun i e x he hx=>?_,by rw[hz];exact h.nd,h.born,h.lt⟩,hz⟩
 ·simp[h.len]
 ·have hi:=(Array.getElem?_eq_some_iff.1 he).1
  have zV:i<m.length:=by rw[←h.len];exact hi
  have hm:m[i]? =some m[i]:=List.getElem?_eq_getElem zV
  obtain⟨h1,z,h2⟩:=h.key i e _ he hm
  have hx':x=(m[i].1,MT e.val):=by
   have e1:es.toList[i]? =some e:=by rw[Array.getElem?_toList];exact he
   rw[List.getElem?_map,(List.getElem?_zip_eq_some (z:=(e,m[i]))).2 ⟨e1,hm⟩]at hx
   simpa using hx.symm
  subst hx'
  exact⟨h1,by rw[h2];rfl⟩
theorem Own.sub{g:Gh}{H:Hp}{w:World}(h:Own g H w){y:Nat×Obj}(hy:y∈H):Own g [y] w:=by
 obtain⟨X,Y,rfl⟩:=List.append_of_mem hy
 exact(h.perm List.perm_middle).left (A:=[y])
noncomputable abbrev FF:Func:=Tryz.f298
theorem QL{i:Nat}(hi:i<6):¬BR .any (jL FF 10) i 6:=fun h=>by
 have e6:(jL FF 10)[6]? =some (dJ FF 10 6):=by kernel_rfl
 have:=h _ e6
 have hm:(⟨i,.phase⟩:Edge)∈(dJ FF 10 6).after:=by
  have ea:(dJ FF 10 6).after=#[⟨0,.data⟩,⟨5,.data⟩,⟨3,.data⟩,⟨4,.chain⟩,⟨0,.phase⟩,⟨1,.phase⟩,⟨2,.phase⟩,⟨3,.phase⟩,⟨4,.phase⟩,⟨5,.phase⟩]:=by kernel_rfl
  rw[ea]
  rcases i with _|_|_|_|_|_|i
  all_goals first|omega|simp
 exact this _ hm rfl rfl
end
section
def yO(ops:Array Oper)(listed:Array Bool):Bool:=(List.range ops.size).all fun j=>match ops[j]? with
 |some oj=> !listed.getD j true||oj.after.toList.all fun e=> !Region.binds .any e||listed.getD e.on true
 |none=>true
theorem dS{ops:Array Oper}{listed:Array Bool}(h:yO ops listed=true):cU .any ops listed:=by
 intro j oj hj hl e he hb
 unfold yO at h
 have h1:=List.all_eq_true.1 h j (List.mem_range.2 (Array.getElem?_eq_some_iff.1 hj).1)
 simp only[hj,hl,Bool.not_true,Bool.false_or]at h1
 have h2:=List.all_eq_true.1 h1 e (Array.mem_toList_iff.2 he)
 rw[hb]at h2
 simpa using h2
theorem Fq{g:Gh}{mb nb:Nat}{es:Array MapEntry}{ck:Nat}{ks:List Nd}{d:Nd}(hmk:oY es ck ks){c:Obj→Hp}(CQ:∀o o',ct mb o o' (c o) (c o'))(KR:∀o,(nb,Obj.cells (bp d).toArray 226 (0,0))∈c o){K:Hp→Prop}
 (hk:∀es' cg,oY es' cg (if d∈ks then ks else ks++[d])→K (c (.map es' cg))):
  I7 Tryz.prog g 10 (jL FF 10) [7,11] [.map (some mb),ptr nb] (c (.map es ck)) K:=by
 have hm:(mb,Obj.map es ck)∈c (.map es ck):=(CQ _ (.map es ck)).mem
 have hn:=KR (.map es ck)
 obtain⟨m,hE,rfl⟩:=hmk
 intro a w hok hvs hw
 simp only[List.map_cons,List.map_nil,List.cons.injEq,and_true]at hvs
 obtain⟨h7,OP⟩:=hvs
 obtain⟨n,NN⟩:∃n,n=a.tmps.size:=⟨_,rfl⟩
 obtain⟨fr,hfr⟩:∃fr:Fr,fr=fun s=>a.tmps.getD s undef:=⟨_,rfl⟩
 have ha:bH a.defers n a fr:=⟨rfl,NN.symm,fun s=>by rw[hfr]⟩
 have f7:fr 7=.map (some mb):=by rw[hfr];exact h7
 have f11:fr 11=ptr nb:=by rw[hfr];exact OP
 rw[←NN]at hok
 have Sz:eU n (jL FF 10).toList=(Nat.blt 58 n&& (Nat.blt 59 n&& (Nat.blt 60 n&& (Nat.blt 61 n&& (Nat.blt 62 n&& (Nat.blt 63 n&& (true&&true))))))):=by kernel_rfl
 rw[Sz]at hok
 simp only[Bool.and_eq_true,Bool.and_true]at hok
 obtain⟨QY,QX,QW,QV,QU,QT⟩:=hok
 refine wp_region_any (by kernel_rfl) ?_
 obtain⟨z0,L9⟩:∃z0:Int,z0=(aJ m d).getD 0:=⟨_,rfl⟩
 obtain⟨S0,JD⟩:∃S0:World→Prop,S0=fun w=>Own g [(nb,Obj.cells (bp d).toArray 226 (0,0))] w∧(Instr.lookup 429 (.map (some mb)) (nK d) false).run Tryz.prog w=.ok (.int .i64 z0) w:=⟨_,rfl⟩
 have look:∀{es':Array MapEntry} {cg:Nat} {m':List (Nd×Int)} {H':Hp} {w':World},aE nK MW es' cg m'→(mb,Obj.map es' cg)∈H'→Own g H' w'→(aJ m' d).getD 0=z0→(Instr.lookup 429 (.map (some mb)) (nK d) false).run Tryz.prog w'=.ok (.int .i64 z0) w':=by
  intro es' cg m' H' w' h1 h2 h3 h4
  have hL:gG Tryz.prog 226 (.int .i64 0) false H' (.map (some mb)) (nK d) (· =.int .i64 z0):=by
   cases hg:aJ m' d with
   |some z=>exact aE.Cz (ke:=nK) (k:=d) k8 gR h1 h2 hg (by rintro v rfl;rw[hg]at h4;simp at h4;rw[h4];rfl)
   |none=>exact aE.sM (ke:=nK) (k:=d) k8 gR h1 h2 hg (by rw[hg]at h4;simp at h4;rw[←h4];rfl)
  obtain⟨v,hr,rfl⟩:=hL.run (P:=Tryz.prog) h3 (t:=429) (kt:=226) (e:=3) (kd:=.struct (Tryz.prog.fieldsOf 226)) (i:=(Tryz.prog.info? 3).get (by kernel_rfl)) (by kernel_rfl) ye rfl (by kernel_rfl) (by kernel_rfl)
  exact hr
 have No:=hw.qx
 have s0:S0 {w with drawn:=w.drawn+1}:=by rw[JD];exact⟨Own.sub No hn,look hE hm No L9.symm⟩
 have Lb:∀{o:Oper} {v:Value} (c:List PanicEntry) (a':Act) (w':World),(fun(e:Exit) (a':Act) (w':World)=>e=.normal∧a'.defers=a.defers∧a'.tmps.size=a.tmps.size∧(∀s,aX (jL FF 10).toList s=false→a'.tmps.getD s undef=a.tmps.getD s undef)∧∃H',Own g H' w'∧K H') (.panic c) (a'.put o.dst v) w'→
   (fun(e:Exit) (a':Act) (w':World)=>e=.normal∧a'.defers=a.defers∧a'.tmps.size=a.tmps.size∧(∀s,aX (jL FF 10).toList s=false→a'.tmps.getD s undef=a.tmps.getD s undef)∧∃H',Own g H' w'∧K H') (.panic c) a' w':=by
  rintro _ _ _ _ _ ⟨h,_⟩;cases h
 have hsel:Region.noSelect (jL FF 10)=true:=by kernel_rfl
 have hkeep:∀i,i<6→∀(j:Nat) (oj:Oper) (w w':World),(jL FF 10)[j]? =some oj→j≠i→¬jc .any (jL FF 10) i j→S0 w→(j≠6→S0 w→S0 w')→S0 w':=fun i hi j oj w w' _ _ hno h0 hs=>by
  by_cases e:j=6
  ·subst e;exact absurd (fun oj fc e he hb heq=>hno (.one fc he hb heq)) (QL hi)
  ·exact hs e h0
 refine bT.any (S:=fun j w w'=>j≠6→S0 w→S0 w') ?_
 have hsz:(jL FF 10).size=7:=by kernel_rfl
 rw[hsz]
 refine bT.take (dS (by kernel_rfl)) (S0:=S0) (i:=0) (oi:=dJ FF 10 0) (v:=.map (some mb)) (by kernel_rfl) hsel (by kernel_rfl) (by kernel_rfl) Lb (fun _ h _ _=>h) (hkeep 0 (by decide)) (.inl ⟨rfl,fun w hw=>?_⟩) s0 ?_
 ·rw[ha.eval];have:(execOp (ev fr) (dJ FF 10 0))=pure (.value (fr 7)):=rfl
  rw[this,f7];rfl
 have s6:=ha.put (d:=some 58) QY (.map (some mb))
 change bT _ _ _ _ _ 6 _ (a.put (some 58) (.map (some mb))) _
 refine bT.take (dS (by kernel_rfl)) (S0:=S0) (i:=1) (oi:=dJ FF 10 1) (v:=nK d) (by kernel_rfl) hsel (by kernel_rfl) (by kernel_rfl) Lb (fun _ h _ _=>h) (hkeep 1 (by decide)) (.inl ⟨rfl,fun w hw=>?_⟩) s0 ?_
 ·rw[s6.eval]
  have e:tT Tryz.prog g (dJ FF 10 1) (ev (bc fr (some 58) (.map (some mb)))) [(nb,Obj.cells (bp d).toArray 226 (0,0))] (fun v=>v=nK d)=ay 3 [(nb,Obj.cells (bp d).toArray 226 (0,0))] (fr 11) (fun v=>v=nK d):=by kernel_rfl
  obtain⟨v,rfl,hr,_⟩:=jx (e.mpr (by rw[f11];exact ay.q rfl))
  rw[JD]at hw
  exact hr _ hw.1
 have tZ:=s6.put (d:=some 59) QX (nK d)
 change bT _ _ _ _ _ 5 _ ((a.put (some 58) (.map (some mb))).put (some 59) (nK d)) _
 refine bT.take (dS (by kernel_rfl)) (S0:=S0) (i:=2) (oi:=dJ FF 10 2) (v:=.int .i64 z0) (by kernel_rfl) hsel (by kernel_rfl) (by kernel_rfl) Lb (fun _ h _ _=>h) (hkeep 2 (by decide)) (.inl ⟨rfl,fun w hw=>?_⟩) s0 ?_
 ·rw[tZ.eval]
  have e:execOp (ev (bc (bc fr (some 58) (.map (some mb))) (some 59) (nK d))) (dJ FF 10 2)=(do pure (.value (←Instr.lookup 429 (.map (some mb)) (nK d) false))):=rfl
  rw[JD]at hw
  rw[e]
  simp only[Sem.run_bind,hw.2,Result.andThen_ok,Sem.run_pure]
 have z6:=tZ.put (d:=some 60) QW (.int .i64 z0)
 change bT _ _ _ _ _ 4 _ (((a.put (some 58) (.map (some mb))).put (some 59) (nK d)).put (some 60) (.int .i64 z0)) _
 refine bT.take (dS (by kernel_rfl)) (S0:=S0) (i:=3) (oi:=dJ FF 10 3) (v:=.int .i64 (IntKind.i64.wrap (z0+1))) (by kernel_rfl) hsel (by kernel_rfl) (by kernel_rfl) Lb (fun _ h _ _=>h) (hkeep 3 (by decide)) (.inl ⟨rfl,fun w hw=>?_⟩) s0 ?_
 ·rw[z6.eval]
  have e:tT Tryz.prog g (dJ FF 10 3) (ev (bc (bc (bc fr (some 58) (.map (some mb))) (some 59) (nK d)) (some 60) (.int .i64 z0))) [(nb,Obj.cells (bp d).toArray 226 (0,0))] (fun v=>v=.int .i64 (IntKind.i64.wrap (z0+1)))=aa .num .add (.int .i64 z0) (.int .i64 1) (fun v=>v=.int .i64 (IntKind.i64.wrap (z0+1))):=by kernel_rfl
  obtain⟨v,rfl,hr,_⟩:=jx (e.mpr (aa.add rfl))
  rw[JD]at hw
  exact hr _ hw.1
 have FR:=z6.put (d:=some 61) QV (.int .i64 (IntKind.i64.wrap (z0+1)))
 change bT _ _ _ _ _ 3 _ ((((a.put (some 58) (.map (some mb))).put (some 59) (nK d)).put (some 60) (.int .i64 z0)).put (some 61) (.int .i64 (IntKind.i64.wrap (z0+1)))) _
 generalize (((a.put (some 58) (.map (some mb))).put (some 59) (nK d)).put (some 60) (.int .i64 z0)).put (some 61) (.int .i64 (IntKind.i64.wrap (z0+1)))=a4 at FR
 refine bT.all (rs:=[4]) (by kernel_rfl) (by simp) fun i hi=>?_
 simp only[List.mem_singleton]at hi
 subst hi
 have e4:(jL FF 10)[4]? =some (dJ FF 10 4):=by kernel_rfl
 unfold wpOp
 rw[e4]
 simp only
 rw[if_pos (show Region.wanted (dJ FF 10 4) (yielded (jL FF 10) a4.tmps)=true from rfl)]
 refine .inl ?_
 show(dJ FF 10 4).upon Tryz.prog a4 _ _ ((execOp a4.eval (dJ FF 10 4)).run Tryz.prog _)
 rw[FR.eval]
 refine jj.upon (g:=g) (KP:=fun _ _=>False) (aE.Gd (K:=fun v H'=>∃es' cg v0 st,aE nK MW es' cg (if d∈m.map Prod.fst then m else m++[(d,0)])∧(∃e∈es'.toList,e.born=st)∧H'=c (.map es' cg)∧v=.tuple #[v0,.int .i64 (st:Int)])
  (t:=429) (kt:=226) (e:=3) (z:=.int .i64 0) (k:=d) (y0:=(0:Int)) k8 gR yg (o:=dJ FF 10 4) (mo:=.tmp 58) (ko:=.tmp 59) rfl rfl rfl (by kernel_rfl) ye rfl (by kernel_rfl) rfl hE CQ
  (fun es' cg v st h1 h2=>⟨es',cg,v,st,h1,h2,rfl,rfl⟩) _ No) ?_ (fun _ _ _ _ h=>h.elim)
 rintro v H1 w1 kO ⟨yJ,tw,v0,st,Ls,hst,rfl,rfl⟩
 have PM:(nb,Obj.cells (bp d).toArray 226 (0,0))∈c (.map yJ tw):=KR _
 have tY:(mb,Obj.map yJ tw)∈c (.map yJ tw):=(CQ _ (.map yJ tw)).mem
 have s1:S0 w1:=by
  rw[JD]
  refine⟨Own.sub kO PM,look Ls tY kO ?_⟩
  rw[L9]
  split
  ·rfl
  ·rename_i cE
   have e1:=gw.2 cE
   have e2:aJ (m++[(d,0)]) d=some 0:=(cR (by
    have:=Ls.nd;rw[if_neg cE]at this;exact this)).2 (by simp)
   rw[e1,e2];rfl
 refine⟨fun _ _=>s1,?_⟩
 have FQ:=FR.put (d:=some 62) QU (.tuple #[v0,.int .i64 (st:Int)])
 change bT _ _ _ _ _ 2 _ (a4.put (some 62) (.tuple #[v0,.int .i64 (st:Int)])) _
 generalize a4.put (some 62) (.tuple #[v0,.int .i64 (st:Int)])=a5 at FQ
 refine bT.take (dS (by kernel_rfl)) (S0:=S0) (i:=5) (oi:=dJ FF 10 5) (v:=.int .i64 (st:Int)) (by kernel_rfl) hsel (by kernel_rfl) (by kernel_rfl) Lb (fun _ h _ _=>h) (hkeep 5 (by decide)) (.inl ⟨rfl,fun w hw=>?_⟩) s1 ?_
 ·rw[FQ.eval]
  obtain⟨v,rfl,hr,_⟩:=jx (P:=Tryz.prog) (g:=g) (o:=dJ FF 10 5) (H:=[(nb,Obj.cells (bp d).toArray 226 (0,0))]) (k:=fun v=>v=.int .i64 (st:Int))
   (ρ:=ev (bc (bc (bc (bc (bc fr (some 58) (.map (some mb))) (some 59) (nK d)) (some 60) (.int .i64 z0)) (some 61) (.int .i64 (IntKind.i64.wrap (z0+1)))) (some 62) (.tuple #[v0,.int .i64 (st:Int)]))) ⟨_,_,rfl,rfl,rfl⟩
  rw[JD]at hw
  exact hr _ hw.1
 have FP:=FQ.put (d:=some 63) QT (.int .i64 (st:Int))
 change bT _ _ _ _ _ 1 _ (a5.put (some 63) (.int .i64 (st:Int))) _
 generalize a5.put (some 63) (.int .i64 (st:Int))=a6 at FP
 refine bT.all (rs:=[6]) (by kernel_rfl) (by simp) fun i hi=>?_
 simp only[List.mem_singleton]at hi
 subst hi
 have e6:(jL FF 10)[6]? =some (dJ FF 10 6):=by kernel_rfl
 unfold wpOp
 rw[e6]
 simp only
 rw[if_pos (show Region.wanted (dJ FF 10 6) (yielded (jL FF 10) a6.tmps)=true from rfl)]
 refine .inl ?_
 show(dJ FF 10 6).upon Tryz.prog a6 _ _ ((execOp a6.eval (dJ FF 10 6)).run Tryz.prog _)
 rw[FP.eval]
 refine jj.upon (g:=g) (KP:=fun _ _=>False) (aE.EB (vr:=fun v _=>∃z:Int,v=.int .i64 z) (K:=fun _ H'=>∃es',aE nK (fun v _=>∃z:Int,v=.int .i64 z) es' tw (if d∈m.map Prod.fst then m else m++[(d,0)])∧H'=c (.map es' tw))
  (o:=dJ FF 10 6) (t:=429) (mo:=.tmp 58) (so:=.tmp 63) (xo:=.tmp 61) rfl rfl rfl (Ls.mono fun v z h=>⟨z,h⟩) hst (fun _=>⟨_,rfl⟩) CQ
  (fun es' h1=>⟨es',h1,rfl⟩) _ kO) ?_ (fun _ _ _ _ h=>h.elim)
 rintro v H2 w2 D5 ⟨ud,De,rfl⟩
 refine⟨fun h=>absurd rfl h,?_⟩
 have JC:bH a.defers n a6 _:=FP
 change bT _ _ _ _ _ 0 _ a6 _
 refine bT.done (by kernel_rfl) ⟨rfl,JC.defers,by rw[JC.size,NN],fun s hs=>?_,_,D5,hk ud tw ?_⟩ 0
 ·have eD:aX (jL FF 10).toList s=(Nat.beq s 58||(Nat.beq s 59||(Nat.beq s 60||(Nat.beq s 61||(Nat.beq s 62||(Nat.beq s 63||(false||false))))))):=by kernel_rfl
  rw[eD]at hs
  simp only[Bool.or_eq_false_iff]at hs
  rw[JC.get]
  simp only[bc,hs,cond_false]
  rw[hfr]
 ·have:=oY.of De
  have e:(if d∈m.map Prod.fst then m else m++[(d,(0:Int))]).map Prod.fst=if d∈m.map Prod.fst then m.map Prod.fst else m.map Prod.fst++[d]:=by
   split<;>simp
  rw[e]at this
  exact this
end
section
variable {kp:Nat} {K:Kd} {ord af tr:List Nat} {C:Hp} {S:Nat→av.Fn}
theorem DG{H:Hp}(a b:Nd){K:Value→Hp→Prop}(h:∀x,K (.slice (some ⟨x,0,none⟩) 2 2) ((x,.cells (rows [bp a,bp b]) 226 (0,0))::H)):
  ak Tryz.prog 309 2 [(0,nK a),(1,nK b)] H K:=by
 refine⟨rows [bp a,bp b],226,3,.agg #[.int .i64 0,.int .u32 0,.int .u32 0],by kernel_rfl,by kernel_rfl,by kernel_rfl,by decide,?_,fun x _=>h x⟩
 have e1:Array.range (2*3)=#[0,1,2,3,4,5]:=rfl
 simp[Instr.fill,Value.cells,nK,bp,e1,rows,u32]
def eF(K:Kd)(x:Nat)(l:List Cx)(ks:List Nd)(m:List Nd):Prop:=m.Nodup∧∀k,k∈m↔((∃c∈l,k∈keys x c)∨k∈ks)∧K.T k=none∧k.lo≠k.hi
theorem eF.step{x:Nat}{l:List Cx}{ks m:List Nd}{d:Nd}(h:eF K x l ks m)(hd:K.T d=none∧d.lo≠d.hi):eF K x l (ks++[d]) (if d∈m then m else m++[d]):=by
 obtain⟨h1,h2⟩:=h
 constructor
 ·split
  ·exact h1
  ·rename_i hn
   exact List.nodup_append.2 ⟨h1,by simp,fun a ha b hb e=>by simp at hb;subst hb;subst e;exact hn ha⟩
 ·intro k
  by_cases hm:d∈m
  ·rw[if_pos hm,h2,List.mem_append,List.mem_singleton]
   constructor
   ·rintro⟨h3|h3,h4⟩
    ·exact⟨.inl h3,h4⟩
    ·exact⟨.inr (.inl h3),h4⟩
   ·rintro⟨h3|h3|rfl,h4⟩
    ·exact⟨.inl h3,h4⟩
    ·exact⟨.inr h3,h4⟩
    ·exact(h2 _).1 hm
  ·rw[if_neg hm,List.mem_append,List.mem_singleton,h2,List.mem_append,List.mem_singleton]
   constructor
   ·rintro(⟨h3|h3,h4⟩|rfl)
    ·exact⟨.inl h3,h4⟩
    ·exact⟨.inr (.inl h3),h4⟩
    ·exact⟨.inr (.inr rfl),hd⟩
   ·rintro⟨h3|h3|rfl,h4⟩
    ·exact .inl ⟨.inl h3,h4⟩
    ·exact .inl ⟨.inr h3,h4⟩
    ·exact .inr rfl
theorem eF.skip{x:Nat}{l:List Cx}{ks m:List Nd}{d:Nd}(h:eF K x l ks m)(hd:¬(K.T d=none∧d.lo≠d.hi)):eF K x l (ks++[d]) m:=by
 obtain⟨h1,h2⟩:=h
 refine⟨h1,fun k=>?_⟩
 rw[h2,List.mem_append,List.mem_singleton]
 constructor
 ·rintro⟨h3|h3,h4⟩
  ·exact⟨.inl h3,h4⟩
  ·exact⟨.inr (.inl h3),h4⟩
 ·rintro⟨h3|h3|rfl,h4⟩
  ·exact⟨.inl h3,h4⟩
  ·exact⟨.inr h3,h4⟩
  ·exact absurd h4 hd
theorem eF.qS{x:Nat}{l:List Cx}{c:Cx}{m:List Nd}(h:eF K x l (keys x c) m):eF K x (l++[c]) [] m:=by
 obtain⟨h1,h2⟩:=h
 refine⟨h1,fun k=>?_⟩
 rw[h2]
 constructor
 ·rintro⟨⟨c',hc,hk⟩|h3,h4⟩
  ·exact⟨.inl ⟨c',List.mem_append_left _ hc,hk⟩,h4⟩
  ·exact⟨.inl ⟨c,by simp,h3⟩,h4⟩
 ·rintro⟨⟨c',hc,hk⟩|h3,h4⟩
  ·rcases List.mem_append.1 hc with hc|hc
   ·exact⟨.inl ⟨c',hc,hk⟩,h4⟩
   ·simp at hc;subst hc;exact⟨.inr hk,h4⟩
  ·cases h3
theorem Dl(h:bS kp K ord af tr C){x:Nat}(hx:x<K.n){v:Value}{all:List Cx}{Na:Hp}(ha:aI 367 8 v (all.map gJ) Na)(hlen:all.length≤1048576):
  Rd Tryz.prog 298 #[ptr kp,.int .i64 (x:Int),v] (Na++C) (fun r=>∃made,r=.int .i64 ((made.length:Nat):Int)∧Made K x all made):=by
 have h0:=h
 obtain⟨b,hC,hO⟩:=h
 refine aP fun g=>wk ?_
 intro mb _
 refine ha.cP ?_
 rw[List.length_map]
 refine⟨fun vs H=>∃(i:Nat) (es:Array MapEntry) (ck:Nat) (m:List Nd),vs=[.int .i64 (i:Int)]∧H=(mb,.map es ck)::(Na++C)∧i≤all.length∧oY es ck m∧eF K x (all.take i) [] m,
  fun vs _=>all.length-ca vs 0,JE.mk ⟨0,_,_,[],rfl,rfl,Nat.zero_le _,oY.empty,by simp,by simp⟩,?_⟩
 rintro w H ⟨i,es,ck,m,hw,rfl,hi,hmk,FB⟩ gs
 simp only[List.cons.injEq,and_true]at hw
 subst hw
 refine aa.iC (Br.dec (fun hlt=>?_) (fun hge=>?_))
 rotate_left
 ·have:i=all.length:=by omega
  subst this
  rw[List.take_length]at FB
  obtain⟨m',he,rfl⟩:=hmk
  refine aE.BZ he (.head _) ?_
  refine bC.mk .tail ⟨m'.map Prod.fst,by rw[List.length_map],FB.1,fun k=>?_⟩
  rw[FB.2]
  constructor
  ·rintro⟨h3|h3,h4⟩
   ·exact⟨h3,h4⟩
   ·cases h3
  ·rintro⟨h3,h4⟩;exact⟨.inl h3,h4⟩
 obtain⟨c,mg⟩:∃c,all[i]? =some c:=⟨_,List.getElem?_eq_getElem hlt⟩
 have m4:all.take (i+1)=all.take i++[c]:=by rw[List.take_add_one,mg];rfl
 refine ha.yl (r:=gJ c) (by rw[List.getElem?_map,mg];rfl) (fun y hy=>.tail _ (List.mem_append_left _ hy)) ?_
 intro Qs _
 refine St.p (gE _) ?_
 refine Ld.f ?_
 refine Ld.f ?_
 refine Build.mk (cs:=bp ⟨x,c.pN,c.nC⟩) (by kernel_rfl) ?_
 refine Ld.f ?_
 refine Ld.f ?_
 refine Build.mk (cs:=bp ⟨x,c.pM,c.nB⟩) (by kernel_rfl) ?_
 refine DG _ _ fun xb=>?_
 refine aM.mk ?_
 refine⟨fun vs H=>∃(j:Nat) (es:Array MapEntry) (ck:Nat) (m:List Nd),vs=[.int .i64 (j:Int)]∧H=(xb,.cells (rows [bp ⟨x,c.pN,c.nC⟩,bp ⟨x,c.pM,c.nB⟩]) 226 (0,0))::(mb,.map es ck)::(Na++C)∧j≤2∧oY es ck m∧eF K x (all.take i) ((keys x c).take j) m,
  fun vs _=>2-ca vs 0,JE.of (.cons .tail) ⟨0,es,ck,m,rfl,rfl,Nat.zero_le _,hmk,FB⟩,?_⟩
 clear hmk FB
 rintro w H ⟨j,es,ck,m,hw,rfl,hj,hmk,FB⟩ gs
 simp only[List.cons.injEq,and_true]at hw
 subst hw
 refine aa.iC (b:=2) (Br.dec (fun FC=>?_) (fun hge=>?_))
 rotate_left
 ·have:j=2:=by omega
  subst this
  refine aa.inc ?_
  refine aB.of .tail ⟨i+1,es,ck,m,rfl,rfl,by omega,hmk,?_⟩ (by simp[ca];omega)
  rw[m4]
  exact eF.qS FB
 obtain⟨d,uQ,oz⟩:∃d,(keys x c)[j]? =some d∧d.v=x:=by
  rcases j with _|_|j
  ·exact⟨_,rfl,rfl⟩
  ·exact⟨_,rfl,rfl⟩
  ·omega
 have PF:(keys x c).take (j+1)=(keys x c).take j++[d]:=by rw[List.take_add_one,uQ];rfl
 have hrow:[bp ⟨x,c.pN,c.nC⟩,bp ⟨x,c.pM,c.nB⟩][j]? =some (bp d):=by
  have:[bp ⟨x,c.pN,c.nC⟩,bp ⟨x,c.pM,c.nB⟩]=(keys x c).map bp:=rfl
  rw[this,List.getElem?_map,uQ];rfl
 intro SZ OE
 have next:∀es' cg m' H',oY es' cg m'→eF K x (all.take i) ((keys x c).take (j+1)) m'→aR H' ((xb,.cells (rows [bp ⟨x,c.pN,c.nC⟩,bp ⟨x,c.pM,c.nB⟩]) 226 (0,0))::(mb,.map es' cg)::(Na++C))→JE SZ [] H':=fun es' cg m' H' h1 h2 h3=>
  JE.mk (OE _ fun gs=>aa.inc (aB.of h3 ⟨j+1,es',cg,m',rfl,rfl,by omega,h1,h2⟩ (by simp[ca];omega)))
 refine ai.nat FC ?_
 have hmem:(xb,Obj.cells (rows [bp ⟨x,c.pN,c.nC⟩,bp ⟨x,c.pM,c.nB⟩]) 226 (0,0))∈(xb,Obj.cells (rows [bp ⟨x,c.pN,c.nC⟩,bp ⟨x,c.pM,c.nB⟩]) 226 (0,0))::(mb,.map es ck)::(Na++C):=.head _
 refine ay.row (k:=3) hmem (by simp[bp]) hrow ?_
 intro SI _
 refine St.p (fun z hz=>by simp[bp,u32]at hz;rcases hz with rfl|rfl|rfl<;>rfl) ?_
 refine DR.self ?_
 rw[hC]
 refine Nil.ptr (ag.mk (Ld.f ?_))
 refine ay.q ?_
 refine ae.eq (nJ (d:=d) hO.ut (by rw[oz];exact hx)) ?_
 refine⟨.refl _,Ext.mk rfl (Ext.mk rfl (Un.not ?_))⟩
 have GV:(!(K.T d).isSome)=decide (K.T d=none):=by cases K.T d<;>simp
 rw[GV]
 refine c7.and (decide (d.lo≠d.hi)) (fun _=>?_) rfl fun gs=>?_
 ·refine Ld.f ?_
  refine Ld.f ?_
  exact aa.Jm ⟨rfl,rfl⟩
 rw[←Bool.decide_and]
 rw[←hC]
 refine Br.dec (fun hd=>?_) (fun hd=>?_)
 ·refine Fq hmk (c:=fun o=>(SI,.cells (bp d).toArray 226 (0,0))::(xb,.cells (rows [bp ⟨x,c.pN,c.nC⟩,bp ⟨x,c.pM,c.nB⟩]) 226 (0,0))::(mb,o)::(Na++C)) (fun o o'=>.tail (.tail (.head _))) (fun o=>.head _) fun es' cg h1 gs=>?_
  exact next es' cg _ _ h1 (by rw[PF];exact FB.step hd) .tail
 ·exact next es ck m _ hmk (by rw[PF];exact FB.skip hd) .tail
end
def fT(l:List Cx):Nat→Nat:=fun s=>(l.map fun c=>e1 (some c.d) s).sum
theorem js(c:Cx)(l:List Cx)(s:Nat):fT (c::l) s=e1 (some c.d) s+fT l s:=by simp[fT]
theorem zo(c:Cx)(l:List Cx)(s:Nat):fT (l++[c]) s=fT l s+e1 (some c.d) s:=by simp[fT]
theorem Lx(d:Nd)(s:Nat):e1 (some d) s≤2:=by rw[cz];split<;>split<;>omega
theorem q6(s:Nat):∀l:List Cx,fT l s≤2*l.length
 | []=>Nat.le_refl _
 |c::l=>by rw[js,List.length_cons];have:=q6 s l;have:=Lx c.d s;omega
theorem sD{s:Nat}:∀{l:List Cx},0<fT l s→∃c∈l,c.d.lo=s∨c.d.hi=s
 | [],h=>by simp[fT]at h
 |c::l,h=>by
  rw[js]at h
  by_cases h0:0<e1 (some c.d) s
  ·refine⟨c,by simp,?_⟩
   rw[cz]at h0
   by_cases h1:c.d.lo=s
   ·exact .inl h1
   ·by_cases h2:c.d.hi=s
    ·exact .inr h2
    ·simp[h1,h2]at h0
  ·obtain⟨c',hc,h1⟩:=sD (s:=s) (l:=l) (by omega)
   exact⟨c',by simp[hc],h1⟩
theorem yc{s:Nat}{c:Cx}(hs:c.d.lo=s∨c.d.hi=s):∀{l:List Cx},c∈l→0<fT l s
 |c'::l,h=>by
  rw[js]
  rcases List.mem_cons.1 h with rfl|h
  ·rw[cz]
   rcases hs with hs|hs
   ·rw[if_pos hs];omega
   ·rw[if_pos hs];omega
  ·have:=yc hs h;omega
def Idle(K:Kd):Prop:=∀s,K.N s=none→K.use s=0
theorem nO{K:Kd}{S:Nat→av.Fn}{E:Nat→Prop}{P:Nat→Nat}(hm:fQ K S E P)(hi:Idle K){M:Nat}(hP:∀s,P s≤M)(s:Nat):K.use s≤2097153+M:=by
 cases h:K.N s with
 |none=>rw[hi s h];omega
 |some d=>
  rw[hm.use h]
  have:=tg (N:=K.N) (r:=s) K.cap
  have:=hm.cap.2
  have:=hP s
  split<;>omega
section
variable {kp:Nat} {K K0:Kd} {ord af tr:List Nat} {C:Hp} {S S0:Nat→av.Fn} {mc:Nat→Nat} {x y l:Nat} {all done rest:List Cx} {made:List Nd} {P:Nat→Nat}
theorem Dg(b:TB K0 S0 mc x y l all made)(h:bS kp K ord af tr C)(ht:TI K0 S0 mc x y l made K S done rest P)(hd:∀c∈done,c∈all)(hr:∀c∈rest,c∈all){c:Cx}(hc:c∈all){k:Nd}(hk:k∈keys x c)
 (A5:PL P K.N)(CD:Idle K)(hP:∀s,P s≤4194304):
  Fc Tryz.prog 299 #[ptr kp,.int .i64 (k.v:Int),u32 k.lo,u32 k.hi] C (fun v C'=>∃r K' S',v=u32 r∧bS kp K' ord af tr C'∧TI K0 S0 mc x y l made K' S' done rest P∧pQ K0 K' mc x l r∧
   ((k.lo=k.hi∧r=k.lo)∨K'.N r=some k)∧PL P K'.N∧Idle K'∧(∀s d,K.N s=some d→K'.N s=some d)∧(∀s d,K'.N s=some d→s=r∨(K.N s=some d∧K.use s≤K'.use s))):=by
 have uM:K.n≤64:=by obtain⟨_,_,hO⟩:=h;exact hO.mV
 have g6:=b.Fa hc
 have hkv:k.v=x∧ng K0 mc l k.lo∧ng K0 mc l k.hi:=by
  simp only[keys,List.mem_cons,List.not_mem_nil,or_false]at hk
  rcases hk with rfl|rfl
  ·exact⟨rfl,g6.1.1,g6.1.2⟩
  ·exact⟨rfl,g6.2.1,g6.2.2⟩
 have yw:=ht.lj b hd hkv.2.1
 have jC:=ht.lj b hd hkv.2.2
 have Nl:k.v<K.n:=by rw[hkv.1,ht.n];exact b.nb.xn
 by_cases he:k.lo=k.hi
 ·refine Fc.mono (by rw[←he];exact FY C _ k.lo _) ?_
  rintro v C' ⟨rfl,rfl⟩
  exact⟨k.lo,K,S,rfl,h,ht,.inl hkv.2.1,.inl ⟨he,rfl⟩,A5,CD,fun _ _ h=>h,fun s d h=>.inr ⟨h,Nat.le_refl _⟩⟩
 cases hT:K.T k with
 |some r=>
  obtain⟨h1,h2⟩:=ht.found b hc hk hT
  refine Fc.mono (F0 h he Nl hT) ?_
  rintro v C' ⟨rfl,rfl⟩
  exact⟨r,K,S,rfl,h,ht,h2,.inr h1,A5,CD,fun _ _ h=>h,fun s d h=>.inr ⟨h,Nat.le_refl _⟩⟩
 |none=>
  have hfit:∀{t:Nat},live K.N t→t<2∨t<K.us.length:=fun ht'=>by
   rcases ht' with ht'|⟨d,cE⟩
   ·exact .inl ht'
   ·exact .inr (ht.mid.fit cE)
  have hkm:=ht.B9 b hd hr hc hk he hkv.2.1 hkv.2.2 hT
  refine Fc.mono (FZ h (d:=k) he ⟨by omega,yw,jC⟩ Nl hT (ht.fits b hkm hT) (hfit yw) (hfit jC) (fun s=>by have:=nO ht.mid CD hP s;omega)) ?_
  rintro v C' ⟨r,cf,bO,rfl,hN,h2,hrc,hlen,NB,Ce,u0,u1,u2,o0,o1,dP⟩
  have R3:P r=0:=by
   apply Decidable.byContradiction
   intro hne
   obtain⟨d,cE⟩:=A5 r h2 (by omega)
   rw[hN]at cE;cases cE
  obtain⟨g1,g2⟩:=ht.lay b hd hr hc hk he hT hN ⟨h2,hrc⟩ hlen ⟨NB,Ce⟩ u0 u1 o0 o1 R3
  have PE:∀s d,K.N s=some d→up K.N r (some k) s=some d:=fun s d hs=>by
   rw[aA (fun e=>by rw[e,hN]at hs;cases hs)];exact hs
  refine⟨r,_,_,rfl,dP,g1,g2,.inr az,fun t Eg h0=>?_,fun s hs=>?_,PE,fun s d hs=>?_⟩
  ·obtain⟨d,cE⟩:=A5 t Eg h0
   exact⟨d,PE t d cE⟩
  ·have hs':up K.N r (some k) s=none:=hs
   have hne:s≠r:=fun e=>by subst e;rw[az]at hs';cases hs'
   rw[aA hne]at hs'
   show cf.getD s 0=0
   by_cases JM:2≤s
   ·rw[u1 s JM hne,CD s hs',cz]
    have a1:k.lo≠s:=fun e=>by
     rcases yw with h5|⟨d,h5⟩
     ·omega
     ·rw[e,hs']at h5;cases h5
    have a2:k.hi≠s:=fun e=>by
     rcases jC with h5|⟨d,h5⟩
     ·omega
     ·rw[e,hs']at h5;cases h5
    simp[a1,a2]
   ·rw[u2 s (by omega),CD s hs']
  ·have hs':up K.N r (some k) s=some d:=hs
   by_cases e:s=r
   ·exact .inl e
   ·rw[aA e]at hs'
    refine .inr ⟨hs',?_⟩
    show K.use s≤cf.getD s 0
    rw[u1 s (ht.mid.two hs').1 e];omega
theorem Ba(h:bS kp K ord af tr C)(ht:TI K0 S0 mc x y l made K S done rest P)(A5:PL P K.N)(CD:Idle K)(hP:∀s,P s≤4194304){r:Nat}(hr:live K.N r):
  Fc Tryz.prog 300 #[ptr kp,u32 r] C (fun v C'=>∃K',v=.tuple #[]∧bS kp K' ord af tr C'∧TI K0 S0 mc x y l made K' S done rest (fun s=>P s+if s=r then 1 else 0)∧PL (fun s=>P s+if s=r then 1 else 0) K'.N∧Idle K'∧
   K'.N=K.N∧(∀s,K.use s≤K'.use s)∧(2≤r→0<K'.use r)):=by
 have hfit:r<2∨r<K.us.length:=by
  rcases hr with hr|⟨d,hd⟩
  ·exact .inl hr
  ·exact .inr (ht.mid.fit hd)
 refine Fc.mono (ug h hfit (by have:=nO ht.mid CD hP r;omega)) ?_
 rintro v C' ⟨rfl,dP⟩
 by_cases h2:2≤r
 ·have hrd:∃d,K.N r=some d:=by
   rcases hr with hr|hr
   ·omega
   ·exact hr
  have hlt:r<K.us.length:=by omega
  refine⟨_,rfl,dP,(ht.use (fg r) (iE h2 hlt) (fun s hs=>nP hs)).congr (fun s _=>?_),fun t Eg h0=>?_,fun s hs=>?_,rfl,fun s=>?_,fun _=>?_⟩
  ·unfold up
   split
   ·rename_i e;subst e;rfl
   ·rfl
  ·by_cases e:t=r
   ·subst e;exact hrd
   ·simp[e]at h0;exact A5 t Eg h0
  ·show(mO K r).getD s 0=0
   have hne:s≠r:=fun e=>by
    obtain⟨d,hd⟩:=hrd
    have hs':K.N s=none:=hs
    rw[e,hd]at hs';cases hs'
   rw[nP hne];exact CD s hs
  ·show K.use s≤(mO K r).getD s 0
   by_cases e:s=r
   ·subst e;rw[iE h2 hlt];omega
   ·rw[nP e];exact Nat.le_refl _
  ·show 0<(mO K r).getD r 0
   rw[iE h2 hlt];omega
 ·have e:mO K r=K.us:=by unfold mO;rw[if_pos (by omega)]
  have eK:({K with us:=mO K r}:Kd)=K:=by rw[e]
  rw[eK]at dP
  refine⟨K,rfl,dP,ht.congr (fun s hs=>?_),fun t Eg h0=>?_,CD,rfl,fun _=>Nat.le_refl _,fun h=>absurd h h2⟩
  ·rw[if_neg (by omega)];rfl
  ·have ME:0<P t+if t=r then 1 else 0:=h0
   rw[if_neg (by omega)]at ME;exact A5 t Eg ME
theorem pQ.mono{K K':Kd}(h:pQ K0 K mc x l y)(hm:∀s d,K.N s=some d→K'.N s=some d):pQ K0 K' mc x l y:=by
 rcases h with h|⟨e,h1,h2⟩
 ·exact .inl h
 ·exact .inr ⟨e,hm _ _ h1,h2⟩
end
section
variable {kp:Nat} {K:Kd} {ord af tr:List Nat} {C:Hp} {S:Nat→av.Fn}
structure Kept(K:Kd)(S:Nat→av.Fn)(K':Kd)(S':Nat→av.Fn):Prop where
 n:K'.n=K.n
 cap:K'.cap=K.cap
 hold:∀r,K'.hold r=K.hold r
 held:∀g,K'.held S' g↔K.held S g
 fn:∀r,K.hold r≠0→S' r=S r
theorem HZ{x y l:Nat}(hne:x≠y)(hx:x<af.length)(hy:y<af.length):lv ((af.set x (l+1)).set y l)=nj (lv af) x y l:=by
 funext v
 show((af.set x (l+1)).set y l).getD v 0=_
 rw[eS (by simpa using hy),eS hx]
 unfold nj
 by_cases e:v=y
 ·rw[if_pos e,if_neg (by rw[e];exact Ne.symm hne),if_pos e]
 ·rw[if_neg e,if_neg e]
theorem BN(c:Cx)(rest:List Cx):fT (c::rest)=eE (eE (fT rest) [c.d.hi]) [c.d.lo]:=by
 funext s
 rw[js,cz]
 unfold eE
 simp only[List.count_cons,List.count_nil,beq_iff_eq]
 omega
theorem lg{x:Nat}{all:List Cx}{made:List Nd}(h:Made K x all made):made.length≤2*all.length:=by
 have h1:=bE (l':=all.flatMap (keys x)) h.nd fun k hk=>by
  obtain⟨⟨c,hc,hk'⟩,_⟩:=(h.mem k).1 hk
  exact List.mem_flatMap.2 ⟨c,hc,hk'⟩
 have h2:(all.flatMap (keys x)).length=2*all.length:=by
  clear h1 h
  induction all with
  |nil=>rfl
  |cons c all ih=>rw[List.flatMap_cons,List.length_append,ih,List.length_cons];simp[keys];omega
 omega
theorem Bf{x y l:Nat}{K1:Kd}{S1:Nat→av.Fn}{all:List Cx}{made:List Nd}(b:TB K S (lv af) x y l all made)(h:TI K S (lv af) x y l made K1 S1 all [] (fT all))(hnew:∀r d,K.N r=none→K1.N r=some d→0<K1.use r):Pos K1:=by
 intro r d hd
 cases hN:K.N r with
 |none=>exact hnew r d hN hd
 |some d0=>
  rw[h.mid.use hd]
  rcases b.ok.reach r d0 hN with hh|⟨p,e,hp,Jp⟩
  ·have kP:K1.hold r≠0:=by rw[h.hold];exact hh
   rw[if_neg kP];omega
  ·by_cases hm:p∈all.map Cx.r
   ·obtain⟨c,hc,rfl⟩:=List.mem_map.1 hm
    have hcd:=(b.iZ hc).1
    rw[hp]at hcd;cases hcd
    have:=yc (s:=r) Jp hc
    omega
   ·have uK:=h.old hp hm
    have:bX K1.N r K1.cap≠0:=fun he=>by
     have:=fN he p (h.mid.two uK).2 e uK
     rcases Jp with Jp|Jp
     ·exact this.1 Jp
     ·exact this.2 Jp
    omega
theorem xW(h:bS kp K ord af tr C)(hok:Ok K S (lv af))(ho:Ord K.n (lv af) ord)(CD:Idle K){l:Nat}(hl:l+1<K.n):
  Fc Tryz.prog 211 #[ptr kp,.int .i64 (l:Int)] C (fun r C'=>
   (pS K.n ord l (K.held S)+2≤K.cap∧r=.bool true∧∃K' S' bR,bS kp K' (gL ord l) bR tr C'∧Ok K' S' (lv bR)∧Ord K'.n (lv bR) (gL ord l)∧Idle K'∧Kept K S K' S')∨
   (K.cap<pS K.n ord l (K.held S)+2∧r=.bool false∧C'=C)):=by
 have h0:=h
 have hcap:=h.cap
 obtain⟨b,hC,hO⟩:=h
 have GY:=hO.ol
 have uM:=hO.mV
 have nb:=ho.nb hl
 obtain⟨x,hx⟩:∃x,x=ord.getD l 0:=⟨_,rfl⟩
 obtain⟨y,hy⟩:∃y,y=ord.getD (l+1) 0:=⟨_,rfl⟩
 rw[←hx,←hy]at nb
 refine aP fun g=>wR ?_
 have hmk:(kp,Obj.cells (b.cells K.n) 141 (0,0))∈C:=by rw[hC];exact .head _
 have GU:∀z∈b.CO,z∈C:=by rw[hC];exact br.sub (.cons (.app (.app (.app (.app .left)))))
 refine Ld.v hmk ?_
 refine hO.od.ld (x:=(x:Int)) (by rw[hx];exact bP (by omega)) GU ?_
 refine Ld.v hmk ?_
 refine aa.inc ?_
 refine hO.od.ld (x:=(y:Int)) (by rw[hy];exact bP (by omega)) GU ?_
 refine ae.fq (rO h0 hok nb.xn) ?_
 rintro w H ⟨all,Na,rfl,aD,zY,hlen⟩
 refine DR.self (Nil.ptr (ag.mk ?_))
 refine ae.rq (Dl h0 nb.xn aD hlen) ?_
 rintro w ⟨made,rfl,Cr⟩
 have hml:=lg Cr
 have yo:=hok.mid.cap
 have Nt:=hok.mid.room
 refine ae.eq (sS h0 (m:=made.length) (by omega) (by omega)) ?_
 have Q9:pS K.n ord l (K.held S)=K.used-2+made.length:=HE (Bg hok ho hl (by rw[←hx,←hy];exact zY) (by rw[←hx];exact Cr))
 refine Un.not ?_
 by_cases hroom:K.used+made.length≤K.cap
 rotate_left
 ·rw[decide_eq_false hroom]
  exact Br.yes (aZ.mk .right (.inr ⟨by omega,rfl,rfl⟩))
 rw[decide_eq_true hroom]
 refine Br.no ?_
 have tb:TB K S (lv af) x y l all made:=⟨hok,nb,zY,Cr,hroom⟩
 have fI:=zY.nd
 have hge:∀{i:Nat} {c:Cx},all[i]? =some c→c.r∉(all.take i).map Cx.r:=fun{i c} mg hm=>by
  have h1:(all.take (i+1)).map Cx.r=(all.take i).map Cx.r++[c.r]:=by rw[List.take_add_one,mg,List.map_append];rfl
  have h2:((all.take (i+1)).map Cx.r).Nodup:=fI.sublist ((List.take_sublist _ _).map _)
  rw[h1]at h2
  exact(List.nodup_append.1 h2).2.2 _ hm _ (by simp) rfl
 have m4:∀{i:Nat} {c:Cx},all[i]? =some c→all.take (i+1)=all.take i++[c]:=fun mg=>by rw[List.take_add_one,mg];rfl
 have Mq:∀{i:Nat} {c:Cx},all[i]? =some c→all.drop i=c::all.drop (i+1):=fun{i c} mg=>by
  obtain⟨hi,e⟩:=List.getElem?_eq_some_iff.1 mg
  rw[List.drop_eq_getElem_cons hi,e]
 have Iw:∀{i:Nat},∀c∈all.take i,c∈all:=fun c hc=>List.mem_of_mem_take hc
 have Rs:∀{i:Nat},∀c∈all.drop i,c∈all:=fun c hc=>List.mem_of_mem_drop hc
 refine aD.cP ?_
 rw[List.length_map]
 refine⟨fun vs H=>∃(i:Nat) (T':Nd→Option Nat) (C1:Hp),vs=[.int .i64 (i:Int)]∧H=Na++C1∧i≤all.length∧bS kp {K with T:=T'} ord af tr C1∧fQ {K with T:=T'} S (fun s=>∃c∈all.take i,s=c.r) zero'∧(∀d,T' d=none∨T' d=K.T d),
  fun vs _=>all.length-ca vs 0,JE.mk ⟨0,K.T,C,rfl,rfl,Nat.zero_le _,h0,hok.mid.congr (fun s=>by simp[eZ]) (fun _ _=>rfl),fun _=>.inr rfl⟩,?_⟩
 rintro w H ⟨i,T',C1,hw,rfl,hi,nH,z9,z8⟩ gs
 simp only[List.cons.injEq,and_true]at hw
 subst hw
 refine aa.iC (Br.dec (fun hlt=>?_) (fun FK=>?_))
 ·obtain⟨c,mg⟩:∃c,all[i]? =some c:=⟨_,List.getElem?_eq_getElem hlt⟩
  have CW:c∈all:=List.mem_of_getElem? mg
  obtain⟨rG,KO,hce⟩:=tb.iZ CW
  refine aD.yl (r:=gJ c) (by rw[List.getElem?_map,mg];rfl) (fun z hz=>List.mem_append_left _ hz) ?_
  intro LH _
  refine St.p (gE _) ?_
  obtain⟨b1,rfl,Hh⟩:=nH
  refine DR.self (Nil.ptr (ag.mk (Ld.f ?_)))
  refine ag.mk (ay.mk (vs:=(bp c.d).toArray) (.head _) (by simp[gJ]) rfl ?_)
  have RZ:T' c.d=some c.r:=(z9.gK c.d c.r).2 ⟨rG,by rintro⟨c',jD,e⟩;exact hge mg (e▸List.mem_map_of_mem jD)⟩
  refine ae.fq (p5 (d:=c.d) Hh.ut (hok.mid.var rG) RZ) ?_
  rintro v Jg ⟨rfl,Ih⟩
  refine aa.inc ?_
  refine aB.of .tail ⟨i+1,kM T' c.d none,_,rfl,rfl,by omega,⟨{b1 with CT:=Jg},rfl,{Hh with ut:=Ih}⟩,(z9.NZ (r:=c.r) (d:=c.d) rG ?_).congr (fun s=>?_) (fun _ _=>rfl),fun d=>?_⟩ (by simp[ca];omega)
  ·rintro⟨c',jD,e⟩;exact hge mg (e▸List.mem_map_of_mem jD)
  ·rw[m4 mg]
   constructor
   ·rintro(⟨c',jD,e⟩|e)
    ·exact⟨c',List.mem_append_left _ jD,e⟩
    ·exact⟨c,by simp,e⟩
   ·rintro⟨c',jD,e⟩
    rcases List.mem_append.1 jD with jD|jD
    ·exact .inl ⟨c',jD,e⟩
    ·simp at jD;subst jD;exact .inr e
  ·unfold kM
   split
   ·exact .inl rfl
   ·exact z8 d
 have hi':i=all.length:=by omega
 subst hi'
 rw[List.take_length]at z9
 have P2:=tb.start z9 z8
 refine aD.cP ?_
 rw[List.length_map]
 refine⟨fun vs H=>∃(i:Nat) (K1:Kd) (S1:Nat→av.Fn) (C1:Hp),vs=[.int .i64 (i:Int)]∧H=Na++C1∧i≤all.length∧bS kp K1 ord af tr C1∧TI K S (lv af) x y l made K1 S1 (all.take i) (all.drop i) (fT (all.take i))∧
   PL (fT (all.take i)) K1.N∧Idle K1∧(∀r d,K.N r=none→K1.N r=some d→0<K1.use r),
  fun vs _=>all.length-ca vs 0,JE.mk ⟨0,_,S,C1,rfl,rfl,Nat.zero_le _,nH,P2,fun t _ h=>by simp[fT]at h,CD,fun r d h1 h2=>by rw[h1]at h2;cases h2⟩,?_⟩
 clear P2 z9 z8 nH T' C1 FK hi
 rintro w H ⟨i,K1,S1,C1,hw,rfl,hi,nH,z8,FV,CC,GZ⟩ gs
 simp only[List.cons.injEq,and_true]at hw
 subst hw
 refine aa.iC (Br.dec (fun hlt=>?_) (fun FK=>?_))
 ·obtain⟨c,mg⟩:∃c,all[i]? =some c:=⟨_,List.getElem?_eq_getElem hlt⟩
  have CW:c∈all:=List.mem_of_getElem? mg
  obtain⟨rG,KO,hce⟩:=tb.iZ CW
  rw[Mq mg]at z8
  have fb:∀c'∈c::all.drop (i+1),c'∈all:=by rw[←Mq mg];exact Rs
  have Le:∀s,fT (all.take i) s≤2097152:=fun s=>by have:=q6 s (all.take i);rw[List.length_take]at this;omega
  refine aD.yl (r:=gJ c) (by rw[List.getElem?_map,mg];rfl) (fun z hz=>List.mem_append_left _ hz) ?_
  intro TZ _
  refine St.p (gE _) ?_
  refine DR.self (Nil.ptr (ag.mk ?_))
  refine Ld.f ?_
  refine Ld.f ?_
  refine ae.fq (Dg tb nH z8 Iw fb CW (k:=⟨x,c.pN,c.nC⟩) (by simp[keys]) FV CC (fun s=>by have:=Le s;omega)) ?_
  rintro w C2 ⟨t0,K2,S2,rfl,gh,P3,Kc,g0,FU,uO,Po,M9⟩
  refine Nil.ptr (ag.mk ?_)
  refine ae.fq (Ba gh P3 FU uO (fun s=>by have:=Le s;omega) (P3.lz tb Iw Kc)) ?_
  rintro w C3 ⟨K3,rfl,Aa,R1,IT,N2,OB,Nv,Kq⟩
  have Lc:∀s,(fT (all.take i) s+if s=t0 then 1 else 0)≤2097153:=fun s=>by have:=Le s;split<;>omega
  refine DR.self (Nil.ptr (ag.mk ?_))
  refine Ld.f ?_
  refine Ld.f ?_
  refine ae.fq (Dg tb Aa R1 Iw fb CW (k:=⟨x,c.pM,c.nB⟩) (by simp[keys]) IT N2 (fun s=>by have:=Lc s;omega)) ?_
  rintro w C4 ⟨t1,K4,S4,rfl,OC,Ox,Kb,g1,IS,N1,GH,M8⟩
  refine Nil.ptr (ag.mk ?_)
  refine ae.fq (Ba OC Ox IS N1 (fun s=>by have:=Lc s;omega) (Ox.lz tb Iw Kb)) ?_
  rintro w C5 ⟨K5,rfl,JJ,Mw,R4,N0,Li,Nu,Kp⟩
  have GO:pQ K K5 (lv af) x l t0:=pQ.mono Kc (fun s d hs=>by rw[Li];exact GH s d (by rw[OB];exact hs))
  have GN:pQ K K5 (lv af) x l t1:=pQ.mono Kb (fun s d hs=>by rw[Li];exact hs)
  have Sv:(c.pN=c.nC∧t0=c.pN)∨K5.N t0=some ⟨x,c.pN,c.nC⟩:=by
   rcases g0 with g0|g0
   ·exact .inl g0
   ·exact .inr (by rw[Li];exact GH _ _ (by rw[OB];exact g0))
  have Su:(c.pM=c.nB∧t1=c.pM)∨K5.N t1=some ⟨x,c.pM,c.nB⟩:=by
   rcases g1 with g1|g1
   ·exact .inl g1
   ·exact .inr (by rw[Li];exact g1)
  have NO:((all.take i++c::all.drop (i+1)).map Cx.r).Nodup:=by rw[←Mq mg,List.take_append_drop];exact fI
  obtain⟨RY,Ow⟩:=Mw.qS tb Iw fb NO GO GN Sv Su (P':=fT (all.take (i+1))) (fun s _=>by
   rw[m4 mg,zo,cz ⟨y,t0,t1⟩]
   have SE:(if t0=s then 1 else 0)=(if s=t0 then 1 else 0:Nat):=by split<;>split<;>first|rfl|(exfalso;omega)
   have SC:(if t1=s then 1 else 0)=(if s=t1 then 1 else 0:Nat):=by split<;>split<;>first|rfl|(exfalso;omega)
   simp only[SE,SC]
   omega)
  have Cu:∀{t:Nat},pQ K K5 (lv af) x l t→live K5.N t:=fun hk=>Mw.lz tb Iw hk
  have IL:∃e,K5.N c.r=some e:=Mw.kept rG
  refine Build.mk (cs:=bp ⟨y,t0,t1⟩) (by kernel_rfl) ?_
  intro TY _
  refine St.p (fun z hz=>by simp[bp,u32]at hz;rcases hz with rfl|rfl|rfl<;>rfl) ?_
  obtain⟨b5,rfl,My⟩:=JJ
  refine DR.self (Nil.ptr (ag.mk (Ld.f ?_)))
  refine Ld.f ?_
  refine ay.q ?_
  have Ig:y<K5.n:=by rw[Mw.n];exact nb.yn
  refine ae.fq (Gl (d:=⟨y,t0,t1⟩) My.ar ⟨by show y<64;have:=My.mV;omega,Cu GO,Cu GN⟩ IL (tb.ok.mid.two rG).1) ?_
  rintro w L1 ⟨rfl,KW⟩
  refine DR.self (Nil.ptr (ag.mk (Ld.f ?_)))
  refine ay.q ?_
  refine Ld.f ?_
  refine ae.fq (xV (d:=⟨y,t0,t1⟩) (r:=c.r) My.ut Ig RY) ?_
  rintro w Jg ⟨rfl,Ih⟩
  refine aa.inc ?_
  refine aB.of (.skip .tail) ⟨i+1,{K5 with N:=up K5.N c.r (some ⟨y,t0,t1⟩),T:=kM K5.T ⟨y,t0,t1⟩ (some c.r)},S4,_,rfl,rfl,by omega,⟨{b5 with CA:=L1,CT:=Jg},rfl,{My with ar:=KW,ut:=Ih}⟩,by rw[m4 mg]at Ow⊢;exact Ow,fun t Eg hp=>?_,fun s hs=>?_,fun r d Il hrd=>?_⟩ (by simp[ca];omega)
  ·obtain⟨c',jD,g7⟩:=sD hp
   have Oh:=Iw c' jD
   have CY:=(tb.iZ Oh).1
   have hlv:live K.N t:=by
    rcases g7 with rfl|rfl
    ·exact tb.ok.mid.lo CY
    ·exact tb.ok.mid.hi CY
   rcases hlv with hlv|⟨d,hd⟩
   ·omega
   ·exact Ow.kept hd
  ·have hs':up K5.N c.r (some ⟨y,t0,t1⟩) s=none:=hs
   have hne:s≠c.r:=fun e=>by subst e;rw[az]at hs';cases hs'
   rw[aA hne]at hs'
   exact N0 s hs'
  ·have Ik:up K5.N c.r (some ⟨y,t0,t1⟩) r=some d:=hrd
   have hne:r≠c.r:=fun e=>by rw[e,rG]at Il;cases Il
   rw[aA hne,Li]at Ik
   have Eh:2≤r:=(Ox.mid.two Ik).1
   show 0<K5.use r
   rcases M8 r d Ik with e|⟨h3,Ra⟩
   ·rw[e]at Eh⊢;exact Kp Eh
   ·rw[OB]at h3
    have h5:=Nu r
    rcases M9 r d h3 with e|⟨h1,D6⟩
    ·rw[e]at Eh⊢h5 Ra;have:=Kq Eh;omega
    ·have:=GZ r d Il h1
     have:=Nv r
     omega
 have hi':i=all.length:=by omega
 subst hi'
 rw[List.take_length,List.drop_length]at z8
 rw[List.take_length]at FV
 have uK:=Bf tb z8 GZ
 refine aD.cP ?_
 rw[List.length_map]
 refine⟨fun vs H=>∃(i:Nat) (K2:Kd) (C2:Hp),vs=[.int .i64 (i:Int)]∧H=Na++C2∧i≤all.length∧bS kp K2 ord af tr C2∧fQ K2 S1 eZ (fT (all.drop i))∧Pos K2∧PL (fT (all.drop i)) K2.N∧pP K2 K1,
  fun vs _=>all.length-ca vs 0,JE.mk ⟨0,K1,C1,rfl,rfl,Nat.zero_le _,nH,z8.mid.congr (fun s=>by simp[eZ]) (fun _ _=>rfl),uK,FV,.refl K1⟩,?_⟩
 clear nH FV hi FK C1
 rintro w H ⟨i,K2,C2,hw,rfl,hi,gh,A6,me,FU,ej⟩ gs
 simp only[List.cons.injEq,and_true]at hw
 subst hw
 refine aa.iC (Br.dec (fun hlt=>?_) (fun FK=>?_))
 ·obtain⟨c,mg⟩:∃c,all[i]? =some c:=⟨_,List.getElem?_eq_getElem hlt⟩
  have CW:c∈all:=List.mem_of_getElem? mg
  obtain⟨rG,KO,hce⟩:=tb.iZ CW
  have Le:∀s,fT (all.drop i) s≤2097152:=fun s=>by have:=q6 s (all.drop i);rw[List.length_drop]at this;omega
  have hlo:=h0.lt (hok.mid.lo rG)
  have hhi:=h0.lt (hok.mid.hi rG)
  refine aD.yl (r:=gJ c) (by rw[List.getElem?_map,mg];rfl) (fun z hz=>List.mem_append_left _ hz) ?_
  intro SM _
  refine St.p (gE _) ?_
  refine DR.self (Nil.ptr (ag.mk ?_))
  refine ag.mk (Ld.f ?_)
  have uO:Idle K2:=ej.idle CC
  have Nw:∀s,K2.use s<2147483648:=fun s=>by have:=nO A6 uO Le s;omega
  rw[Mq mg,BN]at A6 FU
  refine ae.fq (kg gh A6 me FU hlo Nw) ?_
  rintro w C3 ⟨rfl,K3,Aa,JF,Jq,IT,Cv⟩
  refine DR.self (Nil.ptr (ag.mk ?_))
  refine ag.mk (Ld.f ?_)
  refine ae.fq (kg Aa JF Jq IT hhi (fun s=>Nat.lt_of_le_of_lt (Cv.us s) (Nw s))) ?_
  rintro w C4 ⟨rfl,K4,OC,R7,NL,IS,Ix⟩
  refine aa.inc ?_
  exact aB.of .tail ⟨i+1,K4,C4,rfl,rfl,by omega,OC,R7,NL,IS,Ix.trans (Cv.trans ej)⟩ (by simp[ca];omega)
 have hi':i=all.length:=by omega
 subst hi'
 rw[List.drop_length]at A6
 have uO:Idle K2:=ej.idle CC
 obtain⟨f1,f2,f3⟩:=z8.fin tb (K':=K2) (A6.congr (fun _=>Iff.rfl) (fun _ _=>rfl)) me (fun h=>ej.N h) ej.n (fun r=>by show K2.ho.getD r 0=K1.ho.getD r 0;rw[ej.ho])
 have Iv:K2.n=K.n:=by rw[ej.n,z8.n]
 obtain⟨b2,rfl,Lh⟩:=gh
 refine DR.self (Ld.n ?_)
 refine Ld.n ?_
 refine aa.inc ?_
 refine Lh.od.iI (x:=(y:Int)) (.app (.cons (.app (.app (.app (.app .left)))))) (by rw[aC];omega) fun Ud zN=>?_
 refine zN.iI (x:=(x:Int)) (.app (.cons (.app (.app (.app (.app .left)))))) (by rw[List.length_set,aC];omega) fun Tk yq=>?_
 refine DR.self (Ld.n ?_)
 refine Ld.n ?_
 refine aa.inc ?_
 have pF:=Lh.ol.2
 have Nl:=nb.xn
 have Ig:=nb.yn
 refine Lh.lv.iI (x:=((l+1:Nat):Int)) (.app (.cons (.app (.app (.app (.app (.app .left))))))) (by rw[aC];omega) fun Ue yw=>?_
 refine yw.iI (x:=(l:Int)) (.app (.cons (.app (.app (.app (.app (.app .left))))))) (by rw[List.length_set,aC];omega) fun Tm jC=>?_
 rw[eV,eV]at yq jC
 have yp:(ord.set l y).set (l+1) x=gL ord l:=by rw[hx,hy];rfl
 rw[yp]at yq
 have hlv:lv ((af.set x (l+1)).set y l)=nj (lv af) x y l:=HZ nb.ne (by omega) (by omega)
 refine aZ.mk .right (.inl ⟨by omega,rfl,K2,S1,_,⟨{b2 with CO:=Tk,CL:=Tm},rfl,{Lh with od:=yq,lv:=jC,ol:=?_}⟩,by rw[hlv];exact f1,by rw[hlv,Iv,hx,hy];exact Ey ho hl,uO,Iv,by rw[ej.cap,z8.cap],fun r=>?_,f2,f3⟩)
 ·rw[jk];simp;exact Lh.ol
 ·show K2.ho.getD r 0=K.hold r
  rw[ej.ho];exact z8.hold r
end
structure cv(kp:Nat)(K:Kd)(S:Nat→av.Fn)(ord af tr:List Nat)(C:Hp):Prop where
 rep:bS kp K ord af tr C
 ok:Ok K S (lv af)
 od:Ord K.n (lv af) ord
 idle:Idle K
 tr:pO K.n K.cap (K.held S) ord tr.reverse
theorem Kept.refl(K:Kd)(S:Nat→av.Fn):Kept K S K S:=⟨rfl,rfl,fun _=>rfl,fun _=>Iff.rfl,fun _ _=>rfl⟩
theorem Kept.trans{K K' K2:Kd}{S S' S2:Nat→av.Fn}(h:Kept K S K' S')(h':Kept K' S' K2 S2):Kept K S K2 S2:=
 ⟨h'.n.trans h.n,h'.cap.trans h.cap,fun r=>(h'.hold r).trans (h.hold r),fun g=>(h'.held g).trans (h.held g),fun r hr=>(h'.fn r (by rw[h.hold];exact hr)).trans (h.fn r hr)⟩
section
variable {kp:Nat} {K:Kd} {ord af tr:List Nat} {C:Hp} {S:Nat→av.Fn}
theorem Dq(h:cv kp K S ord af tr C){l:Int}(hl:¬(0≤l∧l+1<K.n)):Rd Tryz.prog 151 #[ptr kp,.int .i64 l] C (· =.int .i64 1):=by
 obtain⟨b,rfl,hO⟩:=h.rep
 have hn:=hO.mV
 refine aP fun g=>pn ?_
 refine aa.an (Br.no (aa.lss ?_))
 refine c7.or (decide ((K.n:Int) -2<l)) (fun _=>?_) (by simp) fun gs=>?_
 ·refine Ld.n ?_
  refine aa.kW (c:=(K.n:Int) -2) rfl (by omega) ?_
  exact aa.gtr ⟨rfl,rfl⟩
 ·rw[←Bool.decide_or]
  exact Br.T (bC.mk (.refl _) rfl)
theorem yI(h:cv kp K S ord af tr C){l:Nat}(hl:l+1<K.n)(iD:tr.length<17592186044416):Fc Tryz.prog 151 #[ptr kp,.int .i64 (l:Int)] C (fun r C'=>
   (pS K.n ord l (K.held S)+2≤K.cap∧r=.int .i64 0∧∃K' S' bR,cv kp K' S' (gL ord l) bR (tr++[l]) C'∧Kept K S K' S')∨
   (K.cap<pS K.n ord l (K.held S)+2∧r=.int .i64 9∧C'=C)):=by
 have h0:=h
 obtain⟨b,hC,hO⟩:=h.rep
 have hn:=hO.mV
 refine aP fun g=>pn ?_
 refine aa.an (Br.no (aa.lss ?_))
 refine c7.or (decide ((K.n:Int) -2<l)) (fun _=>?_) (by simp) fun gs=>?_
 ·refine Ld.v (by rw[hC];exact .head _) ?_
  refine aa.kW (c:=(K.n:Int) -2) rfl (by omega) ?_
  exact aa.gtr ⟨rfl,rfl⟩
 ·rw[←Bool.decide_or]
  refine Br.F ?_
  refine ae.fq (xW h.rep h.ok h.od h.idle hl) ?_
  rintro w C' (⟨hfit,rfl,K',S',bR,dP,uL,Ir,rF,lH⟩|⟨hno,rfl,rfl⟩)
  ·refine Un.not (Br.no ?_)
   obtain⟨b',rfl,rI⟩:=dP
   refine Ld.n ?_
   refine ak.int (e:=3) (by kernel_rfl) (by kernel_rfl) (by kernel_rfl) fun bx=>?_
   refine rI.tr.pK (.cons (.cons (.app (.app (.app (.app (.app (.app .here)))))))) (by exact .head _) (by rw[aC];omega) (by rw[aC];omega) fun v' Pb bO=>?_
   refine Nil.ptr (ag.mk (St.one (by exact .tail (.head _)) bO.one (by simp[pB.cells]) rfl ?_))
   refine aZ.mk .tail (.inl ⟨hfit,rfl,K',S',bR,⟨⟨{b' with vt:=v',CR:=Pb},rfl,{rI with tr:=by rw[bQ];exact bO}⟩,uL,Ir,rF,?_⟩,lH⟩)
   rw[lH.n,lH.cap]
   exact(pO.OU hO.ol.1 hl hfit h.tr).congr fun g=>(lH.held g).symm
  ·exact Un.not (Br.yes (aZ.here (.inr ⟨hno,rfl,rfl⟩)))
theorem Ew{l:Nat}(h:cv kp K S ord af (tr++[l]) C)(iD:tr.length<17592186044416):Fc Tryz.prog 338 #[ptr kp] C (fun r C'=>
   r=.tuple #[.int .i64 (l:Int),.int .i64 0]∧l+1<K.n∧∃K' S' bR,cv kp K' S' (gL ord l) bR tr C'∧Kept K S K' S'):=by
 have h0:=h
 obtain⟨b,hC,hO⟩:=h.rep
 have hn:=hO.mV
 have Cg:=h.tr
 rw[List.reverse_append]at Cg
 obtain⟨hl,hfit,nr⟩:l+1<K.n∧pS K.n ord l (K.held S)+2≤K.cap∧pO K.n K.cap (K.held S) (gL ord l) tr.reverse:=Cg
 have hmk:(kp,Obj.cells (b.cells K.n) 141 (0,0))∈C:=by rw[hC];exact .head _
 refine aP fun g=>vU ?_
 refine aa.an ?_
 refine c7.or false (fun _=>?_) rfl fun gs=>Br.no ?_
 ·refine Ld.v hmk ?_
  refine hO.tr.cP ?_
  refine aa.iq ⟨rfl,?_⟩
  rw[decide_eq_false]
  rw[aC,List.length_append];simp;omega
 refine Ld.v hmk ?_
 refine hO.tr.cP ?_
 rw[aC,List.length_append]
 refine aa.bF (a:=tr.length+1) (b:=1) ?_
 rw[Nat.add_sub_cancel]
 refine Ld.v hmk ?_
 refine hO.tr.ld (i:=tr.length) (x:=(l:Int)) (by rw[bQ];simp[iw]) (by rw[hC];exact br.sub (.cons (.app (.app (.app (.app (.app (.app .here)))))))) ?_
 refine ae.fq (xW h.rep h.ok h.od h.idle hl) ?_
 rintro w C' (⟨_,rfl,K',S',bR,dP,uL,Ir,rF,lH⟩|⟨hno,rfl,rfl⟩)
 rotate_left
 ·omega
 obtain⟨b',rfl,rI⟩:=dP
 refine Ld.n ?_
 refine rI.tr.cut (i:=tr.length) (by rw[aC];simp) fun v' rY=>?_
 refine Nil.ptr (ag.mk (St.one (by exact .head _) rY.one (by simp[pB.cells]) rfl ?_))
 refine aZ.here ⟨rfl,hl,K',S',bR,⟨⟨{b' with vt:=v'},rfl,{rI with tr:=by rw[bQ,List.take_left' (by simp)]at rY;exact rY}⟩,uL,Ir,rF,?_⟩,lH⟩
 rw[lH.n,lH.cap]
 exact nr.congr fun g=>(lH.held g).symm
theorem cv.dk(h:cv kp K S ord af tr C){r:Nat}(hl:live K.N r):r<1048576:=h.rep.lt hl
theorem cv.jA(h:cv kp K S ord af tr C)(r:Nat):K.hold r≤65535:=h.ok.mid.mx r
theorem cv.Bb(h:cv kp K S ord af tr C)(r:Nat):K.use r≤2097153:=by have:=nO h.ok.mid h.idle (M:=0) (fun _=>Nat.le_refl _) r;omega
structure I8(K K':Kd)(r:Nat):Prop where
 n:K'.n=K.n
 cap:K'.cap=K.cap
 used:K'.used=K.used
 N:K'.N=K.N
 hold:∀s,K'.hold s=if s=r∧2≤r then K.hold s+1 else K.hold s
theorem qn(h:cv kp K S ord af tr C){r:Nat}(hl:live K.N r)(h2:2≤r)(hf:K.hold r=65535):Rd Tryz.prog 141 #[ptr kp,u32 r] C (· =.int .i64 8):=by
 have hr:=h.dk hl
 obtain⟨b,hC,hO⟩:=h.rep
 have hfit:r<K.ho.length:=by
  rcases hl with hl|⟨d,hd⟩
  ·omega
  ·rw[←hO.ul.1];exact h.ok.mid.fit hd
 refine aP fun g=>pq ?_
 refine aa.an (Br.no (Nil.ptr (ag.mk ?_)))
 refine ae.eq (iP h.rep (by omega)) ?_
 rw[bD.2 hl]
 refine Un.not (Br.no ?_)
 intro J7 _
 refine aa.pA (b:=1) (Br.T ?_)
 refine Nil.ptr (ag.mk (Ld.u (by rw[hC];exact .head _) ?_))
 refine hO.ho.ld (x:=((K.hold r:Nat):Int)) (bP hfit) (by rw[hC];exact br.sub (.cons (.app (.app (.app .left))))) ?_
 rw[hf]
 exact aa.iq (Br.T (bC.mk (.refl _) rfl))
theorem sV(h:bS kp K ord af tr C)(JG:fQ K S eZ zero')(FI:Idle K){r:Nat}(hl:live K.N r)(hf:2≤r→K.hold r<65535):Fc Tryz.prog 141 #[ptr kp,u32 r] C (fun v C'=>v=.int .i64 0∧∃K',bS kp K' ord af [] C'∧
  fQ K' S eZ zero'∧Idle K'∧I8 K K' r∧(∀s,K.use s≤K'.use s)∧(2≤r→0<K'.use r)):=by
 have hr:=h.lt hl
 have h0:=h
 obtain⟨b,hC,hO⟩:=h
 refine aP fun g=>pq ?_
 refine aa.an (Br.no (Nil.ptr (ag.mk ?_)))
 refine ae.eq (iP h0 (by omega)) ?_
 rw[bD.2 hl]
 refine Un.not (Br.no ?_)
 intro J7 R9
 have fin:∀(K':Kd) C1,bS kp K' ord af tr C1→fQ K' S eZ zero'→Idle K'→I8 K K' r→(∀s,K.use s≤K'.use s)→(2≤r→0<K'.use r)→J7 [] C1:=fun K' C1 dP uL rF hm hu hp=>by
  refine R9 _ fun gs=>?_
  obtain⟨b',rfl,rI⟩:=dP
  refine Nil.ptr (ag.mk (St.one (by exact .head _) rfl (by simp[pB.cells]) rfl ?_))
  refine aZ.mk (jQ:=({b' with vt:=.slice none 0 0,CR:=[]}:pB).hp kp K'.n) ?_ ⟨rfl,K',⟨{b' with vt:=.slice none 0 0,CR:=[]},rfl,{rI with tr:=aN.nil}⟩,uL,rF,hm,hu,hp⟩
  refine .cons (.dx (.dx (.dx (.dx (.dx (.dx .nil _) _) _) _) _) _)
 refine aa.pA (b:=1) (Br.dec (fun h2=>?_) (fun h2=>?_))
 rotate_left
 ·refine JE.mk (fin K C h0 JG FI ⟨rfl,rfl,rfl,rfl,fun s=>?_⟩ (fun _=>Nat.le_refl _) (fun h=>by omega))
  rw[if_neg (by omega)]
 have kE:2≤r:=by omega
 have Ea:=hf kE
 obtain⟨d,hd⟩:∃d,K.N r=some d:=by
  rcases hl with hl|hl
  ·omega
  ·exact hl
 have Mp:=JG.fit hd
 have Ce:=hO.ul
 have hfit:r<K.ho.length:=by omega
 subst hC
 refine Nil.ptr (ag.mk (Ld.f ?_))
 refine hO.ho.ld (x:=((K.hold r:Nat):Int)) (bP hfit) (br.sub (.cons (.app (.app (.app .left))))) ?_
 refine aa.iq (Br.F ?_)
 refine Nil.ptr (ag.mk (Ld.f ?_))
 refine hO.ho.ld (x:=((K.hold r:Nat):Int)) (bP hfit) (br.sub (.cons (.app (.app (.app .left))))) ?_
 refine aa.inc ?_
 refine hO.ho.iI (x:=((K.hold r+1:Nat):Int)) (.cons (.app (.app (.app .left)))) (by rw[aC];exact hfit) fun Gz kP=>?_
 rw[eV]at kP
 have g1:∀s,(K.ho.set r (K.hold r+1)).getD s 0=if s=r then K.hold r+1 else K.hold s:=fun s=>eS hfit
 refine Nil.ptr (ag.mk (Ld.f ?_))
 refine kP.ld (x:=((K.hold r+1:Nat):Int)) (by rw[bP (by simpa using hfit),g1,if_pos rfl]) (br.sub (.cons (.app (.app (.app .left))))) ?_
 refine aa.mI (b:=1) (Br.dec (fun h3=>?_) (fun h3=>?_))
 ·refine Nil.ptr (ag.mk (Ld.f ?_))
  refine hO.us.ld (x:=((K.use r:Nat):Int)) (bP Mp) (br.sub (.cons (.app (.app .left)))) ?_
  have Nw:=nO JG FI (M:=0) (fun _=>Nat.le_refl _) r
  refine aa.inc ?_
  refine hO.us.iI (x:=((K.use r+1:Nat):Int)) (.cons (.app (.app .left))) (by rw[aC];exact Mp) fun Em tV=>?_
  rw[eV]at tV
  have g2:∀s,(K.us.set r (K.use r+1)).getD s 0=if s=r then K.use r+1 else K.use s:=fun s=>eS Mp
  have hM:=JG.keep (r:=r) (cf:=K.us.set r (K.use r+1)) (bO:=K.ho.set r (K.hold r+1)) ⟨d,hd⟩ Ea (by simp) (by rw[g1,if_pos rfl]) (fun s hs=>by rw[g1,if_neg hs]) (by rw[g2,if_pos rfl,if_pos (by omega)]) (fun s hs=>by rw[g2,if_neg hs])
  refine JE.mk (fin {K with us:=K.us.set r (K.use r+1),ho:=K.ho.set r (K.hold r+1)} _ ⟨{b with CU:=Em,CH:=Gz},rfl,{hO with us:=tV,ho:=kP,ul:=by simp;exact Ce}⟩ hM (fun s hs=>?_) ⟨rfl,rfl,rfl,rfl,fun s=>?_⟩ (fun s=>?_) (fun _=>?_))
  ·show(K.us.set r (K.use r+1)).getD s 0=0
   have hs':K.N s=none:=hs
   rw[g2,if_neg (fun e=>by rw[e,hd]at hs';cases hs')];exact FI s hs'
  ·show(K.ho.set r (K.hold r+1)).getD s 0=_
   rw[g1]
   by_cases e:s=r
   ·subst e;rw[if_pos rfl,if_pos ⟨rfl,kE⟩]
   ·rw[if_neg e,if_neg (fun h=>e h.1)]
  ·show K.use s≤(K.us.set r (K.use r+1)).getD s 0
   rw[g2];split
   ·rename_i e;subst e;omega
   ·exact Nat.le_refl _
  ·show 0<(K.us.set r (K.use r+1)).getD r 0
   rw[g2,if_pos rfl];omega
 ·have hM:=JG.keep (r:=r) (cf:=K.us) (bO:=K.ho.set r (K.hold r+1)) ⟨d,hd⟩ Ea (by simp) (by rw[g1,if_pos rfl]) (fun s hs=>by rw[g1,if_neg hs]) (by show K.use r=_;rw[if_neg (by omega)];rfl) (fun s hs=>rfl)
  refine JE.mk (fin {K with ho:=K.ho.set r (K.hold r+1)} _ ⟨{b with CH:=Gz},rfl,{hO with ho:=kP,ul:=by simp;exact Ce}⟩ hM FI ⟨rfl,rfl,rfl,rfl,fun s=>?_⟩ (fun _=>Nat.le_refl _) (fun _=>?_))
  rotate_left
  ·show 0<K.use r
   rw[JG.use hd,if_neg (by omega)];omega
  show(K.ho.set r (K.hold r+1)).getD s 0=_
  rw[g1]
  by_cases e:s=r
  ·subst e;rw[if_pos rfl,if_pos ⟨rfl,kE⟩]
  ·rw[if_neg e,if_neg (fun h=>e h.1)]
theorem nF(h:cv kp K S ord af tr C){r:Nat}(hl:live K.N r)(hf:2≤r→K.hold r<65535):Fc Tryz.prog 141 #[ptr kp,u32 r] C (fun v C'=>v=.int .i64 0∧∃K',cv kp K' S ord af [] C'∧I8 K K' r):=by
 refine(sV h.rep h.ok.mid h.idle hl hf).mono ?_
 rintro v C' ⟨rfl,K',dP,Mz,rF,hm,hu,hp⟩
 refine⟨rfl,K',⟨dP,⟨Mz,fun s d hs=>?_,by rw[hm.n];exact h.ok.lv,by rw[hm.n,hm.N];exact h.ok.wf⟩,by rw[hm.n];exact h.od,rF,trivial⟩,hm⟩
 rw[hm.N]at hs
 exact Nat.lt_of_lt_of_le (h.ok.pos s d hs) (hu s)
end
section
variable {kp:Nat} {K:Kd} {ord af tr:List Nat} {C:Hp} {S:Nat→av.Fn}
theorem Fh{K':Kd}{P:Nat→Nat}(hw:WF K.n (lv af) K.N)(hM:fQ K' S eZ P)(hN:∀{s d},K'.N s=some d→K.N s=some d)(hn:K'.n=K.n):WF K'.n (lv af) K'.N:=by
 have same:∀{t},live K'.N t→dep K'.n (lv af) K'.N t=dep K.n (lv af) K.N t:=fun{t} ht=>by
  cases e:K'.N t with
  |some f=>rw[aj e,aj (hN e)]
  |none=>
   have Jo:t<2:=by
    rcases ht with ht|⟨f,hf⟩
    ·exact ht
    ·rw[e]at hf;cases hf
   rw[aL e,aL (hw.const Jo),hn]
 refine hM.wf fun{s d} hs=>?_
 rw[same (hM.lo hs),same (hM.hi hs)]
 exact⟨(hw.lo (hN hs)).2,(hw.hi (hN hs)).2⟩
structure Hw(K K':Kd)(r:Nat):Prop where
 n:K'.n=K.n
 cap:K'.cap=K.cap
 N:∀s d,K'.N s=some d→K.N s=some d
 hold:∀s,K'.hold s=if s=r∧2≤r then K.hold s-1 else K.hold s
theorem Lz(h:cv kp K S ord af tr C){r:Nat}(hr:r<4294967296)(h2:2≤r)(h0:K.hold r=0):Rd Tryz.prog 142 #[ptr kp,u32 r] C (· =.int .i64 3):=by
 refine aP fun g=>po ?_
 refine aa.an (Br.no ?_)
 intro J2 _
 refine aa.pA (b:=1) (Br.T ?_)
 refine ae.eq (sU h.rep hr (fun s=>by have:=h.jA s;omega)) ?_
 rw[h0]
 exact aa.iq (Br.T (bC.mk (.refl _) rfl))
theorem yK(h:cv kp K S ord af tr C){r:Nat}(hr:r<4294967296)(hh:2≤r→K.hold r≠0):Fc Tryz.prog 142 #[ptr kp,u32 r] C (fun v C'=>v=.int .i64 0∧∃K',cv kp K' S ord af [] C'∧Hw K K' r):=by
 have h0:=h
 obtain⟨b,hC,hO⟩:=h.rep
 refine aP fun g=>po ?_
 refine aa.an (Br.no ?_)
 intro J2 Ef
 have fin:∀(K':Kd) C1,bS kp K' ord af tr C1→Ok K' S (lv af)→Idle K'→Hw K K' r→J2 [] C1:=fun K' C1 dP uL rF hm=>by
  refine Ef _ fun gs=>?_
  obtain⟨b',rfl,rI⟩:=dP
  refine Nil.ptr (ag.mk (St.one (by exact .head _) rfl (by simp[pB.cells]) rfl ?_))
  have nt:Ord K'.n (lv af) ord:=by rw[hm.n];exact h.od
  refine aZ.mk (jQ:=({b' with vt:=.slice none 0 0,CR:=[]}:pB).hp kp K'.n) ?_ ⟨rfl,K',⟨⟨{b' with vt:=.slice none 0 0,CR:=[]},rfl,{rI with tr:=aN.nil}⟩,uL,nt,rF,trivial⟩,hm⟩
  refine .cons (.dx (.dx (.dx (.dx (.dx (.dx .nil _) _) _) _) _) _)
 refine aa.pA (b:=1) (Br.dec (fun h2=>?_) (fun h2=>?_))
 rotate_left
 ·exact JE.mk (fin K C h.rep h.ok h.idle ⟨rfl,rfl,fun _ _ h=>h,fun s=>by rw[if_neg (by omega)]⟩)
 have kE:2≤r:=by omega
 have kP:=hh kE
 obtain⟨d,hd⟩:=h.ok.mid.held r kP
 have Mp:=h.ok.mid.fit hd
 have Ce:=hO.ul
 have hfit:r<K.ho.length:=by omega
 have hle:=h.jA r
 refine ae.eq (sU h.rep hr (fun s=>by have:=h.jA s;omega)) ?_
 refine aa.iq (Br.F ?_)
 subst hC
 refine Nil.ptr (ag.mk (Ld.f ?_))
 refine hO.ho.ld (x:=((K.hold r:Nat):Int)) (bP hfit) (br.sub (.cons (.app (.app (.app .left))))) ?_
 refine aa.bF (b:=1) ?_
 refine hO.ho.iI (x:=((K.hold r-1:Nat):Int)) (.cons (.app (.app (.app .left)))) (by rw[aC];exact hfit) fun Gz N4=>?_
 rw[eV]at N4
 have g1:∀s,(K.ho.set r (K.hold r-1)).getD s 0=if s=r then K.hold r-1 else K.hold s:=fun s=>eS hfit
 have hM:=h.ok.mid.drop (r:=r) (bO:=K.ho.set r (K.hold r-1)) (by omega) (by simp) (by rw[g1,if_pos rfl];omega) (fun s hs=>by rw[g1,if_neg hs])
 have nH:bS kp {K with ho:=K.ho.set r (K.hold r-1)} ord af tr (({b with CH:=Gz}:pB).hp kp K.n):=⟨_,rfl,{hO with ho:=N4,ul:=by simp;exact Ce}⟩
 have PR:∀s,(K.ho.set r (K.hold r-1)).getD s 0=if s=r∧2≤r then K.hold s-1 else K.hold s:=fun s=>by
  rw[g1]
  by_cases e:s=r
  ·subst e;rw[if_pos rfl,if_pos ⟨rfl,kE⟩]
  ·rw[if_neg e,if_neg (fun h=>e h.1)]
 refine Nil.ptr (ag.mk (Ld.f ?_))
 refine N4.ld (x:=((K.hold r-1:Nat):Int)) (by rw[bP (by simpa using hfit),g1,if_pos rfl]) (br.sub (.cons (.app (.app (.app .left))))) ?_
 refine aa.mI (b:=0) (Br.dec (fun h3=>?_) (fun h3=>?_))
 rotate_left
 ·rw[if_neg (by omega)]at hM
  exact JE.mk (fin {K with ho:=K.ho.set r (K.hold r-1)} _ nH ⟨hM,h.ok.pos,h.ok.lv,h.ok.wf⟩ h.idle ⟨rfl,rfl,fun _ _ h=>h,PR⟩)
 rw[if_pos (by omega)]at hM
 refine Nil.ptr (ag.mk ?_)
 have A6:fQ {K with ho:=K.ho.set r (K.hold r-1)} S eZ (eE zero' [r]):=hM.congr (fun _=>Iff.rfl) fun s _=>by
  unfold up eE zero'
  by_cases e:s=r
  ·subst e;simp
  ·simp[e,Ne.symm e]
 refine ae.fq (kg (P0:=zero') nH A6 h.ok.pos (fun t Eg h0=>?_) (h.dk (.inr ⟨d,hd⟩)) (fun s=>by have:=h.Bb s;show K.use s<_;omega)) ?_
 ·by_cases e:t=r
  ·subst e;exact⟨d,hd⟩
  ·have ME:0<zero' t+[r].count t:=h0
   simp[zero',Ne.symm e]at ME
 rintro w C2 ⟨rfl,K2,gh,JF,Jq,_,ej⟩
 refine JE.mk (fin K2 _ gh ⟨JF,Jq,by rw[ej.n];exact h.ok.lv,Fh h.ok.wf JF (fun h=>ej.N h) ej.n⟩ (ej.idle h.idle) ⟨ej.n,ej.cap,fun s e hs=>ej.N hs,fun s=>?_⟩)
 show K2.ho.getD s 0=_
 rw[ej.ho]
 exact PR s
structure nf(K:Kd)(S:Nat→av.Fn)(K':Kd)(S':Nat→av.Fn)(f:av.Fn)(r:Nat):Prop where
 n:K'.n=K.n
 cap:K'.cap=K.cap
 used:K'.used≤K.used+1
 N:∀s d,K.N s=some d→K'.N s=some d
 fn:∀s,live K.N s→S' s=S s
 live:live K'.N r
 is:S' r=f
 hold:∀s,K'.hold s=if s=r∧2≤r then K.hold s+1 else K.hold s
theorem yj(h:cv kp K S ord af tr C){v lo hi:Nat}(hv:v<K.n)(hlo:live K.N lo)(hhi:live K.N hi)(hlt:lo=hi∨(lv af v<dep K.n (lv af) K.N lo∧lv af v<dep K.n (lv af) K.N hi)):
  Fc Tryz.prog 175 #[ptr kp,.int .i64 (v:Int),u32 lo,u32 hi] C (fun w C'=>
   (∃r K' S',w=.tuple #[u32 r,.int .i64 0]∧cv kp K' S' ord af [] C'∧nf K S K' S' (ite S ⟨v,lo,hi⟩) r)∨
   (∃r,w=.tuple #[u32 0,.int .i64 8]∧C'=C∧live K.N r∧2≤r∧K.hold r=65535∧S r=ite S ⟨v,lo,hi⟩)∨
   (w=.tuple #[u32 0,.int .i64 9]∧C'=C∧K.cap≤K.used∧lo≠hi∧K.T ⟨v,lo,hi⟩=none)):=by
 have h0:=h
 have NT:=h.dk hlo
 have N3:=h.dk hhi
 have yw:=bD.2 hlo
 have jC:=bD.2 hhi
 have Ob:jY K af (v:Int) lo hi=0:=by
  unfold jY
  rw[if_neg (by omega),if_neg (by rw[yw,jC];simp),if_neg]
  rintro⟨hne,hmin⟩
  rcases hlt with e|⟨a,b⟩
  ·exact hne e
  ·simp only[Int.toNat_natCast,lv]at hmin a b;omega
 refine aP fun g=>xx ?_
 refine aa.an (Br.no ?_)
 refine ae.eq (yG h.rep (v:Int) (by omega) (by omega) (fun r d hd=>⟨h.ok.mid.var hd,(h.ok.mid.two hd).1⟩)) ?_
 rw[Ob]
 refine aa.eP (Br.F ?_)
 refine ae.rq (x6 h.rep (lo:=lo) (hi:=hi) hv) ?_
 rintro w hw
 have there:∀(J9:List Value→Hp→Prop),(∀MV:Value,∀Qx:Hp,(∀Ss:Fr,ae Tryz.prog g 141 #[ptr kp,MV] Qx (fun Ph Qw=>aa .num .neq Ph (Value.int .i64 0) fun QJ=>Br QJ
   (aZ (fun w C'=>(∃r K' S',w=.tuple #[u32 r,.int .i64 0]∧cv kp K' S' ord af [] C'∧nf K S K' S' (ite S ⟨v,lo,hi⟩) r)∨
   (∃r,w=.tuple #[u32 0,.int .i64 8]∧C'=C∧live K.N r∧2≤r∧K.hold r=65535∧S r=ite S ⟨v,lo,hi⟩)∨
   (w=.tuple #[u32 0,.int .i64 9]∧C'=C∧K.cap≤K.used∧lo≠hi∧K.T ⟨v,lo,hi⟩=none)) (.returned (.tuple #[(Value.int .u32 0),Ph])) Qw) (aZ (fun w C'=>(∃r K' S',w=.tuple #[u32 r,.int .i64 0]∧cv kp K' S' ord af [] C'∧nf K S K' S' (ite S ⟨v,lo,hi⟩) r)∨
   (∃r,w=.tuple #[u32 0,.int .i64 8]∧C'=C∧live K.N r∧2≤r∧K.hold r=65535∧S r=ite S ⟨v,lo,hi⟩)∨
   (w=.tuple #[u32 0,.int .i64 9]∧C'=C∧K.cap≤K.used∧lo≠hi∧K.T ⟨v,lo,hi⟩=none)) (.returned (.tuple #[MV,(Value.int .i64 0)])) Qw)) (kG (aZ (fun w C'=>(∃r K' S',w=.tuple #[u32 r,.int .i64 0]∧cv kp K' S' ord af [] C'∧nf K S K' S' (ite S ⟨v,lo,hi⟩) r)∨
   (∃r,w=.tuple #[u32 0,.int .i64 8]∧C'=C∧live K.N r∧2≤r∧K.hold r=65535∧S r=ite S ⟨v,lo,hi⟩)∨
   (w=.tuple #[u32 0,.int .i64 9]∧C'=C∧K.cap≤K.used∧lo≠hi∧K.T ⟨v,lo,hi⟩=none)))))→J9 [MV] Qx)→
   ∀r,live K.N r→S r=ite S ⟨v,lo,hi⟩→J9 [u32 r] C:=fun J9 Dd r hr hS=>by
  refine Dd _ _ fun gs=>?_
  by_cases hf:2≤r∧K.hold r=65535
  ·refine ae.eq (qn h hr hf.1 hf.2) ?_
   exact aa.eP (Br.T (aZ.here (.inr (.inl ⟨r,rfl,rfl,hr,hf.1,hf.2,hS⟩))))
  ·refine ae.fq (nF h hr (fun h2=>by have:=h.jA r;omega)) ?_
   rintro w C' ⟨rfl,K',dP,hm⟩
   refine aa.eP (Br.F (aZ.here (.inl ⟨r,K',S,rfl,dP,⟨hm.n,hm.cap,by rw[hm.used];omega,fun s d hs=>by rw[hm.N];exact hs,fun _ _=>rfl,by rw[hm.N];exact hr,hS,hm.hold⟩⟩)))
 by_cases he:lo=hi
 ·rw[if_pos he]at hw
  subst hw
  refine Ext.two ?_
  intro J9 Dd
  refine Un.not (Br.no (JE.mk (there J9 Dd lo hlo ?_)))
  funext z
  unfold av.ite
  simp[he]
 rw[if_neg he]at hw
 have gZ:lv af v<dep K.n (lv af) K.N lo∧lv af v<dep K.n (lv af) K.N hi:=by
  rcases hlt with e|e
  ·exact absurd e he
  ·exact e
 obtain⟨o,ho⟩:∃o,o=K.T ⟨v,lo,hi⟩:=⟨_,rfl⟩
 cases o with
 |some r=>
  have hT:K.T ⟨v,lo,hi⟩=some r:=ho.symm
  rw[hT]at hw
  subst hw
  refine Ext.two ?_
  intro J9 Dd
  have hN:=((h.ok.mid.gK _ r).1 hT).1
  refine Un.not (Br.no (JE.mk (there J9 Dd r (.inr ⟨_,hN⟩) ?_)))
  funext z
  rw[h.ok.mid.int.node hN]
  rfl
 |none=>
  have hT:K.T ⟨v,lo,hi⟩=none:=ho.symm
  rw[hT]at hw
  subst hw
  refine Ext.two ?_
  intro J9 Dd
  refine Un.not (Br.yes (Nil.ptr (ag.mk ?_)))
  have hcap:=h.ok.mid.cap
  refine ae.eq (sS h.rep (m:=1) (by omega) (by omega)) ?_
  refine Un.not ?_
  by_cases hroom:K.used+1≤K.cap
  rotate_left
  ·rw[decide_eq_false hroom]
   exact Br.yes (aZ.here (.inr (.inr ⟨rfl,rfl,by omega,he,hT⟩)))
  rw[decide_eq_true hroom]
  refine Br.no (Nil.ptr (ag.mk ?_))
  refine Build.mk (cs:=bp ⟨v,lo,hi⟩) (by kernel_rfl) ?_
  have hfit:∀{t:Nat},live K.N t→t<2∨t<K.us.length:=fun ht'=>by
   rcases ht' with ht'|⟨d,cE⟩
   ·exact .inl ht'
   ·exact .inr (h.ok.mid.fit cE)
  have uM:K.n≤64:=by obtain⟨_,_,hO⟩:=h.rep;exact hO.mV
  refine ae.fq (xX h.rep (d:=⟨v,lo,hi⟩) ⟨by show v<64;omega,hlo,hhi⟩ hv hT (by omega) (hfit hlo) (hfit hhi) (fun s=>by have:=h.Bb s;omega)) ?_
  rintro w C1 ⟨r,cf,bO,rfl,hN,h2,hrc,hlen,NB,Ce,u0,u1,u2,o0,o1,nH⟩
  have z9:=h.ok.mid.lay (r:=r) (d:=⟨v,lo,hi⟩) hN ⟨h2,hrc⟩ hv he hlo hhi hT (fun h=>h) rfl (by omega) hlen ⟨NB,Ce⟩ u0 u1 o0 o1
  have OA:∀s d,K.N s=some d→up K.N r (some ⟨v,lo,hi⟩) s=some d:=fun s d hs=>by rw[aA (fun e=>by rw[e,hN]at hs;cases hs)];exact hs
  have hne:∀{t:Nat},live K.N t→t≠r:=fun ht=>dj ht h2 hN
  have CC:Idle {K with N:=up K.N r (some ⟨v,lo,hi⟩),T:=kM K.T ⟨v,lo,hi⟩ (some r),used:=K.used+1,us:=cf,ho:=bO}:=fun s hs=>by
   have hs':up K.N r (some ⟨v,lo,hi⟩) s=none:=hs
   have Cj:s≠r:=fun e=>by subst e;rw[az]at hs';cases hs'
   rw[aA Cj]at hs'
   show cf.getD s 0=0
   by_cases JM:2≤s
   ·rw[u1 s JM Cj,h.idle s hs',cz]
    have a1:lo≠s:=fun e=>by
     rcases hlo with h5|⟨d,h5⟩
     ·omega
     ·rw[e,hs']at h5;cases h5
    have a2:hi≠s:=fun e=>by
     rcases hhi with h5|⟨d,h5⟩
     ·omega
     ·rw[e,hs']at h5;cases h5
    simp[a1,a2]
   ·rw[u2 s (by omega),h.idle s hs']
  refine JE.mk (Dd _ _ fun gs=>?_)
  refine ae.fq (sV nH z9 CC (r:=r) (.inr ⟨_,az⟩) (fun _=>by show bO.getD r 0<65535;rw[o0];omega)) ?_
  rintro w C2 ⟨rfl,K2,gh,A6,uO,hm,hu,hp⟩
  refine aa.eP (Br.F ?_)
  have Iv:K2.n=K.n:=hm.n
  have Lj:K2.N=up K.N r (some ⟨v,lo,hi⟩):=hm.N
  have hpos:Pos K2:=fun s d hs=>by
   by_cases e:s=r
   ·rw[e];exact hp h2
   ·rw[Lj,aA e]at hs
    have h3:=hu s
    have h4:({K with N:=up K.N r (some ⟨v,lo,hi⟩),T:=kM K.T ⟨v,lo,hi⟩ (some r),used:=K.used+1,us:=cf,ho:=bO}:Kd).use s=cf.getD s 0:=rfl
    rw[h4,u1 s (h.ok.mid.two hs).1 e]at h3
    have:=h.ok.pos s d hs
    omega
  have FL:∀{t:Nat},live K.N t→dep K2.n (lv af) K2.N t=dep K.n (lv af) K.N t:=fun{t} ht=>by
   rw[Lj,Iv]
   unfold dep
   rw[aA (hne ht)]
  have Nm:WF K2.n (lv af) K2.N:=A6.wf fun{s d} hs=>by
   rw[Lj]at hs
   by_cases e:s=r
   ·rw[e,az]at hs;cases hs
    rw[FL hlo,FL hhi];exact gZ
   ·rw[aA e]at hs
    rw[FL (h.ok.wf.lo hs).1,FL (h.ok.wf.hi hs).1]
    exact⟨(h.ok.wf.lo hs).2,(h.ok.wf.hi hs).2⟩
  have hS:∀s,live K.N s→up S r (ite S ⟨v,lo,hi⟩) s=S s:=fun s hs=>aA (hne hs)
  refine aZ.here (.inl ⟨r,K2,up S r (ite S ⟨v,lo,hi⟩),rfl,⟨gh,⟨A6,hpos,by rw[Iv];exact h.ok.lv,Nm⟩,by rw[Iv];exact h.od,uO,trivial⟩,⟨Iv,hm.cap,by rw[hm.used];exact Nat.le_refl _,fun s d hs=>by rw[Lj];exact OA s d hs,hS,.inr ⟨_,by rw[Lj];exact az⟩,az,fun s=>?_⟩⟩)
  rw[hm.hold]
  show(if s=r∧2≤r then bO.getD s 0+1 else bO.getD s 0)=_
  by_cases e:s=r
  ·subst e
   rw[if_pos ⟨rfl,h2⟩,if_pos ⟨rfl,h2⟩,o0]
   have:K.hold s=0:=by
    apply Decidable.byContradiction
    intro hne
    obtain⟨d,hd⟩:=h.ok.mid.held s hne
    rw[hN]at hd;cases hd
   omega
  ·rw[if_neg (fun h=>e h.1),if_neg (fun h=>e h.1),o1 s e]
end
theorem hnew{H:Hp}:br [] H (fun X=>X++H):=br.left
theorem Cb{n:Nat}(hn:n≤64):Fc Tryz.prog 118 #[.int .i64 (n:Int)] [] (fun v H=>aN 3 .i64 v (iw (List.range n)) H):=by
 refine aP fun g=>xP ?_
 refine eJ.ints (by omega) (by omega) fun b=>?_
 have h0:aN 3 .i64 (.slice (some ⟨b,0,none⟩) n n) (List.replicate n 0) [(b,.cells (au .i64 (List.replicate n 0)) 3 (0,0))]:=by
  have:=aN.made (T:=3) (kd:=.i64) (b:=b) (List.replicate n (0:Int))
  rw[List.length_replicate]at this;exact this
 refine⟨fun vs H=>∃j:Nat,vs=[.int .i64 (j:Int)]∧j≤n∧aN 3 .i64 (.slice (some ⟨b,0,none⟩) n n) (iw (List.range j)++List.replicate (n-j) 0) H,fun vs _=>n-ca vs 0,JE.mk ⟨0,rfl,by omega,by simpa[iw]using h0⟩,?_⟩
 rintro w H ⟨j,hw,hj,hs⟩ gs
 simp only[List.cons.injEq,and_true]at hw
 subst hw
 refine aa.iC (Br.dec (fun hlt=>?_) (fun hlt=>?_))
 ·refine hs.iI (x:=(j:Int)) .here (by simp;omega) fun C' hs'=>?_
  refine aa.inc ?_
  have e:(iw (List.range j)++List.replicate (n-j) 0).set j (j:Int)=iw (List.range (j+1))++List.replicate (n-(j+1)) 0:=by
   rw[List.set_append_right _ _ (by simp)]
   rw[show n-j=(n-(j+1))+1 by omega,List.replicate_succ,List.range_succ,bQ]
   simp[iw]
  rw[e]at hs'
  exact aB.of (.refl _) ⟨j+1,rfl,by omega,hs'⟩ (by show n-(((j+1:Nat):Int).toNat)<n-(((j:Nat):Int).toNat);omega)
 ·obtain rfl:j=n:=by omega
  exact aZ.here (by simpa using hs)
theorem m0{n:Nat}(hn:n≤64):Fc Tryz.prog 68 #[.int .i64 (n:Int)] [] (fun v H=>∃s,v=.tuple #[s,.int .i64 0]∧aN 3 .i64 s (iw (List.range n)) H):=by
 refine aP fun g=>qL ?_
 refine aa.lss ?_
 rw[decide_eq_false (by omega)]
 refine c7.or false (fun _=>aa.gtr ⟨rfl,by rw[decide_eq_false (by omega)]⟩) rfl fun _=>Br.no ?_
 refine ae.fq (Cb hn) ?_
 intro s H hs
 exact aZ.here ⟨s,rfl,hs⟩
def K0(n cap:Nat):Kd:=⟨n,cap,2,fun _=>none,fun _=>none,[],[]⟩
def S0:Nat→av.Fn:=fun r _=>decide (r=1)
theorem iM{n v:Nat}(hv:v<n):lv (List.range n) v=v:=by
 show(List.range n).getD v 0=v
 simp[List.getD,hv]
theorem LZ{n cap:Nat}(hc:2≤cap∧cap≤1048576):Ok (K0 n cap) S0 (lv (List.range n)):=by
 have c0:∀k,iA (fun _=>none) k=0:=fun k=>by induction k with|zero=>rfl|succ k ih=>rw[iA,ih];rfl
 have hm:fQ (K0 n cap) S0 eZ zero':={
  two:=fun h=>nomatch h
  var:=fun h=>nomatch h
  ne:=fun h=>nomatch h
  lo:=fun h=>nomatch h
  hi:=fun h=>nomatch h
  int:=⟨fun _=>rfl,fun _=>rfl,fun h=>nomatch h⟩
  gK:=fun d r=>⟨fun h=>(nomatch h),fun h=>nomatch h.1⟩
  use:=fun h=>nomatch h
  len:=rfl
  fit:=fun h=>nomatch h
  held:=fun r h=>absurd (by simp[Kd.hold,K0]) h
  mx:=fun r=>by simp[Kd.hold,K0]
  room:=by show 2=2+iA (fun _=>none) _;rw[c0]
  cap:=hc}
 refine⟨hm,fun r d h=>(nomatch h),⟨fun v hv=>?_,fun u v hu hv h=>?_⟩,⟨fun h=>(nomatch h),fun h=>(nomatch h),fun h=>(nomatch h),fun h=>(nomatch h),fun h=>(nomatch h),fun h=>(nomatch h)⟩⟩
 ·have rY:v<n:=hv
  rw[iM rY];exact hv
 ·have tV:u<n:=hu
  have rY:v<n:=hv
  rwa [iM tV,iM rY]at h
theorem sK{pt n cap:Nat}{CT:Hp}(hu:jd pt n (fun _=>none) CT)(hc:2≤cap∧cap≤1048576):Fc Tryz.prog 70 #[.int .i64 (cap:Int),ptr pt] CT (fun v H=>∃pa CA,v=.tuple #[.agg #[ptr pa,ptr pt,.slice none 0 0,.slice none 0 0],.int .i64 0]∧eT pa cap 2 (fun _=>none) CA∧H=CA++CT):=by
 refine aP fun g=>AP ?_
 intro b1 _
 refine ae.fn hnew (Gp hc) ?_
 rintro v C ⟨pa,rfl,hA⟩
 refine Ext.two ?_
 refine Build.mk (cs:=[ptr pa,ptr pt,.slice none 0 0,.slice none 0 0]) (by kernel_rfl) ?_
 refine St.q ?_
 refine ay.q ?_
 exact aZ.mk (.dx .tail _) ⟨pa,C,rfl,hA,rfl⟩
theorem HU{n cap:Nat}(hn:1≤n∧n≤64)(hc:2≤cap∧cap≤1048576):Fc Tryz.prog 40 #[.int .i64 (n:Int),.int .i64 (cap:Int)] [] (fun v C=>∃kp,v=.tuple #[ptr kp,.int .i64 0]∧cv kp (K0 n cap) S0 (List.range n) (List.range n) [] C):=by
 refine aP fun g=>qN ?_
 refine ae.fq (m0 hn.2) ?_
 rintro v CO ⟨s,rfl,hO⟩
 obtain⟨sa,sl,sc,Rg⟩:∃a l c,s=Value.slice a l c:=by obtain⟨a,c,h⟩:=aI.len hO;exact⟨a,_,c,h⟩
 refine Ext.two ?_
 refine aa.eP ?_
 refine c7.or false (fun _=>aa.lss ⟨rfl,by rw[decide_eq_false (by omega)]⟩) rfl fun gs=>?_
 refine c7.or false (fun _=>aa.lss ⟨rfl,by rw[decide_eq_false (by omega)]⟩) rfl fun gs=>?_
 refine c7.or false (fun _=>aa.gtr ⟨rfl,by rw[decide_eq_false (by omega)]⟩) rfl fun gs=>Br.no ?_
 refine ae.fn hnew (Ev hn) ?_
 rintro v CT ⟨pt,rfl,hT⟩
 refine Ext.two ?_
 refine aa.eP (Br.no ?_)
 refine ae.fq (sK hT hc) ?_
 rintro v H ⟨pa,CA,rfl,hA,rfl⟩
 refine Ext.two ?_
 intro T4 _
 refine St.q ?_
 refine aa.eP (Br.no (DR.self ?_))
 refine ay.q ?_
 refine ae.fq (tt (hO.ints.mono fun _ h=>h) (by simp;omega)) ?_
 rintro v H ⟨CL,rfl,hL⟩
 obtain⟨la,ll,lc,hle⟩:∃a l c,v=Value.slice a l c:=by obtain⟨a,c,h⟩:=aI.len hL;exact⟨a,_,c,h⟩
 refine⟨(.cons (.dx .right _)),?_⟩
 subst Rg hle
 refine Build.mk (cs:=[ptr pa,ptr pt,.slice none 0 0,.slice none 0 0,.int .i64 (n:Int),.slice sa sl sc,.slice la ll lc,.slice none 0 0]) (by kernel_rfl) ?_
 intro JN _
 refine⟨(.skip (.cons (.dx .right _))),?_⟩
 let kb:pB:=⟨pa,pt,.slice none 0 0,.slice none 0 0,.slice sa sl sc,.slice la ll lc,.slice none 0 0,CA,CT,[],[],CO,CL,[]⟩
 refine aZ.mk (jQ:=kb.hp JN n) ?_ ⟨JN,rfl,⟨kb,rfl,⟨hA,hT,aN.nil,aN.nil,hO,hL,aN.nil,⟨rfl,by simp[K0]⟩,hn.2,by simp[K0]⟩⟩,LZ hc,⟨by simp[K0],fun l hl=>?_⟩,fun s _=>by simp[Kd.use,K0],trivial⟩
 ·refine .cons (.skip ((aR.assoc).trans ?_))
  show aR (CA++(CT++(CL++CO))) (CA++(CT++([]++([]++(CO++(CL++[]))))))
  simp only[List.nil_append,List.append_nil]
  exact .dx (.dx (.perm List.perm_append_comm) _) _
 ·have hl':l<n:=hl
  have e:(List.range n).getD l 0=l:=iM hl'
  rw[e];exact⟨hl,iM hl'⟩
end Go.Proofs
namespace av
def aK(ord path:List Nat):List Nat:=path.foldl gL ord
theorem mj{ord path:List Nat}{l:Nat}:aK ord (path++[l])=gL (aK ord path) l:=by simp[aK]
theorem kV{ord path q:List Nat}:aK ord (path++q)=aK (aK ord path) q:=by simp[aK]
theorem sb{ord:List Nat}:∀{path:List Nat},(aK ord path).length=ord.length:=by
 intro path
 unfold aK
 induction path generalizing ord with
 |nil=>rfl
 |cons l r ih=>rw[List.foldl_cons,ih];simp[gL]
structure Rm where
 n:Nat
 size:List Nat→Nat
 fit:List Nat→Nat→Bool
end av
set_option maxRecDepth 100000
namespace Go.Proofs
open Go Go.Sx
open av
def At(kp:Nat)(K:Kd)(S:Nat→av.Fn)(ord tr:List Nat)(C:Hp):Prop:=∃K' S' bR,cv kp K' S' ord bR tr C∧Kept K S K' S'
noncomputable def fy(K:Kd)(S:Nat→av.Fn)(ord:List Nat):Nat:=sz K.n ord (K.held S)
def iQ(K:Kd)(S:Nat→av.Fn)(ord:List Nat)(l:Nat):Prop:=pS K.n ord l (K.held S)+2≤K.cap
section
variable {kp:Nat} {K:Kd} {S:Nat→av.Fn} {ord tr:List Nat} {C:Hp}
theorem cv.aH{af:List Nat}(h:cv kp K S ord af tr C):At kp K S ord tr C:=⟨K,S,af,h,.refl _ _⟩
theorem sR{af:List Nat}(h:cv kp K S ord af tr C):K.used=fy K S ord+2:=by
 have h1:=Bi (h.ok.size h.od)
 have h2:=h.ok.mid.room
 unfold fy
 omega
theorem lB{K':Kd}{S':Nat→av.Fn}(h:Kept K S K' S')(ord:List Nat):fy K' S' ord=fy K S ord:=by
 unfold fy;rw[h.n];exact Bj h.held
theorem qm{K':Kd}{S':Nat→av.Fn}(h:Kept K S K' S')(ord:List Nat)(l:Nat):iQ K' S' ord l↔iQ K S ord l:=by
 unfold iQ;rw[h.n,h.cap,zc h.held]
theorem ia(h:At kp K S ord tr C):fy K S ord≤1048574:=by
 obtain⟨K',S',bR,h,hk⟩:=h
 rw[←lB hk];have:=sR h;have:=h.ok.mid.cap;omega
theorem At.mV(h:At kp K S ord tr C):K.n≤64:=by
 obtain⟨K',S',bR,h,hk⟩:=h
 obtain⟨b,_,hO⟩:=h.rep
 rw[←hk.n];exact hO.mV
theorem ic(h:At kp K S ord tr C):Rd Tryz.prog 140 #[ptr kp] C (· =.int .i64 ((fy K S ord:Nat):Int)):=by
 obtain⟨K',S',bR,h,hk⟩:=h
 have hs:=sR h
 have hc:=h.ok.mid.cap
 refine(Fm h.rep (by omega) (by omega)).mono ?_
 rintro v H ⟨rfl,rfl⟩
 exact⟨rfl,by rw[hs,lB hk];rfl⟩
theorem nM(h:At kp K S ord tr C):Rd Tryz.prog 185 #[ptr kp] C (· =.int .i64 ((K.n:Nat):Int)):=by
 obtain⟨K',S',bR,h,hk⟩:=h
 rw[←hk.n];exact oe h.rep
theorem yU(h:At kp K S ord tr C){l:Nat}(hl:l+1<K.n)(iD:tr.length<17592186044416)(hf:iQ K S ord l):Fc Tryz.prog 151 #[ptr kp,.int .i64 (l:Int)] C (fun r C'=>r=.int .i64 0∧At kp K S (gL ord l) (tr++[l]) C'):=by
 obtain⟨K',S',bR,h,hk⟩:=h
 refine(yI h (by rw[hk.n];exact hl) iD).mono ?_
 rintro v C' (⟨_,rfl,K2,S2,H6,h2,lJ⟩|⟨hno,_,_⟩)
 ·exact⟨rfl,K2,S2,H6,h2,hk.trans lJ⟩
 ·have:=(qm hk ord l).2 hf
  unfold iQ at this;omega
theorem oT(h:At kp K S ord tr C){l:Nat}(hl:l+1<K.n)(iD:tr.length<17592186044416)(hf:¬iQ K S ord l):Rd Tryz.prog 151 #[ptr kp,.int .i64 (l:Int)] C (· =.int .i64 9):=by
 obtain⟨K',S',bR,h,hk⟩:=h
 refine(yI h (by rw[hk.n];exact hl) iD).mono ?_
 rintro v C' (⟨Nj,_⟩|⟨hno,rfl,rfl⟩)
 ·exact absurd ((qm hk ord l).1 Nj) hf
 ·exact⟨rfl,rfl⟩
theorem yT{l:Nat}(h:At kp K S ord (tr++[l]) C)(iD:tr.length<17592186044416):Fc Tryz.prog 338 #[ptr kp] C (fun r C'=>r=.tuple #[.int .i64 (l:Int),.int .i64 0]∧At kp K S (gL ord l) tr C'):=by
 obtain⟨K',S',bR,h,hk⟩:=h
 refine(Ew h iD).mono ?_
 rintro v C' ⟨rfl,_,K2,S2,H6,h2,lJ⟩
 exact⟨rfl,K2,S2,H6,h2,hk.trans lJ⟩
end
end Go.Proofs
namespace Go.Sx
open Go
section
variable {P:Program} {g:Gh} {H:Hp}
theorem ff.nat{len size b o j:Nat}{kd:IntKind}{k:Value→Prop}(h1:j<len)(h:k (.pointer (some ⟨b,o+j*size,none⟩))):ff len size (.pointer (some ⟨b,o,none⟩)) (.int kd (j:Int)) k:=
 ⟨b,o,kd,(j:Int),rfl,rfl,by omega,by omega,by simpa using h⟩
theorem fx.LI{o:Oper}{ρ:Operand→Value}{k:Value→Prop}{t e:TypeId}{q kd:IntKind}{n j:Nat}{x i:Operand}{l:List Int}{z:Int}(ho:o.op=.index t x i)(hx:ρ x=.agg (au q l))(hi:ρ i=.int kd (j:Int))
 (ht:P.underlying t=some (.array n e))(hu:P.underlying e=some (.int q))(hz:cC P e=some 1)(hj:j<n)(hl:l[j]? =some z)(hk:k (.int q z)):fx P g o ρ H k:=by
 obtain⟨inf,NW,hs⟩:=aW hz
 refine⟨_,fun w _=>?_,hk⟩
 have hp:=k7 (P:=P) hu hl w
 have CV:(0:Int)≤(j:Int)∧(j:Int)<(n:Int):=by omega
 simp only[execOp,ho,Instr.index,hx,hi,asIntOf,Sem.run_bind,Sem.run_pure,Result.andThen_ok,run_underlying ht,run_sizeOf NW,hs,if_pos CV,Int.toNat_natCast,Nat.mul_one,hp]
end
end Go.Sx
namespace av
open eH
def SF(m v:Nat):Nat:=if m.testBit v then m^^^2^v else m
def rest(m:Nat)(ord:List Nat):Nat→Nat
 |0=>m
 |k+1=>SF (rest m ord k) (ord.getD k 0)
section
variable {n m o:Nat} {ord:List Nat} {F:Fn→Prop}
theorem getD_inj(hn:ord.Nodup){i j:Nat}(hi:i<ord.length)(hj:j<ord.length)(e:ord.getD i 0=ord.getD j 0):i=j:=by
 rw[List.getD_eq_getElem?_getD,List.getD_eq_getElem?_getD,List.getElem?_eq_getElem hi,List.getElem?_eq_getElem hj]at e
 exact(List.getElem_inj hn).1 e
theorem HD{k k' l:Nat}(h:jJ (aF n ord F) k)(h':jJ (aF n (gL ord l) F) k'):pS n ord l F≤k+k':=by
 unfold pS
 split
 ·rename_i hh
  obtain⟨l0,h1,h2,h3⟩:=Classical.choose_spec hh
  obtain⟨l1,a1,a2,a3⟩:=h
  obtain⟨l2,b1,b2,b3⟩:=h'
  have:=bE (l':=l1++l2) h1 fun g hg=>by
   rcases(h3 g).2 hg with h|h
   ·exact List.mem_append_left _ ((a3 g).1 h)
   ·exact List.mem_append_right _ ((b3 g).1 h)
  rw[List.length_append]at this;omega
 ·omega
theorem Bl{l:Nat}(hl:l+1<ord.length):(gL ord l).Perm ord:=by
 unfold gL
 have e1:ord=ord.take l++ord.getD l 0::ord.getD (l+1) 0::ord.drop (l+2):=by
  conv=>lhs;rw[←List.take_append_drop l ord]
  congr 1
  rw[List.drop_eq_getElem_cons (by omega),List.drop_eq_getElem_cons (by omega)]
  simp[List.getD,List.getElem?_eq_getElem (show l<ord.length by omega),List.getElem?_eq_getElem hl]
 have ht:(ord.take l).length=l:=by simp;omega
 have e2:(ord.set l (ord.getD (l+1) 0)).set (l+1) (ord.getD l 0)=ord.take l++ord.getD (l+1) 0::ord.getD l 0::ord.drop (l+2):=by
  generalize hx:ord.getD l 0=x at*
  generalize hy:ord.getD (l+1) 0=y at*
  conv=>lhs;rw[e1]
  rw[List.set_append_right _ _ (by omega),ht,Nat.sub_self,List.set_cons_zero,List.set_append_right _ _ (by omega),ht,Nat.add_sub_cancel_left,List.set_cons_succ,List.set_cons_zero]
 rw[e2]
 conv=>rhs;rw[e1]
 exact List.Perm.append_left _ (List.Perm.swap _ _ _)
theorem pT:∀{path:List Nat} {ord:List Nat},(∀l∈path,l+1<ord.length)→(aK ord path).Perm ord
 | [],_,_=>.refl _
 |l::r,ord,h=>by
  show(aK (gL ord l) r).Perm ord
  have h1:=h l (by simp)
  exact(pT fun x hx=>by rw[jk];exact h x (by simp[hx])).trans (Bl h1)
end
def flat(n s:Nat):Rm:=⟨n,fun _=>s,fun _ _=>true⟩
end av
namespace av
def Qp(i:Nat):Nat→List Nat
 |0=>[]
 |j+1=>if i≤j then j::Qp i j else []
def QM(p:List Nat)(x:Nat):Nat:=p.idxOf x
def BO(p q:List Nat):Nat→List Nat
 |0=>[]
 |i+1=>BO p q i++Qp i (QM (aK p (BO p q i)) (q.getD i 0))
def path(p q:List Nat):List Nat:=BO p q q.length
end av
namespace av
open eH
section
variable {n l:Nat} {ord:List Nat} {F G:Fn→Prop} {f c:Fn}
theorem qu:∀l g,fs ord (fun g=>F g∨G g) l g↔fs ord F l g∨fs ord G l g
 |0,g=>Iff.rfl
 |l+1,g=>by
  constructor
  ·rintro⟨f,hf,b,rfl⟩
   rcases(qu l f).1 hf with h|h
   ·exact .inl ⟨f,h,b,rfl⟩
   ·exact .inr ⟨f,h,b,rfl⟩
  ·rintro(⟨f,hf,b,rfl⟩|⟨f,hf,b,rfl⟩)
   ·exact⟨f,(qu l f).2 (.inl hf),b,rfl⟩
   ·exact⟨f,(qu l f).2 (.inr hf),b,rfl⟩
theorem sJ(g:Fn):aF n ord (fun g=>F g∨G g) g↔aF n ord F g∨aF n ord G g:=by
 constructor
 ·rintro⟨l,hl,hf,hh⟩
  rcases(qu l g).1 hf with h|h
  ·exact .inl ⟨l,hl,h,hh⟩
  ·exact .inr ⟨l,hl,h,hh⟩
 ·rintro(⟨l,hl,hf,hh⟩|⟨l,hl,hf,hh⟩)
  ·exact⟨l,hl,(qu l g).2 (.inl hf),hh⟩
  ·exact⟨l,hl,(qu l g).2 (.inr hf),hh⟩
theorem eG{v:Nat}(h:¬cq f v)(x:Nat)(b:Bool):f (aO x v b)=f x:=by
 have h0:f (aO x v false)=f (aO x v true):=Classical.byContradiction fun hne=>h ⟨x,hne⟩
 have h1:=jo x v
 conv=>rhs;rw[←h1]
 cases b<;>cases x.testBit v<;>simp[h0]
theorem rM(hi:∀j,j<l→¬cq f (ord.getD j 0)):∀k,k≤l→fs ord (fun g=>g=f) k f
 |0,_=>rfl
 |k+1,hk=>⟨f,rM hi k (by omega),false,funext fun x=>(eG (hi k (by omega)) x false).symm⟩
theorem nI(hi:∀j,j<l→¬cq f (ord.getD j 0)):∀k,k≤l→∀g,fs ord (fun g=>g=f) k g→g=f
 |0,_,g,h=>h
 |k+1,hk,g,h=>by
  obtain⟨f',hf,b,rfl⟩:=h
  obtain rfl:=nI hi k (by omega) f' hf
  exact funext fun x=>eG (hi k (by omega)) x b
theorem pU(hi:∀j,j<l→¬cq f (ord.getD j 0)){b:Bool}(hc:c=fun x=>f (aO x (ord.getD l 0) b)):
  (∀j,j<l+1→¬cq c (ord.getD j 0))∧∀g,aF n ord (fun g=>g=c) g→aF n ord (fun g=>g=f) g:=by
 have h1:fs ord (fun g=>g=f) (l+1) c:=⟨f,rM hi l (Nat.le_refl _),b,hc⟩
 have h2:∀j,j<l+1→¬cq c (ord.getD j 0):=fun j hj=>ta (l+1) c h1 j hj
 refine⟨h2,?_⟩
 rintro g ⟨m,hm,hf,hh⟩
 by_cases e:m<l+1
 ·obtain rfl:=nI h2 m (by omega) g hf
  exact absurd hh (h2 m e)
 ·have key:∀d g,fs ord (fun g=>g=c) (l+1+d) g→fs ord (fun g=>g=f) (l+1+d) g:=fun d=>by
   induction d with
   |zero=>intro g hg;obtain rfl:=nI h2 (l+1) (Nat.le_refl _) g hg;exact h1
   |succ d ih=>rintro g ⟨f',Ea,b',rfl⟩;exact⟨f',ih f' Ea,b',rfl⟩
  obtain⟨d,rfl⟩:∃d,m=l+1+d:=⟨m-(l+1),by omega⟩
  exact⟨_,hm,key d g hf,hh⟩
theorem pX(hi:∀j,j<l→¬cq f (ord.getD j 0))(hl:l<n)(hh:cq f (ord.getD l 0)):aF n ord (fun g=>g=f) f:=⟨l,hl,rM hi l (Nat.le_refl _),hh⟩
end
section
variable {K:Kd} {S:Nat→Fn} {af:Nat→Nat} {ord:List Nat}
theorem Ok.below(h:Ok K S af)(ho:Ord K.n af ord){r l:Nat}(hr:live K.N r)(hl:l≤K.n)(hi:∀j,j<l→¬cq (S r) (ord.getD j 0)):l≤dep K.n af K.N r:=by
 cases e:K.N r with
 |none=>rw[aL e];exact hl
 |some d=>
  rw[aj e]
  refine Classical.byContradiction fun hlt=>?_
  have gZ:af d.v<l:=Nat.lt_of_not_le hlt
  have:=hi _ gZ
  rw[ho.of h.lv (h.mid.var e)]at this
  exact this (eA h.wf h.lv h.mid.int e)
theorem Ok.roomFor(h:Ok K S af)(ho:Ord K.n af ord){U:Fn→Prop}{k:Nat}(hk:jJ U k)(hfit:k+2≤K.cap)(hU:∀g,aF K.n ord (K.held S) g→U g){d:Nd}
 (hlo:live K.N d.lo)(hhi:live K.N d.hi)(hne:d.lo≠d.hi)(hv:d.v<K.n)(hlt:af d.v<dep K.n af K.N d.lo∧af d.v<dep K.n af K.N d.hi)(hg:U (ite S d))(hT:K.T d=none):K.used<K.cap:=by
 have hs:=h.size ho
 have hu:=h.mid.room
 obtain⟨l1,a1,a2,a3⟩:=hs
 have Iu:ite S d∉l1:=fun hm=>by
  obtain⟨r,e,hr,he⟩:=(iK h.wf h.lv ho h.mid.int (fun r hr=>.inr (h.mid.held r hr)) h.reach (ite S d)).1 ((a3 _).2 hm)
  have Ov:¬K.N r=some d:=fun hN=>by
   have:=(h.mid.gK d r).2 ⟨hN,fun x=>x⟩
   rw[hT]at this;cases this
  apply Ov
  have Cj:S r=ite S d:=he.symm
  have Cd:e.v=d.v:=by
   have e1:=h.lv.lt e.v (h.mid.var hr)
   have e2:=h.lv.lt d.v hv
   rcases Nat.lt_trichotomy (af e.v) (af d.v)with hh|hh|hh
   ·exfalso
    obtain⟨z,hz⟩:=eA h.wf h.lv h.mid.int hr
    rw[Cj]at hz
    apply hz
    unfold ite
    have i1:=h.wf.bt h.lv h.mid.int hlo (h.mid.var hr) (by omega)
    have i2:=h.wf.bt h.lv h.mid.int hhi (h.mid.var hr) (by omega)
    have zX:d.v≠e.v:=fun kP=>by rw[kP]at hh;omega
    simp only[ah,if_neg zX,i1,i2]
   ·exact h.lv.inj _ _ (h.mid.var hr) hv hh
   ·exfalso
    have hx:=h.wf.bt h.lv h.mid.int (r:=r) (.inr ⟨e,hr⟩) hv (by rw[aj hr];exact hh)
    apply hne
    refine h.wf.same h.lv h.mid.int hlo hhi fun x=>?_
    have i1:=h.wf.bt h.lv h.mid.int hlo hv hlt.1
    have i2:=h.wf.bt h.lv h.mid.int hhi hv hlt.2
    have q1:=hx x false
    have q2:=hx x true
    rw[Cj]at q1 q2
    have q3:=q1.trans q2.symm
    unfold ite at q3
    simp only[ah,if_true,i1,i2,Bool.false_eq_true,if_false]at q3
    exact q3
  have g7:∀(b:Bool) x,S (if b then e.hi else e.lo) x=S (if b then d.hi else d.lo) x:=fun b x=>by
   rw[←h.wf.child h.lv h.mid.int hr x b,Cj,Cd]
   have i1:=h.wf.bt h.lv h.mid.int hlo hv hlt.1
   have i2:=h.wf.bt h.lv h.mid.int hhi hv hlt.2
   unfold ite
   rw[ah,if_pos rfl,i1,i2]
   cases b<;>rfl
  have e1:e.lo=d.lo:=h.wf.same h.lv h.mid.int (h.mid.lo hr) hlo fun x=>g7 false x
  have e2:e.hi=d.hi:=h.wf.same h.lv h.mid.int (h.mid.hi hr) hhi fun x=>g7 true x
  have KM:∀a b:Nd,a.v=b.v→a.lo=b.lo→a.hi=b.hi→a=b:=fun a b h1 h2 h3=>by
   cases a;cases b;cases h1;cases h2;cases h3;rfl
  rw[hr,KM e d Cd e1 e2]
 obtain⟨l2,b1,b2,b3⟩:=hk
 have:=bE (l:=ite S d::l1) (l':=l2) (List.nodup_cons.2 ⟨Iu,a1⟩) fun g N7=>by
  rcases List.mem_cons.1 N7 with rfl|N7
  ·exact(b3 _).1 hg
  ·exact(b3 _).1 (hU g ((a3 g).2 N7))
 rw[List.length_cons]at this
 omega
end
end av
namespace av
open eH
def eW(N:cN)(v:Nat)(b:Bool)(r:Nat):Nat:=match N r with
 |some d=>if d.v=v then(if b then d.hi else d.lo)else r
 |none=>r
def fw(N:cN)(v:Nat)(b:Bool)(q:List Nat):List Nat:=q.map (eW N v b)
structure oW(n:Nat)(af:Nat→Nat)(N:cN)(q:List Nat)(v:Nat):Prop where
 lt:v<n
 ex:∃r∈q,∃d,N r=some d∧d.v=v
 le:∀r∈q,af v≤dep n af N r
inductive Tree(n:Nat)(af:Nat→Nat)(N:cN):List Nat→Nat→Prop
 |leaf {q:List Nat} (h:∀r∈q,N r=none):Tree n af N q 0
 |node {q:List Nat} {v a b:Nat} (h:oW n af N q v) (ha:Tree n af N (fw N v false q) a) (hb:Tree n af N (fw N v true q) b):Tree n af N q (a+b+1)
def nA(t:Bool→Bool→Bool→Bool)(S:Nat→Fn)(q:List Nat):Fn:=fun x=>t (S (q.getD 0 0) x) (S (q.getD 1 0) x) (S (q.getD 2 0) x)
section
variable {n:Nat} {af:Nat→Nat} {N:cN} {S:Nat→Fn} {q:List Nat} {v:Nat}
theorem oW.uniq(hl:jh n af){u:Nat}(h:oW n af N q v)(h':oW n af N q u):v=u:=by
 obtain⟨r,hr,d,hd,rfl⟩:=h.ex
 obtain⟨s,hs,e,he,rfl⟩:=h'.ex
 have a:=h.le s hs
 have b:=h'.le r hr
 rw[aj he]at a
 rw[aj hd]at b
 exact hl.inj _ _ h.lt h'.lt (by omega)
theorem lY(h:WF n af N)(hl:jh n af)(hi:Interp N S){r:Nat}(hr:live N r)(hv:v<n)(hle:af v≤dep n af N r)(b:Bool):
  (∀x,S (eW N v b r) x=S r (aO x v b))∧live N (eW N v b r)∧af v+1≤dep n af N (eW N v b r):=by
 have hlt:=hl.lt v hv
 unfold eW
 cases e:N r with
 |none=>
  simp only
  refine⟨fun x=>?_,hr,by rw[aL e];omega⟩
  exact(h.bt hl hi hr hv (by rw[aL e];exact hlt) x b).symm
 |some d=>
  simp only
  rw[aj e]at hle
  by_cases ev:d.v=v
  ·rw[if_pos ev]
   subst ev
   refine⟨fun x=>(h.child hl hi e x b).symm,?_,?_⟩
   ·cases b
    ·exact(h.lo e).1
    ·exact(h.hi e).1
   ·cases b
    ·exact(h.lo e).2
    ·exact(h.hi e).2
  ·rw[if_neg ev]
   have hne:af v≠af d.v:=fun e2=>ev (hl.inj _ _ (h.var e) hv e2.symm)
   refine⟨fun x=>(h.bt hl hi hr hv (by rw[aj e];omega) x b).symm,hr,by rw[aj e];omega⟩
theorem DB(b:Bool):(fw N v b q).length=q.length:=by simp[fw]
theorem DC{b:Bool}{i:Nat}(hi:i<q.length):(fw N v b q).getD i 0=eW N v b (q.getD i 0):=by
 simp[fw,List.getD,List.getElem?_eq_getElem hi]
theorem nL(h:WF n af N)(hl:jh n af)(hi:Interp N S)(hq:∀r∈q,live N r)(ht:oW n af N q v)(b:Bool):
  (∀r∈fw N v b q,live N r)∧(∀r∈fw N v b q,af v+1≤dep n af N r):=by
 constructor
 ·intro r hr
  obtain⟨s,hs,rfl⟩:=List.mem_map.1 hr
  exact(lY h hl hi (hq s hs) ht.lt (ht.le s hs) b).2.1
 ·intro r hr
  obtain⟨s,hs,rfl⟩:=List.mem_map.1 hr
  exact(lY h hl hi (hq s hs) ht.lt (ht.le s hs) b).2.2
theorem Gb(h:WF n af N)(hl:jh n af)(hi:Interp N S)(h3:q.length=3)(hq:∀r∈q,live N r)(ht:oW n af N q v)(t:Bool→Bool→Bool→Bool)(b:Bool):nA t S (fw N v b q)=fun x=>nA t S q (aO x v b):=by
 funext x
 have key:∀i,i<3→S ((fw N v b q).getD i 0) x=S (q.getD i 0) (aO x v b):=fun i ID=>by
  have hi':i<q.length:=by omega
  rw[DC hi']
  have hm:q.getD i 0∈q:=by rw[List.getD_eq_getElem?_getD,List.getElem?_eq_getElem hi'];exact List.getElem_mem _
  exact(lY h hl hi (hq _ hm) ht.lt (ht.le _ hm) b).1 x
 unfold nA
 rw[key 0 (by omega),key 1 (by omega),key 2 (by omega)]
theorem Ah(h:WF n af N)(hl:jh n af)(hi:Interp N S){ord:List Nat}(ho:Ord n af ord)(h3:q.length=3)(hq:∀r∈q,live N r){l:Nat}(zP:l≤n)(hle:∀r∈q,l≤dep n af N r)(t:Bool→Bool→Bool→Bool):∀j,j<l→¬cq (nA t S q) (ord.getD j 0):=by
 rintro j hj ⟨x,hx⟩
 apply hx
 obtain⟨o1,o2⟩:=ho.aH j (by omega)
 have key:∀i,i<3→∀b,S (q.getD i 0) (aO x (ord.getD j 0) b)=S (q.getD i 0) x:=fun i ID b=>by
  have hi':i<q.length:=by omega
  have hm:q.getD i 0∈q:=by rw[List.getD_eq_getElem?_getD,List.getElem?_eq_getElem hi'];exact List.getElem_mem _
  exact h.bt hl hi (hq _ hm) o1 (by rw[o2];exact Nat.lt_of_lt_of_le hj (hle _ hm)) x b
 unfold nA
 simp only[key 0 (by omega),key 1 (by omega),key 2 (by omega)]
theorem Ai(hi:Interp N S)(h3:q.length=3)(hq:∀r∈q,r<2)(t:Bool→Bool→Bool→Bool)(x:Nat):nA t S q x=t (decide (q.getD 0 0=1)) (decide (q.getD 1 0=1)) (decide (q.getD 2 0=1)):=by
 have key:∀i,i<3→S (q.getD i 0) x=decide (q.getD i 0=1):=fun i ID=>by
  have hi':i<q.length:=by omega
  have hm:q.getD i 0∈q:=by rw[List.getD_eq_getElem?_getD,List.getElem?_eq_getElem hi'];exact List.getElem_mem _
  have:=hq _ hm
  have h2:q.getD i 0=0∨q.getD i 0=1:=by omega
  rcases h2 with e|e<;>rw[e]
  ·rw[hi.zero];rfl
  ·rw[hi.one];rfl
 unfold nA
 rw[key 0 (by omega),key 1 (by omega),key 2 (by omega)]
theorem Bh(h:WF n af N):∀{q:List Nat},(∃r∈q,∃d,N r=some d)→(hl:jh n af)→∃v,oW n af N q v
 | [],he,_=>by obtain⟨r,hr,_⟩:=he;cases hr
 |s::q,he,hl=>by
  by_cases hq:∃r∈q,∃d,N r=some d
  ·obtain⟨v,hv⟩:=Bh h hq hl
   cases es:N s with
   |none=>
    refine⟨v,hv.lt,?_,fun r hr=>?_⟩
    ·obtain⟨r,hr,x⟩:=hv.ex;exact⟨r,by simp[hr],x⟩
    ·rcases List.mem_cons.1 hr with rfl|hr
     ·rw[aL es];exact Nat.le_of_lt (hl.lt v hv.lt)
     ·exact hv.le r hr
   |some d=>
    by_cases hlt:af d.v≤af v
    ·refine⟨d.v,h.var es,⟨s,by simp,d,es,rfl⟩,fun r hr=>?_⟩
     rcases List.mem_cons.1 hr with rfl|hr
     ·rw[aj es];exact Nat.le_refl _
     ·exact Nat.le_trans hlt (hv.le r hr)
    ·refine⟨v,hv.lt,?_,fun r hr=>?_⟩
     ·obtain⟨r,hr,x⟩:=hv.ex;exact⟨r,by simp[hr],x⟩
     ·rcases List.mem_cons.1 hr with rfl|hr
      ·rw[aj es];omega
      ·exact hv.le r hr
  ·obtain⟨r,hr,d,hd⟩:=he
   rcases List.mem_cons.1 hr with rfl|hr
   ·refine⟨d.v,h.var hd,⟨r,by simp,d,hd,rfl⟩,fun s hs=>?_⟩
    rcases List.mem_cons.1 hs with rfl|hs
    ·rw[aj hd];exact Nat.le_refl _
    ·have:N s=none:=by
      cases e:N s with
      |none=>rfl
      |some d'=>exact absurd ⟨s,hs,d',e⟩ hq
     rw[aL this];exact Nat.le_of_lt (hl.lt _ (h.var hd))
   ·exact absurd ⟨r,hr,d,hd⟩ hq
theorem Ex(h:WF n af N)(hl:jh n af)(hi:Interp N S):∀(k l:Nat) (q:List Nat),n-l≤k→l≤n→(∀r∈q,live N r)→(∀r∈q,l≤dep n af N r)→∃c,Tree n af N q c∧c+1≤2^(n-l):=by
 intro k
 induction k with
 |zero=>
  intro l q hk zP hq hd
  refine⟨0,.leaf fun r hr=>?_,Nat.one_le_two_pow⟩
  cases e:N r with
  |none=>rfl
  |some d=>have:=hd r hr;rw[aj e]at this;have:=hl.lt _ (h.var e);omega
 |succ k ih=>
  intro l q hk zP hq hd
  by_cases he:∃r∈q,∃d,N r=some d
  ·obtain⟨v,hv⟩:=Bh h he hl
   have hlv:=hl.lt v hv.lt
   have pF:l≤af v:=by
    obtain⟨r,hr,d,cE,rfl⟩:=hv.ex
    have:=hd r hr
    rwa [aj cE]at this
   obtain⟨f1,f2⟩:=nL (S:=S) h hl hi hq hv false
   obtain⟨t1,t2⟩:=nL (S:=S) h hl hi hq hv true
   obtain⟨a,ha,tZ⟩:=ih (af v+1) _ (by omega) hlv f1 f2
   obtain⟨b,hb,pH⟩:=ih (af v+1) _ (by omega) hlv t1 t2
   refine⟨a+b+1,.node hv ha hb,?_⟩
   have e1:2^(n-af v)=2*2^(n-(af v+1)):=by
    rw[show n-af v=(n-(af v+1))+1 by omega,Nat.pow_succ,Nat.mul_comm]
   have e2:2^(n-af v)≤2^(n-l):=Nat.pow_le_pow_right (by decide) (by omega)
   omega
  ·refine⟨0,.leaf fun r hr=>?_,Nat.one_le_two_pow⟩
   cases e:N r with
   |none=>rfl
   |some d=>exact absurd ⟨r,hr,d,e⟩ he
def gT(N:cN)(v:Nat)(b:Bool)(q:List Nat)(i:Nat):List Nat:=(fw N v b q).take i++q.drop i
theorem sL{b:Bool}{i:Nat}(hi:i≤q.length):(gT N v b q i).length=q.length:=by simp[gT,fw];omega
theorem p8(b:Bool):gT N v b q 0=q:=by simp[gT]
theorem BV(b:Bool):gT N v b q q.length=fw N v b q:=by
 unfold gT
 rw[List.take_of_length_le (by rw[DB];exact Nat.le_refl _),List.drop_length,List.append_nil]
theorem mA{b:Bool}{i r:Nat}(hr:q[i]? =some r):(gT N v b q i).set i (eW N v b r)=gT N v b q (i+1):=by
 have hi:=(List.getElem?_eq_some_iff.1 hr).1
 have he:=(List.getElem?_eq_some_iff.1 hr).2
 have hl:((fw N v b q).take i).length=i:=by simp[fw];omega
 have hc:(fw N v b q)[i]? =some (eW N v b r):=by simp[fw,hr]
 unfold gT
 rw[List.set_append_right _ _ (by omega),hl,Nat.sub_self,List.drop_eq_getElem_cons hi,List.set_cons_zero,List.take_add_one,hc,List.append_assoc]
 rfl
theorem p9{b:Bool}{i r:Nat}(hr:q[i]? =some r)(h:eW N v b r=r):gT N v b q (i+1)=gT N v b q i:=by
 rw[←mA hr,h]
 have hi:=(List.getElem?_eq_some_iff.1 hr).1
 have he:=(List.getElem?_eq_some_iff.1 hr).2
 have hl:((fw N v b q).take i).length=i:=by simp[fw];omega
 unfold gT
 rw[List.set_append_right _ _ (by omega),hl,Nat.sub_self,List.drop_eq_getElem_cons hi,List.set_cons_zero,he]
end
end av
set_option maxRecDepth 100000
namespace Go.Proofs
open Go Go.Sx
open av
noncomputable instance {K:Kd}{S:Nat→av.Fn}{ord:List Nat}{l:Nat}:Decidable (iQ K S ord l):=Nat.decLe _ _
noncomputable def rm(K:Kd)(S:Nat→av.Fn):Rm:=⟨K.n,fy K S,fun ord l=>decide (iQ K S ord l)⟩
theorem uv{K:Kd}{S:Nat→av.Fn}{ord:List Nat}{l:Nat}:(rm K S).fit ord l=true↔iQ K S ord l:=by
 show decide (iQ K S ord l)=true↔_
 exact decide_eq_true_iff
end Go.Proofs
set_option maxRecDepth 100000
namespace Go.Proofs
open Go Go.Sx
open av
def rep(b a s:Nat):Value:=.agg #[.int .i64 (b:Int),.int .i64 (a:Int),.int .i64 (s:Int),.bool false]
theorem bP{ws:List Nat}{i:Nat}(h:i<ws.length):(iw ws)[i]? =some ((ws.getD i 0:Nat):Int):=by
 rw[iS (w:=ws.getD i 0)]
 rw[List.getD_eq_getElem?_getD,List.getElem?_eq_getElem h];rfl
def Ke(n:Nat)(p:List Int):Prop:=p.length=n∧∀v:Nat,v<n→p.count (v:Int)=1
instance (n:Nat)(p:List Int):Decidable (Ke n p):=by unfold Ke;infer_instance
theorem HX{q:List Nat}{x:Nat}:(x:Int)∈iw q↔x∈q:=by
 unfold iw
 rw[List.mem_map]
 exact⟨fun⟨y,hy,e⟩=>by rw[←Int.ofNat.inj e];exact hy,fun h=>⟨x,h,rfl⟩⟩
theorem Ge(a k:Nat):decide ((a>>>k)%2=1)=a.testBit k:=by
 cases hb:a.testBit k
 ·rw[decide_eq_false];rw[eH.yR,hb];simp
 ·rw[decide_eq_true];rw[eH.yR,hb]
theorem Dk{ord:List Nat}{F G:av.Fn→Prop}(h:∀g,F g→G g):∀l g,fs ord F l g→fs ord G l g
 |0,g,hg=>h g hg
 |l+1,g,⟨f,hf,b,e⟩=>⟨f,Dk h l f hf,b,e⟩
theorem ew{n:Nat}{ord:List Nat}{F G:av.Fn→Prop}(h:∀g,F g→G g){g:av.Fn}(hg:aF n ord F g):aF n ord G g:=let ⟨l,a,b,c⟩:=hg;⟨l,a,Dk h l g b,c⟩
structure px(K:Kd)(S:Nat→av.Fn)(K':Kd)(S':Nat→av.Fn)(f:av.Fn)(r:Nat):Prop where
 n:K'.n=K.n
 cap:K'.cap=K.cap
 N:∀s d,K.N s=some d→K'.N s=some d
 fn:∀s,live K.N s→S' s=S s
 live:live K'.N r
 is:S' r=f
 hold:∀s,K'.hold s=K.hold s+if s=r∧2≤r then 1 else 0
theorem jz{N N':cN}(h:∀s d,N s=some d→N' s=some d){s:Nat}(hs:live N s):live N' s:=by
 rcases hs with hs|⟨d,hd⟩
 ·exact .inl hs
 ·exact .inr ⟨d,h s d hd⟩
theorem uG{K K5:Kd}{S S5:Nat→av.Fn}{af:Nat→Nat}(hK:Ok K S af)(JJ:Ok K5 S5 af)(hold:∀s,K.hold s≠0→K5.hold s≠0)(h3:∀s d d',K.N s=some d→K5.N s=some d'→d'=d):
  ∀(k s:Nat) (d:Nd),K.N s=some d→af d.v≤k→K5.N s=some d:=by
 intro k
 induction k with
 |zero=>
  intro s d hd hl
  have fin:live K5.N s→K5.N s=some d:=fun hs=>by
   rcases hs with hs|⟨d',cE⟩
   ·have:=(hK.mid.two hd).1;omega
   ·rw[cE,h3 s d d' hd cE]
  rcases hK.reach s d hd with h|⟨p,e,hp,he⟩
  ·exact fin (.inr (JJ.mid.held s (hold s h)))
  ·have h1:=hK.wf.lo hp
   have h2:=hK.wf.hi hp
   rcases he with rfl|rfl
   ·have:=h1.2;rw[aj hd]at this;omega
   ·have:=h2.2;rw[aj hd]at this;omega
 |succ k ih=>
  intro s d hd hl
  have fin:live K5.N s→K5.N s=some d:=fun hs=>by
   rcases hs with hs|⟨d',cE⟩
   ·have:=(hK.mid.two hd).1;omega
   ·rw[cE,h3 s d d' hd cE]
  rcases hK.reach s d hd with h|⟨p,e,hp,he⟩
  ·exact fin (.inr (JJ.mid.held s (hold s h)))
  ·have h1:=hK.wf.lo hp
   have h2:=hK.wf.hi hp
   rcases he with rfl|rfl
   ·have:=h1.2;rw[aj hd]at this
    exact fin (JJ.mid.lo (ih p e hp (by omega)))
   ·have:=h2.2;rw[aj hd]at this
    exact fin (JJ.mid.hi (ih p e hp (by omega)))
end Go.Proofs
namespace av
open eH
section
variable {K:Kd} {S:Nat→Fn} {af:Nat→Nat}
theorem Ok.E4(h:Ok K S af){d e:Nd}{r:Nat}
 (hlo:live K.N d.lo)(hhi:live K.N d.hi)(hne:d.lo≠d.hi)(hv:d.v<K.n)(hlt:af d.v<dep K.n af K.N d.lo∧af d.v<dep K.n af K.N d.hi)(hr:K.N r=some e)(Cj:S r=ite S d):e=d:=by
 have Cd:e.v=d.v:=by
  have e1:=h.lv.lt e.v (h.mid.var hr)
  have e2:=h.lv.lt d.v hv
  rcases Nat.lt_trichotomy (af e.v) (af d.v)with hh|hh|hh
  ·exfalso
   obtain⟨z,hz⟩:=eA h.wf h.lv h.mid.int hr
   rw[Cj]at hz
   apply hz
   unfold ite
   have i1:=h.wf.bt h.lv h.mid.int hlo (h.mid.var hr) (by omega)
   have i2:=h.wf.bt h.lv h.mid.int hhi (h.mid.var hr) (by omega)
   have zX:d.v≠e.v:=fun kP=>by rw[kP]at hh;omega
   simp only[ah,if_neg zX,i1,i2]
  ·exact h.lv.inj _ _ (h.mid.var hr) hv hh
  ·exfalso
   have hx:=h.wf.bt h.lv h.mid.int (r:=r) (.inr ⟨e,hr⟩) hv (by rw[aj hr];exact hh)
   apply hne
   refine h.wf.same h.lv h.mid.int hlo hhi fun x=>?_
   have i1:=h.wf.bt h.lv h.mid.int hlo hv hlt.1
   have i2:=h.wf.bt h.lv h.mid.int hhi hv hlt.2
   have q1:=hx x false
   have q2:=hx x true
   rw[Cj]at q1 q2
   have q3:=q1.trans q2.symm
   unfold ite at q3
   simp only[ah,if_true,i1,i2,Bool.false_eq_true,if_false]at q3
   exact q3
 have g7:∀(b:Bool) x,S (if b then e.hi else e.lo) x=S (if b then d.hi else d.lo) x:=fun b x=>by
  rw[←h.wf.child h.lv h.mid.int hr x b,Cj,Cd]
  have i1:=h.wf.bt h.lv h.mid.int hlo hv hlt.1
  have i2:=h.wf.bt h.lv h.mid.int hhi hv hlt.2
  unfold ite
  rw[ah,if_pos rfl,i1,i2]
  cases b<;>rfl
 have e1:e.lo=d.lo:=h.wf.same h.lv h.mid.int (h.mid.lo hr) hlo fun x=>g7 false x
 have e2:e.hi=d.hi:=h.wf.same h.lv h.mid.int (h.mid.hi hr) hhi fun x=>g7 true x
 have KM:∀a b:Nd,a.v=b.v→a.lo=b.lo→a.hi=b.hi→a=b:=fun a b h1 h2 h3=>by
  cases a;cases b;cases h1;cases h2;cases h3;rfl
 exact KM e d Cd e1 e2
end
end av
set_option maxRecDepth 100000
namespace Go.Proofs
open Go Go.Sx
open av
def dL(bw kp:Nat)(vl vm:Value):Nat×Obj:=(bw,.cells #[ptr kp,vl,vm] 305 (0,0))
abbrev Q3:=Nat×Nat×Nat
def l3(q:Q3):List Nat:=[q.1,q.2.1,q.2.2]
def kq(q:Q3):Value:=.agg (au .u32 (iw (l3 q)))
theorem Fo{a b:List Nat}(h:iw a=iw b):a=b:=by
 induction a generalizing b with
 |nil=>cases b with
  |nil=>rfl
  |cons y b=>simp[iw]at h
 |cons x a ih=>cases b with
  |nil=>simp[iw]at h
  |cons y b=>
   simp only[iw,List.map_cons,List.cons.injEq]at h
   rw[Int.ofNat.inj h.1,ih h.2]
theorem Ia{a b:Q3}(h:l3 a=l3 b):a=b:=by
 obtain⟨a1,a2,a3⟩:=a
 obtain⟨b1,b2,b3⟩:=b
 simp[l3]at h
 rw[h.1,h.2.1,h.2.2]
theorem og(a b:Q3):xQ Tryz.prog 236 (kq a) (kq b) (decide (a=b)):=by
 have:=xQ.array (P:=Tryz.prog) (t:=236) (e:=110) (q:=.u32) (n:=3) (by kernel_rfl) (by kernel_rfl) (by kernel_rfl) (iw (l3 a)) (iw (l3 b)) rfl rfl
 have e:decide (iw (l3 a)=iw (l3 b))=decide (a=b):=decide_eq_decide.2 ⟨fun h=>Ia (Fo h),fun h=>by rw[h]⟩
 rw[e]at this;exact this
theorem kC(a:Q3):jR Tryz.prog 236 (kq a):=jR.array (P:=Tryz.prog) (t:=236) (e:=110) (q:=.u32) (n:=3) (by kernel_rfl) (by kernel_rfl) (by kernel_rfl) _ rfl
theorem rz(a:Q3):Instr.sameBits 10000 (kq a) (kq a)=true:=jT 9998 fun x hx=>.inl (by simp[au]at hx;obtain⟨n,_,rfl⟩:=hx;exact⟨_,_,rfl⟩)
section
variable {kp bw:Nat} {vl vm:Value} {K:Kd} {S:Nat→av.Fn} {ord af tr:List Nat} {C:Hp}
theorem Aq{H:Hp}{r:List Value}{K:Value→Hp→Prop}(hl:r.length=3)(h:∀b,K (.slice (some ⟨b,0,none⟩) 1 1) ((b,.cells r.toArray 226 (0,0))::H)):ak Tryz.prog 309 1 [(0,.agg r.toArray)] H K:=
 ak.one (r:=r) (e:=226) (k:=3) (z:=.agg #[.int .i64 0,.int .u32 0,.int .u32 0]) (by kernel_rfl) (by kernel_rfl) (by kernel_rfl) (by decide) hl h
theorem qA{X Y:Hp}(h:bS kp K ord af tr C)(q:Q3)(hq:∀r∈l3 q,r<4294967296):
  Fc Tryz.prog 253 #[ptr bw,kq q] (dL bw kp vl vm::(X++(Y++C))) (fun v H=>∃CN,H=CN++(dL bw kp vl vm::(X++(Y++C)))∧aI 226 3 v ((l3 q).map (got K.N)) CN):=by
 have hlen:(l3 q).length=3:=rfl
 refine aP fun g=>wG ?_
 intro b1 _
 refine ay.q ?_
 refine⟨fun vs H=>∃(i:Nat) (u:Value) (CN:Hp),vs=[u,.int .i64 (i:Int)]∧i≤3∧H=CN++((b1,.cells (au .u32 (iw (l3 q))) 236 (0,0))::(dL bw kp vl vm::(X++(Y++C))))∧aI 226 3 u (((l3 q).take i).map (got K.N)) CN,fun vs _=>3-ca vs 1,
  JE.mk ⟨0,_,[],rfl,by omega,rfl,aI.nil _ _⟩,?_⟩
 rintro w8 w9 H ⟨i,u,CN,⟨⟩,hi,rfl,hN⟩ gs
 refine aa.iC (b:=3) (Br.dec (fun hlt=>?_) (fun hlt=>?_))
 ·have gZ:i<(l3 q).length:=hlt
  obtain⟨r,hr⟩:∃r,(l3 q)[i]? =some r:=⟨_,List.getElem?_eq_getElem gZ⟩
  have NF:=hq r (List.mem_of_getElem? hr)
  refine fx.LI (t:=236) (e:=110) (q:=.u32) (x:=.tmp 10) (i:=.tmp 11) (l:=iw (l3 q)) (z:=(r:Int)) (kd:=.i64) (n:=3) (j:=i) (by kernel_rfl) rfl rfl (by kernel_rfl) (by kernel_rfl) (by kernel_rfl) hlt (iS hr) ?_
  refine Ld.n ?_
  refine ae.eq (args:=#[ptr kp,u32 r]) (iR h NF) ?_
  refine Ext.two ?_
  intro Qr _
  refine St.whole (r:=got K.N r) (by exact .head _) rfl (aQ _ _).1 (aQ _ _).2 ?_
  refine ay.whole (r:=got K.N r) (by exact .head _) (aQ _ _).1 ?_
  refine Aq (aQ _ _).1 fun bx=>?_
  refine hN.pK (r:=got K.N r) (.cons (.cons .left)) (by exact .head _) (aQ _ _).1 (aQ _ _).2 ⟨[.int .i64 0,.int .u32 0,.int .u32 0],rfl,rfl⟩ (by simp;omega) (by simp;omega) fun v' C' ho=>?_
  refine aa.inc ?_
  refine aB.of (.skip .tail) ⟨i+1,v',C',rfl,by omega,rfl,?_⟩ (by simp only[ca];omega)
  rw[List.take_add_one,hr,List.map_append];exact ho
 ·obtain rfl:i=3:=by omega
  rw[List.take_of_length_le (by rw[hlen];exact Nat.le_refl _)]at hN
  exact aZ.mk (.dx .tail _) ⟨CN,rfl,hN⟩
theorem yS{n:Nat}{mc:Nat→Nat}{N:cN}{B:Hp}{vn:Value}{lvl:List Nat}(hw:dL bw kp vl vm∈B)(hl:fR .i64 B vl (iw lvl))(pF:lvl.length=n)(hlv:∀v,v<n→lvl.getD v 0=mc v)(q:Q3)(hn:Sl 3 B vn ((l3 q).map (got N)))
 (h:WF n mc N)(hL:jh n mc)(hq:∀r∈l3 q,live N r)(uM:n≤64):
  Rd Tryz.prog 254 #[ptr bw,vn] B (fun r=>((∀s∈l3 q,N s=none)∧r=.int .i64 (-1))∨∃v,oW n mc N (l3 q) v∧r=.int .i64 (v:Int)):=by
 have hlen:(l3 q).length=3:=rfl
 refine aP fun g=>wF ?_
 refine hn.cP ?_
 rw[List.length_map,hlen]
 refine⟨fun vs H=>∃(i:Nat) (w:Int),vs=[.int .i64 w,.int .i64 (i:Int)]∧i≤3∧H=B∧(((∀s∈(l3 q).take i,N s=none)∧w= -1)∨∃v:Nat,oW n mc N ((l3 q).take i) v∧w=(v:Int)),fun vs _=>3-ca vs 1,
  JE.mk ⟨0, -1,rfl,by omega,rfl,.inl ⟨by simp,rfl⟩⟩,?_⟩
 rintro w6 w7 H ⟨i,w,⟨⟩,hi,rfl,Mb⟩ gs
 refine aa.iC (b:=3) (Br.dec (fun hlt=>?_) (fun hlt=>?_))
 ·intro J hJ
  have gZ:i<(l3 q).length:=hlt
  obtain⟨r,hr⟩:∃r,(l3 q)[i]? =some r:=⟨_,List.getElem?_eq_getElem gZ⟩
  have m4:(l3 q).take (i+1)=(l3 q).take i++[r]:=by rw[List.take_add_one,hr];rfl
  have fin:∀(w':Int) (Z:Hp),((∀s∈(l3 q).take (i+1),N s=none)∧w'= -1)∨(∃v:Nat,oW n mc N ((l3 q).take (i+1)) v∧w'=(v:Int))→J [.int .i64 w'] (Z++H):=fun w' Z h'=>hJ _ _ fun gs=>by
   refine aa.inc ?_
   exact aB.of .right ⟨i+1,w',rfl,by omega,rfl,h'⟩ (by simp only[ca];omega)
  have hrow:((l3 q).map (got N))[i]? =some (got N r):=by rw[List.getElem?_map,hr];rfl
  refine ai.sl hn hrow fun p hp=>?_
  refine ay.at hp (aQ _ _).1 (by decide) (fun _ h=>h) ?_
  intro mh _
  refine St.whole (r:=got N r) (by exact .head _) rfl (aQ _ _).1 (aQ _ _).2 ?_
  have hlr:=hq r (List.mem_of_getElem? hr)
  cases hN:N r with
  |none=>
   have rD:r<2:=by rcases hlr with h2|⟨d,hd⟩;exact h2;rw[hN]at hd;cases hd
   have eg:got N r=[.int .i64 (-1),u32 r,u32 r]:=eC rD
   rw[eg]
   refine Ld.f ?_
   refine aa.geq ?_
   refine c7.mk false (fun h=>by simp at h) (fun _=>rfl) fun gs=>Br.no ?_
   refine JE.mk (fin w [_] ?_)
   rcases Mb with⟨h1,h2⟩|⟨v,h1,h2⟩
   ·refine .inl ⟨fun s hs=>?_,h2⟩
    rw[m4,List.mem_append,List.mem_singleton]at hs
    rcases hs with hs|rfl
    ·exact h1 s hs
    ·exact hN
   ·refine .inr ⟨v,⟨h1.lt,?_,fun s hs=>?_⟩,h2⟩
    ·obtain⟨s,hs,x⟩:=h1.ex;exact⟨s,by rw[m4];exact List.mem_append_left _ hs,x⟩
    ·rw[m4,List.mem_append,List.mem_singleton]at hs
     rcases hs with hs|rfl
     ·exact h1.le s hs
     ·rw[aL hN];exact Nat.le_of_lt (hL.lt v h1.lt)
  |some d=>
   have h2:=h.two hN
   have oz:=h.var hN
   have eg:got N r=bp d:=dQ hN h2
   rw[eg]
   refine Ld.f ?_
   refine aa.geq ?_
   rw[decide_eq_true (by omega)]
   have r9:(∀s∈(l3 q).take i,mc d.v≤dep n mc N s)→∃v:Nat,oW n mc N ((l3 q).take (i+1)) v∧(d.v:Int)=(v:Int):=fun hle=>by
    refine⟨d.v,⟨oz,⟨r,by rw[m4];simp,d,hN,rfl⟩,fun s hs=>?_⟩,rfl⟩
    rw[m4,List.mem_append,List.mem_singleton]at hs
    rcases hs with hs|rfl
    ·exact hle s hs
    ·rw[aj hN];exact Nat.le_refl _
   rcases Mb with⟨h1,rfl⟩|⟨v,h1,rfl⟩
   ·refine c7.and true (fun _=>?_) rfl fun gs=>Br.yes ?_
    ·refine aa.lss ?_
     exact c7.mk true (fun h=>by simp at h) (fun _=>rfl) fun gs=>⟨rfl,rfl⟩
    ·refine Ld.f ?_
     refine JE.mk (fin (d.v:Int) [_] (.inr (r9 fun s hs=>?_)))
     rw[aL (h1 s hs)];exact Nat.le_of_lt (hL.lt _ oz)
   ·have g1:(iw lvl)[d.v]? =some ((mc d.v:Nat):Int):=by rw[←hlv d.v oz];exact bP (by omega)
    have g2:(iw lvl)[v]? =some ((mc v:Nat):Int):=by rw[←hlv v h1.lt];exact bP (by have:=h1.lt;omega)
    refine c7.and (decide (mc d.v<mc v)) (fun _=>?_) rfl fun gs=>?_
    ·refine aa.lss ?_
     rw[decide_eq_false (by omega)]
     refine c7.or (decide (mc d.v<mc v)) (fun _=>?_) rfl fun gs=>⟨rfl,by simp⟩
     refine Ld.v (.tail _ hw) ?_
     refine Ld.f ?_
     refine hl.ld g1 (fun _ h=>.tail _ h) ?_
     refine Ld.v (.tail _ hw) ?_
     refine hl.ld g2 (fun _ h=>.tail _ h) ?_
     exact aa.iC ⟨rfl,rfl⟩
    ·rw[Bool.true_and]
     refine Br.dec (fun FC=>?_) (fun FC=>?_)
     ·refine Ld.f ?_
      refine JE.mk (fin (d.v:Int) [_] (.inr (r9 fun s hs=>?_)))
      have:=h1.le s hs;omega
     ·refine JE.mk (fin (v:Int) [_] (.inr ⟨v,⟨h1.lt,?_,fun s hs=>?_⟩,rfl⟩))
      ·obtain⟨s,hs,x⟩:=h1.ex;exact⟨s,by rw[m4];exact List.mem_append_left _ hs,x⟩
      ·rw[m4,List.mem_append,List.mem_singleton]at hs
       rcases hs with hs|rfl
       ·exact h1.le s hs
       ·rw[aj hN];omega
 ·obtain rfl:i=3:=by omega
  rw[List.take_of_length_le (by rw[hlen];exact Nat.le_refl _)]at Mb
  refine bC.mk (.refl _) ?_
  rcases Mb with⟨h1,rfl⟩|⟨v,h1,rfl⟩
  ·exact .inl ⟨h1,rfl⟩
  ·exact .inr ⟨v,h1,rfl⟩
theorem zK(h:cv kp K S ord af tr C){v lo hi:Nat}(hv:v<K.n)(hlo:live K.N lo)(hhi:live K.N hi)(hlt:lv af v<dep K.n (lv af) K.N lo∧lv af v<dep K.n (lv af) K.N hi):
  Rd Tryz.prog 323 #[ptr kp,.int .i64 (v:Int),u32 lo,u32 hi] C (· =if lo=hi then .tuple #[u32 lo,.bool true]else .tuple #[u32 ((K.T ⟨v,lo,hi⟩).getD 0),.bool (K.T ⟨v,lo,hi⟩).isSome]):=by
 have NT:=h.dk hlo
 have N3:=h.dk hhi
 have yw:=bD.2 hlo
 have jC:=bD.2 hhi
 have Ob:jY K af (v:Int) lo hi=0:=by
  unfold jY
  rw[if_neg (by omega),if_neg (by rw[yw,jC];simp),if_neg]
  rintro⟨hne,hmin⟩
  simp only[Int.toNat_natCast,lv]at hmin hlt;omega
 refine aP fun g=>vZ ?_
 intro J hJ
 refine aa.an (Split.go rfl ?_)
 refine ae.eq (yG h.rep (v:Int) (by omega) (by omega) (fun r d hd=>⟨h.ok.mid.var hd,(h.ok.mid.two hd).1⟩)) ?_
 rw[Ob]
 refine aa.eP (aq.mk ?_)
 refine JE.mk (hJ _ _ fun gs=>?_)
 rw[decide_eq_false (by simp)]
 refine Br.no ?_
 refine ae.rq (x6 h.rep (lo:=lo) (hi:=hi) hv) ?_
 rintro w hw
 subst hw
 by_cases he:lo=hi
 ·rw[if_pos he]
  exact Ext.mk rfl (Ext.mk rfl (bC.mk (.refl _) rfl))
 ·rw[if_neg he]
  exact Ext.mk rfl (Ext.mk rfl (bC.mk (.refl _) rfl))
theorem uF(h:cv kp K S ord af tr C){v lo hi r:Nat}(hv:v<K.n)(hlo:live K.N lo)(hhi:live K.N hi)(hlt:lv af v<dep K.n (lv af) K.N lo∧lv af v<dep K.n (lv af) K.N hi)(hr:live K.N r)(h2:2≤r)(hS:S r=ite S ⟨v,lo,hi⟩):
  Rd Tryz.prog 323 #[ptr kp,.int .i64 (v:Int),u32 lo,u32 hi] C (· =.tuple #[u32 r,.bool true]):=by
 refine(zK h hv hlo hhi hlt).mono ?_
 rintro w H ⟨e,rfl⟩
 refine⟨e,?_⟩
 by_cases he:lo=hi
 ·subst he
  rw[if_pos rfl,h.ok.wf.same h.ok.lv h.ok.mid.int hr hlo fun x=>by rw[hS];unfold av.ite;split<;>rfl]
 ·rw[if_neg he]
  obtain⟨d,hd⟩:∃d,K.N r=some d:=by
   rcases hr with h3|h3
   ·omega
   ·exact h3
  have RL:d=⟨v,lo,hi⟩:=h.ok.E4 (d:=⟨v,lo,hi⟩) hlo hhi he hv hlt hd hS
  subst RL
  rw[(h.ok.mid.gK _ r).2 ⟨hd,fun e=>e⟩];rfl
theorem vg(r v:Nat)(B:Hp):Rd Tryz.prog 255 #[ptr bw,.int .i64 (v:Int),u32 r,u32 r] B (· =.tuple #[u32 r,.int .i64 0]):=by
 refine aP fun g=>pe ?_
 exact aa.iq (Br.T (bC.mk (.refl _) rfl))
theorem DP{CM X:Hp}{made:List Nat}(h:cv kp K S ord af tr C){v lo hi:Nat}(hv:v<K.n)(hlo:live K.N lo)(hhi:live K.N hi)(hne:lo≠hi)(hlt:lv af v<dep K.n (lv af) K.N lo∧lv af v<dep K.n (lv af) K.N hi)
 (hM:aN 110 .u32 vm (iw made) CM)(hlen:made.length≤1099511627776):
  Fc Tryz.prog 255 #[ptr bw,.int .i64 (v:Int),u32 lo,u32 hi] (dL bw kp vl vm::(X++(CM++C))) (fun w H=>
   (∃r K' S' C' HB Jh,w=.tuple #[u32 r,.int .i64 0]∧H=dL bw kp vl HB::(X++(Jh++C'))∧cv kp K' S' ord af [] C'∧nf K S K' S' (ite S ⟨v,lo,hi⟩) r∧aN 110 .u32 HB (iw (made++[r])) Jh)∨
   (w=.tuple #[u32 0,.int .i64 9]∧H=dL bw kp vl vm::(X++(CM++C))∧K.cap≤K.used∧K.T ⟨v,lo,hi⟩=none)∨
   (∃r,w=.tuple #[u32 r,.int .i64 0]∧H=dL bw kp vl vm::(X++(CM++C))∧live K.N r∧2≤r∧K.hold r=65535∧S r=ite S ⟨v,lo,hi⟩)):=by
 refine aP fun g=>pe ?_
 refine aa.mI (Br.Gf hne ?_)
 refine Ld.n ?_
 refine ae.fq (yj h hv hlo hhi (.inr hlt)) ?_
 rintro w C' (⟨r,K',S',rfl,dP,mk⟩|⟨r,rfl,rfl,hlr,Eh,hfull,Ed⟩|⟨rfl,rfl,hcap,_,hT⟩)
 ·refine Ext.two ?_
  intro J hJ
  refine aa.iq (Br.T ?_)
  refine Ld.n ?_
  refine ak.int (e:=110) (by kernel_rfl) (by kernel_rfl) (by kernel_rfl) fun bx=>?_
  refine hM.pK (x:=(r:Int)) (.cons (.cons (.app .left))) (by exact .head _) (by rw[aC];omega) (by rw[aC];omega) fun HB Jh Mz=>?_
  have h1:=Mz.one
  refine Nil.ptr (ag.mk (St.one (by exact .tail (.head _)) h1 (by simp) rfl ?_))
  refine aZ.mk .tail (.inl ⟨r,K',S',C',HB,Jh,rfl,rfl,dP,mk,?_⟩)
  rw[bQ];exact Mz
 ·refine Ext.two ?_
  intro J hJ
  refine aa.iq (Br.F ?_)
  refine aa.iq (Br.T ?_)
  refine Ld.n ?_
  refine ae.eq (uF h hv hlo hhi hlt hlr Eh Ed) ?_
  exact Ext.mk rfl (Ext.mk rfl (Br.yes (aZ.here (.inr (.inr ⟨r,rfl,rfl,hlr,Eh,hfull,Ed⟩)))))
 ·refine Ext.two ?_
  intro J hJ
  refine aa.iq (Br.F ?_)
  refine aa.iq (Br.F ?_)
  exact JE.mk (hJ _ fun gs=>aZ.here (.inr (.inl ⟨rfl,rfl,hcap,hT⟩)))
end
end Go.Proofs
set_option maxRecDepth 100000
namespace Go.Proofs
open Go Go.Sx
open av
structure l7(K0:Kd)(S0:Nat→av.Fn)(U:av.Fn→Prop)(ord:List Nat)(K:Kd)(S:Nat→av.Fn)(made:List Nat):Prop where
 n:K.n=K0.n
 cap:K.cap=K0.cap
 N:∀s d,K0.N s=some d→K.N s=some d
 fn:∀s,live K0.N s→S s=S0 s
 hold:∀s,K.hold s=K0.hold s+made.count s
 two:∀s∈made,2≤s
 U:∀g,aF K0.n ord (K.held S) g→U g
theorem l7.refl{K0:Kd}{S0:Nat→av.Fn}{U:av.Fn→Prop}{ord:List Nat}(h:∀g,aF K0.n ord (K0.held S0) g→U g):l7 K0 S0 U ord K0 S0 []:=⟨rfl,rfl,fun _ _ h=>h,fun _ _=>rfl,fun s=>by simp,by simp,h⟩
def Fits(U:av.Fn→Prop)(cap:Nat):Prop:=∃ku,jJ U ku∧ku+2≤cap
section
variable {kp:Nat} {K0 K:Kd} {S0 S:Nat→av.Fn} {U:av.Fn→Prop} {ord af tr:List Nat} {made:List Nat} {C:Hp}
theorem l7.gx(h:l7 K0 S0 U ord K S made)(hK:cv kp K S ord af tr C){s:Nat}(hs:s∈made):live K.N s:=by
 refine .inr (hK.ok.mid.held s ?_)
 rw[h.hold]
 have:=List.count_pos_iff.2 hs
 omega
theorem qh{b:Nat}:∀(m:Nat) (l:List Nat),(∀x∈l,x<m)→(∀x,l.count x≤b)→l.length≤m*b
 |0,l,h1,_=>by
  cases l with
  |nil=>simp
  |cons x l=>exact absurd (h1 x (List.mem_cons_self ..)) (Nat.not_lt_zero _)
 |m+1,l,h1,h2=>by
  have ih:=qh m (l.filter fun x=> !(x==m)) (fun x hx=>by
   obtain⟨hx,hne⟩:=List.mem_filter.1 hx
   have:=h1 x hx
   have:x≠m:=by simpa using hne
   omega) (fun x=>Nat.le_trans (List.filter_sublist.count_le x) (h2 x))
  have e:=List.length_eq_countP_add_countP (fun x=>x==m) (l:=l)
  have h3:=h2 m
  rw[List.count]at h3
  rw[List.countP_eq_length_filter (l:=l) (p:=fun a=>decide ¬(a==m)=true)]at e
  rw[Nat.succ_mul]
  have e2:(l.filter fun a=>decide ¬(a==m)=true)=l.filter fun x=> !(x==m):=List.filter_congr fun x _=>by cases x==m<;>rfl
  rw[e2]at e
  omega
theorem l7.lg(h:l7 K0 S0 U ord K S made)(hK:cv kp K S ord af tr C):made.length≤1048576*65535:=
 qh _ _ (fun x hx=>by
  have hc:=List.count_pos_iff.2 hx
  have:=h.hold x
  obtain⟨d,hd⟩:=hK.ok.mid.held x (by omega)
  have:=(hK.ok.mid.two hd).2
  have:=hK.ok.mid.cap
  omega) (fun x=>by have:=h.hold x;have:=hK.ok.mid.mx x;omega)
theorem l7.full(h:l7 K0 S0 U ord K S made){r:Nat}(hr:K.hold r=65535):r∈made∨K0.hold r=65535:=by
 by_cases hm:r∈made
 ·exact .inl hm
 ·have:=h.hold r
  rw[List.count_eq_zero.2 hm]at this
  exact .inr (by omega)
theorem l7.live(h:l7 K0 S0 U ord K S made){s:Nat}(hs:live K0.N s):live K.N s:=jz h.N hs
theorem l7.step(h:l7 K0 S0 U ord K S made)(hK:cv kp K S ord af tr C){K':Kd}{S':Nat→av.Fn}{f:av.Fn}{r:Nat}(m:nf K S K' S' f r)(h2:2≤r)(hU:∀g,aF K0.n ord (fun g=>g=f) g→U g):l7 K0 S0 U ord K' S' (made++[r]):=by
 refine⟨m.n.trans h.n,m.cap.trans h.cap,fun s d hd=>m.N s d (h.N s d hd),fun s hs=>(m.fn s (h.live hs)).trans (h.fn s hs),fun s=>?_,fun s hs=>?_,fun g hg=>?_⟩
 ·rw[m.hold,List.count_append,List.count_singleton,h.hold]
  by_cases e:s=r
  ·subst e;simp[h2];omega
  ·have:(r==s)=false:=by simpa using fun e'=>e e'.symm
   simp[e,this]
 ·rcases List.mem_append.1 hs with hs|hs
  ·exact h.two s hs
  ·simp at hs;subst hs;exact h2
 ·have nw:∀g,K'.held S' g→K.held S g∨g=f:=by
   rintro g ⟨s,hs,rfl⟩
   have hs':K'.hold s≠0:=hs
   rw[m.hold]at hs'
   by_cases e:s=r∧2≤r
   ·right;rw[e.1];exact m.is
   ·rw[if_neg e]at hs'
    exact .inl ⟨s,hs',m.fn s (.inr (hK.ok.mid.held s hs'))⟩
  rcases(sJ g).1 (ew nw hg)with h1|h1
  ·exact h.U g h1
  ·exact hU g h1
end
def rP(mK b1 b5 mh:Nat):Value:=.func (.func 252) #[] #[ptr mK,ptr b1,ptr b5,ptr mh]
structure vk(fv:Value)(LB:Hp)(t:Bool→Bool→Bool→Bool):Prop where
 is:∃f first cap,fv=.func (.func f) first cap∧aS Tryz.prog f=true∧∀x y z:Bool,Rd Tryz.prog f (first++ #[.bool x,.bool y,.bool z]++cap) LB (· =.bool (t x y z))
def LX(K0:Kd)(S0 S:Nat→av.Fn)(t:Bool→Bool→Bool→Bool)(made:List Nat)(m:List (Q3×Nat)):Prop:=∀y∈m,S y.2=nA t S0 (l3 y.1)∧(y.2<2∨y.2∈made∨K0.hold y.2=65535)
section
variable {kp mK b1 b5 mh bm bw:Nat} {vl fv:Value} {LB CL:Hp} {lvl:List Nat} {K0:Kd} {S0:Nat→av.Fn} {U:av.Fn→Prop} {ord af:List Nat} {t:Bool→Bool→Bool→Bool}
abbrev Hi(mK b1 b5 mh bm bw kp:Nat)(fv vl vm:Value)(LB CL CM C:Hp)(es:Array MapEntry)(ck:Nat):Hp:=
 (mK,.cells #[.map (some bm)] 307 (0,0))::(b1,.cells #[ptr bw] 231 (0,0))::(b5,.cells #[fv] 237 (0,0))::(mh,.cells #[rP mK b1 b5 mh] 308 (0,0))::
 (LB++((bm,.map es ck)::(dL bw kp vl vm::(CL++(CM++C)))))
structure O4(kp:Nat)(K0:Kd)(S0:Nat→av.Fn)(U:av.Fn→Prop)(ord af HG:List Nat)(t:Bool→Bool→Bool→Bool)(K:Kd)(S:Nat→av.Fn)(made:List Nat)(es:Array MapEntry)(ck:Nat)(vm:Value)(CM C:Hp):Prop where
 ks:∃tr,cv kp K S ord af tr C∧(tr=[]∨(tr=HG∧made=[]))
 fS:l7 K0 S0 U ord K S made
 L6:aN 110 .u32 vm (iw made) CM
 kn:∃m,aE kq Ep es ck m∧LX K0 S0 S t made m
structure dB(K:Kd)(S:Nat→av.Fn)(made:List Nat)(K':Kd)(S':Nat→av.Fn)(made':List Nat)(c:Nat):Prop where
 N:∀s d,K.N s=some d→K'.N s=some d
 fn:∀s,live K.N s→S' s=S s
 ext:∃ext,made'=made++ext∧ext.length≤c
theorem dB.refl{K:Kd}{S:Nat→av.Fn}{made:List Nat}{c:Nat}:dB K S made K S made c:=⟨fun _ _ h=>h,fun _ _=>rfl,[],by simp,Nat.zero_le _⟩
section
variable {K K' K2:Kd} {S S' S2:Nat→av.Fn} {made made' gy:List Nat} {c c':Nat}
theorem dB.y8(h:dB K S made K' S' made' c)(hc:c≤c'):dB K S made K' S' made' c':=⟨h.N,h.fn,let ⟨e,h1,h2⟩:=h.ext;⟨e,h1,by omega⟩⟩
theorem dB.mem{s:Nat}(h:dB K S made K' S' made' c)(hs:s∈made):s∈made':=by
 obtain⟨e,rfl,_⟩:=h.ext;exact List.mem_append_left _ hs
theorem dB.count(h:dB K S made K' S' made' c)(s:Nat):made'.count s≤made.count s+c∧made'.length≤made.length+c:=by
 obtain⟨e,rfl,he⟩:=h.ext
 have:=List.count_le_length (a:=s) (l:=e)
 rw[List.count_append,List.length_append];omega
theorem dB.trans(h:dB K S made K' S' made' c)(h':dB K' S' made' K2 S2 gy c'):dB K S made K2 S2 gy (c+c'):=by
 obtain⟨e,rfl,he⟩:=h.ext
 obtain⟨e',rfl,he'⟩:=h'.ext
 exact⟨fun s d hd=>h'.N s d (h.N s d hd),fun s hs=>(h'.fn s (jz h.N hs)).trans (h.fn s hs),e++e',by rw[List.append_assoc],by rw[List.length_append];omega⟩
end
theorem n7{κ β:Type}[DecidableEq κ]{m:List (κ×β)}{k:κ}{x:β}{y:κ×β}(h:y∈eR m k x):y=(k,x)∨y∈m:=by
 unfold eR at h
 split at h
 ·obtain⟨z,hz,rfl⟩:=List.mem_map.1 h
  split
  ·exact .inl rfl
  ·exact .inr hz
 ·rcases List.mem_append.1 h with h|h
  ·exact .inr h
  ·simp at h;exact .inl h
def sC(N:cN)(v:Nat)(b:Bool)(q:Q3):Q3:=(eW N v b q.1,eW N v b q.2.1,eW N v b q.2.2)
theorem Fk(N:cN)(v:Nat)(b:Bool)(q:Q3):l3 (sC N v b q)=fw N v b (l3 q):=rfl
theorem s7{N N':cN}(hN:∀s d,N s=some d→N' s=some d)(h2:∀r,r<2→N r=none)(kE:∀r,r<2→N' r=none){r:Nat}(hr:live N r):got N' r=got N r:=by
 rcases hr with hr|⟨d,hd⟩
 ·rw[eC hr,eC hr]
 ·by_cases h:r<2
  ·rw[h2 r h]at hd;cases hd
  ·rw[dQ hd (by omega),dQ (hN r d hd) (by omega)]
def To(kp mK b1 b5 mh bm bw:Nat)(fv vl:Value)(LB CL:Hp)(K0:Kd)(S0:Nat→av.Fn)(U:av.Fn→Prop)(ord af HG:List Nat)(t:Bool→Bool→Bool→Bool)(ql:List Nat)(c:Nat)(K:Kd)(S:Nat→av.Fn)(made:List Nat)(r:Value)(H:Hp):Prop:=
 ∃K' S' made' es' cg HB Jh C',H=Hi mK b1 b5 mh bm bw kp fv vl HB LB CL Jh C' es' cg∧O4 kp K0 S0 U ord af HG t K' S' made' es' cg HB Jh C'∧dB K S made K' S' made' c∧
   ((∃x:Nat,r=.tuple #[u32 x,.int .i64 0]∧S' x=nA t S0 ql∧(x<2∨x∈made'∨K0.hold x=65535))∨(r=.tuple #[u32 0,.int .i64 9]∧¬Fits U K0.cap))
theorem IZ(fo:aS Tryz.prog 252=true)(MA:vk fv LB t)(JK:aN 3 .i64 vl (iw lvl) CL)(pF:lvl.length=K0.n)(hlv:∀v,v<K0.n→lvl.getD v 0=lv af v)(uM:K0.n≤64)(Ec:WF K0.n (lv af) K0.N)(IW:Interp K0.N S0)(Dc:jh K0.n (lv af))(MC:∀r,live K0.N r→r<4294967296)(Mn:∀s,K0.hold s=65535→live K0.N s){HG:List Nat}:
  ∀(ql:List Nat) (c:Nat),Tree K0.n (lv af) K0.N ql c→∀(q:Q3),l3 q=ql→∀(K:Kd) (S:Nat→av.Fn) (made:List Nat) (es:Array MapEntry) (ck:Nat) (vm:Value) (CM C:Hp),O4 kp K0 S0 U ord af HG t K S made es ck vm CM C→
  (∀r∈ql,live K0.N r)→(∀g,aF K0.n ord (fun g=>g=nA t S0 ql) g→U g)→
  Fc Tryz.prog 252 #[kq q,ptr mK,ptr b1,ptr b5,ptr mh] (Hi mK b1 b5 mh bm bw kp fv vl vm LB CL CM C es ck) (fun r H=>To kp mK b1 b5 mh bm bw fv vl LB CL K0 S0 U ord af HG t ql c K S made r H):=by
 have hc0:∀r,r<2→K0.N r=none:=fun r hr=>Ec.const hr
 intro ql c hT
 induction hT with
 | @leaf ql hnone=>
  intro q hq K S made es ck vm CM C hS fJ hU g
  subst hq
  obtain⟨tr,hK,iD⟩:=hS.ks
  obtain⟨m,hE,hkn⟩:=hS.kn
  have JA:∀r,r<2→K.N r=none:=fun r hr=>hK.ok.wf.const hr
  refine pg (R:=aZ _) ?_
  unfold L252
  intro bq _
  refine Ld.q ?_
  refine ay.q ?_
  have D9:(bm,Obj.map es ck)∈(bq,Obj.cells (au .u32 (iw (l3 q))) 236 (0,0))::Hi mK b1 b5 mh bm bw kp fv vl vm LB CL CM C es ck:=.tail _ (.tail _ (.tail _ (.tail _ (.tail _ (List.mem_append_right _ (.head _))))))
  cases hg:aJ m q with
  |some x=>
   refine aE.Cz (ke:=kq) (k:=q) og kC hE D9 hg ?_
   rintro v rfl
   obtain⟨h1,h2⟩:=hkn _ ((cR hE.nd).1 hg)
   refine Ext.mk rfl (Ext.mk rfl (Br.yes ?_))
   exact aZ.mk .tail ⟨K,S,made,es,ck,vm,CM,C,rfl,hS,.refl,.inl ⟨x,rfl,h1,h2⟩⟩
  |none=>
   refine aE.sM (ke:=kq) (k:=q) og kC hE D9 hg ?_
   refine Ext.mk rfl (Ext.mk rfl (Br.no ?_))
   refine Ld.q ?_
   refine ay.q ?_
   refine ae.fq (args:=#[ptr bw,kq q]) (qA hK.rep q (fun r hr=>MC r (fJ r hr))) ?_
   rintro vn H ⟨CN,rfl,hN⟩
   have eN:(l3 q).map (got K.N)=(l3 q).map (got K0.N):=List.map_congr_left fun r hr=>s7 hS.fS.N hc0 JA (fJ r hr)
   rw[eN]at hN
   refine Ld.q ?_
   refine ae.rq (yS (bw:=bw) (kp:=kp) (vl:=vl) (vm:=vm) (lvl:=lvl) (n:=K0.n) (mc:=lv af) (N:=K0.N) (.tail _ (.tail _ (.tail _ (.tail _ (.tail _ (List.mem_append_right _ (.tail _ (List.mem_append_right _ (.head _))))))))) (JK.ints.mono fun _ h=>.tail _ (.tail _ (.tail _ (.tail _ (.tail _ (List.mem_append_right _ (.tail _ (List.mem_append_right _ (.tail _ (List.mem_append_left _ h)))))))))) pF hlv q ((Sl.mT hN (by decide)).mono fun _ h=>.tail _ (.tail _ (.tail _ (.tail _ (.tail _ (List.mem_append_right _ (.tail _ (List.mem_append_left _ h)))))))) Ec Dc fJ uM) ?_
   rintro w (⟨_,rfl⟩|⟨v,hv,rfl⟩)
   rotate_left
   ·obtain⟨s,hs,d,hd,_⟩:=hv.ex
    rw[hnone s hs]at hd;cases hd
   refine aa.lss (Br.T ?_)
   have zZ:∀r∈l3 q,r<2:=fun r hr=>by
    rcases fJ r hr with h|⟨d,hd⟩
    ·exact h
    ·rw[hnone r hr]at hd;cases hd
   obtain⟨f,first,cap,IE,RG,hL⟩:=MA.is
   refine Ld.q ?_
   refine ff.nat (j:=0) (by decide) (Ld.q ?_)
   refine aa.mI (b:=1) ?_
   refine ff.nat (j:=1) (by decide) (Ld.q ?_)
   refine aa.mI (b:=1) ?_
   refine ff.nat (j:=2) (by decide) (Ld.q ?_)
   refine aa.mI (b:=1) ?_
   refine bg.of IE RG ?_
   refine ae.eq (hL _ _ _) ?_
   have zX:=fun x=>Ai IW (q:=l3 q) rfl zZ t x
   have hint:=hK.ok.mid.int
   have G6:aR ((bq,Obj.cells (au .u32 (iw (l3 q))) 236 (0,0))::(mK,.cells #[.map (some bm)] 307 (0,0))::(b1,.cells #[ptr bw] 231 (0,0))::(b5,.cells #[fv] 237 (0,0))::(mh,.cells #[rP mK b1 b5 mh] 308 (0,0))::(LB++((bm,.map es ck)::(CN++(dL bw kp vl vm::(CL++(CM++C))))))) (Hi mK b1 b5 mh bm bw kp fv vl vm LB CL CM C es ck):=
    .skip (.cons (.cons (.cons (.cons (.dx (.cons .right) _)))))
   refine Br.mk (fun hb=>?_) (fun hb=>?_)
   ·refine aZ.mk G6 ⟨K,S,made,es,ck,vm,CM,C,rfl,hS,.refl,.inl ⟨1,rfl,funext fun x=>?_,.inl (by omega)⟩⟩
    rw[hint.one,zX x];exact hb.symm
   ·refine aZ.mk G6 ⟨K,S,made,es,ck,vm,CM,C,rfl,hS,.refl,.inl ⟨0,rfl,funext fun x=>?_,.inl (by omega)⟩⟩
    rw[hint.zero,zX x];exact hb.symm
 | @node ql v a b hv ha hb Q2 Q1=>
  intro q hq K S made es ck vm CM C hS fJ hU g
  subst hq
  obtain⟨tr,hK,iD⟩:=hS.ks
  obtain⟨m,hE,hkn⟩:=hS.kn
  have JA:∀r,r<2→K.N r=none:=fun r hr=>hK.ok.wf.const hr
  refine pg (R:=aZ _) ?_
  unfold L252
  intro bq _
  refine Ld.q ?_
  refine ay.q ?_
  have D9:(bm,Obj.map es ck)∈(bq,Obj.cells (au .u32 (iw (l3 q))) 236 (0,0))::Hi mK b1 b5 mh bm bw kp fv vl vm LB CL CM C es ck:=.tail _ (.tail _ (.tail _ (.tail _ (.tail _ (List.mem_append_right _ (.head _))))))
  cases hg:aJ m q with
  |some x=>
   refine aE.Cz (ke:=kq) (k:=q) og kC hE D9 hg ?_
   rintro v rfl
   obtain⟨h1,h2⟩:=hkn _ ((cR hE.nd).1 hg)
   refine Ext.mk rfl (Ext.mk rfl (Br.yes ?_))
   exact aZ.mk .tail ⟨K,S,made,es,ck,vm,CM,C,rfl,hS,.refl,.inl ⟨x,rfl,h1,h2⟩⟩
  |none=>
  refine aE.sM (ke:=kq) (k:=q) og kC hE D9 hg ?_
  refine Ext.mk rfl (Ext.mk rfl (Br.no ?_))
  refine Ld.q ?_
  refine ay.q ?_
  refine ae.fq (args:=#[ptr bw,kq q]) (qA hK.rep q (fun r hr=>MC r (fJ r hr))) ?_
  rintro vn H ⟨CN,rfl,hN⟩
  have eN:(l3 q).map (got K.N)=(l3 q).map (got K0.N):=List.map_congr_left fun r hr=>s7 hS.fS.N hc0 JA (fJ r hr)
  rw[eN]at hN
  refine Ld.q ?_
  refine ae.rq (yS (bw:=bw) (kp:=kp) (vl:=vl) (vm:=vm) (lvl:=lvl) (n:=K0.n) (mc:=lv af) (N:=K0.N) (.tail _ (.tail _ (.tail _ (.tail _ (.tail _ (List.mem_append_right _ (.tail _ (List.mem_append_right _ (.head _))))))))) (JK.ints.mono fun _ h=>.tail _ (.tail _ (.tail _ (.tail _ (.tail _ (List.mem_append_right _ (.tail _ (List.mem_append_right _ (.tail _ (List.mem_append_left _ h)))))))))) pF hlv q ((Sl.mT hN (by decide)).mono fun _ h=>.tail _ (.tail _ (.tail _ (.tail _ (.tail _ (List.mem_append_right _ (.tail _ (List.mem_append_left _ h)))))))) Ec Dc fJ uM) ?_
  rintro w (⟨aD,_⟩|⟨v',rY,rfl⟩)
  ·obtain⟨s,hs,d,hd,_⟩:=hv.ex
   rw[aD s hs]at hd;cases hd
  obtain rfl:v'=v:=rY.uniq Dc hv
  refine aa.lss (Br.F ?_)
  refine DR.of (R:=[(bq,Obj.cells (au .u32 (iw (l3 q))) 236 (0,0))]) (aR.left (A:=[_])) ?_
  refine ay.q ?_
  refine ay.q ?_
  intro LH _ JN _ Ub
  have hone:∀x∈(iw (l3 q)).map fun n=>Value.int .u32 n,x.oneCell'=true:=fun x hx=>by obtain⟨n,_,rfl⟩:=List.mem_map.1 hx;rfl
  refine St.p hone ?_
  refine⟨.skip (.skip (aR.left (A:=[_]))),?_⟩
  intro Ua
  refine St.p hone ?_
  refine hN.cP ?_
  rw[List.length_map]
  refine⟨fun vs H=>∃i:Nat,vs=[.int .i64 (i:Int)]∧i≤3∧H=(JN,.cells (au .u32 (iw (gT K0.N v' true (l3 q) i))) 236 (0,0))::(LH,.cells (au .u32 (iw (gT K0.N v' false (l3 q) i))) 236 (0,0))::
    (bq,Obj.cells (au .u32 (iw (l3 q))) 236 (0,0))::(mK,.cells #[.map (some bm)] 307 (0,0))::(b1,.cells #[ptr bw] 231 (0,0))::(b5,.cells #[fv] 237 (0,0))::(mh,.cells #[rP mK b1 b5 mh] 308 (0,0))::(LB++((bm,.map es ck)::(CN++(dL bw kp vl vm::(CL++(CM++C)))))),
   fun vs _=>3-ca vs 0,JE.mk ⟨0,rfl,by omega,by rw[p8,p8];rfl⟩,?_⟩
  rintro Tp H ⟨i,hvs,hi,rfl⟩ gs
  simp only[List.cons.injEq,and_true]at hvs
  subst hvs
  have TM:(l3 q).length=3:=rfl
  refine aa.iC (b:=3) (Br.dec (fun hlt=>?_) (fun hlt=>?_))
  ·-- a part of the question
   intro J hJ
   obtain⟨r,hr⟩:∃r,(l3 q)[i]? =some r:=⟨_,List.getElem?_eq_getElem (show i<(l3 q).length from hlt)⟩
   have hlr:=fJ r (List.mem_of_getElem? hr)
   have hrow:((l3 q).map (got K0.N))[i]? =some (got K0.N r):=by rw[List.getElem?_map,hr];rfl
   refine ai.sl (Sl.mT hN (by decide)) hrow fun p hp=>?_
   refine ay.at hp (aQ _ _).1 (by decide) (fun _ h=>.tail _ (.tail _ (.tail _ (.tail _ (.tail _ (.tail _ (.tail _ (List.mem_append_right _ (.tail _ (List.mem_append_left _ h)))))))))) ?_
   intro SH _
   refine St.whole (r:=got K0.N r) (by exact .head _) rfl (aQ _ _).1 (aQ _ _).2 ?_
   have stay:eW K0.N v' false r=r→eW K0.N v' true r=r→∀Z:Hp,JE J [] (Z++((JN,.cells (au .u32 (iw (gT K0.N v' true (l3 q) i))) 236 (0,0))::(LH,.cells (au .u32 (iw (gT K0.N v' false (l3 q) i))) 236 (0,0))::
    (bq,Obj.cells (au .u32 (iw (l3 q))) 236 (0,0))::(mK,.cells #[.map (some bm)] 307 (0,0))::(b1,.cells #[ptr bw] 231 (0,0))::(b5,.cells #[fv] 237 (0,0))::(mh,.cells #[rP mK b1 b5 mh] 308 (0,0))::(LB++((bm,.map es ck)::(CN++(dL bw kp vl vm::(CL++(CM++C)))))))):=fun e1 e2 Z=>by
    refine JE.of .right (hJ _ fun gs=>?_)
    refine aa.inc ?_
    exact aB.of (.refl _) ⟨i+1,rfl,by omega,by rw[p9 hr e1,p9 hr e2]⟩ (by simp only[ca];omega)
   cases IU:K0.N r with
   |none=>
    have rD:r<2:=by rcases hlr with h2|⟨d,hd⟩;exact h2;rw[IU]at hd;cases hd
    rw[eC rD]
    refine Ld.f ?_
    refine aa.iq (Br.F ?_)
    have ec:∀b,eW K0.N v' b r=r:=fun b=>by unfold eW;rw[IU]
    exact stay (ec false) (ec true) [_]
   |some d=>
    have h2:=Ec.two IU
    rw[dQ IU h2]
    refine Ld.f ?_
    refine aa.mI (Br.dec (fun oz=>?_) (fun oz=>?_))
    ·refine DR.of (R:=[(SH,Obj.cells (bp d).toArray 226 (0,0))]) (aR.left (A:=[_])) ?_
     refine Ld.f ?_
     refine Ld.f ?_
     have SA:eW K0.N v' false r=d.lo:=by unfold eW;rw[IU];simp[oz]
     have SB:eW K0.N v' true r=d.hi:=by unfold eW;rw[IU];simp[oz]
     refine ff.nat hlt ?_
     refine St.ints (l:=iw (gT K0.N v' false (l3 q) i)) (x:=(d.lo:Int)) (by exact .tail (.tail (.head _))) (by rw[aC,sL (by omega)];omega) ?_
     refine⟨aR.left (A:=[_]),?_⟩
     refine ff.nat hlt ?_
     refine St.ints (l:=iw (gT K0.N v' true (l3 q) i)) (x:=(d.hi:Int)) (by exact .tail (.head _)) (by rw[aC,sL (by omega)];omega) ?_
     rw[eV,eV,←SA,←SB,mA hr,mA hr]
     refine JE.of .tail (hJ _ fun gs=>?_)
     refine aa.inc ?_
     exact aB.of (.refl _) ⟨i+1,rfl,by omega,rfl⟩ (by simp only[ca];omega)
    ·have ec:∀b,eW K0.N v' b r=r:=fun b=>by unfold eW;rw[IU];simp[oz]
     exact stay (ec false) (ec true) [_]
  obtain rfl:i=3:=by omega
  have em:∀b,gT K0.N v' b (l3 q) 3=l3 (sC K0.N v' b q):=fun b=>by rw[Fk,←BV];rfl
  rw[em,em]
  obtain⟨f1,f2⟩:=nL (S:=S0) Ec Dc IW fJ hv false
  obtain⟨t1,t2⟩:=nL (S:=S0) Ec Dc IW fJ hv true
  have ec:∀b,nA t S0 (fw K0.N v' b (l3 q))=fun x=>nA t S0 (l3 q) (eH.aO x v' b):=fun b=>Gb Ec Dc IW rfl fJ hv t b
  have nt:Ord K0.n (lv af) ord:=by rw[←hS.fS.n];exact hK.od
  have gZ:=Dc.lt v' hv.lt
  have Ks:=nt.of Dc hv.lt
  have CB:=Ah Ec Dc IW nt (q:=l3 q) rfl fJ (Nat.le_of_lt gZ) hv.le t
  obtain⟨i1,M0⟩:=pU (n:=K0.n) (ord:=ord) (c:=nA t S0 (fw K0.N v' false (l3 q))) CB (b:=false) (by rw[Ks];exact ec false)
  obtain⟨i2,MZ⟩:=pU (n:=K0.n) (ord:=ord) (c:=nA t S0 (fw K0.N v' true (l3 q))) CB (b:=true) (by rw[Ks];exact ec true)
  refine Ld.q ?_
  refine ay.q ?_
  refine bg.of rfl fo ?_
  refine ae.pre (H':=(JN,.cells (au .u32 (iw (l3 (sC K0.N v' true q)))) 236 (0,0))::(LH,.cells (au .u32 (iw (l3 (sC K0.N v' false q)))) 236 (0,0))::(bq,Obj.cells (au .u32 (iw (l3 q))) 236 (0,0))::Hi mK b1 b5 mh bm bw kp fv vl vm LB CL CM C es ck) (.cons (.cons (.cons (.cons (.cons (.cons (.cons (.dx (.cons .right) _)))))))) ?_
  refine ae.fq (args:=#[kq (sC K0.N v' false q),ptr mK,ptr b1,ptr b5,ptr mh]) (Q2 (sC K0.N v' false q) rfl K S made es ck vm CM C hS f1 (fun g hg=>hU g (M0 g hg))) ?_
  rintro w H ⟨K1,S1,GJ,yJ,tw,Pf,QB,C1,rfl,Ee,Lt,C8⟩
  rcases C8 with⟨x1,rfl,Q5,tY⟩|⟨rfl,hno⟩
  rotate_left
  ·refine Ext.mk rfl (Ext.mk rfl (aa.eP (Br.T ?_)))
   exact aZ.mk (.skip (.skip .tail)) ⟨K1,S1,GJ,yJ,tw,Pf,QB,C1,rfl,Ee,Lt.y8 (by omega),.inr ⟨rfl,hno⟩⟩
  refine Ext.mk rfl (Ext.mk rfl (aa.eP (Br.F ?_)))
  refine Ld.q ?_
  refine ay.q ?_
  refine bg.of rfl fo ?_
  have PX:=fun s=>Lt.count s
  have TP:∀s,K1.hold s≤K.hold s+a:=fun s=>by rw[Ee.fS.hold,hS.fS.hold];have:=(PX s).1;omega
  refine ae.fq (args:=#[kq (sC K0.N v' true q),ptr mK,ptr b1,ptr b5,ptr mh]) (Q1 (sC K0.N v' true q) rfl K1 S1 GJ yJ tw Pf QB C1 Ee t1 (fun g hg=>hU g (MZ g hg))) ?_
  rintro w H ⟨K2,S2,gy,ud,yP,L3,MS,C2,rfl,oB,oC,C8⟩
  have Df:=Lt.trans oC
  rcases C8 with⟨x2,rfl,GR,nu⟩|⟨rfl,hno⟩
  rotate_left
  ·refine Ext.mk rfl (Ext.mk rfl (aa.eP (Br.T ?_)))
   exact aZ.mk (.skip (.skip .tail)) ⟨K2,S2,gy,ud,yP,L3,MS,C2,rfl,oB,Df.y8 (by omega),.inr ⟨rfl,hno⟩⟩
  refine Ext.mk rfl (Ext.mk rfl (aa.eP (Br.F ?_)))
  refine Ld.q ?_
  obtain⟨MY,nH,Fw⟩:=Ee.ks
  obtain⟨tS,gh,nr⟩:=oB.ks
  have KH:=gh.ok.mid.int
  have Ni:live K1.N x1:=by rcases tY with h|h|h;exact .inl h;exact Ee.fS.gx nH h;exact Ee.fS.live (Mn _ h)
  have e1:S2 x1=nA t S0 (fw K0.N v' false (l3 q)):=(oC.fn x1 Ni).trans Q5
  have l1:live K2.N x1:=by rcases tY with h|h|h;exact .inl h;exact oB.fS.gx gh (oC.mem h);exact oB.fS.live (Mn _ h)
  have l2:live K2.N x2:=by rcases nu with h|h|h;exact .inl h;exact oB.fS.gx gh h;exact oB.fS.live (Mn _ h)
  have n2:=oB.fS.n
  have Cy:ite S2 ⟨v',x1,x2⟩=nA t S0 (l3 q):=by
   funext x
   unfold av.ite
   rw[e1,GR,ec,ec]
   conv=>rhs;rw[←eH.jo x v']
   simp only
   cases x.testBit v'<;>rfl
  obtain⟨m2,De,FG⟩:=oB.kn
  have Rv:∀y∈m2,live K2.N y.2:=fun y hy=>by
   rcases(FG y hy).2 with h|h|h
   ·exact .inl h
   ·exact oB.fS.gx gh h
   ·exact oB.fS.live (Mn _ h)
  by_cases hx:x1=x2
  ·subst hx
   refine ae.eq (vg x1 v' _) ?_
   refine Ext.two ?_
   intro J hJ
   refine aa.iq (Br.T ?_)
   refine Ld.q ?_
   refine ay.q ?_
   refine aE.Es (ke:=kq) (k:=q) (vr:=Ep) (x:=x1) og kC rz De rfl fun es' cg he=>⟨_,.tail (.tail (.tail (.tail (.tail (.tail (.tail ((ct.head _).bL LB))))))),?_⟩
   refine JE.mk (hJ _ fun gs=>?_)
   have hr:S2 x1=nA t S0 (l3 q):=by
    rw[←Cy]
    funext x
    unfold av.ite
    split<;>rfl
   have tW:x1<2∨x1∈gy∨K0.hold x1=65535:=nu
   exact aZ.mk (.skip (.skip .tail)) ⟨K2,S2,gy,es',cg,L3,MS,C2,rfl,⟨oB.ks,oB.fS,oB.L6,_,he,fun y hy=>(n7 hy).elim (fun e=>by rw[e];exact⟨hr,tW⟩) (fun hy=>FG y hy)⟩,Df.y8 (by omega),.inl ⟨x1,rfl,hr,tW⟩⟩
  ·have G5:cq (nA t S0 (l3 q)) (ord.getD (lv af v') 0):=by
    rw[Ks]
    refine Classical.byContradiction fun hno=>hx ?_
    refine gh.ok.wf.same gh.ok.lv KH l1 l2 fun x=>?_
    rw[e1,GR,ec,ec]
    exact(eG hno x false).trans (eG hno x true).symm
   have T7:=gh.ok.below gh.od (l:=lv af v'+1) l1 (by omega) (by rw[e1];exact i1)
   have T6:=gh.ok.below gh.od (l:=lv af v'+1) l2 (by omega) (by rw[GR];exact i2)
   have Da:∀g,aF K0.n ord (fun g=>g=ite S2 ⟨v',x1,x2⟩) g→U g:=by rw[Cy];exact hU
   refine ae.fq (args:=#[ptr bw,.int .i64 (v':Int),u32 x1,u32 x2]) (DP gh (v:=v') (by rw[n2];exact hv.lt) l1 l2 hx ⟨by omega,by omega⟩ oB.L6 (by have:=oB.fS.lg gh;omega)) ?_
   rintro w H (⟨r,K3,S3,C3,QD,Tl,rfl,rfl,Aa,mk,JF⟩|⟨rfl,rfl,IL,hT⟩|⟨r,rfl,rfl,hlr,Eh,hfull,Ed⟩)
   ·refine Ext.two ?_
    intro J hJ
    refine aa.iq (Br.T ?_)
    refine Ld.q ?_
    refine ay.q ?_
    refine aE.Es (ke:=kq) (k:=q) (vr:=Ep) (x:=r) og kC rz De rfl fun es' cg he=>⟨_,.tail (.tail (.tail (.tail (.tail (.tail (.tail ((ct.head _).bL LB))))))),?_⟩
    refine JE.mk (hJ _ fun gs=>?_)
    have hr:S3 r=nA t S0 (l3 q):=mk.is.trans Cy
    have rD:2≤r:=Nat.le_of_not_lt fun h=>by
     obtain⟨x,hx⟩:=G5
     apply hx
     rw[←hr]
     have ID:=Aa.ok.mid.int
     have:r=0∨r=1:=by omega
     rcases this with rfl|rfl
     ·rw[ID.zero,ID.zero]
     ·rw[ID.one,ID.one]
    have nG:=oB.fS.step gh mk rD Da
    have JL:dB K2 S2 gy K3 S3 (gy++[r]) 1:=⟨mk.N,mk.fn,[r],rfl,Nat.le_refl _⟩
    have tW:r<2∨r∈gy++[r]∨K0.hold r=65535:=.inr (.inl (by simp))
    refine aZ.mk (.skip (.skip .tail)) ⟨K3,S3,gy++[r],es',cg,QD,Tl,C3,rfl,⟨⟨[],Aa,.inl rfl⟩,nG,JF,_,he,fun y hy=>(n7 hy).elim (fun e=>by rw[e];exact⟨hr,tW⟩) (fun hy=>?_)⟩,(Df.trans JL).y8 (by omega),.inl ⟨r,rfl,hr,tW⟩⟩
    obtain⟨k1,k2⟩:=FG y hy
    exact⟨by rw[JL.fn y.2 (Rv y hy),k1],k2.imp id (Or.imp JL.mem id)⟩
   ·refine Ext.two ?_
    intro J hJ
    refine aa.iq (Br.F (JE.mk (hJ _ fun gs=>?_)))
    refine aZ.mk (.skip (.skip .tail)) ⟨K2,S2,gy,ud,yP,L3,MS,C2,rfl,oB,Df.y8 (by omega),.inr ⟨rfl,?_⟩⟩
    rintro⟨ku,FE,hfit⟩
    have:=gh.ok.roomFor gh.od FE (by rw[oB.fS.cap];exact hfit) (by rw[n2];exact oB.fS.U) (d:=⟨v',x1,x2⟩) l1 l2 hx (by rw[n2];exact hv.lt) ⟨by show lv af v'<dep K2.n (lv af) K2.N x1;omega,by show lv af v'<dep K2.n (lv af) K2.N x2;omega⟩ (Da _ (by rw[Cy];exact pX CB gZ G5)) hT
    omega
   ·refine Ext.two ?_
    intro J hJ
    refine aa.iq (Br.T ?_)
    refine Ld.q ?_
    refine ay.q ?_
    refine aE.Es (ke:=kq) (k:=q) (vr:=Ep) (x:=r) og kC rz De rfl fun es' cg he=>⟨_,.tail (.tail (.tail (.tail (.tail (.tail (.tail ((ct.head _).bL LB))))))),?_⟩
    refine JE.mk (hJ _ fun gs=>?_)
    have hr:S2 r=nA t S0 (l3 q):=Ed.trans Cy
    have tW:r<2∨r∈gy∨K0.hold r=65535:=.inr (oB.fS.full hfull)
    exact aZ.mk (.skip (.skip .tail)) ⟨K2,S2,gy,es',cg,L3,MS,C2,rfl,⟨oB.ks,oB.fS,oB.L6,_,he,fun y hy=>(n7 hy).elim (fun e=>by rw[e];exact⟨hr,tW⟩) (fun hy=>FG y hy)⟩,Df.y8 (by omega),.inl ⟨r,rfl,hr,tW⟩⟩
end
section
variable {kp bw:Nat} {vl vm:Value} {K:Kd} {S:Nat→av.Fn} {ord af tr:List Nat} {C:Hp}
theorem Ay{Y:Hp}{vr:Value}{refs:List Nat}(hK:cv kp K S ord af tr C)(hr:fR .u32 Y vr (iw refs))(hl:∀r∈refs,live K.N r)(cc:refs.length≤1048576):
  Fc Tryz.prog 177 #[ptr kp,vr] (Y++C) (fun w H=>∃bw vl CL lvl,w=.tuple #[ptr bw,.int .i64 0]∧H=dL bw kp vl (.slice none 0 0)::(CL++(Y++C))∧aN 3 .i64 vl (iw lvl) CL∧lvl.length=K.n∧∀v,v<K.n→lvl.getD v 0=lv af v):=by
 have hn:K.n≤64:=hK.aH.mV
 have nt:=hK.od
 refine aP fun g=>xu ?_
 refine aa.an (Br.no (hr.cP ?_))
 rw[aC]
 refine⟨fun vs H=>∃i:Nat,vs=[.int .i64 (i:Int)]∧i≤refs.length∧H=Y++C,fun vs _=>refs.length-ca vs 0,JE.mk ⟨0,rfl,Nat.zero_le _,rfl⟩,?_⟩
 rintro w7 H ⟨i,⟨⟩,hi,rfl⟩ gs
 refine aa.iC (Br.dec (fun hlt=>?_) (fun hlt=>?_))
 ·have hlr:=hl _ (List.getElem_mem hlt)
  refine hr.ld (n:=((refs[i]:Nat):Int)) (iS (List.getElem?_eq_getElem hlt)) (fun _ h=>List.mem_append_left _ h) ?_
  refine ae.eq (args:=#[ptr kp,u32 refs[i]]) (iR hK.rep (by have:=hK.dk hlr;omega)) ?_
  rw[bD.2 hlr]
  refine Ext.two ?_
  intro SK _
  refine St.whole (r:=got K.N refs[i]) (by exact .head _) rfl (aQ _ _).1 (aQ _ _).2 ?_
  refine aa.eP (Br.F ?_)
  refine aa.inc ?_
  exact aB.of .tail ⟨i+1,rfl,hlt,rfl⟩ (by simp only[ca];omega)
 ·refine ae.eq (oe hK.rep) ?_
  refine eJ.ints (by omega) (by omega) fun bl=>?_
  refine Build.mk (cs:=[ptr kp,.slice (some ⟨bl,0,none⟩) K.n K.n,.slice none 0 0]) (by kernel_rfl) ?_
  intro bw _
  refine ae.fq (zJ hK.rep) ?_
  rintro vo H ⟨N,rfl,ho⟩
  refine ho.cP ?_
  rw[aC,nt.len]
  have hz:List.replicate K.n (0:Int)=iw (List.replicate K.n 0):=by simp[iw]
  have hm:=aN.made (T:=3) (kd:=.i64) (b:=bl) (iw (List.replicate K.n 0))
  rw[aC,List.length_replicate]at hm
  rw[hz]
  generalize hvl:Value.slice (some ⟨bl,0,none⟩) K.n K.n=vl at*
  refine⟨fun vs H=>∃(i:Nat) (L:List Nat) (CL:Hp),vs=[.int .i64 (i:Int)]∧i≤K.n∧H=dL bw kp vl (.slice none 0 0)::(CL++(Y++(N++C)))∧aN 3 .i64 vl (iw L) CL∧L.length=K.n∧∀j,j<i→L.getD (ord.getD j 0) 0=j,fun vs _=>K.n-ca vs 0,
   JE.mk ⟨0,_,_,rfl,Nat.zero_le _,rfl,hm,by simp,fun j hj=>absurd hj (Nat.not_lt_zero _)⟩,?_⟩
  rintro Tq H ⟨i,L,CL,⟨⟩,hi,rfl,hL,P9,P8⟩ gs
  refine aa.iC (Br.dec (fun hlt=>?_) (fun hlt=>?_))
  ·have jB:=(nt.aH i hlt).1
   refine ho.ld (x:=((ord.getD i 0:Nat):Int)) (bP (by rw[nt.len];exact hlt)) (fun _ h=>.tail _ (List.mem_append_right _ (List.mem_append_right _ (List.mem_append_left _ h)))) ?_
   refine Ld.n ?_
   refine hL.iI (x:=(i:Int)) (.cons .left) (by rw[aC];omega) fun Tn Qa=>?_
   rw[eV]at Qa
   refine aa.inc ?_
   refine aB.mk ⟨i+1,L.set (ord.getD i 0) i,Tn,rfl,hlt,rfl,Qa,by simp[P9],fun j hj=>?_⟩ (by simp only[ca];omega)
   by_cases e:j=i
   ·subst e
    rw[List.getD_eq_getElem?_getD,List.getElem?_set_self (by omega)];rfl
   ·have hj':j<i:=by omega
    have hne:ord.getD i 0≠ord.getD j 0:=fun h=>by
     have a:=(nt.aH i hlt).2
     have b:=(nt.aH j (by omega)).2
     rw[h,b]at a;exact e a
    rw[List.getD_eq_getElem?_getD,List.getElem?_set_ne hne,←List.getD_eq_getElem?_getD,P8 j hj']
  ·obtain rfl:i=K.n:=by omega
   refine aZ.mk (.cons (.dx (.dx .right _) _)) ⟨bw,vl,CL,L,rfl,rfl,hL,P9,fun v hv=>?_⟩
   have h1:=P8 (lv af v) (hK.ok.lv.lt v hv)
   rwa [nt.of hK.ok.lv hv]at h1
structure y4(K K':Kd)(made:List Nat)(x:Nat)(ok:Bool):Prop where
 n:K'.n=K.n
 cap:K'.cap=K.cap
 N:∀s d,K'.N s=some d→K.N s=some d
 hold:∀s,K'.hold s+made.count s=K.hold s+if ok=true∧s=x∧2≤x then 1 else 0
theorem Gr{X CM:Hp}{made:List Nat}{x:Nat}{ok fu:Bool}(hK:cv kp K S ord af tr C)(hM:aN 110 .u32 vm (iw made) CM)(hc:∀s,made.count s≤K.hold s)(h2:∀s∈made,2≤s)(MC:∀s∈made,s<4294967296)(hx:ok=true→((x<2∨x∈made)↔fu=false))(cc:made.length≤1099511627776):
  Fc Tryz.prog 251 #[ptr bw,u32 x,.int .i64 (if ok then 0 else 9)] (dL bw kp vl vm::(X++(CM++C))) (fun w H=>∃K' C' ef,w=.tuple #[u32 (if ok&& !fu then x else 0),.int .i64 (if ok then(if fu then 8 else 0)else 9)]∧H=dL bw kp vl (.slice none 0 0)::(X++(CM++C'))∧cv kp K' S ord af ef C'∧(ef=[]∨(ef=tr∧((ok&& !fu)=true→made≠[])))∧y4 K K' made x (ok&& !fu)):=by
 refine aP fun g=>wH ?_
 refine aa.mI (b:=0) ?_
 refine c7.or (decide (x=1)) (fun _=>aa.mI (b:=1) ⟨rfl,rfl⟩) (by simp) fun gs=>?_
 rw[←Bool.decide_or]
 refine Ld.n (hM.cP ?_)
 rw[aC]
 refine⟨fun vs H=>∃(i:Nat) (Ki:Kd) (Ci:Hp) (GB:List Nat) (kept:Bool),vs=[.bool kept,.int .i64 (i:Int)]∧i≤made.length∧H=dL bw kp vl vm::(X++(CM++Ci))∧cv kp Ki S ord af GB Ci∧(GB=[]∨GB=tr)∧Ki.n=K.n∧Ki.cap=K.cap∧(∀s d,Ki.N s=some d→K.N s=some d)∧
   (∀s,Ki.hold s+(made.take i).count s=K.hold s+if kept=true∧s=x∧2≤x then 1 else 0)∧(x<2→kept=true)∧(kept=true→x<2∨(ok=true∧x∈made.take i))∧(ok=true→x∈made.take i→kept=true),fun vs _=>made.length-ca vs 1,
  JE.mk ⟨0,K,C,tr,_,rfl,Nat.zero_le _,rfl,hK,.inr rfl,rfl,rfl,fun _ _ h=>h,fun s=>?_,fun h=>decide_eq_true (by omega),fun h=>.inl (by have:=of_decide_eq_true h;omega),fun _ h=>by simp at h⟩,?_⟩
 ·rw[List.take_zero,List.count_nil,if_neg (fun h=>by have:=of_decide_eq_true h.1;omega)]
 rintro Ts Tr H ⟨i,Ki,Ci,GB,kept,⟨⟩,hi,rfl,JI,Fv,hn,hcap,hN,hh,ou,lJ,kD⟩ gs
 refine aa.iC (Br.dec (fun hlt=>?_) (fun hlt=>?_))
 ·intro J hJ
  have m4:made.take (i+1)=made.take i++[made[i]]:=List.take_succ_eq_append_getElem hlt
  have N9:made[i]∈made:=List.getElem_mem hlt
  have jM:(made.take i).count made[i]+1≤made.count made[i]:=by
   have h1:=(List.take_sublist (i+1) made).count_le made[i]
   rw[m4,List.count_append,List.count_singleton_self]at h1;exact h1
  refine hM.ld (x:=((made[i]:Nat):Int)) (iS (List.getElem?_eq_getElem hlt)) (fun _ h=>.tail _ (List.mem_append_right _ (List.mem_append_left _ h))) ?_
  generalize hf:made[i]=f at*
  refine aa.mI ?_
  refine c7.and (!kept) (fun _=>Un.not ⟨rfl,rfl⟩) (by simp) fun gs=>?_
  refine c7.and ok (fun _=>aa.iq ⟨rfl,by cases ok<;>rfl⟩) (by simp) fun gs=>?_
  refine Br.mk (fun hb=>?_) (fun hb=>?_)
  ·simp only[Bool.and_eq_true,decide_eq_true_eq,Bool.not_eq_true']at hb
   obtain⟨⟨rfl,Mi⟩,hok⟩:=hb
   refine JE.mk (hJ _ _ fun gs=>?_)
   refine aa.inc ?_
   refine aB.mk ⟨i+1,Ki,Ci,GB,true,rfl,hlt,rfl,JI,Fv,hn,hcap,hN,fun s=>?_,fun _=>rfl,fun _=>.inr ⟨hok,by rw[m4];simp⟩,fun _ _=>rfl⟩ (by simp only[ca];omega)
   have h0:=hh s
   rw[m4,List.count_append,List.count_singleton]
   rw[if_neg (fun h=>by rw[Mi]at h;cases h.1)]at h0
   by_cases e:s=f
   ·subst e
    have:=h2 s N9
    simp[this];omega
   ·have:(f==s)=false:=by simpa using fun e'=>e e'.symm
    simp[e,this];omega
  ·refine Ld.n ?_
   have RB:Ki.hold f≠0:=by
    have h0:=hh f
    have:=hc f
    split at h0<;>omega
   refine ae.fq (args:=#[ptr kp,u32 f]) (yK JI (r:=f) (MC f N9) (fun _=>RB)) ?_
   rintro w C2 ⟨rfl,K2,gh,f2⟩
   refine JE.mk (hJ _ _ fun gs=>?_)
   refine aa.inc ?_
   refine aB.mk ⟨i+1,K2,C2,[],kept,rfl,hlt,rfl,gh,.inl rfl,f2.n.trans hn,f2.cap.trans hcap,fun s d hd=>hN s d (f2.N s d hd),fun s=>?_,ou,fun h=>(lJ h).imp id (fun h=>⟨h.1,by rw[m4];exact List.mem_append_left _ h.2⟩),fun h1 h3=>?_⟩ (by simp only[ca];omega)
   ·have h0:=hh s
    rw[f2.hold,m4,List.count_append,List.count_singleton]
    by_cases e:s=f
    ·subst e
     have:=h2 s N9
     simp[this];omega
    ·have:(f==s)=false:=by simpa using fun e'=>e e'.symm
     simp[e,this];omega
   ·rw[m4,List.mem_append,List.mem_singleton]at h3
    rcases h3 with h3|h3
    ·exact kD h1 h3
    ·subst h3
     cases hkk:kept
     ·rw[hkk,h1]at hb;simp at hb
     ·rfl
 ·obtain rfl:i=made.length:=by omega
  rw[List.take_length]at hh lJ kD
  refine Nil.ptr (ag.mk (St.one (by exact .head _) rfl (by simp) rfl ?_))
  intro J hJ
  refine aa.eP ?_
  cases ok with
  |false=>
   refine Br.T ?_
   have hE:y4 K Ki made x false:=⟨hn,hcap,hN,fun s=>by
    have h0:=hh s
    rw[if_neg (fun h=>by cases h.1)]
    rw[if_neg (fun h=>by
     rcases lJ h.1 with h3|h3
     ·omega
     ·cases h3.1)]at h0
    exact h0⟩
   refine aZ.here ⟨Ki,Ci,GB,?_,rfl,JI,Fv.imp id fun h=>⟨h,fun h=>by cases h⟩,hE⟩
   rfl
  |true=>
   have hx:=hx rfl
   cases fu with
   |true=>
    have Mi:kept=false:=by
     cases hkk:kept
     ·rfl
     ·have:(true=false):=hx.1 ((lJ hkk).imp id fun h=>h.2)
      cases this
    refine Br.F ?_
    rw[Mi]
    refine Un.not (Br.yes (aZ.here ⟨Ki,Ci,GB,rfl,rfl,JI,Fv.imp id fun h=>⟨h,fun h=>by cases h⟩,⟨hn,hcap,hN,fun s=>?_⟩⟩))
    have h0:=hh s
    rw[Mi]at h0
    rw[if_neg (fun h=>by cases h.1)]at h0⊢
    exact h0
   |false=>
   have hx:=hx.2 rfl
   have sZ:kept=true:=by
    rcases hx with h|h
    ·exact ou h
    ·exact kD rfl h
   refine Br.F ?_
   rw[sZ]
   refine Un.not (Br.no ?_)
   have hE:∀K3:Kd,K3.n=Ki.n→K3.cap=Ki.cap→K3.N=Ki.N→(∀s,K3.hold s=Ki.hold s)→y4 K K3 made x true:=fun K3 a1 a2 a3 a4=>⟨a1.trans hn,a2.trans hcap,by rw[a3];exact hN,fun s=>by rw[a4,hh s,sZ]⟩
   refine aa.mI (b:=0) ?_
   refine c7.or (decide (x=1)) (fun _=>aa.mI (b:=1) ⟨rfl,rfl⟩) (by simp) fun gs=>?_
   rw[←Bool.decide_or]
   refine Br.dec (fun zZ=>?_) (fun zZ=>?_)
   ·refine Ld.n ?_
    refine ae.fq (nF JI (r:=x) (.inl (by omega)) (fun h=>by omega)) ?_
    rintro w C3 ⟨rfl,K3,Aa,mo⟩
    refine JE.mk (hJ _ fun gs=>aZ.here ⟨K3,C3,[],by simp,rfl,Aa,.inl rfl,hE K3 mo.n mo.cap mo.N fun s=>?_⟩)
    rw[mo.hold,if_neg (by omega)]
   ·refine JE.mk (hJ _ fun gs=>aZ.here ⟨Ki,Ci,GB,by simp,rfl,JI,Fv.imp id fun h=>⟨h,fun _ hm=>?_⟩,hE Ki rfl rfl rfl fun _=>rfl⟩)
    rcases hx with h|h
    ·omega
    ·rw[hm]at h;cases h
end
theorem JX{α:Type}(a b c d e f g h:α)(L R:List α):(a::b::c::d::e::f::g::h::(L++R)).Perm (g::d::e::b::h::f::a::(L++c::R)):=by
 classical
 rw[List.perm_iff_count];intro x
 simp only[List.count_append,List.count_cons]
 omega
def Pa(kp:Nat)(K:Kd)(S:Nat→av.Fn)(ord af tr:List Nat)(f:av.Fn)(w:Value)(H:Hp):Prop:=
 (∃x K' S',w=.tuple #[u32 x,.int .i64 0]∧cv kp K' S' ord af [] H∧px K S K' S' f x)∨
 (w=.tuple #[u32 0,.int .i64 9]∧(∃K' S' ef,cv kp K' S' ord af ef H∧(ef=[]∨ef=tr)∧Kept K S K' S')∧¬Fits (aF K.n ord (fun g=>K.held S g∨g=f)) K.cap)
def ji(kp:Nat)(K:Kd)(S:Nat→av.Fn)(ord af tr:List Nat)(f:av.Fn)(w:Value)(H:Hp):Prop:=
 Pa kp K S ord af tr f w H∨(w=.tuple #[u32 0,.int .i64 8]∧(∃K' S' ef,cv kp K' S' ord af ef H∧(ef=[]∨ef=tr)∧Kept K S K' S')∧∃r,2≤r∧K.hold r=65535∧S r=f)
section
variable {kp bw:Nat} {vl fv:Value} {K:Kd} {S:Nat→av.Fn} {ord af tr lvl:List Nat} {LB CL C:Hp} {t:Bool→Bool→Bool→Bool}
theorem Gm(hK:cv kp K S ord af tr C)(MA:vk fv LB t)(JK:aN 3 .i64 vl (iw lvl) CL)(pF:lvl.length=K.n)(hlv:∀v,v<K.n→lvl.getD v 0=lv af v)(q:Q3)(hq:∀r∈l3 q,live K.N r){c:Nat}(hT:Tree K.n (lv af) K.N (l3 q) c):
  Fc Tryz.prog 178 #[ptr bw,kq q,fv] (LB++(dL bw kp vl (.slice none 0 0)::(CL++C))) (ji kp K S ord af tr (nA t S (l3 q))):=by
 have hrb:aS Tryz.prog 252=true:=by kernel_rfl
 obtain⟨fl,OT,Sy,IE,hfr⟩:=MA.is
 refine aP fun g=>xq ?_
 intro b1 _ b3 _ b5 _ b7 _ b9 _ bm _ mK _
 refine St.one (by exact .head _) rfl (by simp) rfl ?_
 intro mh _
 refine St.one (by exact .head _) rfl (by simp) rfl ?_
 refine Ld.q ?_
 refine ay.q ?_
 refine bg.of rfl hrb ?_
 refine ae.pre (H':=(b9,.cells #[.int .i64 0] 27 (0,0))::(b7,.cells #[.int .u32 0] 110 (0,0))::Hi mK b1 b5 mh bm bw kp fv vl (.slice none 0 0) LB CL [] C #[] 0) ?_ ?_
 ·rw[IE]
  exact(aR.perm (JX _ _ _ _ _ _ _ _ _ _)).trans .tail
 have nt:=hK.od
 have Ec:=hK.ok.wf
 have Dc:=hK.ok.lv
 have IW:=hK.ok.mid.int
 have hS:O4 kp K S (aF K.n ord (fun g=>K.held S g∨g=nA t S (l3 q))) ord af tr t K S [] #[] 0 (.slice none 0 0) [] C:=
  ⟨⟨tr,hK,.inr ⟨rfl,rfl⟩⟩,.refl fun g hg=>ew (fun g h=>.inl h) hg,aN.nil,[],aE.empty,fun y hy=>by cases hy⟩
 refine ae.fq (args:=#[kq q,ptr mK,ptr b1,ptr b5,ptr mh]) (IZ hrb MA JK pF hlv hK.aH.mV Ec IW Dc (fun r hr=>by have:=hK.dk hr;omega) (fun s hs=>.inr (hK.ok.mid.held s (by omega))) (HG:=tr) (l3 q) c hT q rfl K S [] #[] 0 (.slice none 0 0) [] C hS hq (fun g hg=>ew (fun g h=>.inr h) hg)) ?_
 rintro w H ⟨K1,S1,made,es,ck,vm,CM,C1,rfl,Ee,hA,C8⟩
 obtain⟨MY,nH,Fw⟩:=Ee.ks
 have nG:=Ee.fS
 have TJ:=nG.lg nH
 have NR:∀s∈made,s<4294967296:=fun s hs=>by have:=nH.dk (nG.gx nH hs);omega
 have Rr:∀s,made.count s≤K1.hold s:=fun s=>by rw[nG.hold];omega
 have fin:∀(x:Nat) (ok fu:Bool),w=.tuple #[u32 (if ok then x else 0),.int .i64 (if ok then 0 else 9)]→(ok=true→((x<2∨x∈made)↔fu=false))→(∀K2 C2 tS,cv kp K2 S1 ord af tS C2→(tS=[]∨(tS=MY∧((ok&& !fu)=true→made≠[])))→y4 K1 K2 made (if ok then x else 0) (ok&& !fu)→ji kp K S ord af tr (nA t S (l3 q)) (.tuple #[u32 (if ok&& !fu then(if ok then x else 0)else 0),.int .i64 (if ok then(if fu then 8 else 0)else 9)]) C2)→(ok=false→x=0)→
   Ext 0 w fun QI=>Ext 1 w fun QH=>St 1 ((b9,.cells #[.int .i64 0] 27 (0,0))::(b7,.cells #[.int .u32 0] 110 (0,0))::Hi mK b1 b5 mh bm bw kp fv vl vm LB CL CM C1 es ck) (ptr b7) QI fun Th=>St 1 Th (ptr b9) QH fun Tg=>
   Je Tryz.prog g 250 #[ptr b1,ptr b7,ptr b9] Tg fun O8=>Ld O8 (ptr b7) fun QG=>Ld O8 (ptr b9) fun QE=>aZ (ji kp K S ord af tr (nA t S (l3 q))) (.returned (.tuple #[QG,QE])) O8:=by
  intro x ok fu hw hx hd h0
  subst hw
  refine Ext.two ?_
  refine St.one (by exact .tail (.head _)) rfl (by simp) rfl ?_
  refine St.one (by exact .head _) rfl (by simp) rfl ?_
  refine tM (R:=_) ?_
  unfold L250
  refine Ld.q ?_
  refine Ld.q ?_
  refine Ld.q ?_
  refine ae.fq (Gr (X:=CL) (x:=if ok then x else 0) (ok:=ok) (fu:=fu) nH Ee.L6 Rr nG.two NR (fun h=>by rw[if_pos h];exact hx h) (by omega)) ?_
  rintro w H ⟨K2,C2,tS,rfl,rfl,gh,nr,hE⟩
  refine Ext.two ?_
  refine St.one (by exact .tail (.head _)) rfl (by simp) rfl ?_
  refine St.one (by exact .head _) rfl (by simp) rfl ?_
  refine⟨⟨_,rfl⟩,?_⟩
  refine Ld.q ?_
  refine Ld.q ?_
  exact aZ.mk (.skip (.skip (.skip (.skip (.skip (.skip (aR.right.trans (.skip (.skip (aR.right.trans .right)))))))))) (hd K2 C2 tS gh nr hE)
 have Is:∀s,K.hold s≠0→live K.N s:=fun s hs=>.inr (hK.ok.mid.held s hs)
 rcases C8 with⟨x,rfl,hx,Q4⟩|⟨rfl,hno⟩
 ·by_cases Ma:x<2∨x∈made
  rotate_left
  ·have GR:2≤x:=by omega
   have hfull:K.hold x=65535:=by
    rcases Q4 with h|h|h
    ·exact absurd (.inl h) Ma
    ·exact absurd (.inr h) Ma
    ·exact h
   refine fin x true true rfl (fun _=>⟨fun h=>absurd h Ma,fun h=>by cases h⟩) (fun K2 C2 tS gh nr hE=>.inr ⟨rfl,⟨K2,S1,tS,gh,?_,?_⟩,x,GR,hfull,?_⟩) (fun h=>by cases h)
   ·rcases nr with h|⟨h,_⟩
    ·exact .inl h
    ·rcases Fw with h2|⟨h2,_⟩
     ·exact .inl (h.trans h2)
     ·exact .inr (h.trans h2)
   ·have iT:∀s,K2.hold s=K.hold s:=fun s=>by
     have a:=hE.hold s
     have b:=nG.hold s
     rw[if_neg (fun h=>by cases h.1)]at a
     omega
    refine⟨hE.n.trans nG.n,hE.cap.trans nG.cap,iT,fun g=>?_,fun r hr=>nG.fn r (Is r hr)⟩
    constructor
    ·rintro⟨s,hs,rfl⟩
     have hs':K.hold s≠0:=by rw[←iT];exact hs
     exact⟨s,hs',nG.fn s (Is s hs')⟩
    ·rintro⟨s,hs,rfl⟩
     exact⟨s,by show K2.hold s≠0;rw[iT];exact hs,(nG.fn s (Is s hs)).symm⟩
   ·rw[←hx];exact(nG.fn x (Is x (by omega))).symm
  refine fin x true false rfl (fun _=>⟨fun _=>rfl,fun _=>Ma⟩) (fun K2 C2 tS gh nr hE=>.inl (.inl ⟨x,K2,S1,rfl,?_,?_⟩)) (fun h=>by cases h)
  ·have:tS=[]:=by
    rcases nr with h|⟨h,h'⟩
    ·exact h
    ·rcases Fw with h2|⟨_,h2⟩
     ·rw[h,h2]
     ·exact absurd h2 (h' rfl)
   rw[this]at gh;exact gh
  ·have iT:∀s,K2.hold s=K.hold s+if s=x∧2≤x then 1 else 0:=fun s=>by
    have a:=hE.hold s
    have b:=nG.hold s
    simp only[Bool.not_false,Bool.and_true,if_true,true_and]at a
    omega
   have hl:live K2.N x:=by
    by_cases h2:x<2
    ·exact .inl h2
    ·refine .inr (gh.ok.mid.held x ?_)
     rw[iT,if_pos ⟨rfl,by omega⟩];omega
   exact⟨hE.n.trans nG.n,hE.cap.trans nG.cap,fun s d hs=>uG hK.ok gh.ok (fun s h=>by rw[iT];omega) (fun s d d' h h'=>by
    have a:=hE.N s d' h'
    rw[nG.N s d h]at a;exact(Option.some.inj a).symm) _ s d hs (Nat.le_refl _),fun s hs=>nG.fn s hs,hl,hx,iT⟩
 ·refine fin 0 false false rfl (fun h=>by cases h) (fun K2 C2 tS gh nr hE=>.inl (.inr ⟨rfl,⟨K2,S1,tS,gh,?_,?_⟩,hno⟩)) (fun _=>rfl)
  ·rcases nr with h|⟨h,_⟩
   ·exact .inl h
   ·rcases Fw with h2|⟨h2,_⟩
    ·exact .inl (h.trans h2)
    ·exact .inr (h.trans h2)
  ·have iT:∀s,K2.hold s=K.hold s:=fun s=>by
    have a:=hE.hold s
    have b:=nG.hold s
    rw[if_neg (fun h=>by cases h.1)]at a
    omega
   refine⟨hE.n.trans nG.n,hE.cap.trans nG.cap,iT,fun g=>?_,fun r hr=>nG.fn r (Is r hr)⟩
   constructor
   ·rintro⟨s,hs,rfl⟩
    have hs':K.hold s≠0:=by rw[←iT];exact hs
    exact⟨s,hs',nG.fn s (Is s hs')⟩
   ·rintro⟨s,hs,rfl⟩
    exact⟨s,by show K2.hold s≠0;rw[iT];exact hs,(nG.fn s (Is s hs)).symm⟩
end
end Go.Proofs
namespace Go.Sx
open Go
section
variable {P:Program} {g:Gh}
theorem Build.JR{t e:TypeId}{q:IntKind}{x y:Int}{K:Value→Prop}(ht:P.underlying t=some (.array 3 e))(hz:cC P e=some 1)(h0:ed P t=some (.agg (au q [0,0,0])))(h:K (.agg (au q [x,y,0]))):
  Build P t [(0,.int q x),(1,.int q y)] K:=by
 refine⟨_,fun w=>?_,h⟩
 obtain⟨i,hi,hs⟩:=aW hz
 obtain⟨i0,FJ,L9⟩:=bV h0
 simp only[Instr.build,Sem.run_bind,cQ FJ L9,Result.andThen_ok,run_underlying ht,run_sizeOf hi,hs]
 simp[Instr.fill,Value.cells,au]
end
end Go.Sx
set_option maxRecDepth 100000
namespace Go.Proofs
open Go Go.Sx
open av
theorem yW(x:Bool)(B:Hp):Rd Tryz.prog 248 #[.bool x] B (· =.int .u8 ((x.toNat:Nat):Int)):=by
 refine aP fun g=>wJ ?_
 cases x
 ·exact Br.no (bC.mk (.refl _) rfl)
 ·exact Br.yes (bC.mk (.refl _) rfl)
def Jk(op:Nat)(a b:Bool):Bool:=op.testBit (2*a.toNat+b.toNat)
abbrev zv(b op:Nat):Hp:=[(b,.cells #[.int .u8 (op:Int)] 5 (0,0))]
theorem u5{b op:Nat}(hop:op<16):vk (.func (.func 247) #[] #[ptr b]) (zv b op) (fun x y _=>Jk op x y):=by
 refine⟨_,_,_,rfl,by kernel_rfl,fun x y z=>?_⟩
 refine aP fun g=>wK ?_
 refine DR.of (R:=zv b op) (.refl _) ?_
 refine Ld.q ?_
 refine ae.eq (yW x _) ?_
 refine⟨.refl _,?_⟩
 have hx:x.toNat≤1:=by cases x<;>decide
 have hy:y.toNat≤1:=by cases y<;>decide
 refine aa.rf (a:=2) ?_
 refine ae.eq (yW y _) ?_
 refine⟨.refl _,?_⟩
 refine aa.fO ?_
 refine aa.uo (by simp[dc];omega) ?_
 refine aa.Gq (b:=1) (by simp[dc];exact Nat.lt_of_le_of_lt (Nat.shiftRight_le _ _) (by omega)) (by simp[dc]) ?_
 refine aa.mI (b:=1) ?_
 refine bC.mk (.refl _) ?_
 congr 1
 unfold Jk
 rw[Nat.and_one_is_mod]
 rw[Nat.testBit_eq_decide_div_mod_eq,Nat.shiftRight_eq_div_pow]
section
variable {kp:Nat} {K:Kd} {S:Nat→av.Fn} {ord af tr:List Nat} {C:Hp}
theorem JY{α:Type}(w a b:α)(L R:List α):(w::(L++(a::b::R))).Perm (a::([b]++w::(L++R))):=by
 classical
 rw[List.perm_iff_count];intro x
 simp only[List.count_append,List.count_cons,List.count_nil]
 omega
theorem DL(hK:cv kp K S ord af tr C){q:List Nat}(hq:∀r∈q,live K.N r):∃c,Tree K.n (lv af) K.N q c:=by
 obtain⟨c,h1,_⟩:=Ex (S:=S) hK.ok.wf hK.ok.lv hK.ok.mid.int K.n 0 q (by omega) (by omega) hq (fun r _=>Nat.zero_le _)
 exact⟨c,h1⟩
theorem ji.two{f:av.Fn}{w:Value}{H:Hp}(h:ji kp K S ord af tr f w H):∃x e,w=.tuple #[x,e]:=by
 rcases h with(⟨x,K',S',rfl,_⟩|⟨rfl,_⟩)|⟨rfl,_⟩
 ·exact⟨_,_,rfl⟩
 ·exact⟨_,_,rfl⟩
 ·exact⟨_,_,rfl⟩
theorem l6(hK:cv kp K S ord af tr C){op a b:Nat}(hop:op<16)(ha:live K.N a)(hb:live K.N b):
  Fc Tryz.prog 176 #[ptr kp,.int .u8 (op:Int),u32 a,u32 b] C (ji kp K S ord af tr (fun x=>Jk op (S a x) (S b x))):=by
 refine aP fun g=>xw ?_
 intro b1 _
 refine aa.an (Br.no ?_)
 refine Ld.q ?_
 refine aa.pA (b:=15) (Br.F ?_)
 refine ak.GP (e:=110) (x:=(a:Int)) (y:=(b:Int)) (by kernel_rfl) (by kernel_rfl) (by kernel_rfl) fun bs=>?_
 have hq:∀r∈l3 (a,b,0),live K.N r:=fun r hr=>by
  simp only[l3,List.mem_cons,List.not_mem_nil,or_false]at hr
  rcases hr with rfl|rfl|rfl
  ·exact ha
  ·exact hb
  ·exact .inl (by omega)
 have hI:fR .u32 ((bs,Obj.cells (au .u32 [(a:Int),(b:Int)]) 110 (0,0))::zv b1 op) (.slice (some ⟨bs,0,none⟩) 2 2) (iw [a,b]):=(aN.made (T:=110) (kd:=.u32) (b:=bs) (iw [a,b])).ints.mono fun _ h=>List.mem_append_left (zv b1 op) h
 refine ae.fq (args:=#[ptr kp,.slice (some ⟨bs,0,none⟩) 2 2]) (C:=((bs,Obj.cells (au .u32 [(a:Int),(b:Int)]) 110 (0,0))::zv b1 op)++C) (Ay hK hI (fun r hr=>?_) (by show 2≤1048576;omega)) ?_
 ·simp only[List.mem_cons,List.not_mem_nil,or_false]at hr
  rcases hr with rfl|rfl
  ·exact ha
  ·exact hb
 rintro w H ⟨bw,vl,CL,lvl,rfl,rfl,JK,pF,hlv⟩
 refine Ext.mk rfl (Ext.mk rfl (aa.eP (Br.F ?_)))
 refine Build.JR (e:=110) (q:=.u32) (x:=(a:Int)) (y:=(b:Int)) (by kernel_rfl) (by kernel_rfl) (by kernel_rfl) ?_
 obtain⟨c,hT⟩:=DL hK hq
 refine ae.pre (H':=(bs,Obj.cells (au .u32 [(a:Int),(b:Int)]) 110 (0,0))::(zv b1 op++dL bw kp vl (.slice none 0 0)::(CL++C))) (.perm (JY _ _ _ _ _)) ?_
 refine ae.fq (args:=#[ptr bw,kq (a,b,0),.func (.func 247) #[] #[ptr b1]]) (Gm (t:=fun x y _=>Jk op x y) hK (u5 hop) JK pF hlv (a,b,0) hq hT) ?_
 intro w H hD
 obtain⟨x,e,rfl⟩:=hD.two
 exact Ext.mk rfl (Ext.mk rfl (aZ.mk .tail hD))
theorem Aw(hK:cv kp K S ord af tr C){a:Nat}(ha:live K.N a):
  Fc Tryz.prog 122 #[ptr kp,u32 a] C (ji kp K S ord af tr (fun x=> !S a x)):=by
 refine aP fun g=>xL ?_
 refine ae.fq (args:=#[ptr kp,.int .u8 ((3:Nat):Int),u32 a,u32 0]) (l6 hK (op:=3) (by decide) ha (.inl (by omega))) ?_
 intro w H hD
 have e:(fun x=>Jk 3 (S a x) (S 0 x))=fun x=> !S a x:=by
  funext x
  rw[hK.ok.mid.int.zero]
  cases S a x<;>rfl
 rw[e]at hD
 obtain⟨x,e,rfl⟩:=hD.two
 exact Ext.mk rfl (Ext.mk rfl (aZ.mk (.refl _) hD))
theorem nf.grow(hK:cv kp K S ord af tr C){K':Kd}{S':Nat→av.Fn}{f:av.Fn}{r:Nat}{C':Hp}{ef:List Nat}(h:nf K S K' S' f r)(dP:cv kp K' S' ord af ef C')(hl:r<2∨2≤r):px K S K' S' f r:=
 ⟨h.n,h.cap,h.N,h.fn,by
  by_cases h2:r<2
  ·exact .inl h2
  ·refine .inr (dP.ok.mid.held r ?_)
   rw[h.hold,if_pos ⟨rfl,by omega⟩];omega,h.is,fun s=>by rw[h.hold];split<;>omega⟩
theorem As(hK:cv kp K S ord af tr C){v:Nat}(hv:v<K.n):
  Fc Tryz.prog 120 #[ptr kp,.int .i64 (v:Int)] C (ji kp K S ord af tr (fun x=>x.testBit v)):=by
 refine aP fun g=>xN ?_
 refine aa.an (Br.no ?_)
 have hint:=hK.ok.mid.int
 have hL:=hK.ok.lv
 have nt:=hK.od
 have h0:live K.N 0:=.inl (by omega)
 have h1:live K.N 1:=.inl (by omega)
 have d0:dep K.n (lv af) K.N 0=K.n:=aL (hK.ok.wf.const (by omega))
 have d1:dep K.n (lv af) K.N 1=K.n:=aL (hK.ok.wf.const (by omega))
 have hl:=hL.lt v hv
 have eI:ite S ⟨v,0,1⟩=fun x=>x.testBit v:=by
  funext x
  unfold av.ite
  simp only[hint.zero,hint.one]
  cases x.testBit v<;>rfl
 refine ae.fq (args:=#[ptr kp,.int .i64 (v:Int),u32 0,u32 1]) (yj hK hv h0 h1 (.inr ⟨by rw[d0];exact hl,by rw[d1];exact hl⟩)) ?_
 rintro w C' (⟨r,K',S',rfl,dP,mk⟩|⟨r,rfl,rfl,_,Eh,hfull,Ed⟩|⟨rfl,rfl,hcap,hne,hT⟩)
 ·rw[eI]at mk
  exact Ext.mk rfl (Ext.mk rfl (aZ.mk (.refl _) (.inl (.inl ⟨r,K',S',rfl,dP,mk.grow hK dP (by omega)⟩))))
 ·exact Ext.mk rfl (Ext.mk rfl (aZ.mk (.refl _) (.inr ⟨rfl,⟨K,S,tr,hK,.inr rfl,.refl K S⟩,r,Eh,hfull,by rw[Ed,eI]⟩)))
 ·refine Ext.mk rfl (Ext.mk rfl (aZ.mk (.refl _) (.inl (.inr ⟨rfl,⟨K,S,tr,hK,.inr rfl,.refl K S⟩,?_⟩))))
  rintro⟨ku,FE,hfit⟩
  have Ks:=nt.of hL hv
  have CB:∀j,j<lv af v→¬cq (fun x:Nat=>x.testBit v) (ord.getD j 0):=by
   rintro j hj ⟨x,hx⟩
   apply hx
   have FH:j<K.n:=by omega
   obtain⟨o1,o2⟩:=nt.aH j FH
   show Nat.testBit _ v=Nat.testBit _ v
   rw[eH.ah,eH.ah,if_neg (fun h=>by rw[h]at hj;omega),if_neg (fun h=>by rw[h]at hj;omega)]
  have hh:cq (fun x:Nat=>x.testBit v) (ord.getD (lv af v) 0):=by
   rw[Ks]
   exact⟨0,by show Nat.testBit _ v≠Nat.testBit _ v;rw[eH.ah,eH.ah,if_pos rfl,if_pos rfl];decide⟩
  have:=hK.ok.roomFor nt FE hfit (fun g hg=>ew (fun g h=>.inl h) hg) (d:=⟨v,0,1⟩) h0 h1 (show(0:Nat)≠1 by omega) hv ⟨by rw[d0];exact hl,by rw[d1];exact hl⟩ (ew (fun g h=>.inr h) (by rw[eI];exact pX CB hl hh)) hT
  omega
end
end Go.Proofs
namespace Go.Sx
open Go
section
variable {κ β:Type} [DecidableEq κ] {ke:κ→Value} {vr:Value→β→Prop} {es:Array MapEntry} {ck:Nat} {m:List (κ×β)} {H:Hp} {b:Nat}
theorem aE.del{kd:TypeDesc}{k:κ}{K:Hp→Prop}(hk:∀a b,Instr.sameNow kd (ke a) (ke b)=some (decide (a=b)))(h:aE ke vr es ck m)(hm:(b,Obj.map es ck)∈H)
 (h1:∀es',aE ke vr es' ck (fV m k)→∃H',ct b (.map es ck) (.map es' ck) H H'∧K H'):kH kd H (.map (some b)) (ke k) K:=by
 refine .inr ?_
 rcases h.findNow hk k with⟨i,y,e,g1,g2,g3,g4⟩|⟨g1,g2⟩
 ·refine⟨b,es,ck,_,rfl,g4,?_⟩
  have:=h.less i
  rw[←oa h.nd g2]at this
  exact h1 _ this
 ·refine⟨b,es,ck,_,rfl,g2,hm,?_⟩
  have e:fV m k=m:=by
   unfold fV
   rw[List.filter_eq_self]
   intro w hw
   simp only[decide_not,Bool.not_eq_true',decide_eq_false_iff_not]
   intro e
   exact g1 (List.mem_map.2 ⟨w,hw,e⟩)
  obtain⟨H',hu,hK⟩:=h1 es (by rw[e];exact h)
  have:∀{H H':Hp},ct b (.map es ck) (.map es ck) H H'→H'=H:=by
   intro H H' hu
   generalize ho:Obj.map es ck=o at hu
   induction hu with
   |head R=>rfl
   |tail _ ih=>rw[ih]
  rw[this hu]at hK;exact hK
end
end Go.Sx
namespace av
open eH
def QF(t:Bool→Bool→Bool)(v:Nat)(f:Fn):Fn:=fun x=>t (f (aO x v false)) (f (aO x v true))
section
variable {t:Bool→Bool→Bool} {v u:Nat} {f:Fn}
theorem zj{x v:Nat}{b c:Bool}:aO (aO x v b) v c=aO x v c:=by
 apply Nat.eq_of_testBit_eq;intro k
 rw[ah,ah,ah]
 split<;>rfl
end
def QZ(e:Bool):Bool→Bool→Bool→Bool:=fun x y _=>if e then x||y else x&&y
def jf(e:Bool)(S:Nat→Fn)(a b:Nat):Fn:=nA (QZ e) S [a,b,0]
section
variable {N:cN} {S:Nat→Fn} {n:Nat} {af:Nat→Nat}
theorem yM{r:Nat}{d:Nd}(e:N r=some d):eW N d.v false r=d.lo∧eW N d.v true r=d.hi:=by
 unfold eW
 rw[e]
 simp
end
end av
set_option maxRecDepth 100000
namespace Go.Proofs
open Go Go.Sx
open av
section
variable {kp:Nat} {K:Kd} {ord af tr:List Nat} {C:Hp} {S:Nat→av.Fn}
theorem qp(h:bS kp K ord af tr C)(v:Int):Rd Tryz.prog 150 #[ptr kp,.int .i64 v] C (· =if 0≤v∧v<K.n then .tuple #[.int .i64 ((af.getD v.toNat 0:Nat):Int),.int .i64 0]else .tuple #[.int .i64 0,.int .i64 2]):=by
 have h0:=h
 obtain⟨b,rfl,hO⟩:=h
 refine aP fun g=>kK ?_
 refine aa.an (Br.no ?_)
 refine ae.eq (lq h0 v) ?_
 refine Un.not ?_
 by_cases Cc:0≤v∧v<K.n
 ·rw[decide_eq_true Cc,if_pos Cc]
  refine Br.no (Nil.ptr ?_)
  refine Ld.f ?_
  have hlen:=hO.ol.2
  obtain⟨n,rfl⟩:∃n:Nat,v=n:=⟨v.toNat,by omega⟩
  refine hO.lv.ld (x:=((af.getD n 0:Nat):Int)) (bP (by omega)) (br.sub (.cons (.app (.app (.app (.app (.app .left))))))) ?_
  exact bC.mk (.refl _) rfl
 ·rw[decide_eq_false Cc,if_neg Cc]
  exact Br.yes (bC.mk (.refl _) rfl)
end
end Go.Proofs
set_option maxRecDepth 100000
namespace Go.Proofs
open Go Go.Sx
open av
section
variable {kp:Nat} {K:Kd} {S:Nat→av.Fn} {ord af tr:List Nat} {C:Hp}
def qf(e:Bool)(v:Nat)(f:av.Fn):av.Fn:=QF (fun x y=>if e then x||y else x&&y) v f
end
theorem Fits.mono{A B:av.Fn→Prop}{cap:Nat}(h:∀g,A g→B g)(hB:Fits B cap):Fits A cap:=by
 classical
 obtain⟨ku,⟨l,h1,h2,h3⟩,hc⟩:=hB
 refine⟨(l.filter fun g=>decide (A g)).length,⟨l.filter fun g=>decide (A g),h1.filter _,rfl,fun g=>?_⟩,?_⟩
 ·rw[List.mem_filter,decide_eq_true_eq,←h3]
  exact⟨fun x=>⟨h g x,x⟩,fun x=>x.2⟩
 ·have:=List.length_filter_le (fun g=>decide (A g)) l
  omega
def bitsOf(mask n:Nat):List Nat:=(List.range n).filter fun i=>mask.testBit i
def GF(e:Bool)(vs:List Nat)(f:av.Fn):av.Fn:=vs.foldl (fun g v=>qf e v g) f
end Go.Proofs
set_option maxRecDepth 100000
namespace Go.Proofs
open Go Go.Sx
def LQ(ts:List Tb):Prop:=∀t∈ts,TF t∧some t.n=ts.head?.map Tb.n
instance (ts:List Tb):Decidable (LQ ts):=by unfold LQ;infer_instance
end Go.Proofs
namespace av
def road(a b:Nat):List Nat:=List.range' a (b-a)++(List.range' b (a-b)).reverse
theorem sB(a b:Nat):(road a b).length=(b-a)+(a-b):=by simp[road]
theorem BG{a b l n:Nat}(ha:a<n)(hb:b<n)(h:l∈road a b):l+1<n:=by
 unfold road at h
 rcases List.mem_append.1 h with h|h
 ·rw[List.mem_range'_1]at h;omega
 ·rw[List.mem_reverse,List.mem_range'_1]at h;omega
theorem mS{α:Type}[DecidableEq α]:∀{l p:List α},l.Nodup→(∀x∈l,x∈p)→p.length≤l.length→l.Perm p
 | [],p,_,_,h=>by
  have:p=[]:=List.length_eq_zero_iff.1 (by simpa using h)
  subst this;exact .refl _
 |x::t,p,hn,hs,hl=>by
  have hx:=hs x (by simp)
  have hp:=List.perm_cons_erase hx
  have hlen:(p.erase x).length=p.length-1:=List.length_erase_of_mem hx
  have hpos:=List.length_pos_of_mem hx
  refine(List.Perm.cons x (mS (List.nodup_cons.1 hn).2 (fun y hy=>?_) (by simp only[List.length_cons]at hl;omega))).trans hp.symm
  refine(List.mem_erase_of_ne fun e=>?_).2 (hs y (by simp[hy]))
  subst e;exact(List.nodup_cons.1 hn).1 hy
end av
namespace Go.Sx
open Go
section
variable {P:Program} {g:Gh} {H B:Hp} {c:Hp→Hp}
theorem aR.HY{x:Nat×Obj}(h:x∈H):aR H [x]:=by
 obtain⟨A,D,rfl⟩:=List.append_of_mem h
 exact .JU (aR.left (A:=[x]))
end
end Go.Sx
set_option maxRecDepth 100000
namespace Go.Proofs
open Go Go.Sx
open av
section
variable {kp gb n:Nat} {vr vf:Value} {refs:List Nat} {fs:List (List Nat)} {K:Kd} {S:Nat→av.Fn} {ord af tr:List Nat} {C B:Hp}
theorem cv.perm(hK:cv kp K S ord af tr C):ord.Perm (List.range K.n):=by
 have nt:=hK.od
 refine mS ?_ (fun x hx=>?_) (by rw[List.length_range,nt.len];exact Nat.le_refl _)
 ·refine List.pairwise_iff_getElem.2 fun i j hi hj hij e=>?_
  have g1:=(nt.aH i (by rw[←nt.len];exact hi)).2
  have g2:=(nt.aH j (by rw[←nt.len];exact hj)).2
  rw[List.getD_eq_getElem?_getD,List.getElem?_eq_getElem hi,e]at g1
  rw[List.getD_eq_getElem?_getD,List.getElem?_eq_getElem hj]at g2
  omega
 ·obtain⟨i,hi,rfl⟩:=List.mem_iff_getElem.1 hx
  rw[nt.len]at hi
  have:=(nt.aH i hi).1
  rw[List.getD_eq_getElem?_getD,List.getElem?_eq_getElem (by rw[nt.len];exact hi)]at this
  exact List.mem_range.2 this
end
end Go.Proofs
set_option maxRecDepth 100000
namespace Go.Proofs
open Go Go.Sx
open av
section
variable {kp b f d:Nat} {K:Kd} {S:Nat→av.Fn} {ord tr:List Nat} {C:Hp}
theorem tF(h:At kp K S ord tr C){v:Nat}(hv:v<K.n):Rd Tryz.prog 150 #[ptr kp,.int .i64 (v:Int)] C (fun r=>∃p,p<K.n∧ord.getD p 0=v∧r=.tuple #[.int .i64 (p:Int),.int .i64 0]):=by
 obtain⟨K',S',bR,h,hk⟩:=h
 obtain⟨b,rfl,hO⟩:=h.rep
 have hn:=hO.mV
 have rY:v<K'.n:=by rw[hk.n];exact hv
 have hlen:v<bR.length:=by rw[hO.ol.2];exact rY
 refine aP fun g=>kK ?_
 refine aa.an (Br.no ?_)
 refine ae.eq (lq h.rep (v:Int)) ?_
 rw[decide_eq_true (by omega)]
 refine Un.not (Br.no ?_)
 refine Ld.n ?_
 refine hO.lv.ld (x:=((bR.getD v 0:Nat):Int)) (bP hlen) (br.sub (.cons (.app (.app (.app (.app (.app .left))))))) ?_
 refine bC.mk (.refl _) ⟨bR.getD v 0,?_,?_,rfl⟩
 ·rw[←hk.n];exact h.ok.lv.lt v rY
 ·exact h.od.of h.ok.lv rY
theorem tE(h:At kp K S ord tr C){v:Int}(hv:v<0∨(K.n:Int)≤v):Rd Tryz.prog 150 #[ptr kp,.int .i64 v] C (· =.tuple #[.int .i64 0,.int .i64 2]):=by
 obtain⟨K',S',bR,h,hk⟩:=h
 have hn:=hk.n
 refine aP fun g=>kK ?_
 refine aa.an (Br.no ?_)
 refine ae.eq (lq h.rep v) ?_
 rw[decide_eq_false (by omega)]
 exact Un.not (Br.yes (bC.mk (.refl _) rfl))
end
section
variable {kp b f d:Nat} {K:Kd} {S:Nat→av.Fn} {ord tr:List Nat} {C:Hp}
def Ff(p:Nat):Nat→Nat→Nat
 |0,_=>p
 |_,k=>p-k
def zR(n p:Nat):Nat→Nat→Nat
 |0,k=>p+k
 |_,_=>n-1
end
end Go.Proofs
namespace av
theorem mw{p j:Nat}(h:p≤j):road p (j+1)=road p j++[j]:=by
 unfold road
 rw[show p-(j+1)=0 by omega,show p-j=0 by omega,show j+1-p=(j-p)+1 by omega,List.range'_concat]
 simp;omega
theorem my{p j:Nat}(h:j<p):road p j=road p (j+1)++[j]:=by
 unfold road
 rw[show j-p=0 by omega,show j+1-p=0 by omega,show p-j=(p-(j+1))+1 by omega,List.range'_succ]
 simp
theorem eu(p:Nat):road p p=[]:=by unfold road;simp
end av
set_option maxRecDepth 100000
namespace Go.Proofs
open Go Go.Sx
section
open Go.ChangeShapes Go.WideShapes Go.Deep
variable {H:Type} {enc:TypeId×Value→H} {W:World} {base:Nat} {spare:Nat→Bool} {held:Bool}
theorem Fj{f:FuncId}{args:Array Value}{W:World}(h:Rd Tryz.prog f args (whole W) (· =.bool true)):
  Calls Tryz.prog f args W fun e W'=>e=.returned (.bool true)∧Go.RowKit.Below W.heap.size W W':=
 H9 (h.mono fun _ _ ⟨h1,h2⟩=>⟨by rw[h1];exact .refl _,h2⟩)
end
end Go.Proofs
namespace av
def Rm.tU(m:Rm)(g:Nat)(ord:List Nat)(p:Nat)(dn:Bool):Nat→Nat→Nat→Nat→Nat×Nat×Nat
 |0,j,b,q=>(j,b,q)
 |k+1,j,b,q=>
  if m.fit (aK ord (road p j)) (bif dn then j else j-1)=true then
   if(if m.size (aK ord (road p (bif dn then j+1 else j-1)))<b then m.size (aK ord (road p (bif dn then j+1 else j-1)))else b)*g<m.size (aK ord (road p (bif dn then j+1 else j-1)))*100 then
    (bif dn then j+1 else j-1,if m.size (aK ord (road p (bif dn then j+1 else j-1)))<b then m.size (aK ord (road p (bif dn then j+1 else j-1)))else b,if m.size (aK ord (road p (bif dn then j+1 else j-1)))<b then(bif dn then j+1 else j-1)else q)
   else m.tU g ord p dn k (bif dn then j+1 else j-1) (if m.size (aK ord (road p (bif dn then j+1 else j-1)))<b then m.size (aK ord (road p (bif dn then j+1 else j-1)))else b) (if m.size (aK ord (road p (bif dn then j+1 else j-1)))<b then(bif dn then j+1 else j-1)else q)
  else(j,b,q)
def dst(x y:Nat):Nat:=(x-y)+(y-x)
def Rm.rest(m:Rm)(dn:Bool)(j:Nat):Nat:=bif dn then m.n-1-j else j
def Rm.qX(m:Rm)(g:Nat)(ord:List Nat)(p:Nat):Nat×Nat:=
 let dn:=decide (m.n-1-p≤p)
 let a:=m.tU g ord p dn (m.rest dn p) p (m.size ord) p
 let b:=m.tU g ord p (!dn) (m.rest (!dn) p) p a.2.1 a.2.2
 (b.2.2,dst a.1 p+dst a.1 p+dst b.1 p+if b.2.2≠a.2.2 then dst b.1 b.2.2 else dst b.1 p+dst p b.2.2)
def Rm.c8(m:Rm)(g:Nat)(ord:List Nat):List Nat→List Nat×Nat
 | []=>([],0)
 |v::r=>let p:=ord.idxOf v;let a:=m.qX g ord p;let b:=m.c8 g (aK ord (road p a.1)) r;(road p a.1++b.1,a.2+b.2)
structure LW(m:Rm)(ord:List Nat)(p:Nat)(dn:Bool)(k j b q:Nat)(r:Nat×Nat×Nat):Prop where
 way:bif dn then j≤r.1∧r.1≤j+k else r.1≤j∧j≤r.1+k
 size:r.2.1=m.size (aK ord (road p r.2.2))
 new:(r.2.1=b∧r.2.2=q)∨(r.2.1<b∧bif dn then j<r.2.2∧r.2.2≤r.1 else r.1≤r.2.2∧r.2.2<j)
 fit:∀i,(bif dn then j≤i∧i<r.1 else r.1<i∧i≤j)→m.fit (aK ord (road p i)) (bif dn then i else i-1)=true
theorem Rm.ob(m:Rm)(g:Nat)(ord:List Nat)(p:Nat)(dn:Bool):∀k j b q,(dn=false→k≤j)→b=m.size (aK ord (road p q))→LW m ord p dn k j b q (m.tU g ord p dn k j b q)
 |0,j,b,q,hk,hb=>⟨by cases dn<;>simp[tU],hb,.inl ⟨rfl,rfl⟩,fun i hi=>by cases dn<;>simp[tU]at hi<;>omega⟩
 |k+1,j,b,q,hk,hb=>by
  rw[tU]
  by_cases hf:m.fit (aK ord (road p j)) (bif dn then j else j-1)=true
  ·rw[if_pos hf]
   obtain⟨J,hJ⟩:∃J,J=bif dn then j+1 else j-1:=⟨_,rfl⟩
   rw[←hJ]
   obtain⟨s,hs⟩:∃s,s=m.size (aK ord (road p J)):=⟨_,rfl⟩
   rw[←hs]
   obtain⟨B,hB⟩:∃B,B=if s<b then s else b:=⟨_,rfl⟩
   obtain⟨Q,hQ⟩:∃Q,Q=if s<b then J else q:=⟨_,rfl⟩
   rw[←hB,←hQ]
   have TT:(B=b∧Q=q)∨(B<b∧Q=J):=by
    by_cases h:s<b
    ·rw[if_pos h]at hB hQ;exact .inr ⟨by omega,hQ⟩
    ·rw[if_neg h]at hB hQ;exact .inl ⟨hB,hQ⟩
   have hb':B=m.size (aK ord (road p Q)):=by
    by_cases h:s<b
    ·rw[if_pos h]at hB hQ;rw[hB,hQ,hs]
    ·rw[if_neg h]at hB hQ;rw[hB,hQ,hb]
   clear hB hQ
   by_cases hg:B*g<s*100
   ·rw[if_pos hg]
    refine⟨?_,hb',?_,fun i hi=>?_⟩
    ·cases dn
     ·simp only[cond_false]at hJ⊢;have:=hk rfl;omega
     ·simp only[cond_true]at hJ⊢;omega
    ·cases dn
     ·simp only[cond_false]at hJ⊢;have:=hk rfl;omega
     ·simp only[cond_true]at hJ⊢;omega
    ·have:i=j:=by
      cases dn
      ·simp only[cond_false]at hi hJ;omega
      ·simp only[cond_true]at hi hJ;omega
     subst this;exact hf
   ·rw[if_neg hg]
    have ih:=m.ob g ord p dn k J B Q (fun h=>by subst h;have:=hk rfl;simp only[cond_false]at hJ;omega) hb'
    obtain⟨w1,w2,w3,w4⟩:=ih
    refine⟨?_,w2,?_,fun i hi=>?_⟩
    ·cases dn
     ·simp only[cond_false]at w1 hJ⊢;have:=hk rfl;omega
     ·simp only[cond_true]at w1 hJ⊢;omega
    ·cases dn
     ·simp only[cond_false]at w3 w1 hJ⊢
      have:=hk rfl
      omega
     ·simp only[cond_true]at w3 w1 hJ⊢
      omega
    ·by_cases e:i=j
     ·subst e;exact hf
     ·refine w4 i ?_
      cases dn
      ·simp only[cond_false]at hi hJ⊢;omega
      ·simp only[cond_true]at hi hJ⊢;omega
  ·rw[if_neg hf]
   exact⟨by cases dn<;>simp,hb,.inl ⟨rfl,rfl⟩,fun i hi=>by cases dn<;>simp at hi<;>omega⟩
structure LP(m:Rm)(ord:List Nat)(p:Nat)(r:Nat×Nat):Prop where
 lt:r.1<m.n
 le:m.size (aK ord (road p r.1))≤m.size ord
 stay:m.size (aK ord (road p r.1))=m.size ord→r.1=p
 Bm:r.2≤3*(m.n-1)
theorem Rm.x5(m:Rm)(g:Nat){ord:List Nat}{p:Nat}(hp:p<m.n):LP m ord p (m.qX g ord p):=by
 have ha:=m.ob g ord p (decide (m.n-1-p≤p)) (m.rest (decide (m.n-1-p≤p)) p) p (m.size ord) p (fun h=>by unfold Rm.rest;rw[h];exact Nat.le_refl _) (by rw[eu];rfl)
 unfold qX
 simp only
 generalize decide (m.n-1-p≤p)=dn at*
 generalize m.tU g ord p dn (m.rest dn p) p (m.size ord) p=a at*
 have hb:=m.ob g ord p (!dn) (m.rest (!dn) p) p a.2.1 a.2.2 (fun h=>by unfold Rm.rest;rw[h];exact Nat.le_refl _) ha.size
 generalize m.tU g ord p (!dn) (m.rest (!dn) p) p a.2.1 a.2.2=b at*
 obtain⟨a1,a2,a3,a4⟩:=ha
 obtain⟨b1,b2,b3,b4⟩:=hb
 unfold Rm.rest at a1 b1
 refine⟨?_,?_,fun h=>?_,?_⟩
 ·cases dn<;>simp only[cond_false,cond_true,Bool.not_false,Bool.not_true]at a1 b1 a3 b3<;>simp only<;>omega
 ·simp only;rw[←b2]
  cases dn<;>simp only[cond_false,cond_true,Bool.not_false,Bool.not_true]at a1 b1 a3 b3<;>omega
 ·simp only at h⊢;rw[←b2]at h
  cases dn<;>simp only[cond_false,cond_true,Bool.not_false,Bool.not_true]at a1 b1 a3 b3<;>omega
 ·unfold dst
  cases dn<;>simp only[cond_false,cond_true,Bool.not_false,Bool.not_true]at a1 b1 a3 b3<;>simp only<;>split<;>omega
end av
namespace av
section
variable {m:Rm} {g:Nat}
theorem EN{p q:Nat}(hp:p<m.n)(hq:q<m.n):∀x∈road p q,x+1<m.n:=fun x hx=>BG hp hq hx
theorem Ca{ord:List Nat}{v n:Nat}(hp:ord.Perm (List.range n))(hv:v<n):ord.idxOf v<n:=by
 have h1:v∈ord:=hp.mem_iff.2 (List.mem_range.2 hv)
 have h2:=List.idxOf_lt_length_of_mem h1
 rwa [hp.length_eq,List.length_range]at h2
theorem xY{ord path:List Nat}{n:Nat}(hp:ord.Perm (List.range n))(h:∀x∈path,x+1<n):(aK ord path).Perm (List.range n):=
 (pT fun x hx=>by rw[hp.length_eq,List.length_range];exact h x hx).trans hp
structure I6(m:Rm)(g:Nat)(ord l:List Nat)(r:List Nat×Nat):Prop where
 mem:∀x∈r.1,x+1<m.n
 le:m.size (aK ord r.1)≤m.size ord
 stay:m.size (aK ord r.1)=m.size ord→r.1=[]∧∀v∈l,(m.qX g ord (ord.idxOf v)).1=ord.idxOf v
 Bm:r.2≤3*(m.n-1)*l.length
 len:r.1.length≤m.n*l.length
theorem qW:∀{l ord:List Nat},ord.Perm (List.range m.n)→(∀v∈l,v<m.n)→I6 m g ord l (m.c8 g ord l)
 | [],ord,hp,hl=>⟨by simp[Rm.c8],Nat.le_refl _,fun _=>⟨rfl,by simp⟩,by simp[Rm.c8],by simp[Rm.c8]⟩
 |v::l,ord,hp,hl=>by
  have hv:=Ca hp (hl v (by simp))
  have h1:=m.x5 g (ord:=ord) hv
  rw[Rm.c8]
  generalize hq:ord.idxOf v=p at*
  generalize hr:m.qX g ord p=a at*
  obtain⟨a1,a2,a3,a4⟩:=h1
  have hin:=EN hv a1
  have h2:=qW (l:=l) (ord:=aK ord (road p a.1)) (xY hp hin) (fun x hx=>hl x (by simp[hx]))
  generalize m.c8 g (aK ord (road p a.1)) l=b at*
  obtain⟨b1,b2,b3,b4,b5⟩:=h2
  have Ij:=sB p a.1
  refine⟨fun x hx=>?_,?_,fun h=>?_,?_,?_⟩
  ·rcases List.mem_append.1 hx with h|h
   ·exact hin x h
   ·exact b1 x h
  ·rw[kV];omega
  ·rw[kV]at h
   have e:=a3 (by omega)
   rw[e,eu]at b3 h⊢
   obtain⟨c1,c2⟩:=b3 h
   refine⟨by rw[c1];rfl,fun u hu=>?_⟩
   rcases List.mem_cons.1 hu with rfl|hu
   ·rw[hq,hr];exact e
   ·exact c2 u hu
  ·rw[List.length_cons,Nat.mul_add,Nat.mul_one]
   show a.2+b.2≤_
   omega
  ·rw[List.length_append,List.length_cons,Nat.mul_add,Nat.mul_one];omega
theorem pW{v:Nat}:∀{l ord:List Nat},m.c8 g ord (l++[v])=((m.c8 g ord l).1++road ((aK ord (m.c8 g ord l).1).idxOf v) (m.qX g (aK ord (m.c8 g ord l).1) ((aK ord (m.c8 g ord l).1).idxOf v)).1,(m.c8 g ord l).2+(m.qX g (aK ord (m.c8 g ord l).1) ((aK ord (m.c8 g ord l).1).idxOf v)).2)
 | [],ord=>by simp[Rm.c8,aK]
 |u::l,ord=>by
  rw[List.cons_append,Rm.c8,Rm.c8]
  simp only
  rw[pW (l:=l)]
  simp only[kV,List.append_assoc,Nat.add_assoc]
end
end av
set_option maxRecDepth 100000
namespace Go.Proofs
open Go Go.Sx
open av
def dX(kp a b q gr sw:Nat)(la:Int)(st:Value):Array Value:=#[ptr kp,.int .i64 (a:Int),.int .i64 (b:Int),.int .i64 (q:Int),.int .i64 (gr:Int),.int .i64 (sw:Int),.int .i64 la,st]
def cV(wp:Nat)(c:Array Value):Nat×Obj:=(wp,.cells c 324 (0,0))
def j7(bx wp:Nat):Nat×Obj:=(bx,.cells #[ptr wp] 321 (0,0))
def Jj(dn:Bool):Nat:=bif dn then 335 else 337
def rW(dn:Bool)(bx:Nat):Value:=.func (.func (Jj dn)) #[] #[ptr bx]
def tQ:Hp→Nat
 |(_,.cells c _ _)::_=>ca c.toList 1
 |_=>0
section
variable {kp wp bx a b q gr sw p:Nat} {la:Int} {st:Value} {K:Kd} {S:Nat→av.Fn} {ord o tr:List Nat} {C:Hp} {dn:Bool}
theorem Bk{l a':Nat}{d:Int}(h:At kp K S ord tr C)(hl:l+1<K.n)(iD:tr.length<17592186044416)(hf:iQ K S ord l)(ha:(a:Int)+d=(a':Int))(hb:a'<1024)(yp:sw<4611686018427387904):
  Fc Tryz.prog 336 #[ptr wp,.int .i64 (l:Int),.int .i64 d] (cV wp (dX kp a b q gr sw la st)::C) (fun v H=>v=.int .i64 0∧∃C',H=cV wp (dX kp a' b q gr (sw+1) la st)::C'∧At kp K S (gL ord l) (tr++[l]) C'):=by
 refine aP fun g=>o6 ?_
 refine Ld.n ?_
 refine ae.fq (yU h hl iD hf) ?_
 rintro v C' ⟨rfl,h'⟩
 intro J6 h6
 refine aa.iq (Br.T ?_)
 refine Ld.n ?_
 refine aa.inc ?_
 refine Nil.ptr (ag.mk (St.one (c':=dX kp a b q gr (sw+1) la st) (by exact .head _) rfl (by simp[dX]) rfl ?_))
 refine Ld.n ?_
 refine aa.tH (c:=(a':Int)) ha (by omega) ?_
 refine Nil.ptr (ag.mk (St.one (c':=dX kp a' b q gr (sw+1) la st) (by exact .head _) rfl (by simp[dX]) rfl ?_))
 exact JE.mk (h6 _ fun gs=>aZ.here ⟨rfl,C',rfl,h'⟩)
theorem GC{l:Nat}{d:Int}(h:At kp K S ord tr C)(hl:l+1<K.n)(iD:tr.length<17592186044416)(hf:¬iQ K S ord l):
  Rd Tryz.prog 336 #[ptr wp,.int .i64 (l:Int),.int .i64 d] (cV wp (dX kp a b q gr sw la st)::C) (· =.int .i64 9):=by
 refine aP fun g=>o6 ?_
 refine Ld.n ?_
 refine ae.eq (oT h hl iD hf) ?_
 intro J6 h6
 refine aa.iq (Br.F ?_)
 exact JE.mk (h6 _ fun gs=>bC.mk (.refl _) rfl)
theorem mi(h:At kp K S ord tr C)(PM:1≤K.n):
  Fc Tryz.prog 266 #[ptr wp,.bool dn] (cV wp (dX kp a b q gr sw la st)::C) (fun v H=>v=.tuple #[]∧∃bx,H=cV wp (dX kp a b q gr sw (bif dn then((K.n-1:Nat):Int)else 0) (rW dn bx))::j7 bx wp::C):=by
 have hn:=h.mV
 refine aP fun g=>wA ?_
 intro b1 _
 cases dn
 ·refine Br.no ?_
  refine Ld.q ?_
  refine Nil.ptr (ag.mk (St.one (c':=dX kp a b q gr sw 0 st) (by exact .tail (.head _)) rfl (by simp[dX]) rfl ?_))
  refine Ld.q ?_
  refine Nil.ptr (ag.mk (St.one (c':=dX kp a b q gr sw 0 (rW false b1)) (by exact .tail (.head _)) rfl (by simp[dX]) rfl ?_))
  exact aZ.mk .swap ⟨rfl,b1,rfl⟩
 ·refine Br.yes ?_
  refine DR.self ?_
  refine Ld.q ?_
  refine Ld.q ?_
  refine Ld.n ?_
  intro F
  refine ae.eq (nM h) ?_
  refine⟨.refl _,?_⟩
  refine aa.bF (b:=1) ?_
  refine Nil.ptr (ag.mk fun F=>?_)
  refine St.one (c':=dX kp a b q gr sw ((K.n-1:Nat):Int) st) (by exact .tail (.head _)) rfl (by simp[dX]) rfl ?_
  refine Ld.q ?_
  refine Nil.ptr (ag.mk (St.one (c':=dX kp a b q gr sw ((K.n-1:Nat):Int) (rW true b1)) (by exact .tail (.head _)) rfl (by simp[dX]) rfl ?_))
  exact aZ.mk .swap ⟨rfl,b1,rfl⟩
def jy(dn:Bool)(j:Nat):Nat:=bif dn then j+1 else j-1
def HH(dn:Bool)(j:Nat):Nat:=bif dn then j else j-1
theorem BF{j:Nat}(hs:bif dn then p≤j else 0<j∧j≤p):road p (jy dn j)=road p j++[HH dn j]:=by
 cases dn
 ·simp only[cond_false]at hs
  obtain⟨i,rfl⟩:∃i,j=i+1:=⟨j-1,by omega⟩
  exact my hs.2
 ·exact mw hs
theorem si{j:Nat}(h:At kp K S (aK o (road p j)) (tr++road p j) C)(hp:p<K.n)(hs:bif dn then p≤j∧j+1<K.n else 0<j∧j≤p)(iD:(tr++road p j).length<17592186044416)(hf:iQ K S (aK o (road p j)) (HH dn j))(yp:sw<4611686018427387904):
  Fc Tryz.prog (Jj dn) #[ptr bx] (cV wp (dX kp j b q gr sw la st)::j7 bx wp::C) (fun v H=>v=.int .i64 0∧∃C',H=cV wp (dX kp (jy dn j) b q gr (sw+1) la st)::j7 bx wp::C'∧At kp K S (aK o (road p (jy dn j))) (tr++road p (jy dn j)) C'):=by
 have hn:=h.mV
 have hr:=BF (p:=p) (dn:=dn) (j:=j) (by cases dn<;>simp only[cond_false,cond_true]at hs⊢ <;>omega)
 intro g
 rw[hr,mj,←List.append_assoc]
 cases dn
 ·simp only[cond_false]at hs
  refine o5 (R:=aZ _) ?_
  unfold L337
  refine DR.self ?_
  refine Ld.q ?_
  refine Ld.q ?_
  refine Ld.n ?_
  refine aa.bF (b:=1) ?_
  intro F
  refine ae.pre .swap ?_
  refine ae.fn (.cons .here) (Bk (a':=j-1) h (by omega) iD hf (by omega) (by omega) yp) ?_
  rintro v H ⟨rfl,C',rfl,h'⟩
  exact aZ.mk .swap ⟨rfl,C',rfl,h'⟩
 ·simp only[cond_true]at hs
  refine o7 (R:=aZ _) ?_
  unfold L335
  refine DR.self ?_
  refine Ld.q ?_
  refine Ld.q ?_
  refine Ld.n ?_
  intro F
  refine ae.pre .swap ?_
  refine ae.fn (.cons .here) (Bk (a':=j+1) h (by omega) iD hf (by omega) (by omega) yp) ?_
  rintro v H ⟨rfl,C',rfl,h'⟩
  exact aZ.mk .swap ⟨rfl,C',rfl,h'⟩
theorem EC{j:Nat}(h:At kp K S ord tr C)(hs:bif dn then j+1<K.n else 0<j∧j<K.n)(iD:tr.length<17592186044416)(hf:¬iQ K S ord (HH dn j)):
  Rd Tryz.prog (Jj dn) #[ptr bx] (cV wp (dX kp j b q gr sw la st)::j7 bx wp::C) (· =.int .i64 9):=by
 have hn:=h.mV
 intro g
 cases dn
 ·simp only[cond_false]at hs
  refine o5 (R:=aZ _) ?_
  unfold L337
  refine DR.self ?_
  refine Ld.q ?_
  refine Ld.q ?_
  refine Ld.n ?_
  refine aa.bF (b:=1) ?_
  intro F
  refine ae.pre .swap ?_
  refine ae.eq (GC h (by omega) iD hf) ?_
  exact bC.mk .swap rfl
 ·simp only[cond_true]at hs
  refine o7 (R:=aZ _) ?_
  unfold L335
  refine DR.self ?_
  refine Ld.q ?_
  refine Ld.q ?_
  refine Ld.n ?_
  intro F
  refine ae.pre .swap ?_
  refine ae.eq (GC h (by omega) iD hf) ?_
  exact bC.mk .swap rfl
theorem sg(dn:Bool):aS Tryz.prog (Jj dn)=true:=by cases dn<;>kernel_rfl
theorem kf{n j:Nat}(hn:n≤64)(hp:p<n)(hj:j<n):(road p j).length≤64:=by rw[sB];omega
theorem BC(h0:At kp K S o tr C)(hp:p<K.n)(nw:100≤gr∧gr≤1000)(hb:b≤1048576)(yp:sw<1099511627776)(iD:tr.length<17454747090944)(hla:la=bif dn then((K.n-1:Nat):Int)else 0){r:Nat×Nat×Nat}(hr:(rm K S).tU gr o p dn ((rm K S).rest dn p) p b q=r):
  Fc Tryz.prog 267 #[ptr wp] (cV wp (dX kp p b q gr sw la (rW dn bx))::j7 bx wp::C) (fun v H=>v=.tuple #[]∧∃C',H=cV wp (dX kp r.1 r.2.1 r.2.2 gr (sw+dst r.1 p) la (rW dn bx))::j7 bx wp::C'∧At kp K S (aK o (road p r.1)) (tr++road p r.1) C'):=by
 have hn:=h0.mV
 refine aP fun g=>wz ?_
 refine⟨fun vs H=>∃(k j b' q':Nat) (C':Hp),vs=[]∧H=cV wp (dX kp j b' q' gr (sw+dst j p) la (rW dn bx))::j7 bx wp::C'∧At kp K S (aK o (road p j)) (tr++road p j) C'∧k=(rm K S).rest dn j∧(bif dn then p≤j∧j<K.n else j≤p)∧b'≤1048576∧(rm K S).tU gr o p dn k j b' q'=r,
  fun _ H=>bif dn then K.n-tQ H else tQ H,JE.mk ⟨_,p,b,q,C,rfl,by simp[dst],by rw[eu,List.append_nil];exact h0,rfl,by cases dn<;>simp[hp],hb,hr⟩,?_⟩
 rintro H ⟨k,j,b',q',C',_,rfl,hA,hk,hs,hb',nv⟩ gs
 have FH:j<K.n:=by cases dn<;>simp only[cond_false,cond_true]at hs<;>omega
 have uQ:dst j p≤64:=by unfold dst;omega
 have Ij:=kf hn hp FH
 have Cg:(tr++road p j).length<17592186044416:=by rw[List.length_append];omega
 have tW:(rm K S).n=K.n:=rfl
 have hsz:∀o:List Nat,(rm K S).size o=fy K S o:=fun _=>rfl
 intro J5 h5
 have fin:r=(j,b',q')→J5 [.bool false] (cV wp (dX kp j b' q' gr (sw+dst j p) la (rW dn bx))::j7 bx wp::C'):=fun e=>h5 _ _ fun gs=>Br.no (aZ.here ⟨rfl,C',by rw[e],by rw[e];exact hA⟩)
 refine DR.self ?_
 refine Ld.n ?_
 refine Ld.n ?_
 refine aa.eP (Br.dec (fun hne=>?_) (fun heq=>?_))
 rotate_left
 ·have Ry:k=0:=by
   rw[hk];unfold Rm.rest
   cases dn<;>simp only[cond_false,cond_true]at hla⊢ <;>omega
  subst Ry
  exact JE.mk (fin nv.symm)
 have ot:bif dn then j+1<K.n else 0<j:=by
  cases dn<;>simp only[cond_false,cond_true]at hla⊢ <;>omega
 obtain⟨k',hk'⟩:∃k',k=k'+1:=by
  refine⟨k-1,?_⟩
  rw[hk];unfold Rm.rest
  cases dn<;>simp only[cond_false,cond_true]at ot⊢ <;>omega
 subst hk'
 rw[Rm.tU]at nv
 change (if(rm K S).fit (aK o (road p j)) (HH dn j)=true then _ else _)=r at nv
 refine Ld.n ?_
 intro F
 refine bg.of (f:=Jj dn) rfl (sg dn) ?_
 by_cases hf:iQ K S (aK o (road p j)) (HH dn j)
 rotate_left
 ·refine ae.eq (args:=#[ptr bx]) (EC hA (by cases dn<;>simp only[cond_false,cond_true]at ot⊢ <;>omega) Cg hf) ?_
  refine aa.iq (aq.mk ?_)
  rw[if_neg (fun h=>hf (uv.1 h))]at nv
  exact JE.mk (fin nv.symm)
 refine ae.fn (args:=#[ptr bx]) .here (si hA hp (by cases dn<;>simp only[cond_false,cond_true]at ot hs⊢ <;>omega) Cg hf (by omega)) ?_
 rintro v H ⟨rfl,C2,rfl,oC⟩
 refine aa.iq (aq.mk ?_)
 rw[if_pos (show(rm K S).fit (aK o (road p j)) (HH dn j)=true from uv.2 hf)]at nv
 change (if(if(rm K S).size (aK o (road p (jy dn j)))<b' then(rm K S).size (aK o (road p (jy dn j)))else b')*gr<(rm K S).size (aK o (road p (jy dn j)))*100 then(jy dn j,if(rm K S).size (aK o (road p (jy dn j)))<b' then(rm K S).size (aK o (road p (jy dn j)))else b',if(rm K S).size (aK o (road p (jy dn j)))<b' then jy dn j else q')else(rm K S).tU gr o p dn k' (jy dn j) (if(rm K S).size (aK o (road p (jy dn j)))<b' then(rm K S).size (aK o (road p (jy dn j)))else b') (if(rm K S).size (aK o (road p (jy dn j)))<b' then jy dn j else q'))=r at nv
 have hle:=ia oC
 rw[hsz]at nv
 have Ny:sw+dst j p+1=sw+dst (jy dn j) p:=by unfold dst jy;cases dn<;>simp only[cond_false,cond_true]at ot hs⊢ <;>omega
 rw[Ny]
 have hnk:k'=(rm K S).rest dn (jy dn j):=by
  unfold Rm.rest at hk⊢;unfold jy
  cases dn<;>simp only[cond_false,cond_true]at ot hk⊢ <;>omega
 have Kv:bif dn then p≤jy dn j∧jy dn j<K.n else jy dn j≤p:=by
  unfold jy
  cases dn<;>simp only[cond_false,cond_true]at ot hs⊢ <;>omega
 have Rq:(bif dn then K.n-jy dn j else jy dn j)<(bif dn then K.n-j else j):=by
  unfold jy
  cases dn<;>simp only[cond_false,cond_true]at ot⊢ <;>omega
 generalize hj':jy dn j=j' at*
 generalize hs':fy K S (aK o (road p j'))=s at*
 have Kw:∀b2 q2,tQ (cV wp (dX kp j b' q' gr (sw+dst j p) la (rW dn bx))::j7 bx wp::C')=j∧∀C2,tQ (cV wp (dX kp j' b2 q2 gr (sw+dst j' p) la (rW dn bx))::j7 bx wp::C2)=j':=fun b2 q2=>⟨by simp[tQ,cV,dX,ca],fun C2=>by simp[tQ,cV,dX,ca]⟩
 refine JE.mk (h5 _ _ fun gs=>Br.yes ?_)
 refine Ld.n ?_
 refine ae.eq (ic oC) ?_
 rw[hs']
 intro Tc Sq
 have next:∀b2 q2,b2≤1048576→(if b2*gr<s*100 then(j',b2,q2)else(rm K S).tU gr o p dn k' j' b2 q2)=r→Tc [] (cV wp (dX kp j' b2 q2 gr (sw+dst j' p) la (rW dn bx))::j7 bx wp::C2):=by
  intro b2 q2 pH jC
  refine Sq _ fun gs=>?_
  have tY:b2*gr≤1048576*1000:=Nat.mul_le_mul pH nw.2
  refine aa.rf (b:=100) ?_
  refine Ld.n ?_
  refine Ld.n ?_
  refine aa.rf ?_
  refine aa.pA (Br.dec (fun hgt=>?_) (fun hgt=>?_))
  ·rw[if_pos hgt]at jC
   subst jC
   exact aZ.here ⟨rfl,C2,rfl,oC⟩
  ·rw[if_neg hgt]at jC
   refine aB.mk ⟨k',j',b2,q2,C2,rfl,rfl,oC,hnk,Kv,pH,jC⟩ ?_
   rw[(Kw b2 q2).1,(Kw b2 q2).2]
   exact Rq
 refine Ld.n ?_
 refine aa.iC (Br.dec (fun hlt=>?_) (fun hlt=>?_))
 ·rw[if_pos hlt,if_pos hlt]at nv
  refine Ld.n ?_
  refine Nil.ptr (ag.mk (St.one (c':=dX kp j' s q' gr (sw+dst j' p) la (rW dn bx)) (by exact .head _) rfl (by simp[dX]) rfl ?_))
  refine Nil.ptr (ag.mk (St.one (c':=dX kp j' s j' gr (sw+dst j' p) la (rW dn bx)) (by exact .head _) rfl (by simp[dX]) rfl ?_))
  exact JE.mk (next _ _ (by omega) nv)
 ·rw[if_neg hlt,if_neg hlt]at nv
  exact JE.mk (next _ _ hb' nv)
theorem qR{j t:Nat}(h:At kp K S (aK o (road p j)) (tr++road p j) C)(GY:o.length=K.n)(hp:p<K.n)(TO:(p≤t∧t≤j∧j<K.n)∨(j≤t∧t≤p))(yp:sw<17592186044416)(iD:tr.length<17454747090944):
  Fc Tryz.prog 268 #[ptr wp,.int .i64 (t:Int)] (cV wp (dX kp j b q gr sw la st)::C) (fun v H=>v=.tuple #[]∧∃C',H=cV wp (dX kp t b q gr (sw+dst j t) la st)::C'∧At kp K S (aK o (road p t)) (tr++road p t) C'):=by
 have hn:=h.mV
 refine aP fun g=>wy ?_
 refine⟨fun vs H=>∃(i:Nat) (C':Hp),vs=[]∧H=cV wp (dX kp i b q gr (sw+dst j i) la st)::C'∧At kp K S (aK o (road p i)) (tr++road p i) C'∧((p≤t∧t≤i∧i≤j∧j<K.n)∨(j≤i∧i≤t∧t≤p)),
  fun _ H=>dst (tQ H) t,JE.mk ⟨j,C,rfl,by simp[dst],h,by omega⟩,?_⟩
 rintro H ⟨i,C',_,rfl,hA,hs⟩ gs
 have hin:i<K.n:=by omega
 have RK:dst j i≤64:=by unfold dst;omega
 have Ij:=kf hn hp hin
 have uJ:∀i sw C',tQ (cV wp (dX kp i b q gr sw la st)::C')=i:=fun i sw C'=>by simp[tQ,cV,dX,ca]
 refine Ld.n ?_
 refine aa.Jm (Br.dec (fun hne=>?_) (fun heq=>?_))
 rotate_left
 ·obtain rfl:i=t:=by omega
  exact aZ.here ⟨rfl,C',rfl,hA⟩
 refine Ld.n ?_
 rcases hs with hs|hs
 ·obtain⟨i,rfl⟩:∃i',i=i'+1:=⟨i-1,by omega⟩
  rw[mw (by omega),mj,←List.append_assoc]at hA
  refine ae.fq (yT hA (by rw[mw (by omega),List.length_append,List.length_singleton]at Ij;rw[List.length_append];omega)) ?_
  rintro w C2 ⟨rfl,oC⟩
  rw[nD (by rw[sb,GY];omega)]at oC
  refine Ext.two ?_
  refine Ld.n ?_
  refine aa.inc ?_
  refine Nil.ptr (ag.mk (St.one (c':=dX kp (i+1) b q gr (sw+dst j (i+1)+1) la st) (by exact .head _) rfl (by simp[dX]) rfl ?_))
  refine Ld.n ?_
  refine aa.iC (Br.T ?_)
  refine Nil.ptr (ag.mk (St.one (c':=dX kp i b q gr (sw+dst j (i+1)+1) la st) (by exact .head _) rfl (by simp[dX]) rfl ?_))
  refine aB.mk ⟨i,C2,rfl,by rw[show sw+dst j (i+1)+1=sw+dst j i by unfold dst;omega];rfl,oC,by omega⟩ ?_
  show dst (tQ (cV wp (dX kp i b q gr (sw+dst j (i+1)+1) la st)::C2)) t<dst (tQ (cV wp (dX kp (i+1) b q gr (sw+dst j (i+1)) la st)::C')) t
  rw[uJ,uJ];unfold dst;omega
 ·rw[my (by omega),mj,←List.append_assoc]at hA
  refine ae.fq (yT hA (by rw[my (by omega),List.length_append,List.length_singleton]at Ij;rw[List.length_append];omega)) ?_
  rintro w C2 ⟨rfl,oC⟩
  rw[nD (by rw[sb,GY];omega)]at oC
  refine Ext.two ?_
  refine Ld.n ?_
  refine aa.inc ?_
  refine Nil.ptr (ag.mk (St.one (c':=dX kp i b q gr (sw+dst j i+1) la st) (by exact .head _) rfl (by simp[dX]) rfl ?_))
  refine Ld.n ?_
  refine aa.iC (Br.F ?_)
  refine aa.inc ?_
  refine Nil.ptr (ag.mk (St.one (c':=dX kp (i+1) b q gr (sw+dst j i+1) la st) (by exact .head _) rfl (by simp[dX]) rfl ?_))
  refine aB.mk ⟨i+1,C2,rfl,by rw[show sw+dst j i+1=sw+dst j (i+1)by unfold dst;omega];rfl,oC,by omega⟩ ?_
  show dst (tQ (cV wp (dX kp (i+1) b q gr (sw+dst j i+1) la st)::C2)) t<dst (tQ (cV wp (dX kp i b q gr (sw+dst j i) la st)::C')) t
  rw[uJ,uJ];unfold dst;omega
end
end Go.Proofs
