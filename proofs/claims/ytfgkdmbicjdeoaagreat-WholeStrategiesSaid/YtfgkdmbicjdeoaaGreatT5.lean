import Derived.Test.YtfgkdmbicjdeoaaGreatT4
import Derived.Test.YtfgkdmbicjdeoaaGreatT3
import Derived.Test.YtfgkdmbicjdeoaaGreatT1
import Derived.Deep.Slices
import Derived.SizedLaws
import Derived.Test.YtfgkdmbicjdeoaaGreatT2
set_option linter.unusedVariables false
set_option linter.unusedSimpArgs false
set_option linter.unusedSectionVars false
set_option maxRecDepth 100000
namespace Go.Proofs
open Go Go.Sx
open aC
section
variable {Y:Hp}
theorem sB{n cap:Nat}(hn:1≤n∧n≤64)(hc:2≤cap∧cap≤1048576):Fc Tryz.prog 54 #[.int .i64 (n:Int),.int .i64 (cap:Int)] Y (fun w H=>∃gb kp C,w=ptr gb∧H=Y++gG gb kp n (.slice none 0 0) (.slice none 0 0) [] [] C∧cw kp (K0 n cap) S0 (List.range n) (List.range n) [] C):=by
 refine aR fun g=>IM ?_
 refine ae.fn (aZ.left (C:=[]) (A:=Y)) (Rv hn hc) ?_
 rintro w C ⟨kp,rfl,hK⟩
 refine Ext.two ?_
 intro J hJ
 have Jj:J [.bool false] (C++Y):=by
  refine hJ _ _ fun gs=>Br.no ?_
  refine Build.mk (cs:=[ptr kp,.int .i64 (n:Int),.slice none 0 0,.slice none 0 0]) (by kernel_rfl) ?_
  intro gb _
  refine aS.mk ?_ ⟨gb,kp,C,rfl,rfl,hK⟩
  refine .perm ?_
  show((gb,_)::(C++Y)).Perm (Y++(eS gb kp n (.slice none 0 0) (.slice none 0 0)::C))
  exact(List.perm_append_comm (l₁:=_::C) (l₂:=Y))
 refine aa.cG ?_
 refine Split.go (by decide) ?_
 refine aa.aD (ay.mk ?_)
 refine Split.go rfl ?_
 refine ae.eq (gy hK.rep) ?_
 refine aa.cG (ay.mk ?_)
 refine Split.go (by show decide _=false;exact decide_eq_false (fun h=>h rfl)) ?_
 refine ae.eq (qi hK.rep) ?_
 refine aa.cG (ay.mk ?_)
 refine Split.go (by show decide _=false;exact decide_eq_false (fun h=>h rfl)) ?_
 refine ae.eq (rM hK.rep (by show 2≤2;omega) (by show 2≤1048576;omega)) ?_
 refine aa.cG (ay.mk ?_)
 exact JE.mk Jj
def Grown(n:Nat)(Y:Hp)(w:Value)(H:Hp):Prop:=
 ∃(gb kp:Nat) (K:Kd) (S:Nat→aC.Fn) (refs:List Nat) (fs:List (List Nat)) (vr vf:Value) (M CR CF C:Hp) (rs:List (List Value)) (tr:List Nat),w=ptr gb∧H=M++gG gb kp n vr vf CR CF C∧aT Y M∧Fg gb kp K S (List.range n) (List.range n) tr refs fs vr vf M CR CF C rs∧K.n=n∧K.cap=4000∧n≤refs.length∧refs.length≤n+30∧tr=[]
theorem V2{n cap:Nat}:ug (K0 n cap) S0 [] []:=⟨rfl,by simp,fun i hi=>absurd hi (by simp),fun s=>by simp[K0,Kd.hold]⟩
theorem AX{kp:Nat}{K:Kd}{S:Nat→aC.Fn}{ord ah tr:List Nat}{C:Hp}(hK:cw kp K S ord ah tr C){x v:Nat}(h:S x=fun y=>y.testBit v):2≤x:=by
 refine Classical.byContradiction fun h2=>?_
 have hint:=hK.ok.mid.int
 have TP:x=0∨x=1:=by omega
 rcases TP with rfl|rfl
 ·have:=congrFun h (2^v)
  rw[hint.zero,Nat.testBit_two_pow_self]at this
  cases this
 ·have:=congrFun h 0
  rw[hint.one,Nat.zero_testBit]at this
  cases this
theorem LU{n:Nat}(hn:1≤n∧n≤6){sv:Value}{ops:List rW}(hs:Sl 6 Y sv (ops.map rW.cells))(ho:∀o∈ops,o.Ok)(bH:ops.length<9223372036854775808):
  Fc Tryz.prog 12 #[.int .i64 (n:Int),sv] Y (Grown n Y):=by
 refine aR fun g=>I6 ?_
 refine ae.fq (args:=#[.int .i64 (n:Int),.int .i64 ((4000:Nat):Int)]) (sB (Y:=Y) (n:=n) (cap:=4000) ⟨hn.1,by omega⟩ (by decide)) ?_
 rintro w H ⟨gb,kp,C0,rfl,rfl,W7⟩
 refine aa.aD (Br.no ?_)
 obtain⟨ZE,SB⟩:∃ZE:Nat→Hp→Prop,ZE=fun m H=>∃(K:Kd) (S:Nat→aC.Fn) (refs:List Nat) (fs:List (List Nat)) (vr vf:Value) (M CR CF C:Hp) (rs:List (List Value)),H=M++gG gb kp n vr vf CR CF C∧aT Y M∧Fg gb kp K S (List.range n) (List.range n) [] refs fs vr vf M CR CF C rs∧K.n=n∧K.cap=4000∧n≤refs.length∧refs.length≤m:=⟨_,rfl⟩
 refine⟨fun vs H=>∃(i:Nat) (K:Kd) (S:Nat→aC.Fn) (refs:List Nat) (fs:List (List Nat)) (vr vf:Value) (M CR CF C:Hp) (rs:List (List Value)),vs=[.int .i64 (i:Int)]∧i≤n∧H=M++gG gb kp n vr vf CR CF C∧aT Y M∧Fg gb kp K S (List.range n) (List.range n) [] refs fs vr vf M CR CF C rs∧K.n=n∧K.cap=4000∧refs.length=i,fun vs _=>n-br vs 0,
  JE.mk ⟨0,K0 n 4000,S0,[],[],_,_,Y,[],[],C0,[],rfl,Nat.zero_le _,rfl,.refl _,⟨W7,V2,aK.nil,aO.nil _ _,jT.nil⟩,rfl,rfl,rfl⟩,?_⟩
 rintro w8 H ⟨i,K,S,refs,fs,vr,vf,M,CR,CF,C,rs,⟨⟩,hi,rfl,hY,hG,BN,Jh,pT⟩ gs
 refine aa.dH (Br.dec (fun hlt=>?_) (fun hlt=>?_))
 ·refine aQ.q ?_
  refine Build.mk (cs:=(rW.mk 0 i 0 0 0 0).cells) (by kernel_rfl) ?_
  subst BN
  refine ae.fq (args:=#[ptr gb,.agg (rW.mk 0 i 0 0 0 0).cells.toArray]) (P3 hG hn.1 hn.2 Jh (by omega) (o:=rW.mk 0 i 0 0 0 0) ⟨by show 0<256;omega,by show i<256;omega,by show 0<256;omega,by show 0<256;omega,by show 0<256;omega,by show 0<18446744073709551616;omega⟩) ?_
  rintro w H ⟨rfl,x,a,b,c,K',S',refs',fs',qF,uv,M',x4,Ar,C',MX,rfl,gM,HR,hn',jc,rfl,hx,Le,_⟩
  refine Un.not (Br.no ?_)
  refine aa.inc ?_
  have h2:2≤x:=AX HR.ks hx
  rw[if_pos h2]at HR
  exact aB.mk ⟨i+1,K',S',refs++[x],fs',qF,uv,M',x4,Ar,C',MX,rfl,hlt,rfl,hY.trans gM,HR,hn',jc.trans Jh,by simp[pT]⟩ (by simp only[br];omega)
 obtain rfl:i=n:=by omega
 refine Ld.n ?_
 refine hG.rf.bc ?_
 rw[ai,pT]
 refine aa.uk (Br.F ?_)
 refine⟨fun vs H=>∃k:Nat,vs=[.int .i64 (k:Int)]∧k≤ops.length∧k≤30∧ZE (i+k) H,fun vs _=>30-br vs 0,JE.mk ⟨0,rfl,Nat.zero_le _,by omega,by rw[SB];exact⟨K,S,refs,fs,vr,vf,M,CR,CF,C,rs,rfl,hY,hG,BN,Jh,by omega,by omega⟩⟩,?_⟩
 clear hY hG BN Jh pT
 rintro TZ H ⟨k,⟨⟩,hk,ade,hst⟩ gs
 rw[SB]at hst
 obtain⟨K,S,refs,fs,vr,vf,M,CR,CF,C,rs,rfl,hY,hG,BN,Jh,BB,ry⟩:=hst
 refine(hs.mono (B':=Y) fun _ h=>h).bc ?_
 rw[List.length_map]
 refine aa.dH ?_
 refine df.and (a:=decide (k<ops.length)) (decide (k<30)) (fun _=>aa.dH (b:=30) ⟨rfl,rfl⟩) rfl fun gs=>?_
 refine Br.mk (fun hb=>?_) (fun hb=>?_)
 ·simp only[Bool.and_eq_true,decide_eq_true_eq]at hb
  obtain⟨h1,h3⟩:=hb
  refine an.sl hs (i:=k) (r:=ops[k].cells) (by rw[List.getElem?_map,List.getElem?_eq_getElem h1];rfl) fun p hp=>?_
  refine av.at hp rfl (by decide) (fun _ h=>List.mem_append_left _ (hY.sub _ h)) ?_
  subst BN
  refine ae.fq (args:=#[ptr gb,.agg ops[k].cells.toArray]) (P3 hG hn.1 hn.2 Jh (by omega) (ho _ (List.getElem_mem h1))) ?_
  rintro w H ⟨rfl,x,a,b,c,K',S',refs',fs',qF,uv,M',x4,Ar,C',MX,rfl,gM,HR,hn',jc,rfl,hx,Le,_⟩
  refine Un.not (Br.no ?_)
  refine aa.inc ?_
  refine aB.mk ⟨k+1,rfl,h1,by omega,?_⟩ (by simp only[br];omega)
  rw[SB]
  refine⟨K',S',_,fs',qF,uv,M',x4,Ar,C',MX,rfl,hY.trans gM,HR,hn',jc.trans Jh,?_,?_⟩
  ·rw[List.length_append];omega
  ·rw[List.length_append];split<;>simp<;>omega
 ·exact aS.here ⟨gb,kp,K,S,refs,fs,vr,vf,M,CR,CF,C,rs,[],rfl,rfl,hY,hG,BN,Jh,BB,by omega,rfl⟩
end
theorem Ke{B:Hp}{v1 v2:Value}{p q:List Nat}{n:Nat}(h1:cS .i64 B v1 (iw p))(h2:cS .i64 B v2 (iw q))(hp:p.Perm (List.range n))(hq:q.Perm (List.range n))(hn:n≤64):
  Fc Tryz.prog 102 #[v1,v2] B (fun r H=>∃s C,r=.tuple #[s,.int .i64 0]∧H=C++B∧aK 3 .i64 s (iw (path p q)) C):=by
 have e1:p.length=n:=by rw[hp.length_eq,List.length_range]
 have e2:q.length=n:=by rw[hq.length_eq,List.length_range]
 have gE:q.Nodup:=hq.nodup_iff.2 List.nodup_range
 have hpq:=hp.trans hq.symm
 refine aR fun g=>Fb ?_
 refine ae.eq (Py h1 h2 hp hq hn) ?_
 refine aa.cG (Br.F ?_)
 refine ae.fq (tx h1 (by rw[ai];omega)) ?_
 rintro va H ⟨CA,rfl,hA⟩
 refine h2.bc ?_
 rw[ai]
 refine⟨fun vs H=>∃(i:Nat) (w9:Value) (C N:Hp),vs=[w9,.int .i64 (i:Int)]∧i≤n∧H=C++(N++B)∧aK 3 .i64 w9 (iw (dz p q i)) C∧aK 3 .i64 va (iw (au p (dz p q i))) N,fun vs _=>n-br vs 1,
  JE.mk ⟨0,_,[],CA,rfl,Nat.zero_le _,rfl,aK.nil,hA⟩,?_⟩
 rintro w9 w10 H ⟨i,u9,C,N,⟨⟩,hi,rfl,ho,hw⟩ gs
 refine aa.dH (Br.dec (fun hlt=>?_) (fun hlt=>?_))
 rotate_left
 ·obtain rfl:i=q.length:=by omega
  exact aS.mk (.cQ .right _) ⟨w9,C,rfl,rfl,ho⟩
 have spec:=iu gE hpq i (by omega)
 obtain⟨s1,s2,s3⟩:=spec
 obtain⟨s4,s5⟩:=s3 hlt
 have aan:=p8 gE hpq (i+1) (by omega)
 have qQ:(i+1)*p.length≤64*64:=Nat.mul_le_mul (by omega) (by omega)
 refine h2.ld (n:=((q.getD i 0:Nat):Int)) (aX hlt) (fun _ h=>List.mem_append_right _ (List.mem_append_right _ h)) ?_
 have hmem:q.getD i 0∈au p (dz p q i):=by
  have:q.getD i 0∈q:=by rw[List.getD_eq_getElem?_getD,List.getElem?_eq_getElem hlt];exact List.getElem_mem _
  exact((jr s1).trans hpq).mem_iff.2 this
 refine ae.eq (GV hw.ints (by rw[ai,eR];omega)) ?_
 rw[if_pos (Kw.2 hmem),RN]
 refine⟨fun vs H=>∃(j:Nat) (u9:Value) (P:List Nat) (C N:Hp),vs=[u9,.int .i64 (j:Int)]∧i≤j∧j<n∧P++B7 i j=dz p q (i+1)∧H=C++(N++B)∧aK 3 .i64 u9 (iw P) C∧aK 3 .i64 va (iw (au p P)) N,fun vs _=>br vs 1,
  JE.mk ⟨Tl (au p (dz p q i)) (q.getD i 0),w9,dz p q i,C,N,rfl,s4,by omega,rfl,rfl,ho,hw⟩,?_⟩
 rintro ZO Xi H ⟨j,u9,P,C2,N2,⟨⟩,hij,Nh,hP,rfl,uG,py⟩ gs
 refine aa.iU (Br.dec (fun hgt=>?_) (fun hgt=>?_))
 ·obtain⟨j,rfl⟩:∃k,j=k+1:=⟨j-1,by omega⟩
  have hPl:P.length≤4096:=by
   have:=congrArg List.length hP
   rw[List.length_append]at this;omega
  have hlen:(au p P).length=n:=by rw[eR,e1]
  refine DR.self ?_
  refine aa.bE (b:=1) ?_
  rw[Nat.add_sub_cancel]
  refine py.ld (x:=(((au p P).getD (j+1) 0:Nat):Int)) (aX (by omega)) (fun _ h=>List.mem_append_right _ (List.mem_append_left _ h)) ?_
  refine aa.bE (b:=1) ?_
  rw[Nat.add_sub_cancel]
  refine py.ld (x:=(((au p P).getD j 0:Nat):Int)) (aX (by omega)) (fun _ h=>List.mem_append_right _ (List.mem_append_left _ h)) ?_
  refine py.ja (x:=(((au p P).getD (j+1) 0:Nat):Int)) (.app .left) (by rw[ai];omega) fun N3 OC=>?_
  refine OC.ja (x:=(((au p P).getD j 0:Nat):Int)) (.app .left) (by rw[List.length_set,ai];omega) fun N4 M7=>?_
  have e:((iw (au p P)).set j (((au p P).getD (j+1) 0:Nat):Int)).set (j+1) (((au p P).getD j 0:Nat):Int)=iw (au p (P++[j])):=by
   rw[fw];unfold iJ;rw[eJ,eJ]
  rw[e]at M7
  refine aa.bE (b:=1) ?_
  rw[Nat.add_sub_cancel]
  refine aq.int (e:=3) (by kernel_rfl) (by kernel_rfl) (by kernel_rfl) fun bx=>?_
  refine uG.pN (.cons .left) (by exact .head _) (by rw[ai];omega) (by rw[ai];omega) fun v' C3 zl=>?_
  refine aa.bE (b:=1) ?_
  rw[Nat.add_sub_cancel]
  refine aB.of .tail ⟨j,v',P++[j],C3,N4,rfl,by omega,by omega,?_,rfl,by rw[bP];exact zl,M7⟩ ?_
  ·rw[←hP,pL (show i≤j by omega),List.append_assoc];rfl
  ·simp only[br];omega
 ·obtain rfl:j=i:=by omega
  rw[xM (Nat.le_refl _),List.append_nil]at hP
  subst hP
  refine aa.inc ?_
  exact aB.of (.refl _) ⟨j+1,ZO,C2,N2,rfl,by omega,rfl,uG,py⟩ (by simp only[br];omega)
def wk(b kp f d:Nat)(ok:Bool):Nat×Obj:=(b,.cells #[ptr kp,.int .i64 (f:Int),.int .i64 (d:Int),.bool ok] 260 (0,0))
section
variable {kp b f d:Nat} {K:Kd} {S:Nat→aC.Fn} {ord tr:List Nat} {C:Hp}
theorem GJ(h:At kp K S ord tr C):Fc Tryz.prog 104 #[ptr kp] C (fun r H=>∃b,r=ptr b∧H=wk b kp tr.length 0 false::C):=by
 refine aR fun g=>E9 ?_
 refine ae.eq (pM h) ?_
 refine Build.mk (cs:=[ptr kp,.int .i64 ((tr.length:Nat):Int),.int .i64 0,.bool false]) (by kernel_rfl) ?_
 intro b _
 exact aS.here ⟨b,rfl,rfl⟩
theorem Jp(h:At kp K S ord tr C){l:Nat}(hl:l+1<K.n)(fo:tr.length<1099511627776)(hf:gV K S ord l)(hd:d<4611686018427387904):
  Fc Tryz.prog 107 #[ptr b,.int .i64 (l:Int)] (wk b kp f d false::C) (fun r H=>r=.int .i64 0∧∃C',H=wk b kp f (d+1) false::C'∧At kp K S (iJ ord l) (tr++[l]) C'):=by
 refine aR fun g=>ue ?_
 refine Ld.n ?_
 refine ae.fq (xQ h hl fo hf) ?_
 rintro v C' ⟨rfl,h'⟩
 intro J hJ
 refine aa.gA (Br.T ?_)
 refine Ld.n ?_
 refine aa.inc ?_
 refine Nil.ptr (ag.mk (St.one (by exact .head _) rfl (by simp) rfl ?_))
 exact JE.mk (hJ _ fun gs=>aS.here ⟨rfl,C',rfl,h'⟩)
theorem Jq(h:At kp K S ord tr C){l:Nat}(hl:l+1<K.n)(fo:tr.length<1099511627776)(hf:¬gV K S ord l):
  Rd Tryz.prog 107 #[ptr b,.int .i64 (l:Int)] (wk b kp f d false::C) (· =.int .i64 9):=by
 refine aR fun g=>ue ?_
 refine Ld.n ?_
 refine ae.eq (oE h hl fo hf) ?_
 intro J hJ
 refine aa.gA (Br.F ?_)
 exact JE.mk (hJ _ fun gs=>bN.mk (.refl _) rfl)
theorem Js{ok:Bool}{path:List Nat}(h:At kp K S (au ord path) (tr++path) C)(hp:∀l∈path,l+1<K.n)(fo:(tr++path).length<1099511627776)(hd:d<4611686018427387904):
  Fc Tryz.prog 108 #[ptr b] (wk b kp tr.length d ok::C) (fun r H=>r=.tuple #[]∧∃C',H=wk b kp tr.length (d+path.length) ok::C'∧At kp K S ord tr C'):=by
 have qP:path.length<1099511627776:=by rw[List.length_append]at fo;omega
 refine aR fun g=>E8 ?_
 refine DR.of (R:=[wk b kp tr.length d ok]) (aM.left (A:=[_]) (B:=C)) ?_
 refine Ld.n ?_
 refine Ld.n ?_
 refine ae.fq (args:=#[ptr kp,.int .i64 ((tr.length+0:Nat):Int)]) (Gk h hp (Nat.zero_le _) fo) ?_
 rintro v C' ⟨rfl,h'⟩
 rw[List.take_zero,List.append_nil]at h'
 refine⟨aM.left (A:=[_]) (B:=C'),?_⟩
 refine Ext.two ?_
 refine Ld.n ?_
 refine aa.dx ?_
 refine Nil.ptr (ag.mk (St.one (by exact .head _) rfl (by simp) rfl ?_))
 exact aS.here ⟨rfl,C',rfl,h'⟩
theorem GG:Rd Tryz.prog 105 #[ptr b] (wk b kp f d true::C) (· =.tuple #[]):=by
 refine aR fun g=>uf ?_
 refine Ld.n ?_
 exact Un.not (Br.no (bN.mk (.refl _) rfl))
theorem GH{path:List Nat}(h:At kp K S (au ord path) (tr++path) C)(hp:∀l∈path,l+1<K.n)(fo:(tr++path).length<1099511627776)(hd:d<4611686018427387904):
  Fc Tryz.prog 105 #[ptr b] (wk b kp tr.length d false::C) (fun r H=>r=.tuple #[]∧∃C',H=wk b kp tr.length (d+path.length) false::C'∧At kp K S ord tr C'):=by
 refine aR fun g=>uf ?_
 refine Ld.n ?_
 refine Un.not (Br.yes ?_)
 refine ae.fq (Js h hp fo hd) ?_
 rintro v H ⟨rfl,C',rfl,h'⟩
 exact aS.here ⟨rfl,C',rfl,h'⟩
theorem MD(h:At kp K S ord tr C){v:Nat}(hv:v<K.n):Rd Tryz.prog 46 #[ptr kp,.int .i64 (v:Int)] C (fun r=>∃p,p<K.n∧ord.getD p 0=v∧r=.tuple #[.int .i64 (p:Int),.int .i64 0]):=by
 obtain⟨K',S',cZ,h,hk⟩:=h
 obtain⟨b,rfl,hO⟩:=h.rep
 have hn:=hO.oK
 have vG:v<K'.n:=by rw[hk.n];exact hv
 have hlen:v<cZ.length:=by rw[hO.ol.2];exact vG
 refine aR fun g=>wB ?_
 refine aa.aD (Br.no ?_)
 refine ae.eq (rL h.rep (v:Int)) ?_
 rw[decide_eq_true (by omega)]
 refine Un.not (Br.no ?_)
 refine Ld.n ?_
 refine hO.lv.ld (x:=((cZ.getD v 0:Nat):Int)) (aX hlen) (aZ.sub (.cons (.app (.app (.app (.app (.app .left))))))) ?_
 refine bN.mk (.refl _) ⟨cZ.getD v 0,?_,?_,rfl⟩
 ·rw[←hk.n];exact h.ok.lv.lt v vG
 ·exact h.od.of h.ok.lv vG
def Gt(kp:Nat)(K:Kd)(S:Nat→aC.Fn)(ord tr ls:List Nat)(r:Value)(C:Hp):Prop:=
 ((rm K S).can ord ls=true∧r=.tuple #[.int .i64 ((ls.length:Nat):Int),.int .i64 0]∧At kp K S (au ord ls) (tr++ls) C)∨
 ((rm K S).can ord ls=false∧r=.tuple #[.int .i64 ((2*((rm K S).c9 0 ls ord).length:Nat):Int),.int .i64 9]∧At kp K S ord tr C)
theorem Og{Y:Hp}{v:Value}{ls:List Nat}(h:At kp K S ord tr C)(hI:cS .i64 Y v (iw ls))(hp:∀l∈ls,l+1<K.n)(fo:tr.length+ls.length<1099511627776):
  Fc Tryz.prog 103 #[ptr kp,v] (Y++C) (fun r H=>∃C',H=Y++C'∧Gt kp K S ord tr ls r C'):=by
 let m:=rm K S
 have hgl:=m.jJ 0 ls ord
 have hpt:∀i,∀l∈ls.take i,l+1<K.n:=fun i l hl=>hp l (List.mem_of_mem_take hl)
 refine aR fun g=>Fa ?_
 intro b1 _
 refine ae.fq (GJ h) ?_
 rintro v3 H ⟨b,rfl,rfl⟩
 intro b5 _
 refine St.one (by exact .head _) rfl (by simp) rfl ?_
 refine hI.bc ?_
 rw[ai]
 refine⟨fun vs H=>∃i C2,i≤(m.c9 0 ls ord).length∧vs=[.int .i64 (i:Int)]∧H=(b5,.cells #[ptr b] 169 (0,0))::(b1,.cells #[.int .i64 0] 3 (0,0))::(Y++(wk b kp tr.length i false::C2))∧At kp K S (au ord (ls.take i)) (tr++ls.take i) C2,
  fun vs _=>ls.length-br vs 0,JE.mk ⟨0,C,Nat.zero_le _,rfl,rfl,by simpa[au]using h⟩,?_⟩
 rintro w13 H ⟨i,C2,hi,⟨⟩,rfl,h2⟩ gs
 have Lj:(tr++ls.take i).length<1099511627776:=by rw[List.length_append,List.length_take];omega
 refine aa.dH (Br.dec (fun hlt=>?_) (fun hlt=>?_))
 ·refine hI.ld (n:=((ls.getD i 0:Nat):Int)) (aX hlt) (fun _ h=>.tail _ (.tail _ (List.mem_append_left _ h))) ?_
  have eg:ls.getD i 0=ls[i]:=by rw[List.getD_eq_getElem?_getD,List.getElem?_eq_getElem hlt];rfl
  have AE:ls.getD i 0+1<K.n:=by rw[eg];exact hp _ (List.getElem_mem hlt)
  have eq:ls[i]? =some (ls.getD i 0):=by rw[eg];exact List.getElem?_eq_getElem hlt
  refine Ld.q ?_
  by_cases hg:i<(m.c9 0 ls ord).length
  ·have hf:gV K S (au ord (ls.take i)) (ls.getD i 0):=oc.1 (m.LV hg eq)
   refine ae.fn (.cons (.cons (.app .here))) (Jp h2 AE Lj hf (by omega)) ?_
   rintro r H ⟨rfl,C3,rfl,h3⟩
   refine aa.cG (Br.F ?_)
   refine aa.inc ?_
   refine aB.mk ⟨i+1,C3,hg,rfl,rfl,?_⟩ (by simp only[br];omega)
   have e:ls.take (i+1)=ls.take i++[ls.getD i 0]:=by rw[List.take_add_one,eq];rfl
   rw[e,fw,←List.append_assoc];exact h3
  ·obtain rfl:i=(m.c9 0 ls ord).length:=by omega
   have hf:¬gV K S (au ord (ls.take (m.c9 0 ls ord).length)) (ls.getD (m.c9 0 ls ord).length 0):=fun hf=>by
    have h8:=m.HS eq
    have h9:=oc.2 hf
    rw[show(rm K S).fit _ _=false from h8]at h9;cases h9
   refine ae.eq (Jq h2 AE Lj hf) ?_
   refine aa.cG (Br.T ?_)
   refine St.one (by exact .tail (.head _)) rfl (by simp) rfl ?_
   refine rh (R:=_) ?_
   unfold L180
   refine Ld.q ?_
   refine ae.fn (.cons (.cons (.app .here))) (GH h2 (hpt _) Lj (by omega)) ?_
   rintro r H ⟨rfl,C3,rfl,h3⟩
   refine Ld.q ?_
   have eD:(m.c9 0 ls ord).length+(ls.take (m.c9 0 ls ord).length).length=2*(m.c9 0 ls ord).length:=by rw[List.length_take];omega
   rw[eD]
   refine Ld.n ?_
   refine St.one (by exact .tail (.head _)) rfl (by simp) rfl ?_
   refine⟨⟨_,rfl⟩,?_⟩
   refine Ld.q ?_
   refine aS.mk (.skip (.skip (.cQ .tail _))) ⟨C3,rfl,.inr ⟨decide_eq_false (show¬(m.c9 0 ls ord).length=ls.length by omega),rfl,h3⟩⟩
 ·have Ln:i=ls.length:=by omega
  subst Ln
  rw[List.take_length]at h2
  have hcan:(rm K S).can ord ls=true:=decide_eq_true (show(m.c9 0 ls ord).length=ls.length by omega)
  refine Ld.q ?_
  refine Nil.ptr (ag.mk (St.one (cD.tail (cD.tail (cD.bO (.head _) _))) rfl (by simp) rfl ?_))
  refine St.one (by exact .tail (.head _)) rfl (by simp) rfl ?_
  refine rh (R:=_) ?_
  unfold L180
  refine Ld.q ?_
  refine ae.eq (B:=wk b kp tr.length ls.length true::C2) GG ?_
  refine Ld.q ?_
  refine Ld.n ?_
  refine St.one (by exact .tail (.head _)) rfl (by simp) rfl ?_
  refine⟨⟨_,rfl⟩,?_⟩
  refine Ld.q ?_
  refine aS.mk (.skip (.skip (.cQ .tail _))) ⟨C2,rfl,.inl ⟨hcan,rfl,h2⟩⟩
end
section
variable {kp b f d:Nat} {K:Kd} {S:Nat→aC.Fn} {ord tr:List Nat} {C:Hp}
theorem Gt.tup{ls:List Nat}{r:Value}(h:Gt kp K S ord tr ls r C):∃x y,r=.tuple #[x,y]:=by
 rcases h with⟨_,rfl,_⟩|⟨_,rfl,_⟩<;>exact⟨_,_,rfl⟩
theorem Km{Y:Hp}{v:Value}{q:List Nat}(h:At kp K S ord tr C)(hI:cS .i64 Y v (iw q))(R2:ord.Perm (List.range K.n))(hpq:q.Perm (List.range K.n))(fo:tr.length<549755813888):
  Fc Tryz.prog 42 #[ptr kp,v] (Y++C) (fun r H=>∃C',H=Y++C'∧Gt kp K S ord tr (path ord q) r C'):=by
 have hn:=h.oK
 have rz:ord.length=K.n:=by rw[R2.length_eq,List.length_range]
 have hql:q.length=K.n:=by rw[hpq.length_eq,List.length_range]
 have gE:q.Nodup:=hpq.nodup_iff.2 List.nodup_range
 refine aR fun g=>IT ?_
 refine aa.aD (Br.no ?_)
 intro J2 vO
 refine ae.rq (ju hI (by rw[ai];omega)) ?_
 rintro r (⟨rfl,ha,hl⟩|⟨_,_,hl⟩|⟨_,hno⟩)
 rotate_left
 ·rw[ai]at hl;omega
 ·exact absurd (tH hpq) hno
 refine aa.cG (Split.go (by decide) ?_)
 refine hI.bc ?_
 refine ae.eq (kI h) ?_
 refine aa.uk ?_
 rw[decide_eq_false (by rw[ai];omega)]
 refine ay.mk (JE.mk (vO _ _ fun gs=>Br.no ?_))
 refine ae.fq (MC h) ?_
 rintro vo H ⟨N,rfl,ho⟩
 refine ae.pre (H':=(N++Y)++C) (.perm (by rw[List.append_assoc,←List.append_assoc,←List.append_assoc];exact List.perm_append_comm.append_right C)) ?_
 refine ae.fq (Ke (ho.ints.mono fun _ h=>List.mem_append_left _ h) (hI.mono fun _ h=>List.mem_append_right _ h) R2 hpq hn) ?_
 rintro r H ⟨s,CP,rfl,rfl,hP⟩
 refine Ext.mk rfl (Ext.mk rfl (aa.cG (Br.F ?_)))
 obtain⟨_,qP⟩:=wX gE (R2.trans hpq.symm)
 have aak:(path ord q).length≤4096:=by
  have:=p8 gE (R2.trans hpq.symm) q.length (Nat.le_refl _)
  have h2:q.length*ord.length≤64*64:=Nat.mul_le_mul (by omega) (by omega)
  unfold path;omega
 refine ae.fq (Og h (hP.ints.mono fun _ h=>List.mem_append_left _ h) (fun x hx=>by have:=qP x hx;omega) (by omega)) ?_
 rintro r H ⟨C',rfl,hM⟩
 obtain⟨x,y,rfl⟩:=hM.tup
 refine Ext.two ?_
 refine aS.mk ?_ ⟨C',rfl,hM⟩
 rw[List.append_assoc,List.append_assoc]
 exact aM.right.trans .right
def Ol(p:Nat):Nat→Nat→Nat
 |0,_=>p
 |_,k=>p-k
def HJ(n p:Nat):Nat→Nat→Nat
 |0,k=>p+k
 |_,_=>n-1
end
end Go.Proofs
namespace aC
theorem pZ{p j:Nat}(h:p≤j):road p (j+1)=road p j++[j]:=by
 unfold road
 rw[show p-(j+1)=0 by omega,show p-j=0 by omega,show j+1-p=(j-p)+1 by omega,List.range'_concat]
 simp;omega
theorem p5{p j:Nat}(h:j<p):road p j=road p (j+1)++[j]:=by
 unfold road
 rw[show j-p=0 by omega,show j+1-p=0 by omega,show p-j=(p-(j+1))+1 by omega,List.range'_succ]
 simp
theorem fW(p:Nat):road p p=[]:=by unfold road;simp
end aC
set_option maxRecDepth 100000
namespace Go.Proofs
open Go Go.Sx
open aC
section
variable {kp gb n:Nat} {vr vf:Value} {refs:List Nat} {fs:List (List Nat)} {K:Kd} {S:Nat→aC.Fn} {ord tr:List Nat} {C Z:Hp}
theorem FH{ord:List Nat}(hp:ord.Perm (List.range n)):∀i,i<n→ord.getD i 0<n:=fun i hi=>by
 have rz:ord.length=n:=by rw[hp.length_eq,List.length_range]
 have:ord.getD i 0∈ord:=by rw[List.getD_eq_getElem?_getD,List.getElem?_eq_getElem (by omega)];exact List.getElem_mem _
 exact List.mem_range.1 (hp.mem_iff.1 this)
structure GZ(gb kp n:Nat)(vr vf:Value)(refs:List Nat)(fs:List (List Nat))(Z:Hp):Prop where
 cell:eS gb kp n vr vf∈Z
 rf:cS .u32 Z vr (iw refs)
 fn:dZ Z vf (fs.map fun ws=>⟨n,ws⟩)
theorem GZ.mono{Z':Hp}(h:GZ gb kp n vr vf refs fs Z)(hs:∀x∈Z,x∈Z'):GZ gb kp n vr vf refs fs Z':=⟨hs _ h.cell,h.rf.mono hs,h.fn.mono hs⟩
theorem GZ.gin(h:GZ gb kp n vr vf refs fs Z)(C:Hp):AP gb kp n vr vf refs fs C (Z++C):=
 ⟨List.mem_append_left _ h.cell,h.rf.mono fun _ h=>List.mem_append_left _ h,h.fn.mono fun _ h=>List.mem_append_left _ h,_,.app .here,fun X=>List.mem_append_left _ h.cell⟩
theorem F6(hz:GZ gb kp K.n vr vf refs fs Z)(hg:ug K S refs fs)(hA:At kp K S ord tr C)(hn:K.n≤16)(hm:refs.length<65536):Px Tryz.prog 21 #[ptr gb] (Z++C) (fun w _=>w=.bool true):=by
 obtain⟨K',S',cZ,h,hk⟩:=hA
 refine Pp (vr:=vr) (vf:=vf) (K:=K') (S:=S') ?_ (hg.kept hk) h (by rw[hk.n];exact hn) hm
 rw[hk.n];exact hz.gin C
end
end Go.Proofs
namespace Go.Sx
open Go
theorem aM.sub{H Y:Hp}(hn:(Y.map Prod.fst).Nodup)(hs:∀x∈Y,x∈H):aM H Y:=by
 intro g w h
 refine⟨h.os,h.out,h.tape,?_,fun x hx=>h.uJ x ?_⟩
 ·have h1:=h.nd
  rw[List.map_append,List.nodup_append]at h1⊢
  refine⟨hn,h1.2.1,fun a ha b hb=>h1.2.2 a ?_ b hb⟩
  obtain⟨x,hx,rfl⟩:=List.mem_map.1 ha
  exact List.mem_map_of_mem (hs x hx)
 ·rcases List.mem_append.1 hx with hx|hx
  ·exact List.mem_append_left _ (hs x hx)
  ·exact List.mem_append_right _ hx
end Go.Sx
set_option maxRecDepth 100000
namespace Go.Proofs
open Go Go.Sx
open aC
section
variable {kp gb:Nat} {vr vf:Value} {refs:List Nat} {fs:List (List Nat)} {K:Kd} {S:Nat→aC.Fn} {ord ah tr:List Nat} {C:Hp}
def cutAt{α:Type}(l:List α)(j:Nat)(z:α):List α:=(l.set j z).take (l.length-1)
theorem eC{α:Type}(l:List α)(j:Nat)(z:α):(cutAt l j z).length=l.length-1:=by unfold cutAt;rw[List.length_take,List.length_set];omega
theorem jL{α:Type}{l:List α}{j i:Nat}{z:α}(hi:i<l.length-1)(hz:l[l.length-1]? =some z):(cutAt l j z)[i]? =l[if i=j then l.length-1 else i]? :=by
 unfold cutAt
 rw[List.getElem?_take_of_lt hi]
 by_cases e:i=j
 ·subst e;rw[if_pos rfl,List.getElem?_set_self (by omega),hz]
 ·rw[if_neg e,List.getElem?_set_ne (fun h=>e h.symm)]
theorem ug.less(h:ug K S refs fs){K':Kd}{j z:Nat}{t:List Nat}(hj:j<refs.length)(hz:refs[refs.length-1]? =some z)(ht:fs[fs.length-1]? =some t)(hF:uh K K' (refs.getD j 0)):ug K' S (cutAt refs j z) (cutAt fs j t):=by
 have hl:=h.len
 have aY:∀i,i<(cutAt refs j z).length→∃i',i'<refs.length∧(cutAt refs j z).getD i 0=refs.getD i' 0∧(cutAt fs j t).getD i []=fs.getD i' []:=fun i hi=>by
  rw[eC]at hi
  refine⟨if i=j then refs.length-1 else i,by split<;>omega,?_,?_⟩
  ·rw[List.getD_eq_getElem?_getD,List.getD_eq_getElem?_getD,jL hi hz]
  ·rw[List.getD_eq_getElem?_getD,List.getD_eq_getElem?_getD,jL (by omega) ht,hl]
 refine⟨by rw[eC,eC,hl],fun u hu=>?_,fun i hi=>?_,fun s=>?_⟩
 ·rw[hF.n]
  obtain⟨i,hi,rfl⟩:=List.mem_iff_getElem.1 hu
  rw[eC]at hi
  have e:=jL (j:=j) hi ht
  rw[List.getElem?_eq_getElem (by rw[eC];exact hi)]at e
  exact h.oz _ (List.mem_of_getElem? e.symm)
 ·obtain⟨i',hi',e1,e2⟩:=aY i hi
  rw[e1,e2,hF.n]
  exact h.is i' hi'
 ·have hp:=(G9 hj hz).count_eq s
  rw[List.count_append,List.count_singleton]at hp
  have h2:=(h.is j hj).1
  rw[hF.hold,h.hold]
  show _=List.count s (cutAt refs j z)
  unfold cutAt
  by_cases e:s=refs.getD j 0
  ·rw[if_pos ⟨e,h2⟩]
   rw[if_pos (by rw[e];simp)]at hp
   omega
  ·rw[if_neg (fun h=>e h.1)]
   rw[if_neg (by simpa using fun h=>e h.symm)]at hp
   omega
set_option maxHeartbeats 1000000 in
theorem L0{M CR CF:Hp}{rs:List (List Value)}(h:Fg gb kp K S ord ah tr refs fs vr vf M CR CF C rs)(hne:refs≠[])(bH:refs.length<1048576){a:Nat}(ha:a<256):
  Fc Tryz.prog 56 #[ptr gb,.agg #[.int .u8 3,.int .u8 0,.int .u8 (a:Int),.int .u8 0]] (M++gG gb kp K.n vr vf CR CF C) (fun w H=>w=.bool true∧∃(K':Kd) (refs':List Nat) (fs':List (List Nat)) (qF uv:Value) (M' x4 Ar C':Hp) (MX:List (List Value)),H=M'++gG gb kp K.n qF uv x4 Ar C'∧aT M M'∧Fg gb kp K' S ord ah [] refs' fs' qF uv M' x4 Ar C' MX∧K'.n=K.n∧K'.cap=K.cap∧refs'.length+1=refs.length):=by
 have hK:=h.ks
 have hlen:0<refs.length:=List.length_pos_iff.2 hne
 have pT:=h.Uc
 have hfl:=h.vQ.len
 obtain⟨z,hz⟩:∃z,refs[refs.length-1]? =some z:=⟨_,List.getElem?_eq_getElem (by omega)⟩
 obtain⟨t,ht⟩:∃t,fs[fs.length-1]? =some t:=⟨_,List.getElem?_eq_getElem (by omega)⟩
 obtain⟨y,hy⟩:∃y,rs[rs.length-1]? =some y:=⟨_,List.getElem?_eq_getElem (by omega)⟩
 obtain⟨s,rfl,hw⟩:=h.row.2 _ y ⟨K.n,t⟩ hy (by rw[pT,hfl,List.getElem?_map,ht];rfl)
 have hone:∀x∈[Value.int .i64 (K.n:Int),s],x.oneCell'=true:=by have:=aG hw;simpa[Value.oneCell']using this
 refine aR fun g=>IK ?_
 intro b1 _ J3 h3
 refine Ld.f ?_
 refine aa.Oc (a:=3) (b:=6) (by decide) ?_
 intro J9 h9
 refine aa.cE (a:=3) (b:=0) (Br.no ?_)
 refine aa.cE (a:=3) (b:=1) (JE.mk (h9 _ _ fun gs=>Br.no ?_))
 refine aa.cE (a:=3) (b:=2) (Br.no ?_)
 refine aa.cE (a:=3) (b:=3) (Br.yes ?_)
 refine Ld.n ?_
 refine h.rf.bc ?_
 rw[ai]
 refine aa.cE (b:=0) (Br.F ?_)
 refine Ld.f ?_
 refine aQ.nat (by simp[bA];omega) ?_
 refine Ld.n ?_
 refine h.rf.bc ?_
 rw[ai]
 refine aa.p6 (by omega) ?_
 have hj:=Nat.mod_lt a hlen
 generalize a%refs.length=j at*
 have hmem:refs.getD j 0∈refs:=by rw[List.getD_eq_getElem?_getD,List.getElem?_eq_getElem hj];exact List.getElem_mem hj
 have hlv:=h.vQ.live hK hmem
 have ac4:=hK.bR hlv
 refine DR.of (R:=eS gb kp K.n vr vf::CR) (.skip (.eG (.cons .left))) ?_
 refine Ld.n (Ld.n ?_)
 refine h.rf.ld (x:=((refs.getD j 0:Nat):Int)) (aX hj) (fun _ h=>.tail _ h) ?_
 refine ae.fq (nh hK (by omega) fun _=>h.vQ.mem.2 hmem) ?_
 rintro w C' ⟨rfl,K',fD,hF⟩
 refine⟨.skip (.eG (.cons .left)),?_⟩
 refine aa.cG (Br.F ?_)
 refine DR.self (Ld.n (Ld.n (Ld.n ?_)))
 refine h.rf.bc ?_
 rw[ai]
 refine aa.bE (b:=1) ?_
 refine h.rf.ld (x:=(z:Int)) (bV hz) (fun _ h=>.tail _ (List.mem_append_right _ (.tail _ (List.mem_append_left _ h)))) ?_
 refine h.rf.ja (x:=(z:Int)) (.cons (.app (.cons .left))) (by rw[ai];exact hj) fun CR1 BB=>?_
 rw[eJ]at BB
 refine DR.self (Ld.n (Ld.n (Ld.n ?_)))
 refine h.fn.bc ?_
 rw[pT]
 refine aa.bE (b:=1) ?_
 rw[←pT]
 refine h.fn.y5 hy (fun _ h=>.tail _ (List.mem_append_right _ (.tail _ (List.mem_append_right _ (List.mem_append_left _ h))))) ?_
 refine h.fn.NV (xs:=[.int .i64 (K.n:Int),s]) (.cons (.app (.cons (.app .left)))) (by omega) rfl hone fun CF1 BJ=>?_
 refine DR.self (Ld.n (Ld.n ?_))
 refine BB.bc ?_
 rw[ai,List.length_set]
 refine aa.bE (b:=1) ?_
 refine BB.cut (by rw[ai,List.length_set];omega) fun qF ry=>?_
 have er:(iw (refs.set j z)).take (refs.length-1)=iw (cutAt refs j z):=by unfold iw cutAt;rw[List.map_take]
 rw[er]at ry
 refine Nil.ptr (ag.mk (St.one (c:=#[ptr kp,.int .i64 (K.n:Int),vr,vf]) (c':=#[ptr kp,.int .i64 (K.n:Int),qF,vf]) (.tail (cD.bO (.head _) _)) ry.one (by simp) rfl ?_))
 refine DR.self (Ld.n (Ld.n ?_))
 refine BJ.bc ?_
 rw[List.length_set,pT]
 refine aa.bE (b:=1) ?_
 refine BJ.cut (by rw[List.length_set];omega) fun uv AG=>?_
 refine Nil.ptr (ag.mk (St.one (c:=#[ptr kp,.int .i64 (K.n:Int),qF,vf]) (c':=#[ptr kp,.int .i64 (K.n:Int),qF,uv]) (.tail (cD.bO (.head _) _)) (aO.one AG) (by simp) rfl ?_))
 refine JE.mk (h3 _ fun gs=>?_)
 have YC:aO 57 2 uv (cutAt rs j [.int .i64 (K.n:Int),s]) CF1:=by unfold cutAt;rw[pT];exact AG
 refine aS.mk .tail ⟨rfl,K',cutAt refs j z,cutAt fs j t,qF,uv,M,CR1,CF1,C',_,rfl,.refl _,⟨fD,h.vQ.less hj hz ht hF,ry,YC,?_⟩,hF.n,hF.cap,by rw[eC];omega⟩
 rw[hF.n]
 refine⟨by rw[eC,List.length_map,eC];omega,fun i r x hr hx=>?_⟩
 have hi:i<rs.length-1:=by
  have:=(List.getElem?_eq_some_iff.1 hr).1
  rwa [eC]at this
 rw[jL hi hy]at hr
 rw[List.getElem?_map,jL (by omega) ht]at hx
 refine h.row.2 _ r x hr ?_
 rw[List.getElem?_map,←hx,show rs.length=fs.length by omega]
end
end Go.Proofs
namespace Go.Sx
open Go Go.ChangeShapes Go.WideShapes Go.Deep
section
variable {H:Type} {enc:TypeId×Value→H} {P:Program} {W:World} {base:Nat} {spare:Nat→Bool} {held:Bool}
theorem qB(a:Addr)(n:Nat):(a.add n).block=a.block:=by unfold Addr.add;split<;>rfl
theorem xU(a:Addr)(n:Nat):(a.add n).off=a.off+n:=by unfold Addr.add;split<;>simp_all
theorem iV{b:Nat}{a:Addr}{k:Nat}{cs:List Value}(hk:0<k)(h:W.cells? b a k=some cs):
  a.spot=none∧∃c T fz,W.heap[a.block]? =some (.cells c T fz)∧a.off+k≤c.size∧c.extract a.off (a.off+k)=cs.toArray:=by
 obtain⟨_,hl,hg⟩:=World.cells?_some h
 have h0:=hg 0 hk
 have hc0:W.cell? a=some (cs[0]'(by omega)):=by
  have:a.add 0=a:=by simp[Addr.add]
  rw[this]at h0;rw[h0];exact List.getElem?_eq_getElem (by omega)
 unfold World.cell? at hc0
 split at hc0
 ·rename_i c T fz hb
  cases hs:a.spot with
  |some s=>rw[hs]at hc0;simp at hc0
  |none=>
   have hcell:∀i,i<k→c[a.off+i]? =cs[i]? :=fun i hi=>by
    have:=hg i hi
    unfold World.cell? at this
    rw[qB,hb]at this
    simp only[xU]at this
    have hsp:(a.add i).spot.isSome=false:=by unfold Addr.add;split<;>simp[hs]
    rw[hsp]at this
    simpa using this
   have hsz:a.off+k≤c.size:=by
    have:=hcell (k-1) (by omega)
    rw[List.getElem?_eq_getElem (by omega)]at this
    have:=(Array.getElem?_eq_some_iff.1 this).1
    omega
   refine⟨rfl,c,T,fz,hb,hsz,?_⟩
   apply Array.ext_getElem?
   intro i
   rw[Array.getElem?_extract]
   by_cases hi:i<k
   ·rw[if_pos (by omega),hcell i hi];simp
   ·rw[if_neg (by omega)];simp;omega
 ·simp at hc0
theorem Tm{t e:TypeId}{v:Value}{d:DataW H}{ps:List MemPlace}{r:Reach}{b0 k:Nat}(ht:P.underlying t=some (.slice e))(hk:P.cellsOf e=k)(Ng:0<k)(hv:Value.okWide P W r b0 t v)(h:DataW.Trod enc P W base spare held t v d ps):
  (v=.slice none 0 0∧d=.nil)∨∃(a:Addr) (n cap:Nat) (es sp:List (DataW H)),v=.slice (some a) n cap∧d=.slice es sp∧es.length=n∧n≤cap∧
   ∀i,i<n→∃c T fz cs,a.spot=none∧(a.block,Obj.cells c T fz)∈whole W∧a.off+i*k+k≤c.size∧c.extract (a.off+i*k) (a.off+i*k+k)=cs.toArray∧∃fuel y,DataW.trod enc P W base spare held fuel e cs=some y∧cs.length=k:=by
 obtain⟨a0,n0,c0,rfl⟩:=okWide_slice ht hv
 obtain⟨fuel,hf⟩:=h
 rcases open_slice ht hf with⟨h1,h2⟩|⟨a,len,cap,m,n,D,Pl,hcs,hb,hl,hm,uH,hx,hi⟩
 ·left
  simp only[Value.cells,List.cons.injEq,and_true]at h1
  simp only[Prod.mk.injEq]at h2
  exact⟨by simpa using h1,h2.1⟩
 ·right
  simp only[Prod.mk.injEq]at hx
  have vG:Value.slice a0 n0 c0=.slice (some a) len cap:=by simpa[Value.cells]using hcs
  have U1:len≤m:=by rw[uH];split<;>omega
  refine⟨a,len,cap,_,_,vG,hx.1,by simp,hl,fun i hin=>?_⟩
  have hkk:=hk
  have zi:a.spot=none:=by
   obtain⟨cs0,hc0,_⟩:=hi 0 (by omega)
   rw[hk]at hc0
   rw[show a.add (0*k)=a by simp[Addr.add]]at hc0
   exact(iV Ng hc0).1
  obtain⟨cs,hc,hd⟩:=hi i (by omega)
  rw[hk]at hc
  obtain⟨_,hlen,_⟩:=World.cells?_some hc
  obtain⟨_,c,T,fz,h1,h2,h3⟩:=iV Ng hc
  rw[qB]at h1
  rw[xU]at h2 h3
  exact⟨c,T,fz,cs,zi,vi h1,h2,h3,n,_,hd,hlen⟩
theorem uV{t e:TypeId}{cs:List Value}{x:DataW H×List MemPlace}{fuel k:Nat}(ht:P.underlying t=some (.slice e))(hk:P.cellsOf e=k)(Ng:0<k)(h:DataW.trod enc P W base spare held fuel t cs=some x):
  ∃(v:Value) (rs:List (List Value)),cs=[v]∧Sl k (whole W) v rs∧((rs=[]∧x.1=.nil)∨∃es sp,x.1=.slice es sp∧es.length=rs.length)∧
   ∀(i:Nat) (r:List Value),rs[i]? =some r→∃(fuel:Nat) (y:DataW H×List MemPlace) (es sp:List (DataW H)),DataW.trod enc P W base spare held fuel e r=some y∧x.1=.slice es sp∧es[i]? =some y.1:=by
 rcases open_slice ht h with⟨h1,h2⟩|⟨a,len,cap,m,n,D,Pl,hcs,hb,hl,hm,uH,hx,hi⟩
 ·exact⟨_,[],h1,Sl.nil _ _,.inl ⟨rfl,by rw[h2]⟩,fun i r hr=>by simp at hr⟩
 ·have U1:len≤m:=by rw[uH];split<;>omega
  have hex:∃rs:List (List Value),rs.length=len∧∀i r,rs[i]? =some r→W.cells? base (a.add (i*k)) k=some r∧DataW.trod enc P W base spare held n e r=some (D i,Pl i):=by
   clear hcs hx hl uH
   induction len with
   |zero=>exact⟨[],rfl,fun i r hr=>by simp at hr⟩
   |succ len ih=>
    obtain⟨rs,h1,h2⟩:=ih (by omega)
    obtain⟨r,h3,h4⟩:=hi len (by omega)
    rw[hk]at h3
    refine⟨rs++[r],by simp[h1],fun i r' hr=>?_⟩
    by_cases hlt:i<rs.length
    ·rw[List.getElem?_append_left hlt]at hr;exact h2 i r' hr
    ·rw[List.getElem?_append_right (by omega)]at hr
     have BH:i-rs.length=0:=by
      by_cases e:i-rs.length=0
      ·exact e
      ·rw[List.getElem?_eq_none (by simp;omega)]at hr;cases hr
     rw[BH]at hr
     simp only[List.getElem?_cons_zero,Option.some.injEq]at hr
     subst hr
     obtain rfl:i=len:=by omega
     exact⟨h3,h4⟩
  obtain⟨rs,pT,zk⟩:=hex
  have aE:∀r∈rs,r.length=k:=fun r hr=>by
   obtain⟨i,hi,e⟩:=List.mem_iff_getElem.1 hr
   obtain⟨hc,_⟩:=zk i r (by rw[List.getElem?_eq_getElem hi,e])
   exact(World.cells?_some hc).2.1
  refine⟨.slice (some a) len cap,rs,hcs,⟨aE,?_⟩,.inr ⟨_,_,by rw[hx],by simp[pT]⟩,fun i r hr=>?_⟩
  ·cases rs with
   |nil=>exact .inl ⟨some a,cap,by rw[←pT];rfl,rfl⟩
   |cons r0 rest=>
    right
    obtain⟨hc0,_⟩:=zk 0 r0 rfl
    obtain⟨zi,c,T,fz,hb0,_,_⟩:=iV Ng hc0
    rw[show a.add (0*k)=a by simp[Addr.add]]at zi hb0
    obtain⟨ab,ao,asp⟩:=a
    simp only at zi hb0
    subst zi
    have Vs:∀i r,(r0::rest)[i]? =some r→ao+i*k+k≤c.size∧c.extract (ao+i*k) (ao+i*k+k)=r.toArray:=fun i r hr=>by
     obtain⟨hc,_⟩:=zk i r hr
     obtain⟨_,c',T',fz',h1,h2,h3⟩:=iV Ng hc
     rw[qB]at h1
     rw[xU]at h2 h3
     simp only at h1 h2 h3
     rw[hb0]at h1
     simp only[Option.some.injEq,Obj.cells.injEq]at h1
     obtain⟨rfl,_,_⟩:=h1
     exact⟨h2,h3⟩
    refine⟨ab,ao,cap,c,T,fz,by rw[pT],by omega,vi hb0,?_,fun i r hr j v hj=>?_⟩
    ·have U4:=Vs (rest.length) ((r0::rest)[rest.length]'(by simp)) (List.getElem?_eq_getElem (by simp))
     have:=U4.1
     simp only[List.length_cons,Nat.succ_mul];omega
    ·obtain⟨h1,h2⟩:=Vs i r hr
     have OR:j<k:=by
      have:=(List.getElem?_eq_some_iff.1 hj).1
      rw[aE r (List.mem_of_getElem? hr)]at this;exact this
     have h3:=congrArg (fun z:Array Value=>z[j]?) h2
     simp only[Array.getElem?_extract,List.getElem?_toArray]at h3
     rw[hj]at h3
     rw[←h3,if_pos (by omega)]
  ·obtain⟨_,hd⟩:=zk i r hr
   have Ln:i<len:=by rw[←pT];exact(List.getElem?_eq_some_iff.1 hr).1
   exact⟨n,_,_,_,hd,by rw[hx],by simp[Ln]⟩
theorem GQ{t e:TypeId}{q:IntKind}{cs:List Value}{x:DataW H×List MemPlace}{fuel:Nat}(ht:P.underlying t=some (.slice e))(he:P.underlying e=some (.int q))(hk:P.cellsOf e=1)(h:DataW.trod enc P W base spare held fuel t cs=some x):
  ∃(v:Value) (l:List Int),cs=[v]∧cS q (whole W) v l∧(∀n∈l,(Lit.int q n).wf=true)∧((l=[]∧x.1=.nil)∨∃es sp,x.1=.slice es sp∧es.length=l.length):=by
 obtain⟨v,rs,hcs,KZ,hx,hr⟩:=uV ht hk (by decide) h
 have hone:∀r∈rs,∃n,r=[.int q n]∧(Lit.int q n).wf=true:=fun r hm=>by
  obtain⟨i,hi,e⟩:=List.mem_iff_getElem.1 hm
  obtain⟨f,y,_,_,hy,_⟩:=hr i r (by rw[List.getElem?_eq_getElem hi,e])
  obtain⟨n,h1,_,h2⟩:=DataW.trod_int he hy
  exact⟨n,h1,h2⟩
 have hex:∃l:List Int,rs=l.map (fun n=>[Value.int q n])∧∀n∈l,(Lit.int q n).wf=true:=by
  clear KZ hx hr hcs
  induction rs with
  |nil=>exact⟨[],rfl,by simp⟩
  |cons r rest ih=>
   obtain⟨l,h1,h2⟩:=ih fun r hm=>hone r (by simp[hm])
   obtain⟨n,h3,h4⟩:=hone r (by simp)
   exact⟨n::l,by simp[h1,h3],fun m hm=>by rcases List.mem_cons.1 hm with rfl|hm;exact h4;exact h2 m hm⟩
 obtain⟨l,rfl,hwf⟩:=hex
 refine⟨v,l,hcs,KZ,hwf,?_⟩
 rcases hx with⟨h1,h2⟩|⟨es,sp,h1,h2⟩
 ·exact .inl ⟨by simpa using h1,h2⟩
 ·exact .inr ⟨es,sp,h1,by simpa using h2⟩
end
end Go.Sx
set_option maxRecDepth 100000
namespace Go.Proofs
open Go Go.Sx
section
open Go.ChangeShapes Go.WideShapes Go.Deep
variable {H:Type} {enc:TypeId×Value→H} {W:World} {base:Nat} {spare:Nat→Bool} {held:Bool}
theorem Oo{f:FuncId}{args:Array Value}{W:World}(h:Rd Tryz.prog f args (whole W) (· =.bool true)):
  Calls Tryz.prog f args W fun e W'=>e=.returned (.bool true)∧Go.RowKit.Below W.heap.size W W':=
 RF (h.mono fun _ _ ⟨h1,h2⟩=>⟨by rw[h1];exact .refl _,h2⟩)
theorem yf(W:World):((whole W).map Prod.fst).Nodup:=by
 have:=(u6 W).nd
 rwa [List.append_nil]at this
theorem Ho{l:List Int}(hb:∀x∈l,0≤x∧x≤255):iw (l.map Int.toNat)=l:=by
 unfold iw
 rw[List.map_map]
 conv=>rhs;rw[←List.map_id l]
 apply List.map_congr_left
 intro x hx
 have:=hb x hx
 show((x.toNat:Nat):Int)=x
 omega
theorem Mo{v:Value}{d:DataW H}{ps:List MemPlace}(h:DataW.Trod enc Tryz.prog W base spare held 87 v d ps)(hv:∃a n c,v=.slice a n c):
  ∃l:List Nat,cS .u8 (whole W) v (iw l)∧(∀x∈l,x<256)∧((∀n∈d.weights Tryz.prog 87,n≤reachBytes)→l.length≤140737488351232):=by
 obtain⟨fuel,hf⟩:=h
 have k3:Tryz.prog.cellsOf 5=1:=by kernel_rfl
 obtain⟨v',l,hcs,hi,hwf,hw⟩:=GQ Tryz.underlying87 Tryz.underlying5 k3 hf
 have BA:v'=v:=by
  obtain⟨a,n,c,rfl⟩:=hv
  simpa[Value.cells]using hcs.symm
 subst BA
 have hb:∀x∈l,0≤x∧x≤255:=fun x hx=>bounds_u8 (hwf x hx)
 refine⟨l.map Int.toNat,by rw[Ho hb];exact hi,fun x hx=>?_,fun aE=>?_⟩
 ·obtain⟨y,hy,rfl⟩:=List.mem_map.1 hx
  have:=hb y hy;omega
 rw[List.length_map]
 rcases hw with⟨h1,_⟩|⟨es,sp,h1,h2⟩
 ·subst h1;simp
 ·simp only at h1
  have:=aE ((es.length+sp.length)*Tryz.prog.bytesOf 5) (by rw[h1,DataW.weights,Tryz.underlying87];exact List.mem_cons_self ..)
  rw[show Tryz.prog.bytesOf 5=1 by kernel_rfl]at this
  have h3:reachBytes=140737488351232:=rfl
  omega
theorem Rr{fuel:Nat}{cs:List Value}{y:DataW H×List MemPlace}(hl:cs.length=6)(h:DataW.trod enc Tryz.prog W base spare held fuel 106 cs=some y):∃o:rW,cs=o.cells∧o.Ok:=by
 obtain⟨xs,n,_,_,_,hx,hf⟩:=DataW.trod_struct Tryz.underlying106 h
 match cs,hl with
 | [c0,c1,c2,c3,c4,c5],_=>
  have hx6:xs.length=6:=hx
  have k8:Tryz.prog.cellsOf 5=1:=by kernel_rfl
  have k64:Tryz.prog.cellsOf 50=1:=by kernel_rfl
  have g0:DataW.trod enc Tryz.prog W base spare held n 5 (List.take (Tryz.prog.cellsOf 5) [c0,c1,c2,c3,c4,c5])=xs[0]? :=hf 0 _ rfl
  have g1:DataW.trod enc Tryz.prog W base spare held n 5 (List.take (Tryz.prog.cellsOf 5) [c1,c2,c3,c4,c5])=xs[1]? :=hf 1 _ rfl
  have g2:DataW.trod enc Tryz.prog W base spare held n 5 (List.take (Tryz.prog.cellsOf 5) [c2,c3,c4,c5])=xs[2]? :=hf 2 _ rfl
  have g3:DataW.trod enc Tryz.prog W base spare held n 5 (List.take (Tryz.prog.cellsOf 5) [c3,c4,c5])=xs[3]? :=hf 3 _ rfl
  have g4:DataW.trod enc Tryz.prog W base spare held n 5 (List.take (Tryz.prog.cellsOf 5) [c4,c5])=xs[4]? :=hf 4 _ rfl
  have g5:DataW.trod enc Tryz.prog W base spare held n 50 (List.take (Tryz.prog.cellsOf 50) [c5])=xs[5]? :=hf 5 _ rfl
  rw[k8,List.getElem?_eq_getElem (by omega)]at g0 g1 g2 g3 g4
  rw[k64,List.getElem?_eq_getElem (by omega)]at g5
  simp only[List.take_succ_cons,List.take_zero]at g0 g1 g2 g3 g4 g5
  obtain⟨n0,e0,_,w0⟩:=DataW.trod_int Tryz.underlying5 g0
  obtain⟨n1,e1,_,w1⟩:=DataW.trod_int Tryz.underlying5 g1
  obtain⟨n2,e2,_,w2⟩:=DataW.trod_int Tryz.underlying5 g2
  obtain⟨n3,e3,_,w3⟩:=DataW.trod_int Tryz.underlying5 g3
  obtain⟨n4,e4,_,w4⟩:=DataW.trod_int Tryz.underlying5 g4
  obtain⟨n5,e5,_,w5⟩:=DataW.trod_int Tryz.underlying50 g5
  have b0:=bounds_u8 w0
  have b1:=bounds_u8 w1
  have b2:=bounds_u8 w2
  have b3:=bounds_u8 w3
  have b4:=bounds_u8 w4
  have b5:=bounds_u64 w5
  simp only[List.cons.injEq,and_true]at e0 e1 e2 e3 e4 e5
  refine⟨⟨n0.toNat,n1.toNat,n2.toNat,n3.toNat,n4.toNat,n5.toNat⟩,?_,⟨?_,?_,?_,?_,?_,?_⟩⟩
  ·have z0:((n0.toNat:Nat):Int)=n0:=by omega
   have z1:((n1.toNat:Nat):Int)=n1:=by omega
   have z2:((n2.toNat:Nat):Int)=n2:=by omega
   have z3:((n3.toNat:Nat):Int)=n3:=by omega
   have z4:((n4.toNat:Nat):Int)=n4:=by omega
   have z5:((n5.toNat:Nat):Int)=n5:=by omega
   unfold rW.cells
   simp only
   rw[e0,e1,e2,e3,e4,e5,z0,z1,z2,z3,z4,z5]
  all_goals simp only;omega
theorem Rs{v:Value}{d:DataW H}{ps:List MemPlace}(h:DataW.Trod enc Tryz.prog W base spare held 22 v d ps)(hv:∃a n c,v=.slice a n c):
  ∃ops:List rW,Sl 6 (whole W) v (ops.map rW.cells)∧(∀o∈ops,o.Ok)∧((∀n∈d.weights Tryz.prog 22,n≤reachBytes)→ops.length≤140737488351232):=by
 obtain⟨fuel,hf⟩:=h
 have k6:Tryz.prog.cellsOf 106=6:=by kernel_rfl
 obtain⟨v',rs,hcs,KZ,hw,hr⟩:=uV Tryz.underlying22 k6 (by decide) hf
 have BA:v'=v:=by
  obtain⟨a,n,c,rfl⟩:=hv
  simpa[Value.cells]using hcs.symm
 subst BA
 have hone:∀r∈rs,∃o:rW,r=o.cells∧o.Ok:=fun r hm=>by
  obtain⟨i,hi,e⟩:=List.mem_iff_getElem.1 hm
  obtain⟨f,y,_,_,hy,_⟩:=hr i r (by rw[List.getElem?_eq_getElem hi,e])
  exact Rr (KZ.1 r hm) hy
 have hex:∃ops:List rW,rs=ops.map rW.cells∧∀o∈ops,o.Ok:=by
  clear KZ hw hr hcs
  induction rs with
  |nil=>exact⟨[],rfl,by simp⟩
  |cons r rest ih=>
   obtain⟨l,h1,h2⟩:=ih fun r hm=>hone r (by simp[hm])
   obtain⟨o,h3,h4⟩:=hone r (by simp)
   exact⟨o::l,by simp[h1,h3],fun m hm=>by rcases List.mem_cons.1 hm with rfl|hm;exact h4;exact h2 m hm⟩
 obtain⟨ops,rfl,hok⟩:=hex
 refine⟨ops,KZ,hok,fun aE=>?_⟩
 rcases hw with⟨h1,_⟩|⟨es,sp,h1,h2⟩
 ·have:ops=[]:=by simpa using h1
  subst this;simp
 ·simp only at h1
  have:=aE ((es.length+sp.length)*Tryz.prog.bytesOf 106) (by rw[h1,DataW.weights,Tryz.underlying22];exact List.mem_cons_self ..)
  rw[show Tryz.prog.bytesOf 106=16 by kernel_rfl]at this
  have h3:reachBytes=140737488351232:=rfl
  rw[List.length_map]at h2
  omega
end
end Go.Proofs
namespace aC
def Rm.AB(m:Rm)(g:Nat)(ord:List Nat)(p:Nat)(dn:Bool):Nat→Nat→Nat→Nat→Nat×Nat×Nat
 |0,j,b,q=>(j,b,q)
 |k+1,j,b,q=>
  if m.fit (au ord (road p j)) (bif dn then j else j-1)=true then
   if(if m.size (au ord (road p (bif dn then j+1 else j-1)))<b then m.size (au ord (road p (bif dn then j+1 else j-1)))else b)*g<m.size (au ord (road p (bif dn then j+1 else j-1)))*100 then
    (bif dn then j+1 else j-1,if m.size (au ord (road p (bif dn then j+1 else j-1)))<b then m.size (au ord (road p (bif dn then j+1 else j-1)))else b,if m.size (au ord (road p (bif dn then j+1 else j-1)))<b then(bif dn then j+1 else j-1)else q)
   else m.AB g ord p dn k (bif dn then j+1 else j-1) (if m.size (au ord (road p (bif dn then j+1 else j-1)))<b then m.size (au ord (road p (bif dn then j+1 else j-1)))else b) (if m.size (au ord (road p (bif dn then j+1 else j-1)))<b then(bif dn then j+1 else j-1)else q)
  else(j,b,q)
def dst(x y:Nat):Nat:=(x-y)+(y-x)
def Rm.rest(m:Rm)(dn:Bool)(j:Nat):Nat:=bif dn then m.n-1-j else j
def Rm.uz(m:Rm)(g:Nat)(ord:List Nat)(p:Nat):Nat×Nat:=
 let dn:=decide (m.n-1-p≤p)
 let a:=m.AB g ord p dn (m.rest dn p) p (m.size ord) p
 let b:=m.AB g ord p (!dn) (m.rest (!dn) p) p a.2.1 a.2.2
 (b.2.2,dst a.1 p+dst a.1 p+dst b.1 p+if b.2.2≠a.2.2 then dst b.1 b.2.2 else dst b.1 p+dst p b.2.2)
def Rm.bZ(m:Rm)(g:Nat)(ord:List Nat):List Nat→List Nat×Nat
 | []=>([],0)
 |v::r=>let p:=ord.idxOf v;let a:=m.uz g ord p;let b:=m.bZ g (au ord (road p a.1)) r;(road p a.1++b.1,a.2+b.2)
structure Wm(m:Rm)(ord:List Nat)(p:Nat)(dn:Bool)(k j b q:Nat)(r:Nat×Nat×Nat):Prop where
 way:bif dn then j≤r.1∧r.1≤j+k else r.1≤j∧j≤r.1+k
 size:r.2.1=m.size (au ord (road p r.2.2))
 new:(r.2.1=b∧r.2.2=q)∨(r.2.1<b∧bif dn then j<r.2.2∧r.2.2≤r.1 else r.1≤r.2.2∧r.2.2<j)
 fit:∀i,(bif dn then j≤i∧i<r.1 else r.1<i∧i≤j)→m.fit (au ord (road p i)) (bif dn then i else i-1)=true
theorem Rm.sN(m:Rm)(g:Nat)(ord:List Nat)(p:Nat)(dn:Bool):∀k j b q,(dn=false→k≤j)→b=m.size (au ord (road p q))→Wm m ord p dn k j b q (m.AB g ord p dn k j b q)
 |0,j,b,q,hk,hb=>⟨by cases dn<;>simp[AB],hb,.inl ⟨rfl,rfl⟩,fun i hi=>by cases dn<;>simp[AB]at hi<;>omega⟩
 |k+1,j,b,q,hk,hb=>by
  rw[AB]
  by_cases hf:m.fit (au ord (road p j)) (bif dn then j else j-1)=true
  ·rw[if_pos hf]
   obtain⟨J,hJ⟩:∃J,J=bif dn then j+1 else j-1:=⟨_,rfl⟩
   rw[←hJ]
   obtain⟨s,hs⟩:∃s,s=m.size (au ord (road p J)):=⟨_,rfl⟩
   rw[←hs]
   obtain⟨B,hB⟩:∃B,B=if s<b then s else b:=⟨_,rfl⟩
   obtain⟨Q,hQ⟩:∃Q,Q=if s<b then J else q:=⟨_,rfl⟩
   rw[←hB,←hQ]
   have hbq:(B=b∧Q=q)∨(B<b∧Q=J):=by
    by_cases h:s<b
    ·rw[if_pos h]at hB hQ;exact .inr ⟨by omega,hQ⟩
    ·rw[if_neg h]at hB hQ;exact .inl ⟨hB,hQ⟩
   have hb':B=m.size (au ord (road p Q)):=by
    by_cases h:s<b
    ·rw[if_pos h]at hB hQ;rw[hB,hQ,hs]
    ·rw[if_neg h]at hB hQ;rw[hB,hQ,hb]
   clear hB hQ
   by_cases hg:B*g<s*100
   ·rw[if_pos hg]
    refine⟨?_,hb',?_,fun i hi=>?_⟩
    ·cases dn
     ·simp only[cond_false]at hJ⊢;have:=hk rfl;omega
     ·simp only[cond_true]at hJ⊢;omega
    ·cases dn
     ·simp only[cond_false]at hJ⊢;have:=hk rfl;omega
     ·simp only[cond_true]at hJ⊢;omega
    ·have:i=j:=by
      cases dn
      ·simp only[cond_false]at hi hJ;omega
      ·simp only[cond_true]at hi hJ;omega
     subst this;exact hf
   ·rw[if_neg hg]
    have ih:=m.sN g ord p dn k J B Q (fun h=>by subst h;have:=hk rfl;simp only[cond_false]at hJ;omega) hb'
    obtain⟨w1,w2,w3,w4⟩:=ih
    refine⟨?_,w2,?_,fun i hi=>?_⟩
    ·cases dn
     ·simp only[cond_false]at w1 hJ⊢;have:=hk rfl;omega
     ·simp only[cond_true]at w1 hJ⊢;omega
    ·cases dn
     ·simp only[cond_false]at w3 w1 hJ⊢
      have:=hk rfl
      omega
     ·simp only[cond_true]at w3 w1 hJ⊢
      omega
    ·by_cases e:i=j
     ·subst e;exact hf
     ·refine w4 i ?_
      cases dn
      ·simp only[cond_false]at hi hJ⊢;omega
      ·simp only[cond_true]at hi hJ⊢;omega
  ·rw[if_neg hf]
   exact⟨by cases dn<;>simp,hb,.inl ⟨rfl,rfl⟩,fun i hi=>by cases dn<;>simp at hi<;>omega⟩
structure Wi(m:Rm)(ord:List Nat)(p:Nat)(r:Nat×Nat):Prop where
 lt:r.1<m.n
 le:m.size (au ord (road p r.1))≤m.size ord
 stay:m.size (au ord (road p r.1))=m.size ord→r.1=p
 r8:r.2≤3*(m.n-1)
theorem Rm.Fz(m:Rm)(g:Nat){ord:List Nat}{p:Nat}(hp:p<m.n):Wi m ord p (m.uz g ord p):=by
 have ha:=m.sN g ord p (decide (m.n-1-p≤p)) (m.rest (decide (m.n-1-p≤p)) p) p (m.size ord) p (fun h=>by unfold Rm.rest;rw[h];exact Nat.le_refl _) (by rw[fW];rfl)
 unfold uz
 simp only
 generalize decide (m.n-1-p≤p)=dn at*
 generalize m.AB g ord p dn (m.rest dn p) p (m.size ord) p=a at*
 have hb:=m.sN g ord p (!dn) (m.rest (!dn) p) p a.2.1 a.2.2 (fun h=>by unfold Rm.rest;rw[h];exact Nat.le_refl _) ha.size
 generalize m.AB g ord p (!dn) (m.rest (!dn) p) p a.2.1 a.2.2=b at*
 obtain⟨a1,a2,a3,a4⟩:=ha
 obtain⟨b1,b2,b3,b4⟩:=hb
 unfold Rm.rest at a1 b1
 refine⟨?_,?_,fun h=>?_,?_⟩
 ·cases dn<;>simp only[cond_false,cond_true,Bool.not_false,Bool.not_true]at a1 b1 a3 b3<;>simp only<;>omega
 ·simp only;rw[←b2]
  cases dn<;>simp only[cond_false,cond_true,Bool.not_false,Bool.not_true]at a1 b1 a3 b3<;>omega
 ·simp only at h⊢;rw[←b2]at h
  cases dn<;>simp only[cond_false,cond_true,Bool.not_false,Bool.not_true]at a1 b1 a3 b3<;>omega
 ·unfold dst
  cases dn<;>simp only[cond_false,cond_true,Bool.not_false,Bool.not_true]at a1 b1 a3 b3<;>simp only<;>split<;>omega
end aC
namespace aC
section
variable {m:Rm} {g:Nat}
theorem NT{p q:Nat}(hp:p<m.n)(hq:q<m.n):∀x∈road p q,x+1<m.n:=fun x hx=>JZ hp hq hx
theorem KU{ord:List Nat}{v n:Nat}(hp:ord.Perm (List.range n))(hv:v<n):ord.idxOf v<n:=by
 have h1:v∈ord:=hp.mem_iff.2 (List.mem_range.2 hv)
 have h2:=List.idxOf_lt_length_of_mem h1
 rwa [hp.length_eq,List.length_range]at h2
theorem j5{ord path:List Nat}{n:Nat}(hp:ord.Perm (List.range n))(h:∀x∈path,x+1<n):(au ord path).Perm (List.range n):=
 (jr fun x hx=>by rw[hp.length_eq,List.length_range];exact h x hx).trans hp
structure SX(m:Rm)(g:Nat)(ord l:List Nat)(r:List Nat×Nat):Prop where
 mem:∀x∈r.1,x+1<m.n
 le:m.size (au ord r.1)≤m.size ord
 stay:m.size (au ord r.1)=m.size ord→r.1=[]∧∀v∈l,(m.uz g ord (ord.idxOf v)).1=ord.idxOf v
 r8:r.2≤3*(m.n-1)*l.length
 len:r.1.length≤m.n*l.length
theorem j8:∀{l ord:List Nat},ord.Perm (List.range m.n)→(∀v∈l,v<m.n)→SX m g ord l (m.bZ g ord l)
 | [],ord,hp,hl=>⟨by simp[Rm.bZ],Nat.le_refl _,fun _=>⟨rfl,by simp⟩,by simp[Rm.bZ],by simp[Rm.bZ]⟩
 |v::l,ord,hp,hl=>by
  have hv:=KU hp (hl v (by simp))
  have h1:=m.Fz g (ord:=ord) hv
  rw[Rm.bZ]
  generalize hq:ord.idxOf v=p at*
  generalize hr:m.uz g ord p=a at*
  obtain⟨a1,a2,a3,a4⟩:=h1
  have hin:=NT hv a1
  have h2:=j8 (l:=l) (ord:=au ord (road p a.1)) (j5 hp hin) (fun x hx=>hl x (by simp[hx]))
  generalize m.bZ g (au ord (road p a.1)) l=b at*
  obtain⟨b1,b2,b3,b4,b5⟩:=h2
  have pT:=yE p a.1
  refine⟨fun x hx=>?_,?_,fun h=>?_,?_,?_⟩
  ·rcases List.mem_append.1 hx with h|h
   ·exact hin x h
   ·exact b1 x h
  ·rw[bU];omega
  ·rw[bU]at h
   have e:=a3 (by omega)
   rw[e,fW]at b3 h⊢
   obtain⟨c1,c2⟩:=b3 h
   refine⟨by rw[c1];rfl,fun u hu=>?_⟩
   rcases List.mem_cons.1 hu with rfl|hu
   ·rw[hq,hr];exact e
   ·exact c2 u hu
  ·rw[List.length_cons,Nat.mul_add,Nat.mul_one]
   show a.2+b.2≤_
   omega
  ·rw[List.length_append,List.length_cons,Nat.mul_add,Nat.mul_one];omega
def Rm.cF(m:Rm)(g:Nat)(ord:List Nat):List (List Nat)→List Nat×Nat
 | []=>([],0)
 |l::r=>let a:=m.bZ g ord l;let b:=m.cF g (au ord a.1) r;(a.1++b.1,a.2+b.2)
def Rm.qU(m:Rm)(g:Nat)(ord:List Nat):List (List Nat)→Prop
 | []=>False
 | [l]=>¬m.size (au ord (m.bZ g ord l).1)<m.size ord
 |l::r=>m.size (au ord (m.bZ g ord l).1)<m.size ord∧m.qU g (au ord (m.bZ g ord l).1) r
theorem ow{ord l:List Nat}{r:List (List Nat)}(hr:r≠[]):m.qU g ord (l::r)↔m.size (au ord (m.bZ g ord l).1)<m.size ord∧m.qU g (au ord (m.bZ g ord l).1) r:=by
 cases r with
 |nil=>exact absurd rfl hr
 |cons a b=>exact Iff.rfl
structure SY(m:Rm)(g:Nat)(ord:List Nat)(ls:List (List Nat))(r:List Nat×Nat):Prop where
 mem:∀x∈r.1,x+1<m.n
 le:m.size (au ord r.1)≤m.size ord
 Ro:1≤ls.length∧ls.length+m.size (au ord r.1)≤m.size ord+1
 still:∀v,v<m.n→(m.uz g (au ord r.1) ((au ord r.1).idxOf v)).1=(au ord r.1).idxOf v
 r8:r.2≤3*(m.n-1)*m.n*ls.length
 len:r.1.length≤m.n*m.n*ls.length
theorem FA:∀{ls:List (List Nat)} {ord:List Nat},ord.Perm (List.range m.n)→(∀l∈ls,l.Perm (List.range m.n))→m.qU g ord ls→SY m g ord ls (m.cF g ord ls)
 | [],ord,hp,hl,hg=>hg.elim
 | [l],ord,hp,hl,hg=>by
  have OO:=hl l (by simp)
  have k7:l.length=m.n:=by rw[OO.length_eq,List.length_range]
  obtain⟨a1,a2,a3,a4,a5⟩:=j8 (g:=g) hp (fun v hv=>List.mem_range.1 (OO.mem_iff.1 hv)) (l:=l)
  have Qu:¬m.size (au ord (m.bZ g ord l).1)<m.size ord:=hg
  have h:m.cF g ord [l]=((m.bZ g ord l).1++[],(m.bZ g ord l).2+0):=rfl
  rw[h,List.append_nil,Nat.add_zero]
  have he:m.size (au ord (m.bZ g ord l).1)=m.size ord:=by omega
  obtain⟨c1,c2⟩:=a3 he
  refine⟨a1,a2,⟨by simp,by simp;omega⟩,fun v hv=>?_,by rw[k7]at a4;simpa using a4,by rw[k7]at a5;simpa using a5⟩
  rw[c1]
  exact c2 v (OO.mem_iff.2 (List.mem_range.2 hv))
 |l::l2::r,ord,hp,hl,hg=>by
  have OO:=hl l (by simp)
  have k7:l.length=m.n:=by rw[OO.length_eq,List.length_range]
  obtain⟨a1,a2,a3,a4,a5⟩:=j8 (g:=g) hp (fun v hv=>List.mem_range.1 (OO.mem_iff.1 hv)) (l:=l)
  obtain⟨g1,g2⟩:=(ow (by simp)).1 hg
  have ih:=FA (ls:=l2::r) (j5 hp a1) (fun x hx=>hl x (by simp[List.mem_cons.1 hx])) g2
  have h:m.cF g ord (l::l2::r)=((m.bZ g ord l).1++(m.cF g (au ord (m.bZ g ord l).1) (l2::r)).1,(m.bZ g ord l).2+(m.cF g (au ord (m.bZ g ord l).1) (l2::r)).2):=rfl
  rw[h]
  generalize m.bZ g ord l=a at*
  generalize m.cF g (au ord a.1) (l2::r)=b at*
  obtain⟨b1,b2,b3,b4,b5,b6⟩:=ih
  refine⟨fun x hx=>?_,by rw[bU];omega,⟨by simp,?_⟩,?_,?_,?_⟩
  ·rcases List.mem_append.1 hx with h|h
   ·exact a1 x h
   ·exact b1 x h
  ·rw[bU,List.length_cons];omega
  ·rw[bU];exact b4
  ·show a.2+b.2≤_
   rw[k7]at a4
   rw[List.length_cons,Nat.mul_add,Nat.mul_one];omega
  ·rw[k7]at a5
   rw[List.length_append,List.length_cons,Nat.mul_add,Nat.mul_one];omega
theorem uZ{v:Nat}:∀{l ord:List Nat},m.bZ g ord (l++[v])=((m.bZ g ord l).1++road ((au ord (m.bZ g ord l).1).idxOf v) (m.uz g (au ord (m.bZ g ord l).1) ((au ord (m.bZ g ord l).1).idxOf v)).1,(m.bZ g ord l).2+(m.uz g (au ord (m.bZ g ord l).1) ((au ord (m.bZ g ord l).1).idxOf v)).2)
 | [],ord=>by simp[Rm.bZ,au]
 |u::l,ord=>by
  rw[List.cons_append,Rm.bZ,Rm.bZ]
  simp only
  rw[uZ (l:=l)]
  simp only[bU,List.append_assoc,Nat.add_assoc]
theorem u3{l:List Nat}:∀{ls:List (List Nat)} {ord:List Nat},m.cF g ord (ls++[l])=((m.cF g ord ls).1++(m.bZ g (au ord (m.cF g ord ls).1) l).1,(m.cF g ord ls).2+(m.bZ g (au ord (m.cF g ord ls).1) l).2)
 | [],ord=>by simp[Rm.cF,au]
 |u::ls,ord=>by
  rw[List.cons_append,Rm.cF,Rm.cF]
  simp only
  rw[u3 (ls:=ls)]
  simp only[bU,List.append_assoc,Nat.add_assoc]
def Rm.qq(m:Rm)(g:Nat)(ord:List Nat):List (List Nat)→Prop
 | []=>True
 |l::r=>m.size (au ord (m.bZ g ord l).1)<m.size ord∧m.qq g (au ord (m.bZ g ord l).1) r
theorem qV{l:List Nat}:∀{ls:List (List Nat)} {ord:List Nat},m.qq g ord ls→m.size (au (au ord (m.cF g ord ls).1) (m.bZ g (au ord (m.cF g ord ls).1) l).1)<m.size (au ord (m.cF g ord ls).1)→m.qq g ord (ls++[l])
 | [],ord,_,h=>⟨h,trivial⟩
 |u::ls,ord,h1,h=>by
  refine⟨h1.1,qV (ls:=ls) h1.2 ?_⟩
  rw[Rm.cF]at h
  simp only[bU]at h
  exact h
theorem zJ{l:List Nat}:∀{ls:List (List Nat)} {ord:List Nat},m.qq g ord ls→¬m.size (au (au ord (m.cF g ord ls).1) (m.bZ g (au ord (m.cF g ord ls).1) l).1)<m.size (au ord (m.cF g ord ls).1)→m.qU g ord (ls++[l])
 | [],ord,_,h=>h
 |u::ls,ord,h1,h=>by
  rw[List.cons_append,ow (by simp)]
  refine⟨h1.1,zJ (ls:=ls) h1.2 ?_⟩
  rw[Rm.cF]at h
  simp only[bU]at h
  exact h
structure MS(m:Rm)(g:Nat)(ord:List Nat)(ls:List (List Nat))(r:List Nat×Nat):Prop where
 mem:∀x∈r.1,x+1<m.n
 le:ls.length+m.size (au ord r.1)≤m.size ord
 r8:r.2≤3*(m.n-1)*m.n*ls.length
 len:r.1.length≤m.n*m.n*ls.length
theorem vR:∀{ls:List (List Nat)} {ord:List Nat},ord.Perm (List.range m.n)→(∀l∈ls,l.Perm (List.range m.n))→m.qq g ord ls→MS m g ord ls (m.cF g ord ls)
 | [],ord,hp,hl,hg=>⟨by simp[Rm.cF],by simp[Rm.cF,au],by simp[Rm.cF],by simp[Rm.cF]⟩
 |l::r,ord,hp,hl,hg=>by
  have OO:=hl l (by simp)
  have k7:l.length=m.n:=by rw[OO.length_eq,List.length_range]
  obtain⟨a1,a2,a3,a4,a5⟩:=j8 (g:=g) hp (fun v hv=>List.mem_range.1 (OO.mem_iff.1 hv)) (l:=l)
  have ih:=vR (ls:=r) (j5 hp a1) (fun x hx=>hl x (by simp[hx])) hg.2
  have hg1:=hg.1
  rw[Rm.cF]
  generalize m.bZ g ord l=a at*
  generalize m.cF g (au ord a.1) r=b at*
  obtain⟨b1,b2,b3,b4⟩:=ih
  rw[k7]at a4 a5
  refine⟨fun x hx=>?_,by rw[bU,List.length_cons];omega,?_,?_⟩
  ·rcases List.mem_append.1 hx with h|h
   ·exact a1 x h
   ·exact b1 x h
  ·rw[List.length_cons,Nat.mul_add,Nat.mul_one]
   show a.2+b.2≤_
   omega
  ·rw[List.length_append,List.length_cons,Nat.mul_add,Nat.mul_one];omega
end
end aC
set_option maxRecDepth 100000
namespace Go.Proofs
open Go Go.Sx
open aC
def fS(kp a b q gr sw:Nat)(la:Int)(st:Value):Array Value:=#[ptr kp,.int .i64 (a:Int),.int .i64 (b:Int),.int .i64 (q:Int),.int .i64 (gr:Int),.int .i64 (sw:Int),.int .i64 la,st]
def eu(wp:Nat)(c:Array Value):Nat×Obj:=(wp,.cells c 175 (0,0))
def nW(bx wp:Nat):Nat×Obj:=(bx,.cells #[ptr wp] 172 (0,0))
def Tj(dn:Bool):Nat:=bif dn then 181 else 183
def x7(dn:Bool)(bx:Nat):Value:=.func (.func (Tj dn)) #[] #[ptr bx]
def Aw:Hp→Nat
 |(_,.cells c _ _)::_=>br c.toList 1
 |_=>0
section
variable {kp wp bx a b q gr sw p:Nat} {la:Int} {st:Value} {K:Kd} {S:Nat→aC.Fn} {ord o tr:List Nat} {C:Hp} {dn:Bool}
theorem JK{l a':Nat}{d:Int}(h:At kp K S ord tr C)(hl:l+1<K.n)(fo:tr.length<1099511627776)(hf:gV K S ord l)(ha:(a:Int)+d=(a':Int))(hb:a'<1024)(vH:sw<4611686018427387904):
  Fc Tryz.prog 182 #[ptr wp,.int .i64 (l:Int),.int .i64 d] (eu wp (fS kp a b q gr sw la st)::C) (fun v H=>v=.int .i64 0∧∃C',H=eu wp (fS kp a' b q gr (sw+1) la st)::C'∧At kp K S (iJ ord l) (tr++[l]) C'):=by
 refine aR fun g=>tX ?_
 refine Ld.n ?_
 refine ae.fq (xQ h hl fo hf) ?_
 rintro v C' ⟨rfl,h'⟩
 intro J6 h6
 refine aa.gA (Br.T ?_)
 refine Ld.n ?_
 refine aa.inc ?_
 refine Nil.ptr (ag.mk (St.one (c':=fS kp a b q gr (sw+1) la st) (by exact .head _) rfl (by simp[fS]) rfl ?_))
 refine Ld.n ?_
 refine aa.wo (c:=(a':Int)) ha (by omega) ?_
 refine Nil.ptr (ag.mk (St.one (c':=fS kp a' b q gr (sw+1) la st) (by exact .head _) rfl (by simp[fS]) rfl ?_))
 exact JE.mk (h6 _ fun gs=>aS.here ⟨rfl,C',rfl,h'⟩)
theorem PZ{l:Nat}{d:Int}(h:At kp K S ord tr C)(hl:l+1<K.n)(fo:tr.length<1099511627776)(hf:¬gV K S ord l):
  Rd Tryz.prog 182 #[ptr wp,.int .i64 (l:Int),.int .i64 d] (eu wp (fS kp a b q gr sw la st)::C) (· =.int .i64 9):=by
 refine aR fun g=>tX ?_
 refine Ld.n ?_
 refine ae.eq (oE h hl fo hf) ?_
 intro J6 h6
 refine aa.gA (Br.F ?_)
 exact JE.mk (h6 _ fun gs=>bN.mk (.refl _) rfl)
theorem pX(h:At kp K S ord tr C)(zu:1≤K.n):
  Fc Tryz.prog 110 #[ptr wp,.bool dn] (eu wp (fS kp a b q gr sw la st)::C) (fun v H=>v=.tuple #[]∧∃bx,H=eu wp (fS kp a b q gr sw (bif dn then((K.n-1:Nat):Int)else 0) (x7 dn bx))::nW bx wp::C):=by
 have hn:=h.oK
 refine aR fun g=>E6 ?_
 intro b1 _
 cases dn
 ·refine Br.no ?_
  refine Ld.q ?_
  refine Nil.ptr (ag.mk (St.one (c':=fS kp a b q gr sw 0 st) (by exact .tail (.head _)) rfl (by simp[fS]) rfl ?_))
  refine Ld.q ?_
  refine Nil.ptr (ag.mk (St.one (c':=fS kp a b q gr sw 0 (x7 false b1)) (by exact .tail (.head _)) rfl (by simp[fS]) rfl ?_))
  exact aS.mk .swap ⟨rfl,b1,rfl⟩
 ·refine Br.yes ?_
  refine DR.self ?_
  refine Ld.q ?_
  refine Ld.q ?_
  refine Ld.n ?_
  intro F
  refine ae.eq (kI h) ?_
  refine⟨.refl _,?_⟩
  refine aa.bE (b:=1) ?_
  refine Nil.ptr (ag.mk fun F=>?_)
  refine St.one (c':=fS kp a b q gr sw ((K.n-1:Nat):Int) st) (by exact .tail (.head _)) rfl (by simp[fS]) rfl ?_
  refine Ld.q ?_
  refine Nil.ptr (ag.mk (St.one (c':=fS kp a b q gr sw ((K.n-1:Nat):Int) (x7 true b1)) (by exact .tail (.head _)) rfl (by simp[fS]) rfl ?_))
  exact aS.mk .swap ⟨rfl,b1,rfl⟩
def mV(dn:Bool)(j:Nat):Nat:=bif dn then j+1 else j-1
def Rf(dn:Bool)(j:Nat):Nat:=bif dn then j else j-1
theorem JY{j:Nat}(hs:bif dn then p≤j else 0<j∧j≤p):road p (mV dn j)=road p j++[Rf dn j]:=by
 cases dn
 ·simp only[cond_false]at hs
  obtain⟨i,rfl⟩:∃i,j=i+1:=⟨j-1,by omega⟩
  exact p5 hs.2
 ·exact pZ hs
theorem yu{j:Nat}(h:At kp K S (au o (road p j)) (tr++road p j) C)(hp:p<K.n)(hs:bif dn then p≤j∧j+1<K.n else 0<j∧j≤p)(fo:(tr++road p j).length<1099511627776)(hf:gV K S (au o (road p j)) (Rf dn j))(vH:sw<4611686018427387904):
  Fc Tryz.prog (Tj dn) #[ptr bx] (eu wp (fS kp j b q gr sw la st)::nW bx wp::C) (fun v H=>v=.int .i64 0∧∃C',H=eu wp (fS kp (mV dn j) b q gr (sw+1) la st)::nW bx wp::C'∧At kp K S (au o (road p (mV dn j))) (tr++road p (mV dn j)) C'):=by
 have hn:=h.oK
 have hr:=JY (p:=p) (dn:=dn) (j:=j) (by cases dn<;>simp only[cond_false,cond_true]at hs⊢ <;>omega)
 intro g
 rw[hr,fw,←List.append_assoc]
 cases dn
 ·simp only[cond_false]at hs
  refine tW (R:=aS _) ?_
  unfold L183
  refine DR.self ?_
  refine Ld.q ?_
  refine Ld.q ?_
  refine Ld.n ?_
  refine aa.bE (b:=1) ?_
  intro F
  refine ae.pre .swap ?_
  refine ae.fn (.cons .here) (JK (a':=j-1) h (by omega) fo hf (by omega) (by omega) vH) ?_
  rintro v H ⟨rfl,C',rfl,h'⟩
  exact aS.mk .swap ⟨rfl,C',rfl,h'⟩
 ·simp only[cond_true]at hs
  refine tY (R:=aS _) ?_
  unfold L181
  refine DR.self ?_
  refine Ld.q ?_
  refine Ld.q ?_
  refine Ld.n ?_
  intro F
  refine ae.pre .swap ?_
  refine ae.fn (.cons .here) (JK (a':=j+1) h (by omega) fo hf (by omega) (by omega) vH) ?_
  rintro v H ⟨rfl,C',rfl,h'⟩
  exact aS.mk .swap ⟨rfl,C',rfl,h'⟩
theorem NJ{j:Nat}(h:At kp K S ord tr C)(hs:bif dn then j+1<K.n else 0<j∧j<K.n)(fo:tr.length<1099511627776)(hf:¬gV K S ord (Rf dn j)):
  Rd Tryz.prog (Tj dn) #[ptr bx] (eu wp (fS kp j b q gr sw la st)::nW bx wp::C) (· =.int .i64 9):=by
 have hn:=h.oK
 intro g
 cases dn
 ·simp only[cond_false]at hs
  refine tW (R:=aS _) ?_
  unfold L183
  refine DR.self ?_
  refine Ld.q ?_
  refine Ld.q ?_
  refine Ld.n ?_
  refine aa.bE (b:=1) ?_
  intro F
  refine ae.pre .swap ?_
  refine ae.eq (PZ h (by omega) fo hf) ?_
  exact bN.mk .swap rfl
 ·simp only[cond_true]at hs
  refine tY (R:=aS _) ?_
  unfold L181
  refine DR.self ?_
  refine Ld.q ?_
  refine Ld.q ?_
  refine Ld.n ?_
  intro F
  refine ae.pre .swap ?_
  refine ae.eq (PZ h (by omega) fo hf) ?_
  exact bN.mk .swap rfl
theorem yq(dn:Bool):bu Tryz.prog (Tj dn)=true:=by cases dn<;>kernel_rfl
theorem ob{n j:Nat}(hn:n≤64)(hp:p<n)(hj:j<n):(road p j).length≤64:=by rw[yE];omega
theorem JV(h0:At kp K S o tr C)(hp:p<K.n)(fc:100≤gr∧gr≤1000)(hb:b≤1048576)(vH:sw<1099511627776)(fo:tr.length<549755813888)(hla:la=bif dn then((K.n-1:Nat):Int)else 0){r:Nat×Nat×Nat}(hr:(rm K S).AB gr o p dn ((rm K S).rest dn p) p b q=r):
  Fc Tryz.prog 111 #[ptr wp] (eu wp (fS kp p b q gr sw la (x7 dn bx))::nW bx wp::C) (fun v H=>v=.tuple #[]∧∃C',H=eu wp (fS kp r.1 r.2.1 r.2.2 gr (sw+dst r.1 p) la (x7 dn bx))::nW bx wp::C'∧At kp K S (au o (road p r.1)) (tr++road p r.1) C'):=by
 have hn:=h0.oK
 refine aR fun g=>E5 ?_
 refine⟨fun vs H=>∃(k j b' q':Nat) (C':Hp),vs=[]∧H=eu wp (fS kp j b' q' gr (sw+dst j p) la (x7 dn bx))::nW bx wp::C'∧At kp K S (au o (road p j)) (tr++road p j) C'∧k=(rm K S).rest dn j∧(bif dn then p≤j∧j<K.n else j≤p)∧b'≤1048576∧(rm K S).AB gr o p dn k j b' q'=r,
  fun _ H=>bif dn then K.n-Aw H else Aw H,JE.mk ⟨_,p,b,q,C,rfl,by simp[dst],by rw[fW,List.append_nil];exact h0,rfl,by cases dn<;>simp[hp],hb,hr⟩,?_⟩
 rintro H ⟨k,j,b',q',C',_,rfl,hA,hk,hs,hb',rA⟩ gs
 have Nh:j<K.n:=by cases dn<;>simp only[cond_false,cond_true]at hs<;>omega
 have BL:dst j p≤64:=by unfold dst;omega
 have pT:=ob hn hp Nh
 have KW:(tr++road p j).length<1099511627776:=by rw[List.length_append];omega
 have vI:(rm K S).n=K.n:=rfl
 have hsz:∀o:List Nat,(rm K S).size o=cg K S o:=fun _=>rfl
 intro J5 h5
 have fin:r=(j,b',q')→J5 [.bool false] (eu wp (fS kp j b' q' gr (sw+dst j p) la (x7 dn bx))::nW bx wp::C'):=fun e=>h5 _ _ fun gs=>Br.no (aS.here ⟨rfl,C',by rw[e],by rw[e];exact hA⟩)
 refine DR.self ?_
 refine Ld.n ?_
 refine Ld.n ?_
 refine aa.cG (Br.dec (fun hne=>?_) (fun heq=>?_))
 rotate_left
 ·have Ng:k=0:=by
   rw[hk];unfold Rm.rest
   cases dn<;>simp only[cond_false,cond_true]at hla⊢ <;>omega
  subst Ng
  exact JE.mk (fin rA.symm)
 have l9:bif dn then j+1<K.n else 0<j:=by
  cases dn<;>simp only[cond_false,cond_true]at hla⊢ <;>omega
 obtain⟨k',hk'⟩:∃k',k=k'+1:=by
  refine⟨k-1,?_⟩
  rw[hk];unfold Rm.rest
  cases dn<;>simp only[cond_false,cond_true]at l9⊢ <;>omega
 subst hk'
 rw[Rm.AB]at rA
 change (if(rm K S).fit (au o (road p j)) (Rf dn j)=true then _ else _)=r at rA
 refine Ld.n ?_
 intro F
 refine bI.of (f:=Tj dn) rfl (yq dn) ?_
 by_cases hf:gV K S (au o (road p j)) (Rf dn j)
 rotate_left
 ·refine ae.eq (args:=#[ptr bx]) (NJ hA (by cases dn<;>simp only[cond_false,cond_true]at l9⊢ <;>omega) KW hf) ?_
  refine aa.gA (ay.mk ?_)
  rw[if_neg (fun h=>hf (oc.1 h))]at rA
  exact JE.mk (fin rA.symm)
 refine ae.fn (args:=#[ptr bx]) .here (yu hA hp (by cases dn<;>simp only[cond_false,cond_true]at l9 hs⊢ <;>omega) KW hf (by omega)) ?_
 rintro v H ⟨rfl,C2,rfl,jI⟩
 refine aa.gA (ay.mk ?_)
 rw[if_pos (show(rm K S).fit (au o (road p j)) (Rf dn j)=true from oc.2 hf)]at rA
 change (if(if(rm K S).size (au o (road p (mV dn j)))<b' then(rm K S).size (au o (road p (mV dn j)))else b')*gr<(rm K S).size (au o (road p (mV dn j)))*100 then(mV dn j,if(rm K S).size (au o (road p (mV dn j)))<b' then(rm K S).size (au o (road p (mV dn j)))else b',if(rm K S).size (au o (road p (mV dn j)))<b' then mV dn j else q')else(rm K S).AB gr o p dn k' (mV dn j) (if(rm K S).size (au o (road p (mV dn j)))<b' then(rm K S).size (au o (road p (mV dn j)))else b') (if(rm K S).size (au o (road p (mV dn j)))<b' then mV dn j else q'))=r at rA
 have hle:=iG jI
 rw[hsz]at rA
 have XX:sw+dst j p+1=sw+dst (mV dn j) p:=by unfold dst mV;cases dn<;>simp only[cond_false,cond_true]at l9 hs⊢ <;>omega
 rw[XX]
 have hnk:k'=(rm K S).rest dn (mV dn j):=by
  unfold Rm.rest at hk⊢;unfold mV
  cases dn<;>simp only[cond_false,cond_true]at l9 hk⊢ <;>omega
 have UW:bif dn then p≤mV dn j∧mV dn j<K.n else mV dn j≤p:=by
  unfold mV
  cases dn<;>simp only[cond_false,cond_true]at l9 hs⊢ <;>omega
 have WR:(bif dn then K.n-mV dn j else mV dn j)<(bif dn then K.n-j else j):=by
  unfold mV
  cases dn<;>simp only[cond_false,cond_true]at l9⊢ <;>omega
 generalize hj':mV dn j=j' at*
 generalize hs':cg K S (au o (road p j'))=s at*
 have UX:∀b2 q2,Aw (eu wp (fS kp j b' q' gr (sw+dst j p) la (x7 dn bx))::nW bx wp::C')=j∧∀C2,Aw (eu wp (fS kp j' b2 q2 gr (sw+dst j' p) la (x7 dn bx))::nW bx wp::C2)=j':=fun b2 q2=>⟨by simp[Aw,eu,fS,br],fun C2=>by simp[Aw,eu,fS,br]⟩
 refine JE.mk (h5 _ _ fun gs=>Br.yes ?_)
 refine Ld.n ?_
 refine ae.eq (cz jI) ?_
 rw[hs']
 intro J14 h14
 have next:∀b2 q2,b2≤1048576→(if b2*gr<s*100 then(j',b2,q2)else(rm K S).AB gr o p dn k' j' b2 q2)=r→J14 [] (eu wp (fS kp j' b2 q2 gr (sw+dst j' p) la (x7 dn bx))::nW bx wp::C2):=by
  intro b2 q2 Sw qQ
  refine h14 _ fun gs=>?_
  have zv:b2*gr≤1048576*1000:=Nat.mul_le_mul Sw fc.2
  refine aa.jx (b:=100) ?_
  refine Ld.n ?_
  refine Ld.n ?_
  refine aa.jx ?_
  refine aa.iU (Br.dec (fun hgt=>?_) (fun hgt=>?_))
  ·rw[if_pos hgt]at qQ
   subst qQ
   exact aS.here ⟨rfl,C2,rfl,jI⟩
  ·rw[if_neg hgt]at qQ
   refine aB.mk ⟨k',j',b2,q2,C2,rfl,rfl,jI,hnk,UW,Sw,qQ⟩ ?_
   rw[(UX b2 q2).1,(UX b2 q2).2]
   exact WR
 refine Ld.n ?_
 refine aa.dH (Br.dec (fun hlt=>?_) (fun hlt=>?_))
 ·rw[if_pos hlt,if_pos hlt]at rA
  refine Ld.n ?_
  refine Nil.ptr (ag.mk (St.one (c':=fS kp j' s q' gr (sw+dst j' p) la (x7 dn bx)) (by exact .head _) rfl (by simp[fS]) rfl ?_))
  refine Nil.ptr (ag.mk (St.one (c':=fS kp j' s j' gr (sw+dst j' p) la (x7 dn bx)) (by exact .head _) rfl (by simp[fS]) rfl ?_))
  exact JE.mk (next _ _ (by omega) rA)
 ·rw[if_neg hlt,if_neg hlt]at rA
  exact JE.mk (next _ _ hb' rA)
theorem wF{j t:Nat}(h:At kp K S (au o (road p j)) (tr++road p j) C)(rz:o.length=K.n)(hp:p<K.n)(hjt:(p≤t∧t≤j∧j<K.n)∨(j≤t∧t≤p))(vH:sw<1099511627776)(fo:tr.length<549755813888):
  Fc Tryz.prog 112 #[ptr wp,.int .i64 (t:Int)] (eu wp (fS kp j b q gr sw la st)::C) (fun v H=>v=.tuple #[]∧∃C',H=eu wp (fS kp t b q gr (sw+dst j t) la st)::C'∧At kp K S (au o (road p t)) (tr++road p t) C'):=by
 have hn:=h.oK
 refine aR fun g=>E4 ?_
 refine⟨fun vs H=>∃(i:Nat) (C':Hp),vs=[]∧H=eu wp (fS kp i b q gr (sw+dst j i) la st)::C'∧At kp K S (au o (road p i)) (tr++road p i) C'∧((p≤t∧t≤i∧i≤j∧j<K.n)∨(j≤i∧i≤t∧t≤p)),
  fun _ H=>dst (Aw H) t,JE.mk ⟨j,C,rfl,by simp[dst],h,by omega⟩,?_⟩
 rintro H ⟨i,C',_,rfl,hA,hs⟩ gs
 have hin:i<K.n:=by omega
 have hdi:dst j i≤64:=by unfold dst;omega
 have pT:=ob hn hp hin
 have Bz:∀i sw C',Aw (eu wp (fS kp i b q gr sw la st)::C')=i:=fun i sw C'=>by simp[Aw,eu,fS,br]
 refine Ld.n ?_
 refine aa.uk (Br.dec (fun hne=>?_) (fun heq=>?_))
 rotate_left
 ·obtain rfl:i=t:=by omega
  exact aS.here ⟨rfl,C',rfl,hA⟩
 refine Ld.n ?_
 rcases hs with hs|hs
 ·obtain⟨i,rfl⟩:∃i',i=i'+1:=⟨i-1,by omega⟩
  rw[pZ (by omega),fw,←List.append_assoc]at hA
  refine ae.fq (xP hA (by rw[pZ (by omega),List.length_append,List.length_singleton]at pT;rw[List.length_append];omega)) ?_
  rintro w C2 ⟨rfl,jI⟩
  rw[oS (by rw[eR,rz];omega)]at jI
  refine Ext.two ?_
  refine Ld.n ?_
  refine aa.inc ?_
  refine Nil.ptr (ag.mk (St.one (c':=fS kp (i+1) b q gr (sw+dst j (i+1)+1) la st) (by exact .head _) rfl (by simp[fS]) rfl ?_))
  refine Ld.n ?_
  refine aa.dH (Br.T ?_)
  refine Nil.ptr (ag.mk (St.one (c':=fS kp i b q gr (sw+dst j (i+1)+1) la st) (by exact .head _) rfl (by simp[fS]) rfl ?_))
  refine aB.mk ⟨i,C2,rfl,by rw[show sw+dst j (i+1)+1=sw+dst j i by unfold dst;omega];rfl,jI,by omega⟩ ?_
  show dst (Aw (eu wp (fS kp i b q gr (sw+dst j (i+1)+1) la st)::C2)) t<dst (Aw (eu wp (fS kp (i+1) b q gr (sw+dst j (i+1)) la st)::C')) t
  rw[Bz,Bz];unfold dst;omega
 ·rw[p5 (by omega),fw,←List.append_assoc]at hA
  refine ae.fq (xP hA (by rw[p5 (by omega),List.length_append,List.length_singleton]at pT;rw[List.length_append];omega)) ?_
  rintro w C2 ⟨rfl,jI⟩
  rw[oS (by rw[eR,rz];omega)]at jI
  refine Ext.two ?_
  refine Ld.n ?_
  refine aa.inc ?_
  refine Nil.ptr (ag.mk (St.one (c':=fS kp i b q gr (sw+dst j i+1) la st) (by exact .head _) rfl (by simp[fS]) rfl ?_))
  refine Ld.n ?_
  refine aa.dH (Br.F ?_)
  refine aa.inc ?_
  refine Nil.ptr (ag.mk (St.one (c':=fS kp (i+1) b q gr (sw+dst j i+1) la st) (by exact .head _) rfl (by simp[fS]) rfl ?_))
  refine aB.mk ⟨i+1,C2,rfl,by rw[show sw+dst j i+1=sw+dst j (i+1)by unfold dst;omega];rfl,jI,by omega⟩ ?_
  show dst (Aw (eu wp (fS kp (i+1) b q gr (sw+dst j i+1) la st)::C2)) t<dst (Aw (eu wp (fS kp i b q gr (sw+dst j i) la st)::C')) t
  rw[Bz,Bz];unfold dst;omega
end
end Go.Proofs
set_option maxRecDepth 100000
namespace Go.Proofs
open Go Go.Sx
open aC
section
variable {kp v gr:Nat} {K:Kd} {S:Nat→aC.Fn} {ord tr:List Nat} {C:Hp}
theorem n6(kp:Nat){gr:Int}(C:Hp):Rd Tryz.prog 109 #[ptr kp,.int .i64 gr] C (· =.int .i64 (if gr<100∨1000<gr then 1 else 0)):=by
 refine aR fun g=>E7 ?_
 refine aa.aD (Br.no ?_)
 refine aa.lss ?_
 refine df.or (decide (1000<gr)) (fun _=>aa.gtr ⟨rfl,rfl⟩) rfl fun gs=>?_
 by_cases h:gr<100∨1000<gr
 ·rw[if_pos h]
  refine Br.TY ?_ (bN.mk (.refl _) rfl)
  simpa using h
 ·rw[if_neg h]
  refine Br.Xx ?_ (bN.mk (.refl _) rfl)
  simpa using h
theorem Rk(hp:ord.Perm (List.range K.n)){p:Nat}(M9:p<K.n)(hv:ord.getD p 0=v):ord.idxOf v=p:=by
 have rz:ord.length=K.n:=by rw[hp.length_eq,List.length_range]
 have gE:ord.Nodup:=hp.nodup_iff.2 List.nodup_range
 have hm:v∈ord:=by
  rw[←hv,List.getD_eq_getElem?_getD,List.getElem?_eq_getElem (by omega)];exact List.getElem_mem _
 have h1:=List.idxOf_lt_length_of_mem hm
 refine getD_inj gE h1 (by omega) ?_
 rw[hv,List.getD_eq_getElem?_getD,List.getElem?_eq_getElem h1]
 exact List.getElem_idxOf h1
theorem NM(h:At kp K S ord tr C)(hp:ord.Perm (List.range K.n))(hv:v<K.n)(fc:100≤gr∧gr≤1000)(fo:tr.length<549755813888){r:Nat×Nat}(hr:(rm K S).uz gr ord (ord.idxOf v)=r):
  Fc Tryz.prog 45 #[ptr kp,.int .i64 (v:Int),.int .i64 (gr:Int)] C (fun w H=>w=.tuple #[rep (cg K S ord) (cg K S (au ord (road (ord.idxOf v) r.1))) r.2,.int .i64 0]∧At kp K S (au ord (road (ord.idxOf v) r.1)) (tr++road (ord.idxOf v) r.1) H):=by
 have hn:=h.oK
 have rz:ord.length=K.n:=by rw[hp.length_eq,List.length_range]
 have hsz:=iG h
 have vI:(rm K S).n=K.n:=rfl
 refine aR fun g=>IS ?_
 intro b1 _
 refine ae.eq (n6 kp (gr:=(gr:Int)) C) ?_
 rw[if_neg (by omega)]
 refine aa.cG (Br.F ?_)
 refine ae.rq (MD h hv) ?_
 rintro w ⟨p,M9,R1,rfl⟩
 have R3:=Rk hp M9 R1
 rw[R3]at hr⊢
 have adA:p<(rm K S).n:=M9
 refine Ext.two ?_
 refine aa.cG (Br.F ?_)
 refine ae.eq (cz h) ?_
 refine Build.mk (cs:=[.int .i64 ((cg K S ord:Nat):Int),.int .i64 0,.int .i64 0,.bool false]) (by kernel_rfl) ?_
 intro b20 _
 refine St.q ?_
 refine Ld.f ?_
 refine Build.mk (cs:=[ptr kp,.int .i64 (p:Int),.int .i64 ((cg K S ord:Nat):Int),.int .i64 (p:Int),.int .i64 (gr:Int),.int .i64 0,.int .i64 0,.nilFunc]) (by kernel_rfl) ?_
 intro wp _
 refine ae.eq (kI h) ?_
 refine aa.bE (b:=1) ?_
 refine aa.bE ?_
 refine aa.y4 ?_
 obtain⟨X,hX⟩:∃X:Hp,X=[(b20,Obj.cells (List.toArray [.int .i64 ((cg K S ord:Nat):Int),.int .i64 0,.int .i64 0,.bool false]) 42 (0,0)),(b1,Obj.cells #[.int .i64 0,.int .i64 0,.int .i64 0,.bool false] 42 (0,0))]:=⟨_,rfl⟩
 unfold Rm.uz at hr
 simp only[vI]at hr
 rw[show(rm K S).size ord=cg K S ord from rfl]at hr
 generalize hdn:decide (K.n-1-p≤p)=dn at*
 have Zs:∀x:Nat×Obj,aM (x::(b20,Obj.cells (List.toArray [.int .i64 ((cg K S ord:Nat):Int),.int .i64 0,.int .i64 0,.bool false]) 42 (0,0))::(b1,Obj.cells #[.int .i64 0,.int .i64 0,.int .i64 0,.bool false] 42 (0,0))::C) (X++(x::C)):=fun x=>.perm (by rw[hX];exact(List.perm_middle (l₁:=[_,_])).symm)
 refine ae.pre (Zs _) ?_
 refine ae.fq (pX (wp:=wp) (a:=p) (b:=cg K S ord) (q:=p) (gr:=gr) (sw:=0) (la:=0) (st:=.nilFunc) (dn:=dn) h (by omega)) ?_
 rintro w H ⟨rfl,bx,rfl⟩
 refine ae.fn (.app .here) (JV h M9 fc (by omega) (by omega) fo rfl rfl) ?_
 rintro w H ⟨rfl,C1,rfl,Nl⟩
 have AE:=(rm K S).sN gr ord p dn ((rm K S).rest dn p) p (cg K S ord) p (fun h=>by unfold Rm.rest;rw[h];exact Nat.le_refl _) (by rw[fW];rfl)
 generalize (rm K S).AB gr ord p dn ((rm K S).rest dn p) p (cg K S ord) p=a at*
 have qQ:=(rm K S).sN gr ord p (!dn) ((rm K S).rest (!dn) p) p a.2.1 a.2.2 (fun h=>by unfold Rm.rest;rw[h];exact Nat.le_refl _) AE.size
 obtain⟨a1,a2,a3,a4⟩:=AE
 unfold Rm.rest at a1
 rw[vI]at a1
 have BM:a.1<K.n∧((p≤a.1)∨(a.1≤p)):=by cases dn<;>simp only[cond_false,cond_true]at a1<;>omega
 have hab:a.2.1≤1048576:=by
  have:a.2.1≤cg K S ord:=by omega
  omega
 have Ly:dst a.1 p≤64:=by unfold dst;omega
 refine ae.pre (aM.cQ (.cons .tail) X) ?_
 refine ae.fn (.app .here) (wF (t:=p) Nl rz M9 (by omega) (by omega) fo) ?_
 rintro w H ⟨rfl,C2,rfl,jI⟩
 rw[fW,List.append_nil]at jI
 have jI:At kp K S ord tr C2:=jI
 refine Ld.n ?_
 refine Un.not ?_
 refine ae.fq (pX (dn:= !dn) jI (by omega)) ?_
 rintro w H ⟨rfl,bx2,rfl⟩
 refine ae.fn (.app .here) (JV jI M9 fc hab (by omega) fo rfl rfl) ?_
 rintro w H ⟨rfl,C3,rfl,AK⟩
 generalize (rm K S).AB gr ord p (!dn) ((rm K S).rest (!dn) p) p a.2.1 a.2.2=b at*
 obtain⟨e1,e2,e3,e4⟩:=qQ
 unfold Rm.rest at e1
 rw[vI]at e1
 have qP:bif dn then p≤a.2.2∧a.2.2≤a.1 else a.1≤a.2.2∧a.2.2≤p:=by
  cases dn<;>simp only[cond_false,cond_true]at a3 a1⊢ <;>omega
 have WX:b.1<K.n∧((p≤b.1)∨(b.1≤p)):=by cases dn<;>simp only[cond_false,cond_true,Bool.not_false,Bool.not_true]at e1<;>omega
 have vM:dst b.1 p≤64:=by unfold dst;omega
 intro J47 h47
 have fin:∀(bb:Nat) (Bp:Int) (Xr:Value) (Cf:Hp),At kp K S (au ord (road p r.1)) (tr++road p r.1) Cf→J47 [] (X++(eu wp (fS kp r.1 bb r.1 gr r.2 Bp Xr)::Cf)):=by
  intro bb Bp Xr Cf hAf
  rw[hX]
  refine h47 _ fun gs=>?_
  refine DR.of (R:=[eu wp (fS kp r.1 bb r.1 gr r.2 Bp Xr)]) (aM.Of (.tail _ (.tail _ (.head _)))) ?_
  refine Ld.n ?_
  intro F
  refine ae.eq (cz hAf) ?_
  refine⟨aM.Of (.tail _ (.tail _ (.head _))),?_⟩
  refine ag.mk fun F=>?_
  refine St.one (c':=#[.int .i64 ((cg K S ord:Nat):Int),.int .i64 ((cg K S (au ord (road p r.1)):Nat):Int),.int .i64 0,.bool false]) (by exact .head _) rfl (by simp) rfl ?_
  refine⟨aM.Of (.tail _ (.tail _ (.head _))),?_⟩
  refine ag.mk fun F=>?_
  refine St.one (c':=#[.int .i64 ((cg K S ord:Nat):Int),.int .i64 ((cg K S (au ord (road p r.1)):Nat):Int),.int .i64 ((r.2:Nat):Int),.bool false]) (by exact .head _) rfl (by simp) rfl ?_
  refine av.q ?_
  refine St.q ?_
  refine av.q ?_
  exact aS.mk (.skip (.skip .tail)) ⟨rfl,hAf⟩
 refine Ld.n ?_
 refine aa.uk (Br.dec (fun hne=>?_) (fun heq=>?_))
 ·-- the other way is better
  rw[if_pos hne]at hr
  refine Ld.n ?_
  refine ae.pre (aM.cQ (.cons .tail) X) ?_
  have hbt:(p≤b.2.2∧b.2.2≤b.1∧b.1<K.n)∨(b.1≤b.2.2∧b.2.2≤p):=by
   cases dn<;>simp only[cond_false,cond_true,Bool.not_false,Bool.not_true]at e3 e1<;>omega
  refine ae.fn (.app .here) (wF (t:=b.2.2) AK rz M9 hbt (by omega) fo) ?_
  rintro w H ⟨rfl,C4,rfl,SL⟩
  subst hr
  refine JE.mk ?_
  rw[Nat.zero_add]
  exact fin b.2.1 _ _ C4 SL
 ·-- back again
  have heq:b.2.2=a.2.2:=Classical.not_not.1 heq
  rw[if_neg (fun h=>h heq)]at hr
  refine ae.pre (aM.cQ (.cons .tail) X) ?_
  refine ae.fn (.app .here) (wF (t:=p) AK rz M9 (by omega) (by omega) fo) ?_
  rintro w H ⟨rfl,C4,rfl,SL⟩
  rw[fW,List.append_nil]at SL
  have SL:At kp K S ord tr C4:=SL
  refine ae.fq (pX (dn:=dn) SL (by omega)) ?_
  rintro w H ⟨rfl,Mp,rfl⟩
  obtain⟨s3,hs3⟩:∃s3,s3=0+dst a.1 p+dst a.1 p+dst b.1 p+dst b.1 p:=⟨_,rfl⟩
  rw[←hs3]
  obtain⟨Qc,Ym⟩:∃Qc,Qc=(bif dn then((K.n-1:Nat):Int)else 0):=⟨_,rfl⟩
  rw[←Ym]
  refine⟨fun vs H=>∃(i:Nat) (C':Hp),vs=[]∧H=eu wp (fS kp i b.2.1 b.2.2 gr (s3+dst p i) Qc (x7 dn Mp))::nW Mp wp::(X++C')∧At kp K S (au ord (road p i)) (tr++road p i) C'∧(bif dn then p≤i∧i≤b.2.2 else b.2.2≤i∧i≤p),
   fun _ H=>dst (Aw H) b.2.2,JE.of (H':=eu wp (fS kp p b.2.1 b.2.2 gr s3 Qc (x7 dn Mp))::nW Mp wp::(X++C4)) (.perm ?_) ⟨p,C4,rfl,by simp[dst],by rw[fW,List.append_nil];exact SL,?_⟩,?_⟩
  ·exact(List.perm_middle (l₁:=X)).trans (List.Perm.cons _ List.perm_middle)
  ·rw[heq]
   cases dn<;>simp only[cond_false,cond_true]at qP⊢ <;>omega
  rintro H ⟨i,C5,_,rfl,hA5,hi⟩ gs
  rw[heq]at hi
  have hin:i<K.n:=by cases dn<;>simp only[cond_false,cond_true]at hi qP<;>omega
  have hdi:dst p i≤64:=by unfold dst;omega
  have pT:=ob hn M9 hin
  intro J83 h83
  refine DR.self ?_
  refine Ld.n ?_
  refine Ld.n ?_
  refine aa.uk (Br.dec (fun hne=>?_) (fun Tx=>?_))
  ·refine Ld.n ?_
   intro F
   refine bI.of (f:=Tj dn) rfl (yq dn) ?_
   have K8:aM (eu wp (fS kp i b.2.1 b.2.2 gr (s3+dst p i) Qc (x7 dn Mp))::nW Mp wp::(X++C5)) (X++(eu wp (fS kp i b.2.1 b.2.2 gr (s3+dst p i) Qc (x7 dn Mp))::nW Mp wp::C5)):=
    .perm ((List.perm_middle (l₁:=X)).trans (List.Perm.cons _ List.perm_middle)).symm
   refine ae.pre K8 ?_
   have hstep:bif dn then p≤i∧i+1<K.n else 0<i∧i≤p:=by
    rw[heq]at hne
    cases dn<;>simp only[cond_false,cond_true]at hi qP⊢ <;>omega
   have hfit:gV K S (au ord (road p i)) (Rf dn i):=by
    refine oc.1 (a4 i ?_)
    rw[heq]at hne
    cases dn<;>simp only[cond_false,cond_true]at hi qP⊢ <;>omega
   refine ae.fn (args:=#[ptr Mp]) (.app .here) (yu hA5 M9 hstep (by rw[List.length_append];omega) hfit (by omega)) ?_
   rintro w H ⟨rfl,C6,rfl,hA6⟩
   refine aa.gA (ay.mk ?_)
   have hnx:s3+dst p i+1=s3+dst p (mV dn i):=by unfold dst mV;cases dn<;>simp only[cond_false,cond_true]at hstep⊢ <;>omega
   rw[hnx]
   refine JE.of (.perm ((List.perm_middle (l₁:=X)).trans (List.Perm.cons _ List.perm_middle))) (h83 _ _ fun gs=>Br.yes ?_)
   refine aB.mk ⟨mV dn i,C6,rfl,rfl,hA6,?_⟩ ?_
   ·rw[heq]at hne⊢
    unfold mV
    cases dn<;>simp only[cond_false,cond_true]at hi hstep⊢ <;>omega
   ·have Bz:∀i sw C',Aw (eu wp (fS kp i b.2.1 b.2.2 gr sw Qc (x7 dn Mp))::C')=i:=fun i sw C'=>by simp[Aw,eu,fS,br]
    rw[Bz,Bz,heq]
    rw[heq]at hne
    unfold mV dst
    cases dn<;>simp only[cond_false,cond_true]at hi hstep⊢ <;>omega
  ·have Tx:i=b.2.2:=Classical.not_not.1 Tx
   subst Tx
   subst hr
   refine JE.mk (h83 _ _ fun gs=>Br.no ?_)
   refine JE.of ?_ (fin b.2.1 Qc (x7 dn Mp) C5 hA5)
   refine(aM.cons .tail).trans ?_
   refine(aM.perm (List.perm_middle (l₁:=X)).symm).trans ?_
   have e:s3+dst p b.2.2=dst a.1 p+dst a.1 p+dst b.1 p+(dst b.1 p+dst p b.2.2):=by omega
   rw[e]
   exact .refl _
end
end Go.Proofs
set_option maxRecDepth 100000
namespace Go.Proofs
open Go Go.Sx
theorem JS{n A:Nat}{L:List (List Nat)}(hn:n≤16)(hl:L.length<33554432){k:Nat}(hk:k≤n):(aj.st n L A k).length<2199023255551:=by
 have h2:=aj.pY n L A k
 have h3:2^k≤2^16:=Nat.pow_le_pow_right (by decide) (by omega)
 have h4:2^k*L.length≤2^16*L.length:=Nat.mul_le_mul_right _ h3
 omega
theorem L8{B:Hp}{v1 v2:Value}{a b:List Nat}(h1:Words B v1 a)(h2:Words B v2 b)(bH:a.length<2^62):Rd Tryz.prog 222 #[v1,v2] B (· =.bool (decide (a=b))):=by
 refine aR fun g=>DL ?_
 refine h1.1.bc (h2.1.bc ?_)
 simp only[ai]
 refine aa.uk (Br.dec (fun h=>?_) (fun h=>?_))
 ·exact bN.mk (.refl _) (by rw[decide_eq_false (fun e=>h (by rw[e]))])
 ·refine h1.1.bc ?_
  simp only[ai]
  have hlen:a.length=b.length:=by omega
  refine⟨fun vs H=>H=B∧∃j:Nat,vs=[.int .i64 (j:Int)]∧j≤a.length∧∀i,i<j→a[i]? =b[i]?,fun vs _=>a.length-br vs 0,JE.mk ⟨rfl,0,rfl,by omega,by omega⟩,?_⟩
  rintro w H ⟨rfl,j,⟨⟩,hj,aE⟩ gs
  refine aa.dH (Br.dec (fun hlt=>?_) (fun hlt=>?_))
  ·have ga:a[j]? =some a[j]:=List.getElem?_eq_getElem hlt
   have gb:b[j]? =some b[j]:=List.getElem?_eq_getElem (by omega)
   refine h1.1.ld (bV ga) (fun _ h=>h) ?_
   refine h2.1.ld (bV gb) (fun _ h=>h) ?_
   refine aa.uk (Br.dec (fun hne=>?_) (fun hne=>?_))
   ·exact bN.mk (.refl _) (by rw[decide_eq_false];rintro rfl;exact hne rfl)
   ·refine aa.inc ?_
    refine aB.mk ⟨rfl,j+1,rfl,by omega,fun i hi=>?_⟩ (by simp[br];omega)
    by_cases e:i=j
    ·subst e;rw[ga,gb];simp;omega
    ·exact aE i (by omega)
  ·refine bN.mk (.refl _) ?_
   rw[decide_eq_true]
   apply List.ext_getElem? 
   intro i
   by_cases hi:i<a.length
   ·exact aE i (by omega)
   ·rw[List.getElem?_eq_none (by omega),List.getElem?_eq_none (by omega)]
theorem KA{B:Hp}{v:Value}{n u A:Nat}{L:List (List Nat)}(ht:dZ B v (L.map fun ws=>⟨n,ws⟩))(hf:∀ws∈L,aj.dh n ws)(hne:L≠[])(bH:L.length<4398046511104)(hA:A<2^n)(hu:u<n)(hAu:A.testBit u=false):
  Rd Tryz.prog 157 #[v,.int .u64 (A:Int),.int .i64 (u:Int)] B (· =.tuple #[.int .i64 ((aj.lvl n L A u:Nat):Int),.int .i64 0]):=by
 obtain⟨w0,Jc⟩:∃w0,L[0]? =some w0:=⟨_,List.getElem?_eq_getElem (List.length_pos_iff.2 hne)⟩
 have nv:n≤16:=(hf w0 (List.mem_of_getElem? Jc)).qd
 have aee:A<65536:=Nat.lt_of_lt_of_le hA (Nat.pow_le_pow_right (n:=2) (by decide) nv)
 refine aR fun g=>Ew ?_
 refine ae.eq (oa ht (by simp;omega)) ?_
 rw[decide_eq_true (sF hf)]
 refine Un.not (Br.no ?_)
 intro J hJ
 refine ht.bc ?_
 rw[List.length_map]
 have hpos:0<L.length:=List.length_pos_iff.2 hne
 refine aa.iU (b:=0) (Br.SP hpos ?_)
 refine ht.Tn (i:=0) (t:=⟨n,w0⟩) (by rw[List.getElem?_map,Jc];rfl) (fun _ h=>h) ?_
 refine JE.mk (hJ _ _ fun gs=>?_)
 simp only
 refine aa.lss (df.or (decide (n≤u)) (fun _=>?_) rfl fun gs=>?_)
 ·exact aa.qT ⟨by trivial,rfl⟩
 rw[show(decide ((u:Int)<0)||decide (n≤u))=false by simp;omega]
 refine df.or (decide (A>>>n≠0)) (fun _=>?_) rfl fun gs=>?_
 ·refine aa.j7 (by simp[bA];omega) ?_
  exact aa.uk (b:=0) ⟨by trivial,rfl⟩
 rw[show(false||decide (A>>>n≠0))=false by rw[Nat.shiftRight_eq_div_pow,Nat.div_eq_of_lt hA];rfl]
 refine Br.no ?_
 have UG:∀k,A>>>k<18446744073709551616:=fun k=>Nat.lt_of_le_of_lt (Nat.shiftRight_le _ _) (by omega)
 refine aa.j7 (by simp[bA];omega) (aa.iL (b:=1) (by simpa[bA]using UG u) (by decide) (aa.cE (b:=1) ?_))
 refine Br.Md (by rw[aj.xO,hAu];simp) ?_
 refine ae.fq (u7 ht rfl hf (by omega)) ?_
 rintro r H ⟨b,es,ck,m,N,rfl,rfl,hE,hm⟩
 have hbound:∀k,k≤n→∀m:List (List UInt8×List Nat),(m.map Prod.snd).Nodup→(∀x,x∈m.map Prod.snd↔x∈aj.st n L A k)→m.length<4611686018427387904:=by
  intro k hk m gE hmem
  have h1:=(aj.ew gE (aj.lB n L A k) hmem).length_eq
  have h2:=aj.pY n L A k
  have h3:2^k≤2^16:=Nat.pow_le_pow_right (by decide) (by omega)
  have h4:2^k*L.length≤2^16*L.length:=Nat.mul_le_mul_right _ h3
  rw[List.length_map]at h1
  omega
 refine⟨fun vs H=>∃(k:Nat) (b:Nat) (es:Array MapEntry) (ck:Nat) (m:List (List UInt8×List Nat)) (N:Hp),vs=[.map (some b),.int .i64 (k:Int)]∧k≤n∧H=(b,.map es ck)::(N++B)∧eZ n (N++B) es ck m∧∀x,x∈m.map Prod.snd↔x∈aj.st n L A k,
  fun vs _=>n-br vs 1,JE.mk ⟨0,b,es,ck,m,N,rfl,by omega,rfl,hE,fun x=>by rw[hm];exact aj.dU.symm⟩,?_⟩
 clear hm hE
 rintro TZ w26 H ⟨k,b,es,ck,m,N,⟨⟩,hk,rfl,hE,hm⟩ gs
 have vP:=hE.mono (B':=(b,Obj.map es ck)::(N++B)) zS
 refine aa.dH (Br.dec (fun hlt=>?_) (fun hlt=>?_))
 ·intro J hJ
  refine aa.j7 (by simp[bA];omega) (aa.iL (b:=1) (by simpa[bA]using UG k) (by decide) (aa.cE (b:=1) ?_))
  refine Br.dec (fun h=>?_) (fun h=>?_)
  ·have hb:=(aj.xO A k).1 h
   refine ae.fq (tg (.head _) vP hlt (hbound k hk m hE.nodup hm)) ?_
   rintro r H ⟨b',es',ca,m',N',rfl,rfl,zB,hm'⟩
   refine Ext.mk rfl (Ext.mk rfl (JE.mk (hJ _ _ fun gs=>?_)))
   refine aa.inc ?_
   refine aB.mk ⟨k+1,b',es',ca,m',N'++(b,.map es ck)::N,rfl,by omega,by rw[List.append_assoc];rfl,by rw[List.append_assoc];exact zB,fun x=>?_⟩ (by simp[br];omega)
   rw[hm',aj.st,if_pos hb,aj.bL]
   constructor
   ·rintro⟨t,h1,h2⟩;exact⟨t,(hm t).1 h1,h2⟩
   ·rintro⟨t,h1,h2⟩;exact⟨t,(hm t).2 h1,h2⟩
  ·have hb:A.testBit k=false:=by cases hh:A.testBit k;rfl;exact absurd ((aj.xO A k).2 hh) h
   refine JE.mk (hJ _ _ fun gs=>?_)
   refine aa.inc ?_
   refine aB.mk ⟨k+1,b,es,ck,m,N,rfl,by omega,rfl,hE,fun x=>?_⟩ (by simp[br];omega)
   rw[hm,aj.st,hb];simp
 ·have:k=n:=by omega
  subst this
  refine ae.fq (tg (.head _) vP hu (hbound k hk m hE.nodup hm)) ?_
  rintro r H ⟨b',es',ca,m',N',rfl,rfl,zB,hm'⟩
  refine Ext.mk rfl (Ext.mk rfl ?_)
  refine bN.mk ?_ ?_
  ·exact .skip (.eG (.skip .right))
  ·have:=aj.iz (n:=k) (v:=u) (aj.ew hE.nodup (aj.lB k L A k) hm)
   unfold aj.lvl;rw[←this];rfl
theorem r9{B:Hp}{v:Value}{t:Tb}(ht:AO B v t):Rd Tryz.prog 156 #[v] B (· =.tuple (if TF t then#[.int .u64 ((aj.nX t.n.toNat t.ws:Nat):Int),.int .i64 0]else#[.int .u64 0,.int .i64 5])):=by
 obtain⟨tn,ws⟩:=t
 obtain⟨s,rfl,hw⟩:=ht
 simp only at hw⊢
 refine aR fun g=>Ex ?_
 intro b1 _
 refine av.q ?_
 refine jO fun b2=>?_
 refine ae.rd .here (oA (t:=⟨tn,ws⟩) (by exact .head _) (hw.mono zS)) ?_
 rintro v rfl
 refine Un.not ?_
 by_cases hT:TF ⟨tn,ws⟩
 case neg=>
  rw[decide_eq_false hT,if_neg hT]
  exact Br.yes (bN.mk (by repeat (first|exact aM.refl _|apply aM.cons|apply aM.skip|apply aM.cQ|apply aM.eG)) rfl)
 rw[decide_eq_true hT,if_pos hT]
 refine Br.no ?_
 obtain⟨n,rfl⟩:∃n:Nat,tn=n:=⟨tn.toNat,by have:=hT.1;simp only at this;omega⟩
 have hf:aj.dh n ws:=by have:=hT.2;simpa using this
 refine ag.mk (Ld.mk zM rfl ?_)
 refine⟨fun vs H=>∃(k:Nat) (N:Hp),vs=[.int .u64 ((aj.js n ws k:Nat):Int),.int .i64 (k:Int)]∧k≤n∧H=(b1,.cells (Value.cells (.agg #[.int .i64 (n:Int),s])) 57 (0,0))::(N++B),
  fun vs _=>n-br vs 1,JE.of .tail ⟨0,[],rfl,by omega,rfl⟩,?_⟩
 rintro w15 w16 H ⟨k,N,⟨⟩,hk,rfl⟩ gs
 have nv:=hf.qd
 have KZ:=aj.lz n ws k
 have acO:aj.js n ws k<65536:=Nat.lt_of_lt_of_le KZ (Nat.pow_le_pow_right (n:=2) (by decide) (by omega:k≤16))
 refine aa.dH (Br.dec (fun hlt=>?_) (fun hlt=>?_))
 ·intro J hJ
  refine DR.self ?_
  refine av.q (av.q ?_)
  refine ae.pq (B:=N++B) (xz (v:=.agg (List.toArray [.int .i64 (n:Int),s])) ⟨s,rfl,hw.mono zS⟩ hf hlt) ?_
  rintro v N1 ⟨s1,rfl,jj⟩
  refine⟨.cons .right,Gx.mk rfl ?_⟩
  refine ae.pq (B:=N1++(N++B)) (xz (v:=.agg (List.toArray [.int .i64 (n:Int),s])) ⟨s,rfl,hw.mono zS⟩ hf hlt) ?_
  rintro v N2 ⟨s2,rfl,py⟩
  refine⟨.cons (.eG .right),Gx.mk rfl ?_⟩
  refine ae.eq (B:=N2++(N1++(N++B))) (L8 (jj.mono zS) py (by have:=rO (aj.cy (v:=k) (ws:=ws) (b:=false) hf.qd);simp only;omega)) ?_
  refine⟨.cons (.eG .right),Un.not ?_⟩
  have gY:JE J [.int .u64 ((aj.js n ws (k+1):Nat):Int)] ((b1,.cells (Value.cells (.agg #[.int .i64 (n:Int),s])) 57 (0,0))::(N2++(N1++(N++B)))):=by
   refine JE.mk (hJ _ _ fun gs=>?_)
   refine aa.inc ?_
   exact aB.mk ⟨k+1,N2++(N1++N),rfl,by omega,by rw[List.append_assoc,List.append_assoc]⟩ (by simp[br];omega)
  rw[aj.js]at gY
  by_cases hd:aj.dep n ws k=true
  ·rw[if_pos hd]at gY
   have:aj.eV n ws k false≠aj.eV n ws k true:=by simpa[aj.dep]using hd
   rw[decide_eq_false this]
   refine Br.yes ?_
   refine aa.wR (a:=1) ?_
   have h2:2^k<65536:=Nat.lt_of_lt_of_le (Nat.pow_lt_pow_right (n:=16) (by decide) (by omega)) (by decide)
   rw[Nat.one_shiftLeft,Nat.mod_eq_of_lt (by omega)]
   exact aa.Jb (by simp[bA];omega) (by simp[bA];omega) gY
  ·rw[if_neg hd]at gY
   have:aj.eV n ws k false=aj.eV n ws k true:=by simpa[aj.dep]using hd
   rw[decide_eq_true this]
   exact Br.no gY
 ·have:k=n:=by omega
  subst this
  refine bN.mk (.skip .right) ?_
  simp[aj.nX]
theorem Kk{B:Hp}{v:Value}{ts:List Tb}(ht:dZ B v ts)(bH:ts.length<4398046511104):Px Tryz.prog 155 #[v] B (fun r _=>∃s,r=.tuple #[s,.int .i64 (if pP ts then 0 else 5)]):=by
 refine aR fun g=>Ey ?_
 refine ae.eq (oa ht (by omega)) ?_
 refine Un.not ?_
 by_cases hO:pP ts
 case neg=>rw[decide_eq_false hO,if_neg hO];exact Br.yes (tL.mk (.refl _) ⟨_,rfl⟩)
 rw[decide_eq_true hO,if_pos hO]
 refine Br.no (ht.bc (aa.cE (b:=0) (Br.dec (fun h0=>tL.mk (.refl _) ⟨_,rfl⟩) (fun h0=>?_))))
 obtain⟨n,L,nv,rfl,hne,hf⟩:=FM hO (by intro e;rw[e]at h0;exact h0 rfl)
 rw[List.length_map]at bH
 obtain⟨w0,Jc⟩:∃w0,L[0]? =some w0:=⟨_,List.getElem?_eq_getElem (List.length_pos_iff.2 hne)⟩
 refine ht.Tn (i:=0) (t:=⟨n,w0⟩) (by rw[List.getElem?_map,Jc];rfl) (fun _ h=>h) ?_
 simp only
 refine cO.ints (by omega) (by omega) fun bw=>?_
 refine ht.bc ?_
 refine⟨fun vs H=>∃(k:Nat) (l:List Nat),vs=[.int .i64 (k:Int)]∧k≤L.length∧H=(bw,.cells (ax .u64 (iw l)) 50 (0,0))::B∧l.length=n∧∀w∈l,w<18446744073709551616,
  fun vs _=>L.length-br vs 0,JE.mk ⟨0,List.replicate n 0,rfl,by omega,by simp[iw],by simp,fun w hw=>by rw[List.eq_of_mem_replicate hw];decide⟩,?_⟩
 rintro w H ⟨k,l,⟨⟩,hk,rfl,hl,ON⟩ gs
 rw[List.length_map]
 refine aa.dH (Br.dec (fun hlt=>?_) (fun hlt=>?_))
 ·have hg:(L.map fun ws=>(⟨n,ws⟩:Tb))[k]? =some ⟨n,L[k]⟩:=by rw[List.getElem?_map,List.getElem?_eq_getElem hlt];rfl
  have nx:=hf L[k] (List.getElem_mem hlt)
  refine ht.ld hg zS fun s hw=>?_
  intro b2 _
  refine St.p ?_ ?_
  ·have:=aG hw;simpa[Value.oneCell']using this
  refine av.q ?_
  refine ae.eq (B:=B) (r9 (v:=.agg (List.toArray [.int .i64 (n:Int),s])) (t:=⟨n,L[k]⟩) ⟨s,rfl,hw⟩) ?_
  rw[if_pos (show TF ⟨(n:Int),L[k]⟩from⟨by simp,by simpa using nx⟩)]
  refine Ext.mk rfl (Ext.mk rfl (aF.mk ?_))
  simp only[Int.toNat_natCast]
  have UE:aj.nX n L[k]<65536:=Nat.lt_of_lt_of_le (aj.lz n L[k] n) (Nat.pow_le_pow_right (n:=2) (by decide) nv)
  refine⟨fun vs H=>∃(j:Nat) (l:List Nat),vs=[.int .i64 (j:Int)]∧j≤n∧H=(bw,.cells (ax .u64 (iw l)) 50 (0,0))::B∧l.length=n∧∀w∈l,w<18446744073709551616,
   fun vs _=>n-br vs 0,JE.of .tail ⟨0,l,rfl,by omega,rfl,hl,ON⟩,?_⟩
  rintro w H ⟨j,l,⟨⟩,hj,rfl,hl,ON⟩ gs
  refine aa.dH (Br.dec (fun Qs=>?_) (fun Qs=>?_))
  ·intro J hJ
   have gY:∀l:List Nat,l.length=n→(∀w∈l,w<18446744073709551616)→JE J [] ((bw,.cells (ax .u64 (iw l)) 50 (0,0))::B):=fun l hl ON=>by
    refine JE.mk (hJ _ fun gs=>?_)
    refine aa.inc ?_
    exact aB.mk ⟨j+1,l,rfl,by omega,rfl,hl,ON⟩ (by simp[br];omega)
   have hsh:aj.nX n L[k]>>>j<65536:=Nat.lt_of_le_of_lt (Nat.shiftRight_le _ _) UE
   refine aa.j7 (by simp[bA];omega) (aa.iL (b:=1) (by simp[bA];omega) (by decide) (aa.cE (b:=1) ?_))
   refine Br.dec (fun h=>?_) (fun h=>gY l hl ON)
   refine DR.self ?_
   have Yv:l[j]? =some l[j]:=List.getElem?_eq_getElem (by omega)
   have hlj:=ON _ (List.getElem_mem (show j<l.length by omega))
   refine an.nat Qs ?_
   refine Ld.mk (v:=.int .u64 (l[j]:Int)) (by exact .head _) (by simp[ax,iw,Yv]) ?_
   refine aa.wR (a:=1) ?_
   have h2:2^j<65536:=Nat.lt_of_lt_of_le (Nat.pow_lt_pow_right (n:=16) (by decide) (by omega)) (by decide)
   rw[Nat.one_shiftLeft,Nat.mod_eq_of_lt (by omega)]
   refine aa.Gn (by simp[bA];omega) (by simp[bA];omega) ?_
   have h3:=nk (aj.nX n L[k]) (2^j)
   refine aa.Jb (by simp only[bA];exact hlj) (by simp only[bA];omega) ?_
   refine an.nat Qs ?_
   refine St.ints (l:=iw l) (by exact .head _) (by simp;omega) ?_
   have e:(iw l).set j ((l[j]|||mC (aj.nX n L[k]) (2^j):Nat):Int)=iw (l.set j (l[j]|||mC (aj.nX n L[k]) (2^j))):=by simp[iw,List.map_set]
   rw[e]
   refine gY _ (by simp[hl]) fun w hw=>?_
   rcases List.mem_or_eq_of_mem_set hw with hw|rfl
   ·exact ON w hw
   ·exact Nat.or_lt_two_pow (n:=64) hlj (by omega)
  ·refine aa.inc ?_
   exact aB.mk ⟨k+1,l,rfl,by omega,rfl,hl,ON⟩ (by simp[br];omega)
 ·exact tL.mk (by repeat (first|exact aT.refl _|apply aT.cons|apply aT.app)) ⟨_,rfl⟩
end Go.Proofs
namespace aj
open Go.Sx
def fx:List Nat→Nat
 | []=>0
 |x::r=>r.foldl min x
theorem pF:∀(r:List Nat) (x:Nat),r.foldl min x≤x∧∀y∈r,r.foldl min x≤y
 | [],x=>⟨Nat.le_refl _,by simp⟩
 |z::r,x=>by
  obtain⟨h1,h2⟩:=pF r (min x z)
  refine⟨by rw[List.foldl_cons];omega,fun y hy=>?_⟩
  rw[List.foldl_cons]
  rcases List.mem_cons.1 hy with rfl|hy
  ·omega
  ·exact h2 y hy
theorem nO:∀(r:List Nat) (x:Nat),r.foldl min x=x∨r.foldl min x∈r
 | [],x=>.inl rfl
 |z::r,x=>by
  rw[List.foldl_cons]
  rcases nO r (min x z)with h|h
  ·rw[h]
   rcases Nat.le_total x z with h'|h'
   ·left;omega
   ·right;rw[Nat.min_eq_right h'];simp
  ·right;exact List.mem_cons_of_mem _ h
theorem yV{l:List Nat}{y:Nat}(h:y∈l):fx l≤y:=by
 cases l with
 |nil=>simp at h
 |cons x r=>
  obtain⟨h1,h2⟩:=pF r x
  rcases List.mem_cons.1 h with rfl|h
  ·exact h1
  ·exact h2 y h
theorem mX{l:List Nat}(h:l≠[]):fx l∈l:=by
 cases l with
 |nil=>exact absurd rfl h
 |cons x r=>
  rcases nO r x with h|h
  ·show r.foldl min x∈_;rw[h];simp
  ·exact List.mem_cons_of_mem _ h
theorem yW{l:List Nat}{m:Nat}(h1:m∈l)(h2:∀y∈l,m≤y):fx l=m:=
 Nat.le_antisymm (yV h1) (h2 _ (mX (by intro e;rw[e]at h1;simp at h1)))
theorem Bj(l:List Nat)(x:Nat):fx (l++[x])=if l=[]then x else min (fx l) x:=by
 cases l with
 |nil=>rfl
 |cons y r=>simp[fx,List.foldl_append]
def bK(n a:Nat):List Nat:=(List.range n).filter fun v=> !a.testBit v
def has(n a:Nat):List Nat:=(List.range n).filter fun v=>a.testBit v
theorem ct{n a v:Nat}:v∈bK n a↔v<n∧a.testBit v=false:=by simp[bK]
theorem o9{n a v:Nat}:v∈has n a↔v<n∧a.testBit v=true:=by simp[has]
theorem mq{α:Type}(p q:α→Bool)(x:α):∀(l:List α),l.Nodup→x∈l→p x=true→q x=false→(∀y∈l,y≠x→q y=p y)→(l.filter q).length+1=(l.filter p).length
 | [],_,h,_,_,_=>by simp at h
 |y::l,nd,h,hp,hq,aE=>by
  rw[List.nodup_cons]at nd
  by_cases e:y=x
  ·subst e
   have hsame:l.filter q=l.filter p:=by
    apply List.filter_congr
    intro z hz
    exact aE z (by simp[hz]) (fun e=>nd.1 (e▸hz))
   rw[List.filter_cons,List.filter_cons,hp,hq,hsame];simp
  ·have WK:x∈l:=by rcases List.mem_cons.1 h with h|h;exact absurd h.symm e;exact h
   have ih:=mq p q x l nd.2 WK hp hq fun z hz hne=>aE z (by simp[hz]) hne
   have hy:=aE y (by simp) e
   rw[List.filter_cons,List.filter_cons,hy]
   cases p y
   ·simpa using ih
   ·simp only[if_true,List.length_cons];omega
theorem oU{a u v:Nat}(h:v≠u):(aA a u true).testBit v=a.testBit v:=by rw[ak,if_neg h]
theorem fJ{n a v:Nat}(h:v∈bK n a):(bK n (aA a v true)).length+1=(bK n a).length:=by
 obtain⟨h1,h2⟩:=ct.1 h
 refine mq _ _ v (List.range n) List.nodup_range (List.mem_range.2 h1) (by simp[h2]) (by simp[ak]) fun y hy hne=>?_
 rw[oU hne]
def My(n:Nat)(c:Nat→Nat→Nat):Nat→Nat→Nat
 |0,_=>0
 |f+1,a=>fx ((bK n a).map fun v=>c a v+My n c f (aA a v true))
def par(n:Nat)(c:Nat→Nat→Nat):Nat→Nat→Nat
 |0,_=>0
 |f+1,s=>fx ((has n s).map fun v=>c (aA s v false) v+par n c f (aA s v false))
theorem Ad{n:Nat}{c:Nat→Nat→Nat}:∀(f:Nat) (a:Nat),(bK n a).length≤f→My n c (f+1) a=My n c f a
 |0,a,h=>by
  have:bK n a=[]:=List.length_eq_zero_iff.1 (by omega)
  simp[My,this,fx]
 |f+1,a,h=>by
  rw[My,My]
  congr 1
  apply List.map_congr_left
  intro v hv
  rw[Ad f _ (by have:=fJ hv;omega)]
theorem Oe(n a:Nat):(bK n a).length≤n:=by have:=List.length_filter_le (fun v=> !a.testBit v) (List.range n);simpa[bK]using this
def B(n:Nat)(c:Nat→Nat→Nat)(a:Nat):Nat:=My n c n a
def W(n:Nat)(c:Nat→Nat→Nat)(s:Nat):Nat:=par n c n s
theorem Fk(n:Nat)(c:Nat→Nat→Nat)(a:Nat):B n c a=fx ((bK n a).map fun v=>c a v+B n c (aA a v true)):=by
 unfold B
 rw[←Ad n a (Oe n a)]
 rfl
theorem Ww{n:Nat}{c:Nat→Nat→Nat}{a v:Nat}(hv:v∈bK n a):B n c a≤c a v+B n c (aA a v true):=by
 rw[Fk n c a];exact yV (List.mem_map.2 ⟨v,hv,rfl⟩)
theorem Wx{n:Nat}{c:Nat→Nat→Nat}{a:Nat}(h:bK n a≠[]):∃v∈bK n a,B n c a=c a v+B n c (aA a v true):=by
 have:=mX (l:=(bK n a).map fun v=>c a v+B n c (aA a v true)) (by simpa using h)
 rw[←Fk]at this
 obtain⟨v,hv,e⟩:=List.mem_map.1 this
 exact⟨v,hv,e.symm⟩
theorem GB{n:Nat}{c:Nat→Nat→Nat}{a:Nat}(h:bK n a=[]):B n c a=0:=by rw[Fk,h];rfl
structure Used(n:Nat)(c:Nat→Nat→Nat)(U:Nat):Prop where
 zero:∀a v,v<n→a.testBit v=false→U.testBit v=false→c a v=0
 mask:∀a v,v<n→a.testBit v=false→c a v=c (a&&&U) v
theorem mD{a U v:Nat}{b:Bool}:(aA a v b) &&&U=if U.testBit v then aA (a&&&U) v b else a&&&U:=by
 apply Nat.eq_of_testBit_eq;intro k
 by_cases hU:U.testBit v=true
 ·rw[if_pos hU,Nat.testBit_and,ak,ak,Nat.testBit_and]
  by_cases e:k=v
  ·subst e;simp[hU]
  ·simp[e]
 ·rw[if_neg hU,Nat.testBit_and,ak,Nat.testBit_and]
  by_cases e:k=v
  ·subst e;simp[hU]
  ·simp[e]
def cV(n U a:Nat):List Nat:=(bK n a).filter fun v=>U.testBit v
theorem eA{n U a v:Nat}:v∈cV n U a↔v<n∧a.testBit v=false∧U.testBit v=true:=by simp[cV,ct,and_assoc]
theorem jy(n U a:Nat):cV n U (a&&&U)=cV n U a:=by
 unfold cV bK
 rw[List.filter_filter,List.filter_filter]
 apply List.filter_congr
 intro v _
 rw[Nat.testBit_and]
 cases a.testBit v<;>cases U.testBit v<;>rfl
theorem Fj{n U:Nat}{c:Nat→Nat→Nat}(hU:Used n c U):∀(d a:Nat),(bK n a).length=d→B n c a=fx ((cV n U a).map fun v=>c (a&&&U) v+B n c (aA a v true))∧∀a',(bK n a').length≤d→a'&&&U=a&&&U→B n c a'=B n c a:=by
 intro d
 induction d using Nat.strongRecOn with
 |_ d ih=>
  have key:∀a,(bK n a).length=d→B n c a=fx ((cV n U a).map fun v=>c (a&&&U) v+B n c (aA a v true)):=by
   intro a hd
   by_cases hm:bK n a=[]
   ·have h1:cV n U a=[]:=by unfold cV;rw[hm];rfl
    rw[h1,GB hm];rfl
   ·have hle:∀v∈cV n U a,B n c a≤c (a&&&U) v+B n c (aA a v true):=fun v hv=>by
     obtain⟨h1,h2,h3⟩:=eA.1 hv
     rw[←hU.mask a v h1 h2];exact Ww (ct.2 ⟨h1,h2⟩)
    obtain⟨v,hv,he⟩:=Wx (c:=c) hm
    obtain⟨h1,h2⟩:=ct.1 hv
    by_cases hu:U.testBit v=true
    ·symm
     refine yW (List.mem_map.2 ⟨v,eA.2 ⟨h1,h2,hu⟩,by rw[←hU.mask a v h1 h2];exact he.symm⟩) fun y hy=>?_
     obtain⟨w,hw,rfl⟩:=List.mem_map.1 hy
     exact hle w hw
    ·have xp:U.testBit v=false:=by simpa using hu
     rw[hU.zero a v h1 h2 xp,Nat.zero_add]at he
     have hlt:(bK n (aA a v true)).length<d:=by have:=fJ hv;omega
     have hand:aA a v true&&&U=a&&&U:=by rw[mD,if_neg hu]
     obtain⟨k1,k2⟩:=ih _ hlt (aA a v true) rfl
     have Qr:cV n U (aA a v true)=cV n U a:=by rw[←jy,hand,jy]
     by_cases BC:cV n U a=[]
     ·rw[Qr,BC]at k1
      rw[he,k1,BC];rfl
     ·symm
      rw[Qr,hand]at k1
      have hmem:=mX (l:=(cV n U a).map fun w=>c (a&&&U) w+B n c (aA (aA a v true) w true)) (by simpa using BC)
      rw[←k1]at hmem
      obtain⟨w,hw,m4⟩:=List.mem_map.1 hmem
      obtain⟨w1,w2,w3⟩:=eA.1 hw
      have hwv:w≠v:=fun e=>by rw[e]at w3;rw[xp]at w3;cases w3
      have QA:aA (aA a v true) w true=aA (aA a w true) v true:=by
       apply Nat.eq_of_testBit_eq;intro k
       rw[ak,ak,ak,ak]
       by_cases e1:k=w<;>by_cases e2:k=v<;>simp[e1,e2]
      have hmw:w∈bK n a:=ct.2 ⟨w1,w2⟩
      have hsub:B n c (aA (aA a v true) w true)=B n c (aA a w true):=by
       have kF:(bK n (aA a w true)).length<d:=by have:=fJ hmw;omega
       refine(ih _ kF (aA a w true) rfl).2 _ ?_ ?_
       ·have hvm:v∈bK n (aA a w true):=ct.2 ⟨h1,by rw[ak,if_neg (Ne.symm hwv)];exact h2⟩
        have:=fJ hvm
        rw[QA];omega
       ·rw[QA,mD,if_neg hu]
      have hval:c (a&&&U) w+B n c (aA a w true)=B n c a:=by rw[he,←m4,hsub]
      refine yW (List.mem_map.2 ⟨w,hw,hval⟩) fun y hy=>?_
      obtain⟨z,hz,rfl⟩:=List.mem_map.1 hy
      exact hle z hz
  intro a hd
  refine⟨key a hd,fun a' cN hand=>?_⟩
  have Qr:cV n U a'=cV n U a:=by rw[←jy,hand,jy]
  have h':B n c a'=fx ((cV n U a').map fun v=>c (a'&&&U) v+B n c (aA a' v true)):=by
   rcases Nat.lt_or_ge (bK n a').length d with h|h
   ·exact(ih _ h a' rfl).1
   ·exact key a' (by omega)
  rw[h',key a hd,Qr,hand]
  congr 1
  apply List.map_congr_left
  intro v hv
  congr 1
  obtain⟨v1,v2,v3⟩:=eA.1 hv
  have hma:v∈bK n a:=ct.2 ⟨v1,v2⟩
  have Yg:v∈bK n a':=by
   rw[←Qr]at hv
   exact ct.2 ⟨v1,(eA.1 hv).2.1⟩
  have hlt:(bK n (aA a v true)).length<d:=by have:=fJ hma;omega
  refine(ih _ hlt (aA a v true) rfl).2 _ ?_ ?_
  ·have:=fJ Yg;have:=fJ hma;omega
  ·rw[mD,mD,hand]
theorem Q2{n U:Nat}{c:Nat→Nat→Nat}(hU:Used n c U)(a:Nat):B n c (a&&&U)=B n c a:=by
 have e:(a&&&U) &&&U=a&&&U:=by rw[Nat.and_assoc,Nat.and_self]
 rcases Nat.le_total (bK n (a&&&U)).length (bK n a).length with h|h
 ·exact(Fj hU _ a rfl).2 _ h e
 ·exact((Fj hU _ (a&&&U) rfl).2 a h e.symm).symm
theorem Wv{n U:Nat}{c:Nat→Nat→Nat}(hU:Used n c U)(a:Nat):B n c a=fx ((cV n U a).map fun v=>c (a&&&U) v+B n c (aA (a&&&U) v true)):=by
 rw[(Fj hU _ a rfl).1]
 congr 1
 apply List.map_congr_left
 intro v hv
 obtain⟨v1,v2,v3⟩:=eA.1 hv
 congr 1
 rw[←Q2 hU (aA a v true),mD,if_pos v3]
def ord(n:Nat)(c:Nat→Nat→Nat):Nat→Nat→List Nat
 |0,_=>[]
 |f+1,a=>match(bK n a).find? fun v=>c a v+B n c (aA a v true)==B n c a with
  |some v=>v::ord n c f (aA a v true)
  |none=>[]
theorem sD{n:Nat}{c:Nat→Nat→Nat}{f a:Nat}(h:bK n a≠[]):∃v,v∈bK n a∧c a v+B n c (aA a v true)=B n c a∧(∀u∈bK n a,u<v→c a u+B n c (aA a u true)≠B n c a)∧ord n c (f+1) a=v::ord n c f (aA a v true):=by
 obtain⟨w,hw,he⟩:=Wx (c:=c) h
 cases hf:(bK n a).find? fun v=>c a v+B n c (aA a v true)==B n c a with
 |none=>
  rw[List.find?_eq_none]at hf
  exact absurd (by simpa using he.symm) (hf w hw)
 |some v=>
  have h1:=List.find?_some hf
  refine⟨v,List.mem_of_find?_eq_some hf,by simpa using h1,fun u hu huv=>?_,by rw[ord,hf]⟩
  rw[List.find?_eq_some_iff_append]at hf
  obtain⟨_,as1,bs,hab,hno⟩:=hf
  have hs:(bK n a).Pairwise (· < ·):=List.Pairwise.filter _ List.pairwise_lt_range
  rw[hab]at hs hu
  rcases List.mem_append.1 hu with hu|hu
  ·have:=hno u hu;simpa using this
  ·rw[List.pairwise_append]at hs
   have h2:=hs.2.1
   rw[List.pairwise_cons]at h2
   rcases List.mem_cons.1 hu with rfl|hu
   ·omega
   ·have:=h2.1 u hu;omega
end aj
namespace aj
open Go.Sx
theorem cX{x u v:Nat}{b c:Bool}(h:u≠v):aA (aA x u b) v c=aA (aA x v c) u b:=by
 apply Nat.eq_of_testBit_eq;intro k
 rw[ak,ak,ak,ak]
 by_cases e1:k=u<;>by_cases e2:k=v
 ·exact absurd (e1.symm.trans e2) h
 ·simp[e1,h]
 ·simp[e2,Ne.symm h]
 ·simp[e1,e2]
theorem Pu{n u v:Nat}{ws:List Nat}{b:Bool}(hf:dh n ws)(hu:u<n)(hv:v<n)(h:dep n ws v=false):dep n (eV n ws u b) v=false:=by
 by_cases e:u=v
 ·subst e
  cases hd:dep n (eV n ws u b) u
  ·rfl
  ·obtain⟨x,hx,hne⟩:=(rS (cy hf.qd) hu).1 hd
   rw[dP hf hu (fG hx hu),dP hf hu (fG hx hu)]at hne
   refine absurd ?_ hne
   congr 1
   apply Nat.eq_of_testBit_eq;intro k
   rw[ak,ak,ak,ak]
   by_cases e:k=u<;>simp[e]
 ·cases hd:dep n (eV n ws u b) v
  ·rfl
  ·obtain⟨x,hx,hne⟩:=(rS (cy hf.qd) hv).1 hd
   rw[dP hf hu (fG hx hv),dP hf hu (fG hx hv),cX (Ne.symm e),cX (Ne.symm e)]at hne
   have:=(rS hf hv).2 ⟨aA x u b,fG hx hu,hne⟩
   rw[h]at this;cases this
theorem wO{n:Nat}{L:Fs}{A:Nat}(hL:∀t∈L,dh n t)(hn:n≤16){v:Nat}(hv:v<n)(h:∀t∈L,dep n t v=false):∀k,k≤n→∀t∈st n L A k,dep n t v=false
 |0,_,t,ht=>h t (dU.1 ht)
 |k+1,hk,t,ht=>by
  rw[st]at ht
  split at ht
  ·obtain⟨u,hu,b,rfl⟩:=bL.1 ht
   exact Pu (A3 hL hn k u hu) (by omega) hv (wO hL hn hv h k (by omega) u hu)
  ·exact wO hL hn hv h k (by omega) t ht
def aU(n:Nat)(L:Fs):Nat:=L.foldl (fun u t=>u|||nX n t) 0
theorem nG(n v:Nat):∀(L:Fs) (u:Nat),(L.foldl (fun u t=>u|||nX n t) u).testBit v=(u.testBit v||L.any fun t=>(nX n t).testBit v)
 | [],u=>by simp
 |t::L,u=>by rw[List.foldl_cons,nG n v L,Nat.testBit_or,List.any_cons,Bool.or_assoc]
theorem wJ{n v:Nat}{L:Fs}:(aU n L).testBit v=L.any fun t=>(nX n t).testBit v:=by
 unfold aU;rw[nG];simp
theorem rY{n v:Nat}{L:Fs}(hv:v<n)(h:(aU n L).testBit v=false):∀t∈L,dep n t v=false:=by
 rw[wJ,List.any_eq_false]at h
 intro t ht
 have:=h t ht
 rw[nX,gm]at this
 simpa[hv]using this
theorem zL(n:Nat):∀(L:Fs) (u:Nat),u<2^n→L.foldl (fun u t=>u|||nX n t) u<2^n
 | [],u,h=>h
 |t::L,u,h=>zL n L _ (Nat.or_lt_two_pow h (lz n t n))
theorem rZ(n:Nat)(L:Fs):aU n L<2^n:=zL n L 0 (Nat.two_pow_pos n)
theorem Fx{n:Nat}{L:Fs}{A:Nat}(hL:∀t∈L,dh n t)(hn:n≤16):∀k,k≤n→∀x,x∈st n L A k↔x∈st n L (A&&&aU n L) k
 |0,_,x=>Iff.rfl
 |k+1,hk,x=>by
  have ih:=Fx (A:=A) hL hn k (by omega)
  rw[st,st,Nat.testBit_and]
  cases hA:A.testBit k
  ·simpa using ih x
  ·cases hU:(aU n L).testBit k
   ·simp only[if_true,Bool.and_false,Bool.false_eq_true,if_false]
    rw[bL,←ih x]
    have hd:=wO (A:=A) hL hn (v:=k) (by omega) (rY (by omega) hU) k (by omega)
    have hf:=A3 (A:=A) hL hn k
    constructor
    ·rintro⟨t,ht,b,rfl⟩
     rw[mz (hf t ht) (by omega) (hd t ht)];exact ht
    ·intro hx
     exact⟨x,hx,false,(mz (hf x hx) (by omega) (hd x hx)).symm⟩
   ·simp only[Bool.and_true,if_true]
    rw[bL,bL]
    constructor
    ·rintro⟨t,ht,h⟩;exact⟨t,(ih t).1 ht,h⟩
    ·rintro⟨t,ht,h⟩;exact⟨t,(ih t).2 ht,h⟩
theorem Fp{n:Nat}{L:Fs}(hL:∀t∈L,dh n t)(hn:n≤16):Used n (lvl n L) (aU n L):=by
 refine⟨fun a v hv _ hU=>?_,fun a v hv _=>?_⟩
 ·unfold lvl nodes
  rw[List.length_eq_zero_iff,List.filter_eq_nil_iff]
  intro t ht
  rw[wO hL hn hv (rY hv hU) n (Nat.le_refl _) t ht];simp
 ·exact iz (ew (lB n L a n) (lB n L _ n) (Fx hL hn n (Nat.le_refl _)))
end aj
set_option maxRecDepth 100000
namespace Go.Proofs
open Go Go.Sx
def kp(x:Nat×Nat):Value:=.agg (ax .i64 [(x.1:Int),(x.2:Int)])
def ki(x:Nat):Value:=.int .i64 (x:Int)
theorem Bt(a b:Nat):Instr.sameNow (.int .i64) (ki a) (ki b)=some (decide (a=b)):=by
 simp only[Instr.sameNow,ki,if_true,Option.some.injEq]
 rw[Bool.eq_iff_iff];simp;omega
theorem Ov(a:Nat):Instr.sameBits 10000 (ki a) (ki a)=true:=by simp[Instr.sameBits,ki]
theorem KE(a b:Nat×Nat):xY Tryz.prog 226 (kp a) (kp b) (decide (a=b)):=by
 have:=xY.array (P:=Tryz.prog) (t:=226) (e:=3) (q:=.i64) (n:=2) (by kernel_rfl) (by kernel_rfl) (by kernel_rfl) [(a.1:Int),(a.2:Int)] [(b.1:Int),(b.2:Int)] rfl rfl
 have e:decide ([(a.1:Int),(a.2:Int)]=[(b.1:Int),(b.2:Int)])=decide (a=b):=by
  rw[decide_eq_decide]
  obtain⟨a1,a2⟩:=a;obtain⟨b1,b2⟩:=b
  simp;omega
 rw[e]at this;exact this
theorem Bq(a:Nat×Nat):jW Tryz.prog 226 (kp a):=jW.array (P:=Tryz.prog) (t:=226) (e:=3) (q:=.i64) (n:=2) (by kernel_rfl) (by kernel_rfl) (by kernel_rfl) _ rfl
theorem uA(n:Nat)(q:IntKind)(l:List Int):Instr.sameBits (n+1+1) (.agg (ax q l)) (.agg (ax q l))=true:=by
 simp only[Instr.sameBits,ax,beq_self_eq_true,Bool.true_and,List.all_eq_true]
 intro x hx
 obtain⟨a,b⟩:=x
 have h:=List.of_mem_zip hx
 have e:a=b:=by
  rw[List.zip_eq_zip_take_min]at hx
  obtain⟨i,hi,he⟩:=List.mem_iff_getElem.1 hx
  simp at he
  exact he.1.symm.trans he.2
 subst e
 have:=h.1
 simp only[List.toList_toArray,List.mem_map]at this
 obtain⟨y,_,rfl⟩:=this
 simp[Instr.sameBits]
theorem Ot(a:Nat×Nat):Instr.sameBits 10000 (kp a) (kp a)=true:=uA 9998 _ _
abbrev Wz(v:Value)(x:Nat):Prop:=v=.int .i64 (x:Int)
structure Gs(n:Nat)(L:List (List Nat))(nC:Array MapEntry)(k9:Nat)(mr:Array MapEntry)(nD:Nat):Prop where
 ah:∃m,aN kp Wz nC k9 m∧∀x∈m,x.2=aj.lvl n L x.1.1 x.1.2
 dow:∃m,aN ki Wz mr nD m∧∀x∈m,x.2=aj.B n (aj.lvl n L) x.1
def kP(bp bl bd:Nat)(um:Value)(n:Nat)(L:List (List Nat))(U:Nat)(B H:Hp):Prop:=
 ∃nC k9 mr nD,H=(bp,.cells #[um,.int .i64 (n:Int),.int .i64 (U:Int),.map (some bl),.map (some bd)] 137 (0,0))::(bl,.map nC k9)::(bd,.map mr nD)::B∧Gs n L nC k9 mr nD
theorem yT{κ:Type}[DecidableEq κ]{f:κ→Nat}{m:List (κ×Nat)}{k:κ}(h:∀x∈m,x.2=f x.1):∀x∈fm m k (f k),x.2=f x.1:=by
 intro x hx
 unfold fm at hx
 split at hx
 ·obtain⟨y,hy,rfl⟩:=List.mem_map.1 hx
  split
  ·rfl
  ·exact h y hy
 ·rcases List.mem_append.1 hx with hx|hx
  ·exact h x hx
  ·simp at hx;subst hx;rfl
theorem yX{κ:Type}[DecidableEq κ]{f:κ→Nat}{m:List (κ×Nat)}{k:κ}{x:Nat}(h:∀x∈m,x.2=f x.1)(hk:cR m k=some x):x=f k:=by
 unfold cR at hk
 obtain⟨y,hy,rfl⟩:=Option.map_eq_some_iff.1 hk
 have h1:=List.find?_some hy
 have h2:=h y (List.mem_of_find?_eq_some hy)
 simp only[decide_eq_true_eq]at h1
 rw[h2,h1]
structure tM(um:Value)(n:Nat)(L:List (List Nat))(B:Hp):Prop where
 tb:dZ B um (GR n L)
 oz:∀ws∈L,aj.dh n ws
 ne:L≠[]
 small:L.length<33554432
 WG:n≤12
theorem Bm{um:Value}{n:Nat}{L:List (List Nat)}{B:Hp}(h:tM um n L B)(a v:Nat):aj.lvl n L a v<2199023255551:=by
 have h1:aj.lvl n L a v≤(aj.st n L a n).length:=List.length_filter_le _ _
 have h2:=JS (n:=n) (A:=a) (L:=L) (by have:=h.WG;omega) h.small (Nat.le_refl n)
 omega
theorem yQ{um:Value}{n:Nat}{L:List (List Nat)}{B:Hp}(h:tM um n L B){bp bl bd a v:Nat}{H:Hp}(hp:kP bp bl bd um n L (aj.aU n L) B H)(ha:a<2^n)(hv:v<n)(YM:a.testBit v=false):
  Fc Tryz.prog 73 #[.pointer (some ⟨bp,0,none⟩),.int .i64 (a:Int),.int .i64 (v:Int)] H (fun r H'=>r=.int .i64 ((aj.lvl n L a v:Nat):Int)∧kP bp bl bd um n L (aj.aU n L) B H'):=by
 obtain⟨nC,k9,mr,nD,rfl,hM⟩:=hp
 have hU:=aj.rZ n L
 have sX:=h.WG
 have kE:2^n≤2^12:=Nat.pow_le_pow_right (by decide) sX
 have zA:=aj.Fp h.oz (by omega)
 have hsU:aj.aU n L>>>v≤aj.aU n L:=Nat.shiftRight_le _ _
 refine aR fun g=>Iu ?_
 refine Nil.ptr ?_
 refine ag.mk (Ld.mk zM rfl ?_)
 refine aa.j7 (by simp[bA];omega) (aa.iL (b:=1) (by simp[bA];omega) (by decide) (aa.cE (b:=0) ?_))
 have zy:aj.aU n L>>>v&&&1=0↔(aj.aU n L).testBit v=false:=by
  rw[aj.dY,Nat.testBit_shiftRight,Nat.add_zero];cases (aj.aU n L).testBit v<;>simp
 refine Br.dec (fun h0=>?_) (fun h0=>?_)
 ·refine aS.here ⟨?_,nC,k9,mr,nD,rfl,hM⟩
  rw[zA.zero a v hv YM (zy.1 h0)];rfl
 have hUv:(aj.aU n L).testBit v=true:=by cases hh:(aj.aU n L).testBit v;exact absurd (zy.2 hh) h0;rfl
 refine Nil.ptr ?_
 refine ag.mk (Ld.mk zM rfl ?_)
 refine aa.iL (by simp[bA];omega) (by simp[bA];omega) ?_
 have hlv:aj.lvl n L a v=aj.lvl n L (a&&&aj.aU n L) v:=zA.mask a v hv YM
 have QE:(a&&&aj.aU n L).testBit v=false:=by rw[Nat.testBit_and,YM];rfl
 have TG:a&&&aj.aU n L<2^n:=Nat.lt_of_le_of_lt Nat.and_le_left ha
 rw[hlv]
 obtain⟨a',dF⟩:∃a',a'=a&&&aj.aU n L:=⟨_,rfl⟩
 rw[←dF]at QE TG⊢
 refine Build.two (q:=.i64) (e:=3) (by kernel_rfl) (by kernel_rfl) (by kernel_rfl) ?_
 rw[show ax .i64 [(a':Int),(v:Int)]=List.toArray [.int .i64 (a':Int),.int .i64 (v:Int)]from rfl]
 intro Nn _
 refine St.q ?_
 refine Nil.ptr ?_
 refine ag.mk (Ld.mk zM rfl ?_)
 refine av.q ?_
 obtain⟨⟨m1,QO,zv⟩,Vl⟩:=hM
 have UJ:∀J:List Value→Hp→Prop,(∀TZ:Value,∀H24:Hp,(∀aep:Fr,aS (fun r H'=>r=.int .i64 ((aj.lvl n L a' v:Nat):Int)∧kP bp bl bd um n L (aj.aU n L) B H') (.returned TZ) H24)→J [TZ] H24)→
   ∀Pr Pw,Gs n L Pr Pw mr nD→J [.int .i64 ((aj.lvl n L a' v:Nat):Int)] ((bp,.cells #[um,.int .i64 (n:Int),.int .i64 ((aj.aU n L:Nat):Int),.map (some bl),.map (some bd)] 137 (0,0))::(bl,.map Pr Pw)::(bd,.map mr nD)::B):=
  fun J hJ Pr Pw hM=>hJ _ _ fun gs=>aS.here ⟨rfl,Pr,Pw,mr,nD,rfl,hM⟩
 cases hg:cR m1 (a',v)with
 |some x=>
  have hx:=yX (f:=fun k=>aj.lvl n L k.1 k.2) zv hg
  simp only at hx
  refine aN.BE (ke:=kp) (k:=(a',v)) KE Bq QO (by exact .tail _ (.tail _ (.head _))) hg fun y hy=>?_
  subst hy
  refine Ext.two ?_
  intro J hJ
  refine Un.not (Br.no (JE.of .tail ?_))
  rw[hx]
  exact UJ J hJ _ _ ⟨⟨m1,QO,zv⟩,Vl⟩
 |none=>
  refine aN.sK (ke:=kp) (k:=(a',v)) KE Bq QO (by exact .tail _ (.tail _ (.head _))) hg ?_
  refine Ext.two ?_
  intro J hJ
  refine Un.not (Br.yes ?_)
  refine DR.self ?_
  refine Nil.ptr ?_
  refine ag.mk (Ld.mk zM rfl ?_)
  refine⟨Nn,0,.i64,0,rfl,rfl,by decide,by decide,?_⟩
  refine Ld.q ?_
  refine aQ.q ?_
  refine ae.eq (B:=B) (KA (n:=n) (L:=L) h.tb h.oz h.ne (by have:=h.small;omega) TG hv QE) ?_
  refine⟨.refl _,Ext.mk rfl (Ext.mk rfl ?_)⟩
  refine DR.of (R:=(Nn,.cells (List.toArray [.int .i64 (a':Int),.int .i64 (v:Int)]) 226 (0,0))::(bp,.cells #[um,.int .i64 (n:Int),.int .i64 ((aj.aU n L:Nat):Int),.map (some bl),.map (some bd)] 137 (0,0))::[]) (.cons (.cons (fun g w h=>(Own.left (B:=_) (A:=[]) h)))) ?_
  refine Nil.ptr ?_
  refine ag.mk (Ld.mk zM rfl ?_)
  refine av.q ?_
  refine aN.Jy (ke:=kp) (vr:=Wz) (b:=bl) (val:=.int .i64 ((aj.lvl n L a' v:Nat):Int)) (k:=(a',v)) (x:=aj.lvl n L a' v) KE Bq Ot QO rfl fun es' ca zB=>⟨_,.tail (.tail (.head _)),?_⟩
  have Yj:∀x∈fm m1 (a',v) (aj.lvl n L a' v),x.2=aj.lvl n L x.1.1 x.1.2:=yT (f:=fun k:Nat×Nat=>aj.lvl n L k.1 k.2) (k:=(a',v)) zv
  have SI:Gs n L es' ca mr nD:=⟨⟨fm m1 (a',v) (aj.lvl n L a' v),zB,Yj⟩,Vl⟩
  exact JE.of .tail (UJ J hJ es' ca SI)
end Go.Proofs
namespace Go.Sx
open Go
theorem sG(n:Int):BitVec.ofInt 64 (IntKind.i64.wrap n)=BitVec.ofInt 64 n:=by
 apply BitVec.eq_of_toNat_eq
 simp only[BitVec.toNat_ofInt,IntKind.wrap,IntKind.bits,IntKind.signed,Bool.true_and,decide_eq_true_eq]
 congr 1
 split<;>omega
theorem wrap_toInt(x:BitVec 64):IntKind.i64.wrap (x.toNat:Int)=x.toInt:=by
 rw[BitVec.toInt_eq_toNat_cond]
 have:=x.isLt
 have e:(2:Int)^(64-1)=9223372036854775808:=rfl
 simp only[IntKind.wrap,IntKind.bits,IntKind.signed,Bool.true_and,decide_eq_true_eq,e]
 split<;>split<;>omega
theorem ot(op:BinOp)(x y:Int):BitVec.ofInt 64 (bits op .i64 x y)=(match op with
  | .and=>BitVec.ofInt 64 x&&&BitVec.ofInt 64 y
  | .or=>BitVec.ofInt 64 x|||BitVec.ofInt 64 y
  | .xor=>BitVec.ofInt 64 x^^^BitVec.ofInt 64 y
  |_=>BitVec.ofInt 64 x&&& ~~~BitVec.ofInt 64 y):=by
 unfold bits
 simp only[sG]
 rw[BitVec.ofInt_natCast]
 simp only[IntKind.bits]
 rw[BitVec.ofNat_toNat,BitVec.setWidth_eq]
 cases op<;>rfl
theorem tB(op:BinOp)(x y:Int):bits op .i64 x y=(BitVec.ofInt 64 (bits op .i64 x y)).toInt:=by
 unfold bits
 simp only[sG]
 rw[BitVec.ofInt_natCast]
 simp only[IntKind.bits]
 rw[BitVec.ofNat_toNat,BitVec.setWidth_eq]
 exact wrap_toInt _
theorem Hg{a U v:Nat}(ha:a<4611686018427387904)(hU:U<4611686018427387904)(hv:v<62):
  bits .and .i64 ((bits .or .i64 a (bits .xor .i64 (-1) U)).fdiv (2^(min (v:Int).toNat IntKind.i64.bits))) 1=if a.testBit v=true∨U.testBit v=false then 1 else 0:=by
 have hX:=ot .or (a:Int) (bits .xor .i64 (-1) U)
 simp only at hX
 have hN:=ot .xor (-1) (U:Int)
 simp only at hN
 rw[hN]at hX
 generalize hx:bits .or .i64 a (bits .xor .i64 (-1) U)=x at hX
 have hxi:x=(BitVec.ofInt 64 x).toInt:=by rw[←hx];exact tB _ _ _
 have hm:min (v:Int).toNat IntKind.i64.bits=v:=by simp[IntKind.bits];omega
 rw[hm]
 have hs:x.fdiv (2^v)=((BitVec.ofInt 64 x).sshiftRight v).toInt:=by
  rw[BitVec.toInt_sshiftRight,←hxi,Int.shiftRight_eq_div_pow,Int.fdiv_eq_ediv_of_nonneg _ (Int.le_of_lt (Int.pow_pos (by decide)))]
  push_cast;rfl
 rw[hs,tB,ot]
 simp only[BitVec.ofInt_toInt]
 rw[hX]
 have h1:BitVec.ofInt 64 (1:Int)=1#64:=rfl
 have h2:BitVec.ofInt 64 (-1:Int)=BitVec.allOnes 64:=by decide
 rw[h1,h2]
 have zy:((BitVec.ofInt 64 (a:Int)|||BitVec.allOnes 64^^^BitVec.ofInt 64 (U:Int)).sshiftRight v).getLsbD 0=(a.testBit v|| !U.testBit v):=by
  rw[BitVec.getLsbD_sshiftRight]
  have e1:v+0<64:=by omega
  simp only[Nat.add_zero,show¬(64≤0)from by decide,decide_false,Bool.not_false,Bool.true_and,show v<64 by omega,if_true]
  rw[BitVec.getLsbD_or,BitVec.getLsbD_xor,BitVec.getLsbD_allOnes,BitVec.ofInt_natCast,BitVec.ofInt_natCast,BitVec.getLsbD_ofNat,BitVec.getLsbD_ofNat]
  simp[show v<64 by omega]
 have gY:∀y:BitVec 64,(y&&&1#64).toInt=if y.getLsbD 0 then 1 else 0:=by
  intro y
  have:y&&&1#64=if y.getLsbD 0 then 1#64 else 0#64:=by
   apply BitVec.eq_of_getLsbD_eq
   intro i hi
   rw[BitVec.getLsbD_and]
   by_cases h0:i=0
   ·subst h0;cases hb:y.getLsbD 0<;>simp[hb]
   ·have:(1#64).getLsbD i=false:=by simp[BitVec.getLsbD_one,h0]
    rw[this]
    cases y.getLsbD 0<;>simp[this]
  rw[this]
  cases y.getLsbD 0<;>decide
 rw[gY,zy]
 cases a.testBit v<;>cases U.testBit v<;>simp
theorem Ui{a U v:Nat}(ha:a<4611686018427387904)(hU:U<4611686018427387904)(hv:v<62){k:Value→Prop}(h:k (.bool (decide (a.testBit v=true∨U.testBit v=false)))):
  Un .xor (.int .i64 (U:Int)) fun v33=>aa .num .or (.int .i64 (a:Int)) v33 fun v34=>aa .num .shr v34 (.int .i64 (v:Int)) fun v35=>aa .num .and v35 (.int .i64 1) fun Xm=>aa .num .eql Xm (.int .i64 1) k:=by
 refine⟨_,rfl,_,rfl,?_⟩
 have h0:¬((v:Int)<0):=by omega
 refine⟨_,by simp only[eX,h0,if_false];rfl,_,rfl,?_⟩
 refine aa.gA ?_
 have hs:(if IntKind.i64.signed=true then(-1:Int)else IntKind.i64.max)= -1:=rfl
 rw[hs,Hg ha hU hv]
 by_cases hc:a.testBit v=true∨U.testBit v=false
 ·rw[if_pos hc];rw[decide_eq_true hc]at h;exact h
 ·rw[if_neg hc];rw[decide_eq_false hc]at h;exact h
end Go.Sx
set_option maxRecDepth 100000
namespace Go.Proofs
open Go Go.Sx
theorem gx(x:Value)(r:List Value)(i:Nat):br (x::r) (i+1)=br r i:=by cases x<;>rfl
def ir(n:Nat)(L:List (List Nat))(U a k:Nat):List Nat:=((List.range k).filter fun v=> !a.testBit v&&U.testBit v).map fun v=>aj.lvl n L a v+aj.B n (aj.lvl n L) (aj.aA a v true)
theorem GY{n:Nat}{L:List (List Nat)}{U a:Nat}:ir n L U a n=(aj.cV n U a).map fun v=>aj.lvl n L a v+aj.B n (aj.lvl n L) (aj.aA a v true):=by
 unfold ir aj.cV aj.bK
 rw[List.filter_filter]
 congr 1
 apply List.filter_congr
 intro v _
 cases a.testBit v<;>cases U.testBit v<;>rfl
theorem sq{n:Nat}{L:List (List Nat)}{U a k:Nat}:ir n L U a (k+1)=if a.testBit k=true∨U.testBit k=false then ir n L U a k else ir n L U a k++[aj.lvl n L a k+aj.B n (aj.lvl n L) (aj.aA a k true)]:=by
 unfold ir
 rw[List.range_succ,List.filter_append,List.map_append]
 cases h1:a.testBit k<;>cases h2:U.testBit k<;>simp[h1,h2]
def wg(l:List Nat):Value:=if l=[]then .int .i64 (-1)else .int .i64 ((aj.fx l:Nat):Int)
theorem Mx(n:Nat)(c:Nat→Nat→Nat)(M:Nat)(hc:∀a v,c a v≤M):∀f a,aj.My n c f a≤f*M
 |0,a=>by simp[aj.My]
 |f+1,a=>by
  rw[aj.My,Nat.succ_mul]
  by_cases h:aj.bK n a=[]
  ·rw[h];simp[aj.fx]
  ·have:=aj.mX (l:=(aj.bK n a).map fun v=>c a v+aj.My n c f (aj.aA a v true)) (by simpa using h)
   obtain⟨v,_,e⟩:=List.mem_map.1 this
   rw[←e]
   have h1:=hc a v
   have h2:=Mx n c M hc f (aj.aA a v true)
   omega
theorem GA{um:Value}{n:Nat}{L:List (List Nat)}{B:Hp}(h:tM um n L B)(a:Nat):aj.B n (aj.lvl n L) a<35184372088832:=by
 have h1:=Mx n (aj.lvl n L) 2199023255551 (fun a v=>Nat.le_of_lt (Bm h a v)) n a
 have h2:n*2199023255551≤12*2199023255551:=Nat.mul_le_mul_right _ h.WG
 unfold aj.B;omega
theorem xR{a U n:Nat}(hU:U<2^n)(h:∀v,v<n→¬(a.testBit v=false∧U.testBit v=true)):a&&&U=U:=by
 apply Nat.eq_of_testBit_eq;intro k
 rw[Nat.testBit_and]
 by_cases hk:k<n
 ·have:=h k hk
  cases h1:a.testBit k<;>cases h2:U.testBit k<;>simp_all
 ·have:U.testBit k=false:=Nat.testBit_lt_two_pow (Nat.lt_of_lt_of_le hU (Nat.pow_le_pow_right (by decide) (by omega)))
  rw[this];simp
theorem pV{um:Value}{n:Nat}{L:List (List Nat)}{B:Hp}(h:tM um n L B){bp bl bd:Nat}:∀(d a:Nat),(aj.cV n (aj.aU n L) a).length≤d→a<2^n→∀H,kP bp bl bd um n L (aj.aU n L) B H→
  Fc Tryz.prog 74 #[.pointer (some ⟨bp,0,none⟩),.int .i64 (a:Int)] H (fun r H'=>r=.int .i64 ((aj.B n (aj.lvl n L) a:Nat):Int)∧kP bp bl bd um n L (aj.aU n L) B H'):=by
 have hU:=aj.rZ n L
 have sX:=h.WG
 have kE:2^n≤2^12:=Nat.pow_le_pow_right (by decide) sX
 have zA:=aj.Fp h.oz (by omega)
 intro d
 induction d using Nat.strongRecOn with
 |_ d ih=>
  intro a hd ha H hp
  obtain⟨nC,k9,mr,nD,rfl,hM⟩:=hp
  refine aR fun g=>wz ?_
  refine Nil.ptr ?_
  refine ag.mk (Ld.mk zM rfl ?_)
  refine aa.iL (by simp[bA];omega) (by simp[bA];omega) ?_
  refine Nil.ptr ?_
  refine ag.mk (Ld.mk zM rfl ?_)
  have hBa:aj.B n (aj.lvl n L) a=aj.B n (aj.lvl n L) (a&&&aj.aU n L):=(aj.Q2 zA a).symm
  have Qr:aj.cV n (aj.aU n L) (a&&&aj.aU n L)=aj.cV n (aj.aU n L) a:=aj.jy _ _ _
  have TG:a&&&aj.aU n L<2^n:=Nat.lt_of_le_of_lt Nat.and_le_left ha
  have gz:(a&&&aj.aU n L) &&&aj.aU n L=a&&&aj.aU n L:=by rw[Nat.and_assoc,Nat.and_self]
  rw[hBa]
  rw[←Qr]at hd
  obtain⟨a',dF⟩:∃a',a'=a&&&aj.aU n L:=⟨_,rfl⟩
  rw[←dF]at TG hd gz⊢
  clear hBa Qr ha dF
  have aE:=GY (n:=n) (L:=L) (U:=aj.aU n L) (a:=a')
  have UK:aj.B n (aj.lvl n L) a'=aj.fx (ir n L (aj.aU n L) a' n):=by
   rw[aE]
   have:=aj.Wv zA a'
   rw[gz]at this
   exact this
  refine aa.cE (Br.dec (fun h0=>?_) (fun h0=>?_))
  ·refine aS.here ⟨?_,nC,k9,mr,nD,rfl,hM⟩
   have:aj.cV n (aj.aU n L) a'=[]:=by
    rw[List.eq_nil_iff_forall_not_mem]
    intro v hv
    obtain⟨_,h2,h3⟩:=aj.eA.1 hv
    rw[h0,h3]at h2;cases h2
   rw[UK,aE,this];rfl
  have hne:ir n L (aj.aU n L) a' n≠[]:=by
   rw[aE]
   intro e
   apply h0
   rw[←gz]
   refine xR hU fun v hv hh=>?_
   have:v∈aj.cV n (aj.aU n L) a':=aj.eA.2 ⟨hv,hh.1,hh.2⟩
   rw[List.map_eq_nil_iff.1 e]at this;simp at this
  refine Nil.ptr ?_
  refine ag.mk (Ld.mk zM rfl ?_)
  obtain⟨Lh,m2,vP,sY⟩:=hM
  cases hg:cR m2 a' with
  |some x=>
   have hx:=yX (f:=aj.B n (aj.lvl n L)) sY hg
   refine aN.hit (ke:=ki) (k:=a') Bt vP (by exact .tail _ (.tail _ (.head _))) hg fun y hy=>?_
   subst hy
   refine Ext.mk rfl (Ext.mk rfl (Br.yes (aS.here ⟨?_,nC,k9,mr,nD,rfl,Lh,m2,vP,sY⟩)))
   rw[hx];rfl
  |none=>
   refine aN.bK (ke:=ki) (k:=a') Bt vP (by exact .tail _ (.tail _ (.head _))) hg ?_
   refine Ext.mk rfl (Ext.mk rfl (Br.no (Nil.ptr ?_)))
   refine ag.mk (Ld.mk zM rfl ?_)
   refine⟨fun vs H=>∃k:Nat,vs=[wg (ir n L (aj.aU n L) a' k),.int .i64 (k:Int)]∧k≤n∧kP bp bl bd um n L (aj.aU n L) B H,fun vs _=>n-br vs 1,
    JE.mk ⟨0,rfl,Nat.zero_le _,nC,k9,mr,nD,rfl,Lh,m2,vP,sY⟩,?_⟩
   clear vP sY hg Lh nC k9 mr nD m2
   rintro ZO Xi H ⟨k,⟨⟩,hk,hp⟩ gs
   refine aa.dH (Br.dec (fun hlt=>?_) (fun hlt=>?_))
   ·intro J hJ
    have Nf:=hp
    obtain⟨nC,k9,mr,nD,rfl,hM⟩:=hp
    refine Nil.ptr ?_
    refine ag.mk (Ld.mk zM rfl ?_)
    refine Ui (by omega) (by omega) (by omega) ?_
    have zo:∀l H,l=ir n L (aj.aU n L) a' (k+1)→kP bp bl bd um n L (aj.aU n L) B H→J [wg l] H:=fun l H hl hp=>hJ _ _ fun gs=>by
     refine aa.inc ?_
     exact aB.mk ⟨k+1,by rw[hl],by omega,hp⟩ (by rw[gx,gx];show n-(((k:Int)+1).toNat)<n-((k:Int).toNat);omega)
    by_cases hc:a'.testBit k=true∨(aj.aU n L).testBit k=false
    ·rw[decide_eq_true hc]
     refine Br.yes (JE.mk (zo _ _ ?_ Nf))
     rw[sq,if_pos hc]
    ·rw[decide_eq_false hc]
     have WV:a'.testBit k=false∧(aj.aU n L).testBit k=true:=by
      cases h1:a'.testBit k<;>cases h2:(aj.aU n L).testBit k<;>simp_all
     have hmem:k∈aj.cV n (aj.aU n L) a':=aj.eA.2 ⟨hlt,WV.1,WV.2⟩
     refine Br.no (DR.self ?_)
     have hpk:2^k≤2^12:=Nat.pow_le_pow_right (by decide) (by omega)
     refine aa.uy (a:=1) (by simp[IntKind.bits];omega) (by rw[Nat.one_shiftLeft];simp[bA];omega) ?_
     rw[Nat.one_shiftLeft]
     refine aa.Jb (by simp[bA];omega) (by simp[bA];omega) ?_
     have Pq:a'|||2^k=aj.aA a' k true:=rfl
     rw[Pq]
     refine ae.fq (yQ h Nf TG hlt WV.1) ?_
     rintro r H1 ⟨rfl,sV⟩
     have hlen:(aj.cV n (aj.aU n L) (aj.aA a' k true)).length<d:=by
      have h1:(aj.cV n (aj.aU n L) (aj.aA a' k true)).length+1=(aj.cV n (aj.aU n L) a').length:=by
       unfold aj.cV aj.bK
       rw[List.filter_filter,List.filter_filter]
       refine aj.mq _ _ k (List.range n) List.nodup_range (List.mem_range.2 hlt) (by simp[WV]) (by simp[aj.ak]) fun y hy hne=>?_
       rw[aj.oU hne]
      omega
     refine ae.fq (ih _ hlen (aj.aA a' k true) (Nat.le_refl _) (aj.fG TG hlt) H1 sV) ?_
     rintro r H2 ⟨rfl,kE⟩
     have WX:=Bm h a' k
     have Sw:=GA h (aj.aA a' k true)
     refine aa.dx ?_
     have hstep:=sq (n:=n) (L:=L) (U:=aj.aU n L) (a:=a') (k:=k)
     rw[if_neg hc]at hstep
     generalize aj.lvl n L a' k+aj.B n (aj.lvl n L) (aj.aA a' k true)=x at hstep
     unfold wg
     by_cases hl:ir n L (aj.aU n L) a' k=[]
     ·rw[if_pos hl]
      refine aa.lss (df.mk true (fun e=>by simp at e) (fun _=>rfl) fun gs=>Br.yes (JE.mk ?_))
      have:=zo [x] _ (by rw[hstep,hl];rfl) kE
      simpa[wg,aj.fx]using this
     ·rw[if_neg hl]
      have WR:=aj.Bj (ir n L (aj.aU n L) a' k) x
      rw[if_neg hl,←hstep]at WR
      have Yc:ir n L (aj.aU n L) a' (k+1)≠[]:=by rw[hstep];simp
      have zu:=zo _ H2 rfl kE
      unfold wg at zu
      rw[if_neg Yc,WR]at zu
      have hneg:decide (((aj.fx (ir n L (aj.aU n L) a' k):Nat):Int)<0)=false:=decide_eq_false (by omega)
      by_cases hx:x<aj.fx (ir n L (aj.aU n L) a' k)
      ·rw[Nat.min_eq_right (by omega)]at zu
       refine aa.lss ?_
       rw[hneg]
       exact df.mk true (fun _=>aa.dH ⟨rfl,by rw[decide_eq_true hx]⟩) (fun e=>by simp at e) fun gs=>Br.yes (JE.mk zu)
      ·rw[Nat.min_eq_left (by omega)]at zu
       refine aa.lss ?_
       rw[hneg]
       exact df.mk false (fun _=>aa.dH ⟨rfl,by rw[decide_eq_false hx]⟩) (fun e=>by simp at e) fun gs=>Br.no (JE.mk zu)
   ·have:k=n:=by omega
    subst this
    obtain⟨nC,k9,mr,nD,rfl,Lh,m2,vP,sY⟩:=hp
    refine Nil.ptr ?_
    refine ag.mk (Ld.mk zM rfl ?_)
    unfold wg
    rw[if_neg hne,←UK]
    refine aN.bS (ke:=ki) (vr:=Wz) (b:=bd) (val:=.int .i64 ((aj.B k (aj.lvl k L) a':Nat):Int)) (k:=a') (x:=aj.B k (aj.lvl k L) a') Bt Ov vP rfl fun es' ca zB=>⟨_,.tail (.tail (.head _)),?_⟩
    have Yi:∀x∈fm m2 a' (aj.B k (aj.lvl k L) a'),x.2=aj.B k (aj.lvl k L) x.1:=yT (f:=aj.B k (aj.lvl k L)) sY
    exact aS.here ⟨rfl,nC,k9,es',ca,rfl,Lh,_,zB,Yi⟩
end Go.Proofs
set_option maxRecDepth 100000
namespace Go.Proofs
open Go Go.Sx
def ZK(v:Value)(ts:List Tb)(B:Hp)(r:Value)(H:Hp):Prop:=
 (pP ts∧∃(bp bl bd n:Nat) (L:List (List Nat)) (N:Hp),ts=GR n L∧(L=[]→n=0)∧n≤16∧(∀ws∈L,aj.dh n ws)∧r=.tuple #[.pointer (some ⟨bp,0,none⟩),.int .i64 0]∧kP bp bl bd v n L (aj.aU n L) (N++B) H)
 ∨(¬pP ts∧r=.tuple #[.pointer none,.int .i64 5])
theorem qJ(n:Nat)(L:List (List Nat)):Gs n L #[] 0 #[] 0:=⟨⟨[],aN.empty,by simp⟩,⟨[],aN.empty,by simp⟩⟩
theorem AU{n:Nat}{L:List (List Nat)}{k:Nat}(h:k<L.length):aj.aU n (L.take (k+1))=aj.aU n (L.take k)|||aj.nX n L[k]:=by
 unfold aj.aU
 rw[List.take_add_one,List.getElem?_eq_getElem h,Option.toList_some,List.foldl_append];rfl
theorem H6{B:Hp}{v:Value}{ts:List Tb}(ht:dZ B v ts)(bH:ts.length<4398046511104):Px Tryz.prog 72 #[v] B (ZK v ts B):=by
 obtain⟨va,vc,vl,rfl⟩:∃a c l,v=.slice a l c:=by
  obtain⟨rs,h1,_⟩:=ht
  obtain⟨a,c,e,_⟩:=h1.shape
  exact⟨a,c,_,e⟩
 refine aR fun g=>Iv ?_
 intro b1 _ b2 _
 refine Build.mk (cs:=[.slice va vl vc,.int .i64 0,.int .i64 0,.map (some b1),.map (some b2)]) (by kernel_rfl) ?_
 intro bp _
 generalize hvs:Value.slice va vl vc=vv at ht⊢
 refine ht.bc (aa.cE (b:=0) (Br.dec (fun h0=>?_) (fun h0=>?_)))
 ·have BC:ts=[]:=List.eq_nil_of_length_eq_zero h0
  subst BC
  refine⟨_,_,rfl,aM.cons aM.swap,(by repeat (first|exact aT.refl _|apply aT.cons|apply aT.app)),Or.inl ⟨by simp[pP],bp,b1,b2,0,[],[],rfl,fun _=>rfl,by omega,by simp,rfl,_,_,_,_,?_,qJ _ _⟩⟩
  subst hvs;rfl
 refine ae.pq (B:=B) (Kk ht bH) ?_
 rintro r N ⟨s,rfl⟩
 refine Ext.two ?_
 by_cases hO:pP ts
 case neg=>
  rw[if_neg hO]
  exact aa.uk (a:=5) (b:=0) (Br.dec (fun _=>tL.mk (by repeat (first|exact aT.refl _|apply aT.cons|apply aT.app)) (.inr ⟨hO,rfl⟩)) (fun h=>absurd (by decide) h))
 rw[if_pos hO]
 refine aa.uk (a:=0) (b:=0) (Br.dec (fun h=>absurd rfl h) (fun _=>?_))
 obtain⟨n,L,nv,rfl,hne,hf⟩:=FM hO (by intro e;rw[e]at h0;exact h0 rfl)
 rw[List.length_map]at bH h0
 obtain⟨w0,Jc⟩:∃w0,L[0]? =some w0:=⟨_,List.getElem?_eq_getElem (List.length_pos_iff.2 hne)⟩
 refine ht.Tn (i:=0) (t:=⟨n,w0⟩) (by rw[List.getElem?_map,Jc];rfl) zS ?_
 simp only
 refine Nil.ptr (ag.mk ?_)
 refine St.one (c:=#[vv,.int .i64 0,.int .i64 0,.map (some b1),.map (some b2)]) (c':=#[vv,.int .i64 (n:Int),.int .i64 0,.map (some b1),.map (some b2)]) (H':=(bp,.cells #[vv,.int .i64 (n:Int),.int .i64 0,.map (some b1),.map (some b2)] 137 (0,0))::(b2,.map #[] 0)::(b1,.map #[] 0)::(N++B)) (by subst hvs;exact .head _) rfl (by simp) rfl ?_
 refine ht.bc ?_
 rw[List.length_map]
 refine⟨fun vs H=>∃(k:Nat) (N:Hp),vs=[.int .i64 (k:Int)]∧k≤L.length∧H=(bp,.cells #[vv,.int .i64 (n:Int),.int .i64 ((aj.aU n (L.take k):Nat):Int),.map (some b1),.map (some b2)] 137 (0,0))::(b2,.map #[] 0)::(b1,.map #[] 0)::(N++B),
  fun vs _=>L.length-br vs 0,JE.mk ⟨0,N,rfl,by omega,rfl⟩,?_⟩
 clear N
 rintro w H ⟨k,N,⟨⟩,hk,rfl⟩ gs
 refine aa.dH (Br.dec (fun hlt=>?_) (fun hlt=>?_))
 ·have hg:(L.map fun ws=>(⟨n,ws⟩:Tb))[k]? =some ⟨n,L[k]⟩:=by rw[List.getElem?_map,List.getElem?_eq_getElem hlt];rfl
  have nx:=hf L[k] (List.getElem_mem hlt)
  refine ht.ld hg zS fun s hw=>?_
  intro b3 _
  refine St.p ?_ ?_
  ·have:=aG hw;simpa[Value.oneCell']using this
  refine av.q ?_
  refine ae.eq (B:=B) (r9 (v:=.agg (List.toArray [.int .i64 (n:Int),s])) (t:=⟨n,L[k]⟩) ⟨s,rfl,hw⟩) ?_
  rw[if_pos (show TF ⟨(n:Int),L[k]⟩from⟨by simp,by simpa using nx⟩)]
  refine Ext.two ?_
  simp only[Int.toNat_natCast]
  have acV:2^n≤2^16:=Nat.pow_le_pow_right (n:=2) (by decide) nv
  have UE:aj.nX n L[k]<2^n:=aj.lz n L[k] n
  have hus:=aj.rZ n (L.take k)
  refine Nil.ptr ?_
  refine ag.mk (Ld.mk zM rfl ?_)
  refine aQ.q ?_
  refine aa.Jb (by simp[bA];omega) (by simp[bA];omega) ?_
  rw[←AU hlt]
  refine Nil.ptr (ag.mk ?_)
  refine St.one (c:=#[vv,.int .i64 (n:Int),.int .i64 ((aj.aU n (L.take k):Nat):Int),.map (some b1),.map (some b2)]) (c':=#[vv,.int .i64 (n:Int),.int .i64 ((aj.aU n (L.take (k+1)):Nat):Int),.map (some b1),.map (some b2)]) (by repeat (first|exact cD.head _|apply cD.tail|apply cD.bO)) rfl (by simp) rfl ?_
  refine aa.inc ?_
  exact aB.of .tail ⟨k+1,N,rfl,by omega,rfl⟩ (by simp[br];omega)
 ·have:k=L.length:=by omega
  subst this
  rw[List.take_length]
  refine⟨_,_,rfl,aM.cons aM.swap,(by repeat (first|exact aT.refl _|apply aT.cons|apply aT.app)),Or.inl ⟨hO,bp,b1,b2,n,L,N,rfl,fun e=>absurd e hne,nv,hf,rfl,_,_,_,_,rfl,qJ _ _⟩⟩
theorem Ko{n:Nat}{c:Nat→Nat→Nat}{f a v:Nat}(hv:v∈aj.bK n a)(he:c a v+aj.B n c (aj.aA a v true)=aj.B n c a)(hm:∀u∈aj.bK n a,u<v→c a u+aj.B n c (aj.aA a u true)≠aj.B n c a):
    aj.ord n c (f+1) a=v::aj.ord n c f (aj.aA a v true):=by
  obtain⟨u,h1,h2,h3,h4⟩:=aj.sD (c:=c) (f:=f) (List.ne_nil_of_mem hv)
  rcases Nat.lt_trichotomy u v with h|h|h
  · exact absurd h2 (hm u h1 h)
  · rw[h4,h]
  · exact absurd he (h3 v hv h)
theorem Ih{um:Value}{n:Nat}{L:List (List Nat)}{B:Hp}{bp bl bd a:Nat}(ha:a<4611686018427387904){H:Hp}(hp:kP bp bl bd um n L 0 B H):
    Fc Tryz.prog 74 #[.pointer (some ⟨bp,0,none⟩),.int .i64 (a:Int)] H (fun r H'=>r=.int .i64 0∧H'=H):=by
  obtain⟨nC,k9,mr,nD,rfl,hM⟩:=hp
  refine aR fun g=>wz ?_
  refine Nil.ptr ?_
  refine ag.mk (Ld.mk zM rfl ?_)
  refine aa.iL (b:=0) (by simp[bA];omega) (by simp[bA]) ?_
  refine Nil.ptr ?_
  refine ag.mk (Ld.mk zM rfl ?_)
  exact aa.cE (b:=0) (Br.T (aS.here ⟨rfl,rfl⟩))
def Wu(ts:List Tb)(B:Hp)(r:Value)(H:Hp):Prop:=
  (¬pP ts∧r=.tuple #[.int .i64 0,.slice none 0 0,.int .i64 5])∨
  (pP ts∧∃(n:Nat) (L:List (List Nat)),ts=GR n L∧(L=[]→n=0)∧n≤16∧(∀ws∈L,aj.dh n ws)∧
    ((12<n∧r=.tuple #[.int .i64 0,.slice none 0 0,.int .i64 6])∨
     (n≤12∧∃(s:Value) (C N:Hp),r=.tuple #[.int .i64 ((aj.B n (aj.lvl n L) 0:Nat):Int),s,.int .i64 0]∧aK 3 .i64 s (iw (aj.ord n (aj.lvl n L) n 0)) C∧H=C++(N++B))))
structure BSt(n:Nat)(c:Nat→Nat→Nat)(s:Value)(a:Nat)(l:List Nat)(C:Hp):Prop where
  own:aK 3 .i64 s (iw l) C
  lt:a<2^n
  len:(aj.bK n a).length+l.length=n
  pre:l++aj.ord n c (n-l.length) a=aj.ord n c n 0
theorem Gj{a v:Nat}:(a>>>v&&&1=0)↔a.testBit v=false:=by
  have:=Nat.testBit_eq_decide_div_mod_eq (x:=a) (i:=v)
  rw[this,Nat.and_one_is_mod,Nat.shiftRight_eq_div_pow]
  simp
theorem Pz{B:Hp}{v:Value}{ts:List Tb}(ht:dZ B v ts)(bH:ts.length<33554432):Px Tryz.prog 26 #[v] B (Wu ts B):=by
  refine aR fun g=>IX ?_
  refine ae.pq (H6 ht (by omega)) ?_
  rintro r N0 (⟨hO,bp,bl,bd,n,L,N,rfl,Ts,nv,hf,rfl,hp⟩|⟨hO,rfl⟩)
  case inr=>exact Ext.mk rfl (Ext.mk rfl (aa.uk (a:=5) (b:=0) (Br.dec (fun _=>tL.mk (by repeat (first|exact aT.refl _|apply aT.cons|apply aT.app)) (.inl ⟨hO,rfl⟩)) (fun h=>absurd (by decide) h))))
  generalize N0++B=H2 at hp⊢
  clear N0
  rw[nV]at bH
  have Nf:=hp
  obtain⟨nC,k9,mr,nD,rfl,hM⟩:=hp
  refine Ext.mk rfl (Ext.mk rfl (aa.uk (a:=0) (b:=0) (Br.dec (fun h=>absurd rfl h) (fun _=>?_))))
  refine Nil.ptr ?_
  refine ag.mk (Ld.mk zM rfl ?_)
  refine aa.iU (b:=12) (Br.dec (fun Pb=>tL.mk (by repeat (first|exact aT.refl _|apply aT.cons|apply aT.app)) (.inr ⟨hO,n,L,rfl,Ts,nv,hf,.inl ⟨Pb,rfl⟩⟩)) (fun Pb=>?_))
  clear hM
  have sX:n≤12:=by omega
  have hOK:L≠[]→tM v n L (N++B):=fun hne=>⟨ht.mono zS,hf,hne,bH,sX⟩
  have kE:2^n≤2^12:=Nat.pow_le_pow_right (by decide) sX
  have hm0:(aj.bK n 0).length=n:=by
    have:aj.bK n 0=List.range n:=by unfold aj.bK;rw[List.filter_eq_self];simp
    rw[this,List.length_range]
  refine⟨fun vs H=>∃(s:Value) (a:Nat) (l:List Nat) (C H1:Hp),vs=[s,.int .i64 (a:Int)]∧BSt n (aj.lvl n L) s a l C∧kP bp bl bd v n L (aj.aU n L) (N++B) H1∧H=C++H1,
    fun vs _=>(aj.bK n (br vs 1)).length,JE.mk ⟨_,0,[],[],_,rfl,⟨aK.nil,Nat.two_pow_pos n,by rw[hm0];rfl,by simp⟩,Nf,rfl⟩,?_⟩
  clear Nf nC k9 mr nD
  rintro ZQ w15 H ⟨s,a,l,C,H1,⟨⟩,hb,hp,rfl⟩ gs
  have Nf:=hp
  obtain⟨nC,k9,mr,nD,rfl,hM⟩:=hp
  refine hb.own.bc ?_
  rw[ai]
  refine Nil.ptr ?_
  refine ag.mk (Ld.mk zM rfl ?_)
  have QD:=hb.len
  refine aa.dH (Br.dec (fun hlt=>?_) (fun hlt=>?_))
  · have Yf:aj.bK n a≠[]:=by intro e;rw[e]at QD;simp at QD;omega
    have hne:L≠[]:=fun e=>by have:=Ts e;omega
    have qP:=hOK hne
    have WQ:n-l.length=n-l.length-1+1:=by omega
    refine Nil.ptr ?_
    refine ag.mk (Ld.mk zM rfl ?_)
    refine⟨fun vs H=>∃(k:Nat) (H1:Hp),vs=[ZQ,.int .i64 (a:Int),.int .i64 (k:Int)]∧k≤n∧(∀u∈aj.bK n a,u<k→aj.lvl n L a u+aj.B n (aj.lvl n L) (aj.aA a u true)≠aj.B n (aj.lvl n L) a)∧kP bp bl bd v n L (aj.aU n L) (N++B) H1∧H=C++H1,
      fun vs _=>n-br vs 2,JE.mk ⟨0,_,rfl,by omega,fun u _ h=>by omega,Nf,rfl⟩,?_⟩
    clear hM Nf
    rintro w28 w29 w30 H ⟨k,H1,⟨⟩,hk,hmin,hp,rfl⟩ gs
    refine aa.dH (Br.dec (fun hlk=>?_) (fun hlk=>?_))
    · intro J hJ
      have hpk:2^k≤2^12:=Nat.pow_le_pow_right (by decide) (by omega)
      have hno:∀H1,¬(a.testBit k=false∧aj.lvl n L a k+aj.B n (aj.lvl n L) (aj.aA a k true)=aj.B n (aj.lvl n L) a)→kP bp bl bd v n L (aj.aU n L) (N++B) H1→J [.bool false] (C++H1):=fun H1 hx hp=>hJ _ _ fun gs=>by
        refine Br.no (aa.inc ?_)
        refine aB.mk ⟨k+1,H1,rfl,by omega,fun u hu hlu=>?_,hp,rfl⟩ (by rw[gx,gx,gx,gx];show n-(((k:Int)+1).toNat)<n-((k:Int).toNat);omega)
        by_cases e:u=k
        · subst e;exact fun h=>hx ⟨(aj.ct.1 hu).2,h⟩
        · exact hmin u hu (by omega)
      refine DR.self ?_
      have adN:a<4611686018427387904:=by have:=hb.lt;omega
      refine aa.j7 (by simp[bA];omega) (aa.iL (b:=1) (by simp[bA];exact Nat.lt_of_le_of_lt (Nat.shiftRight_le _ _) (by omega)) (by decide) (aa.cE (b:=0) ?_))
      refine Br.dec (fun h0=>?_) (fun h0=>JE.mk (hno H1 (fun h=>h0 (Gj.2 h.1)) hp))
      have hak:=Gj.1 h0
      refine aa.uy (a:=1) (by simp[IntKind.bits];omega) (by rw[Nat.one_shiftLeft];simp[bA];omega) ?_
      rw[Nat.one_shiftLeft]
      refine aa.Jb (by simp[bA];omega) (by simp[bA];omega) ?_
      have Pq:a|||2^k=aj.aA a k true:=rfl
      rw[Pq]
      intro F
      refine ae.fq (yQ qP hp hb.lt hlk hak) ?_
      rintro r H2 ⟨rfl,kE⟩
      intro F
      refine ae.fq (pV qP _ (aj.aA a k true) (Nat.le_refl _) (aj.fG hb.lt hlk) H2 kE) ?_
      rintro r H3 ⟨rfl,Nc⟩
      have WX:=Bm qP a k
      have Sw:=GA qP (aj.aA a k true)
      refine aa.dx ?_
      intro F
      refine ae.fq (pV qP _ a (Nat.le_refl _) hb.lt H3 Nc) ?_
      rintro r H4 ⟨rfl,Tp⟩
      refine aa.cE ?_
      by_cases he:aj.lvl n L a k+aj.B n (aj.lvl n L) (aj.aA a k true)=aj.B n (aj.lvl n L) a
      · rw[decide_eq_true he]
        have hmem:k∈aj.bK n a:=aj.ct.2 ⟨hlk,hak⟩
        have OJ:=Ko (f:=n-l.length-1) hmem he hmin
        have hml:=aj.fJ hmem
        refine ay.mk (JE.mk (hJ _ _ fun gs=>Br.yes ?_))
        refine aq.int (e:=3) (by kernel_rfl) (by kernel_rfl) (by kernel_rfl) fun xb=>?_
        refine aK.app (A:=[_]) hb.own (by exact .head _) (by simp;omega) (by simp;omega) fun v' C' ho=>?_
        refine aa.uy (a:=1) (by simp[IntKind.bits];omega) (by rw[Nat.one_shiftLeft];simp[bA];omega) ?_
        rw[Nat.one_shiftLeft]
        refine aa.Jb (by simp[bA];omega) (by simp[bA];omega) ?_
        rw[Pq]
        refine aB.of .right ⟨v',aj.aA a k true,l++[k],C',H4,rfl,⟨by simpa[iw]using ho,aj.fG hb.lt hlk,by simp;omega,?_⟩,Tp,rfl⟩ (by rw[gx,gx];show(aj.bK n (aj.aA a k true)).length<(aj.bK n a).length;omega)
        have:=hb.pre
        rw[WQ,OJ]at this
        rw[List.length_append,List.length_singleton,Nat.sub_add_eq,List.append_assoc]
        exact this
      · rw[decide_eq_false he]
        exact ay.mk (JE.mk (hno H4 (fun h=>he h.2) Tp))
    · obtain⟨u,h1,h2,_⟩:=aj.sD (c:=aj.lvl n L) (f:=0) Yf
      exact absurd h2 (hmin u h1 (by have:=(aj.ct.1 h1).1;omega))
  · have k7:l.length=n:=by omega
    have hl:l=aj.ord n (aj.lvl n L) n 0:=by
      have:=hb.pre
      rw[k7,Nat.sub_self]at this
      simpa[aj.ord]using this
    have hown:=hb.own
    rw[hl]at hown
    by_cases hne:L=[]
    · have hn:=Ts hne
      subst hne
      subst hn
      refine ae.fq (Ih (a:=0) (by omega) Nf) ?_
      rintro r H3 ⟨rfl,rfl⟩
      exact⟨_,_,rfl,.refl _,(by repeat (first|exact aT.refl _|apply aT.cons|apply aT.app)),.inr ⟨hO,0,[],rfl,Ts,nv,hf,.inr ⟨sX,_,C,(_::_::_::N),rfl,hown,rfl⟩⟩⟩
    · refine ae.fq (pV (hOK hne) _ 0 (Nat.le_refl _) (Nat.two_pow_pos n) _ Nf) ?_
      rintro r H3 ⟨rfl,rR,we,es4,ck4,rfl,SI⟩
      exact⟨_,_,rfl,.refl _,(by repeat (first|exact aT.refl _|apply aT.cons|apply aT.app)),.inr ⟨hO,n,L,rfl,Ts,nv,hf,.inr ⟨sX,_,C,(_::_::_::N),rfl,hown,rfl⟩⟩⟩
end Go.Proofs
namespace MR
abbrev It:=Int×Int
def prec(a b:It):Bool:=decide (a.2<b.2)||(a.2==b.2&&decide (a.1<b.1))
theorem sA{a b:It}:prec a b=true↔a.2<b.2∨a.2=b.2∧a.1<b.1:=by simp[prec]
theorem kg{a b:It}:prec a b=false↔¬(a.2<b.2∨a.2=b.2∧a.1<b.1):=by rw[←sA];simp
theorem lR(a:It):prec a a=false:=by rw[kg];omega
theorem og{a b:It}(h:prec a b=true):prec b a=false:=by rw[sA]at h;rw[kg];omega
theorem le_trans{a b c:It}(h1:prec b a=false)(h2:prec c b=false):prec c a=false:=by rw[kg]at*;omega
theorem Bo{a b c:It}(h1:prec a b=true)(h2:prec c b=false):prec c a=false:=by rw[sA]at h1;rw[kg]at*;omega
def fU(V:Nat→It)(i:Nat)(b:It):Nat→It:=fun j=>if j=i then b else V j
def E(V:Nat→It)(j:Nat):Prop:=prec (V j) (V ((j-1) /2))=false
def wv(n:Nat)(V:Nat→It)(i:Nat):Prop:=
 (∀j,0<j→j<n→j≠i→(j-1) /2≠i→E V j)∧(∀j,0<j→j<n→(j-1) /2=i→0<i→prec (V j) (V ((i-1) /2))=false)
def nq(n:Nat)(V:Nat→It)(i:Nat):Prop:=∀j,0<j→j<n→(j-1) /2=i→E V j
def PV(n:Nat)(V:Nat→It)(i:Nat):Prop:=
 (∀j,0<j→j<n→(j-1) /2≠i→E V j)∧(∀j,0<j→j<n→(j-1) /2=i→0<i→prec (V j) (V ((i-1) /2))=false)
def Ord(n:Nat)(V:Nat→It):Prop:=∀j,0<j→j<n→E V j
theorem Nw{n i:Nat}{V:Nat→It}(hi:0<i)(hn:i<n)(h:wv n V i)(ha:prec (V i) (V ((i-1) /2))=true):
  wv n (fU (fU V i (V ((i-1) /2))) ((i-1) /2) (V i)) ((i-1) /2)∧nq n (fU (fU V i (V ((i-1) /2))) ((i-1) /2) (V i)) ((i-1) /2):=by
 obtain⟨h1,h2⟩:=h
 have hq:(i-1) /2≠i:=by omega
 generalize hqd:(i-1) /2=q at*
 have hqi:q<i:=by omega
 refine⟨⟨?_,?_⟩,?_⟩
 ·intro j j0 jn jq jp
  unfold E fU
  rw[if_neg jq,if_neg jp]
  by_cases e1:j=i
  ·exact absurd (by rw[e1,hqd]) jp
  ·rw[if_neg e1]
   by_cases e2:(j-1) /2=i
   ·rw[if_pos e2];exact h2 j j0 jn e2 hi
   ·rw[if_neg e2];exact h1 j j0 jn e1 e2
 ·intro j j0 jn jp q0
  unfold fU
  have X3:(q-1) /2≠q:=by omega
  have X2:(q-1) /2≠i:=by omega
  rw[if_neg X3,if_neg X2]
  have Tv:j≠q:=by omega
  rw[if_neg Tv]
  have RZ:E V q:=h1 q q0 (by omega) hq (by omega)
  by_cases e1:j=i
  ·rw[if_pos e1];exact RZ
  ·rw[if_neg e1]
   have:=h1 j j0 jn e1 (by omega)
   unfold E at this RZ
   rw[jp]at this
   exact le_trans RZ this
 ·intro j j0 jn jp
  unfold E fU
  rw[jp,if_pos rfl]
  have Tv:j≠q:=by omega
  rw[if_neg Tv]
  by_cases e1:j=i
  ·rw[if_pos e1];exact og ha
  ·rw[if_neg e1]
   have:=h1 j j0 jn e1 (by omega)
   unfold E at this
   rw[jp]at this
   exact Bo ha this
theorem Nx{n i:Nat}{V:Nat→It}(h:wv n V i)(ha:i=0∨prec (V i) (V ((i-1) /2))=false):PV n V i:=by
 refine⟨fun j j0 jn jp=>?_,h.2⟩
 by_cases e:j=i
 ·subst e;rcases ha with ha|ha
  ·omega
  ·exact ha
 ·exact h.1 j j0 jn e jp
theorem vX{n i:Nat}{V:Nat→It}(h:PV n V i)(hc:nq n V i):Ord n V:=fun j j0 jn=>by
 by_cases e:(j-1) /2=i
 ·exact hc j j0 jn e
 ·exact h.1 j j0 jn e
def vB(n:Nat)(V:Nat→It)(i:Nat):Nat:=if(decide (2*i+1+1<n) &&prec (V (2*i+1+1)) (V (2*i+1)))=true then 2*i+1+1 else 2*i+1
theorem qj(n:Nat)(V:Nat→It)(i:Nat):vB n V i=2*i+1∨vB n V i=2*i+2∧2*i+2<n:=by
 unfold vB;split
 ·rename_i h;simp only[Bool.and_eq_true,decide_eq_true_eq]at h;right;omega
 ·left;rfl
theorem vA{n i j:Nat}{V:Nat→It}(j0:0<j)(jn:j<n)(jp:(j-1) /2=i):prec (V j) (V (vB n V i))=false:=by
 unfold vB
 split
 ·rename_i h
  simp only[Bool.and_eq_true,decide_eq_true_eq]at h
  rcases(show j=2*i+1∨j=2*i+1+1 by omega)with rfl|rfl
  ·exact og h.2
  ·exact lR _
 ·rename_i h
  rcases(show j=2*i+1∨j=2*i+1+1 by omega)with rfl|rfl
  ·exact lR _
  ·cases hh:prec (V (2*i+1+1)) (V (2*i+1))
   ·rfl
   ·exact absurd (by simp[hh,jn]) h
theorem H8{n i:Nat}{V:Nat→It}(h:PV n V i)(hk:vB n V i<n)(ha:prec (V (vB n V i)) (V i)=true):
  PV n (fU (fU V i (V (vB n V i))) (vB n V i) (V i)) (vB n V i):=by
 have hl:∀j,0<j→j<n→(j-1) /2=i→prec (V j) (V (vB n V i))=false:=fun j=>vA
 have hkc:=qj n V i
 generalize vB n V i=c at*
 obtain⟨h1,h2⟩:=h
 have YG:(c-1) /2=i:=by omega
 have hc0:0<c:=by omega
 have nL:c≠i:=by omega
 refine⟨?_,?_⟩
 ·intro j j0 jn jp
  unfold E fU
  rw[if_neg jp]
  by_cases e1:j=c
  ·rw[if_pos e1,if_pos (by rw[e1];exact YG)];exact og ha
  ·rw[if_neg e1]
   by_cases e2:j=i
   ·rw[if_pos e2]
    have:(j-1) /2≠i:=by omega
    rw[if_neg this,e2];exact h2 c hc0 hk YG (by omega)
   ·rw[if_neg e2]
    by_cases e3:(j-1) /2=i
    ·rw[if_pos e3];exact hl j j0 jn e3
    ·rw[if_neg e3];exact h1 j j0 jn e3
 ·intro j j0 jn jp _
  unfold fU
  rw[YG]
  have:j≠c:=by omega
  have e2:j≠i:=by omega
  rw[if_neg this,if_neg e2,if_neg (fun e=>nL e.symm),if_pos rfl]
  have:=h1 j j0 jn (by omega)
  unfold E at this
  rwa [jp]at this
theorem H9{n i:Nat}{V:Nat→It}(h:PV n V i)(ha:n≤vB n V i∨prec (V (vB n V i)) (V i)=false):Ord n V:=by
 refine vX h fun j j0 jn jp=>?_
 have hl:=vA (V:=V) j0 jn jp
 rcases ha with ha|ha
 ·rcases qj n V i with h|h<;>omega
 ·unfold E;rw[jp];exact le_trans ha hl
theorem N9{n:Nat}{V:Nat→It}(h:Ord n V):∀j,j<n→prec (V j) (V 0)=false:=by
 intro j
 induction j using Nat.strongRecOn with
 |_ j ih=>
  intro jn
  by_cases j0:j=0
  ·subst j0;exact lR _
  ·exact le_trans (ih ((j-1) /2) (by omega) (by omega)) (h j (by omega) jn)
def aY(l:List It)(j:Nat):It:=l.getD j (0,0)
theorem PD{l:List It}{j:Nat}(h:j<l.length):l[j]? =some (aY l j):=by simp[aY,List.getD,h]
theorem fR{l:List It}{i:Nat}(b:It)(h:i<l.length):aY (l.set i b)=fU (aY l) i b:=by
 funext j
 unfold aY fU
 simp only[List.getD,List.getElem?_set]
 by_cases e:i=j
 ·subst e;simp[h]
 ·rw[if_neg e,if_neg (fun x=>e x.symm)]
theorem n9{l:List It}{i:Nat}(h:i<l.length):l.set i (aY l i)=l:=by
 apply List.ext_getElem?;intro j;rw[List.getElem?_set];by_cases e:i=j
 ·subst e;simp[h,aY,List.getD]
 ·simp[e]
theorem swap_perm{l:List It}{i q:Nat}(hi:i<l.length)(hq:q<l.length)(hne:q≠i):((l.set i (aY l q)).set q (aY l i)).Perm l:=by
 rw[List.perm_iff_count]
 intro x
 have g1:l[i]=aY l i:=by simp[aY,List.getD,hi]
 have g2:l[q]=aY l q:=by simp[aY,List.getD,hq]
 have g3:(l.set i (aY l q))[q]'(by simp[hq])=aY l q:=by rw[List.getElem_set_ne (fun e=>hne e.symm)];exact g2
 rw[List.count_set (by simp[hq]),List.count_set hi,g1,g3]
 have hc:aY l i=x→0<l.count x:=fun e=>by rw[List.count_pos_iff,←e,←g1];exact List.getElem_mem hi
 by_cases e1:aY l i=x
 ·have:=hc e1
  by_cases e2:aY l q=x<;>simp[e1,e2]<;>omega
 ·by_cases e2:aY l q=x<;>simp[e1,e2]
def iH(l:List It):Prop:=(l.map Prod.fst).Nodup
theorem iH.perm{l l':List It}(h:iH l)(p:l'.Perm l):iH l':=(p.map _).nodup_iff.2 h
theorem iH.inj{l:List It}(h:iH l){i j:Nat}(hi:i<l.length)(hj:j<l.length)(e:(aY l i).1=(aY l j).1):i=j:=by
 unfold iH at h
 have hp:=List.pairwise_iff_getElem.1 h
 have g:∀k (hk:k<l.length),(l.map Prod.fst)[k]'(by simpa using hk)=(aY l k).1:=fun k hk=>by simp[aY,List.getD,hk]
 rcases Nat.lt_trichotomy i j with hlt|rfl|hlt
 ·have:=hp i j (by simpa using hi) (by simpa using hj) hlt
  rw[g i hi,g j hj]at this;exact absurd e this
 ·rfl
 ·have:=hp j i (by simpa using hj) (by simpa using hi) hlt
  rw[g i hi,g j hj]at this;exact absurd e.symm this
theorem fY{l:List It}{x:Int}:x∈l.map Prod.fst↔∃j,j<l.length∧(aY l j).1=x:=by
 rw[List.mem_iff_getElem]
 constructor
 ·rintro⟨j,hj,e⟩
  have hj':j<l.length:=by simpa using hj
  exact⟨j,hj',by simpa[aY,List.getD,hj']using e⟩
 ·rintro⟨j,hj,e⟩
  exact⟨j,by simpa using hj,by simpa[aY,List.getD,hj]using e⟩
def Ay(f:Int→Option Nat)(x:Int)(p:Option Nat):Int→Option Nat:=fun y=>if y=x then p else f y
def kT(l:List It)(f:Int→Option Nat)(i:Nat):Prop:=(∀j,j<l.length→j≠i→f (aY l j).1=some j)∧∀x,x∉l.map Prod.fst→f x=none
def Cons(l:List It)(f:Int→Option Nat):Prop:=(∀j,j<l.length→f (aY l j).1=some j)∧∀x,x∉l.map Prod.fst→f x=none
theorem kT.done{l:List It}{f:Int→Option Nat}{i:Nat}(h:kT l f i)(ho:iH l)(hi:i<l.length):Cons l (Ay f (aY l i).1 (some i)):=by
 refine⟨fun j hj=>?_,fun x hx=>?_⟩
 ·unfold Ay
  by_cases e:(aY l j).1=(aY l i).1
  ·rw[if_pos e,ho.inj hj hi e]
  ·rw[if_neg e];exact h.1 j hj (fun e2=>e (by rw[e2]))
 ·unfold Ay
  rw[if_neg (fun e=>hx (fY.2 ⟨i,hi,e.symm⟩))]
  exact h.2 x hx
theorem kT.step{l:List It}{f:Int→Option Nat}{i q:Nat}(h:kT l f i)(ho:iH l)(hi:i<l.length)(hq:q<l.length)(hne:q≠i):
  kT ((l.set i (aY l q)).set q (aY l i)) (Ay f (aY l q).1 (some i)) q:=by
 have x9:∀j,aY ((l.set i (aY l q)).set q (aY l i)) j=fU (fU (aY l) i (aY l q)) q (aY l i) j:=fun j=>by rw[fR _ (by simpa using hq),fR _ hi]
 refine⟨fun j hj Tv=>?_,fun x hx=>?_⟩
 ·rw[x9]
  simp only[List.length_set]at hj
  unfold fU Ay
  rw[if_neg Tv]
  by_cases e:j=i
  ·rw[if_pos e,if_pos rfl,e]
  ·rw[if_neg e]
   rw[if_neg (fun e2=>Tv (ho.inj hj hq e2))]
   exact h.1 j hj e
 ·have hx':x∉l.map Prod.fst:=fun hm=>hx (by
   have:=(swap_perm hi hq hne).map Prod.fst
   exact this.mem_iff.2 hm)
  unfold Ay
  rw[if_neg (fun e=>hx' (fY.2 ⟨q,hq,e.symm⟩))]
  exact h.2 x hx'
end MR
namespace MR
open Go Go.Sx
def enc(kd:IntKind)(a:It):List Value:=[.int kd a.1,.int .i64 a.2]
def dL(kd:IntKind)(l:List It):List (List Value):=l.map (enc kd)
theorem cv(kd:IntKind)(l:List It):(dL kd l).length=l.length:=by simp[dL]
theorem HZ(kd:IntKind)(l:List It):∀r∈dL kd l,r.length=2:=fun r hr=>by
 obtain⟨a,_,rfl⟩:=List.mem_map.1 hr;rfl
theorem eU{kd:IntKind}{l:List It}{i:Nat}(h:i<l.length)(aJ:List (List Value)):(dL kd l++aJ)[i]? =some (enc kd (aY l i)):=by
 rw[List.getElem?_append_left (by rw[cv];exact h),dL,List.getElem?_map,PD h];rfl
theorem Ma{kd:IntKind}{l:List It}{i:Nat}(h:i<l.length)(a:It)(aJ:List (List Value)):(dL kd l++aJ).set i (enc kd a)=dL kd (l.set i a)++aJ:=by
 rw[List.set_append_left _ _ (by rw[cv];exact h),dL,dL,List.map_set]
def idx(i:Nat):Value:=.int .i64 (i:Int)
def HO(kd:IntKind)(TI TH:TypeId)(h:Value)(l:List It)(f:Int→Option Nat)(C:Hp):Prop:=
 ∃bh sv mv Cs Cm,h=.pointer (some ⟨bh,0,none⟩)∧C=(bh,Obj.cells #[sv,mv] TH (0,0))::(Cs++Cm)∧aO TI 2 sv (dL kd l) Cs∧jh kd idx mv f Cm∧(mv=.map none→l=[])
theorem HO.open{kd:IntKind}{TI TH:TypeId}{h:Value}{l:List It}{f:Int→Option Nat}{C:Hp}(H:HO kd TI TH h l f C)(hp:0<l.length):
  ∃bh la mb aJ Cm,h=.pointer (some ⟨bh,0,none⟩)∧
   C=(bh,Obj.cells #[.slice (some ⟨la,0,none⟩) l.length (l.length+aJ.length),.map (some mb)] TH (0,0))::(la,.cells (rows (dL kd l++aJ)) TI (0,0))::Cm∧
   (∀r∈dL kd l++aJ,r.length=2)∧jh kd idx (.map (some mb)) f Cm:=by
 obtain⟨bh,sv,mv,Cs,Cm,rfl,rfl,hs,hm,hne⟩:=H
 obtain⟨la,aJ,rfl,rfl,aE⟩:=hs.pos (by rw[cv];exact hp)
 rw[cv]
 rcases hm with⟨rfl,_⟩|⟨mb,m,ck,rfl,h2⟩
 ·rw[hne rfl]at hp;simp at hp
 ·exact⟨bh,la,mb,aJ,Cm,rfl,rfl,aE,.inr ⟨mb,m,ck,rfl,h2⟩⟩
theorem HO.shut{kd:IntKind}{TI TH:TypeId}{bh la mb n c:Nat}{aJ:List (List Value)}{Cm:Hp}{l:List It}{f:Int→Option Nat}(aE:∀r∈dL kd l++aJ,r.length=2)(hn:n=l.length)(hc:c=l.length+aJ.length)
 (hm:jh kd idx (.map (some mb)) f Cm):
  HO kd TI TH (.pointer (some ⟨bh,0,none⟩)) l f ((bh,Obj.cells #[.slice (some ⟨la,0,none⟩) n c,.map (some mb)] TH (0,0))::(la,.cells (rows (dL kd l++aJ)) TI (0,0))::Cm):=
 ⟨bh,_,_,[_],Cm,rfl,rfl,aO.mk' aE (by rw[cv];exact hn) (by rw[cv];exact hc),hm,fun h=>by simp at h⟩
theorem JX{l aJ:List (List Value)}(h:∀r∈l++aJ,r.length=2)(kd:IntKind)(l':List It):∀r∈dL kd l'++aJ,r.length=2:=fun r hr=>by
 rcases List.mem_append.1 hr with hr|hr
 ·exact HZ kd l' r hr
 ·exact h r (by simp[hr])
theorem ng(kd:IntKind)(a:It):∀v∈enc kd a,v.oneCell'=true:=by simp[enc,Value.oneCell']
end MR
namespace MR
open Go Go.Sx
theorem Rj(j:Nat)(h:0<j):((j-1:Nat):Int).tdiv 2=(((j-1) /2:Nat):Int):=by
 rw[Int.tdiv_eq_ediv_of_nonneg (by omega)];omega
theorem sn{l:List It}{i q:Nat}(a:It)(hi:i<l.length)(hq:q<l.length)(hne:q≠i):((l.set i a).set i (aY (l.set i a) q)).set q (aY (l.set i a) i)=(l.set i (aY l q)).set q a:=by
 rw[fR a hi,List.set_set]
 simp[fU,hne]
def HI(kd:IntKind)(TI TH:TypeId)(h:Value)(l:List It)(C:Hp):Prop:=∃f,HO kd TI TH h l f C∧Cons l f∧Ord l.length (aY l)∧iH l
theorem Cd{l:List It}{a:It}{j:Nat}(h:j<l.length):aY (l++[a]) j=aY l j:=by simp[aY,List.getD,List.getElem?_append_left h]
theorem Kb{l:List It}{f:Int→Option Nat}{a:It}(hc:Cons l f)(ho:Ord l.length (aY l))(h1:iH l)(hx:a.1∉l.map Prod.fst):
  wv (l++[a]).length (aY (l++[a])) l.length∧kT (l++[a]) f l.length∧iH (l++[a])∧nq (l++[a]).length (aY (l++[a])) l.length:=by
 simp only[List.length_append,List.length_cons,List.length_nil,Nat.zero_add]
 refine⟨⟨fun j j0 jn jne jp=>?_,fun j j0 jn jp=>by omega⟩,⟨fun j jn jne=>?_,fun x hx'=>?_⟩,?_,fun j j0 jn jp=>by omega⟩
 ·unfold E;rw[Cd (by omega),Cd (by omega)];exact ho j j0 (by omega)
 ·simp only[List.length_append,List.length_cons,List.length_nil]at jn
  rw[Cd (by omega)];exact hc.1 j (by omega)
 ·exact hc.2 x (fun h=>hx' (by rw[List.map_append,List.mem_append];exact .inl h))
 ·unfold iH at*;rw[List.map_append,List.nodup_append];exact⟨h1,by simp,fun a' dF b hb=>by simp at hb;subst hb;intro e;subst e;exact hx dF⟩
theorem Mf{l:List It}{f:Int→Option Nat}(hc:Cons l f){x:Int}:(x∉l.map Prod.fst∧f x=none)∨∃i,i<l.length∧(aY l i).1=x∧f x=some i:=by
 by_cases h:x∈l.map Prod.fst
 ·obtain⟨j,hj,e⟩:=fY.1 h
  exact .inr ⟨j,hj,e,by rw[←e];exact hc.1 j hj⟩
 ·exact .inl ⟨h,hc.2 x h⟩
theorem NX{l:List It}{f:Int→Option Nat}(hc:Cons l f)(ho:Ord l.length (aY l))(h1:iH l){n:Nat}(hn:l.length=n+1):
  let l':=l.take n
  ((0<n→(aY l n)::(l'.set 0 (aY l n)).tail=l'.set 0 (aY l n)∧(aY l 0::l'.set 0 (aY l n)).Perm l∧PV n (aY (l'.set 0 (aY l n))) 0∧iH (l'.set 0 (aY l n))∧
   kT (l'.set 0 (aY l n)) (Ay f (aY l 0).1 none) 0)):=by
 intro l' Ts
 have hl':l'.length=n:=by simp[l',hn]
 have dg:(aY l 0::l'.set 0 (aY l n)).Perm l:=by
  rw[List.perm_iff_count]
  intro x
  have e:l=l'++[aY l n]:=by
   have:l=l.take n++l.drop n:=(List.take_append_drop n l).symm
   have h2:l.drop n=[aY l n]:=by
    rw[List.drop_eq_getElem_cons (by omega),List.drop_eq_nil_of_le (by omega)]
    simp[hn,aY,List.getD]
   rw[h2]at this;exact this
  have g0:l'[0]'(by omega)=aY l 0:=by simp[l',aY,List.getD,hn]
  conv=>rhs;rw[e]
  rw[List.count_cons,List.count_set (by omega),g0,List.count_append]
  have hc0:aY l 0=x→0<l'.count x:=fun e=>by rw[List.count_pos_iff,←e,←g0];exact List.getElem_mem _
  by_cases e1:aY l 0=x
  ·have:=hc0 e1
   by_cases e2:aY l n=x<;>simp[e1,e2]<;>omega
  ·by_cases e2:aY l n=x<;>simp[e1,e2]
 have x9:∀j,j<n→j≠0→aY (l'.set 0 (aY l n)) j=aY l j:=fun j hj h0=>by
  rw[fR _ (by omega)];simp[fU,h0,l',aY,List.getD,hj]
 have hO:iH (l'.set 0 (aY l n)):=by
  have:=(h1.perm dg:iH _)
  unfold iH at this⊢
  simp only[List.map_cons,List.nodup_cons]at this
  exact this.2
 refine⟨?_,dg,⟨fun j j0 jn jp=>?_,fun j j0 jn jp h=>by omega⟩,hO,fun j hj Sg=>?_,fun x hx=>?_⟩
 ·cases hh:l' with
  |nil=>rw[hh]at hl';simp at hl';omega
  |cons a r=>simp
 ·unfold E;rw[x9 j jn (by omega),x9 _ (by omega) jp];exact ho j j0 (by omega)
 ·simp only[List.length_set,hl']at hj
  rw[x9 j hj Sg]
  unfold Ay
  rw[if_neg (fun e=>Sg (h1.inj (by omega) (by omega) e))]
  exact hc.1 j (by omega)
 ·unfold Ay
  by_cases e:x=(aY l 0).1
  ·rw[if_pos e]
  ·rw[if_neg e]
   refine hc.2 x fun hm=>hx ?_
   have:=(dg.map Prod.fst).mem_iff.2 hm
   simp only[List.map_cons,List.mem_cons]at this
   rcases this with h|h
   ·exact absurd h e
   ·exact h
end MR
set_option maxRecDepth 100000
namespace Go.Proofs
open Go Go.Sx
open MR
abbrev Np:=HO .i64 233 231
abbrev PT:=HI .i64 233 231
theorem tI(a b:It)(B:Hp):Rd Tryz.prog 223 #[.agg #[.int .i64 a.1,.int .i64 a.2],.agg #[.int .i64 b.1,.int .i64 b.2]] B (· =.bool (prec a b)):=by
 refine aR fun g=>DK ?_
 intro b1 _ b2 _
 (repeat (first|refine Nil.ptr ?_|refine ag.mk ?_|refine Ld.mk zM rfl ?_|refine aF.mk ?_|refine aa.eql ?_|refine aa.neq ?_|refine aa.lss ?_|refine aa.leq ?_|refine aa.gtr ?_|refine aa.geq ?_|refine Un.not ?_|refine Ext.mk rfl ?_|refine ay.mk ?_|refine aa.aD ?_|refine aa.bC ?_|refine aa.bB ?_|refine Br.yes ?_|refine Br.no ?_))
 refine df.or (a.2==b.2&&decide (a.1<b.1)) (fun _=>?_) rfl fun _=>bN.mk (.skip .tail) rfl
 (repeat (first|refine Nil.ptr ?_|refine ag.mk ?_|refine Ld.mk zM rfl ?_|refine aF.mk ?_|refine aa.eql ?_|refine aa.neq ?_|refine aa.lss ?_|refine aa.leq ?_|refine aa.gtr ?_|refine aa.geq ?_|refine Un.not ?_|refine Ext.mk rfl ?_|refine ay.mk ?_|refine aa.aD ?_|refine aa.bC ?_|refine aa.bB ?_|refine Br.yes ?_|refine Br.no ?_))
 refine df.and (decide (a.1<b.1)) (fun _=>?_) rfl fun _=>⟨rfl,rfl⟩
 (repeat (first|refine Nil.ptr ?_|refine ag.mk ?_|refine Ld.mk zM rfl ?_|refine aF.mk ?_|refine aa.eql ?_|refine aa.neq ?_|refine aa.lss ?_|refine aa.leq ?_|refine aa.gtr ?_|refine aa.geq ?_|refine Un.not ?_|refine Ext.mk rfl ?_|refine ay.mk ?_|refine aa.aD ?_|refine aa.bC ?_|refine aa.bB ?_|refine Br.yes ?_|refine Br.no ?_))
 exact⟨rfl,rfl⟩
theorem pz{h:Value}{l:List It}{f:Int→Option Nat}{C:Hp}(ho:Np h l f C){i:Nat}(hi:i<l.length)(a:It):
  Fc Tryz.prog 159 #[h,.int .i64 (i:Int),.agg #[.int .i64 a.1,.int .i64 a.2]] C (fun v C'=>v=.tuple #[]∧Np h (l.set i a) (Ay f a.1 (some i)) C'):=by
 obtain⟨bh,la,mb,aJ,Cm,rfl,rfl,aE,hm⟩:=ho.open (by omega)
 refine aR fun g=>Eu ?_
 intro b1 _
 refine DR.self ?_
 (repeat (first|refine Nil.ptr ?_|refine ag.mk ?_|refine Ld.mk zM rfl ?_|refine aF.mk ?_|refine aa.eql ?_|refine aa.neq ?_|refine aa.lss ?_|refine aa.leq ?_|refine aa.gtr ?_|refine aa.geq ?_|refine Un.not ?_|refine Ext.mk rfl ?_|refine ay.mk ?_|refine aa.aD ?_|refine aa.bC ?_|refine aa.bB ?_|refine Br.yes ?_|refine Br.no ?_))
 refine av.whole (r:=enc .i64 a) zM rfl ?_
 refine an.nat hi ?_
 refine St.row (l:=dL .i64 l++aJ) (by repeat (first|exact cD.head _|apply cD.tail|apply cD.bO)) aE (by rw[List.length_append,cv];omega) rfl (ng _ _) ?_
 refine DR.self ?_
 (repeat (first|refine Nil.ptr ?_|refine ag.mk ?_|refine Ld.mk zM rfl ?_|refine aF.mk ?_|refine aa.eql ?_|refine aa.neq ?_|refine aa.lss ?_|refine aa.leq ?_|refine aa.gtr ?_|refine aa.geq ?_|refine Un.not ?_|refine Ext.mk rfl ?_|refine ay.mk ?_|refine aa.aD ?_|refine aa.bC ?_|refine aa.bB ?_|refine Br.yes ?_|refine Br.no ?_))
 rw[←List.append_nil Cm]
 refine jh.bS (p:=i) (A:=[_,_,_]) (B:=[]) hm fun C' hm'=>?_
 refine⟨_,_,rfl,.tail,rfl,?_⟩
 rw[Ma hi,List.append_nil]
 exact .shut (JX aE _ _) (by simp) (by simp) hm'
theorem RR{h:Value}{l:List It}{f:Int→Option Nat}{C:Hp}(ho:Np h l f C){i:Nat}(hi:i<l.length)(bH:l.length<4611686018427387904)(hu:wv l.length (aY l) i)(hc:kT l f i)(hO:iH l):
  Fc Tryz.prog 158 #[h,.int .i64 (i:Int)] C (fun v C'=>v=.tuple #[]∧∃l' f' p,Np h l' f' C'∧l'.Perm l∧Cons l' f'∧PV l'.length (aY l') p∧p<l'.length∧aY l' p=aY l i∧
   (nq l.length (aY l) i→Ord l'.length (aY l'))):=by
 obtain⟨bh,la,mb,aJ,Cm,rfl,rfl,aE,hm⟩:=ho.open (by omega)
 obtain⟨n,hn⟩:∃n,n=l.length:=⟨_,rfl⟩
 obtain⟨a,ha⟩:∃a,a=aY l i:=⟨_,rfl⟩
 refine aR fun g=>Ev ?_
 (repeat (first|refine Nil.ptr ?_|refine ag.mk ?_|refine Ld.mk zM rfl ?_|refine aF.mk ?_|refine aa.eql ?_|refine aa.neq ?_|refine aa.lss ?_|refine aa.leq ?_|refine aa.gtr ?_|refine aa.geq ?_|refine Un.not ?_|refine Ext.mk rfl ?_|refine ay.mk ?_|refine aa.aD ?_|refine aa.bC ?_|refine aa.bB ?_|refine Br.yes ?_|refine Br.no ?_))
 refine an.nat hi ?_
 refine av.row (l:=dL .i64 l++aJ) zM aE (eU hi aJ) ?_
 intro b6 _
 refine St.p (ng _ _) ?_
 rw[←ha]
 refine⟨fun vs H=>∃(j:Nat) (L:List It) (f:Int→Option Nat) (C:Hp),vs=[.int .i64 (j:Int)]∧H=(b6,Obj.cells (enc .i64 a).toArray 233 (0,0))::C∧Np (.pointer (some ⟨bh,0,none⟩)) L f C∧L.length=n∧j<n∧
   (L.set j a).Perm l∧wv n (aY (L.set j a)) j∧kT (L.set j a) f j∧(nq n (aY l) i→nq n (aY (L.set j a)) j),
  fun vs _=>br vs 0,.mk ⟨i,l,f,_,rfl,rfl,ho,hn.symm,by omega,?_,?_,?_,?_⟩,?_⟩
 ·exact(by rw[ha,n9 hi])
 ·rw[ha,n9 hi,hn];exact hu
 ·rw[ha,n9 hi];exact hc
 ·rw[ha,n9 hi];exact id
 rintro w H ⟨j,L,f,C,hw,rfl,ho,VO,hj,hp,hu,hc,jY⟩ gs
 simp only[List.cons.injEq,and_true]at hw
 subst hw
 have Tr:=ho
 obtain⟨bh',la,mb,aJ,Cm,Vt,rfl,aE,hm⟩:=ho.open (by omega)
 simp only[Value.pointer.injEq,Option.some.injEq,Addr.mk.injEq,and_true]at Vt
 subst Vt
 have VK:iH (L.set j a):=hO.perm hp
 have Tt:(L.set j a).length=n:=by simp[VO]
 have QJ:aY (L.set j a) j=a:=by rw[fR a (by omega)];simp[fU]
 have YQ:0<j→aY (L.set j a) ((j-1) /2)=aY L ((j-1) /2):=fun h0=>by rw[fR a (by omega)];simp[fU,show¬((j-1) /2=j)from by omega]
 intro J hJ
 have hend:¬(0<j∧prec a (aY L ((j-1) /2))=true)→J [.bool false] ((b6,Obj.cells (enc .i64 a).toArray 233 (0,0))::(bh,Obj.cells #[.slice (some ⟨la,0,none⟩) L.length (L.length+aJ.length),.map (some mb)] 231 (0,0))::(la,.cells (rows (dL .i64 L++aJ)) 233 (0,0))::Cm):=fun hno=>hJ _ _ fun gs=>by
  refine Br.no ?_
  refine av.q ?_
  refine ae.fq (pz Tr (i:=j) (by omega) a) ?_
  rintro v C' ⟨rfl,cj⟩
  have hd:=hc.done VK (by omega)
  rw[QJ]at hd
  have hex:=Nx hu (by
   by_cases h0:j=0
   ·exact .inl h0
   ·right
    rw[QJ,YQ (by omega)]
    cases h:prec a (aY L ((j-1) /2))
    ·rfl
    ·exact absurd ⟨by omega,h⟩ hno)
  rw[←Tt]at hex
  exact⟨_,_,rfl,.tail,rfl,_,_,j,cj,hp,hd,hex,by omega,by rw[QJ,ha],fun hk=>vX hex (by rw[Tt];exact jY (by rw[hn];exact hk))⟩
 refine DR.self ?_
 refine aa.gtr (Br.dec (fun h0=>?_) (fun h0=>JE.mk (hend (fun h=>h0 (by omega)))))
 have h0:0<j:=by omega
 refine av.q ?_
 (repeat (first|refine Nil.ptr ?_|refine ag.mk ?_|refine Ld.mk zM rfl ?_|refine aF.mk ?_|refine aa.eql ?_|refine aa.neq ?_|refine aa.lss ?_|refine aa.leq ?_|refine aa.gtr ?_|refine aa.geq ?_|refine Un.not ?_|refine Ext.mk rfl ?_|refine ay.mk ?_|refine aa.aD ?_|refine aa.bC ?_|refine aa.bB ?_|refine Br.yes ?_|refine Br.no ?_))
 refine aa.oT (c:=((j-1:Nat):Int)) (by omega) (by omega) ?_
 refine aa.J0 (by decide) (Rj j h0) (by omega) ?_
 refine an.nat (by omega) ?_
 refine av.row (l:=dL .i64 L++aJ) zM aE (eU (by omega) aJ) ?_
 intro F
 refine ae.eq (tI a _ _) ?_
 refine⟨.refl _,?_⟩
 cases Qp:prec a (aY L ((j-1) /2))with
 |false=>exact ay.mk (JE.mk (hend (fun h=>by rw[Qp]at h;exact absurd h.2 (by decide))))
 |true=>
 refine ay.mk (JE.mk (hJ _ _ fun gs=>Br.yes ?_))
 (repeat (first|refine Nil.ptr ?_|refine ag.mk ?_|refine Ld.mk zM rfl ?_|refine aF.mk ?_|refine aa.eql ?_|refine aa.neq ?_|refine aa.lss ?_|refine aa.leq ?_|refine aa.gtr ?_|refine aa.geq ?_|refine Un.not ?_|refine Ext.mk rfl ?_|refine ay.mk ?_|refine aa.aD ?_|refine aa.bC ?_|refine aa.bB ?_|refine Br.yes ?_|refine Br.no ?_))
 refine aa.oT (c:=((j-1:Nat):Int)) (by omega) (by omega) ?_
 refine aa.J0 (by decide) (Rj j h0) (by omega) ?_
 refine an.nat (by omega) ?_
 refine av.row (l:=dL .i64 L++aJ) zM aE (eU (by omega) aJ) ?_
 refine ae.fq (pz Tr (i:=j) (by omega) (aY L ((j-1) /2))) ?_
 rintro v C' ⟨rfl,cj⟩
 refine aa.oT (c:=((j-1:Nat):Int)) (by omega) (by omega) ?_
 refine aa.J0 (by decide) (Rj j h0) (by omega) ?_
 have hst:=Nw h0 (by rw[←Tt]at hj;rw[Tt]at hj;exact hj) hu (by rw[QJ,YQ h0];exact Qp)
 have hcs:=hc.step VK (i:=j) (q:=(j-1) /2) (by omega) (by omega) (by omega)
 have X5:=(swap_perm (l:=L.set j a) (i:=j) (q:=(j-1) /2) (by omega) (by omega) (by omega)).trans hp
 have SA:(L.set j (aY L ((j-1) /2))).set ((j-1) /2) a=((L.set j a).set j (aY (L.set j a) ((j-1) /2))).set ((j-1) /2) (aY (L.set j a) j):=(sn a (by omega) (by omega) (by omega)).symm
 have x9:aY ((L.set j (aY L ((j-1) /2))).set ((j-1) /2) a)=fU (fU (aY (L.set j a)) j (aY (L.set j a) ((j-1) /2))) ((j-1) /2) (aY (L.set j a) j):=by
  rw[SA,fR _ (by simp;omega),fR _ (by omega)]
 refine aB.mk ⟨(j-1) /2,_,_,C',rfl,rfl,cj,by simp[VO],by omega,?_,?_,?_,fun _=>?_⟩ ?_
 ·rw[SA];exact X5
 ·rw[x9];exact hst.1
 ·rw[SA];rw[YQ h0]at hcs⊢;exact hcs
 ·rw[x9];exact hst.2
 ·simp only[br,Int.toNat_natCast];omega
end Go.Proofs
set_option maxRecDepth 100000
namespace Go.Proofs
open Go Go.Sx
open MR
theorem Lx{h:Value}{l:List It}{f:Int→Option Nat}{C:Hp}(ho:Np h l f C){i:Nat}(hi:i<l.length)(bH:l.length<4611686018427387904)(hu:PV l.length (aY l) i)(hc:kT l f i)(hO:iH l):
  Fc Tryz.prog 160 #[h,.int .i64 (i:Int)] C (fun v C'=>v=.tuple #[]∧∃l' f',Np h l' f' C'∧l'.Perm l∧Cons l' f'∧Ord l'.length (aY l')):=by
 obtain⟨bh,la,mb,aJ,Cm,rfl,rfl,aE,hm⟩:=ho.open (by omega)
 obtain⟨n,hn⟩:∃n,n=l.length:=⟨_,rfl⟩
 obtain⟨a,ha⟩:∃a,a=aY l i:=⟨_,rfl⟩
 refine aR fun g=>Et ?_
 (repeat (first|refine Nil.ptr ?_|refine ag.mk ?_|refine Ld.mk zM rfl ?_|refine aF.mk ?_|refine aa.eql ?_|refine aa.neq ?_|refine aa.lss ?_|refine aa.leq ?_|refine aa.gtr ?_|refine aa.geq ?_|refine Un.not ?_|refine Ext.mk rfl ?_|refine ay.mk ?_|refine aa.aD ?_|refine aa.bC ?_|refine aa.bB ?_|refine Br.yes ?_|refine Br.no ?_))
 refine an.nat hi ?_
 refine av.row (l:=dL .i64 l++aJ) zM aE (eU hi aJ) ?_
 intro b6 _
 refine St.p (ng _ _) ?_
 rw[←ha]
 refine⟨fun vs H=>∃(j:Nat) (L:List It) (f:Int→Option Nat) (C:Hp),vs=[.int .i64 (j:Int)]∧H=(b6,Obj.cells (enc .i64 a).toArray 233 (0,0))::C∧Np (.pointer (some ⟨bh,0,none⟩)) L f C∧L.length=n∧j<n∧
   (L.set j a).Perm l∧PV n (aY (L.set j a)) j∧kT (L.set j a) f j,
  fun vs _=>n-br vs 0,.mk ⟨i,l,f,_,rfl,rfl,ho,hn.symm,by omega,?_,?_,?_⟩,?_⟩
 ·exact(by rw[ha,n9 hi])
 ·rw[ha,n9 hi,hn];exact hu
 ·rw[ha,n9 hi];exact hc
 rintro w H ⟨j,L,f,C,hw,rfl,ho,VO,hj,hp,hu,hc⟩ gs
 simp only[List.cons.injEq,and_true]at hw
 subst hw
 have Tr:=ho
 obtain⟨bh',la,mb,aJ,Cm,Vt,rfl,aE,hm⟩:=ho.open (by omega)
 simp only[Value.pointer.injEq,Option.some.injEq,Addr.mk.injEq,and_true]at Vt
 subst Vt
 have VK:iH (L.set j a):=hO.perm hp
 have Tt:(L.set j a).length=n:=by simp[VO]
 have QJ:aY (L.set j a) j=a:=by rw[fR a (by omega)];simp[fU]
 have VB:∀c,c≠j→aY (L.set j a) c=aY L c:=fun c h0=>by rw[fR a (by omega)];simp[fU,h0]
 refine aa.Ul (c:=((2*j:Nat):Int)) (by omega) (by omega) ?_
 refine aa.wo (c:=((2*j+1:Nat):Int)) (by omega) (by omega) ?_
 intro J hJ
 obtain⟨c,hcd⟩:∃c,c=vB n (aY (L.set j a)) j:=⟨_,rfl⟩
 have hkc:=qj n (aY (L.set j a)) j
 rw[←hcd]at hkc
 have gN:J [.int .i64 (c:Int)] ((b6,Obj.cells (enc .i64 a).toArray 233 (0,0))::(bh,Obj.cells #[.slice (some ⟨la,0,none⟩) L.length (L.length+aJ.length),.map (some mb)] 231 (0,0))::(la,.cells (rows (dL .i64 L++aJ)) 233 (0,0))::Cm):=by
  refine hJ _ _ fun gs2=>?_
  intro J2 vO
  have hstop:n≤c∨prec (aY L c) a=false→J2 [.bool true] ((b6,Obj.cells (enc .i64 a).toArray 233 (0,0))::(bh,Obj.cells #[.slice (some ⟨la,0,none⟩) L.length (L.length+aJ.length),.map (some mb)] 231 (0,0))::(la,.cells (rows (dL .i64 L++aJ)) 233 (0,0))::Cm):=fun hst=>vO _ _ fun gs=>by
   refine Br.yes ?_
   refine av.q ?_
   refine ae.fq (pz Tr (i:=j) (by omega) a) ?_
   rintro v C' ⟨rfl,cj⟩
   have hd:=hc.done VK (by omega)
   rw[QJ]at hd
   have hex:=H9 hu (by
    rw[←hcd]
    by_cases h0:n≤c
    ·exact .inl h0
    ·right
     rw[QJ,VB c (by omega)]
     rcases hst with h|h
     ·omega
     ·exact h)
   rw[←Tt]at hex
   exact⟨_,_,rfl,.tail,rfl,_,_,cj,hp,hd,hex⟩
  refine DR.self ?_
  (repeat (first|refine Nil.ptr ?_|refine ag.mk ?_|refine Ld.mk zM rfl ?_|refine aF.mk ?_|refine aa.eql ?_|refine aa.neq ?_|refine aa.lss ?_|refine aa.leq ?_|refine aa.gtr ?_|refine aa.geq ?_|refine Un.not ?_|refine Ext.mk rfl ?_|refine ay.mk ?_|refine aa.aD ?_|refine aa.bC ?_|refine aa.bB ?_|refine Br.yes ?_|refine Br.no ?_))
  refine Br.dec (fun h0=>JE.mk (hstop (.inl (by omega)))) (fun h0=>?_)
  have h0:c<n:=by omega
  (repeat (first|refine Nil.ptr ?_|refine ag.mk ?_|refine Ld.mk zM rfl ?_|refine aF.mk ?_|refine aa.eql ?_|refine aa.neq ?_|refine aa.lss ?_|refine aa.leq ?_|refine aa.gtr ?_|refine aa.geq ?_|refine Un.not ?_|refine Ext.mk rfl ?_|refine ay.mk ?_|refine aa.aD ?_|refine aa.bC ?_|refine aa.bB ?_|refine Br.yes ?_|refine Br.no ?_))
  refine an.nat (by omega) ?_
  refine av.row (l:=dL .i64 L++aJ) zM aE (eU (by omega) aJ) ?_
  refine av.q ?_
  intro F
  refine ae.eq (tI _ a _) ?_
  refine⟨.refl _,Un.not ?_⟩
  cases Qp:prec (aY L c) a with
  |false=>exact ay.mk (JE.mk (hstop (.inr Qp)))
  |true=>
  refine ay.mk (JE.mk (vO _ _ fun gs=>Br.no ?_))
  (repeat (first|refine Nil.ptr ?_|refine ag.mk ?_|refine Ld.mk zM rfl ?_|refine aF.mk ?_|refine aa.eql ?_|refine aa.neq ?_|refine aa.lss ?_|refine aa.leq ?_|refine aa.gtr ?_|refine aa.geq ?_|refine Un.not ?_|refine Ext.mk rfl ?_|refine ay.mk ?_|refine aa.aD ?_|refine aa.bC ?_|refine aa.bB ?_|refine Br.yes ?_|refine Br.no ?_))
  refine an.nat (by omega) ?_
  refine av.row (l:=dL .i64 L++aJ) zM aE (eU (by omega) aJ) ?_
  refine ae.fq (pz Tr (i:=j) (by omega) (aY L c)) ?_
  rintro v C' ⟨rfl,cj⟩
  have Vp:c≠j:=by omega
  have hst:=H8 hu (by rw[←hcd];exact h0) (by rw[←hcd,QJ,VB c Vp];exact Qp)
  rw[←hcd]at hst
  have hcs:=hc.step VK (i:=j) (q:=c) (by omega) (by omega) Vp
  have X5:=(swap_perm (l:=L.set j a) (i:=j) (q:=c) (by omega) (by omega) Vp).trans hp
  have SA:(L.set j (aY L c)).set c a=((L.set j a).set j (aY (L.set j a) c)).set c (aY (L.set j a) j):=(sn a (by omega) (by omega) Vp).symm
  have x9:aY ((L.set j (aY L c)).set c a)=fU (fU (aY (L.set j a)) j (aY (L.set j a) c)) c (aY (L.set j a) j):=by
   rw[SA,fR _ (by simp;omega),fR _ (by omega)]
  refine aB.mk ⟨c,_,_,C',rfl,rfl,cj,by simp[VO],by omega,?_,?_,?_⟩ ?_
  ·rw[SA];exact X5
  ·rw[x9];exact hst
  ·rw[SA];rw[VB c Vp]at hcs⊢;exact hcs
  ·simp only[br,Int.toNat_natCast];omega
 intro J3 W8
 have hkd:vB n (aY (L.set j a)) j=if(decide (2*j+1+1<n) &&prec (aY L (2*j+1+1)) (aY L (2*j+1)))=true then 2*j+1+1 else 2*j+1:=by
  unfold vB;rw[VB _ (by omega),VB _ (by omega)]
 rw[hkd]at hcd
 have hno:¬(2*j+1+1<n∧prec (aY L (2*j+1+1)) (aY L (2*j+1))=true)→J3 [.bool false] ((b6,Obj.cells (enc .i64 a).toArray 233 (0,0))::(bh,Obj.cells #[.slice (some ⟨la,0,none⟩) L.length (L.length+aJ.length),.map (some mb)] 231 (0,0))::(la,.cells (rows (dL .i64 L++aJ)) 233 (0,0))::Cm):=fun hx=>W8 _ _ fun gs=>by
  rw[if_neg (by simpa using hx)]at hcd
  rw[hcd]at gN
  exact Br.no (.mk gN)
 refine DR.self ?_
 refine aa.wo (c:=((2*j+1+1:Nat):Int)) (by omega) (by omega) ?_
 (repeat (first|refine Nil.ptr ?_|refine ag.mk ?_|refine Ld.mk zM rfl ?_|refine aF.mk ?_|refine aa.eql ?_|refine aa.neq ?_|refine aa.lss ?_|refine aa.leq ?_|refine aa.gtr ?_|refine aa.geq ?_|refine Un.not ?_|refine Ext.mk rfl ?_|refine ay.mk ?_|refine aa.aD ?_|refine aa.bC ?_|refine aa.bB ?_|refine Br.yes ?_|refine Br.no ?_))
 refine Br.dec (fun h0=>?_) (fun h0=>JE.mk (hno (fun h=>h0 (by omega))))
 have h0:2*j+1+1<n:=by omega
 (repeat (first|refine Nil.ptr ?_|refine ag.mk ?_|refine Ld.mk zM rfl ?_|refine aF.mk ?_|refine aa.eql ?_|refine aa.neq ?_|refine aa.lss ?_|refine aa.leq ?_|refine aa.gtr ?_|refine aa.geq ?_|refine Un.not ?_|refine Ext.mk rfl ?_|refine ay.mk ?_|refine aa.aD ?_|refine aa.bC ?_|refine aa.bB ?_|refine Br.yes ?_|refine Br.no ?_))
 refine aa.wo (c:=((2*j+1+1:Nat):Int)) (by omega) (by omega) ?_
 refine an.nat (by omega) ?_
 refine av.row (l:=dL .i64 L++aJ) zM aE (eU (by omega) aJ) ?_
 (repeat (first|refine Nil.ptr ?_|refine ag.mk ?_|refine Ld.mk zM rfl ?_|refine aF.mk ?_|refine aa.eql ?_|refine aa.neq ?_|refine aa.lss ?_|refine aa.leq ?_|refine aa.gtr ?_|refine aa.geq ?_|refine Un.not ?_|refine Ext.mk rfl ?_|refine ay.mk ?_|refine aa.aD ?_|refine aa.bC ?_|refine aa.bB ?_|refine Br.yes ?_|refine Br.no ?_))
 refine an.nat (by omega) ?_
 refine av.row (l:=dL .i64 L++aJ) zM aE (eU (by omega) aJ) ?_
 intro F
 refine ae.eq (tI _ _ _) ?_
 refine⟨.refl _,?_⟩
 cases Qp:prec (aY L (2*j+1+1)) (aY L (2*j+1))with
 |false=>exact ay.mk (JE.mk (hno (fun h=>by rw[Qp]at h;exact absurd h.2 (by decide))))
 |true=>
 refine ay.mk (JE.mk (W8 _ _ fun gs=>Br.yes ?_))
 refine aa.wo (c:=((2*j+1+1:Nat):Int)) (by omega) (by omega) ?_
 rw[if_pos (by simp[h0,Qp])]at hcd
 rw[hcd]at gN
 exact .mk gN
theorem OK(B:Hp):Fc Tryz.prog 76 #[] B (fun v H=>∃b C,v=.pointer (some ⟨b,0,none⟩)∧H=C++B∧PT (.pointer (some ⟨b,0,none⟩)) [] C):=by
 refine aR fun g=>Ir ?_
 refine Build.mk (cs:=[.slice none 0 0,.map none]) (by kernel_rfl) ?_
 intro b _
 exact⟨_,_,rfl,.refl _,b,[_],rfl,rfl,fun _=>none,⟨b,_,_,[],[],rfl,rfl,aO.nil _ _,.inl ⟨rfl,rfl,rfl⟩,fun _=>rfl⟩,⟨fun j hj=>by simp at hj,fun _ _=>rfl⟩,fun j _ hj=>by simp at hj,by simp[iH]⟩
theorem K7{h:Value}{l:List It}{C:Hp}(hi:PT h l C)(bH:l.length<4398046511104)(x k:Int):
  Fc Tryz.prog 77 #[h,.int .i64 x,.int .i64 k] C (fun v C'=>∃l',PT h l' C'∧
   ((x∈l.map Prod.fst∧v=.int .i64 11∧l'=l)∨(x∉l.map Prod.fst∧v=.int .i64 0∧l'.Perm ((x,k)::l)))):=by
 have BH:=hi
 obtain⟨f,ho,hc,hO,h1⟩:=hi
 have Tr:=ho
 obtain⟨bh,sv,mv,Cs,Cm,rfl,rfl,hs,hm,hne⟩:=ho
 refine aR fun g=>Iq ?_
 (repeat (first|refine Nil.ptr ?_|refine ag.mk ?_|refine Ld.mk zM rfl ?_|refine aF.mk ?_|refine aa.eql ?_|refine aa.neq ?_|refine aa.lss ?_|refine aa.leq ?_|refine aa.gtr ?_|refine aa.geq ?_|refine Un.not ?_|refine Ext.mk rfl ?_|refine ay.mk ?_|refine aa.aD ?_|refine aa.bC ?_|refine aa.bB ?_|refine Br.yes ?_|refine Br.no ?_))
 rcases Mf hc (x:=x)with⟨hx,hf⟩|⟨i,hi,hx,hf⟩
 ·refine hm.Hv zS hf ?_
  (repeat (first|refine Nil.ptr ?_|refine ag.mk ?_|refine Ld.mk zM rfl ?_|refine aF.mk ?_|refine aa.eql ?_|refine aa.neq ?_|refine aa.lss ?_|refine aa.leq ?_|refine aa.gtr ?_|refine aa.geq ?_|refine Un.not ?_|refine Ext.mk rfl ?_|refine ay.mk ?_|refine aa.aD ?_|refine aa.bC ?_|refine aa.bB ?_|refine Br.yes ?_|refine Br.no ?_))
  intro J hJ
  obtain⟨sV,kE,Nc,Tp⟩:=Kb (a:=(x,k)) hc hO h1 hx
  have gN:∀mb Q0,jh .i64 idx (.map (some mb)) f Q0→J [] ((bh,Obj.cells #[sv,.map (some mb)] 231 (0,0))::(Cs++Q0)):=by
   intro mb Q0 hm'
   refine hJ _ fun gs=>?_
   (repeat (first|refine Nil.ptr ?_|refine ag.mk ?_|refine Ld.mk zM rfl ?_|refine aF.mk ?_|refine aa.eql ?_|refine aa.neq ?_|refine aa.lss ?_|refine aa.leq ?_|refine aa.gtr ?_|refine aa.geq ?_|refine Un.not ?_|refine Ext.mk rfl ?_|refine ay.mk ?_|refine aa.aD ?_|refine aa.bC ?_|refine aa.bB ?_|refine Br.yes ?_|refine Br.no ?_))
   refine Build.mk (cs:=enc .i64 (x,k)) (by kernel_rfl) ?_
   refine aq.one (k:=2) (e:=233) (z:=.agg #[.int .i64 0,.int .i64 0]) (by kernel_rfl) (by kernel_rfl) (by kernel_rfl) (by decide) rfl fun xb=>?_
   refine hs.Ce (A:=[_,_]) (B:=Q0) (r:=enc .i64 (x,k)) zM rfl (ng _ _) ⟨[.int .i64 0,.int .i64 0],rfl,rfl⟩ (by rw[cv];omega) (by rw[cv];omega) fun v' C' hs'=>?_
   (repeat (first|refine Nil.ptr ?_|refine ag.mk ?_|refine Ld.mk zM rfl ?_|refine aF.mk ?_|refine aa.eql ?_|refine aa.neq ?_|refine aa.lss ?_|refine aa.leq ?_|refine aa.gtr ?_|refine aa.geq ?_|refine Un.not ?_|refine Ext.mk rfl ?_|refine ay.mk ?_|refine aa.aD ?_|refine aa.bC ?_|refine aa.bB ?_|refine Br.yes ?_|refine Br.no ?_))
   refine St.one (by repeat (first|exact cD.head _|apply cD.tail|apply cD.bO)) (by obtain⟨a,c,rfl⟩:=hs'.len;rfl) (by simp) rfl ?_
   (repeat (first|refine Nil.ptr ?_|refine ag.mk ?_|refine Ld.mk zM rfl ?_|refine aF.mk ?_|refine aa.eql ?_|refine aa.neq ?_|refine aa.lss ?_|refine aa.leq ?_|refine aa.gtr ?_|refine aa.geq ?_|refine Un.not ?_|refine Ext.mk rfl ?_|refine ay.mk ?_|refine aa.aD ?_|refine aa.bC ?_|refine aa.bB ?_|refine Br.yes ?_|refine Br.no ?_))
   refine hs'.bc ?_
   refine aa.oT (c:=((l.length:Nat):Int)) (by rw[List.length_append,cv];simp) (by omega) ?_
   have uu:aO 233 2 v' (dL .i64 (l++[(x,k)])) C':=by simpa[dL]using hs'
   have cj:Np (.pointer (some ⟨bh,0,none⟩)) (l++[(x,k)]) f ((bh,Obj.cells #[v',.map (some mb)] 231 (0,0))::(C'++Q0)):=
    ⟨bh,_,_,C',Q0,rfl,rfl,uu,hm',fun h=>by simp at h⟩
   refine ae.pre (.tail) ?_
   refine ae.fq (RR cj (i:=l.length) (by simp) (by simp;omega) sV kE Nc) ?_
   rintro v C'' ⟨rfl,l',f',p,uG,dg,hc2,hex,hp,x9,X8⟩
   refine⟨_,_,rfl,.refl _,l',⟨f',uG,hc2,X8 Tp,Nc.perm dg⟩,.inr ⟨hx,rfl,dg.trans ?_⟩⟩
   exact List.perm_append_comm (l₁:=l) (l₂:=[(x,k)])
  (repeat (first|refine Nil.ptr ?_|refine ag.mk ?_|refine Ld.mk zM rfl ?_|refine aF.mk ?_|refine aa.eql ?_|refine aa.neq ?_|refine aa.lss ?_|refine aa.leq ?_|refine aa.gtr ?_|refine aa.geq ?_|refine Un.not ?_|refine Ext.mk rfl ?_|refine ay.mk ?_|refine aa.aD ?_|refine aa.bC ?_|refine aa.bB ?_|refine Br.yes ?_|refine Br.no ?_))
  rcases hm with⟨rfl,rfl,hfn⟩|⟨mb,m,ck,rfl,h2⟩
  ·(repeat (first|refine Nil.ptr ?_|refine ag.mk ?_|refine Ld.mk zM rfl ?_|refine aF.mk ?_|refine aa.eql ?_|refine aa.neq ?_|refine aa.lss ?_|refine aa.leq ?_|refine aa.gtr ?_|refine aa.geq ?_|refine Un.not ?_|refine Ext.mk rfl ?_|refine ay.mk ?_|refine aa.aD ?_|refine aa.bC ?_|refine aa.bB ?_|refine Br.yes ?_|refine Br.no ?_))
   intro mb _
   (repeat (first|refine Nil.ptr ?_|refine ag.mk ?_|refine Ld.mk zM rfl ?_|refine aF.mk ?_|refine aa.eql ?_|refine aa.neq ?_|refine aa.lss ?_|refine aa.leq ?_|refine aa.gtr ?_|refine aa.geq ?_|refine Un.not ?_|refine Ext.mk rfl ?_|refine ay.mk ?_|refine aa.aD ?_|refine aa.bC ?_|refine aa.bB ?_|refine Br.yes ?_|refine Br.no ?_))
   refine St.one (by repeat (first|exact cD.head _|apply cD.tail|apply cD.bO)) rfl (by simp) rfl ?_
   refine JE.of ?_ (gN mb _ (by rw[hfn];exact jh.made mb))
   simp only[List.append_nil]
   refine .perm ?_
   refine(List.Perm.swap _ _ _).trans (.cons _ ?_)
   exact List.perm_append_comm (l₁:=[_])
  ·(repeat (first|refine Nil.ptr ?_|refine ag.mk ?_|refine Ld.mk zM rfl ?_|refine aF.mk ?_|refine aa.eql ?_|refine aa.neq ?_|refine aa.lss ?_|refine aa.leq ?_|refine aa.gtr ?_|refine aa.geq ?_|refine Un.not ?_|refine Ext.mk rfl ?_|refine ay.mk ?_|refine aa.aD ?_|refine aa.bC ?_|refine aa.bB ?_|refine Br.yes ?_|refine Br.no ?_))
   refine JE.mk ?_
   exact gN mb Cm (.inr ⟨mb,m,ck,rfl,h2⟩)
 ·refine hm.Hu zS hf ?_
  (repeat (first|refine Nil.ptr ?_|refine ag.mk ?_|refine Ld.mk zM rfl ?_|refine aF.mk ?_|refine aa.eql ?_|refine aa.neq ?_|refine aa.lss ?_|refine aa.leq ?_|refine aa.gtr ?_|refine aa.geq ?_|refine Un.not ?_|refine Ext.mk rfl ?_|refine ay.mk ?_|refine aa.aD ?_|refine aa.bC ?_|refine aa.bB ?_|refine Br.yes ?_|refine Br.no ?_))
  refine⟨_,_,rfl,.refl _,l,BH,.inl ⟨?_,rfl,rfl⟩⟩
  rw[fY];exact⟨i,hi,hx⟩
theorem OI{h:Value}{l:List It}{C:Hp}(hi:PT h l C)(bH:l.length<4398046511104):
  Fc Tryz.prog 78 #[h] C (fun v C'=>∃l',PT h l' C'∧
   ((l=[]∧v=.tuple #[.int .i64 0,.int .i64 0,.int .i64 10]∧l'=l)∨(∃a,l.Perm (a::l')∧(∀b∈l,prec b a=false)∧v=.tuple #[.int .i64 a.1,.int .i64 a.2,.int .i64 0]))):=by
 have BH:=hi
 obtain⟨f,ho,hc,hO,h1⟩:=hi
 by_cases hl:l=[]
 ·subst hl
  refine aR fun g=>wy ?_
  obtain⟨bh,sv,mv,Cs,Cm,rfl,rfl,hs,hm,hne⟩:=ho
  (repeat (first|refine Nil.ptr ?_|refine ag.mk ?_|refine Ld.mk zM rfl ?_|refine aF.mk ?_|refine aa.eql ?_|refine aa.neq ?_|refine aa.lss ?_|refine aa.leq ?_|refine aa.gtr ?_|refine aa.geq ?_|refine Un.not ?_|refine Ext.mk rfl ?_|refine ay.mk ?_|refine aa.aD ?_|refine aa.bC ?_|refine aa.bB ?_|refine Br.yes ?_|refine Br.no ?_))
  refine df.or true (fun _=>?_) rfl fun _=>?_
  ·(repeat (first|refine Nil.ptr ?_|refine ag.mk ?_|refine Ld.mk zM rfl ?_|refine aF.mk ?_|refine aa.eql ?_|refine aa.neq ?_|refine aa.lss ?_|refine aa.leq ?_|refine aa.gtr ?_|refine aa.geq ?_|refine Un.not ?_|refine Ext.mk rfl ?_|refine ay.mk ?_|refine aa.aD ?_|refine aa.bC ?_|refine aa.bB ?_|refine Br.yes ?_|refine Br.no ?_))
   refine hs.bc ?_
   (repeat (first|refine Nil.ptr ?_|refine ag.mk ?_|refine Ld.mk zM rfl ?_|refine aF.mk ?_|refine aa.eql ?_|refine aa.neq ?_|refine aa.lss ?_|refine aa.leq ?_|refine aa.gtr ?_|refine aa.geq ?_|refine Un.not ?_|refine Ext.mk rfl ?_|refine ay.mk ?_|refine aa.aD ?_|refine aa.bC ?_|refine aa.bB ?_|refine Br.yes ?_|refine Br.no ?_))
   exact⟨rfl,rfl⟩
  ·(repeat (first|refine Nil.ptr ?_|refine ag.mk ?_|refine Ld.mk zM rfl ?_|refine aF.mk ?_|refine aa.eql ?_|refine aa.neq ?_|refine aa.lss ?_|refine aa.leq ?_|refine aa.gtr ?_|refine aa.geq ?_|refine Un.not ?_|refine Ext.mk rfl ?_|refine ay.mk ?_|refine aa.aD ?_|refine aa.bC ?_|refine aa.bB ?_|refine Br.yes ?_|refine Br.no ?_))
   exact⟨_,_,rfl,.refl _,[],BH,.inl ⟨rfl,rfl,rfl⟩⟩
 ·obtain⟨n,hn⟩:∃n,l.length=n+1:=⟨l.length-1,by have:=List.length_pos_iff.2 hl;omega⟩
  have hmin:∀b∈l,prec b (aY l 0)=false:=fun b hb=>by
   obtain⟨j,hj,e⟩:=List.mem_iff_getElem.1 hb
   have:=N9 hO j hj
   rwa [show aY l j=b by simp[aY,List.getD,hj,e]]at this
  intro g
  refine wy (R:=aS _) ?_
  obtain⟨bh,la,mb,aJ,Cm,rfl,rfl,aE,hm⟩:=ho.open (by omega)
  unfold L78
  (repeat (first|refine Nil.ptr ?_|refine ag.mk ?_|refine Ld.mk zM rfl ?_|refine aF.mk ?_|refine aa.eql ?_|refine aa.neq ?_|refine aa.lss ?_|refine aa.leq ?_|refine aa.gtr ?_|refine aa.geq ?_|refine Un.not ?_|refine Ext.mk rfl ?_|refine ay.mk ?_|refine aa.aD ?_|refine aa.bC ?_|refine aa.bB ?_|refine Br.yes ?_|refine Br.no ?_))
  refine df.or false (fun _=>?_) rfl fun _=>?_
  ·(repeat (first|refine Nil.ptr ?_|refine ag.mk ?_|refine Ld.mk zM rfl ?_|refine aF.mk ?_|refine aa.eql ?_|refine aa.neq ?_|refine aa.lss ?_|refine aa.leq ?_|refine aa.gtr ?_|refine aa.geq ?_|refine Un.not ?_|refine Ext.mk rfl ?_|refine ay.mk ?_|refine aa.aD ?_|refine aa.bC ?_|refine aa.bB ?_|refine Br.yes ?_|refine Br.no ?_))
   exact⟨rfl,by rw[hn];simp;omega⟩
  (repeat (first|refine Nil.ptr ?_|refine ag.mk ?_|refine Ld.mk zM rfl ?_|refine aF.mk ?_|refine aa.eql ?_|refine aa.neq ?_|refine aa.lss ?_|refine aa.leq ?_|refine aa.gtr ?_|refine aa.geq ?_|refine Un.not ?_|refine Ext.mk rfl ?_|refine ay.mk ?_|refine aa.aD ?_|refine aa.bC ?_|refine aa.bB ?_|refine Br.yes ?_|refine Br.no ?_))
  refine an.of 0 rfl (by omega) ?_
  refine av.row (l:=dL .i64 l++aJ) zM aE (eU (by omega) aJ) ?_
  intro qz _
  refine St.p (ng _ _) ?_
  (repeat (first|refine Nil.ptr ?_|refine ag.mk ?_|refine Ld.mk zM rfl ?_|refine aF.mk ?_|refine aa.eql ?_|refine aa.neq ?_|refine aa.lss ?_|refine aa.leq ?_|refine aa.gtr ?_|refine aa.geq ?_|refine Un.not ?_|refine Ext.mk rfl ?_|refine ay.mk ?_|refine aa.aD ?_|refine aa.bC ?_|refine aa.bB ?_|refine Br.yes ?_|refine Br.no ?_))
  refine aa.oT (c:=(n:Int)) (by rw[hn];simp) (by omega) ?_
  (repeat (first|refine Nil.ptr ?_|refine ag.mk ?_|refine Ld.mk zM rfl ?_|refine aF.mk ?_|refine aa.eql ?_|refine aa.neq ?_|refine aa.lss ?_|refine aa.leq ?_|refine aa.gtr ?_|refine aa.geq ?_|refine Un.not ?_|refine Ext.mk rfl ?_|refine ay.mk ?_|refine aa.aD ?_|refine aa.bC ?_|refine aa.bB ?_|refine Br.yes ?_|refine Br.no ?_))
  refine an.nat (by omega) ?_
  refine av.row (l:=dL .i64 l++aJ) zM aE (eU (by omega) aJ) ?_
  intro SV _
  refine St.p (ng _ _) ?_
  (repeat (first|refine Nil.ptr ?_|refine ag.mk ?_|refine Ld.mk zM rfl ?_|refine aF.mk ?_|refine aa.eql ?_|refine aa.neq ?_|refine aa.lss ?_|refine aa.leq ?_|refine aa.gtr ?_|refine aa.geq ?_|refine Un.not ?_|refine Ext.mk rfl ?_|refine ay.mk ?_|refine aa.aD ?_|refine aa.bC ?_|refine aa.bB ?_|refine Br.yes ?_|refine Br.no ?_))
  refine ef.upto (h:=n) (by omega) ?_
  (repeat (first|refine Nil.ptr ?_|refine ag.mk ?_|refine Ld.mk zM rfl ?_|refine aF.mk ?_|refine aa.eql ?_|refine aa.neq ?_|refine aa.lss ?_|refine aa.leq ?_|refine aa.gtr ?_|refine aa.geq ?_|refine Un.not ?_|refine Ext.mk rfl ?_|refine ay.mk ?_|refine aa.aD ?_|refine aa.bC ?_|refine aa.bB ?_|refine Br.yes ?_|refine Br.no ?_))
  refine St.one (by repeat (first|exact cD.head _|apply cD.tail|apply cD.bO)) rfl (by simp) rfl ?_
  refine DR.self ?_
  (repeat (first|refine Nil.ptr ?_|refine ag.mk ?_|refine Ld.mk zM rfl ?_|refine aF.mk ?_|refine aa.eql ?_|refine aa.neq ?_|refine aa.lss ?_|refine aa.leq ?_|refine aa.gtr ?_|refine aa.geq ?_|refine Un.not ?_|refine Ext.mk rfl ?_|refine ay.mk ?_|refine aa.aD ?_|refine aa.bC ?_|refine aa.bB ?_|refine Br.yes ?_|refine Br.no ?_))
  rw[←List.append_nil Cm]
  refine jh.del (A:=[_,_,_,_]) (B:=[]) hm fun Q0 hm'=>?_
  rw[List.append_nil]
  have Qo:dL .i64 l++aJ=dL .i64 (l.take n)++(enc .i64 (aY l n)::aJ):=by
   have e:l=l.take n++[aY l n]:=by
    have h2:l.drop n=[aY l n]:=by
     rw[List.drop_eq_getElem_cons (by omega),List.drop_eq_nil_of_le (by omega)]
     simp[hn,aY,List.getD]
    have:=(List.take_append_drop n l).symm
    rw[h2]at this;exact this
   conv=>lhs;rw[e]
   simp[dL]
  have LJ:∀r∈dL .i64 (l.take n)++(enc .i64 (aY l n)::aJ),r.length=2:=by rw[←Qo];exact aE
  intro J hJ
  have hlt:(l.take n).length=n:=by simp[hn]
  have gN:∀l' C',PT (.pointer (some ⟨bh,0,none⟩)) l' C'→l.Perm (aY l 0::l')→J [] ((SV,Obj.cells (enc .i64 (aY l n)).toArray 233 (0,0))::(qz,Obj.cells (enc .i64 (aY l 0)).toArray 233 (0,0))::C'):=by
   intro l' C' hi' R4
   refine hJ _ fun gs=>?_
   (repeat (first|refine Nil.ptr ?_|refine ag.mk ?_|refine Ld.mk zM rfl ?_|refine aF.mk ?_|refine aa.eql ?_|refine aa.neq ?_|refine aa.lss ?_|refine aa.leq ?_|refine aa.gtr ?_|refine aa.geq ?_|refine Un.not ?_|refine Ext.mk rfl ?_|refine ay.mk ?_|refine aa.aD ?_|refine aa.bC ?_|refine aa.bB ?_|refine Br.yes ?_|refine Br.no ?_))
   exact⟨_,_,rfl,.skip .tail,l',hi',.inr ⟨_,R4,hmin,rfl⟩⟩
  (repeat (first|refine Nil.ptr ?_|refine ag.mk ?_|refine Ld.mk zM rfl ?_|refine aF.mk ?_|refine aa.eql ?_|refine aa.neq ?_|refine aa.lss ?_|refine aa.leq ?_|refine aa.gtr ?_|refine aa.geq ?_|refine Un.not ?_|refine Ext.mk rfl ?_|refine ay.mk ?_|refine aa.aD ?_|refine aa.bC ?_|refine aa.bB ?_|refine Br.yes ?_|refine Br.no ?_))
  have zm:Np (.pointer (some ⟨bh,0,none⟩)) (l.take n) (Ay f (aY l 0).1 none) ((bh,Obj.cells #[.slice (some ⟨la,0,none⟩) n (l.length+aJ.length),.map (some mb)] 231 (0,0))::(la,.cells (rows (dL .i64 l++aJ)) 233 (0,0))::Q0):=by
   rw[Qo]
   exact .shut LJ hlt.symm (by simp[hn];omega) hm'
  refine Br.mk (fun h0=>?_) (fun h0=>?_)
  ·have h0:0<n:=by simpa using h0
   obtain⟨_,q1,q2,q3,q4⟩:=NX hc hO h1 hn h0
   refine av.q ?_
   refine ae.fq (pz zm (i:=0) (by omega) (aY l n)) ?_
   rintro v C2 ⟨rfl,uG⟩
   have AH:kT ((l.take n).set 0 (aY l n)) (Ay (Ay f (aY l 0).1 none) (aY l n).1 (some 0)) 0:=by
    refine⟨fun j hj Sg=>?_,fun x hx=>?_⟩
    ·unfold Ay
     rw[if_neg]
     ·exact q4.1 j hj Sg
     ·intro e
      have h00:aY ((l.take n).set 0 (aY l n)) 0=aY l n:=by rw[fR _ (by omega)];simp[fU]
      exact Sg (q3.inj hj (by simp;omega) (by rw[e,h00]))
    ·unfold Ay
     rw[if_neg]
     ·exact q4.2 x hx
     ·intro e
      refine hx (fY.2 ⟨0,by simp;omega,?_⟩)
      rw[fR _ (by omega)];simp[fU,e]
   refine ae.fq (Lx uG (i:=0) (by simp;omega) (by simp;omega) (by simpa[hn]using q2) AH q3) ?_
   rintro v C3 ⟨rfl,l3,f3,zl,K9,Vq,UQ⟩
   exact JE.mk (gN l3 C3 ⟨f3,zl,Vq,UQ,q3.perm K9⟩ ((K9.cons (aY l 0)).trans q1).symm)
  ·have h0:n=0:=by simp at h0;omega
   subst h0
   refine JE.mk (gN (l.take 0) _ ⟨_,zm,⟨fun j hj=>by simp at hj,fun x _=>?_⟩,fun j _ hj=>by simp at hj,by simp[iH]⟩ ?_)
   ·unfold Ay
    split
    ·rfl
    ·rename_i hne
     refine hc.2 x fun hm=>hne ?_
     obtain⟨j,hj,e⟩:=fY.1 hm
     rw[show j=0 by omega]at e;exact e.symm
   ·match l,hn with
    | [a],_=>exact .refl _
end Go.Proofs
namespace aj
open Go.Sx MR
def nn(s k:Nat):It:=((s:Int),(k:Int))
variable {n:Nat} {c:Nat→Nat→Nat} {T:Nat} {D:List Nat} {l l':List It} {s i:Nat}
end aj
set_option maxRecDepth 100000
namespace Go.Proofs
open Go Go.Sx
open aC MR
theorem GP{pt n v:Nat}{T:Nd→Option Nat}{C:Hp}(h:mH pt n T C)(hv:v<n):
  Rd Tryz.prog 171 #[ptr pt,.int .i64 (v:Int)] C (fun r=>∃l:List (Nd×Nat),(l.map Prod.fst).Nodup∧(∀d r,(d,r)∈l↔T d=some r∧d.v=v)∧r=.tuple #[.int .i64 ((l.length:Nat):Int),.int .i64 0]):=by
 have h0:=h
 obtain⟨vs,Cs,ms,rfl,hs,ho⟩:=h
 obtain⟨m,hm⟩:∃m,ms[v]? =some m:=⟨_,List.getElem?_eq_getElem (by rw[ho.len];exact hv)⟩
 have he:=ho.ie v m hm
 have hT:∀d:Nd,d.v=v→T d=cR m.l d:=fun d hd=>by rw[ho.T,hd,hm];rfl
 have hmem:∀d r,(d,r)∈m.l↔T d=some r∧d.v=v:=fun d r=>by
  constructor
  ·intro hx
   have hd:=ho.var v m hm _ hx
   exact⟨by rw[hT d hd];exact(dS he.nd).2 hx,hd⟩
  ·rintro⟨h1,h2⟩
   rw[hT d h2]at h1
   exact(dS he.nd).1 h1
 refine aR fun g=>Er ?_
 refine ae.eq (jo h0 hv) ?_
 refine aa.cG (Br.F ?_)
 refine Nil.ptr ?_
 refine ag.mk (Ld.mk zM rfl ?_)
 refine hs.Qb (x:=.map (some m.b)) (by rw[List.getElem?_map,hm];rfl) (fun _ h=>by exact .tail _ (List.mem_append_left _ h)) ?_
 refine he.KB (b:=m.b) (by exact .tail _ (List.mem_append_right _ (pc hm))) ?_
 exact bN.mk (.refl _) ⟨m.l,he.nd,hmem,rfl⟩
section
variable {kp v gr:Nat} {K:Kd} {S:Nat→aC.Fn} {ord tr:List Nat} {C:Hp}
theorem HA{ah:List Nat}(h:cr kp K ord ah tr C)(hv:v<K.n):Rd Tryz.prog 93 #[ptr kp,.int .i64 (v:Int)] C (fun r=>∃l:List (Nd×Nat),(l.map Prod.fst).Nodup∧(∀d r,(d,r)∈l↔K.T d=some r∧d.v=v)∧r=.tuple #[.int .i64 ((l.length:Nat):Int),.int .i64 0]):=by
 have h0:=h
 obtain⟨b,rfl,hO⟩:=h
 refine aR fun g=>Ip ?_
 refine aa.aD (Br.no ?_)
 refine ae.eq (rL h0 (v:Int)) ?_
 rw[decide_eq_true (by omega)]
 refine Un.not (Br.no ?_)
 refine Nil.ptr (ag.mk (Ld.f ?_))
 refine ae.rq (GP hO.ut hv) ?_
 rintro r ⟨l,h1,h2,rfl⟩
 exact Ext.mk rfl (Ext.mk rfl (bN.mk (.refl _) ⟨l,h1,h2,rfl⟩))
theorem MB(h:At kp K S ord tr C)(hv:v<K.n):Rd Tryz.prog 93 #[ptr kp,.int .i64 (v:Int)] C (fun r=>∃w:Nat,r=.tuple #[.int .i64 (w:Int),.int .i64 0]):=by
 obtain⟨K',S',cZ,h,hk⟩:=h
 exact(HA h.rep (by rw[hk.n];exact hv)).mono fun r H ⟨e,l,_,_,h3⟩=>⟨e,_,h3⟩
theorem OP{h:Value}{l:List It}{C:Hp}(hi:PT h l C):Rd Tryz.prog 184 #[h] C (· =.int .i64 ((l.length:Nat):Int)):=by
 obtain⟨f,⟨bh,sv,mv,Cs,Cm,rfl,rfl,hs,hm,hne⟩,_⟩:=hi
 refine aR fun g=>Ei ?_
 refine aa.aD (Br.no ?_)
 refine Ld.n ?_
 refine hs.bc ?_
 rw[cv]
 exact bN.mk (.refl _) rfl
def Xs:List Value→Nat
 | .slice _ n _::_=>n
 |_=>0
theorem J4(h:At kp K S ord tr C):Fc Tryz.prog 114 #[ptr kp] C (fun r H=>∃N l,H=N++C∧l.Perm (List.range K.n)∧aK 3 .i64 r (iw l) N):=by
 have hn:=h.oK
 refine aR fun g=>E0 ?_
 refine aa.aD (Br.no ?_)
 refine ae.fq (OK C) ?_
 rintro w H ⟨bh,C0,rfl,rfl,BH⟩
 refine ae.eq (kI h) ?_
 refine⟨fun vs H=>∃(i:Nat) (l:List It) (C':Hp),vs=[.int .i64 (i:Int)]∧i≤K.n∧H=C'++C∧PT (.pointer (some ⟨bh,0,none⟩)) l C'∧(l.map Prod.fst).Perm (iw (List.range i)),fun vs _=>K.n-br vs 0,JE.mk ⟨0,[],C0,rfl,Nat.zero_le _,rfl,BH,.refl _⟩,?_⟩
 rintro w H ⟨i,l,C',⟨⟩,hi,rfl,hh,hp⟩ gs
 have k7:l.length=i:=by have:=hp.length_eq;simpa[iw]using this
 refine aa.dH (Br.dec (fun hlt=>?_) (fun hge=>?_))
 ·refine ae.rq (MB h hlt) ?_
  rintro r ⟨w,rfl⟩
  refine Ext.two ?_
  refine⟨_,rfl,?_⟩
  refine ae.fq (K7 hh (by omega) _ _) ?_
  rintro r C2 ⟨l2,Sk,⟨hin,_⟩|⟨_,rfl,dg⟩⟩
  ·exfalso
   have:=hp.mem_iff.1 hin
   rw[Kw,List.mem_range]at this
   omega
  refine aa.inc ?_
  refine aB.mk ⟨i+1,l2,C2,rfl,hlt,rfl,Sk,?_⟩ (by simp only[br];omega)
  refine(dg.map _).trans ?_
  rw[List.map_cons,List.range_succ,bP]
  exact(List.Perm.cons _ hp).trans (List.perm_append_comm (l₁:=[((i:Nat):Int)]))
 obtain rfl:i=K.n:=by omega
 refine⟨fun vs H=>∃(s:Value) (done:List Nat) (l:List It) (CS C':Hp),vs=[s]∧H=CS++(C'++C)∧PT (.pointer (some ⟨bh,0,none⟩)) l C'∧aK 3 .i64 s (iw done) CS∧(iw done++l.map Prod.fst).Perm (iw (List.range K.n)),fun vs _=>K.n-Xs vs,JE.mk ⟨_,[],l,[],C',rfl,rfl,hh,aK.nil,hp⟩,?_⟩
 clear hp hh k7
 rintro w H ⟨s,done,l,CS,C',⟨⟩,rfl,hh,hs,hp⟩ gs
 have hlen:done.length+l.length=K.n:=by have:=hp.length_eq;simpa[iw]using this
 refine ae.eq (OP hh) ?_
 refine aa.iU (b:=0) (Br.dec (fun hlt=>?_) (fun hge=>?_))
 ·refine ae.fq (OI hh (by omega)) ?_
  rintro r C2 ⟨l2,Sk,⟨rfl,_⟩|⟨a,dg,_,rfl⟩⟩
  ·simp at hlt
  have ha:a.1∈iw (List.range K.n):=hp.mem_iff.1 (List.mem_append_right _ (List.mem_map_of_mem (dg.mem_iff.2 (.head _))))
  obtain⟨x,hx,hxa⟩:=List.mem_map.1 ha
  refine Ext.mk rfl (Ext.mk rfl (Ext.mk rfl ?_))
  rw[←hxa]
  refine aq.int (e:=3) (by kernel_rfl) (by kernel_rfl) (by kernel_rfl) fun bx=>?_
  refine hs.pN (x:=(x:Int)) (.cons .left) (by exact .head _) (by rw[ai];omega) (by rw[ai];omega) fun s2 CS2 uu=>?_
  have kE:(iw (done++[x])++l2.map Prod.fst).Perm (iw (List.range K.n)):=by
   refine .trans ?_ hp
   rw[bP,List.append_assoc]
   refine List.Perm.append_left _ ?_
   refine .trans ?_ (dg.map _).symm
   rw[List.map_cons,←hxa]
   exact .refl _
  have e1:∀{s:Value} {done:List Nat} {CS:Hp},aK 3 .i64 s (iw done) CS→Xs [s]=done.length:=fun{s done CS} h=>by
   obtain⟨a,c,h⟩:=aO.len h
   rw[h];simp[Xs,iw]
  refine aB.of .tail ⟨s2,done++[x],l2,CS2,C2,rfl,rfl,Sk,by rw[bP];exact uu,kE⟩ ?_
  rw[e1 (done:=done++[x]) (by rw[bP];exact uu),e1 hs,List.length_append,List.length_singleton]
  have:=dg.length_eq
  rw[List.length_cons]at this
  omega
 ·have hl0:l=[]:=List.length_eq_zero_iff.1 (by omega)
  subst hl0
  rw[List.map_nil,List.append_nil]at hp
  obtain⟨l',hl',e⟩:=FI hp
  rw[e]at hs
  exact aS.mk (aM.cQ .right CS) ⟨CS,l',rfl,hl',hs⟩
theorem yz(h:At kp K S ord tr C)(hp:ord.Perm (List.range K.n))(fc:100≤gr∧gr≤1000)(fo:tr.length<274877906944):
  Fc Tryz.prog 47 #[ptr kp,.int .i64 (gr:Int)] C (fun v H=>∃l,l.Perm (List.range K.n)∧v=.tuple #[rep (cg K S ord) (cg K S (au ord ((rm K S).bZ gr ord l).1)) ((rm K S).bZ gr ord l).2,.int .i64 0]∧At kp K S (au ord ((rm K S).bZ gr ord l).1) (tr++((rm K S).bZ gr ord l).1) H):=by
 have hn:=h.oK
 have vI:(rm K S).n=K.n:=rfl
 refine aR fun g=>IQ ?_
 intro b1 _
 refine ae.eq (n6 kp (gr:=(gr:Int)) C) ?_
 rw[if_neg (by omega)]
 refine aa.cG (Br.F ?_)
 refine ae.eq (cz h) ?_
 refine Build.mk (cs:=[.int .i64 ((cg K S ord:Nat):Int),.int .i64 0,.int .i64 0,.bool false]) (by kernel_rfl) ?_
 intro Nn _
 refine St.q ?_
 refine ae.fq (J4 h) ?_
 rintro s H ⟨NQ,l,rfl,hl,hQ⟩
 have k7:l.length=K.n:=by rw[hl.length_eq,List.length_range]
 refine hQ.bc ?_
 rw[ai,k7]
 refine⟨fun vs H=>∃(i:Nat) (C':Hp),vs=[.int .i64 (i:Int)]∧i≤K.n∧H=(Nn,.cells (List.toArray [.int .i64 ((cg K S ord:Nat):Int),.int .i64 0,.int .i64 ((((rm K S).bZ gr ord (l.take i)).2:Nat):Int),.bool false]) 42 (0,0))::(b1,.cells #[.int .i64 0,.int .i64 0,.int .i64 0,.bool false] 42 (0,0))::(NQ++C')∧At kp K S (au ord ((rm K S).bZ gr ord (l.take i)).1) (tr++((rm K S).bZ gr ord (l.take i)).1) C',
  fun vs _=>K.n-br vs 0,JE.mk ⟨0,C,rfl,Nat.zero_le _,rfl,by simpa[Rm.bZ,au]using h⟩,?_⟩
 rintro w H ⟨i,C',⟨⟩,hi,rfl,hA⟩ gs
 have hok:=j8 (m:=rm K S) (g:=gr) (l:=l.take i) hp (fun v hv=>List.mem_range.1 (hl.mem_iff.1 (List.mem_of_mem_take hv)))
 have hlt:(l.take i).length≤64:=by rw[List.length_take];omega
 have h1:=hok.len
 have h2:=hok.r8
 have h3:(rm K S).n*(l.take i).length≤64*64:=Nat.mul_le_mul hn hlt
 have h4:3*((rm K S).n-1)*(l.take i).length≤(3*64)*64:=Nat.mul_le_mul (Nat.mul_le_mul_left _ (by rw[vI];omega)) hlt
 have R3:=j5 hp hok.mem
 refine aa.dH (Br.dec (fun hlt=>?_) (fun hge=>?_))
 ·have Ln:i<l.length:=by omega
  have jE:l.take (i+1)=l.take i++[l[i]]:=List.take_succ_eq_append_getElem Ln
  refine hQ.ld (x:=((l[i]:Nat):Int)) (bV (List.getElem?_eq_getElem Ln)) (fun _ h=>.tail _ (.tail _ (List.mem_append_left _ h))) ?_
  have hvn:l[i]<K.n:=List.mem_range.1 (hl.mem_iff.1 (List.getElem_mem Ln))
  refine ae.fq (NM hA R3 hvn fc (by rw[List.length_append];omega) rfl) ?_
  rintro w C2 ⟨rfl,jI⟩
  have zj:=(rm K S).Fz gr (ord:=au ord ((rm K S).bZ gr ord (l.take i)).1) (KU R3 hvn)
  have vH:=zj.r8
  rw[vI]at vH
  have OH:=uZ (m:=rm K S) (g:=gr) (v:=l[i]) (l:=l.take i) (ord:=ord)
  rw[←jE]at OH
  rw[List.append_assoc,←bU]at jI
  refine Ext.two ?_
  intro b30 _
  refine St.q ?_
  refine Ld.f ?_
  refine Ld.f ?_
  refine aa.dx ?_
  refine ag.mk (St.one (c':=List.toArray [.int .i64 ((cg K S ord:Nat):Int),.int .i64 0,.int .i64 ((((rm K S).bZ gr ord (l.take (i+1))).2:Nat):Int),.bool false]) (by exact .tail (.head _)) rfl (by simp) (by rw[OH];rfl) ?_)
  refine aa.inc ?_
  exact aB.of .tail ⟨i+1,C2,rfl,hlt,rfl,by rw[OH];exact jI⟩ (by simp only[br];omega)
 obtain rfl:i=K.n:=by omega
 rw[show l.take K.n=l from by rw[←k7];exact List.take_length]at hA⊢
 refine ae.eq (cz hA) ?_
 refine ag.mk (St.one (c':=List.toArray [.int .i64 ((cg K S ord:Nat):Int),.int .i64 ((cg K S (au ord ((rm K S).bZ gr ord l).1):Nat):Int),.int .i64 ((((rm K S).bZ gr ord l).2:Nat):Int),.bool false]) (by exact .head _) rfl (by simp) rfl ?_)
 refine av.q ?_
 refine St.q ?_
 refine av.q ?_
 exact aS.mk (.skip (.skip .right)) ⟨l,hl,rfl,hA⟩
end
end Go.Proofs
set_option maxRecDepth 100000
namespace Go.Proofs
open Go Go.Sx
open aC
section
variable {kp v gr:Nat} {K:Kd} {S:Nat→aC.Fn} {ord tr:List Nat} {C:Hp}
theorem yw(h:At kp K S ord tr C)(hp:ord.Perm (List.range K.n))(fc:100≤gr∧gr≤1000)(fo:tr.length<137438953472):
  Fc Tryz.prog 48 #[ptr kp,.int .i64 (gr:Int)] C (fun v H=>∃ls,(∀l∈ls,l.Perm (List.range K.n))∧(rm K S).qU gr ord ls∧v=.tuple #[rep (cg K S ord) (cg K S (au ord ((rm K S).cF gr ord ls).1)) ((rm K S).cF gr ord ls).2,.int .i64 ((ls.length:Nat):Int),.int .i64 0]∧At kp K S (au ord ((rm K S).cF gr ord ls).1) (tr++((rm K S).cF gr ord ls).1) H):=by
 have hn:=h.oK
 have hsz:=iG h
 have vI:(rm K S).n=K.n:=rfl
 have zk:∀o,(rm K S).size o=cg K S o:=fun _=>rfl
 refine aR fun g=>IP ?_
 intro b1 _
 refine ae.eq (n6 kp (gr:=(gr:Int)) C) ?_
 rw[if_neg (by omega)]
 refine aa.cG (Br.F ?_)
 refine ae.eq (cz h) ?_
 refine Build.mk (cs:=[.int .i64 ((cg K S ord:Nat):Int),.int .i64 0,.int .i64 0,.bool false]) (by kernel_rfl) ?_
 intro Nn _
 refine St.q ?_
 refine⟨fun vs H=>∃(ls:List (List Nat)) (af:Int) (C':Hp),vs=[.int .i64 ((ls.length+1:Nat):Int)]∧(∀l∈ls,l.Perm (List.range K.n))∧(rm K S).qq gr ord ls∧H=(Nn,.cells (List.toArray [.int .i64 ((cg K S ord:Nat):Int),.int .i64 af,.int .i64 ((((rm K S).cF gr ord ls).2:Nat):Int),.bool false]) 42 (0,0))::(b1,.cells #[.int .i64 0,.int .i64 0,.int .i64 0,.bool false] 42 (0,0))::C'∧At kp K S (au ord ((rm K S).cF gr ord ls).1) (tr++((rm K S).cF gr ord ls).1) C',
  fun vs _=>cg K S ord+1-br vs 0,JE.mk ⟨[],0,C,rfl,by simp,trivial,rfl,by simpa[Rm.cF,au]using h⟩,?_⟩
 rintro w H ⟨ls,af,C',⟨⟩,hls,hgd,rfl,hA⟩ gs
 obtain⟨g1,g2,g3,g4⟩:=vR hp hls hgd
 rw[vI]at g1 g3 g4
 rw[zk,zk]at g2
 have k7:ls.length≤1048576:=by omega
 have h3:3*(K.n-1)*K.n*ls.length≤(3*64*64)*1048576:=Nat.mul_le_mul (Nat.mul_le_mul (Nat.mul_le_mul_left _ (by omega)) hn) k7
 have h4:K.n*K.n*ls.length≤(64*64)*1048576:=Nat.mul_le_mul (Nat.mul_le_mul hn hn) k7
 have R3:=j5 hp g1
 refine ae.fq (yz hA R3 fc (by rw[List.length_append];omega)) ?_
 rintro w C2 ⟨l,hl,rfl,jI⟩
 have hok:=j8 (m:=rm K S) (g:=gr) (l:=l) R3 (fun v hv=>List.mem_range.1 (hl.mem_iff.1 hv))
 have vH:=hok.r8
 have hlen:l.length=K.n:=by rw[hl.length_eq,List.length_range]
 have hle:=hok.le
 rw[vI,hlen]at vH
 rw[zk,zk]at hle
 have h5:3*(K.n-1)*K.n≤3*64*64:=Nat.mul_le_mul (Nat.mul_le_mul_left _ (by omega)) hn
 have OH:=u3 (m:=rm K S) (g:=gr) (l:=l) (ls:=ls) (ord:=ord)
 have La:∀x∈ls++[l],x.Perm (List.range K.n):=fun x hx=>by
  rcases List.mem_append.1 hx with h|h
  ·exact hls x h
  ·rw[List.mem_singleton.1 h];exact hl
 rw[List.append_assoc,←bU]at jI
 have Yu:=qV (m:=rm K S) (g:=gr) (l:=l) hgd
 have hge:=zJ (m:=rm K S) (g:=gr) (l:=l) hgd
 rw[zk,zk]at Yu hge
 generalize hx:(rm K S).bZ gr (au ord ((rm K S).cF gr ord ls).1) l=x at*
 have e1:au (au ord ((rm K S).cF gr ord ls).1) x.1=au ord ((rm K S).cF gr ord (ls++[l])).1:=by rw[OH,bU]
 rw[e1]at Yu hge hle
 refine Ext.two ?_
 intro b24 _
 refine St.q ?_
 refine Ld.f ?_
 refine Ld.f ?_
 refine aa.dx ?_
 refine ag.mk (St.one (c':=List.toArray [.int .i64 ((cg K S ord:Nat):Int),.int .i64 af,.int .i64 ((((rm K S).cF gr ord (ls++[l])).2:Nat):Int),.bool false]) (by exact .tail (.head _)) rfl (by simp) (by rw[OH];rfl) ?_)
 refine Ld.f ?_
 refine ag.mk (St.one (c':=List.toArray [.int .i64 ((cg K S ord:Nat):Int),.int .i64 ((cg K S (au ord ((rm K S).cF gr ord (ls++[l])).1):Nat):Int),.int .i64 ((((rm K S).cF gr ord (ls++[l])).2:Nat):Int),.bool false]) (by exact .tail (.head _)) rfl (by simp) (by rw[←e1];rfl) ?_)
 refine Ld.f ?_
 refine Ld.f ?_
 rw[e1]
 refine aa.qT (Br.dec (fun ado=>?_) (fun hlt=>?_))
 ·refine av.q ?_
  refine St.q ?_
  refine av.q ?_
  exact aS.mk (.skip (.skip .tail)) ⟨ls++[l],La,hge (by omega),by rw[List.length_append];rfl,by rw[OH];exact jI⟩
 ·refine aa.inc ?_
  refine aB.of .tail ⟨ls++[l],_,C2,by rw[List.length_append];rfl,La,Yu (by omega),rfl,by rw[OH];exact jI⟩ ?_
  simp only[br];omega
end
end Go.Proofs
set_option maxRecDepth 100000
namespace Go.Proofs
open Go Go.Sx
theorem aa.p6{kd:IntKind}{a b:Nat}{k:Value→Prop}(hb:b≠0)(h:k (.int kd ((a%b:Nat):Int))):aa .num .rem (.int kd a) (.int kd b) k:=
 aa.P2 (by omega) rfl (by have:((a:Int)).tmod (b:Int)=((a%b:Nat):Int):=rfl;rw[this];exact h)
open aC
section
variable {kp mb Ae b1 b7 AN bn:Nat} {K:Kd} {S:Nat→aC.Fn} {ord ah tr:List Nat} {C:Hp}
def kr(r:Nat):Value:=u32 r
theorem sO(a b:Nat):Instr.sameNow (.int .u32) (kr a) (kr b)=some (decide (a=b)):=by
 simp only[Instr.sameNow,kr,u32,if_true,Option.some.injEq]
 rw[Bool.eq_iff_iff];simp;omega
theorem xk(a:Nat):Instr.sameBits 10000 (kr a) (kr a)=true:=by simp[Instr.sameBits,kr,u32]
structure Kn(n:Nat)(S:Nat→aC.Fn)(es:Array MapEntry)(ck:Nat)(m:List (Nat×Value))(Y:Hp):Prop where
 ie:aN kr (fun v x=>v=x) es ck m
 g8:∀r v,cR m r=some v→cC Y v n (S r)
 low:∀r,r<2→cR m r≠none
theorem Kn.mono{n:Nat}{S:Nat→aC.Fn}{es:Array MapEntry}{ck:Nat}{m:List (Nat×Value)}{Y Y':Hp}(h:Kn n S es ck m Y)(hs:∀x∈Y,x∈Y'):Kn n S es ck m Y':=⟨h.ie,fun r v hm=>(h.g8 r v hm).mono hs,h.low⟩
theorem cC.one{B:Hp}{v:Value}{n:Nat}{f:aC.Fn}(h:cC B v n f):∃s,v=.agg #[.int .i64 (n:Int),s]∧s.oneCell'=true:=by
 obtain⟨ws,⟨s,rfl,hw⟩,_,_⟩:=h
 exact⟨s,rfl,aG hw⟩
theorem cB{n:Nat}{s:Value}(h:s.oneCell'=true):∀u∈[Value.int .i64 (n:Int),s],u.oneCell'=true:=fun u hu=>by
 simp only[List.mem_cons,List.not_mem_nil,or_false]at hu
 rcases hu with rfl|rfl
 ·rfl
 ·exact h
theorem qc(d:Nd):∀u∈bt d,u.oneCell'=true:=fun u hu=>by
 simp only[bt,List.mem_cons,List.not_mem_nil,or_false]at hu
 rcases hu with rfl|rfl|rfl<;>rfl
theorem Mj{X:Hp}(h:cw kp K S ord ah tr C){r:Nat}{d:Nd}(hd:K.N r=some d):Px Tryz.prog 217 #[ptr kp,u32 r] (X++C) (fun v _=>v=.agg (bt d).toArray):=by
 have hlt:=h.bR (.inr ⟨d,hd⟩)
 refine aR fun g=>DQ ?_
 intro b1 _
 refine ae.eq (args:=#[ptr kp,u32 r]) (fM h.rep (by omega)) ?_
 rw[c8 hd (h.ok.mid.two hd).1]
 refine Ext.two ?_
 intro b7 _
 refine St.p (qc d) ?_
 refine av.q ?_
 refine St.p (qc d) ?_
 refine av.q ?_
 exact tL.mk (by repeat (first|exact aT.refl _|apply aT.cons|apply aT.app)) rfl
theorem Mm{X:Hp}{v:Value}(h:cw kp K S ord ah tr C){rs:List Nat}(hv:cS .u32 (X++C) v (iw rs))(hr:∀r∈rs,live K.N r)(hl:rs.length<4611686018427387904):Px Tryz.prog 150 #[ptr kp,v] (X++C) (fun w _=>w=.int .i64 0):=by
 refine aR fun g=>ED ?_
 refine aa.aD (Br.no ?_)
 refine hv.bc ?_
 rw[ai]
 refine⟨fun vs H=>∃(i:Nat) (N:Hp),vs=[.int .i64 (i:Int)]∧i≤rs.length∧H=N++(X++C),fun vs _=>rs.length-br vs 0,JE.mk ⟨0,[],rfl,Nat.zero_le _,rfl⟩,?_⟩
 rintro w H ⟨i,N,hw,hi,rfl⟩ gs
 simp only[List.cons.injEq,and_true]at hw
 subst hw
 refine aa.dH (Br.dec (fun hlt=>?_) (fun hge=>?_))
 ·have AD:=hr _ (List.getElem_mem hlt)
  have kF:=h.bR AD
  refine hv.ld (n:=((rs[i]:Nat):Int)) (bV (List.getElem?_eq_getElem hlt)) (fun _ h=>List.mem_append_right _ h) ?_
  refine ae.eq (args:=#[ptr kp,u32 rs[i]]) (fM h.rep (by omega)) ?_
  rw[if_pos (bM.2 AD)]
  refine Ext.two ?_
  intro b15 _
  refine St.whole (r:=got K.N rs[i]) (by exact .head _) rfl (aH _ _).1 (aH _ _).2 ?_
  refine aa.cG (Br.F ?_)
  refine aa.inc ?_
  exact aB.mk ⟨i+1,_::N,rfl,hlt,rfl⟩ (by simp only[br];omega)
 ·exact tL.mk (by repeat (first|exact aT.refl _|apply aT.cons|apply aT.app)) rfl
theorem L5{X:Hp}{n:Nat}(hn:n≤16){d:Nd}(hd:d.v<n){v1 v2:Value}{f1 f2:aC.Fn}(h1:cC X v1 n f1)(h2:cC X v2 n f2)(hm:(bn,Obj.cells #[.int .i64 (n:Int)] 3 (0,0))∈X):
  Px Tryz.prog 152 #[.agg (bt d).toArray,v1,v2,ptr bn] X (fun w H=>cC H w n (fun x=>if x.testBit d.v then f2 x else f1 x)):=by
 obtain⟨s1,rfl,o1⟩:=h1.one
 obtain⟨s2,rfl,o2⟩:=h2.one
 refine aR fun g=>EB ?_
 intro c1 _ c3 _ c5 _ c7 _
 refine Ld.mk (v:=.int .i64 (n:Int)) (by exact .tail _ (.tail _ (.tail _ (.tail _ hm)))) rfl ?_
 refine Ld.f ?_
 refine ae.px (aZ.left (C:=[]) (A:=_)) (Ft hn hd []) ?_
 rintro w N ⟨t,rfl,ht⟩
 rw[List.append_nil]at ht⊢
 obtain⟨s3,rfl,o3⟩:=ht.one
 refine Ext.two ?_
 intro QW _
 refine St.p (cB o3) ?_
 refine av.q ?_
 refine av.q ?_
 refine av.q ?_
 refine ae.pre (.perm (.cons _ (List.perm_middle.trans (.cons _ (List.perm_middle.trans (.cons _ (List.perm_middle.trans (.cons _ List.perm_middle)))))))) ?_
 refine ae.pq (wI (B:=N++X) (ht.mono fun _ h=>List.mem_append_left _ h) (h2.mono fun _ h=>List.mem_append_right _ h) (h1.mono fun _ h=>List.mem_append_right _ h)) ?_
 rintro w N2 ⟨t4,rfl,ht4⟩
 obtain⟨s4,rfl,o4⟩:=ht4.one
 refine Ext.two ?_
 intro c26 _
 refine St.p (cB o4) ?_
 refine av.q ?_
 refine St.p (cB o4) ?_
 refine av.q ?_
 refine tL.mk (by repeat (first|exact aT.refl _|apply aT.cons|apply aT.app)) (ht4.mono ?_)
 intro x hx
 repeat (first|exact hx|apply List.mem_cons_of_mem)
theorem Wb(h:cw kp K S ord ah tr C)(hn:K.n≤16){Z0:Hp}(Zl:(Ae,Obj.cells #[.map (some mb)] 295 (0,0))∈Z0)(h1:(b1,Obj.cells #[ptr kp] 26 (0,0))∈Z0)(h7:(b7,Obj.cells #[.func (.func 152) #[] #[ptr bn]] 221 (0,0))∈Z0)
 (h22:(AN,Obj.cells #[.func (.func 216) #[] #[ptr Ae,ptr b1,ptr b7,ptr AN]] 296 (0,0))∈Z0)(TE:(bn,Obj.cells #[.int .i64 (K.n:Int)] 3 (0,0))∈Z0):
  ∀(k r:Nat) (es:Array MapEntry) (ck:Nat) (m:List (Nat×Value)) (Z:Hp),K.n-dep K.n (lv ah) K.N r≤k→live K.N r→(∀x∈Z0,x∈Z)→Kn K.n S es ck m Z→
  Fc Tryz.prog 216 #[u32 r,ptr Ae,ptr b1,ptr b7,ptr AN] ((mb,.map es ck)::(Z++C)) (fun v H=>∃es' ca m' N,H=(mb,.map es' ca)::(N++(Z++C))∧Kn K.n S es' ca m' (N++Z)∧cC (N++Z) v K.n (S r)):=by
 have hit:∀{r:Nat} {es:Array MapEntry} {ck:Nat} {m:List (Nat×Value)} {Z:Hp} {v:Value},(∀x∈Z0,x∈Z)→Kn K.n S es ck m Z→cR m r=some v→
   Fc Tryz.prog 216 #[u32 r,ptr Ae,ptr b1,ptr b7,ptr AN] ((mb,.map es ck)::(Z++C)) (fun v H=>∃es' ca m' N,H=(mb,.map es' ca)::(N++(Z++C))∧Kn K.n S es' ca m' (N++Z)∧cC (N++Z) v K.n (S r)):=by
  intro r es ck m Z v hZ hm hv g
  obtain⟨s,rfl,hs⟩:=(hm.g8 r v hv).one
  refine tV (R:=aS _) ?_
  unfold L216
  intro c1 _
  refine Ld.mk (v:=.map (some mb)) (by exact .tail _ (.tail _ (List.mem_append_left _ (hZ _ Zl)))) rfl ?_
  refine hm.ie.hit (k:=r) sO (b:=mb) (by exact .tail _ (.head _)) hv fun v' e=>?_
  subst e
  refine Ext.two ?_
  intro c7 _
  refine St.p (cB hs) ?_
  refine Br.yes ?_
  refine av.q ?_
  refine St.p (cB hs) ?_
  refine av.q ?_
  exact aS.mk (.skip .tail) ⟨es,ck,m,[],rfl,hm,hm.g8 r _ hv⟩
 intro k
 induction k with
 |zero=>
  intro r es ck m Z hk hr hZ hm
  have ry:r<2:=by
   cases hN:K.N r with
   |some d=>
    have:=h.ok.wf.je h.ok.lv r
    rw[az hN]at hk
    have:=h.ok.lv.lt _ (h.ok.mid.var hN);omega
   |none=>
    rcases hr with hr|⟨d,e⟩
    ·exact hr
    ·rw[hN]at e;cases e
  cases hv:cR m r with
  |none=>exact absurd hv (hm.low r ry)
  |some v=>exact hit hZ hm hv
 |succ k ih=>
  intro r es ck m Z hk hr hZ hm
  cases hv:cR m r with
  |some v=>exact hit hZ hm hv
  |none=>
  have ry:¬r<2:=fun h2=>hm.low r h2 hv
  obtain⟨d,hN⟩:∃d,K.N r=some d:=by
   rcases hr with hr|hr
   ·omega
   ·exact hr
  have nJ:=h.ok.mid.var hN
  have hlo:=h.ok.wf.lo hN
  have hhi:=h.ok.wf.hi hN
  have hdl:=h.ok.wf.je h.ok.lv r
  rw[az hN]at hk
  have hvl:=h.ok.lv.lt _ nJ
  have VD:S r=fun x=>if x.testBit d.v then S d.hi x else S d.lo x:=funext fun x=>h.ok.mid.int.node hN x
  refine aR fun g=>tV ?_
  intro c1 _
  refine Ld.mk (v:=.map (some mb)) (by exact .tail _ (.tail _ (List.mem_append_left _ (hZ _ Zl)))) rfl ?_
  refine hm.ie.bK (k:=r) sO (b:=mb) (by exact .tail _ (.head _)) hv ?_
  refine Ext.two ?_
  intro c7 _
  refine St.q ?_
  refine Br.no ?_
  refine Ld.mk (v:=ptr kp) (by exact .tail _ (.tail _ (.tail _ (List.mem_append_left _ (hZ _ h1))))) rfl ?_
  refine ae.pq (args:=#[ptr kp,u32 r]) (Mj (X:=Z) h hN) ?_
  rintro w N0 rfl
  intro QW _
  refine St.p (qc d) ?_
  obtain⟨Z1,Vz⟩:∃Z1,Z1=(QW,Obj.cells (bt d).toArray 161 (0,0))::(N0++Z):=⟨_,rfl⟩
  have LL:∀x∈Z,x∈Z1:=fun x hx=>by rw[Vz];exact .tail _ (List.mem_append_right _ hx)
  have Lt:aM (Z1++C) ((QW,Obj.cells (bt d).toArray 161 (0,0))::Z):=by rw[Vz];exact aM.left.trans (.cons .right)
  have sV:((QW,Obj.cells (bt d).toArray 161 (0,0))::(c7,.cells (List.toArray [.int .i64 0,.slice none 0 0]) 57 (0,0))::(c1,.cells #[.int .i64 0,.slice none 0 0] 57 (0,0))::(mb,Obj.map es ck)::(N0++(Z++C))).Perm
    ((c1,.cells #[.int .i64 0,.slice none 0 0] 57 (0,0))::(c7,.cells (List.toArray [.int .i64 0,.slice none 0 0]) 57 (0,0))::(mb,Obj.map es ck)::(Z1++C)):=by
   rw[Vz,List.cons_append,List.append_assoc]
   refine(List.Perm.swap _ _ _).trans ?_
   refine(List.Perm.cons _ (List.Perm.swap _ _ _)).trans ?_
   refine(List.Perm.swap _ _ _).trans (.cons _ (.cons _ (.swap _ _ _)))
  have hR0:aM ((QW,Obj.cells (bt d).toArray 161 (0,0))::(c7,.cells (List.toArray [.int .i64 0,.slice none 0 0]) 57 (0,0))::(c1,.cells #[.int .i64 0,.slice none 0 0] 57 (0,0))::(mb,Obj.map es ck)::(N0++(Z++C))) ((QW,Obj.cells (bt d).toArray 161 (0,0))::Z):=
   .cons (.skip (.skip (.skip (.eG .left))))
  refine DR.of hR0 ?_
  refine Ld.mk (v:=.func (.func 152) #[] #[ptr bn]) (by exact .tail _ (hZ _ h7)) rfl ?_
  refine av.q ?_
  refine Ld.mk (v:=.func (.func 216) #[] #[ptr Ae,ptr b1,ptr b7,ptr AN]) (by exact .tail _ (hZ _ h22)) rfl ?_
  refine Ld.f ?_
  refine Ld.mk (v:=.func (.func 216) #[] #[ptr Ae,ptr b1,ptr b7,ptr AN]) (by exact .tail _ (hZ _ h22)) rfl ?_
  refine Ld.f ?_
  intro F
  refine bI.of rfl (by kernel_rfl) ?_
  refine ae.pre (.perm sV) ?_
  refine ae.fq (args:=#[u32 d.lo,ptr Ae,ptr b1,ptr b7,ptr AN]) (ih d.lo es ck m Z1 (by omega) hlo.1 (fun x hx=>LL _ (hZ x hx)) (hm.mono LL)) ?_
  rintro v1 H ⟨nC,k9,m1,N1,rfl,zv,Ql⟩
  refine⟨.skip (.skip (.skip (.eG Lt))),?_⟩
  rw[←List.append_assoc]
  intro F
  refine bI.of rfl (by kernel_rfl) ?_
  refine ae.fq (args:=#[u32 d.hi,ptr Ae,ptr b1,ptr b7,ptr AN]) (ih d.hi nC k9 m1 (N1++Z1) (by omega) hhi.1 (fun x hx=>List.mem_append_right _ (LL _ (hZ x hx))) zv) ?_
  rintro v2 H ⟨mr,nD,m2,N2,rfl,sY,M8⟩
  refine⟨.skip (.skip (.skip (.eG (aM.assoc.trans (.eG Lt))))),?_⟩
  rw[←List.append_assoc]
  intro F
  refine bI.of rfl (by kernel_rfl) ?_
  refine ae.pq (args:=#[.agg (bt d).toArray,v1,v2,ptr bn]) (L5 (bn:=bn) hn nJ (Ql.mono fun _ h=>List.mem_append_right _ h) M8 (List.mem_append_right _ (List.mem_append_right _ (LL _ (hZ _ TE))))) ?_
  intro v3 N3 OF
  rw[←VD]at OF
  refine⟨.skip (.skip (.skip (aM.assoc.trans (.eG (aM.assoc.trans (.eG (aM.assoc.trans (.eG Lt)))))))),?_⟩
  obtain⟨s3,rfl,o3⟩:=OF.one
  intro c37 _
  intro F
  refine St.p (cB o3) ?_
  refine Ld.mk (v:=.map (some mb)) (by exact .tail _ (.tail _ (.tail _ (.tail _ (List.mem_append_left _ (List.mem_append_right _ (List.mem_append_right _ (List.mem_append_right _ (LL _ (hZ _ Zl)))))))))) rfl ?_
  refine av.q ?_
  refine sY.ie.bS (k:=r) (b:=mb) (x:=.agg #[.int .i64 (K.n:Int),s3]) sO xk rfl fun rR we he=>⟨_,.tail (.tail (.tail (.head _))),?_⟩
  refine av.q ?_
  refine St.p (cB o3) ?_
  refine av.q ?_
  have hmem:∀x∈N3++(N2++(N1++Z1)),x∈(N3++(N2++(N1++((QW,Obj.cells (bt d).toArray 161 (0,0))::N0))))++Z:=fun x hx=>by
   rw[Vz]at hx
   simpa only[List.append_assoc,List.cons_append]using hx
  refine aS.mk (.skip (.skip .tail)) ⟨rR,we,fm m2 r (.agg #[.int .i64 (K.n:Int),s3]),N3++(N2++(N1++((QW,Obj.cells (bt d).toArray 161 (0,0))::N0))),by rw[Vz];simp only[List.append_assoc,List.cons_append],⟨he,fun r' v' vG=>?_,fun r' hr'=>?_⟩,OF.mono hmem⟩
  ·rw[fy]at vG
   split at vG
   ·rename_i e
    subst e
    cases vG
    exact OF.mono hmem
   ·exact(sY.g8 r' v' vG).mono fun x hx=>hmem x (List.mem_append_right _ hx)
  ·rw[fy]
   split
   ·simp
   ·exact sY.low r' hr'
end
section
variable {kp bn:Nat} {K:Kd} {S:Nat→aC.Fn} {ord ah tr:List Nat} {C:Hp}
theorem Pn(h:cw kp K S ord ah tr C)(hn:K.n≤16){r:Nat}(hr:live K.N r){X:Hp}{v0 v1:Value}(hv0:cC X v0 K.n (fun _=>false))(hv1:cC X v1 K.n (fun _=>true))(TE:(bn,Obj.cells #[.int .i64 (K.n:Int)] 3 (0,0))∈X):
  Fc Tryz.prog 151 #[ptr kp,u32 r,v0,v1,.func (.func 152) #[] #[ptr bn]] (X++C) (fun v H=>∃N,H=N++(X++C)∧cC (N++X) v K.n (S r)):=by
 obtain⟨s0,rfl,o0⟩:=hv0.one
 obtain⟨s1,rfl,o1⟩:=hv1.one
 have hi:=h.ok.mid.int
 refine aR fun g=>EC ?_
 intro b1 _ b3 _ b5 _ b7 _ b9 _ mb _
 refine av.q ?_
 refine aN.bS (ke:=kr) (vr:=fun v x=>v=x) (k:=0) (b:=mb) (x:=Value.agg #[.int .i64 (K.n:Int),s0]) sO xk aN.empty rfl fun nC k9 Jf=>⟨_,.head _,?_⟩
 refine av.q ?_
 refine aN.bS (ke:=kr) (vr:=fun v x=>v=x) (k:=1) (b:=mb) (x:=Value.agg #[.int .i64 (K.n:Int),s1]) sO xk Jf rfl fun mr nD Qw=>⟨_,.head _,?_⟩
 intro Ae _
 refine St.one (c':=#[.map (some mb)]) (by exact .head _) rfl (by simp) rfl ?_
 intro AN _
 refine St.one (c':=#[.func (.func 216) #[] #[ptr Ae,ptr b1,ptr b7,ptr AN]]) (by exact .head _) rfl (by simp) rfl ?_
 refine Ld.q ?_
 refine bI.of rfl (by kernel_rfl) ?_
 obtain⟨Z0,QH⟩:∃Z0:Hp,Z0=(AN,Obj.cells #[.func (.func 216) #[] #[ptr Ae,ptr b1,ptr b7,ptr AN]] 296 (0,0))::(Ae,.cells #[.map (some mb)] 295 (0,0))::(b7,.cells #[.func (.func 152) #[] #[ptr bn]] 221 (0,0))::(b5,.cells (Value.cells (.agg #[.int .i64 (K.n:Int),s1])) 57 (0,0))::(b3,.cells (Value.cells (.agg #[.int .i64 (K.n:Int),s0])) 57 (0,0))::(b1,.cells #[ptr kp] 26 (0,0))::X:=⟨_,rfl⟩
 have YP:∀x∈X,x∈Z0:=fun x hx=>by rw[QH];exact .tail _ (.tail _ (.tail _ (.tail _ (.tail _ (.tail _ hx)))))
 refine ae.pre (H':=(b9,Obj.cells #[.int .i64 0,.slice none 0 0] 57 (0,0))::(mb,Obj.map mr nD)::(Z0++C)) (.perm ?_) ?_
 ·rw[QH]
  simp only[List.cons_append]
  refine(List.Perm.cons _ (List.Perm.cons _ (List.Perm.swap _ _ _))).trans ?_
  refine(List.Perm.cons _ (List.Perm.swap _ _ _)).trans ?_
  refine(List.Perm.swap _ _ _).trans (.cons _ ?_)
  refine(List.Perm.cons _ (List.Perm.swap _ _ _)).trans ?_
  exact List.Perm.swap _ _ _
 refine ae.fq (args:=#[u32 r,ptr Ae,ptr b1,ptr b7,ptr AN]) (Wb (Z0:=Z0) (bn:=bn) h hn (by rw[QH];exact .tail _ (.head _)) (by rw[QH];exact .tail _ (.tail _ (.tail _ (.tail _ (.tail _ (.head _)))))) (by rw[QH];exact .tail _ (.tail _ (.head _))) (by rw[QH];exact .head _) (YP _ TE) K.n r mr nD _ Z0 (Nat.sub_le _ _) hr (fun _ h=>h) ⟨Qw,fun r v hm=>?_,fun r hr=>?_⟩) ?_
 ·rw[fy,fy]at hm
  split at hm
  ·rename_i e;subst e;cases hm
   have:=hv1.mono YP
   rwa [show(fun _=>true)=S 1 from funext fun x=>(hi.one x).symm]at this
  split at hm
  ·rename_i e;subst e;cases hm
   have:=hv0.mono YP
   rwa [show(fun _=>false)=S 0 from funext fun x=>(hi.zero x).symm]at this
  ·simp[cR]at hm
 ·rw[fy,fy]
  have:r=0∨r=1:=by omega
  rcases this with rfl|rfl<;>simp
 rintro v H ⟨rR,we,m3,N,rfl,_,ht⟩
 obtain⟨s3,rfl,o3⟩:=ht.one
 refine St.p (cB o3) ?_
 refine av.q ?_
 refine aS.mk (.skip .tail) ⟨N++[(AN,Obj.cells #[.func (.func 216) #[] #[ptr Ae,ptr b1,ptr b7,ptr AN]] 296 (0,0)),(Ae,.cells #[.map (some mb)] 295 (0,0)),(b7,.cells #[.func (.func 152) #[] #[ptr bn]] 221 (0,0)),(b5,.cells (Value.cells (.agg #[.int .i64 (K.n:Int),s1])) 57 (0,0)),(b3,.cells (Value.cells (.agg #[.int .i64 (K.n:Int),s0])) 57 (0,0)),(b1,.cells #[ptr kp] 26 (0,0))],by rw[QH];simp,ht.mono fun x hx=>?_⟩
 rw[QH]at hx
 simpa using hx
theorem Ib(h:cw kp K S ord ah tr C)(hn:K.n≤16){r:Nat}(hr:live K.N r):
  Fc Tryz.prog 71 #[ptr kp,u32 r] C (fun v H=>∃N t,H=N++C∧v=.tuple #[t,.int .i64 0]∧cC N t K.n (S r)):=by
 refine aR fun g=>Iw ?_
 intro b1 _
 refine aq.int (e:=77) (by kernel_rfl) (by kernel_rfl) (by kernel_rfl) fun bx=>?_
 refine ae.px .here (Mm (X:=[(bx,_),(b1,_)]) (rs:=[r]) h (cS.block (by exact .head _) (by simp)) (fun x hx=>by rw[List.mem_singleton.1 hx];exact hr) (by simp)) ?_
 rintro w N0 rfl
 refine aa.cG (Br.F ?_)
 refine ae.eq (gy h.rep) ?_
 intro gR _
 refine St.one (c':=#[.int .i64 (K.n:Int)]) (by exact .head _) rfl (by simp) rfl ?_
 refine Ld.q ?_
 refine aa.iU (b:=16) (Br.F ?_)
 refine Ld.q ?_
 refine ae.px (aZ.left (C:=[]) (A:=_)) (mN hn false []) ?_
 rintro w N1 ⟨t0,rfl,OG⟩
 rw[List.append_nil]at OG⊢
 obtain⟨s0,rfl,o0⟩:=OG.one
 refine Ext.two ?_
 intro b26 _
 refine St.p (cB o0) ?_
 refine Ld.q ?_
 refine ae.px (aZ.left (C:=[]) (A:=_)) (mN hn true []) ?_
 rintro w N2 ⟨t1,rfl,Ql⟩
 rw[List.append_nil]at Ql⊢
 obtain⟨s1,rfl,o1⟩:=Ql.one
 refine Ext.two ?_
 intro b34 _
 refine St.p (cB o1) ?_
 refine av.q ?_
 refine av.q ?_
 obtain⟨X,hX⟩:∃X:Hp,X=(b34,Obj.cells (List.toArray [.int .i64 (K.n:Int),s1]) 57 (0,0))::(N2++((b26,Obj.cells (List.toArray [.int .i64 (K.n:Int),s0]) 57 (0,0))::(N1++((gR,Obj.cells #[.int .i64 (K.n:Int)] 3 (0,0))::(N0++[(bx,Obj.cells (ax .u32 [(r:Int)]) 77 (0,0))]))))):=⟨_,rfl⟩
 refine ae.pre (H':=(b1,Obj.cells #[.int .i64 0,.slice none 0 0] 57 (0,0))::(X++C)) (.perm ?_) ?_
 ·rw[hX]
  have:=List.perm_middle (a:=(b1,Obj.cells #[Value.int .i64 0,.slice none 0 0] 57 (0,0))) (l₂:=C) (l₁:=(b34,Obj.cells (List.toArray [Value.int .i64 (K.n:Int),s1]) 57 (0,0))::(N2++((b26,Obj.cells (List.toArray [Value.int .i64 (K.n:Int),s0]) 57 (0,0))::(N1++((gR,Obj.cells #[Value.int .i64 (K.n:Int)] 3 (0,0))::(N0++[(bx,Obj.cells (ax .u32 [(r:Int)]) 77 (0,0))]))))))
  simpa only[List.cons_append,List.append_assoc,List.nil_append]using this
 refine ae.fq (Pn (X:=X) (bn:=gR) h hn hr (OG.mono fun x hx=>?_) (Ql.mono fun x hx=>?_) ?_) ?_
 ·rw[hX];exact .tail _ (List.mem_append_right _ (.tail _ (List.mem_append_left _ hx)))
 ·rw[hX];exact .tail _ (List.mem_append_left _ hx)
 ·rw[hX];exact .tail _ (List.mem_append_right _ (.tail _ (List.mem_append_right _ (.head _))))
 rintro v H ⟨N,rfl,ht⟩
 obtain⟨s3,rfl,o3⟩:=ht.one
 refine St.p (cB o3) ?_
 refine av.q ?_
 exact aS.mk .tail ⟨N++X,_,by rw[List.append_assoc],rfl,ht⟩
def rts(K:Kd):List Nat:=(List.range K.ho.length).filter fun r=>decide (0<K.hold r)
theorem G5(h:cw kp K S ord ah tr C):Fc Tryz.prog 70 #[ptr kp] C (fun r H=>∃N,H=N++C∧aK 77 .u32 r (iw (rts K)) N):=by
 obtain⟨b,hC,hO⟩:=h.rep
 have hcap:=h.ok.mid.cap
 have hle:=h.iS
 have hfit:K.ho.length≤1048576:=by
  have:=hO.ul
  omega
 refine aR fun g=>Ix ?_
 refine aa.aD (Br.no ?_)
 have UF:∀z∈b.CH,z∈C:=by rw[hC];exact aZ.sub (.cons (.app (.app (.app .left))))
 refine Nil.ptr (ag.mk (Ld.u (by rw[hC];exact .head _) ?_))
 refine hO.ho.bc ?_
 rw[ai]
 let rk:Nat→List Nat:=fun k=>(List.range k).filter fun r=>decide (0<K.hold r)
 refine⟨fun vs H=>∃(k:Nat) (w:Value) (N:Hp),vs=[w,.int .i64 (k:Int)]∧k≤K.ho.length∧H=N++C∧aK 77 .u32 w (iw (rk k)) N,fun vs _=>K.ho.length-br vs 1,JE.mk ⟨0,_,[],rfl,Nat.zero_le _,rfl,aK.nil⟩,?_⟩
 rintro ZR Wy H ⟨k,w,N,⟨⟩,hk,rfl,hN⟩ gs
 refine aa.dH (Br.dec (fun hlt=>?_) (fun hlt=>?_))
 ·intro J hJ
  have fin:∀w' N',aK 77 .u32 w' (iw (rk (k+1))) N'→J [w'] (N'++C):=fun w' N' h'=>hJ _ _ fun gs=>by
   refine aa.inc ?_
   exact aB.of (.refl _) ⟨k+1,w',N',rfl,hlt,rfl,h'⟩ (by simp only[br];omega)
  have e:rk (k+1)=rk k++if 0<K.hold k then [k]else []:=by
   show(List.range (k+1)).filter _=_
   rw[List.range_succ,List.filter_append]
   congr 1
   by_cases hp:0<K.hold k<;>simp[hp]
  refine hO.ho.ld (x:=((K.hold k:Nat):Int)) (aX hlt) (fun z hz=>List.mem_append_right _ (UF z hz)) ?_
  refine aa.iU (b:=0) (Br.dec (fun hp=>?_) (fun hp=>?_))
  ·rw[e,if_pos hp]at fin
   refine aQ.q ?_
   have pT:(rk k).length≤k:=by
    have:=List.length_filter_le (fun r=>decide (0<K.hold r)) (List.range k)
    rwa [List.length_range]at this
   refine aq.int (e:=77) (by kernel_rfl) (by kernel_rfl) (by kernel_rfl) fun bx=>?_
   refine hN.pN (.cons .left) (by exact .head _) (by rw[ai];omega) (by rw[ai];omega) fun v' N' cj=>?_
   rw[bP]at fin
   exact JE.of .tail (fin v' N' cj)
  ·rw[e,if_neg hp,List.append_nil]at fin
   exact JE.mk (fin ZR N hN)
 ·obtain rfl:k=K.ho.length:=by omega
  exact aS.here ⟨N,rfl,hN⟩
end
end Go.Proofs
namespace aj
open Go.Sx
def AM(c:Nat→Nat→Nat):Nat→List Nat→Nat
 |_,[]=>0
 |a,v::o=>c a v+AM c (aA a v true) o
def n7(a:Nat)(o:List Nat):Nat:=o.foldl (fun a v=>aA a v true) a
theorem yx(a:Nat)(o o':List Nat):n7 a (o++o')=n7 (n7 a o) o':=List.foldl_append ..
theorem tv(c:Nat→Nat→Nat):∀(o o':List Nat) (a:Nat),AM c a (o++o')=AM c a o+AM c (n7 a o) o'
 | [],o',a=>by simp[AM,n7]
 |v::o,o',a=>by rw[List.cons_append,AM,tv c o o',AM,Nat.add_assoc];rfl
theorem oP:∀(o:List Nat) (a u:Nat),(n7 a o).testBit u=(a.testBit u||decide (u∈o))
 | [],a,u=>by simp[n7]
 |v::o,a,u=>by
  show(n7 (aA a v true) o).testBit u=_
  rw[oP o,ak]
  by_cases e:u=v
  ·simp[e]
  ·simp[e]
structure kQ(n a:Nat)(o:List Nat):Prop where
 nd:o.Nodup
 mem:∀v,v∈o↔v∈bK n a
variable {n:Nat} {c:Nat→Nat→Nat}
theorem kQ.nil{a:Nat}(h:kQ n a []):bK n a=[]:=List.eq_nil_iff_forall_not_mem.2 fun v hv=>by simpa using(h.mem v).2 hv
theorem kQ.tail{a v:Nat}{o:List Nat}(h:kQ n a (v::o)):v∈bK n a∧kQ n (aA a v true) o:=by
 have h1:=List.nodup_cons.1 h.nd
 refine⟨(h.mem v).1 (by simp),h1.2,fun u=>?_⟩
 rw[ct,ak]
 have hu:=h.mem u
 rw[ct,List.mem_cons]at hu
 by_cases e:u=v
 ·subst e;simp[h1.1]
 ·simp only[e,false_or,if_false]at hu⊢;exact hu
theorem kQ.cons{a v:Nat}{o:List Nat}(hv:v∈bK n a)(h:kQ n (aA a v true) o):kQ n a (v::o):=by
 have hm:=h.mem
 refine⟨List.nodup_cons.2 ⟨fun hx=>?_,h.nd⟩,fun u=>?_⟩
 ·have:=(hm v).1 hx
  rw[ct,ak,if_pos rfl]at this
  exact absurd this.2 (by simp)
 ·rw[List.mem_cons,hm,ct,ct,ak]
  rw[ct]at hv
  by_cases e:u=v
  ·subst e;simp[hv]
  ·simp[e]
theorem Au:∀(o:List Nat) (a:Nat),kQ n a o→B n c a≤AM c a o
 | [],a,h=>by rw[GB h.nil];exact Nat.zero_le _
 |v::o,a,h=>by
  obtain⟨h1,h2⟩:=h.tail
  exact Nat.le_trans (Ww h1) (Nat.add_le_add_left (Au o _ h2) _)
theorem Bg:∀(f a:Nat),(bK n a).length≤f→kQ n a (ord n c f a)∧AM c a (ord n c f a)=B n c a
 |0,a,h=>by
  have hm:bK n a=[]:=List.eq_nil_of_length_eq_zero (by omega)
  rw[ord,GB hm]
  exact⟨⟨by simp,fun v=>by rw[hm]⟩,rfl⟩
 |f+1,a,h=>by
  by_cases hm:bK n a=[]
  ·have:ord n c (f+1) a=[]:=by rw[ord,hm];rfl
   rw[this,GB hm]
   exact⟨⟨by simp,fun v=>by rw[hm]⟩,rfl⟩
  ·obtain⟨v,hv,he,_,ho⟩:=sD (c:=c) (f:=f) hm
   have:=fJ hv
   obtain⟨h1,h2⟩:=Bg f (aA a v true) (by omega)
   rw[ho]
   exact⟨h1.cons hv,by rw[AM,h2,he]⟩
theorem mW(n:Nat):bK n 0=List.range n:=by
 unfold bK;rw[List.filter_eq_self.2];simp
end aj
namespace aj
open Go.Sx
def NH(n:Nat)(l:Fs)(vs:List Nat):Fs:=vs.foldl (fun l v=>given n l v) l
theorem LG(A k:Nat):has (k+1) A=has k A++(if A.testBit k then [k]else []):=by
 unfold has;rw[List.range_succ,List.filter_append];congr 1;rw[List.filter_cons];simp
theorem sb(n:Nat)(l:Fs)(a b:List Nat):NH n l (a++b)=NH n (NH n l a) b:=List.foldl_append ..
theorem sj(n:Nat)(L:Fs)(A:Nat):∀k,st n L A k=NH n (ik L) (has k A)
 |0=>rfl
 |k+1=>by
  rw[st,LG,sb,←sj n L A k]
  split<;>rfl
def Sm(a b:Fs):Prop:=∀x,x∈a↔x∈b
theorem Sm.trans{a b c:Fs}(h:Sm a b)(h':Sm b c):Sm a c:=fun x=>(h x).trans (h' x)
theorem Sm.symm{a b:Fs}(h:Sm a b):Sm b a:=fun x=>(h x).symm
theorem Sm.refl(a:Fs):Sm a a:=fun _=>Iff.rfl
def AF(n:Nat)(l:Fs):Prop:=∀t∈l,dh n t
variable {n:Nat}
theorem qR{a b:Fs}(h:Sm a b)(v:Nat):Sm (given n a v) (given n b v):=fun x=>by
 rw[bL,bL]
 constructor
 ·rintro⟨t,ht,h'⟩;exact⟨t,(h t).1 ht,h'⟩
 ·rintro⟨t,ht,h'⟩;exact⟨t,(h t).2 ht,h'⟩
theorem LX(hn:n≤16)(l:Fs)(v:Nat):AF n (given n l v):=fun t ht=>by
 obtain⟨u,_,b,rfl⟩:=bL.1 ht;exact cy hn
theorem z7{t:List Nat}{u v:Nat}{b c:Bool}(hf:dh n t)(hu:u<n)(hv:v<n)(h:u≠v):eV n (eV n t u b) v c=eV n (eV n t v c) u b:=
 (cy hf.qd).ext (cy hf.qd) fun x hx=>by
  rw[dP (cy hf.qd) hv hx,dP hf hu (fG hx hv),dP (cy hf.qd) hu hx,dP hf hv (fG hx hu),cX (Ne.symm h)]
theorem BP{l:Fs}{u v:Nat}(hl:AF n l)(hu:u<n)(hv:v<n)(h:u≠v):Sm (given n (given n l u) v) (given n (given n l v) u):=fun x=>by
 rw[bL,bL]
 constructor
 ·rintro⟨t,ht,c,rfl⟩
  obtain⟨s,hs,b,rfl⟩:=bL.1 ht
  exact⟨eV n s v c,bL.2 ⟨s,hs,c,rfl⟩,b,z7 (hl s hs) hu hv h⟩
 ·rintro⟨t,ht,c,rfl⟩
  obtain⟨s,hs,b,rfl⟩:=bL.1 ht
  exact⟨eV n s u c,bL.2 ⟨s,hs,c,rfl⟩,b,z7 (hl s hs) hv hu (Ne.symm h)⟩
theorem uX:∀(vs:List Nat) {a b:Fs},Sm a b→Sm (NH n a vs) (NH n b vs)
 | [],_,_,h=>h
 |v::vs,_,_,h=>uX vs (qR h v)
theorem JP(hn:n≤16){vs vs':List Nat}(hp:vs.Perm vs'):(∀v∈vs,v<n)→∀l,AF n l→Sm (NH n l vs) (NH n l vs'):=by
 induction hp with
 |nil=>exact fun _ l _=>Sm.refl _
 |cons v _ ih=>exact fun h l hl=>ih (fun u hu=>h u (by simp[hu])) _ (LX hn l v)
 |swap x y r=>
  intro h l hl
  by_cases e:x=y
  ·subst e;exact Sm.refl _
  ·exact uX r (BP hl (h y (by simp)) (h x (by simp)) (Ne.symm e))
 |trans sV _ ih1 ih2=>exact fun h l hl=>(ih1 h l hl).trans (ih2 (fun v hv=>h v (sV.mem_iff.2 hv)) l hl)
theorem uW:∀(vs:List Nat) {l:Fs},l.Nodup→(NH n l vs).Nodup
 | [],_,h=>h
 |v::vs,_,_=>uW vs (mh _ _ _)
theorem GO{L:Fs}(h:AF n L):AF n (ik L):=fun t ht=>h t (dU.1 ht)
theorem Bh{a b:Fs}(ha:a.Nodup)(hb:b.Nodup)(h:Sm a b)(v:Nat):(nodes n a v).length=(nodes n b v).length:=iz (ew ha hb h)
theorem vN(n a:Nat):(has n a).Nodup:=List.Pairwise.filter _ List.nodup_range
theorem Sy{a v:Nat}(h:v∈has n a):v<n:=(o9.1 h).1
theorem LH{a v:Nat}(hv:v<n)(ha:a.testBit v=false):(has n (aA a v true)).Perm (has n a++[v]):=by
 refine(List.perm_ext_iff_of_nodup (vN _ _) ?_).2 fun u=>?_
 ·rw[List.nodup_append]
  refine⟨vN _ _,by simp,fun x hx y hy=>?_⟩
  simp at hy;subst hy
  rintro rfl
  rw[(o9.1 hx).2]at ha;cases ha
 ·rw[o9,List.mem_append,List.mem_singleton,o9,ak]
  by_cases e:u=v
  ·subst e;simp[hv]
  ·simp[e]
theorem NK(hn:n≤16){L:Fs}(hL:AF n L){a v:Nat}(hv:v<n)(ha:a.testBit v=false):Sm (st n L (aA a v true) n) (given n (st n L a n) v):=by
 rw[sj,sj]
 have h:=JP hn (LH hv ha) (fun u hu=>Sy hu) _ (GO hL)
 rw[sb]at h
 exact h
variable {φ:List Nat→List Nat} {π:Nat→Nat}
def lay(n:Nat)(F:Nat→Nat):List Nat:=(List.range (wN n)).map fun i=>F i&&&dc n
def neg(n:Nat)(ws:List Nat):List Nat:=lay n fun i=>18446744073709551615-ws.getD i 0
end aj
namespace aC
open aj
section
variable {n:Nat} {ord:List Nat} {L:aj.Fs}
theorem A4(a:Nat)(o:List Nat)(v:Nat):n7 a (o++[v])=aA (n7 a o) v true:=by rw[yx];rfl
theorem Me(hn:n≤16)(hL:∀t∈L,dh n t)(hp:ord.Perm (List.range n)):∀k,k≤n→Sm (cur n ord L k) (st n L (n7 0 (ord.take k)) n)
 |0,_=>by
  have e:st n L (n7 0 (ord.take 0)) n=ik L:=by
   rw[sj]
   have:has n (n7 0 (ord.take 0))=[]:=by
    show has n 0=[]
    rw[List.eq_nil_iff_forall_not_mem]
    intro v hv
    have:=(o9.1 hv).2
    rw[Nat.zero_testBit]at this;cases this
   rw[this];rfl
  rw[e];exact .refl _
 |k+1,hk=>by
  have rz:ord.length=n:=by rw[hp.length_eq,List.length_range]
  have gE:ord.Nodup:=hp.nodup_iff.2 List.nodup_range
  have hlt:k<ord.length:=by omega
  have hv:ord[k]<n:=List.mem_range.1 (hp.mem_iff.1 (List.getElem_mem hlt))
  have hg:ord.getD k 0=ord[k]:=by rw[List.getD_eq_getElem?_getD,List.getElem?_eq_getElem hlt];rfl
  have ht:ord.take (k+1)=ord.take k++[ord[k]]:=List.take_succ_eq_append_getElem hlt
  have hno:ord[k]∉ord.take k:=fun hm=>by
   have h2:(ord.take (k+1)).Nodup:=gE.sublist (List.take_sublist _ _)
   rw[ht]at h2
   exact(List.nodup_append.1 h2).2.2 _ hm _ (by simp) rfl
  have hb:(n7 0 (ord.take k)).testBit ord[k]=false:=by
   rw[oP,Nat.zero_testBit,decide_eq_false hno];rfl
  rw[ht,A4]
  refine Sm.trans ?_ (Sm.symm (NK hn hL hv hb))
  rw[cur,hg]
  exact qR (Me hn hL hp k (by omega)) _
theorem Om(hn:n≤16)(hL:∀t∈L,dh n t)(hp:ord.Perm (List.range n)){k:Nat}(hk:k≤n)(v:Nat):(nodes n (cur n ord L k) v).length=lvl n L (n7 0 (ord.take k)) v:=by
 unfold lvl
 refine Bh (ni k) ?_ (Me hn hL hp k hk) v
 rw[sj];exact uW _ (j3 _)
theorem zY(hn:n≤16)(hL:∀t∈L,dh n t)(hp:ord.Perm (List.range n)):∀k,k≤n→AM (lvl n L) 0 (ord.take k)=cY n ord L k
 |0,_=>rfl
 |k+1,hk=>by
  have rz:ord.length=n:=by rw[hp.length_eq,List.length_range]
  have hlt:k<ord.length:=by omega
  have hg:ord.getD k 0=ord[k]:=by rw[List.getD_eq_getElem?_getD,List.getElem?_eq_getElem hlt];rfl
  rw[List.take_succ_eq_append_getElem hlt,tv,zY hn hL hp k (by omega),cY]
  congr 1
  unfold l5
  rw[Om hn hL hp (by omega),hg]
  simp[AM]
theorem v7(hn:n≤16)(hL:∀t∈L,dh n t)(hp:ord.Perm (List.range n)):AM (lvl n L) 0 ord=cY n ord L n:=by
 have rz:ord.length=n:=by rw[hp.length_eq,List.length_range]
 rw[←zY hn hL hp n (Nat.le_refl n),←rz,List.take_length]
theorem Bw(hp:ord.Perm (List.range n)):kQ n 0 ord:=⟨hp.nodup_iff.2 List.nodup_range,fun v=>by rw[mW];exact hp.mem_iff⟩
theorem Be(h:kQ n 0 ord):ord.Perm (List.range n):=by
 refine(List.perm_ext_iff_of_nodup h.nd List.nodup_range).2 fun v=>?_
 rw[h.mem,mW]
theorem qx(c:Nat→Nat→Nat):(aj.ord n c n 0).Perm (List.range n):=Be (Bg n 0 (by rw[mW,List.length_range];exact Nat.le_refl n)).1
theorem qw(hn:n≤16)(hL:∀t∈L,dh n t):cY n (aj.ord n (lvl n L) n 0) L n=B n (lvl n L) 0:=by
 rw[←v7 hn hL (qx _)]
 exact(Bg n 0 (by rw[mW,List.length_range];exact Nat.le_refl n)).2
theorem PA(hn:n≤16)(hL:∀t∈L,dh n t)(hp:ord.Perm (List.range n)):B n (lvl n L) 0≤cY n ord L n:=by
 rw[←v7 hn hL hp]
 exact Au ord 0 (Bw hp)
end
end aC
set_option maxRecDepth 100000
namespace Go.Proofs
open Go Go.Sx
open aC
section
variable {kp:Nat} {K:Kd} {S:Nat→aC.Fn} {ord tr:List Nat} {C:Hp}
theorem sk{n:Nat}{o:List Nat}:∀k,cY n o [] k=0:=by
  have hc:∀k,cur n o [] k=[]:=fun k=>by
    induction k with
    |zero=>rfl
    |succ k ih=>rw[cur,ih];rfl
  intro k
  induction k with
  |zero=>rfl
  |succ k ih=>rw[cY,ih];unfold l5;rw[hc];rfl
theorem A0{B:Hp}{v:Value}{n:Nat}{f:aC.Fn}(h:cC B v n f):∃s ws,v=.agg #[.int .i64 (n:Int),s]∧Words B s ws∧aj.dh n ws∧gJ n ws=f:=by
  obtain⟨ws,⟨s,rfl,hw⟩,hf,he⟩:=h
  exact⟨s,ws,rfl,hw,hf,he⟩
def ZF(kp:Nat)(K:Kd)(S:Nat→aC.Fn)(ord tr:List Nat)(v:Value)(H:Hp):Prop:=
  ∃L:aj.Fs,(∀t∈L,aj.dh K.n t)∧K.held S=FT K.n L∧L.length≤1048576∧
   ((cg K S ord=aj.B K.n (aj.lvl K.n L) 0∧v=.tuple #[.agg #[.int .i64 ((cg K S ord:Nat):Int),.int .i64 ((cg K S ord:Nat):Int),.int .i64 0,.bool true],.int .i64 0]∧At kp K S ord tr H)∨
    (cg K S ord≠aj.B K.n (aj.lvl K.n L) 0∧∃o ls,o=aj.ord K.n (aj.lvl K.n L) K.n 0∧ls=path ord o∧
     (((rm K S).can ord ls=true∧v=.tuple #[.agg #[.int .i64 ((cg K S ord:Nat):Int),.int .i64 ((cg K S o:Nat):Int),.int .i64 ((ls.length:Nat):Int),.bool true],.int .i64 0]∧At kp K S o (tr++ls) H)∨
      ((rm K S).can ord ls=false∧v=.tuple #[.agg #[.int .i64 ((cg K S ord:Nat):Int),.int .i64 ((cg K S ord:Nat):Int),.int .i64 ((2*((rm K S).c9 0 ls ord).length:Nat):Int),.bool false],.int .i64 0]∧At kp K S ord tr H))))
theorem Ns(h:At kp K S ord tr C)(hp:ord.Perm (List.range K.n))(hn:K.n≤12)(fo:tr.length<274877906944):
    Fc Tryz.prog 25 #[ptr kp] C (fun v H=>ZF kp K S ord tr v H):=by
  have h0:=h
  obtain⟨K',S',cZ,hK,hk⟩:=h
  have BN:=hk.n
  have fC:∀r,K'.hold r≠0→live K'.N r:=fun r hr=>(.inr (hK.ok.mid.held r hr))
  have hcap:=hK.ok.mid.cap
  have hle:=hK.iS
  have pT:(rts K').length≤1048576:=by
    obtain⟨b,_,hO⟩:=hK.rep
    have:=hO.ul
    have h2:=List.length_filter_le (fun r=>decide (0<K'.hold r)) (List.range K'.ho.length)
    rw[List.length_range]at h2
    show(List.filter _ _).length≤_
    omega
  have vI:∀r,r∈rts K'↔K'.hold r≠0:=fun r=>by
    unfold rts
    rw[List.mem_filter,List.mem_range,decide_eq_true_iff]
    constructor
    · rintro⟨_,h⟩;omega
    · intro h
      refine⟨Classical.byContradiction fun h2=>h ?_,by omega⟩
      unfold Kd.hold
      rw[List.getD_eq_getElem?_getD,List.getElem?_eq_none (by omega)];rfl
  refine aR fun g=>IY ?_
  intro b1 _
  refine aa.aD (Br.no ?_)
  refine ae.eq (kI h0) ?_
  refine aa.iU (b:=12) (Br.F ?_)
  refine ae.fq (G5 hK) ?_
  rintro vr H ⟨NR,rfl,hR⟩
  have SD:cS .u32 NR vr (iw (rts K')):=hR.ints
  refine hR.bc ?_
  rw[ai]
  refine⟨fun vs H=>∃(i:Nat) (s:Value) (L:aj.Fs) (CS N:Hp),vs=[s,.int .i64 (i:Int)]∧i≤(rts K').length∧H=(b1,.cells #[.int .i64 0,.int .i64 0,.int .i64 0,.bool false] 42 (0,0))::(CS++(N++C))∧(∀x∈NR,x∈N)∧pO 57 s (GR K'.n L) CS N∧L.length=i∧(∀t∈L,aj.dh K'.n t)∧∀j t,L[j]? =some t→∃r,(rts K')[j]? =some r∧gJ K'.n t=S' r,
    fun vs _=>(rts K').length-br vs 1,JE.mk ⟨0,_,[],[],NR,rfl,Nat.zero_le _,rfl,fun _ h=>h,pO.nil,rfl,fun t ht=>absurd ht (List.not_mem_nil),fun j t (hj:([]:List (List Nat))[j]? =some t)=>absurd hj (by rw[List.getElem?_nil];exact nofun)⟩,?_⟩
  rintro ZP w21 H ⟨i,s,L,CS,N,⟨⟩,hi,rfl,hN,hT,VP,AJ,W5⟩ gs
  refine aa.dH (Br.dec (fun hlt=>?_) (fun hge=>?_))
  · refine SD.ld (n:=(((rts K')[i]:Nat):Int)) (bV (List.getElem?_eq_getElem hlt)) (fun x hx=>.tail _ (List.mem_append_right _ (List.mem_append_left _ (hN x hx)))) ?_
    refine ae.fq (args:=#[ptr kp,u32 (rts K')[i]]) (Ib hK (by omega) (fC _ ((vI _).1 (List.getElem_mem hlt)))) ?_
    rintro w H ⟨Nt,t,rfl,rfl,ht⟩
    obtain⟨sw,ws,rfl,hw,hf,he⟩:=A0 ht
    refine Ext.two ?_
    intro b29 _
    refine St.p (cB (aG hw)) ?_
    refine av.q ?_
    refine jO fun yc=>?_
    have hT':pO 57 ZP (GR K'.n L) CS (N++Nt):=hT.mono fun _ h=>List.mem_append_left _ h
    refine pO.app hT' (A:=[(yc,_),(b29,_),(b1,_)]) (B:=N++(Nt++C)) (t:=⟨(K'.n:Int),ws⟩) (by exact .head _) (hw.mono fun _ h=>List.mem_append_right _ h) (by rw[nV];omega) fun v' ZL VC=>?_
    refine aa.inc ?_
    refine aB.of (.skip .tail) ⟨i+1,v',L++[ws],ZL,N++Nt,rfl,hlt,by rw[List.append_assoc];rfl,fun x hx=>List.mem_append_left _ (hN x hx),by unfold GR at VC⊢;rw[List.map_append];exact VC,by rw[List.length_append,VP];rfl,fun t ht=>?_,fun j t hj=>?_⟩ (by simp only[br];omega)
    · rcases List.mem_append.1 ht with ht|ht
      · exact AJ t ht
      · rw[List.mem_singleton.1 ht];exact hf
    · by_cases Sf:j<L.length
      · rw[List.getElem?_append_left Sf]at hj
        exact W5 j t hj
      · rw[List.getElem?_append_right (by omega)]at hj
        have:j=i:=by
          have:=(List.getElem?_eq_some_iff.1 hj).1
          rw[List.length_singleton]at this;omega
        subst this
        rw[VP,Nat.sub_self]at hj
        simp at hj
        subst hj
        exact⟨_,List.getElem?_eq_getElem hlt,he⟩
  have hi':i=(rts K').length:=by omega
  subst hi'
  rw[BN]at hT AJ W5
  have vK:K.held S=FT K.n L:=by
    refine funext fun g=>propext ?_
    rw[←hk.held g]
    constructor
    · rintro⟨r,hr,rfl⟩
      obtain⟨j,hj,e⟩:=List.mem_iff_getElem.1 ((vI r).2 hr)
      obtain⟨r2,ry,he⟩:=W5 j L[j] (List.getElem?_eq_getElem (by omega))
      rw[List.getElem?_eq_getElem hj,e]at ry
      cases ry
      exact⟨L[j],List.getElem_mem _,he.symm⟩
    · rintro⟨t,ht,rfl⟩
      obtain⟨j,hj,e⟩:=List.mem_iff_getElem.1 ht
      obtain⟨r2,ry,he⟩:=W5 j t (by rw[List.getElem?_eq_getElem hj,e])
      exact⟨r2,(vI r2).1 (List.mem_of_getElem? ry),he⟩
  have hlt:=FH hp
  have hkz:cg K S ord=cY K.n ord L K.n:=by
    unfold cg;rw[vK];exact PY AJ (by omega) hlt
  have LO:L.length≤1048576:=by omega
  refine ae.eq (cz h0) ?_
  have hTb:dZ (CS++N) ZP (GR K.n L):=hT.Xq (fun _ h=>List.mem_append_left _ h) (fun _ h=>List.mem_append_right _ h)
  rw[←List.append_assoc]
  refine ae.pq (Pz hTb (by rw[nV];omega)) ?_
  intro w NB hB
  obtain⟨so,Y,hY,rfl,hI⟩:∃so Y,NB++(CS++N)=Y∧w=.tuple #[.int .i64 ((aj.B K.n (aj.lvl K.n L) 0:Nat):Int),so,.int .i64 0]∧(L≠[]→cS .i64 Y so (iw (aj.ord K.n (aj.lvl K.n L) K.n 0))):=by
    have hO:pP (GR K.n L):=sF AJ
    rcases hB with⟨hno,_⟩|⟨_,n2,L2,e,hz,_,AG,hB⟩
    · exact absurd hO hno
    by_cases ic:L=[]
    · subst ic
      have hL2:L2=[]:=by cases L2 with
        |nil=>rfl
        |cons a b=>simp[GR]at e
      subst hL2
      obtain rfl:=hz rfl
      have hB0:aj.B K.n (aj.lvl K.n []) 0=0:=by rw[←qw (by omega) (by simp)];exact sk _
      rcases hB with⟨h,_⟩|⟨_,s2,C2,N2,rfl,_,_⟩
      · omega
      exact⟨s2,_,rfl,by rw[hB0];rfl,fun h=>absurd rfl h⟩
    · have OL:n2=K.n∧L2=L:=by
        cases L with
        |nil=>exact absurd rfl ic
        |cons a b=>
          cases L2 with
          |nil=>simp[GR]at e
          |cons a2 b2=>
            simp only[GR,List.map_cons,List.cons.injEq,Tb.mk.injEq]at e
            obtain⟨⟨e1,e2⟩,e3⟩:=e
            have e1:n2=K.n:=by omega
            subst e1
            refine⟨rfl,?_⟩
            rw[e2]
            congr 1
            refine((List.map_inj_right (f:=fun ws=>(⟨(K.n:Int),ws⟩:Tb)) ?_).1 e3).symm
            intro x y hxy
            simpa using hxy
      obtain⟨rfl,rfl⟩:=OL
      rcases hB with⟨h,_⟩|⟨_,s2,C2,N2,rfl,hown,hH⟩
      · omega
      exact⟨s2,_,rfl,rfl,fun _=>by rw[hH];exact hown.ints.mono fun _ h=>List.mem_append_left _ h⟩
  rw[hY]
  clear hB
  refine Ext.mk rfl (Ext.mk rfl (Ext.mk rfl ?_))
  refine aa.cE (Br.dec (fun heq=>?_) (fun hne=>?_))
  · refine Build.mk (cs:=[.int .i64 ((cg K S ord:Nat):Int),.int .i64 ((cg K S ord:Nat):Int),.int .i64 0,.bool true]) (by kernel_rfl) ?_
    refine St.q ?_
    refine av.q ?_
    exact aS.mk (.skip .right) ⟨L,AJ,vK,LO,.inl ⟨heq,rfl,h0⟩⟩
  · have ic:L≠[]:=fun e=>by
      subst e
      refine hne ?_
      rw[hkz,←qw (by omega) (by simp),sk,sk]
    obtain⟨o,ho⟩:∃o,o=aj.ord K.n (aj.lvl K.n L) K.n 0:=⟨_,rfl⟩
    have hop:o.Perm (List.range K.n):=by rw[ho];exact qx _
    have hIo:=hI ic
    rw[←ho]at hIo
    refine ae.fq (Km h0 hIo hp hop (by omega)) ?_
    rintro w H ⟨C2,rfl,hM⟩
    have R2:=(wX (hop.nodup_iff.2 List.nodup_range) (hp.trans hop.symm)).1
    rcases hM with⟨hc,rfl,hA⟩|⟨hc,rfl,hA⟩
    · rw[R2]at hA
      refine Ext.two ?_
      refine ae.eq (cz hA) ?_
      refine aa.gA ?_
      rw[decide_eq_true rfl]
      refine Build.mk (cs:=[.int .i64 ((cg K S ord:Nat):Int),.int .i64 ((cg K S o:Nat):Int),.int .i64 (((path ord o).length:Nat):Int),.bool true]) (by kernel_rfl) ?_
      refine St.q ?_
      refine av.q ?_
      exact aS.mk (.skip .right) ⟨L,AJ,vK,LO,.inr ⟨hne,o,_,ho,rfl,.inl ⟨hc,rfl,hA⟩⟩⟩
    · refine Ext.two ?_
      refine ae.eq (cz hA) ?_
      refine aa.gA ?_
      rw[decide_eq_false (by decide)]
      refine Build.mk (cs:=[.int .i64 ((cg K S ord:Nat):Int),.int .i64 ((cg K S ord:Nat):Int),.int .i64 ((2*((rm K S).c9 0 (path ord o) ord).length:Nat):Int),.bool false]) (by kernel_rfl) ?_
      refine St.q ?_
      refine av.q ?_
      exact aS.mk (.skip .right) ⟨L,AJ,vK,LO,.inr ⟨hne,o,_,ho,rfl,.inr ⟨hc,rfl,hA⟩⟩⟩
end
end Go.Proofs
set_option maxRecDepth 100000
namespace Go.Proofs
open Go Go.Sx
open aC
section
variable {kp:Nat} {K:Kd} {S:Nat→aC.Fn} {ord tr:List Nat} {C:Hp} {Q:Value→Hp→Prop}
theorem yA{w:Nat}(hw:3≤w∧w≤5):Rd Tryz.prog 100 #[.int .u8 (w:Int)] C (· =.int .i64 ((w-1:Nat):Int)):=by
 refine aR fun g=>Ff ?_
 refine aa.bE (b:=3) ?_
 refine aQ.q ?_
 refine aa.dx (b:=2) ?_
 refine bN.mk (.refl _) ?_
 rw[show w-3+2=w-1 by omega]
theorem fj(h:At kp K S ord tr C){s gr:Nat}:Rd Tryz.prog 115 #[ptr kp,.int .u8 (s:Int),.int .i64 (gr:Int)] C (· =.int .i64 (if 6<s∨gr<100∨1000<gr then 1 else if s=6∧12<K.n then 6 else 0)):=by
 refine aR fun g=>EZ ?_
 refine aa.aD (Br.no ?_)
 refine aa.iU (b:=6) ?_
 refine df.or (a:=decide (6<s)) (decide (gr<100)) (fun _=>aa.dH (b:=100) ⟨rfl,rfl⟩) rfl fun _=>?_
 refine df.or (a:=decide (6<s)||decide (gr<100)) (decide (1000<gr)) (fun _=>aa.iU (b:=1000) ⟨rfl,rfl⟩) rfl fun _=>?_
 rw[←Bool.decide_or,←Bool.decide_or]
 refine Br.dec (fun hb=>?_) (fun hb=>?_)
 ·rw[if_pos (by omega)]
  exact bN.mk (.refl _) rfl
 rw[if_neg (by omega)]
 intro J9 h9
 refine aa.cE (b:=6) ?_
 by_cases hs:s=6
 ·rw[decide_eq_true hs]
  refine Split.go rfl ?_
  refine ae.eq (kI h) ?_
  refine aa.iU (b:=12) (ay.mk (JE.mk (h9 _ _ fun _=>?_)))
  show Br (.bool (decide (12<K.n))) _ _
  refine Br.dec (fun Pb=>?_) (fun Pb=>?_)
  ·rw[if_pos ⟨hs,Pb⟩];exact bN.mk (.refl _) rfl
  ·rw[if_neg (by omega)];exact bN.mk (.refl _) rfl
 ·rw[decide_eq_false hs]
  refine Split.Kj rfl ?_
  refine ay.mk (JE.mk (h9 _ _ fun _=>Br.no ?_))
  rw[if_neg (by omega)];exact bN.mk (.refl _) rfl
theorem mS(a b c:Int)(d:Bool):∀u∈[Value.int .i64 a,.int .i64 b,.int .i64 c,.bool d],u.oneCell'=true:=fun u hu=>by
 simp only[List.mem_cons,List.not_mem_nil,or_false]at hu
 rcases hu with rfl|rfl|rfl|rfl<;>rfl
abbrev uC(a b c:Int)(d:Bool):Value:=.agg #[.int .i64 a,.int .i64 b,.int .i64 c,.bool d]
theorem FB(h:At kp K S ord tr C){s gr:Nat}(hb:6<s∨gr<100∨1000<gr):Rd Tryz.prog 49 #[ptr kp,.int .u8 (s:Int),.int .i64 (gr:Int)] C (· =.tuple #[uC 0 0 0 false,.int .i64 1]):=by
 refine aR fun g=>gk ?_
 intro b1 _
 refine ae.eq (fj h) ?_
 rw[if_pos hb]
 refine aa.cG (Br.T ?_)
 refine Build.mk (cs:=[.int .i64 0,.int .i64 0,.int .i64 0,.bool false]) (by kernel_rfl) ?_
 refine St.q ?_
 refine av.q ?_
 exact bN.mk .tail rfl
theorem Ua(h:At kp K S ord tr C){gr:Nat}(fc:100≤gr∧gr≤1000)(hn:12<K.n):Rd Tryz.prog 49 #[ptr kp,.int .u8 6,.int .i64 (gr:Int)] C (· =.tuple #[uC 0 0 0 false,.int .i64 6]):=by
 refine aR fun g=>gk ?_
 intro b1 _
 refine ae.eq (fj h (s:=6)) ?_
 rw[if_neg (by omega),if_pos ⟨rfl,hn⟩]
 refine aa.cG (Br.T ?_)
 refine Build.mk (cs:=[.int .i64 0,.int .i64 0,.int .i64 0,.bool false]) (by kernel_rfl) ?_
 refine St.q ?_
 refine av.q ?_
 exact bN.mk .tail rfl
theorem JU(h:At kp K S ord tr C){gr:Nat}(fc:100≤gr∧gr≤1000)(hin:Fc Tryz.prog 47 #[ptr kp,.int .i64 (gr:Int)] C Q)(hQ:∀v H,Q v H→∃(a b c:Int) (d:Bool) (e:Value),v=.tuple #[uC a b c d,e]):
  Fc Tryz.prog 49 #[ptr kp,.int .u8 1,.int .i64 (gr:Int)] C Q:=by
 refine aR fun g=>gk ?_
 intro b1 _
 refine ae.eq (fj h (s:=1)) ?_
 rw[if_neg (by omega),if_neg (by omega)]
 refine aa.cG (Br.F ?_)
 refine aa.cE (a:=1) (b:=1) (Br.yes ?_)
 refine ae.fq hin ?_
 intro v H hv
 obtain⟨a,b,c,d,e,rfl⟩:=hQ v H hv
 refine Ext.two ?_
 refine St.p (mS a b c d) ?_
 refine av.q ?_
 exact aS.mk .tail hv
theorem A7(h:At kp K S ord tr C){gr:Nat}(fc:100≤gr∧gr≤1000)(hin:Fc Tryz.prog 48 #[ptr kp,.int .i64 (gr:Int)] C (fun v H=>∃(a b c:Int) (d:Bool) (r:Value),v=.tuple #[uC a b c d,r,.int .i64 0]∧Q (.tuple #[uC a b c d,.int .i64 0]) H)):
  Fc Tryz.prog 49 #[ptr kp,.int .u8 2,.int .i64 (gr:Int)] C Q:=by
 refine aR fun g=>gk ?_
 intro b1 _
 refine ae.eq (fj h (s:=2)) ?_
 rw[if_neg (by omega),if_neg (by omega)]
 refine aa.cG (Br.F ?_)
 refine aa.cE (a:=2) (b:=1) (Br.no ?_)
 refine aa.cE (a:=2) (b:=2) (Br.yes ?_)
 refine ae.fq hin ?_
 rintro v H ⟨a,b,c,d,r,rfl,hv⟩
 refine Ext.mk rfl (Ext.mk rfl (Ext.mk rfl ?_))
 intro AN _
 refine St.p (mS a b c d) ?_
 refine av.q ?_
 refine St.p (mS a b c d) ?_
 refine av.q ?_
 exact aS.mk (.skip .tail) hv
theorem A6(h:At kp K S ord tr C){w gr:Nat}(hw:3≤w∧w≤5)(fc:100≤gr∧gr≤1000)(hin:Fc Tryz.prog 22 #[ptr kp,.int .i64 ((w-1:Nat):Int)] C Q)(hQ:∀v H,Q v H→∃(a b c:Int) (d:Bool) (e:Value),v=.tuple #[uC a b c d,e]):
  Fc Tryz.prog 49 #[ptr kp,.int .u8 (w:Int),.int .i64 (gr:Int)] C Q:=by
 refine aR fun g=>gk ?_
 intro b1 _
 refine ae.eq (fj h (s:=w)) ?_
 rw[if_neg (by omega),if_neg (by omega)]
 refine aa.cG (Br.F ?_)
 refine aa.cE (b:=1) (Br.F ?_)
 refine aa.cE (b:=2) (Br.F ?_)
 intro Ws V0
 have good:Ws [.bool true] ((b1,.cells #[.int .i64 0,.int .i64 0,.int .i64 0,.bool false] 42 (0,0))::C):=by
  refine V0 _ _ fun _=>Br.yes ?_
  refine ae.eq (yA hw) ?_
  refine ae.fq hin ?_
  intro v H hv
  obtain⟨a,b,c,d,e,rfl⟩:=hQ v H hv
  refine Ext.two ?_
  refine St.p (mS a b c d) ?_
  refine av.q ?_
  exact aS.mk .tail hv
 refine aa.cE (b:=3) (Br.dec (fun e=>?_) (fun e=>?_))
 ·rw[decide_eq_true e];exact JE.mk good
 refine aa.cE (b:=4) (Br.dec (fun e=>?_) (fun e=>?_))
 ·rw[decide_eq_true e];exact JE.mk good
 refine aa.cE (b:=5) ?_
 rw[decide_eq_true (by omega)];exact JE.mk good
theorem G1(h:At kp K S ord tr C){gr:Nat}(hn:K.n≤12)(fc:100≤gr∧gr≤1000)(hin:Fc Tryz.prog 25 #[ptr kp] C Q)(hQ:∀v H,Q v H→∃(a b c:Int) (d:Bool) (e:Value),v=.tuple #[uC a b c d,e]):
  Fc Tryz.prog 49 #[ptr kp,.int .u8 6,.int .i64 (gr:Int)] C Q:=by
 refine aR fun g=>gk ?_
 intro b1 _
 refine ae.eq (fj h (s:=6)) ?_
 rw[if_neg (by omega),if_neg (by omega)]
 refine aa.cG (Br.F ?_)
 refine aa.cE (a:=6) (b:=1) (Br.no ?_)
 refine aa.cE (a:=6) (b:=2) (Br.no ?_)
 intro Ws V0
 refine aa.cE (a:=6) (b:=3) (Br.no ?_)
 refine aa.cE (a:=6) (b:=4) (Br.no ?_)
 refine aa.cE (a:=6) (b:=5) (JE.mk (V0 _ _ fun _=>Br.no ?_))
 refine aa.cE (a:=6) (b:=6) (Br.yes ?_)
 refine ae.fq hin ?_
 intro v H hv
 obtain⟨a,b,c,d,e,rfl⟩:=hQ v H hv
 refine Ext.two ?_
 refine St.p (mS a b c d) ?_
 refine av.q ?_
 exact aS.mk .tail hv
theorem JW(h:At kp K S ord tr C){gr:Nat}(fc:100≤gr∧gr≤1000):Rd Tryz.prog 49 #[ptr kp,.int .u8 0,.int .i64 (gr:Int)] C (· =.tuple #[uC (cg K S ord:Nat) (cg K S ord:Nat) 0 false,.int .i64 0]):=by
 refine aR fun g=>gk ?_
 intro b1 _
 refine ae.eq (fj h (s:=0)) ?_
 rw[if_neg (by omega),if_neg (by omega)]
 refine aa.cG (Br.F ?_)
 refine aa.cE (a:=0) (b:=1) (Br.no ?_)
 refine aa.cE (a:=0) (b:=2) (Br.no ?_)
 intro Ws V0
 refine aa.cE (a:=0) (b:=3) (Br.no ?_)
 refine aa.cE (a:=0) (b:=4) (Br.no ?_)
 refine aa.cE (a:=0) (b:=5) (JE.mk (V0 _ _ fun _=>Br.no ?_))
 refine aa.cE (a:=0) (b:=6) (Br.no ?_)
 refine ae.eq (cz h) ?_
 refine ae.eq (cz h) ?_
 refine Build.mk (cs:=[.int .i64 ((cg K S ord:Nat):Int),.int .i64 ((cg K S ord:Nat):Int),.int .i64 0,.bool false]) (by kernel_rfl) ?_
 refine St.q ?_
 refine av.q ?_
 exact bN.mk .tail rfl
end
section
variable {C:Hp}
theorem An.mk{kd:IntKind}{a b:Int}{k:Value→Prop}(h:k (.int kd (if b>a then b else a))):An (.int kd a) (.int kd b) k:=⟨kd,a,b,rfl,rfl,h⟩
def zQ:Nat→Nat
 |0=>1
 |k+1=>(k+1)*zQ k
def WC(n s:Nat):Nat→Nat
 |1=>3*n*(n-1)
 |2=>3*n*(n-1)*(s+1)
 |3=>(n-1)*2
 |4=>(n-2)*10
 |5=>(n-3)*46
 |6=>n*(n-1)
 |_=>0
def yp(a b:Int)(k:Nat):Bool:=decide (a<1)||decide (64<a)||decide (b<0)||decide (1048576<b)||decide (6<k)
def WB(a b:Int)(k:Nat):Value:=if yp a b k=true then .tuple #[.int .i64 0,.int .i64 1]else .tuple #[.int .i64 ((WC a.toNat b.toNat k:Nat):Int),.int .i64 0]
theorem JM{a b:Int}{k:Nat}:Rd Tryz.prog 40 #[.int .i64 a,.int .i64 b,.int .u8 (k:Int)] C (· =WB a b k):=by
 refine aR fun g=>IU ?_
 refine aa.lss ?_
 refine df.or (a:=decide (a<1)) (decide (64<a)) (fun _=>aa.gtr ⟨rfl,rfl⟩) rfl fun _=>?_
 refine df.or (a:=decide (a<1)||decide (64<a)) (decide (b<0)) (fun _=>aa.lss ⟨rfl,rfl⟩) rfl fun _=>?_
 refine df.or (a:=decide (a<1)||decide (64<a)||decide (b<0)) (decide (1048576<b)) (fun _=>aa.gtr ⟨rfl,rfl⟩) rfl fun _=>?_
 refine df.or (a:=decide (a<1)||decide (64<a)||decide (b<0)||decide (1048576<b)) (decide (6<k)) (fun _=>aa.iU (b:=6) ⟨rfl,rfl⟩) rfl fun _=>?_
 unfold WB
 show Br (.bool (yp a b k)) _ _
 cases OW:yp a b k
 rotate_left
 ·refine Br.yes ?_
  exact bN.mk (.refl _) rfl
 refine Br.no ?_
 simp only[yp,Bool.or_eq_false_iff,decide_eq_false_iff_not]at OW
 obtain⟨⟨⟨⟨h1,h2⟩,h3⟩,h4⟩,h5⟩:=OW
 obtain⟨n,rfl⟩:∃n:Nat,a=n:=⟨a.toNat,by omega⟩
 obtain⟨s,rfl⟩:∃s:Nat,b=s:=⟨b.toNat,by omega⟩
 rw[Int.toNat_natCast,Int.toNat_natCast,if_neg (by decide)]
 have h33:3*n*(n-1)≤3*64*64:=Nat.mul_le_mul (by omega) (by omega)
 have h3s:3*n*(n-1)*(s+1)≤(3*64*64)*1048577:=Nat.mul_le_mul h33 (by omega)
 have h3e:n*(n-1)≤64*64:=Nat.mul_le_mul (by omega) (by omega)
 refine aa.cE (b:=1) (Br.dec (fun e=>?_) (fun e1=>?_))
 ·subst e
  refine aa.jx (a:=3) ?_
  refine aa.bE (b:=1) ?_
  refine aa.jx ?_
  exact bN.mk (.refl _) rfl
 refine aa.cE (b:=2) (Br.dec (fun e=>?_) (fun e2=>?_))
 ·subst e
  refine aa.jx (a:=3) ?_
  refine aa.bE (b:=1) ?_
  refine aa.jx ?_
  refine aa.inc ?_
  refine aa.jx ?_
  exact bN.mk (.refl _) rfl
 intro J24 h24
 have win:3≤k∧k≤5→J24 [.bool true] C:=fun hk=>by
  refine h24 _ _ fun _=>Br.yes ?_
  refine ae.eq (yA hk) ?_
  have hf:∀i,i<6→zQ (i-1)≤24:=by decide
  refine⟨fun vs H=>∃i,2≤i∧i≤k∧vs=[.int .i64 ((zQ (i-1):Nat):Int),.int .i64 (i:Int)]∧H=C,fun vs _=>k-br vs 1,JE.mk ⟨2,by omega,by omega,rfl,rfl⟩,?_⟩
  rintro w34 w35 H ⟨i,Ty,BG,⟨⟩,rfl⟩ gs
  have Vg:=hf i (by omega)
  have hm:zQ (i-1)*i≤24*5:=Nat.mul_le_mul Vg (by omega)
  refine aa.y4 (Br.dec (fun hlt=>?_) (fun hge=>?_))
  ·refine aa.jx ?_
   refine aa.inc ?_
   refine aB.mk ⟨i+1,by omega,by omega,?_,rfl⟩ (by simp only[br];omega)
   congr 3
   rw[show i+1-1=(i-1)+1 by omega,zQ,show i-1+1=i by omega,Nat.mul_comm]
  ·obtain rfl:i=k:=by omega
   refine aa.oT rfl (by omega) ?_
   refine aa.wo rfl (by omega) ?_
   refine An.mk ?_
   have e0:(if(n:Int) -((i-1:Nat):Int)+1>0 then(n:Int) -((i-1:Nat):Int)+1 else 0)=((n+2-i:Nat):Int):=by split<;>omega
   rw[e0]
   refine aa.jx (b:=2) ?_
   have h1f:1≤zQ (i-1):=by
    obtain rfl|rfl|rfl:i=3∨i=4∨i=5:=by omega
    all_goals decide
   refine aa.ux (b:=1) (by simp[bA];omega) h1f ?_
   have sY:(n+2-i)*2*(zQ (i-1) -1)≤(66*2)*24:=Nat.mul_le_mul (by omega) (by omega)
   refine aa.jx ?_
   refine bN.mk (.refl _) ?_
   have:WC n s i=(n+2-i)*2*(zQ (i-1) -1):=by
    obtain rfl|rfl|rfl:i=3∨i=4∨i=5:=by omega
    ·show(n-1)*2=(n+2-3)*2*1;omega
    ·show(n-2)*10=(n+2-4)*2*5;omega
    ·show(n-3)*46=(n+2-5)*2*23;omega
   rw[this]
 have Uk:¬(3≤k∧k≤5)→J24 [.bool false] C:=fun hk=>by
  refine h24 _ _ fun _=>Br.no ?_
  refine aa.cE (b:=6) (Br.dec (fun e=>?_) (fun e2=>?_))
  ·subst e
   refine aa.bE (b:=1) ?_
   refine aa.jx ?_
   exact bN.mk (.refl _) rfl
  ·obtain rfl:k=0:=by omega
   exact bN.mk (.refl _) rfl
 refine aa.cE (b:=3) (Br.dec (fun e=>?_) (fun e3=>?_))
 ·rw[decide_eq_true e];exact JE.mk (win (by omega))
 refine aa.cE (b:=4) (Br.dec (fun e=>?_) (fun e4=>?_))
 ·rw[decide_eq_true e];exact JE.mk (win (by omega))
 refine aa.cE (b:=5) ?_
 by_cases e5:k=5
 ·rw[decide_eq_true e5];exact JE.mk (win (by omega))
 ·rw[decide_eq_false e5];exact JE.mk (Uk (by omega))
end
end Go.Proofs
namespace aC
section
variable {m:Rm} {g:Nat}
theorem Rm.vD(m:Rm)(ord path:List Nat):∀i,m.size (au ord (path.take (m.keep ord path i)))=m.size ord→m.keep ord path i=0
 |0,_=>rfl
 |i+1,h=>by
  rw[keep]at h⊢
  have h0:=m.sQ ord path i 0 (Nat.zero_le _)
  have h0:m.size (au ord (path.take (m.keep ord path i)))≤m.size ord:=h0
  split at h
  ·omega
  ·rename_i hn
   rw[if_neg hn];exact m.vD ord path i h
theorem Rm.AS(m:Rm)(w p:Nat)(ord:List Nat)(h:m.size (au ord (m.visit w p ord).1)=m.size ord):(m.visit w p ord).1=[]:=by
 have:=m.vD ord (m.c9 p (jN w) ord) (m.c9 p (jN w) ord).length h
 show List.take _ _=[]
 rw[this];rfl
theorem Rm.yg(m:Rm)(w p:Nat)(ord:List Nat):(m.visit w p ord).2≤2*(jN w).length:=by
 have h1:=m.jJ p (jN w) ord
 show _+(_-_)≤_
 omega
theorem Rm.wm(m:Rm)(w:Nat)(ord:List Nat):∀i,(m.all w ord i).2≤i*(2*(jN w).length)
 |0=>Nat.zero_le _
 |i+1=>by
  have h1:=m.wm w ord i
  have h2:=m.yg w i (au ord (m.all w ord i).1)
  show(m.all w ord i).2+(m.visit w i (au ord (m.all w ord i).1)).2≤_
  rw[Nat.succ_mul];omega
theorem Rm.Aj(m:Rm)(w:Nat)(ord:List Nat):∀i,m.size (au ord (m.all w ord i).1)=m.size ord→(m.all w ord i).1=[]
 |0,_=>rfl
 |i+1,h=>by
  have e:(m.all w ord (i+1)).1=(m.all w ord i).1++(m.visit w i (au ord (m.all w ord i).1)).1:=rfl
  rw[e,bU]at h
  have h1:=m.Cj w ord i
  have h2:=m.yh w i (au ord (m.all w ord i).1)
  rw[e,m.AS w i _ (by omega),m.Aj w ord i (by omega)];rfl
theorem sC{p q:List Nat}(hq:q.Nodup)(hp:p.Perm q):∀i,i≤q.length→2*(dz p q i).length+i*i≤i*(2*p.length-1)
 |0,_=>by simp[dz]
 |i+1,hi=>by
  have:=sC hq hp i (by omega)
  obtain⟨_,_,h3⟩:=iu hq hp i (by omega)
  have hl:=hp.length_eq
  rw[dz,List.length_append,xL]
  have h4:=(h3 (by omega)).2
  have e1:(i+1)*(i+1)=i*i+i+i+1:=by rw[Nat.succ_mul,Nat.mul_succ];omega
  have e2:(i+1)*(2*p.length-1)=i*(2*p.length-1)+(2*p.length-1):=Nat.succ_mul _ _
  rw[e1,e2]
  omega
theorem Bf{p q:List Nat}{n:Nat}(hq:q.Nodup)(hp:p.Perm q)(hn:q.length=n):2*(path p q).length≤n*(n-1):=by
 have:=sC hq hp q.length (Nat.le_refl _)
 have hl:=hp.length_eq
 rw[hl,hn]at this
 unfold path
 rw[hn]
 cases n with
 |zero=>simpa using this
 |succ k=>
  rw[show 2*(k+1) -1=(k+1)+k by omega,Nat.mul_add (k+1) (k+1) k]at this
  show 2*(dz p q (k+1)).length≤(k+1)*k
  omega
structure q8(m:Rm)(ord:List Nat)(ls:List Nat):Prop where
 mem:∀x∈ls,x+1<m.n
 le:m.size (au ord ls)≤m.size ord
 len:ls.length+8192*m.size (au ord ls)≤8192*m.size ord
theorem q8.nil{ord:List Nat}:q8 m ord []:=⟨by simp,Nat.le_refl _,by simp[au]⟩
theorem q8.of{ord ls:List Nat}(h1:∀x∈ls,x+1<m.n)(h2:m.size (au ord ls)≤m.size ord)(h3:m.size (au ord ls)=m.size ord→ls=[])(h4:ls.length≤8192):q8 m ord ls:=by
 refine⟨h1,h2,?_⟩
 by_cases e:m.size (au ord ls)=m.size ord
 ·rw[h3 e];simp[au]
 ·omega
theorem nY{ord l:List Nat}(hp:ord.Perm (List.range m.n))(hl:l.Perm (List.range m.n))(hn:m.n≤64):q8 m ord (m.bZ g ord l).1∧(m.bZ g ord l).2≤3*m.n*(m.n-1):=by
 have h:=j8 (m:=m) (g:=g) (l:=l) hp (fun v hv=>List.mem_range.1 (hl.mem_iff.1 hv))
 have k7:l.length=m.n:=by rw[hl.length_eq,List.length_range]
 obtain⟨h1,h2,h3,h4,h5⟩:=h
 rw[k7]at h4 h5
 have:m.n*m.n≤64*64:=Nat.mul_le_mul hn hn
 exact⟨.of h1 h2 (fun e=>(h3 e).1) (by omega),by rw[Nat.mul_assoc,Nat.mul_comm m.n,←Nat.mul_assoc];exact h4⟩
theorem sg(hn:m.n≤64):∀{ls:List (List Nat)} {ord:List Nat},ord.Perm (List.range m.n)→(∀l∈ls,l.Perm (List.range m.n))→m.qU g ord ls→q8 m ord (m.cF g ord ls).1
 | [],ord,hp,hl,hg=>hg.elim
 | [l],ord,hp,hl,hg=>by
  have e:(m.cF g ord [l]).1=(m.bZ g ord l).1++[]:=rfl
  rw[e,List.append_nil]
  exact(nY hp (hl l (by simp)) hn).1
 |l::l2::r,ord,hp,hl,hg=>by
  obtain⟨g1,g2⟩:=(ow (by simp)).1 hg
  have a:=(nY (g:=g) hp (hl l (by simp)) hn).1
  have ih:=sg hn (ls:=l2::r) (j5 hp a.mem) (fun x hx=>hl x (by simp[List.mem_cons.1 hx])) g2
  have e:(m.cF g ord (l::l2::r)).1=(m.bZ g ord l).1++(m.cF g (au ord (m.bZ g ord l).1) (l2::r)).1:=rfl
  rw[e]
  have a1:=a.le
  have a2:=a.len
  have b1:=ih.le
  have b2:=ih.len
  refine⟨fun x hx=>(List.mem_append.1 hx).elim (a.mem x) (ih.mem x),by rw[bU];omega,by rw[bU,List.length_append];omega⟩
theorem A1{ls:List (List Nat)}{ord:List Nat}(hp:ord.Perm (List.range m.n))(hl:∀l∈ls,l.Perm (List.range m.n))(hg:m.qU g ord ls):(m.cF g ord ls).2≤3*m.n*(m.n-1)*(m.size ord+1):=by
 have h:=FA hp hl hg
 have h1:=h.Ro.2
 have h2:=h.r8
 have e:3*(m.n-1)*m.n=3*m.n*(m.n-1):=by rw[Nat.mul_assoc,Nat.mul_comm (m.n-1),←Nat.mul_assoc]
 rw[e]at h2
 exact Nat.le_trans h2 (Nat.mul_le_mul_left _ (by omega))
theorem A2{w:Nat}{ord:List Nat}(hw:2≤w∧w≤4)(hn:m.n≤64):q8 m ord (m.pass w ord).1∧(m.pass w ord).2≤(m.n+1-w)*(2*(jN w).length):=by
 have h1:=m.xS w ord (m.n+1-w)
 refine⟨.of (fun x hx=>?_) (m.Cj w ord _) (m.Aj w ord _) ?_,m.wm w ord _⟩
 ·by_cases e:m.n+1-w=0
  ·have hx:x∈(m.all w ord (m.n+1-w)).1:=hx
   rw[e]at hx;exact absurd hx List.not_mem_nil
  ·have:=m.Gp hx;omega
 ·show(m.all w ord (m.n+1-w)).1.length≤_
  omega
end
end aC
set_option maxRecDepth 100000
namespace Go.Proofs
open Go Go.Sx
open aC
section
variable {kp:Nat} {K:Kd} {S:Nat→aC.Fn} {ord tr:List Nat} {C:Hp}
def PN(kp:Nat)(K:Kd)(S:Nat→aC.Fn)(ord tr:List Nat)(s:Nat)(v:Value)(H:Hp):Prop:=
 ∃(ls:List Nat) (c:Nat) (d:Bool),v=.tuple #[uC (cg K S ord:Nat) (cg K S (au ord ls):Nat) (c:Nat) d,.int .i64 0]∧At kp K S (au ord ls) (tr++ls) H∧q8 (rm K S) ord ls∧c≤WC K.n (cg K S ord) s∧(d=true→s=6)
theorem PN.shape{s:Nat}{v:Value}{H:Hp}(h:PN kp K S ord tr s v H):∃(a b c:Int) (d:Bool) (e:Value),v=.tuple #[uC a b c d,e]:=by
 obtain⟨ls,c,d,rfl,_⟩:=h
 exact⟨_,_,_,_,_,rfl⟩
theorem NS(h:At kp K S ord tr C)(hp:ord.Perm (List.range K.n)){s gr:Nat}(hs:s≤6)(fc:100≤gr∧gr≤1000)(hx:s=6→K.n≤12)(fo:tr.length<68719476736):
  Fc Tryz.prog 49 #[ptr kp,.int .u8 (s:Int),.int .i64 (gr:Int)] C (PN kp K S ord tr s):=by
 have hn:=h.oK
 have RV:(rm K S).n=K.n:=rfl
 have zk:∀o,(rm K S).size o=cg K S o:=fun _=>rfl
 have win:∀w:Nat,3≤w∧w≤5→Fc Tryz.prog 49 #[ptr kp,.int .u8 (w:Int),.int .i64 (gr:Int)] C (PN kp K S ord tr w):=fun w hw=>by
  refine A6 h hw fc ((PJ h (w:=w-1) (by omega) (by omega)).mono ?_) fun v H h=>h.shape
  rintro v H ⟨rfl,hA⟩
  obtain⟨h1,h2⟩:=A2 (m:=rm K S) (w:=w-1) (ord:=ord) (by omega) hn
  refine⟨_,_,false,rfl,hA,h1,Nat.le_trans h2 (Nat.le_of_eq ?_),nofun⟩
  rw[RV]
  obtain rfl|rfl|rfl:w=3∨w=4∨w=5:=by omega
  ·rfl
  ·show(K.n+1-3)*10=(K.n-2)*10;rw[show K.n+1-3=K.n-2 by omega]
  ·show(K.n+1-4)*46=(K.n-3)*46;rw[show K.n+1-4=K.n-3 by omega]
 obtain rfl|rfl|rfl|h3|rfl:s=0∨s=1∨s=2∨(3≤s∧s≤5)∨s=6:=by omega
 ·refine Fc.mono (JW h fc) ?_
  rintro v H ⟨rfl,rfl⟩
  exact⟨[],0,false,rfl,by rw[List.append_nil];exact h,.nil,Nat.zero_le _,nofun⟩
 ·refine JU h fc ((yz h hp fc (by omega)).mono ?_) fun v H h=>h.shape
  rintro v H ⟨l,hl,rfl,hA⟩
  obtain⟨h1,h2⟩:=nY (m:=rm K S) (g:=gr) hp hl hn
  exact⟨_,_,false,rfl,hA,h1,h2,nofun⟩
 ·refine A7 h fc ((yw h hp fc (by omega)).mono ?_)
  rintro v H ⟨lss,hls,hg,rfl,hA⟩
  exact⟨_,_,_,false,_,rfl,_,_,false,rfl,hA,sg hn hp hls hg,A1 hp hls hg,nofun⟩
 ·exact win s h3
 ·have sX:=hx rfl
  refine G1 h sX fc ((Ns h hp sX (by omega)).mono ?_) fun v H h=>h.shape
  rintro v H ⟨L,AJ,vK,LO,hQ⟩
  have hk:∀p:List Nat,p.Perm (List.range K.n)→cg K S p=cY K.n p L K.n:=fun p hp=>by
   unfold cg;rw[vK];exact PY AJ (by omega) (FH hp)
  rcases hQ with⟨e,rfl,hA⟩|⟨hne,o,ls,ho,hls,hQ⟩
  ·exact⟨[],0,true,rfl,by rw[List.append_nil];exact hA,.nil,Nat.zero_le _,fun _=>rfl⟩
  have hop:o.Perm (List.range K.n):=by rw[ho];exact qx _
  have hoB:cg K S o=aj.B K.n (aj.lvl K.n L) 0:=by rw[hk o hop,ho];exact qw (by omega) AJ
  have hle:aj.B K.n (aj.lvl K.n L) 0≤cg K S ord:=by rw[hk ord hp];exact PA (by omega) AJ hp
  have UT:o.Nodup:=hop.nodup_iff.2 List.nodup_range
  have rz:o.length=K.n:=by rw[hop.length_eq,List.length_range]
  have hdl:ord.length=K.n:=by rw[hp.length_eq,List.length_range]
  obtain⟨Jd,K8⟩:=wX UT (hp.trans hop.symm)
  have vH:=Bf UT (hp.trans hop.symm) rz
  rw[←hls]at Jd K8 vH
  have xB:K.n*(K.n-1)≤64*64:=Nat.mul_le_mul hn (by omega)
  rcases hQ with⟨_,rfl,hA⟩|⟨hc,rfl,hA⟩
  ·refine⟨ls,_,true,by rw[Jd],by rw[Jd];exact hA,.of (fun x hx=>by have:=K8 x hx;omega) ?_ ?_ (by omega),by show ls.length≤K.n*(K.n-1);omega,fun _=>rfl⟩
   ·rw[Jd,zk,zk];omega
   ·rw[Jd,zk,zk];omega
  ·have hgl:=(rm K S).jJ 0 ls ord
   exact⟨[],_,false,rfl,by rw[List.append_nil];exact hA,.nil,by show 2*_≤K.n*(K.n-1);omega,nofun⟩
end
end Go.Proofs
set_option maxRecDepth 100000
namespace Go.Proofs
open Go Go.Sx
open aC
section
variable {Y:Hp}
set_option maxHeartbeats 2000000 in
theorem nr{a room gw:Nat}{sv kv:Value}{ops:List rW}{l:List Nat}(ha:a<256)(hroom:room<256)(Vb:gw<256)(hs:Sl 6 Y sv (ops.map rW.cells))(ho:∀o∈ops,o.Ok)(bH:ops.length<9223372036854775808)(hl:cS .u8 Y kv (iw l))(h8:∀x∈l,x<256)(U1:l.length<9223372036854775807)(hYn:(Y.map Prod.fst).Nodup):
  Rd Tryz.prog 11 #[.int .u8 (a:Int),.int .u8 (room:Int),sv,kv,.int .u8 (gw:Int)] Y (· =.bool true):=by
 refine aR fun g=>I7 ?_
 refine aQ.q ?_
 refine aa.p6 (b:=6) (by decide) ?_
 have hn6:=Nat.mod_lt a (show 0<6 by decide)
 refine aa.dx (a:=1) ?_
 obtain⟨n,hn⟩:∃n,n=1+a%6:=⟨_,rfl⟩
 rw[←hn]
 refine aQ.q ?_
 refine aa.p6 (b:=120) (by decide) ?_
 have aaj:=Nat.mod_lt room (show 0<120 by decide)
 refine aa.dx (a:=2) ?_
 intro J7 h7
 have good:∀cap:Nat,2≤cap∧cap≤4000→J7 [.int .i64 (cap:Int)] Y:=fun cap hcap=>by
  refine h7 _ _ fun gs=>?_
  clear h7
  refine ae.fq (sB (Y:=Y) (n:=n) (cap:=cap) (by omega) (by omega)) ?_
  rintro w H ⟨gb,kp,C0,rfl,rfl,W7⟩
  refine ae.fn (args:=#[.int .i64 ((2:Nat):Int),.slice none 0 0]) hnew (LU (n:=2) (Y:=[]) (by decide) (sv:=.slice none 0 0) (ops:=[]) (Sl.nil _ _) (by simp) (by decide)) ?_
  rintro w H ⟨gb2,_,_,_,_,_,_,_,_,_,_,_,_,_,rfl,_⟩
  refine aa.aD ?_
  refine df.or false (fun _=>aa.aD ⟨rfl,rfl⟩) rfl fun gs=>Br.no ?_
  refine⟨fun vs H=>∃(i:Nat) (K:Kd) (S:Nat→aC.Fn) (refs:List Nat) (fs:List (List Nat)) (vr vf:Value) (M CR CF C:Hp) (rs:List (List Value)),vs=[.int .i64 (i:Int)]∧i≤ops.length∧i≤30∧H=M++gG gb kp n vr vf CR CF C∧aT Y M∧Fg gb kp K S (List.range n) (List.range n) [] refs fs vr vf M CR CF C rs∧K.n=n∧K.cap=cap∧refs.length≤i,fun vs _=>30-br vs 0,
   JE.of .right ⟨0,K0 n cap,S0,[],[],_,_,Y,[],[],C0,[],rfl,Nat.zero_le _,Nat.zero_le _,rfl,.refl _,⟨W7,V2,aK.nil,aO.nil _ _,jT.nil⟩,rfl,rfl,Nat.le_refl _⟩,?_⟩
  clear W7
  rintro Xi H ⟨i,K,S,refs,fs,vr,vf,M,CR,CF,C,rs,⟨⟩,hi,adi,rfl,hY,hG,BN,Jh,pT⟩ gs
  refine(hs.mono (B':=Y) fun _ h=>h).bc ?_
  rw[List.length_map]
  refine aa.dH ?_
  refine df.and (a:=decide (i<ops.length)) (decide (i<30)) (fun _=>aa.dH (b:=30) ⟨rfl,rfl⟩) rfl fun gs=>?_
  refine Br.mk (fun hb=>?_) (fun hb=>?_)
  ·simp only[Bool.and_eq_true,decide_eq_true_eq]at hb
   obtain⟨h1,h3⟩:=hb
   refine an.sl hs (i:=i) (r:=ops[i].cells) (by rw[List.getElem?_map,List.getElem?_eq_getElem h1];rfl) fun p hp=>?_
   refine av.at hp rfl (by decide) (fun _ h=>List.mem_append_left _ (hY.sub _ h)) ?_
   subst BN
   refine ae.fq (args:=#[ptr gb,.agg ops[i].cells.toArray]) (Kp hG (by omega) (by omega) (by omega) (ho _ (List.getElem_mem h1))) ?_
   rintro w H (⟨rfl,x,a,b,c,K',S',refs',fs',qF,uv,M',x4,Ar,C',MX,rfl,gM,HR,hn',jc,rfl,hx,Le,_⟩|⟨rfl,K',S',kK,M',C',rfl,gM,HR,hk,fo,_⟩)
   ·refine Un.not (Br.no ?_)
    refine aa.inc ?_
    refine aB.mk ⟨i+1,K',S',_,fs',qF,uv,M',x4,Ar,C',MX,rfl,h1,by omega,rfl,hY.trans gM,HR,hn',jc.trans Jh,?_⟩ (by simp only[br];omega)
    rw[List.length_append];split<;>simp<;>omega
   ·refine Un.not (Br.no ?_)
    refine aa.inc ?_
    have:kK=[]:=fo.elim id id
    subst this
    exact aB.mk ⟨i+1,K',S',refs,fs,vr,vf,M',CR,CF,C',rs,rfl,h1,by omega,rfl,hY.trans gM,HR,hk.n,hk.cap.trans Jh,by omega⟩ (by simp only[br];omega)
  clear hb
  intro J35 h35
  have QU:∀(K:Kd) (refs:List Nat) (fs:List (List Nat)) (vr vf:Value) (M CR CF C:Hp) (rs:List (List Value)),aT Y M→Fg gb kp K S (List.range n) (List.range n) [] refs fs vr vf M CR CF C rs→K.n=n→refs.length≤30→J35 [.bool false] (M++gG gb kp n vr vf CR CF C):=by
   clear hG BN Jh pT hY
   intro K refs fs vr vf M CR CF C rs hY hG BN pT
   refine h35 _ _ fun gs=>Br.no ?_
   clear h35
   subst BN
   have hg:=hG.vQ
   have TN:=hG.ks.aY
   have M6:GZ gb kp K.n vr vf refs fs (M++eS gb kp K.n vr vf::(CR++CF)):=
    ⟨List.mem_append_right _ (.head _),hG.rf.ints.mono fun _ h=>List.mem_append_right _ (.tail _ (List.mem_append_left _ h)),⟨rs,(Sl.kM hG.fn (by decide)).mono fun _ h=>List.mem_append_right _ (.tail _ (List.mem_append_right _ h)),hG.row.mono fun _ _ h=>h.mono fun _ h=>List.mem_append_left _ h⟩⟩
   have hYZ:∀x∈Y,x∈M++eS gb kp K.n vr vf::(CR++CF):=fun x hx=>List.mem_append_left _ (hY.sub x hx)
   have eH:M++gG gb kp K.n vr vf CR CF C=(M++eS gb kp K.n vr vf::(CR++CF))++C:=by simp
   rw[eH]
   generalize M++eS gb kp K.n vr vf::(CR++CF)=Z0 at*
   clear hG hY eH
   have RV:(rm K S).n=K.n:=rfl
   have zk:∀o,(rm K S).size o=cg K S o:=fun _=>rfl
   have UD:=iG TN
   refine⟨fun vs H=>∃(i:Nat) (o tr:List Nat) (Z C':Hp),vs=[.int .i64 (i:Int)]∧i≤l.length∧H=Z++C'∧(∀x∈Z0,x∈Z)∧At kp K S o tr C'∧o.Perm (List.range K.n)∧tr.length+8192*cg K S o≤8192*cg K S (List.range K.n),fun vs _=>l.length-br vs 0,
    JE.mk ⟨0,List.range K.n,[],Z0,C,rfl,Nat.zero_le _,rfl,fun _ h=>h,TN,.refl _,by simp⟩,?_⟩
   clear TN
   rintro w43 H ⟨i,o,tr,Z,C',⟨⟩,hi,rfl,hZ,hA,hop,acU⟩ gs
   have hz:=M6.mono hZ
   have hlZ:cS .u8 Z kv (iw l):=hl.mono fun _ h=>hZ _ (hYZ _ h)
   refine hlZ.bc ?_
   rw[ai]
   refine aa.dH (Br.dec (fun hlt=>?_) (fun hge=>?_))
   ·have hli:l[i]? =some l[i]:=List.getElem?_eq_getElem hlt
    refine hlZ.ld (n:=((l[i]:Nat):Int)) (bV hli) (fun _ h=>List.mem_append_left _ h) ?_
    refine aa.Oc (b:=7) (by decide) ?_
    have hk7:=Nat.mod_lt l[i] (show 0<7 by decide)
    generalize l[i]%7=k at*
    refine Ld.v (by exact List.mem_append_left _ hz.cell) ?_
    refine ae.eh (.app .here) (cz hA) ?_
    have hsz:=iG hA
    refine ae.eq (JM (a:=(K.n:Int)) (b:=((cg K S o:Nat):Int)) (k:=k)) ?_
    have vH:WB (K.n:Int) ((cg K S o:Nat):Int) k=.tuple #[.int .i64 ((WC K.n (cg K S o) k:Nat):Int),.int .i64 0]:=by
     unfold WB
     rw[if_neg]
     ·rw[Int.toNat_natCast,Int.toNat_natCast]
     ·simp only[yp,Bool.or_eq_true,decide_eq_true_eq,not_or]
      omega
    rw[vH]
    refine Ext.two ?_
    refine Ld.v (by exact List.mem_append_left _ hz.cell) ?_
    refine aQ.q ?_
    refine aa.dx (a:=100) ?_
    refine ae.fn (.app .here) (NS hA hop (s:=k) (gr:=100+gw) (by omega) (by omega) (fun _=>by omega) (by omega)) ?_
    rintro w C2 ⟨ls,c,d,rfl,jI,hst,hc,hd⟩
    have hle:cg K S (au o ls)≤cg K S o:=hst.le
    have hlen:ls.length+8192*cg K S (au o ls)≤8192*cg K S o:=hst.len
    have X9:=j5 hop hst.mem
    refine Ext.two ?_
    intro b67 _
    refine St.p (mS _ _ _ _) ?_
    intro J70 h70
    have V3:∀N:Hp,J70 [.bool false] ((b67,Obj.cells (List.toArray [.int .i64 ((cg K S o:Nat):Int),.int .i64 ((cg K S (au o ls):Nat):Int),.int .i64 ((c:Nat):Int),.bool d]) 42 (0,0))::(N++(Z++C2))):=fun N=>by
     refine h70 _ _ fun gs=>Br.no ?_
     clear h70
     refine aa.cE (b:=0) ?_
     refine df.and (a:=decide (k=0)) (decide (c≠0)) (fun _=>Ld.f (v:=.int .i64 (c:Int)) (aa.uk (b:=0) ⟨rfl,rfl⟩)) rfl fun gs=>?_
     refine df.or (d&&decide (k≠6)) (fun _=>Ld.f (v:=.bool d) (df.and (decide (k≠6)) (fun _=>aa.uk (b:=6) ⟨rfl,rfl⟩) rfl fun gs=>⟨rfl,rfl⟩)) rfl fun gs=>?_
     have e:(decide (k=0) &&decide (c≠0)||(d&&decide (k≠6)))=false:=by
      have h1:(d&&decide (k≠6))=false:=by
       cases d with
       |false=>rfl
       |true=>rw[hd rfl];rfl
      rw[h1,Bool.or_false]
      by_cases h0:k=0
      ·subst h0
       have:c=0:=Nat.le_zero.1 hc
       subst this;rfl
      ·rw[decide_eq_false h0];rfl
     rw[e]
     refine Br.no ?_
     refine aa.inc ?_
     exact aB.of (.skip .right) ⟨i+1,au o ls,tr++ls,Z,C2,rfl,hlt,rfl,hZ,jI,X9,by rw[List.length_append];omega⟩ (by simp only[br];omega)
    refine DR.of (R:=(b67,Obj.cells (List.toArray [.int .i64 ((cg K S o:Nat):Int),.int .i64 ((cg K S (au o ls):Nat):Int),.int .i64 ((c:Nat):Int),.bool d]) 42 (0,0))::Z) (.cons .left) ?_
    refine aa.cG (Br.F ?_)
    refine aa.cG (ay.mk (Br.F ?_))
    refine Ld.f (v:=.int .i64 ((cg K S o:Nat):Int)) ?_
    refine aa.cG (ay.mk (Br.F ?_))
    refine Ld.f (v:=.int .i64 ((cg K S (au o ls):Nat):Int)) ?_
    refine Ld.v (.tail _ hz.cell) ?_
    intro afb
    refine ae.eh (.cons (.app .here)) (cz jI) ?_
    refine⟨.cons .left,?_⟩
    refine aa.cG (ay.mk (Br.F ?_))
    refine Ld.f (v:=.int .i64 ((cg K S (au o ls):Nat):Int)) ?_
    refine aa.iU (ay.mk (Br.F ?_ (by omega)))
    refine Ld.f (v:=.int .i64 ((c:Nat):Int)) ?_
    refine aa.iU (ay.mk (Br.F ?_ (by omega)))
    intro afa
    refine ae.px (.cons .here) (F6 hz hg jI (by omega) (by omega)) ?_
    rintro w N rfl
    refine⟨.cons (.eG .left),?_⟩
    exact Un.not (ay.mk (JE.mk (V3 N)))
   ·refine Ld.v (by exact List.mem_append_left _ hz.cell) ?_
    refine ae.eh (.app .here) (FB hA (s:=7) (gr:=100) (by omega)) ?_
    refine Ext.two ?_
    intro aeO _
    refine St.q ?_
    refine Ld.v (.tail _ (List.mem_append_left _ hz.cell)) ?_
    refine ae.eh (.cons (.app .here)) (FB hA (s:=1) (gr:=99) (by omega)) ?_
    refine Ext.two ?_
    intro aeN _
    refine St.q ?_
    intro ae4 Zn
    refine aa.gA (Split.go rfl ?_)
    refine aa.gA (ay.mk (Split.go rfl ?_))
    refine ae.px (.cons (.cons .here)) (F6 hz hg hA (by omega) (by omega)) ?_
    rintro w N rfl
    refine ay.mk (JE.mk (Zn _ _ fun gs=>?_))
    exact bN.mk (.sub hYn fun y hy=>.tail _ (.tail _ (List.mem_append_right _ (List.mem_append_left _ (hZ _ (hYZ _ hy)))))) rfl
  refine Ld.n (v:=vr) ?_
  refine hG.rf.bc ?_
  rw[ai]
  refine aa.iU (b:=0) ?_
  by_cases hne:refs=[]
  ·subst hne
   refine Split.Kj rfl (ay.mk ?_)
   exact JE.mk (QU K [] fs vr vf M CR CF C rs hY hG BN (by simp))
  ·rw[decide_eq_true (List.length_pos_iff.2 hne)]
   refine Split.go rfl ?_
   refine Build.mk (cs:=[.int .u8 3,.int .u8 0,.int .u8 (room:Int),.int .u8 0]) (by kernel_rfl) ?_
   subst BN
   refine ae.fq (L0 hG hne (by omega) hroom) ?_
   rintro w H ⟨rfl,K',refs',fs',qF,uv,M',x4,Ar,C',MX,rfl,gM,HR,hn',jc,hl'⟩
   refine Un.not (ay.mk ?_)
   refine JE.mk (QU K' refs' fs' qF uv M' x4 Ar C' MX (hY.trans gM) HR hn' (by omega))
 refine aa.Oc (b:=3) (by decide) (aa.cE (b:=0) (Br.dec (fun h=>?_) (fun h=>?_)))
 ·exact JE.mk (good 4000 (by decide))
 ·exact JE.mk (good _ (by omega))
end
end Go.Proofs
