import Derived.Test.YtfgkdmbicjdeoaaGreatT3
import Derived.Test.YtfgkdmbicjdeoaaGreatT2
import Derived.Test.YtfgkdmbicjdeoaaGreatT1
set_option linter.unusedVariables false
set_option linter.unusedSimpArgs false
set_option linter.unusedSectionVars false
set_option maxRecDepth 100000
namespace Go.Proofs
open Go Go.Sx
open aC
section
variable {pp kp w p bf af sw:Nat} {K:Kd} {S:Nat→aC.Fn} {ord tr:List Nat} {B C:Hp}
theorem PJ(h:At kp K S ord tr C)(hw:2≤w∧w≤4)(fo:tr.length<274877906944):
  Fc Tryz.prog 22 #[ptr kp,.int .i64 (w:Int)] C (fun v H=>v=.tuple #[rep (cg K S ord) (cg K S (au ord ((rm K S).pass w ord).1)) ((rm K S).pass w ord).2,.int .i64 0]∧At kp K S (au ord ((rm K S).pass w ord).1) (tr++((rm K S).pass w ord).1) H):=by
 have hn:=h.oK
 refine aR fun g=>IZ ?_
 intro b1 _
 refine ae.eq (GI kp w C) ?_
 rw[if_neg (by omega)]
 refine aa.cG (Br.F ?_)
 refine ae.fq (Mz h hw) ?_
 rintro v H ⟨pp,B,rfl,rfl,hB⟩
 refine ae.fq (Nu hB h hw fo (by omega)) ?_
 rintro v H ⟨rfl,B',C',rfl,TM,h'⟩
 rw[Nat.zero_add]at TM
 obtain⟨x1,x18,B2,rfl,hb⟩:=TM
 refine Nil.ptr (ag.mk ?_)
 refine av.mk (vs:=#[.int .i64 ((cg K S ord:Nat):Int),.int .i64 ((cg K S (au ord ((rm K S).pass w ord).1):Nat):Int),.int .i64 ((((rm K S).pass w ord).2:Nat):Int),.bool false]) (by exact .tail _ (.head _)) (by simp[kj]) rfl ?_
 refine St.q ?_
 refine av.q ?_
 exact aS.mk (.skip .right) ⟨rfl,h'⟩
end
theorem aX{ws:List Nat}{i:Nat}(h:i<ws.length):(iw ws)[i]? =some ((ws.getD i 0:Nat):Int):=by
 rw[bV (w:=ws.getD i 0)]
 rw[List.getD_eq_getElem?_getD,List.getElem?_eq_getElem h];rfl
def Us(n:Nat)(p:List Int):Prop:=p.length=n∧∀v:Nat,v<n→p.count (v:Int)=1
instance (n:Nat)(p:List Int):Decidable (Us n p):=by unfold Us;infer_instance
theorem KT{p:List Int}{x:Int}{i:Nat}(h:x∉p.take i)(hi:i<p.length)(he:p[i]=x):p.idxOf x=i:=by
 have e:p=p.take i++p[i]::p.drop (i+1):=by
  conv=>lhs;rw[←List.take_append_drop i p]
  rw[List.drop_eq_getElem_cons hi]
 conv=>lhs;rw[e]
 rw[List.idxOf_append,if_neg h,he,List.idxOf_cons_self,List.length_take];omega
def mE(p:List Int):Prop:=∀v:Nat,v<p.length→(v:Int)∈p
theorem tH{p:List Nat}{n:Nat}(hp:p.Perm (List.range n)):mE (iw p):=fun v hv=>by
 rw[ai,hp.length_eq,List.length_range]at hv
 exact List.mem_map.2 ⟨v,hp.mem_iff.2 (List.mem_range.2 hv),rfl⟩
theorem Kw{q:List Nat}{x:Nat}:(x:Int)∈iw q↔x∈q:=by
 unfold iw
 rw[List.mem_map]
 exact⟨fun⟨y,hy,e⟩=>by rw[←Int.ofNat.inj e];exact hy,fun h=>⟨x,h,rfl⟩⟩
theorem RN(q:List Nat)(x:Nat):(iw q).idxOf (x:Int)=q.idxOf x:=by
 induction q with
 |nil=>rfl
 |cons y q ih=>
  show(((y:Nat):Int)::iw q).idxOf (x:Int)=_
  rw[List.idxOf_cons,List.idxOf_cons,ih]
  have:(((y:Nat):Int)==(x:Int))=(y==x):=by
   rw[Bool.eq_iff_iff];simp[Int.natCast_inj]
  rw[this]
section
variable {n:Nat} {ord:List Nat} {L:aj.Fs}
theorem xF:∀k,(cur n ord L k).length≤2^k*L.length
 |0=>by rw[cur,Nat.pow_zero,Nat.one_mul];exact GN L
 |k+1=>by
  have h1:=LW n (ord.getD k 0) (cur n ord L k)
  have h2:=xF k
  rw[cur,Nat.pow_succ,Nat.mul_comm (2^k) 2,Nat.mul_assoc]
  omega
end
theorem L1{ord:List Nat}{F G:aC.Fn→Prop}(h:∀g,F g→G g):∀l g,fs ord F l g→fs ord G l g
 |0,g,hg=>h g hg
 |l+1,g,⟨f,hf,b,e⟩=>⟨f,L1 h l f hf,b,e⟩
theorem bJ{n:Nat}{ord:List Nat}{F G:aC.Fn→Prop}(h:∀g,F g→G g){g:aC.Fn}(hg:aP n ord F g):aP n ord G g:=let ⟨l,a,b,c⟩:=hg;⟨l,a,L1 h l g b,c⟩
structure kR(K:Kd)(S:Nat→aC.Fn)(K':Kd)(S':Nat→aC.Fn)(f:aC.Fn)(r:Nat):Prop where
 n:K'.n=K.n
 cap:K'.cap=K.cap
 N:∀s d,K.N s=some d→K'.N s=some d
 fn:∀s,live K.N s→S' s=S s
 live:live K'.N r
 is:S' r=f
 hold:∀s,K'.hold s=K.hold s+if s=r∧2≤r then 1 else 0
theorem cI{N N':dQ}(h:∀s d,N s=some d→N' s=some d){s:Nat}(hs:live N s):live N' s:=by
 rcases hs with hs|⟨d,hd⟩
 ·exact .inl hs
 ·exact .inr ⟨d,h s d hd⟩
theorem iA{K K5:Kd}{S S5:Nat→aC.Fn}{ah:Nat→Nat}(hK:Ok K S ah)(Ji:Ok K5 S5 ah)(hold:∀s,K.hold s≠0→K5.hold s≠0)(h3:∀s d d',K.N s=some d→K5.N s=some d'→d'=d):
  ∀(k s:Nat) (d:Nd),K.N s=some d→ah d.v≤k→K5.N s=some d:=by
 intro k
 induction k with
 |zero=>
  intro s d hd hl
  have fin:live K5.N s→K5.N s=some d:=fun hs=>by
   rcases hs with hs|⟨d',cN⟩
   ·have:=(hK.mid.two hd).1;omega
   ·rw[cN,h3 s d d' hd cN]
  rcases hK.reach s d hd with h|⟨p,e,hp,he⟩
  ·exact fin (.inr (Ji.mid.held s (hold s h)))
  ·have h1:=hK.wf.lo hp
   have h2:=hK.wf.hi hp
   rcases he with rfl|rfl
   ·have:=h1.2;rw[az hd]at this;omega
   ·have:=h2.2;rw[az hd]at this;omega
 |succ k ih=>
  intro s d hd hl
  have fin:live K5.N s→K5.N s=some d:=fun hs=>by
   rcases hs with hs|⟨d',cN⟩
   ·have:=(hK.mid.two hd).1;omega
   ·rw[cN,h3 s d d' hd cN]
  rcases hK.reach s d hd with h|⟨p,e,hp,he⟩
  ·exact fin (.inr (Ji.mid.held s (hold s h)))
  ·have h1:=hK.wf.lo hp
   have h2:=hK.wf.hi hp
   rcases he with rfl|rfl
   ·have:=h1.2;rw[az hd]at this
    exact fin (Ji.mid.lo (ih p e hp (by omega)))
   ·have:=h2.2;rw[az hd]at this
    exact fin (Ji.mid.hi (ih p e hp (by omega)))
theorem kR.held{K K':Kd}{S S':Nat→aC.Fn}{f:aC.Fn}{r:Nat}(h:kR K S K' S' f r)(hm:∀s,K.hold s≠0→aC.live K.N s)(g:aC.Fn)(hg:K'.held S' g):K.held S g∨g=f:=by
 obtain⟨s,hs,rfl⟩:=hg
 by_cases h0:K.hold s=0
 ·right
  have:=h.hold s
  have hs':K'.hold s≠0:=hs
  rw[h0]at this
  by_cases e:s=r∧2≤r
  ·rw[e.1];exact h.is
  ·rw[if_neg e]at this;omega
 ·exact .inl ⟨s,h0,h.fn s (hm s h0)⟩
def fE(bw kp:Nat)(vl vm:Value):Nat×Obj:=(bw,.cells #[ptr kp,vl,vm] 337 (0,0))
abbrev Q3:=Nat×Nat×Nat
def l3(q:Q3):List Nat:=[q.1,q.2.1,q.2.2]
def kq(q:Q3):Value:=.agg (ax .u32 (iw (l3 q)))
theorem Oy{a b:List Nat}(h:iw a=iw b):a=b:=by
 induction a generalizing b with
 |nil=>cases b with
  |nil=>rfl
  |cons y b=>simp[iw]at h
 |cons x a ih=>cases b with
  |nil=>simp[iw]at h
  |cons y b=>
   simp only[iw,List.map_cons,List.cons.injEq]at h
   rw[Int.ofNat.inj h.1,ih h.2]
theorem RG{a b:Q3}(h:l3 a=l3 b):a=b:=by
 obtain⟨a1,a2,a3⟩:=a
 obtain⟨b1,b2,b3⟩:=b
 simp[l3]at h
 rw[h.1,h.2.1,h.2.2]
theorem vy(a b:Q3):xY Tryz.prog 318 (kq a) (kq b) (decide (a=b)):=by
 have:=xY.array (P:=Tryz.prog) (t:=318) (e:=77) (q:=.u32) (n:=3) (by kernel_rfl) (by kernel_rfl) (by kernel_rfl) (iw (l3 a)) (iw (l3 b)) rfl rfl
 have e:decide (iw (l3 a)=iw (l3 b))=decide (a=b):=decide_eq_decide.2 ⟨fun h=>RG (Oy h),fun h=>by rw[h]⟩
 rw[e]at this;exact this
theorem qg(a:Q3):jW Tryz.prog 318 (kq a):=jW.array (P:=Tryz.prog) (t:=318) (e:=77) (q:=.u32) (n:=3) (by kernel_rfl) (by kernel_rfl) (by kernel_rfl) _ rfl
theorem FR(a:Q3):Instr.sameBits 10000 (kq a) (kq a)=true:=iZ 9998 fun x hx=>.inl (by simp[ax]at hx;obtain⟨n,_,rfl⟩:=hx;exact⟨_,_,rfl⟩)
section
variable {kp bw:Nat} {vl vm:Value} {K:Kd} {S:Nat→aC.Fn} {ord ah tr:List Nat} {C:Hp}
theorem Ie{H:Hp}{r:List Value}{K:Value→Hp→Prop}(hl:r.length=3)(h:∀b,K (.slice (some ⟨b,0,none⟩) 1 1) ((b,.cells r.toArray 161 (0,0))::H)):aq Tryz.prog 286 1 [(0,.agg r.toArray)] H K:=
 aq.one (r:=r) (e:=161) (k:=3) (z:=.agg #[.int .i64 0,.int .u32 0,.int .u32 0]) (by kernel_rfl) (by kernel_rfl) (by kernel_rfl) (by decide) hl h
theorem wj{X Y:Hp}(h:cr kp K ord ah tr C)(q:Q3)(hq:∀r∈l3 q,r<4294967296):
  Fc Tryz.prog 265 #[ptr bw,kq q] (fE bw kp vl vm::(X++(Y++C))) (fun v H=>∃CN,H=CN++(fE bw kp vl vm::(X++(Y++C)))∧aO 161 3 v ((l3 q).map (got K.N)) CN):=by
 have hlen:(l3 q).length=3:=rfl
 refine aR fun g=>Dh ?_
 intro b1 _
 refine av.q ?_
 refine⟨fun vs H=>∃(i:Nat) (u:Value) (CN:Hp),vs=[u,.int .i64 (i:Int)]∧i≤3∧H=CN++((b1,.cells (ax .u32 (iw (l3 q))) 318 (0,0))::(fE bw kp vl vm::(X++(Y++C))))∧aO 161 3 u (((l3 q).take i).map (got K.N)) CN,fun vs _=>3-br vs 1,
  JE.mk ⟨0,_,[],rfl,by omega,rfl,aO.nil _ _⟩,?_⟩
 rintro w8 w9 H ⟨i,u,CN,⟨⟩,hi,rfl,hN⟩ gs
 refine aa.dH (b:=3) (Br.dec (fun hlt=>?_) (fun hlt=>?_))
 ·have gH:i<(l3 q).length:=hlt
  obtain⟨r,hr⟩:∃r,(l3 q)[i]? =some r:=⟨_,List.getElem?_eq_getElem gH⟩
  have RX:=hq r (List.mem_of_getElem? hr)
  refine kJ.Wc (t:=318) (e:=77) (q:=.u32) (x:=.tmp 10) (i:=.tmp 11) (l:=iw (l3 q)) (z:=(r:Int)) (kd:=.i64) (n:=3) (j:=i) (by kernel_rfl) rfl rfl (by kernel_rfl) (by kernel_rfl) (by kernel_rfl) hlt (bV hr) ?_
  refine Ld.n ?_
  refine ae.eq (args:=#[ptr kp,u32 r]) (fM h RX) ?_
  refine Ext.two ?_
  intro Ae _
  refine St.whole (r:=got K.N r) (by exact .head _) rfl (aH _ _).1 (aH _ _).2 ?_
  refine av.whole (r:=got K.N r) (by exact .head _) (aH _ _).1 ?_
  refine Ie (aH _ _).1 fun bx=>?_
  refine hN.pN (r:=got K.N r) (.cons (.cons .left)) (by exact .head _) (aH _ _).1 (aH _ _).2 ⟨[.int .i64 0,.int .u32 0,.int .u32 0],rfl,rfl⟩ (by simp;omega) (by simp;omega) fun v' C' ho=>?_
  refine aa.inc ?_
  refine aB.of (.skip .tail) ⟨i+1,v',C',rfl,by omega,rfl,?_⟩ (by simp only[br];omega)
  rw[List.take_add_one,hr,List.map_append];exact ho
 ·obtain rfl:i=3:=by omega
  rw[List.take_of_length_le (by rw[hlen];exact Nat.le_refl _)]at hN
  exact aS.mk (.cQ .tail _) ⟨CN,rfl,hN⟩
theorem Gl{n:Nat}{pS:Nat→Nat}{N:dQ}{B:Hp}{vn:Value}{lvl:List Nat}(hw:fE bw kp vl vm∈B)(hl:cS .i64 B vl (iw lvl))(k7:lvl.length=n)(hlv:∀v,v<n→lvl.getD v 0=pS v)(q:Q3)(hn:Sl 3 B vn ((l3 q).map (got N)))
 (h:WF n pS N)(hL:jR n pS)(hq:∀r∈l3 q,live N r)(zq:n≤64):
  Rd Tryz.prog 266 #[ptr bw,vn] B (fun r=>((∀s∈l3 q,N s=none)∧r=.int .i64 (-1))∨∃v,rE n pS N (l3 q) v∧r=.int .i64 (v:Int)):=by
 have hlen:(l3 q).length=3:=rfl
 refine aR fun g=>Dg ?_
 refine hn.bc ?_
 rw[List.length_map,hlen]
 refine⟨fun vs H=>∃(i:Nat) (w:Int),vs=[.int .i64 w,.int .i64 (i:Int)]∧i≤3∧H=B∧(((∀s∈(l3 q).take i,N s=none)∧w= -1)∨∃v:Nat,rE n pS N ((l3 q).take i) v∧w=(v:Int)),fun vs _=>3-br vs 1,
  JE.mk ⟨0, -1,rfl,by omega,rfl,.inl ⟨by simp,rfl⟩⟩,?_⟩
 rintro w6 w7 H ⟨i,w,⟨⟩,hi,rfl,Qj⟩ gs
 refine aa.dH (b:=3) (Br.dec (fun hlt=>?_) (fun hlt=>?_))
 ·intro J hJ
  have gH:i<(l3 q).length:=hlt
  obtain⟨r,hr⟩:∃r,(l3 q)[i]? =some r:=⟨_,List.getElem?_eq_getElem gH⟩
  have jE:(l3 q).take (i+1)=(l3 q).take i++[r]:=by rw[List.take_add_one,hr];rfl
  have fin:∀(w':Int) (Z:Hp),((∀s∈(l3 q).take (i+1),N s=none)∧w'= -1)∨(∃v:Nat,rE n pS N ((l3 q).take (i+1)) v∧w'=(v:Int))→J [.int .i64 w'] (Z++H):=fun w' Z h'=>hJ _ _ fun gs=>by
   refine aa.inc ?_
   exact aB.of .right ⟨i+1,w',rfl,by omega,rfl,h'⟩ (by simp only[br];omega)
  have hrow:((l3 q).map (got N))[i]? =some (got N r):=by rw[List.getElem?_map,hr];rfl
  refine an.sl hn hrow fun p hp=>?_
  refine av.at hp (aH _ _).1 (by decide) (fun _ h=>h) ?_
  intro qy _
  refine St.whole (r:=got N r) (by exact .head _) rfl (aH _ _).1 (aH _ _).2 ?_
  have hlr:=hq r (List.mem_of_getElem? hr)
  cases hN:N r with
  |none=>
   have ry:r<2:=by rcases hlr with h2|⟨d,hd⟩;exact h2;rw[hN]at hd;cases hd
   have eg:got N r=[.int .i64 (-1),u32 r,u32 r]:=dJ ry
   rw[eg]
   refine Ld.f ?_
   refine aa.geq ?_
   refine df.mk false (fun h=>by simp at h) (fun _=>rfl) fun gs=>Br.no ?_
   refine JE.mk (fin w [_] ?_)
   rcases Qj with⟨h1,h2⟩|⟨v,h1,h2⟩
   ·refine .inl ⟨fun s hs=>?_,h2⟩
    rw[jE,List.mem_append,List.mem_singleton]at hs
    rcases hs with hs|rfl
    ·exact h1 s hs
    ·exact hN
   ·refine .inr ⟨v,⟨h1.lt,?_,fun s hs=>?_⟩,h2⟩
    ·obtain⟨s,hs,x⟩:=h1.ex;exact⟨s,by rw[jE];exact List.mem_append_left _ hs,x⟩
    ·rw[jE,List.mem_append,List.mem_singleton]at hs
     rcases hs with hs|rfl
     ·exact h1.le s hs
     ·rw[aW hN];exact Nat.le_of_lt (hL.lt v h1.lt)
  |some d=>
   have h2:=h.two hN
   have nJ:=h.var hN
   have eg:got N r=bt d:=c8 hN h2
   rw[eg]
   refine Ld.f ?_
   refine aa.geq ?_
   rw[decide_eq_true (by omega)]
   have yo:(∀s∈(l3 q).take i,pS d.v≤dep n pS N s)→∃v:Nat,rE n pS N ((l3 q).take (i+1)) v∧(d.v:Int)=(v:Int):=fun hle=>by
    refine⟨d.v,⟨nJ,⟨r,by rw[jE];simp,d,hN,rfl⟩,fun s hs=>?_⟩,rfl⟩
    rw[jE,List.mem_append,List.mem_singleton]at hs
    rcases hs with hs|rfl
    ·exact hle s hs
    ·rw[az hN];exact Nat.le_refl _
   rcases Qj with⟨h1,rfl⟩|⟨v,h1,rfl⟩
   ·refine df.and true (fun _=>?_) rfl fun gs=>Br.yes ?_
    ·refine aa.lss ?_
     exact df.mk true (fun h=>by simp at h) (fun _=>rfl) fun gs=>⟨rfl,rfl⟩
    ·refine Ld.f ?_
     refine JE.mk (fin (d.v:Int) [_] (.inr (yo fun s hs=>?_)))
     rw[aW (h1 s hs)];exact Nat.le_of_lt (hL.lt _ nJ)
   ·have g1:(iw lvl)[d.v]? =some ((pS d.v:Nat):Int):=by rw[←hlv d.v nJ];exact aX (by omega)
    have g2:(iw lvl)[v]? =some ((pS v:Nat):Int):=by rw[←hlv v h1.lt];exact aX (by have:=h1.lt;omega)
    refine df.and (decide (pS d.v<pS v)) (fun _=>?_) rfl fun gs=>?_
    ·refine aa.lss ?_
     rw[decide_eq_false (by omega)]
     refine df.or (decide (pS d.v<pS v)) (fun _=>?_) rfl fun gs=>⟨rfl,by simp⟩
     refine Ld.v (.tail _ hw) ?_
     refine Ld.f ?_
     refine hl.ld g1 (fun _ h=>.tail _ h) ?_
     refine Ld.v (.tail _ hw) ?_
     refine hl.ld g2 (fun _ h=>.tail _ h) ?_
     exact aa.dH ⟨rfl,rfl⟩
    ·rw[Bool.true_and]
     refine Br.dec (fun kF=>?_) (fun kF=>?_)
     ·refine Ld.f ?_
      refine JE.mk (fin (d.v:Int) [_] (.inr (yo fun s hs=>?_)))
      have:=h1.le s hs;omega
     ·refine JE.mk (fin (v:Int) [_] (.inr ⟨v,⟨h1.lt,?_,fun s hs=>?_⟩,rfl⟩))
      ·obtain⟨s,hs,x⟩:=h1.ex;exact⟨s,by rw[jE];exact List.mem_append_left _ hs,x⟩
      ·rw[jE,List.mem_append,List.mem_singleton]at hs
       rcases hs with hs|rfl
       ·exact h1.le s hs
       ·rw[az hN];omega
 ·obtain rfl:i=3:=by omega
  rw[List.take_of_length_le (by rw[hlen];exact Nat.le_refl _)]at Qj
  refine bN.mk (.refl _) ?_
  rcases Qj with⟨h1,rfl⟩|⟨v,h1,rfl⟩
  ·exact .inl ⟨h1,rfl⟩
  ·exact .inr ⟨v,h1,rfl⟩
theorem Ch(r v:Nat)(B:Hp):Rd Tryz.prog 267 #[ptr bw,.int .i64 (v:Int),u32 r,u32 r] B (· =.tuple #[u32 r,.int .i64 0]):=by
 refine aR fun g=>tS ?_
 exact aa.gA (Br.T (bN.mk (.refl _) rfl))
theorem MG{CM X:Hp}{made:List Nat}(h:cw kp K S ord ah tr C){v lo hi:Nat}(hv:v<K.n)(hlo:live K.N lo)(hhi:live K.N hi)(hne:lo≠hi)(hlt:lv ah v<dep K.n (lv ah) K.N lo∧lv ah v<dep K.n (lv ah) K.N hi)
 (hM:aK 77 .u32 vm (iw made) CM)(hf:∀s,K.hold s<65535)(hlen:made.length≤1099511627776):
  Fc Tryz.prog 267 #[ptr bw,.int .i64 (v:Int),u32 lo,u32 hi] (fE bw kp vl vm::(X++(CM++C))) (fun w H=>
   (∃r K' S' C' Q7 Th,w=.tuple #[u32 r,.int .i64 0]∧H=fE bw kp vl Q7::(X++(Th++C'))∧cw kp K' S' ord ah [] C'∧nQ K S K' S' (ite S ⟨v,lo,hi⟩) r∧aK 77 .u32 Q7 (iw (made++[r])) Th)∨
   (w=.tuple #[u32 0,.int .i64 9]∧H=fE bw kp vl vm::(X++(CM++C))∧K.cap≤K.used∧K.T ⟨v,lo,hi⟩=none)):=by
 refine aR fun g=>tS ?_
 refine aa.cE (Br.Md hne ?_)
 refine Ld.n ?_
 refine ae.fq (xg h hv hlo hhi (.inr hlt)) ?_
 rintro w C' (⟨r,K',S',rfl,fD,mk⟩|⟨r,rfl,_,_,_,hfull,_⟩|⟨rfl,rfl,hcap,_,hT⟩)
 ·refine Ext.two ?_
  intro J hJ
  refine aa.gA (Br.T ?_)
  refine Ld.n ?_
  refine aq.int (e:=77) (by kernel_rfl) (by kernel_rfl) (by kernel_rfl) fun bx=>?_
  refine hM.pN (x:=(r:Int)) (.cons (.cons (.app .left))) (by exact .head _) (by rw[ai];omega) (by rw[ai];omega) fun Q7 Th SI=>?_
  have h1:=SI.one
  refine Nil.ptr (ag.mk (St.one (by exact .tail (.head _)) h1 (by simp) rfl ?_))
  refine aS.mk .tail (.inl ⟨r,K',S',C',Q7,Th,rfl,rfl,fD,mk,?_⟩)
  rw[bP];exact SI
 ·have:=hf r;omega
 ·refine Ext.two ?_
  intro J hJ
  refine aa.gA (Br.F ?_)
  refine aa.gA (Br.F ?_)
  exact JE.mk (hJ _ fun gs=>aS.here (.inr ⟨rfl,rfl,hcap,hT⟩))
end
structure mF(K0:Kd)(S0:Nat→aC.Fn)(U:aC.Fn→Prop)(ord:List Nat)(K:Kd)(S:Nat→aC.Fn)(made:List Nat):Prop where
 n:K.n=K0.n
 cap:K.cap=K0.cap
 N:∀s d,K0.N s=some d→K.N s=some d
 fn:∀s,live K0.N s→S s=S0 s
 hold:∀s,K.hold s=K0.hold s+made.count s
 two:∀s∈made,2≤s
 U:∀g,aP K0.n ord (K.held S) g→U g
theorem mF.refl{K0:Kd}{S0:Nat→aC.Fn}{U:aC.Fn→Prop}{ord:List Nat}(h:∀g,aP K0.n ord (K0.held S0) g→U g):mF K0 S0 U ord K0 S0 []:=⟨rfl,rfl,fun _ _ h=>h,fun _ _=>rfl,fun s=>by simp,by simp,h⟩
def Fits(U:aC.Fn→Prop)(cap:Nat):Prop:=∃ku,qC U ku∧ku+2≤cap
section
variable {kp:Nat} {K0 K:Kd} {S0 S:Nat→aC.Fn} {U:aC.Fn→Prop} {ord ah tr:List Nat} {made:List Nat} {C:Hp}
theorem mF.fZ(h:mF K0 S0 U ord K S made)(hK:cw kp K S ord ah tr C){s:Nat}(hs:s∈made):live K.N s:=by
 refine .inr (hK.ok.mid.held s ?_)
 rw[h.hold]
 have:=List.count_pos_iff.2 hs
 omega
theorem mF.live(h:mF K0 S0 U ord K S made){s:Nat}(hs:live K0.N s):live K.N s:=cI h.N hs
theorem mF.step(h:mF K0 S0 U ord K S made)(hK:cw kp K S ord ah tr C){K':Kd}{S':Nat→aC.Fn}{f:aC.Fn}{r:Nat}(m:nQ K S K' S' f r)(h2:2≤r)(hU:∀g,aP K0.n ord (fun g=>g=f) g→U g):mF K0 S0 U ord K' S' (made++[r]):=by
 refine⟨m.n.trans h.n,m.cap.trans h.cap,fun s d hd=>m.N s d (h.N s d hd),fun s hs=>(m.fn s (h.live hs)).trans (h.fn s hs),fun s=>?_,fun s hs=>?_,fun g hg=>?_⟩
 ·rw[m.hold,List.count_append,List.count_singleton,h.hold]
  by_cases e:s=r
  ·subst e;simp[h2];omega
  ·have:(r==s)=false:=by simpa using fun e'=>e e'.symm
   simp[e,this]
 ·rcases List.mem_append.1 hs with hs|hs
  ·exact h.two s hs
  ·simp at hs;subst hs;exact h2
 ·have fc:∀g,K'.held S' g→K.held S g∨g=f:=by
   rintro g ⟨s,hs,rfl⟩
   have hs':K'.hold s≠0:=hs
   rw[m.hold]at hs'
   by_cases e:s=r∧2≤r
   ·right;rw[e.1];exact m.is
   ·rw[if_neg e]at hs'
    exact .inl ⟨s,hs',m.fn s (.inr (hK.ok.mid.held s hs'))⟩
  rcases(yP g).1 (bJ fc hg)with h1|h1
  ·exact h.U g h1
  ·exact hU g h1
end
def xK(gR b1 b5 qy:Nat):Value:=.func (.func 264) #[] #[ptr gR,ptr b1,ptr b5,ptr qy]
structure xX(fv:Value)(LB:Hp)(t:Bool→Bool→Bool→Bool):Prop where
 is:∃f first cap,fv=.func (.func f) first cap∧bu Tryz.prog f=true∧∀x y z:Bool,Rd Tryz.prog f (first++ #[.bool x,.bool y,.bool z]++cap) LB (· =.bool (t x y z))
def Wn(K0:Kd)(S0 S:Nat→aC.Fn)(t:Bool→Bool→Bool→Bool)(made:List Nat)(m:List (Q3×Nat)):Prop:=∀y∈m,S y.2=rQ t S0 (l3 y.1)∧(y.2<2∨y.2∈made)
section
variable {kp gR b1 b5 qy bm bw:Nat} {vl fv:Value} {LB CL:Hp} {lvl:List Nat} {K0:Kd} {S0:Nat→aC.Fn} {U:aC.Fn→Prop} {ord ah:List Nat} {t:Bool→Bool→Bool→Bool}
abbrev QT(gR b1 b5 qy bm bw kp:Nat)(fv vl vm:Value)(LB CL CM C:Hp)(es:Array MapEntry)(ck:Nat):Hp:=
 (gR,.cells #[.map (some bm)] 339 (0,0))::(b1,.cells #[ptr bw] 313 (0,0))::(b5,.cells #[fv] 320 (0,0))::(qy,.cells #[xK gR b1 b5 qy] 340 (0,0))::
 (LB++((bm,.map es ck)::(fE bw kp vl vm::(CL++(CM++C)))))
structure ZD(kp:Nat)(K0:Kd)(S0:Nat→aC.Fn)(U:aC.Fn→Prop)(ord ah Re:List Nat)(t:Bool→Bool→Bool→Bool)(K:Kd)(S:Nat→aC.Fn)(made:List Nat)(es:Array MapEntry)(ck:Nat)(vm:Value)(CM C:Hp):Prop where
 ks:∃tr,cw kp K S ord ah tr C∧(tr=[]∨(tr=Re∧made=[]))
 cP:mF K0 S0 U ord K S made
 XE:aK 77 .u32 vm (iw made) CM
 kn:∃m,aN kq Ju es ck m∧Wn K0 S0 S t made m
structure fp(K:Kd)(S:Nat→aC.Fn)(made:List Nat)(K':Kd)(S':Nat→aC.Fn)(made':List Nat)(c:Nat):Prop where
 N:∀s d,K.N s=some d→K'.N s=some d
 fn:∀s,live K.N s→S' s=S s
 ext:∃ext,made'=made++ext∧ext.length≤c
theorem fp.refl{K:Kd}{S:Nat→aC.Fn}{made:List Nat}{c:Nat}:fp K S made K S made c:=⟨fun _ _ h=>h,fun _ _=>rfl,[],by simp,Nat.zero_le _⟩
section
variable {K K' K2:Kd} {S S' S2:Nat→aC.Fn} {made made' fL:List Nat} {c c':Nat}
theorem fp.Jr(h:fp K S made K' S' made' c)(hc:c≤c'):fp K S made K' S' made' c':=⟨h.N,h.fn,let ⟨e,h1,h2⟩:=h.ext;⟨e,h1,by omega⟩⟩
theorem fp.mem{s:Nat}(h:fp K S made K' S' made' c)(hs:s∈made):s∈made':=by
 obtain⟨e,rfl,_⟩:=h.ext;exact List.mem_append_left _ hs
theorem fp.count(h:fp K S made K' S' made' c)(s:Nat):made'.count s≤made.count s+c∧made'.length≤made.length+c:=by
 obtain⟨e,rfl,he⟩:=h.ext
 have:=List.count_le_length (a:=s) (l:=e)
 rw[List.count_append,List.length_append];omega
theorem fp.trans(h:fp K S made K' S' made' c)(h':fp K' S' made' K2 S2 fL c'):fp K S made K2 S2 fL (c+c'):=by
 obtain⟨e,rfl,he⟩:=h.ext
 obtain⟨e',rfl,he'⟩:=h'.ext
 exact⟨fun s d hd=>h'.N s d (h.N s d hd),fun s hs=>(h'.fn s (cI h.N hs)).trans (h.fn s hs),e++e',by rw[List.append_assoc],by rw[List.length_append];omega⟩
end
theorem o6{κ β:Type}[DecidableEq κ]{m:List (κ×β)}{k:κ}{x:β}{y:κ×β}(h:y∈fm m k x):y=(k,x)∨y∈m:=by
 unfold fm at h
 split at h
 ·obtain⟨z,hz,rfl⟩:=List.mem_map.1 h
  split
  ·exact .inl rfl
  ·exact .inr hz
 ·rcases List.mem_append.1 h with h|h
  ·exact .inr h
  ·simp at h;exact .inl h
def yH(N:dQ)(v:Nat)(b:Bool)(q:Q3):Q3:=(dw N v b q.1,dw N v b q.2.1,dw N v b q.2.2)
theorem Oq(N:dQ)(v:Nat)(b:Bool)(q:Q3):l3 (yH N v b q)=gB N v b (l3 q):=rfl
theorem mg{N N':dQ}(hN:∀s d,N s=some d→N' s=some d)(h2:∀r,r<2→N r=none)(me:∀r,r<2→N' r=none){r:Nat}(hr:live N r):got N' r=got N r:=by
 rcases hr with hr|⟨d,hd⟩
 ·rw[dJ hr,dJ hr]
 ·by_cases h:r<2
  ·rw[h2 r h]at hd;cases hd
  ·rw[c8 hd (by omega),c8 (hN r d hd) (by omega)]
def Ans(kp gR b1 b5 qy bm bw:Nat)(fv vl:Value)(LB CL:Hp)(K0:Kd)(S0:Nat→aC.Fn)(U:aC.Fn→Prop)(ord ah Re:List Nat)(t:Bool→Bool→Bool→Bool)(ql:List Nat)(c:Nat)(K:Kd)(S:Nat→aC.Fn)(made:List Nat)(r:Value)(H:Hp):Prop:=
 ∃K' S' made' es' ca Q7 Th C',H=QT gR b1 b5 qy bm bw kp fv vl Q7 LB CL Th C' es' ca∧ZD kp K0 S0 U ord ah Re t K' S' made' es' ca Q7 Th C'∧fp K S made K' S' made' c∧
   ((∃x:Nat,r=.tuple #[u32 x,.int .i64 0]∧S' x=rQ t S0 ql∧(x<2∨x∈made'))∨(r=.tuple #[u32 0,.int .i64 9]∧¬Fits U K0.cap))
theorem SM(gg:bu Tryz.prog 264=true)(AJ:xX fv LB t)(QR:aK 3 .i64 vl (iw lvl) CL)(k7:lvl.length=K0.n)(hlv:∀v,v<K0.n→lvl.getD v 0=lv ah v)(zq:K0.n≤64)(jk:WF K0.n (lv ah) K0.N)(nB:Interp K0.N S0)(ic:jR K0.n (lv ah))(Pa:∀r,live K0.N r→r<4294967296){Re:List Nat}:
  ∀(ql:List Nat) (c:Nat),Tree K0.n (lv ah) K0.N ql c→∀(q:Q3),l3 q=ql→∀(K:Kd) (S:Nat→aC.Fn) (made:List Nat) (es:Array MapEntry) (ck:Nat) (vm:Value) (CM C:Hp),ZD kp K0 S0 U ord ah Re t K S made es ck vm CM C→
  (∀r∈ql,live K0.N r)→(∀g,aP K0.n ord (fun g=>g=rQ t S0 ql) g→U g)→(∀s,K.hold s+c<65535)→made.length+c≤1048576→
  Fc Tryz.prog 264 #[kq q,ptr gR,ptr b1,ptr b5,ptr qy] (QT gR b1 b5 qy bm bw kp fv vl vm LB CL CM C es ck) (fun r H=>Ans kp gR b1 b5 qy bm bw fv vl LB CL K0 S0 U ord ah Re t ql c K S made r H):=by
 have hc0:∀r,r<2→K0.N r=none:=fun r hr=>jk.const hr
 intro ql c hT
 induction hT with
 | @leaf ql hnone=>
  intro q hq K S made es ck vm CM C hS fC hU hB hM g
  subst hq
  obtain⟨tr,hK,fo⟩:=hS.ks
  obtain⟨m,hE,hkn⟩:=hS.kn
  have FY:∀r,r<2→K.N r=none:=fun r hr=>hK.ok.wf.const hr
  refine tT (R:=aS _) ?_
  unfold L264
  intro bq _
  refine Ld.q ?_
  refine av.q ?_
  have uH:(bm,Obj.map es ck)∈(bq,Obj.cells (ax .u32 (iw (l3 q))) 318 (0,0))::QT gR b1 b5 qy bm bw kp fv vl vm LB CL CM C es ck:=.tail _ (.tail _ (.tail _ (.tail _ (.tail _ (List.mem_append_right _ (.head _))))))
  cases hg:cR m q with
  |some x=>
   refine aN.BE (ke:=kq) (k:=q) vy qg hE uH hg ?_
   rintro v rfl
   obtain⟨h1,h2⟩:=hkn _ ((dS hE.nd).1 hg)
   refine Ext.mk rfl (Ext.mk rfl (Br.yes ?_))
   exact aS.mk .tail ⟨K,S,made,es,ck,vm,CM,C,rfl,hS,.refl,.inl ⟨x,rfl,h1,h2⟩⟩
  |none=>
   refine aN.sK (ke:=kq) (k:=q) vy qg hE uH hg ?_
   refine Ext.mk rfl (Ext.mk rfl (Br.no ?_))
   refine Ld.q ?_
   refine av.q ?_
   refine ae.fq (args:=#[ptr bw,kq q]) (wj hK.rep q (fun r hr=>Pa r (fC r hr))) ?_
   rintro vn H ⟨CN,rfl,hN⟩
   have eN:(l3 q).map (got K.N)=(l3 q).map (got K0.N):=List.map_congr_left fun r hr=>mg hS.cP.N hc0 FY (fC r hr)
   rw[eN]at hN
   refine Ld.q ?_
   refine ae.rq (Gl (bw:=bw) (kp:=kp) (vl:=vl) (vm:=vm) (lvl:=lvl) (n:=K0.n) (pS:=lv ah) (N:=K0.N) (.tail _ (.tail _ (.tail _ (.tail _ (.tail _ (List.mem_append_right _ (.tail _ (List.mem_append_right _ (.head _))))))))) (QR.ints.mono fun _ h=>.tail _ (.tail _ (.tail _ (.tail _ (.tail _ (List.mem_append_right _ (.tail _ (List.mem_append_right _ (.tail _ (List.mem_append_left _ h)))))))))) k7 hlv q ((Sl.kM hN (by decide)).mono fun _ h=>.tail _ (.tail _ (.tail _ (.tail _ (.tail _ (List.mem_append_right _ (.tail _ (List.mem_append_left _ h)))))))) jk ic fC zq) ?_
   rintro w (⟨_,rfl⟩|⟨v,hv,rfl⟩)
   rotate_left
   ·obtain⟨s,hs,d,hd,_⟩:=hv.ex
    rw[hnone s hs]at hd;cases hd
   refine aa.lss (Br.T ?_)
   have HL:∀r∈l3 q,r<2:=fun r hr=>by
    rcases fC r hr with h|⟨d,hd⟩
    ·exact h
    ·rw[hnone r hr]at hd;cases hd
   obtain⟨f,first,cap,Ls,hfc,hL⟩:=AJ.is
   refine Ld.q ?_
   refine gD.nat (j:=0) (by decide) (Ld.q ?_)
   refine aa.cE (b:=1) ?_
   refine gD.nat (j:=1) (by decide) (Ld.q ?_)
   refine aa.cE (b:=1) ?_
   refine gD.nat (j:=2) (by decide) (Ld.q ?_)
   refine aa.cE (b:=1) ?_
   refine bI.of Ls hfc ?_
   refine ae.eq (hL _ _ _) ?_
   have TA:=fun x=>HX nB (q:=l3 q) rfl HL t x
   have hint:=hK.ok.mid.int
   have Qx:aM ((bq,Obj.cells (ax .u32 (iw (l3 q))) 318 (0,0))::(gR,.cells #[.map (some bm)] 339 (0,0))::(b1,.cells #[ptr bw] 313 (0,0))::(b5,.cells #[fv] 320 (0,0))::(qy,.cells #[xK gR b1 b5 qy] 340 (0,0))::(LB++((bm,.map es ck)::(CN++(fE bw kp vl vm::(CL++(CM++C))))))) (QT gR b1 b5 qy bm bw kp fv vl vm LB CL CM C es ck):=
    .skip (.cons (.cons (.cons (.cons (.cQ (.cons .right) _)))))
   refine Br.mk (fun hb=>?_) (fun hb=>?_)
   ·refine aS.mk Qx ⟨K,S,made,es,ck,vm,CM,C,rfl,hS,.refl,.inl ⟨1,rfl,funext fun x=>?_,.inl (by omega)⟩⟩
    rw[hint.one,TA x];exact hb.symm
   ·refine aS.mk Qx ⟨K,S,made,es,ck,vm,CM,C,rfl,hS,.refl,.inl ⟨0,rfl,funext fun x=>?_,.inl (by omega)⟩⟩
    rw[hint.zero,TA x];exact hb.symm
 | @node ql v a b hv ha hb iha ihb=>
  intro q hq K S made es ck vm CM C hS fC hU hB hM g
  subst hq
  obtain⟨tr,hK,fo⟩:=hS.ks
  obtain⟨m,hE,hkn⟩:=hS.kn
  have FY:∀r,r<2→K.N r=none:=fun r hr=>hK.ok.wf.const hr
  refine tT (R:=aS _) ?_
  unfold L264
  intro bq _
  refine Ld.q ?_
  refine av.q ?_
  have uH:(bm,Obj.map es ck)∈(bq,Obj.cells (ax .u32 (iw (l3 q))) 318 (0,0))::QT gR b1 b5 qy bm bw kp fv vl vm LB CL CM C es ck:=.tail _ (.tail _ (.tail _ (.tail _ (.tail _ (List.mem_append_right _ (.head _))))))
  cases hg:cR m q with
  |some x=>
   refine aN.BE (ke:=kq) (k:=q) vy qg hE uH hg ?_
   rintro v rfl
   obtain⟨h1,h2⟩:=hkn _ ((dS hE.nd).1 hg)
   refine Ext.mk rfl (Ext.mk rfl (Br.yes ?_))
   exact aS.mk .tail ⟨K,S,made,es,ck,vm,CM,C,rfl,hS,.refl,.inl ⟨x,rfl,h1,h2⟩⟩
  |none=>
  refine aN.sK (ke:=kq) (k:=q) vy qg hE uH hg ?_
  refine Ext.mk rfl (Ext.mk rfl (Br.no ?_))
  refine Ld.q ?_
  refine av.q ?_
  refine ae.fq (args:=#[ptr bw,kq q]) (wj hK.rep q (fun r hr=>Pa r (fC r hr))) ?_
  rintro vn H ⟨CN,rfl,hN⟩
  have eN:(l3 q).map (got K.N)=(l3 q).map (got K0.N):=List.map_congr_left fun r hr=>mg hS.cP.N hc0 FY (fC r hr)
  rw[eN]at hN
  refine Ld.q ?_
  refine ae.rq (Gl (bw:=bw) (kp:=kp) (vl:=vl) (vm:=vm) (lvl:=lvl) (n:=K0.n) (pS:=lv ah) (N:=K0.N) (.tail _ (.tail _ (.tail _ (.tail _ (.tail _ (List.mem_append_right _ (.tail _ (List.mem_append_right _ (.head _))))))))) (QR.ints.mono fun _ h=>.tail _ (.tail _ (.tail _ (.tail _ (.tail _ (List.mem_append_right _ (.tail _ (List.mem_append_right _ (.tail _ (List.mem_append_left _ h)))))))))) k7 hlv q ((Sl.kM hN (by decide)).mono fun _ h=>.tail _ (.tail _ (.tail _ (.tail _ (.tail _ (List.mem_append_right _ (.tail _ (List.mem_append_left _ h)))))))) jk ic fC zq) ?_
  rintro w (⟨aE,_⟩|⟨v',vG,rfl⟩)
  ·obtain⟨s,hs,d,hd,_⟩:=hv.ex
   rw[aE s hs]at hd;cases hd
  obtain rfl:v'=v:=vG.uniq ic hv
  refine aa.lss (Br.F ?_)
  refine DR.of (R:=[(bq,Obj.cells (ax .u32 (iw (l3 q))) 318 (0,0))]) (aM.left (A:=[_])) ?_
  refine av.q ?_
  refine av.q ?_
  intro Xd _ yc _ F35
  have hone:∀x∈(iw (l3 q)).map fun n=>Value.int .u32 n,x.oneCell'=true:=fun x hx=>by obtain⟨n,_,rfl⟩:=List.mem_map.1 hx;rfl
  refine St.p hone ?_
  refine⟨.skip (.skip (aM.left (A:=[_]))),?_⟩
  intro F37
  refine St.p hone ?_
  refine hN.bc ?_
  rw[List.length_map]
  refine⟨fun vs H=>∃i:Nat,vs=[.int .i64 (i:Int)]∧i≤3∧H=(yc,.cells (ax .u32 (iw (kA K0.N v' true (l3 q) i))) 318 (0,0))::(Xd,.cells (ax .u32 (iw (kA K0.N v' false (l3 q) i))) 318 (0,0))::
    (bq,Obj.cells (ax .u32 (iw (l3 q))) 318 (0,0))::(gR,.cells #[.map (some bm)] 339 (0,0))::(b1,.cells #[ptr bw] 313 (0,0))::(b5,.cells #[fv] 320 (0,0))::(qy,.cells #[xK gR b1 b5 qy] 340 (0,0))::(LB++((bm,.map es ck)::(CN++(fE bw kp vl vm::(CL++(CM++C)))))),
   fun vs _=>3-br vs 0,JE.mk ⟨0,rfl,by omega,by rw[vb,vb];rfl⟩,?_⟩
  rintro w44 H ⟨i,hvs,hi,rfl⟩ gs
  simp only[List.cons.injEq,and_true]at hvs
  subst hvs
  have hl3:(l3 q).length=3:=rfl
  refine aa.dH (b:=3) (Br.dec (fun hlt=>?_) (fun hlt=>?_))
  ·-- a part of the question
   intro J hJ
   obtain⟨r,hr⟩:∃r,(l3 q)[i]? =some r:=⟨_,List.getElem?_eq_getElem (show i<(l3 q).length from hlt)⟩
   have hlr:=fC r (List.mem_of_getElem? hr)
   have hrow:((l3 q).map (got K0.N))[i]? =some (got K0.N r):=by rw[List.getElem?_map,hr];rfl
   refine an.sl (Sl.kM hN (by decide)) hrow fun p hp=>?_
   refine av.at hp (aH _ _).1 (by decide) (fun _ h=>.tail _ (.tail _ (.tail _ (.tail _ (.tail _ (.tail _ (.tail _ (List.mem_append_right _ (.tail _ (List.mem_append_left _ h)))))))))) ?_
   intro b52 _
   refine St.whole (r:=got K0.N r) (by exact .head _) rfl (aH _ _).1 (aH _ _).2 ?_
   have stay:dw K0.N v' false r=r→dw K0.N v' true r=r→∀Z:Hp,JE J [] (Z++((yc,.cells (ax .u32 (iw (kA K0.N v' true (l3 q) i))) 318 (0,0))::(Xd,.cells (ax .u32 (iw (kA K0.N v' false (l3 q) i))) 318 (0,0))::
    (bq,Obj.cells (ax .u32 (iw (l3 q))) 318 (0,0))::(gR,.cells #[.map (some bm)] 339 (0,0))::(b1,.cells #[ptr bw] 313 (0,0))::(b5,.cells #[fv] 320 (0,0))::(qy,.cells #[xK gR b1 b5 qy] 340 (0,0))::(LB++((bm,.map es ck)::(CN++(fE bw kp vl vm::(CL++(CM++C)))))))):=fun e1 e2 Z=>by
    refine JE.of .right (hJ _ fun gs=>?_)
    refine aa.inc ?_
    exact aB.of (.refl _) ⟨i+1,rfl,by omega,by rw[ve hr e1,ve hr e2]⟩ (by simp only[br];omega)
   cases SG:K0.N r with
   |none=>
    have ry:r<2:=by rcases hlr with h2|⟨d,hd⟩;exact h2;rw[SG]at hd;cases hd
    rw[dJ ry]
    refine Ld.f ?_
    refine aa.gA (Br.F ?_)
    have ec:∀b,dw K0.N v' b r=r:=fun b=>by unfold dw;rw[SG]
    exact stay (ec false) (ec true) [_]
   |some d=>
    have h2:=jk.two SG
    rw[c8 SG h2]
    refine Ld.f ?_
    refine aa.cE (Br.dec (fun nJ=>?_) (fun nJ=>?_))
    ·refine DR.of (R:=[(b52,Obj.cells (bt d).toArray 161 (0,0))]) (aM.left (A:=[_])) ?_
     refine Ld.f ?_
     refine Ld.f ?_
     have elo:dw K0.N v' false r=d.lo:=by unfold dw;rw[SG];simp[nJ]
     have ehi:dw K0.N v' true r=d.hi:=by unfold dw;rw[SG];simp[nJ]
     refine gD.nat hlt ?_
     refine St.ints (l:=iw (kA K0.N v' false (l3 q) i)) (x:=(d.lo:Int)) (by exact .tail (.tail (.head _))) (by rw[ai,yU (by omega)];omega) ?_
     refine⟨aM.left (A:=[_]),?_⟩
     refine gD.nat hlt ?_
     refine St.ints (l:=iw (kA K0.N v' true (l3 q) i)) (x:=(d.hi:Int)) (by exact .tail (.head _)) (by rw[ai,yU (by omega)];omega) ?_
     rw[eJ,eJ,←elo,←ehi,qe hr,qe hr]
     refine JE.of .tail (hJ _ fun gs=>?_)
     refine aa.inc ?_
     exact aB.of (.refl _) ⟨i+1,rfl,by omega,rfl⟩ (by simp only[br];omega)
    ·have ec:∀b,dw K0.N v' b r=r:=fun b=>by unfold dw;rw[SG];simp[nJ]
     exact stay (ec false) (ec true) [_]
  obtain rfl:i=3:=by omega
  have em:∀b,kA K0.N v' b (l3 q) 3=l3 (yH K0.N v' b q):=fun b=>by rw[Oq,←Kv];rfl
  rw[em,em]
  obtain⟨f1,f2⟩:=nj (S:=S0) jk ic nB fC hv false
  obtain⟨t1,t2⟩:=nj (S:=S0) jk ic nB fC hv true
  have ec:∀b,rQ t S0 (gB K0.N v' b (l3 q))=fun x=>rQ t S0 (l3 q) (aj.aA x v' b):=fun b=>F9 jk ic nB rfl fC hv t b
  have jG:Ord K0.n (lv ah) ord:=by rw[←hS.cP.n];exact hK.od
  have gH:=ic.lt v' hv.lt
  have HG:=jG.of ic hv.lt
  have qo:=vY jk ic nB jG (q:=l3 q) rfl fC (Nat.le_of_lt gH) hv.le t
  obtain⟨i1,JO⟩:=g9 (n:=K0.n) (ord:=ord) (c:=rQ t S0 (gB K0.N v' false (l3 q))) qo (b:=false) (by rw[HG];exact ec false)
  obtain⟨i2,JN⟩:=g9 (n:=K0.n) (ord:=ord) (c:=rQ t S0 (gB K0.N v' true (l3 q))) qo (b:=true) (by rw[HG];exact ec true)
  refine Ld.q ?_
  refine av.q ?_
  refine bI.of rfl gg ?_
  refine ae.pre (H':=(yc,.cells (ax .u32 (iw (l3 (yH K0.N v' true q)))) 318 (0,0))::(Xd,.cells (ax .u32 (iw (l3 (yH K0.N v' false q)))) 318 (0,0))::(bq,Obj.cells (ax .u32 (iw (l3 q))) 318 (0,0))::QT gR b1 b5 qy bm bw kp fv vl vm LB CL CM C es ck) (.cons (.cons (.cons (.cons (.cons (.cons (.cons (.cQ (.cons .right) _)))))))) ?_
  refine ae.fq (args:=#[kq (yH K0.N v' false q),ptr gR,ptr b1,ptr b5,ptr qy]) (iha (yH K0.N v' false q) rfl K S made es ck vm CM C hS f1 (fun g hg=>hU g (JO g hg)) (fun s=>by have:=hB s;omega) (by omega)) ?_
  rintro w H ⟨K1,S1,vq,nC,k9,ZT,CM1,C1,rfl,AI,Nl,LI⟩
  rcases LI with⟨x1,rfl,hx1,zv⟩|⟨rfl,hno⟩
  rotate_left
  ·refine Ext.mk rfl (Ext.mk rfl (aa.cG (Br.T ?_)))
   exact aS.mk (.skip (.skip .tail)) ⟨K1,S1,vq,nC,k9,ZT,CM1,C1,rfl,AI,Nl.Jr (by omega),.inr ⟨rfl,hno⟩⟩
  refine Ext.mk rfl (Ext.mk rfl (aa.cG (Br.F ?_)))
  refine Ld.q ?_
  refine av.q ?_
  refine bI.of rfl gg ?_
  have YI:=fun s=>Nl.count s
  have Tz:∀s,K1.hold s≤K.hold s+a:=fun s=>by rw[AI.cP.hold,hS.cP.hold];have:=(YI s).1;omega
  refine ae.fq (args:=#[kq (yH K0.N v' true q),ptr gR,ptr b1,ptr b5,ptr qy]) (ihb (yH K0.N v' true q) rfl K1 S1 vq nC k9 ZT CM1 C1 AI t1 (fun g hg=>hU g (JN g hg)) (fun s=>by have:=hB s;have:=Tz s;omega) (by have:=(YI 0).2;omega)) ?_
  rintro w H ⟨K2,S2,fL,mr,nD,Xl,ZM,C2,rfl,jH,jI,LI⟩
  have xA:=Nl.trans jI
  rcases LI with⟨x2,rfl,HE,sY⟩|⟨rfl,hno⟩
  rotate_left
  ·refine Ext.mk rfl (Ext.mk rfl (aa.cG (Br.T ?_)))
   exact aS.mk (.skip (.skip .tail)) ⟨K2,S2,fL,mr,nD,Xl,ZM,C2,rfl,jH,xA.Jr (by omega),.inr ⟨rfl,hno⟩⟩
  refine Ext.mk rfl (Ext.mk rfl (aa.cG (Br.F ?_)))
  refine Ld.q ?_
  obtain⟨Rc,fe,RT⟩:=AI.ks
  obtain⟨MW,dB,zh⟩:=jH.ks
  have U8:=dB.ok.mid.int
  have XI:live K1.N x1:=by rcases zv with h|h;exact .inl h;exact AI.cP.fZ fe h
  have e1:S2 x1=rQ t S0 (gB K0.N v' false (l3 q)):=(jI.fn x1 XI).trans hx1
  have l1:live K2.N x1:=by rcases zv with h|h;exact .inl h;exact jH.cP.fZ dB (jI.mem h)
  have l2:live K2.N x2:=by rcases sY with h|h;exact .inl h;exact jH.cP.fZ dB h
  have n2:=jH.cP.n
  have rB:ite S2 ⟨v',x1,x2⟩=rQ t S0 (l3 q):=by
   funext x
   unfold aC.ite
   rw[e1,HE,ec,ec]
   conv=>rhs;rw[←aj.jt x v']
   simp only
   cases x.testBit v'<;>rfl
  obtain⟨m2,vP,Sd⟩:=jH.kn
  have hkl:∀y∈m2,live K2.N y.2:=fun y hy=>by
   rcases(Sd y hy).2 with h|h
   ·exact .inl h
   ·exact jH.cP.fZ dB h
  by_cases hx:x1=x2
  ·subst hx
   refine ae.eq (Ch x1 v' _) ?_
   refine Ext.two ?_
   intro J hJ
   refine aa.gA (Br.T ?_)
   refine Ld.q ?_
   refine av.q ?_
   refine aN.Jy (ke:=kq) (k:=q) (vr:=Ju) (x:=x1) vy qg FR vP rfl fun es' ca he=>⟨_,.tail (.tail (.tail (.tail (.tail (.tail (.tail ((cD.head _).bO LB))))))),?_⟩
   refine JE.mk (hJ _ fun gs=>?_)
   have hr:S2 x1=rQ t S0 (l3 q):=by
    rw[←rB]
    funext x
    unfold aC.ite
    split<;>rfl
   have vI:x1<2∨x1∈fL:=sY
   exact aS.mk (.skip (.skip .tail)) ⟨K2,S2,fL,es',ca,Xl,ZM,C2,rfl,⟨jH.ks,jH.cP,jH.XE,_,he,fun y hy=>(o6 hy).elim (fun e=>by rw[e];exact⟨hr,vI⟩) (fun hy=>Sd y hy)⟩,xA.Jr (by omega),.inl ⟨x1,rfl,hr,vI⟩⟩
  ·have vL:dm (rQ t S0 (l3 q)) (ord.getD (lv ah v') 0):=by
    rw[HG]
    refine Classical.byContradiction fun hno=>hx ?_
    refine dB.ok.wf.same dB.ok.lv U8 l1 l2 fun x=>?_
    rw[e1,HE,ec,ec]
    exact(cq hno x false).trans (cq hno x true).symm
   have b1':=dB.ok.below dB.od (l:=lv ah v'+1) l1 (by omega) (by rw[e1];exact i1)
   have b2':=dB.ok.below dB.od (l:=lv ah v'+1) l2 (by omega) (by rw[HE];exact i2)
   have LM:∀g,aP K0.n ord (fun g=>g=ite S2 ⟨v',x1,x2⟩) g→U g:=by rw[rB];exact hU
   have Sk:∀s,K2.hold s<65535:=fun s=>by
    have q1:=hB s
    have q2:=Tz s
    have q3:=(jI.count s).1
    have q4:=jH.cP.hold s
    have q5:=AI.cP.hold s
    omega
   refine ae.fq (args:=#[ptr bw,.int .i64 (v':Int),u32 x1,u32 x2]) (MG dB (v:=v') (by rw[n2];exact hv.lt) l1 l2 hx ⟨by omega,by omega⟩ jH.XE Sk (by have:=(jI.count 0).2;have:=(Nl.count 0).2;omega)) ?_
   rintro w H (⟨r,K3,S3,C3,vm3,CM3,rfl,rfl,nA,mk,O7⟩|⟨rfl,rfl,Ss,hT⟩)
   ·refine Ext.two ?_
    intro J hJ
    refine aa.gA (Br.T ?_)
    refine Ld.q ?_
    refine av.q ?_
    refine aN.Jy (ke:=kq) (k:=q) (vr:=Ju) (x:=r) vy qg FR vP rfl fun es' ca he=>⟨_,.tail (.tail (.tail (.tail (.tail (.tail (.tail ((cD.head _).bO LB))))))),?_⟩
    refine JE.mk (hJ _ fun gs=>?_)
    have hr:S3 r=rQ t S0 (l3 q):=mk.is.trans rB
    have ry:2≤r:=Nat.le_of_not_lt fun h=>by
     obtain⟨x,hx⟩:=vL
     apply hx
     rw[←hr]
     have Sh:=nA.ok.mid.int
     have:r=0∨r=1:=by omega
     rcases this with rfl|rfl
     ·rw[Sh.zero,Sh.zero]
     ·rw[Sh.one,Sh.one]
    have m4:=jH.cP.step dB mk ry LM
    have AK:fp K2 S2 fL K3 S3 (fL++[r]) 1:=⟨mk.N,mk.fn,[r],rfl,Nat.le_refl _⟩
    have vI:r<2∨r∈fL++[r]:=.inr (by simp)
    refine aS.mk (.skip (.skip .tail)) ⟨K3,S3,fL++[r],es',ca,vm3,CM3,C3,rfl,⟨⟨[],nA,.inl rfl⟩,m4,O7,_,he,fun y hy=>(o6 hy).elim (fun e=>by rw[e];exact⟨hr,vI⟩) (fun hy=>?_)⟩,(xA.trans AK).Jr (by omega),.inl ⟨r,rfl,hr,vI⟩⟩
    obtain⟨k1,k2⟩:=Sd y hy
    exact⟨by rw[AK.fn y.2 (hkl y hy),k1],k2.imp id AK.mem⟩
   ·refine Ext.two ?_
    intro J hJ
    refine aa.gA (Br.F (JE.mk (hJ _ fun gs=>?_)))
    refine aS.mk (.skip (.skip .tail)) ⟨K2,S2,fL,mr,nD,Xl,ZM,C2,rfl,jH,xA.Jr (by omega),.inr ⟨rfl,?_⟩⟩
    rintro⟨ku,Lk,hfit⟩
    have:=dB.ok.roomFor dB.od Lk (by rw[jH.cP.cap];exact hfit) (by rw[n2];exact jH.cP.U) (d:=⟨v',x1,x2⟩) l1 l2 hx (by rw[n2];exact hv.lt) ⟨by show lv ah v'<dep K2.n (lv ah) K2.N x1;omega,by show lv ah v'<dep K2.n (lv ah) K2.N x2;omega⟩ (LM _ (by rw[rB];exact mQ qo gH vL)) hT
    omega
end
section
variable {kp bw:Nat} {vl vm:Value} {K:Kd} {S:Nat→aC.Fn} {ord ah tr:List Nat} {C:Hp}
theorem wu{Y:Hp}{vr:Value}{refs:List Nat}(hK:cw kp K S ord ah tr C)(hr:cS .u32 Y vr (iw refs))(hl:∀r∈refs,live K.N r)(bH:refs.length≤1048576):
  Fc Tryz.prog 240 #[ptr kp,vr] (Y++C) (fun w H=>∃bw vl CL lvl,w=.tuple #[ptr bw,.int .i64 0]∧H=fE bw kp vl (.slice none 0 0)::(CL++(Y++C))∧aK 3 .i64 vl (iw lvl) CL∧lvl.length=K.n∧∀v,v<K.n→lvl.getD v 0=lv ah v):=by
 have hn:K.n≤64:=hK.aY.oK
 have jG:=hK.od
 refine aR fun g=>DB ?_
 refine aa.aD (Br.no (hr.bc ?_))
 rw[ai]
 refine⟨fun vs H=>∃i:Nat,vs=[.int .i64 (i:Int)]∧i≤refs.length∧H=Y++C,fun vs _=>refs.length-br vs 0,JE.mk ⟨0,rfl,Nat.zero_le _,rfl⟩,?_⟩
 rintro w7 H ⟨i,⟨⟩,hi,rfl⟩ gs
 refine aa.dH (Br.dec (fun hlt=>?_) (fun hlt=>?_))
 ·have hlr:=hl _ (List.getElem_mem hlt)
  refine hr.ld (n:=((refs[i]:Nat):Int)) (bV (List.getElem?_eq_getElem hlt)) (fun _ h=>List.mem_append_left _ h) ?_
  refine ae.eq (args:=#[ptr kp,u32 refs[i]]) (fM hK.rep (by have:=hK.bR hlr;omega)) ?_
  rw[bM.2 hlr]
  refine Ext.two ?_
  intro b15 _
  refine St.whole (r:=got K.N refs[i]) (by exact .head _) rfl (aH _ _).1 (aH _ _).2 ?_
  refine aa.cG (Br.F ?_)
  refine aa.inc ?_
  exact aB.of .tail ⟨i+1,rfl,hlt,rfl⟩ (by simp only[br];omega)
 ·refine ae.eq (gy hK.rep) ?_
  refine cO.ints (by omega) (by omega) fun bl=>?_
  refine Build.mk (cs:=[ptr kp,.slice (some ⟨bl,0,none⟩) K.n K.n,.slice none 0 0]) (by kernel_rfl) ?_
  intro bw _
  refine ae.fq (qh hK.rep) ?_
  rintro vo H ⟨N,rfl,ho⟩
  refine ho.bc ?_
  rw[ai,jG.len]
  have hz:List.replicate K.n (0:Int)=iw (List.replicate K.n 0):=by simp[iw]
  have hm:=aK.made (T:=3) (kd:=.i64) (b:=bl) (iw (List.replicate K.n 0))
  rw[ai,List.length_replicate]at hm
  rw[hz]
  generalize hvl:Value.slice (some ⟨bl,0,none⟩) K.n K.n=vl at*
  refine⟨fun vs H=>∃(i:Nat) (L:List Nat) (CL:Hp),vs=[.int .i64 (i:Int)]∧i≤K.n∧H=fE bw kp vl (.slice none 0 0)::(CL++(Y++(N++C)))∧aK 3 .i64 vl (iw L) CL∧L.length=K.n∧∀j,j<i→L.getD (ord.getD j 0) 0=j,fun vs _=>K.n-br vs 0,
   JE.mk ⟨0,_,_,rfl,Nat.zero_le _,rfl,hm,by simp,fun j hj=>absurd hj (Nat.not_lt_zero _)⟩,?_⟩
  rintro w34 H ⟨i,L,CL,⟨⟩,hi,rfl,hL,VP,hLo⟩ gs
  refine aa.dH (Br.dec (fun hlt=>?_) (fun hlt=>?_))
  ·have m6:=(jG.aY i hlt).1
   refine ho.ld (x:=((ord.getD i 0:Nat):Int)) (aX (by rw[jG.len];exact hlt)) (fun _ h=>.tail _ (List.mem_append_right _ (List.mem_append_right _ (List.mem_append_left _ h)))) ?_
   refine Ld.n ?_
   refine hL.ja (x:=(i:Int)) (.cons .left) (by rw[ai];omega) fun CL' hL'=>?_
   rw[eJ]at hL'
   refine aa.inc ?_
   refine aB.mk ⟨i+1,L.set (ord.getD i 0) i,CL',rfl,hlt,rfl,hL',by simp[VP],fun j hj=>?_⟩ (by simp only[br];omega)
   by_cases e:j=i
   ·subst e
    rw[List.getD_eq_getElem?_getD,List.getElem?_set_self (by omega)];rfl
   ·have hj':j<i:=by omega
    have hne:ord.getD i 0≠ord.getD j 0:=fun h=>by
     have a:=(jG.aY i hlt).2
     have b:=(jG.aY j (by omega)).2
     rw[h,b]at a;exact e a
    rw[List.getD_eq_getElem?_getD,List.getElem?_set_ne hne,←List.getD_eq_getElem?_getD,hLo j hj']
  ·obtain rfl:i=K.n:=by omega
   refine aS.mk (.cons (.cQ (.cQ .right _) _)) ⟨bw,vl,CL,L,rfl,rfl,hL,VP,fun v hv=>?_⟩
   have h1:=hLo (lv ah v) (hK.ok.lv.lt v hv)
   rwa [jG.of hK.ok.lv hv]at h1
structure Gy(K K':Kd)(made:List Nat)(x:Nat)(ok:Bool):Prop where
 n:K'.n=K.n
 cap:K'.cap=K.cap
 N:∀s d,K'.N s=some d→K.N s=some d
 hold:∀s,K'.hold s+made.count s=K.hold s+if ok=true∧s=x∧2≤x then 1 else 0
theorem PK{X CM:Hp}{made:List Nat}{x:Nat}{ok:Bool}(hK:cw kp K S ord ah tr C)(hM:aK 77 .u32 vm (iw made) CM)(hc:∀s,made.count s≤K.hold s)(h2:∀s∈made,2≤s)(Pa:∀s∈made,s<4294967296)(hx:ok=true→x<2∨x∈made)(bH:made.length≤1099511627776):
  Fc Tryz.prog 263 #[ptr bw,u32 x,.int .i64 (if ok then 0 else 9)] (fE bw kp vl vm::(X++(CM++C))) (fun w H=>∃K' C' kK,w=.tuple #[u32 (if ok then x else 0),.int .i64 (if ok then 0 else 9)]∧H=fE bw kp vl (.slice none 0 0)::(X++(CM++C'))∧cw kp K' S ord ah kK C'∧(kK=[]∨(kK=tr∧(ok=true→made≠[])))∧Gy K K' made x ok):=by
 refine aR fun g=>Di ?_
 refine aa.cE (b:=0) ?_
 refine df.or (decide (x=1)) (fun _=>aa.cE (b:=1) ⟨rfl,rfl⟩) (by simp) fun gs=>?_
 rw[←Bool.decide_or]
 refine Ld.n (hM.bc ?_)
 rw[ai]
 refine⟨fun vs H=>∃(i:Nat) (Ki:Kd) (Ci:Hp) (Rb:List Nat) (kept:Bool),vs=[.bool kept,.int .i64 (i:Int)]∧i≤made.length∧H=fE bw kp vl vm::(X++(CM++Ci))∧cw kp Ki S ord ah Rb Ci∧(Rb=[]∨Rb=tr)∧Ki.n=K.n∧Ki.cap=K.cap∧(∀s d,Ki.N s=some d→K.N s=some d)∧
   (∀s,Ki.hold s+(made.take i).count s=K.hold s+if kept=true∧s=x∧2≤x then 1 else 0)∧(x<2→kept=true)∧(kept=true→x<2∨(ok=true∧x∈made.take i))∧(ok=true→x∈made.take i→kept=true),fun vs _=>made.length-br vs 1,
  JE.mk ⟨0,K,C,tr,_,rfl,Nat.zero_le _,rfl,hK,.inr rfl,rfl,rfl,fun _ _ h=>h,fun s=>?_,fun h=>decide_eq_true (by omega),fun h=>.inl (by have:=of_decide_eq_true h;omega),fun _ h=>by simp at h⟩,?_⟩
 ·rw[List.take_zero,List.count_nil,if_neg (fun h=>by have:=of_decide_eq_true h.1;omega)]
 rintro w13 ZQ H ⟨i,Ki,Ci,Rb,kept,⟨⟩,hi,rfl,VQ,RS,hn,hcap,hN,hh,vJ,sZ,pU⟩ gs
 refine aa.dH (Br.dec (fun hlt=>?_) (fun hlt=>?_))
 ·intro J hJ
  have jE:made.take (i+1)=made.take i++[made[i]]:=List.take_succ_eq_append_getElem hlt
  have Yz:made[i]∈made:=List.getElem_mem hlt
  have kX:(made.take i).count made[i]+1≤made.count made[i]:=by
   have h1:=(List.take_sublist (i+1) made).count_le made[i]
   rw[jE,List.count_append,List.count_singleton_self]at h1;exact h1
  refine hM.ld (x:=((made[i]:Nat):Int)) (bV (List.getElem?_eq_getElem hlt)) (fun _ h=>.tail _ (List.mem_append_right _ (List.mem_append_left _ h))) ?_
  generalize hf:made[i]=f at*
  refine aa.cE ?_
  refine df.and (!kept) (fun _=>Un.not ⟨rfl,rfl⟩) (by simp) fun gs=>?_
  refine df.and ok (fun _=>aa.gA ⟨rfl,by cases ok<;>rfl⟩) (by simp) fun gs=>?_
  refine Br.mk (fun hb=>?_) (fun hb=>?_)
  ·simp only[Bool.and_eq_true,decide_eq_true_eq,Bool.not_eq_true']at hb
   obtain⟨⟨rfl,hkf⟩,hok⟩:=hb
   refine JE.mk (hJ _ _ fun gs=>?_)
   refine aa.inc ?_
   refine aB.mk ⟨i+1,Ki,Ci,Rb,true,rfl,hlt,rfl,VQ,RS,hn,hcap,hN,fun s=>?_,fun _=>rfl,fun _=>.inr ⟨hok,by rw[jE];simp⟩,fun _ _=>rfl⟩ (by simp only[br];omega)
   have h0:=hh s
   rw[jE,List.count_append,List.count_singleton]
   rw[if_neg (fun h=>by rw[hkf]at h;cases h.1)]at h0
   by_cases e:s=f
   ·subst e
    have:=h2 s Yz
    simp[this];omega
   ·have:(f==s)=false:=by simpa using fun e'=>e e'.symm
    simp[e,this];omega
  ·refine Ld.n ?_
   have hhf:Ki.hold f≠0:=by
    have h0:=hh f
    have:=hc f
    split at h0<;>omega
   refine ae.fq (args:=#[ptr kp,u32 f]) (nh VQ (r:=f) (Pa f Yz) (fun _=>hhf)) ?_
   rintro w C2 ⟨rfl,K2,dB,f2⟩
   refine JE.mk (hJ _ _ fun gs=>?_)
   refine aa.inc ?_
   refine aB.mk ⟨i+1,K2,C2,[],kept,rfl,hlt,rfl,dB,.inl rfl,f2.n.trans hn,f2.cap.trans hcap,fun s d hd=>hN s d (f2.N s d hd),fun s=>?_,vJ,fun h=>(sZ h).imp id (fun h=>⟨h.1,by rw[jE];exact List.mem_append_left _ h.2⟩),fun h1 h3=>?_⟩ (by simp only[br];omega)
   ·have h0:=hh s
    rw[f2.hold,jE,List.count_append,List.count_singleton]
    by_cases e:s=f
    ·subst e
     have:=h2 s Yz
     simp[this];omega
    ·have:(f==s)=false:=by simpa using fun e'=>e e'.symm
     simp[e,this];omega
   ·rw[jE,List.mem_append,List.mem_singleton]at h3
    rcases h3 with h3|h3
    ·exact pU h1 h3
    ·subst h3
     cases hkk:kept
     ·rw[hkk,h1]at hb;simp at hb
     ·rfl
 ·obtain rfl:i=made.length:=by omega
  rw[List.take_length]at hh sZ pU
  refine Nil.ptr (ag.mk (St.one (by exact .head _) rfl (by simp) rfl ?_))
  intro J hJ
  refine aa.cG ?_
  cases ok with
  |false=>
   refine Br.T ?_
   have hE:Gy K Ki made x false:=⟨hn,hcap,hN,fun s=>by
    have h0:=hh s
    rw[if_neg (fun h=>by cases h.1)]
    rw[if_neg (fun h=>by
     rcases sZ h.1 with h3|h3
     ·omega
     ·cases h3.1)]at h0
    exact h0⟩
   refine aS.here ⟨Ki,Ci,Rb,?_,rfl,VQ,RS.imp id fun h=>⟨h,fun h=>by cases h⟩,hE⟩
   rfl
  |true=>
   have zw:kept=true:=by
    rcases hx rfl with h|h
    ·exact vJ h
    ·exact pU rfl h
   refine Br.F ?_
   rw[zw]
   refine Un.not (Br.no ?_)
   have hE:∀K3:Kd,K3.n=Ki.n→K3.cap=Ki.cap→K3.N=Ki.N→(∀s,K3.hold s=Ki.hold s)→Gy K K3 made x true:=fun K3 a1 a2 a3 a4=>⟨a1.trans hn,a2.trans hcap,by rw[a3];exact hN,fun s=>by rw[a4,hh s,zw]⟩
   refine aa.cE (b:=0) ?_
   refine df.or (decide (x=1)) (fun _=>aa.cE (b:=1) ⟨rfl,rfl⟩) (by simp) fun gs=>?_
   rw[←Bool.decide_or]
   refine Br.dec (fun HL=>?_) (fun HL=>?_)
   ·refine Ld.n ?_
    refine ae.fq (pw VQ (r:=x) (.inl (by omega)) (fun h=>by omega)) ?_
    rintro w C3 ⟨rfl,K3,nA,mo⟩
    refine JE.mk (hJ _ fun gs=>aS.here ⟨K3,C3,[],by simp,rfl,nA,.inl rfl,hE K3 mo.n mo.cap mo.N fun s=>?_⟩)
    rw[mo.hold,if_neg (by omega)]
   ·refine JE.mk (hJ _ fun gs=>aS.here ⟨Ki,Ci,Rb,by simp,rfl,VQ,RS.imp id fun h=>⟨h,fun _ hm=>?_⟩,hE Ki rfl rfl rfl fun _=>rfl⟩)
    rcases hx rfl with h|h
    ·omega
    ·rw[hm]at h;cases h
end
theorem Ue{α:Type}(a b c d e f g h:α)(L R:List α):(a::b::c::d::e::f::g::h::(L++R)).Perm (g::d::e::b::h::f::a::(L++c::R)):=by
 classical
 rw[List.perm_iff_count];intro x
 simp only[List.count_append,List.count_cons]
 omega
def oH(kp:Nat)(K:Kd)(S:Nat→aC.Fn)(ord ah tr:List Nat)(f:aC.Fn)(w:Value)(H:Hp):Prop:=
 (∃x K' S',w=.tuple #[u32 x,.int .i64 0]∧cw kp K' S' ord ah [] H∧kR K S K' S' f x)∨
 (w=.tuple #[u32 0,.int .i64 9]∧(∃K' S' kK,cw kp K' S' ord ah kK H∧(kK=[]∨kK=tr)∧Kept K S K' S')∧¬Fits (aP K.n ord (fun g=>K.held S g∨g=f)) K.cap)
section
variable {kp bw:Nat} {vl fv:Value} {K:Kd} {S:Nat→aC.Fn} {ord ah tr lvl:List Nat} {LB CL C:Hp} {t:Bool→Bool→Bool→Bool}
theorem Gm(hK:cw kp K S ord ah tr C)(AJ:xX fv LB t)(QR:aK 3 .i64 vl (iw lvl) CL)(k7:lvl.length=K.n)(hlv:∀v,v<K.n→lvl.getD v 0=lv ah v)(q:Q3)(hq:∀r∈l3 q,live K.N r){c:Nat}(hT:Tree K.n (lv ah) K.N (l3 q) c)(hB:∀s,K.hold s+c<65535)(hc:c≤1048576):
  Fc Tryz.prog 241 #[ptr bw,kq q,fv] (LB++(fE bw kp vl (.slice none 0 0)::(CL++C))) (oH kp K S ord ah tr (rQ t S (l3 q))):=by
 have hrb:bu Tryz.prog 264=true:=by kernel_rfl
 obtain⟨fl,Zq,aew,Ls,hfr⟩:=AJ.is
 refine aR fun g=>DA ?_
 intro b1 _ b3 _ b5 _ b7 _ b9 _ bm _ gR _
 refine St.one (by exact .head _) rfl (by simp) rfl ?_
 intro qy _
 refine St.one (by exact .head _) rfl (by simp) rfl ?_
 refine Ld.q ?_
 refine av.q ?_
 refine bI.of rfl hrb ?_
 refine ae.pre (H':=(b9,.cells #[.int .i64 0] 32 (0,0))::(b7,.cells #[.int .u32 0] 77 (0,0))::QT gR b1 b5 qy bm bw kp fv vl (.slice none 0 0) LB CL [] C #[] 0) ?_ ?_
 ·rw[Ls]
  exact(aM.perm (Ue _ _ _ _ _ _ _ _ _ _)).trans .tail
 have jG:=hK.od
 have jk:=hK.ok.wf
 have ic:=hK.ok.lv
 have nB:=hK.ok.mid.int
 have hS:ZD kp K S (aP K.n ord (fun g=>K.held S g∨g=rQ t S (l3 q))) ord ah tr t K S [] #[] 0 (.slice none 0 0) [] C:=
  ⟨⟨tr,hK,.inr ⟨rfl,rfl⟩⟩,.refl fun g hg=>bJ (fun g h=>.inl h) hg,aK.nil,[],aN.empty,fun y hy=>by cases hy⟩
 refine ae.fq (args:=#[kq q,ptr gR,ptr b1,ptr b5,ptr qy]) (SM hrb AJ QR k7 hlv hK.aY.oK jk nB ic (fun r hr=>by have:=hK.bR hr;omega) (Re:=tr) (l3 q) c hT q rfl K S [] #[] 0 (.slice none 0 0) [] C hS hq (fun g hg=>bJ (fun g h=>.inr h) hg) hB (by simpa using hc)) ?_
 rintro w H ⟨K1,S1,made,es,ck,vm,CM,C1,rfl,AI,hA,LI⟩
 obtain⟨Rc,fe,RT⟩:=AI.ks
 have m4:=AI.cP
 have hmx:made.length≤1048576:=by have:=(hA.count 0).2;simp at this;omega
 have Yh:∀s∈made,s<4294967296:=fun s hs=>by have:=fe.bR (m4.fZ fe hs);omega
 have hmc:∀s,made.count s≤K1.hold s:=fun s=>by rw[m4.hold];omega
 have fin:∀(x:Nat) (ok:Bool),w=.tuple #[u32 (if ok then x else 0),.int .i64 (if ok then 0 else 9)]→(ok=true→x<2∨x∈made)→(∀K2 C2 MW,cw kp K2 S1 ord ah MW C2→(MW=[]∨(MW=Rc∧(ok=true→made≠[])))→Gy K1 K2 made (if ok then x else 0) ok→oH kp K S ord ah tr (rQ t S (l3 q)) w C2)→(ok=false→x=0)→
   Ext 0 w fun v23=>Ext 1 w fun v24=>St 1 ((b9,.cells #[.int .i64 0] 32 (0,0))::(b7,.cells #[.int .u32 0] 77 (0,0))::QT gR b1 b5 qy bm bw kp fv vl vm LB CL CM C1 es ck) (ptr b7) v23 fun H25=>St 1 H25 (ptr b9) v24 fun H26=>
   jU Tryz.prog g 262 #[ptr b1,ptr b7,ptr b9] H26 fun ZI=>Ld ZI (ptr b7) fun v28=>Ld ZI (ptr b9) fun v29=>aS (oH kp K S ord ah tr (rQ t S (l3 q))) (.returned (.tuple #[v28,v29])) ZI:=by
  intro x ok hw hx hd h0
  subst hw
  refine Ext.two ?_
  refine St.one (by exact .tail (.head _)) rfl (by simp) rfl ?_
  refine St.one (by exact .head _) rfl (by simp) rfl ?_
  refine Ap (R:=_) ?_
  unfold L262
  refine Ld.q ?_
  refine Ld.q ?_
  refine Ld.q ?_
  refine ae.fq (PK (X:=CL) (x:=if ok then x else 0) (ok:=ok) fe AI.XE hmc m4.two Yh (fun h=>by rw[if_pos h];exact hx h) (by omega)) ?_
  rintro w H ⟨K2,C2,MW,rfl,rfl,dB,zh,hE⟩
  refine Ext.two ?_
  have e1:(if ok=true then(if ok=true then x else 0)else 0)=if ok=true then x else 0:=by cases ok<;>rfl
  rw[e1]
  refine St.one (by exact .tail (.head _)) rfl (by simp) rfl ?_
  refine St.one (by exact .head _) rfl (by simp) rfl ?_
  refine⟨⟨_,rfl⟩,?_⟩
  refine Ld.q ?_
  refine Ld.q ?_
  exact aS.mk (.skip (.skip (.skip (.skip (.skip (.skip (aM.right.trans (.skip (.skip (aM.right.trans .right)))))))))) (hd K2 C2 MW dB zh hE)
 have FW:∀s,K.hold s≠0→live K.N s:=fun s hs=>.inr (hK.ok.mid.held s hs)
 rcases LI with⟨x,rfl,hx,Uy⟩|⟨rfl,hno⟩
 ·refine fin x true rfl (fun _=>Uy) (fun K2 C2 MW dB zh hE=>.inl ⟨x,K2,S1,rfl,?_,?_⟩) (fun h=>by cases h)
  ·have:MW=[]:=by
    rcases zh with h|⟨h,h'⟩
    ·exact h
    ·rcases RT with h2|⟨_,h2⟩
     ·rw[h,h2]
     ·exact absurd h2 (h' rfl)
   rw[this]at dB;exact dB
  ·have iT:∀s,K2.hold s=K.hold s+if s=x∧2≤x then 1 else 0:=fun s=>by
    have a:=hE.hold s
    have b:=m4.hold s
    simp only[if_true,true_and]at a
    omega
   have hl:live K2.N x:=by
    by_cases h2:x<2
    ·exact .inl h2
    ·refine .inr (dB.ok.mid.held x ?_)
     rw[iT,if_pos ⟨rfl,by omega⟩];omega
   exact⟨hE.n.trans m4.n,hE.cap.trans m4.cap,fun s d hs=>iA hK.ok dB.ok (fun s h=>by rw[iT];omega) (fun s d d' h h'=>by
    have a:=hE.N s d' h'
    rw[m4.N s d h]at a;exact(Option.some.inj a).symm) _ s d hs (Nat.le_refl _),fun s hs=>m4.fn s hs,hl,hx,iT⟩
 ·refine fin 0 false rfl (fun h=>by cases h) (fun K2 C2 MW dB zh hE=>.inr ⟨rfl,⟨K2,S1,MW,dB,?_,?_⟩,hno⟩) (fun _=>rfl)
  ·rcases zh with h|⟨h,_⟩
   ·exact .inl h
   ·rcases RT with h2|⟨h2,_⟩
    ·exact .inl (h.trans h2)
    ·exact .inr (h.trans h2)
  ·have iT:∀s,K2.hold s=K.hold s:=fun s=>by
    have a:=hE.hold s
    have b:=m4.hold s
    rw[if_neg (fun h=>by cases h.1)]at a
    omega
   refine⟨hE.n.trans m4.n,hE.cap.trans m4.cap,iT,fun g=>?_,fun r hr=>m4.fn r (FW r hr)⟩
   constructor
   ·rintro⟨s,hs,rfl⟩
    have hs':K.hold s≠0:=by rw[←iT];exact hs
    exact⟨s,hs',m4.fn s (FW s hs')⟩
   ·rintro⟨s,hs,rfl⟩
    exact⟨s,by show K2.hold s≠0;rw[iT];exact hs,(m4.fn s (FW s hs)).symm⟩
end
end Go.Proofs
namespace Go.Sx
open Go
section
variable {P:Program} {g:Gh}
theorem Build.three{t e:TypeId}{q:IntKind}{x y z:Int}{K:Value→Prop}(ht:P.underlying t=some (.array 3 e))(hz:cU P e=some 1)(h0:dR P t=some (.agg (ax q [0,0,0])))(h:K (.agg (ax q [x,y,z]))):
  Build P t [(0,.int q x),(1,.int q y),(2,.int q z)] K:=by
 refine⟨_,fun w=>?_,h⟩
 obtain⟨i,hi,hs⟩:=bg hz
 obtain⟨i0,BH,M6⟩:=cc h0
 simp only[Instr.build,Sem.run_bind,dj BH M6,Result.andThen_ok,run_underlying ht,run_sizeOf hi,hs]
 simp[Instr.fill,Value.cells,ax]
theorem Build.T1{t e:TypeId}{q:IntKind}{x y:Int}{K:Value→Prop}(ht:P.underlying t=some (.array 3 e))(hz:cU P e=some 1)(h0:dR P t=some (.agg (ax q [0,0,0])))(h:K (.agg (ax q [x,y,0]))):
  Build P t [(0,.int q x),(1,.int q y)] K:=by
 refine⟨_,fun w=>?_,h⟩
 obtain⟨i,hi,hs⟩:=bg hz
 obtain⟨i0,BH,M6⟩:=cc h0
 simp only[Instr.build,Sem.run_bind,dj BH M6,Result.andThen_ok,run_underlying ht,run_sizeOf hi,hs]
 simp[Instr.fill,Value.cells,ax]
end
end Go.Sx
set_option maxRecDepth 100000
namespace Go.Proofs
open Go Go.Sx
open aC
theorem Gr(x:Bool)(B:Hp):Rd Tryz.prog 243 #[.bool x] B (· =.int .u8 ((x.toNat:Nat):Int)):=by
 refine aR fun g=>Dy ?_
 cases x
 ·exact Br.no (bN.mk (.refl _) rfl)
 ·exact Br.yes (bN.mk (.refl _) rfl)
def Hi(op:Nat)(a b:Bool):Bool:=op.testBit (2*a.toNat+b.toNat)
abbrev Hh(b op:Nat):Hp:=[(b,.cells #[.int .u8 (op:Int)] 5 (0,0))]
theorem Ca{b op:Nat}(hop:op<16):xX (.func (.func 242) #[] #[ptr b]) (Hh b op) (fun x y _=>Hi op x y):=by
 refine⟨_,_,_,rfl,by kernel_rfl,fun x y z=>?_⟩
 refine aR fun g=>Dz ?_
 refine DR.of (R:=Hh b op) (.refl _) ?_
 refine Ld.q ?_
 refine ae.eq (Gr x _) ?_
 refine⟨.refl _,?_⟩
 have hx:x.toNat≤1:=by cases x<;>decide
 have hy:y.toNat≤1:=by cases y<;>decide
 refine aa.jx (a:=2) ?_
 refine ae.eq (Gr y _) ?_
 refine⟨.refl _,?_⟩
 refine aa.dx ?_
 refine aa.j7 (by simp[bA];omega) ?_
 refine aa.iL (b:=1) (by simp[bA];exact Nat.lt_of_le_of_lt (Nat.shiftRight_le _ _) (by omega)) (by simp[bA]) ?_
 refine aa.cE (b:=1) ?_
 refine bN.mk (.refl _) ?_
 congr 1
 unfold Hi
 rw[Nat.and_one_is_mod]
 rw[Nat.testBit_eq_decide_div_mod_eq,Nat.shiftRight_eq_div_pow]
theorem Bv:xX (.func (.func 244) #[] #[]) [] (fun x y z=>if x then y else z):=by
 refine⟨_,_,_,rfl,by kernel_rfl,fun x y z=>?_⟩
 refine aR fun g=>Dx ?_
 cases x
 ·refine df.mk false (fun h=>by simp at h) (fun _=>rfl) fun gs=>?_
  refine df.mk (by exact z) (fun _=>Un.not (df.and z (fun _=>⟨rfl,rfl⟩) (by simp) fun gs=>⟨rfl,by simp⟩)) (fun h=>by simp at h) fun gs=>?_
  exact bN.mk (.refl _) rfl
 ·refine df.and y (fun _=>⟨rfl,rfl⟩) (by simp) fun gs=>?_
  refine df.or false (fun _=>Un.not (df.and z (fun _=>⟨rfl,rfl⟩) (by simp) fun gs=>⟨rfl,by simp⟩)) (by simp) fun gs=>?_
  refine bN.mk (.refl _) ?_
  cases y<;>rfl
section
variable {kp:Nat} {K:Kd} {S:Nat→aC.Fn} {ord ah tr:List Nat} {C:Hp}
theorem Ug{α:Type}(w a b:α)(L R:List α):(w::(L++(a::b::R))).Perm (a::([b]++w::(L++R))):=by
 classical
 rw[List.perm_iff_count];intro x
 simp only[List.count_append,List.count_cons,List.count_nil]
 omega
theorem Ag(hK:cw kp K S ord ah tr C){q:List Nat}(hq:∀r∈q,live K.N r)(hB:∀s,K.hold s+2^K.n≤65535):∃c,Tree K.n (lv ah) K.N q c∧(∀s,K.hold s+c<65535)∧c≤1048576:=by
 obtain⟨c,h1,h2⟩:=NC (S:=S) hK.ok.wf hK.ok.lv hK.ok.mid.int K.n 0 q (by omega) (by omega) hq (fun r _=>Nat.zero_le _)
 rw[Nat.sub_zero]at h2
 have h0:=hB 0
 exact⟨c,h1,fun s=>by have:=hB s;omega,by omega⟩
theorem tK(hK:cw kp K S ord ah tr C){op a b:Nat}(hop:op<16)(ha:live K.N a)(hb:live K.N b)(hB:∀s,K.hold s+2^K.n≤65535):
  Fc Tryz.prog 197 #[ptr kp,.int .u8 (op:Int),u32 a,u32 b] C (oH kp K S ord ah tr (fun x=>Hi op (S a x) (S b x))):=by
 refine aR fun g=>Eb ?_
 intro b1 _
 refine aa.aD (Br.no ?_)
 refine Ld.q ?_
 refine aa.iU (b:=15) (Br.F ?_)
 refine aq.KN (e:=77) (x:=(a:Int)) (y:=(b:Int)) (by kernel_rfl) (by kernel_rfl) (by kernel_rfl) fun bs=>?_
 have hq:∀r∈l3 (a,b,0),live K.N r:=fun r hr=>by
  simp only[l3,List.mem_cons,List.not_mem_nil,or_false]at hr
  rcases hr with rfl|rfl|rfl
  ·exact ha
  ·exact hb
  ·exact .inl (by omega)
 have hI:cS .u32 ((bs,Obj.cells (ax .u32 [(a:Int),(b:Int)]) 77 (0,0))::Hh b1 op) (.slice (some ⟨bs,0,none⟩) 2 2) (iw [a,b]):=(aK.made (T:=77) (kd:=.u32) (b:=bs) (iw [a,b])).ints.mono fun _ h=>List.mem_append_left (Hh b1 op) h
 refine ae.fq (args:=#[ptr kp,.slice (some ⟨bs,0,none⟩) 2 2]) (C:=((bs,Obj.cells (ax .u32 [(a:Int),(b:Int)]) 77 (0,0))::Hh b1 op)++C) (wu hK hI (fun r hr=>?_) (by show 2≤1048576;omega)) ?_
 ·simp only[List.mem_cons,List.not_mem_nil,or_false]at hr
  rcases hr with rfl|rfl
  ·exact ha
  ·exact hb
 rintro w H ⟨bw,vl,CL,lvl,rfl,rfl,QR,k7,hlv⟩
 refine Ext.mk rfl (Ext.mk rfl (aa.cG (Br.F ?_)))
 refine Build.T1 (e:=77) (q:=.u32) (x:=(a:Int)) (y:=(b:Int)) (by kernel_rfl) (by kernel_rfl) (by kernel_rfl) ?_
 obtain⟨c,hT,TM,hc⟩:=Ag hK hq hB
 refine ae.pre (H':=(bs,Obj.cells (ax .u32 [(a:Int),(b:Int)]) 77 (0,0))::(Hh b1 op++fE bw kp vl (.slice none 0 0)::(CL++C))) (.perm (Ug _ _ _ _ _)) ?_
 refine ae.fq (args:=#[ptr bw,kq (a,b,0),.func (.func 242) #[] #[ptr b1]]) (Gm (t:=fun x y _=>Hi op x y) hK (Ca hop) QR k7 hlv (a,b,0) hq hT TM hc) ?_
 intro w H hD
 have:∃x e,w=.tuple #[x,e]:=by
  rcases hD with⟨x,K',S',rfl,_⟩|⟨rfl,_⟩
  ·exact⟨_,_,rfl⟩
  ·exact⟨_,_,rfl⟩
 obtain⟨x,e,rfl⟩:=this
 exact Ext.mk rfl (Ext.mk rfl (aS.mk .tail hD))
theorem oH.two{f:aC.Fn}{w:Value}{H:Hp}(h:oH kp K S ord ah tr f w H):∃x e,w=.tuple #[x,e]:=by
 rcases h with⟨x,K',S',rfl,_⟩|⟨rfl,_⟩
 ·exact⟨_,_,rfl⟩
 ·exact⟨_,_,rfl⟩
theorem PG(hK:cw kp K S ord ah tr C){a:Nat}(ha:live K.N a)(hB:∀s,K.hold s+2^K.n≤65535):
  Fc Tryz.prog 196 #[ptr kp,u32 a] C (oH kp K S ord ah tr (fun x=> !S a x)):=by
 refine aR fun g=>Ec ?_
 refine ae.fq (args:=#[ptr kp,.int .u8 ((3:Nat):Int),u32 a,u32 0]) (tK hK (op:=3) (by decide) ha (.inl (by omega)) hB) ?_
 intro w H hD
 have e:(fun x=>Hi 3 (S a x) (S 0 x))=fun x=> !S a x:=by
  funext x
  rw[hK.ok.mid.int.zero]
  cases S a x<;>rfl
 rw[e]at hD
 obtain⟨x,e,rfl⟩:=hD.two
 exact Ext.mk rfl (Ext.mk rfl (aS.mk (.refl _) hD))
theorem Ud{α:Type}(w a:α)(L R:List α):(w::(L++(a::R))).Perm (a::([]++w::(L++R))):=by
 classical
 rw[List.perm_iff_count];intro x
 simp only[List.count_append,List.count_cons,List.count_nil]
 omega
theorem Gq(hK:cw kp K S ord ah tr C){a b c:Nat}(ha:live K.N a)(hb:live K.N b)(hc:live K.N c)(hB:∀s,K.hold s+2^K.n≤65535):
  Fc Tryz.prog 198 #[ptr kp,u32 a,u32 b,u32 c] C (oH kp K S ord ah tr (fun x=>if S a x then S b x else S c x)):=by
 refine aR fun g=>Ea ?_
 refine aq.Uv (e:=77) (x:=(a:Int)) (y:=(b:Int)) (z:=(c:Int)) (by kernel_rfl) (by kernel_rfl) (by kernel_rfl) fun bs=>?_
 have hq:∀r∈l3 (a,b,c),live K.N r:=fun r hr=>by
  simp only[l3,List.mem_cons,List.not_mem_nil,or_false]at hr
  rcases hr with rfl|rfl|rfl
  ·exact ha
  ·exact hb
  ·exact hc
 refine ae.fq (args:=#[ptr kp,.slice (some ⟨bs,0,none⟩) 3 3]) (C:=[(bs,Obj.cells (ax .u32 [(a:Int),(b:Int),(c:Int)]) 77 (0,0))]++C) (wu hK (refs:=l3 (a,b,c)) ((aK.made (T:=77) (kd:=.u32) (b:=bs) (iw (l3 (a,b,c)))).ints) hq (by show 3≤1048576;omega)) ?_
 rintro w H ⟨bw,vl,CL,lvl,rfl,rfl,QR,k7,hlv⟩
 refine Ext.mk rfl (Ext.mk rfl (aa.cG (Br.F ?_)))
 refine Build.three (e:=77) (q:=.u32) (x:=(a:Int)) (y:=(b:Int)) (z:=(c:Int)) (by kernel_rfl) (by kernel_rfl) (by kernel_rfl) ?_
 obtain⟨k,hT,TM,hk⟩:=Ag hK hq hB
 refine ae.pre (H':=(bs,Obj.cells (ax .u32 [(a:Int),(b:Int),(c:Int)]) 77 (0,0))::([]++fE bw kp vl (.slice none 0 0)::(CL++C))) (.perm (Ud _ _ _ _)) ?_
 refine ae.fq (args:=#[ptr bw,kq (a,b,c),.func (.func 244) #[] #[]]) (Gm (t:=fun x y z=>if x then y else z) hK Bv QR k7 hlv (a,b,c) hq hT TM hk) ?_
 intro w H hD
 obtain⟨x,e,rfl⟩:=hD.two
 exact Ext.mk rfl (Ext.mk rfl (aS.mk .tail hD))
theorem nQ.grow(hK:cw kp K S ord ah tr C){K':Kd}{S':Nat→aC.Fn}{f:aC.Fn}{r:Nat}{C':Hp}{kK:List Nat}(h:nQ K S K' S' f r)(fD:cw kp K' S' ord ah kK C')(hl:r<2∨2≤r):kR K S K' S' f r:=
 ⟨h.n,h.cap,h.N,h.fn,by
  by_cases h2:r<2
  ·exact .inl h2
  ·refine .inr (fD.ok.mid.held r ?_)
   rw[h.hold,if_pos ⟨rfl,by omega⟩];omega,h.is,fun s=>by rw[h.hold];split<;>omega⟩
theorem PC(hK:cw kp K S ord ah tr C){v:Nat}(hv:v<K.n)(hB:∀s,K.hold s<65535):
  Fc Tryz.prog 195 #[ptr kp,.int .i64 (v:Int)] C (oH kp K S ord ah tr (fun x=>x.testBit v)):=by
 refine aR fun g=>Ed ?_
 refine aa.aD (Br.no ?_)
 have hint:=hK.ok.mid.int
 have hL:=hK.ok.lv
 have jG:=hK.od
 have h0:live K.N 0:=.inl (by omega)
 have h1:live K.N 1:=.inl (by omega)
 have d0:dep K.n (lv ah) K.N 0=K.n:=aW (hK.ok.wf.const (by omega))
 have d1:dep K.n (lv ah) K.N 1=K.n:=aW (hK.ok.wf.const (by omega))
 have hl:=hL.lt v hv
 have eI:ite S ⟨v,0,1⟩=fun x=>x.testBit v:=by
  funext x
  unfold aC.ite
  simp only[hint.zero,hint.one]
  cases x.testBit v<;>rfl
 refine ae.fq (args:=#[ptr kp,.int .i64 (v:Int),u32 0,u32 1]) (xg hK hv h0 h1 (.inr ⟨by rw[d0];exact hl,by rw[d1];exact hl⟩)) ?_
 rintro w C' (⟨r,K',S',rfl,fD,mk⟩|⟨r,rfl,_,_,_,hfull,_⟩|⟨rfl,rfl,hcap,hne,hT⟩)
 ·rw[eI]at mk
  exact Ext.mk rfl (Ext.mk rfl (aS.mk (.refl _) (.inl ⟨r,K',S',rfl,fD,mk.grow hK fD (by omega)⟩)))
 ·have:=hB r;omega
 ·refine Ext.mk rfl (Ext.mk rfl (aS.mk (.refl _) (.inr ⟨rfl,⟨K,S,tr,hK,.inr rfl,.refl K S⟩,?_⟩)))
  rintro⟨ku,Lk,hfit⟩
  have HG:=jG.of hL hv
  have qo:∀j,j<lv ah v→¬dm (fun x:Nat=>x.testBit v) (ord.getD j 0):=by
   rintro j hj ⟨x,hx⟩
   apply hx
   have Nh:j<K.n:=by omega
   obtain⟨o1,o2⟩:=jG.aY j Nh
   show Nat.testBit _ v=Nat.testBit _ v
   rw[aj.ak,aj.ak,if_neg (fun h=>by rw[h]at hj;omega),if_neg (fun h=>by rw[h]at hj;omega)]
  have hh:dm (fun x:Nat=>x.testBit v) (ord.getD (lv ah v) 0):=by
   rw[HG]
   exact⟨0,by show Nat.testBit _ v≠Nat.testBit _ v;rw[aj.ak,aj.ak,if_pos rfl,if_pos rfl];decide⟩
  have:=hK.ok.roomFor jG Lk hfit (fun g hg=>bJ (fun g h=>.inl h) hg) (d:=⟨v,0,1⟩) h0 h1 (show(0:Nat)≠1 by omega) hv ⟨by rw[d0];exact hl,by rw[d1];exact hl⟩ (bJ (fun g h=>.inr h) (by rw[eI];exact mQ qo hl hh)) hT
  omega
end
end Go.Proofs
namespace Go.Sx
open Go
section
variable {κ β:Type} [DecidableEq κ] {ke:κ→Value} {vr:Value→β→Prop} {es:Array MapEntry} {ck:Nat} {m:List (κ×β)} {H:Hp} {b:Nat}
theorem aN.del{kd:TypeDesc}{k:κ}{K:Hp→Prop}(hk:∀a b,Instr.sameNow kd (ke a) (ke b)=some (decide (a=b)))(h:aN ke vr es ck m)(hm:(b,Obj.map es ck)∈H)
 (h1:∀es',aN ke vr es' ck (ov m k)→∃H',cD b (.map es ck) (.map es' ck) H H'∧K H'):oF kd H (.map (some b)) (ke k) K:=by
 refine .inr ?_
 rcases h.findNow hk k with⟨i,y,e,g1,g2,g3,g4⟩|⟨g1,g2⟩
 ·refine⟨b,es,ck,_,rfl,g4,?_⟩
  have:=h.less i
  rw[←sL h.nd g2]at this
  exact h1 _ this
 ·refine⟨b,es,ck,_,rfl,g2,hm,?_⟩
  have e:ov m k=m:=by
   unfold ov
   rw[List.filter_eq_self]
   intro w hw
   simp only[decide_not,Bool.not_eq_true',decide_eq_false_iff_not]
   intro e
   exact g1 (List.mem_map.2 ⟨w,hw,e⟩)
  obtain⟨H',hu,hK⟩:=h1 es (by rw[e];exact h)
  have:∀{H H':Hp},cD b (.map es ck) (.map es ck) H H'→H'=H:=by
   intro H H' hu
   generalize ho:Obj.map es ck=o at hu
   induction hu with
   |head R=>rfl
   |tail _ ih=>rw[ih]
  rw[this hu]at hK;exact hK
end
def kN(kd:IntKind)(r:Nat):Value:=.int kd (r:Int)
theorem gW{kd:IntKind}(a b:Nat):Instr.sameNow (.int kd) (kN kd a) (kN kd b)=some (decide (a=b)):=by
 simp only[kN,Instr.sameNow,if_true,Option.some.injEq]
 by_cases e:a=b
 ·subst e;simp
 ·have:¬(a:Int)=(b:Int):=by omega
  simp[e,this]
theorem FU{kd:IntKind}(a:Nat):Instr.sameBits 10000 (kN kd a) (kN kd a)=true:=by
 simp[kN,Instr.sameBits]
end Go.Sx
namespace aC
open aj
def QF(t:Bool→Bool→Bool)(v:Nat)(f:Fn):Fn:=fun x=>t (f (aA x v false)) (f (aA x v true))
section
variable {t:Bool→Bool→Bool} {v u:Nat} {f:Fn}
theorem GW{x v:Nat}{b c:Bool}:aA (aA x v b) v c=aA x v c:=by
 apply Nat.eq_of_testBit_eq;intro k
 rw[ak,ak,ak]
 split<;>rfl
theorem MO(h:u≠v)(b:Bool):QF t v (fun x=>f (aA x u b))=fun x=>QF t v f (aA x u b):=by
 funext x
 unfold QF
 simp only[cX h]
theorem MN(h:¬dm f u):¬dm (QF t v f) u:=by
 rintro⟨x,hx⟩
 by_cases e:u=v
 ·subst e
  apply hx
  unfold QF
  simp only[GW]
 ·apply hx
  unfold QF
  simp only[cX e]
  have key:∀y,f (aA y u false)=f (aA y u true):=fun y=>Classical.byContradiction fun hn=>h ⟨y,hn⟩
  rw[key,key]
theorem PR(ht:∀a,t a a=a)(h:¬dm f v):QF t v f=f:=by
 funext x
 unfold QF
 have key:∀b,f (aA x v b)=f x:=fun b=>cq h x b
 rw[key,key,ht]
end
def XJ(e:Bool):Bool→Bool→Bool→Bool:=fun x y _=>if e then x||y else x&&y
def jf(e:Bool)(S:Nat→Fn)(a b:Nat):Fn:=rQ (XJ e) S [a,b,0]
theorem qk(e:Bool)(S:Nat→Fn)(a b x:Nat):jf e S a b x=if e then S a x||S b x else S a x&&S b x:=rfl
theorem xm(e:Bool)(S:Nat→Fn)(a b:Nat):jf e S a b=jf e S b a:=by
 funext x;rw[qk,qk];cases e<;>cases S a x<;>cases S b x<;>rfl
theorem Qg(e:Bool)(S:Nat→Fn)(a b:Nat):jf e S (min a b) (max a b)=jf e S a b:=by
 by_cases h:a≤b
 ·rw[Nat.min_eq_left h,Nat.max_eq_right h]
 ·rw[Nat.min_eq_right (by omega),Nat.max_eq_left (by omega),xm]
theorem Ox(e:Bool)(S:Nat→Fn)(a:Nat):jf e S a a=S a:=by
 funext x;rw[qk];cases e<;>cases S a x<;>rfl
section
variable {N:dQ} {S:Nat→Fn} {n:Nat} {ah:Nat→Nat}
theorem KJ(hi:Interp N S)(e:Bool)(a:Nat):jf e S e.toNat a=S e.toNat:=by
 funext x;rw[qk];cases e
 ·show(S 0 x&&S a x)=S 0 x;rw[hi.zero];rfl
 ·show(S 1 x||S a x)=S 1 x;rw[hi.one];rfl
theorem KI(hi:Interp N S)(e:Bool)(a:Nat):jf e S (!e).toNat a=S a:=by
 funext x;rw[qk];cases e
 ·show(S 1 x&&S a x)=S a x;rw[hi.one];cases S a x<;>rfl
 ·show(S 0 x||S a x)=S a x;rw[hi.zero];cases S a x<;>rfl
theorem rT(h:WF n ah N)(hl:jR n ah){r v:Nat}(hd:ah v<dep n ah N r)(b:Bool):dw N v b r=r:=by
 unfold dw
 cases e:N r with
 |none=>rfl
 |some d=>
  rw[az e]at hd
  simp only
  rw[if_neg (fun e2=>by rw[e2]at hd;omega)]
theorem rU{r:Nat}{d:Nd}(e:N r=some d):dw N d.v false r=d.lo∧dw N d.v true r=d.hi:=by
 unfold dw
 rw[e]
 simp
theorem tu{N':dQ}(hN:∀s d,N s=some d→N' s=some d)(hc:∀r,r<2→N' r=none)(h0:∀r,r<2→N r=none){r:Nat}(hr:live N r):dep n ah N' r=dep n ah N r:=by
 rcases hr with hr|⟨d,hd⟩
 ·rw[aW (hc r hr),aW (h0 r hr)]
 ·rw[az hd,az (hN r d hd)]
theorem z6(v:Nat)(bb:Bool)(a b:Nat)(h0:N 0=none):gB N v bb [a,b,0]=[dw N v bb a,dw N v bb b,0]:=by
 have:dw N v bb 0=0:=by unfold dw;rw[h0]
 simp[gB,this]
theorem Xp(h:WF n ah N)(hl:jR n ah){a b:Nat}(h0:N 0=none)(hlt:min (dep n ah N a) (dep n ah N b)<n):
  ∃v,rE n ah N [a,b,0] v∧ah v=min (dep n ah N a) (dep n ah N b):=by
 have hd0:dep n ah N 0=n:=aW h0
 have node:∀r,dep n ah N r<n→∃d,N r=some d:=fun r hr=>by
  cases e:N r with
  |none=>rw[aW e]at hr;omega
  |some d=>exact⟨d,rfl⟩
 by_cases hab:dep n ah N b<dep n ah N a
 ·obtain⟨d,hd⟩:=node b (by omega)
  have e:=az (n:=n) (ah:=ah) hd
  refine⟨d.v,⟨h.var hd,⟨b,by simp,d,hd,rfl⟩,fun r hr=>?_⟩,by omega⟩
  simp only[List.mem_cons,List.not_mem_nil,or_false]at hr
  rcases hr with rfl|rfl|rfl<;>omega
 ·obtain⟨d,hd⟩:=node a (by omega)
  have e:=az (n:=n) (ah:=ah) hd
  refine⟨d.v,⟨h.var hd,⟨a,by simp,d,hd,rfl⟩,fun r hr=>?_⟩,by omega⟩
  simp only[List.mem_cons,List.not_mem_nil,or_false]at hr
  rcases hr with rfl|rfl|rfl<;>omega
end
end aC
set_option maxRecDepth 100000
namespace Go.Proofs
open Go Go.Sx
open aC
section
variable {kp:Nat} {K:Kd} {ord ah tr:List Nat} {C:Hp} {S:Nat→aC.Fn}
theorem qi(h:cr kp K ord ah tr C):Rd Tryz.prog 65 #[ptr kp] C (· =.int .i64 ((K.cap:Nat):Int)):=by
 obtain⟨b,rfl,hO⟩:=h
 refine aR fun g=>IA ?_
 refine aa.aD (Br.no (Nil.ptr (ag.mk ?_)))
 refine Ld.f ?_
 refine ae.eq (tD hO.ar) ?_
 exact bN.mk (.refl _) rfl
theorem m0(h:cr kp K ord ah tr C)(v:Int):Rd Tryz.prog 46 #[ptr kp,.int .i64 v] C (· =if 0≤v∧v<K.n then .tuple #[.int .i64 ((ah.getD v.toNat 0:Nat):Int),.int .i64 0]else .tuple #[.int .i64 0,.int .i64 2]):=by
 have h0:=h
 obtain⟨b,rfl,hO⟩:=h
 refine aR fun g=>wB ?_
 refine aa.aD (Br.no ?_)
 refine ae.eq (rL h0 v) ?_
 refine Un.not ?_
 by_cases BA:0≤v∧v<K.n
 ·rw[decide_eq_true BA,if_pos BA]
  refine Br.no (Nil.ptr ?_)
  refine Ld.f ?_
  have hlen:=hO.ol.2
  obtain⟨n,rfl⟩:∃n:Nat,v=n:=⟨v.toNat,by omega⟩
  refine hO.lv.ld (x:=((ah.getD n 0:Nat):Int)) (aX (by omega)) (aZ.sub (.cons (.app (.app (.app (.app (.app .left))))))) ?_
  exact bN.mk (.refl _) rfl
 ·rw[decide_eq_false BA,if_neg BA]
  exact Br.yes (bN.mk (.refl _) rfl)
end
end Go.Proofs
set_option maxRecDepth 100000
namespace Go.Proofs
open Go Go.Sx
open aC
def FE(bq kp bm:Nat)(ok:Bool):Nat×Obj:=(bq,.cells #[ptr kp,.map (some bm),.int .i64 (if ok then 0 else 9)] 350 (0,0))
abbrev rJ(bq kp bm:Nat)(ok:Bool)(es:Array MapEntry)(ck:Nat)(C:Hp):Hp:=FE bq kp bm ok::(bm,.map es ck)::C
abbrev Xk(v:Value)(_:Unit):Prop:=v=.int .i64 1
abbrev x8(made:List Nat):List (Nat×Unit):=made.map fun r=>(r,())
theorem o7(made:List Nat):(x8 made).map Prod.fst=made:=by
 induction made with
 |nil=>rfl
 |cons a l ih=>simp only[x8,List.map_cons,List.cons.injEq,true_and]at ih⊢;exact ih
structure uP(kp:Nat)(K0:Kd)(S0:Nat→aC.Fn)(U:aC.Fn→Prop)(ord ah:List Nat)(K:Kd)(S:Nat→aC.Fn)(made:List Nat)(es:Array MapEntry)(ck:Nat)(C:Hp)(ok:Bool):Prop where
 ks:cw kp K S ord ah [] C
 cP:mF K0 S0 U ord K S made
 ie:aN (kN .u32) Xk es ck (x8 made)
 bad:ok=false→¬Fits U K0.cap
theorem uP.nd{kp:Nat}{K0:Kd}{S0:Nat→aC.Fn}{U:aC.Fn→Prop}{ord ah:List Nat}{K:Kd}{S:Nat→aC.Fn}{made:List Nat}{es:Array MapEntry}{ck:Nat}{C:Hp}{ok:Bool}(h:uP kp K0 S0 U ord ah K S made es ck C ok):made.Nodup:=by
 have:=h.ie.nd
 rwa [o7]at this
structure AQ(K:Kd)(S:Nat→aC.Fn)(made:List Nat)(K':Kd)(S':Nat→aC.Fn)(made':List Nat):Prop where
 N:∀s d,K.N s=some d→K'.N s=some d
 fn:∀s,live K.N s→S' s=S s
 mem:∀s∈made,s∈made'
theorem AQ.refl{K:Kd}{S:Nat→aC.Fn}{made:List Nat}:AQ K S made K S made:=⟨fun _ _ h=>h,fun _ _=>rfl,fun _ h=>h⟩
theorem AQ.trans{K K' K2:Kd}{S S' S2:Nat→aC.Fn}{made made' fL:List Nat}(h:AQ K S made K' S' made')(h':AQ K' S' made' K2 S2 fL):AQ K S made K2 S2 fL:=
 ⟨fun s d hd=>h'.N s d (h.N s d hd),fun s hs=>(h'.fn s (cI h.N hs)).trans (h.fn s hs),fun s hs=>h'.mem s (h.mem s hs)⟩
section
variable {kp bq bm:Nat} {K K0:Kd} {S S0:Nat→aC.Fn} {U:aC.Fn→Prop} {ord ah made:List Nat} {es:Array MapEntry} {ck:Nat} {C:Hp} {ok:Bool}
theorem G8{tr:List Nat}{r:Nat}(h:cw kp K S ord ah tr C)(hr:live K.N r):Rd Tryz.prog 287 #[ptr bq,.agg (got K.N r).toArray] (rJ bq kp bm ok es ck C) (· =.int .i64 ((dep K.n (lv ah) K.N r:Nat):Int)):=by
 have hlen:=(aH K.N r).1
 refine aR fun g=>CQ ?_
 intro b1 _
 cases hN:K.N r with
 |none=>
  have h2:r<2:=by rcases hr with h|⟨d,hd⟩;exact h;rw[hN]at hd;cases hd
  have eg:got K.N r=[.int .i64 (-1),u32 r,u32 r]:=dJ h2
  rw[eg]
  refine Ld.f ?_
  refine aa.lss (Br.T ?_)
  refine Ld.n ?_
  refine ae.eq (gy h.rep) ?_
  rw[aW hN]
  exact bN.mk .tail rfl
 |some d=>
  have h2:=h.ok.wf.two hN
  have hv:=h.ok.wf.var hN
  rw[c8 hN h2]
  refine Ld.f ?_
  refine aa.lss (Br.F ?_)
  refine DR.of (R:=(b1,Obj.cells (bt d).toArray 161 (0,0))::rJ bq kp bm ok es ck C) (.refl _) ?_
  refine Ld.n ?_
  refine Ld.f ?_
  refine ae.rq (m0 h.rep (d.v:Int)) ?_
  rw[if_pos (by omega)]
  rintro w rfl
  refine⟨.refl _,?_⟩
  refine Ext.two ?_
  rw[az hN]
  exact bN.mk .tail rfl
theorem A9{tr:List Nat}{r:Nat}(h:cw kp K S ord ah tr C)(hr:live K.N r):Rd Tryz.prog 279 #[ptr bq,u32 r] (rJ bq kp bm ok es ck C) (· =.tuple #[.agg (got K.N r).toArray,.int .i64 ((dep K.n (lv ah) K.N r:Nat):Int)]):=by
 refine aR fun g=>CZ ?_
 intro b1 _
 refine Ld.n ?_
 refine ae.rq (fM h.rep (by have:=h.bR hr;omega)) ?_
 rw[bM.2 hr]
 rintro w rfl
 refine Ext.two ?_
 intro b10 _
 refine St.whole (r:=got K.N r) (by exact .head _) rfl (aH _ _).1 (aH _ _).2 ?_
 refine DR.of (R:=[(b10,Obj.cells (got K.N r).toArray 161 (0,0))]) (aM.left (A:=[_])) ?_
 refine av.whole (r:=got K.N r) (by exact .head _) (aH _ _).1 ?_
 refine av.whole (r:=got K.N r) (by exact .head _) (aH _ _).1 ?_
 refine ae.eq (G8 h hr) ?_
 refine⟨aM.left (A:=[_]),?_⟩
 refine St.whole (r:=got K.N r) (by exact .tail (.head _)) rfl (aH _ _).1 (aH _ _).2 ?_
 refine⟨aM.left (A:=[_]),?_⟩
 refine av.whole (r:=got K.N r) (by exact .tail _ (.head _)) (aH _ _).1 ?_
 exact bN.mk (.skip .tail) rfl
theorem u5(v:Value)(a b:Value)(B:Hp):Rd Tryz.prog 280 #[ptr bq,v,a,b] (FE bq kp bm false::B) (· =u32 0):=by
 refine aR fun g=>tR ?_
 refine Ld.n ?_
 exact aa.cG (Br.T (bN.mk (.refl _) rfl))
theorem mF.T8(h:mF K0 S0 U ord K S made)(hK:cw kp K S ord ah [] C){K':Kd}{S':Nat→aC.Fn}{f:aC.Fn}{r:Nat}(m:nQ K S K' S' f r)(h2:2≤r)(hU:∀g,aP K0.n ord (fun g=>g=f) g→U g):mF K0 S0 U ord K' S' (made++[r]):=h.step hK m h2 hU
theorem mF.again(h:mF K0 S0 U ord K S made)(hK:cw kp K S ord ah [] C){K' K2:Kd}{S':Nat→aC.Fn}{f:aC.Fn}{r:Nat}{C2:Hp}(m:nQ K S K' S' f r)(hf:uh K' K2 r)(dB:cw kp K2 S' ord ah [] C2):mF K0 S0 U ord K2 S' made∧(∀s d,K.N s=some d→K2.N s=some d):=by
 have hold:∀s,K2.hold s=K.hold s:=fun s=>by
  rw[hf.hold,m.hold]
  by_cases e:s=r∧2≤r
  ·rw[if_pos e,if_pos e];omega
  ·rw[if_neg e,if_neg e]
 have hN:∀s d,K.N s=some d→K2.N s=some d:=fun s d hs=>iA hK.ok dB.ok (fun s h=>by rw[hold];exact h) (fun s d d' h1 h2=>by
  have a:=hf.N s d' h2
  rw[m.N s d h1]at a;exact(Option.some.inj a).symm) _ s d hs (Nat.le_refl _)
 refine⟨⟨hf.n.trans (m.n.trans h.n),hf.cap.trans (m.cap.trans h.cap),fun s d hd=>hN s d (h.N s d hd),fun s hs=>(m.fn s (h.live hs)).trans (h.fn s hs),fun s=>by rw[hold,h.hold],h.two,fun g hg=>h.U g (bJ (fun g=>?_) hg)⟩,hN⟩
 rintro⟨s,hs,rfl⟩
 have hs':K.hold s≠0:=by rw[←hold];exact hs
 exact⟨s,hs',m.fn s (.inr (hK.ok.mid.held s hs'))⟩
theorem Ku{made:List Nat}{r:Nat}(h:r∉made):fm (x8 made) r ()=x8 (made++[r]):=by
 unfold fm
 rw[if_neg (by rw[o7];exact h)]
 simp[x8]
theorem mY{made:List Nat}{r:Nat}:(r∈made→cR (x8 made) r=some ())∧(r∉made→cR (x8 made) r=none):=by
 refine⟨fun h=>?_,fun h=>fX.2 (by rw[o7];exact h)⟩
 cases e:cR (x8 made) r with
 |none=>have:=fX.1 e;rw[o7]at this;exact absurd h this
 |some u=>rfl
theorem yG(hq:uP kp K0 S0 U ord ah K S made es ck C true){v lo hi:Nat}(hv:v<K.n)(hlo:live K.N lo)(hhi:live K.N hi)(hlt:lv ah v<dep K.n (lv ah) K.N lo∧lv ah v<dep K.n (lv ah) K.N hi)
 (hU:∀g,aP K0.n ord (fun g=>g=ite S ⟨v,lo,hi⟩) g→U g)(gz:lo≠hi→U (ite S ⟨v,lo,hi⟩))(hf:∀s,K0.hold s+1<65535):
  Fc Tryz.prog 280 #[ptr bq,.int .i64 (v:Int),u32 lo,u32 hi] (rJ bq kp bm true es ck C) (fun w H=>∃r K' S' made' es' ca C' kU,w=u32 r∧H=rJ bq kp bm kU es' ca C'∧uP kp K0 S0 U ord ah K' S' made' es' ca C' kU∧AQ K S made K' S' made'∧
   (kU=true→S' r=ite S ⟨v,lo,hi⟩∧(r<2∨r∈made'))):=by
 have hK:=hq.ks
 have gE:=hq.nd
 have hh:∀s,K.hold s<65535:=fun s=>by
  rw[hq.cP.hold]
  have:made.count s≤1:=List.nodup_iff_count.1 gE s
  have:=hf s
  omega
 refine aR fun g=>tR ?_
 refine Ld.n ?_
 refine aa.cG (Br.F ?_)
 refine Ld.n ?_
 refine ae.fq (xg hK hv hlo hhi (.inr hlt)) ?_
 rintro w C' (⟨r,K',S',rfl,fD,mk⟩|⟨r,rfl,_,_,_,hfull,_⟩|⟨rfl,rfl,hcap,hne,hT⟩)
 ·refine Ext.two ?_
  intro J hJ
  refine aa.gA (Br.F ?_)
  refine aa.cG (Br.F ?_)
  refine aa.y4 (b:=1) ?_
  have RX:r<4294967296:=by have:=fD.bR mk.live;omega
  have hA:AQ K S made K' S' made:=⟨mk.N,mk.fn,fun _ h=>h⟩
  have drop:(r<2∨r∈made)→Nil (ptr bq) fun Xm=>ag 0 Xm fun v37=>Ld (FE bq kp bm true::(bm,Obj.map es ck)::C') v37 fun v38=>ae Tryz.prog g 131 #[v38,u32 r] (FE bq kp bm true::(bm,Obj.map es ck)::C') (fun v39 H40=>JE J [u32 r] H40) (rF (aS fun w H=>∃r K' S' made' es' ca C' kU,w=u32 r∧H=rJ bq kp bm kU es' ca C'∧uP kp K0 S0 U ord ah K' S' made' es' ca C' kU∧AQ K S made K' S' made'∧
   (kU=true→S' r=ite S ⟨v,lo,hi⟩∧(r<2∨r∈made')))):=fun hr=>by
   refine Ld.n ?_
   refine ae.fq (nh fD (r:=r) RX (fun h2=>by rw[mk.hold,if_pos ⟨rfl,h2⟩];omega)) ?_
   rintro w C2 ⟨rfl,K2,dB,f2⟩
   obtain⟨py,SH⟩:=hq.cP.again hK mk f2 dB
   refine JE.mk (hJ _ _ fun gs=>?_)
   exact aS.here ⟨r,K2,S',made,es,ck,C2,true,rfl,rfl,⟨dB,py,hq.ie,fun h=>by cases h⟩,⟨SH,mk.fn,fun _ h=>h⟩,fun _=>⟨mk.is,hr⟩⟩
  by_cases h2:r<2
  ·rw[decide_eq_true (by omega)]
   refine df.or (a:=true) true (fun h=>by cases h) (by simp) fun gs=>Br.yes ?_
   exact drop (.inl h2)
  ·rw[decide_eq_false (by omega)]
   refine df.or (a:=false) (decide (r∈made)) (fun _=>?_) (by simp) fun gs=>?_
   ·refine Ld.n ?_
    by_cases hm:r∈made
    ·refine aN.hit (k:=r) (x:=()) gW hq.ie (.tail _ (.head _)) (mY.1 hm) ?_
     rintro v rfl
     exact aa.gtr ⟨rfl,by rw[decide_eq_true hm];rfl⟩
    ·refine aN.bK (k:=r) gW hq.ie (.tail _ (.head _)) (mY.2 hm) ?_
     exact aa.gtr ⟨rfl,by rw[decide_eq_false hm];rfl⟩
   ·rw[Bool.false_or]
    refine Br.dec (fun hm=>drop (.inr hm)) (fun hm=>?_)
    refine Ld.n ?_
    refine aN.bS (k:=r) (x:=()) gW FU hq.ie rfl fun es' ca he=>⟨_,.tail (.head _),?_⟩
    rw[Ku hm]at he
    refine JE.mk (hJ _ _ fun gs=>?_)
    exact aS.here ⟨r,K',S',made++[r],es',ca,C',true,rfl,rfl,⟨fD,hq.cP.T8 hK mk (by omega) hU,he,fun h=>by cases h⟩,⟨mk.N,mk.fn,fun _ h=>List.mem_append_left _ h⟩,fun _=>⟨mk.is,.inr (by simp)⟩⟩
 ·have:=hh r;omega
 ·refine Ext.two ?_
  intro J hJ
  refine aa.gA (Br.F ?_)
  refine aa.cG (Br.T ?_)
  refine Nil.ptr (ag.mk (St.one (by exact .head _) rfl (by simp) rfl ?_))
  refine JE.mk (hJ _ _ fun gs=>?_)
  refine aS.here ⟨0,K,S,made,es,ck,C',false,rfl,rfl,⟨hK,hq.cP,hq.ie,fun _=>?_⟩,.refl,fun h=>by cases h⟩
  rintro⟨ku,Lk,hfit⟩
  have:=hK.ok.roomFor hK.od Lk (by rw[hq.cP.cap];exact hfit) (by rw[hq.cP.n];exact hq.cP.U) (d:=⟨v,lo,hi⟩) hlo hhi hne hv hlt (gz hne) hT
  omega
end
def pk(p:Nat×Nat):Value:=.agg #[u32 p.1,u32 p.2]
theorem Kg(a b:Nat×Nat):xY Tryz.prog 363 (pk a) (pk b) (decide (a=b)):=by
 refine xY.flat (fs:=#[⟨"f",77,0,false, "", "thicket/quant",0⟩,⟨"g",77,1,false, "", "thicket/quant",4⟩]) (by kernel_rfl) (by kernel_rfl) ?_ ?_
 ·intro f hf
  simp only[List.mem_cons,List.not_mem_nil,or_false]at hf
  rcases hf with rfl|rfl
  ·exact⟨by decide,_,_,rfl,rfl,.inl ⟨.u32,_,_,by kernel_rfl,rfl,rfl⟩⟩
  ·exact⟨by decide,_,_,rfl,rfl,.inl ⟨.u32,_,_,by kernel_rfl,rfl,rfl⟩⟩
 ·obtain⟨a1,a2⟩:=a
  obtain⟨b1,b2⟩:=b
  simp[u32]
  omega
theorem Bd(a:Nat×Nat):jW Tryz.prog 363 (pk a):=by
 refine jW.flat (fs:=#[⟨"f",77,0,false, "", "thicket/quant",0⟩,⟨"g",77,1,false, "", "thicket/quant",4⟩]) (by kernel_rfl) ?_
 intro f hf
 simp only[List.mem_cons,List.not_mem_nil,or_false]at hf
 rcases hf with rfl|rfl
 ·exact⟨by decide,_,rfl,.inl ⟨.u32,_,_,by kernel_rfl,rfl,rfl⟩⟩
 ·exact⟨by decide,_,rfl,.inl ⟨.u32,_,_,by kernel_rfl,rfl,rfl⟩⟩
theorem N6(a:Nat×Nat):Instr.sameBits 10000 (pk a) (pk a)=true:=iZ 9998 (by intro x hx;simp[u32]at hx;rcases hx with rfl|rfl<;>exact .inl ⟨_,_,rfl⟩)
def BZ(b3 b5 b1 qz qZ:Nat):Value:=.func (.func 288) #[] #[ptr b3,ptr b5,ptr b1,ptr qz,ptr qZ]
def TW(K0:Kd)(F:Nat×Nat→aC.Fn)(S:Nat→aC.Fn)(made:List Nat)(ok:Bool)(es:Array MapEntry)(ck:Nat):Prop:=
 ∃m:List ((Nat×Nat)×Nat),aN pk Ju es ck m∧(ok=true→∀y∈m,S y.2=F y.1∧(live K0.N y.2∨y.2∈made))
abbrev Qh(e:Bool)(b3 b5 b1 qz qZ bj bq kp bm:Nat)(ok:Bool)(uo:Array MapEntry)(ur:Nat)(es:Array MapEntry)(ck:Nat)(C:Hp):Hp:=
 (qZ,.cells #[BZ b3 b5 b1 qz qZ] 361 (0,0))::(qz,.cells #[.map (some bj)] 360 (0,0))::(bj,.map uo ur)::(b5,.cells #[u32 (!e).toNat] 77 (0,0))::(b3,.cells #[u32 e.toNat] 77 (0,0))::(b1,.cells #[ptr bq] 344 (0,0))::rJ bq kp bm ok es ck C
section
variable {kp bq bm b3 b5 b1 qz qZ bj:Nat} {K0:Kd} {S0:Nat→aC.Fn} {U:aC.Fn→Prop} {ord ah:List Nat} {e:Bool}
theorem uP.sM{K:Kd}{S:Nat→aC.Fn}{made:List Nat}{es:Array MapEntry}{ck:Nat}{C:Hp}{ok:Bool}(h:uP kp K0 S0 U ord ah K S made es ck C ok){r:Nat}(hr:live K0.N r∨r∈made):live K.N r:=by
 rcases hr with hr|hr
 ·exact h.cP.live hr
 ·exact h.cP.fZ h.ks hr
theorem TW.more{F:Nat×Nat→aC.Fn}{K K':Kd}{S S':Nat→aC.Fn}{made made':List Nat}{es uo:Array MapEntry}{ck ur:Nat}{C:Hp}{ok kU:Bool}(hq:uP kp K0 S0 U ord ah K S made es ck C ok)(h:TW K0 F S made ok uo ur)(ha:AQ K S made K' S' made')(hok:kU=true→ok=true):TW K0 F S' made' kU uo ur:=by
 obtain⟨m,h1,h2⟩:=h
 refine⟨m,h1,fun h y hy=>?_⟩
 obtain⟨a,b⟩:=h2 (hok h) y hy
 exact⟨by rw[ha.fn _ (hq.sM b),a],b.imp id (ha.mem _)⟩
def Ta(kp:Nat)(K0:Kd)(S0:Nat→aC.Fn)(U:aC.Fn→Prop)(ord ah:List Nat)(e:Bool)(b3 b5 b1 qz qZ bj bq bm:Nat)(K:Kd)(S:Nat→aC.Fn)(made:List Nat)(ok:Bool)(f:aC.Fn)(w:Value)(H:Hp):Prop:=
 ∃x K' S' made' es' ca C' kU RL RM,w=u32 x∧H=Qh e b3 b5 b1 qz qZ bj bq kp bm kU RL RM es' ca C'∧uP kp K0 S0 U ord ah K' S' made' es' ca C' kU∧TW K0 (fun p=>jf e S0 p.1 p.2) S' made' kU RL RM∧AQ K S made K' S' made'∧
  (kU=true→ok=true∧S' x=f∧(live K0.N x∨x∈made'))
theorem zG{N:dQ}{n:Nat}{cZ:Nat→Nat}(h:WF n cZ N)(hl:jR n cZ){r v:Nat}(hr:live N r)(hv:v<n)(hle:cZ v≤dep n cZ N r):
  ∃z p q,got N r=[.int .i64 z,u32 p,u32 q]∧(cZ v=dep n cZ N r→z=(v:Int)∧p=dw N v false r∧q=dw N v true r)∧(cZ v<dep n cZ N r→dw N v false r=r∧dw N v true r=r):=by
 have hlv:=hl.lt v hv
 cases e:N r with
 |none=>
  have h2:r<2:=by rcases hr with h|⟨d,hd⟩;exact h;rw[e]at hd;cases hd
  refine⟨_,_,_,dJ h2,fun h3=>?_,fun h3=>⟨rT h hl h3 _,rT h hl h3 _⟩⟩
  rw[aW e]at h3;omega
 |some d=>
  refine⟨_,_,_,c8 e (h.two e),fun h3=>?_,fun h3=>⟨rT h hl h3 _,rT h hl h3 _⟩⟩
  rw[az e]at h3
  have:v=d.v:=hl.inj _ _ hv (h.var e) h3
  subst this
  obtain⟨c1,c2⟩:=rU (N:=N) e
  exact⟨rfl,c1.symm,c2.symm⟩
set_option maxHeartbeats 2000000 in
theorem KH(gg:bu Tryz.prog 288=true)(jk:WF K0.n (lv ah) K0.N)(nB:Interp K0.N S0)(ic:jR K0.n (lv ah))(jG:aC.Ord K0.n (lv ah) ord)(hf:∀s,K0.hold s+1<65535):
  ∀(k a b:Nat),K0.n-min (dep K0.n (lv ah) K0.N a) (dep K0.n (lv ah) K0.N b)=k→∀(K:Kd) (S:Nat→aC.Fn) (made:List Nat) (es:Array MapEntry) (ck:Nat) (C:Hp) (ok:Bool) (uo:Array MapEntry) (ur:Nat),
  live K0.N a→live K0.N b→uP kp K0 S0 U ord ah K S made es ck C ok→TW K0 (fun p=>jf e S0 p.1 p.2) S made ok uo ur→(∀g,aP K0.n ord (fun g=>g=jf e S0 a b) g→U g)→
  Fc Tryz.prog 288 #[u32 a,u32 b,ptr b3,ptr b5,ptr b1,ptr qz,ptr qZ] (Qh e b3 b5 b1 qz qZ bj bq kp bm ok uo ur es ck C) (Ta kp K0 S0 U ord ah e b3 b5 b1 qz qZ bj bq bm K S made ok (jf e S0 a b)):=by
 have hc0:∀r,r<2→K0.N r=none:=fun r hr=>jk.const hr
 intro k
 induction k using Nat.strongRecOn with
 |ind k ih=>
 intro a b hk K S made es ck C ok uo ur ha hb hS hJ hU g
 have hK:=hS.ks
 have FY:∀r,r<2→K.N r=none:=fun r hr=>hK.ok.wf.const hr
 have eN:=hS.cP.n
 have la:=hS.cP.live ha
 have lb:=hS.cP.live hb
 have now:∀x,live K0.N x→(S0 x=jf e S0 a b)→∀Z:Hp,aS (Ta kp K0 S0 U ord ah e b3 b5 b1 qz qZ bj bq bm K S made ok (jf e S0 a b)) (.returned (u32 x)) (Z++Qh e b3 b5 b1 qz qZ bj bq kp bm ok uo ur es ck C):=fun x hx hf Z=>
  aS.mk .right ⟨x,K,S,made,es,ck,C,ok,uo,ur,rfl,rfl,hS,hJ,.refl,fun h=>⟨h,by rw[hS.cP.fn x hx];exact hf,.inl hx⟩⟩
 have Jf:e.toNat<2:=by cases e<;>decide
 have zu:(!e).toNat<2:=by cases e<;>decide
 refine CK (R:=aS _) ?_
 unfold L288
 refine Ld.q ?_
 refine aa.cE ?_
 refine df.or (decide (b=e.toNat)) (fun _=>?_) (by simp) fun gs=>?_
 ·refine Ld.q ?_
  exact aa.cE ⟨rfl,rfl⟩
 rw[←Bool.decide_or]
 refine Br.dec (fun h1=>?_) (fun h1=>?_)
 ·refine Ld.q ?_
  refine now _ (.inl Jf) ?_ []
  rcases h1 with rfl|rfl
  ·exact(KJ nB e b).symm
  ·rw[xm];exact(KJ nB e a).symm
 refine Ld.q ?_
 refine aa.cE ?_
 refine df.or (decide (a=b)) (fun _=>aa.cE ⟨rfl,rfl⟩) (by simp) fun gs=>?_
 rw[←Bool.decide_or]
 refine Br.dec (fun h2=>?_) (fun h2=>?_)
 ·refine now b hb ?_ []
  rcases h2 with rfl|rfl
  ·exact(KI nB e b).symm
  ·exact(Ox e S0 a).symm
 refine Ld.q ?_
 refine aa.cE (Br.dec (fun h3=>?_) (fun h3=>?_))
 ·refine now a ha ?_ []
  rw[h3,xm];exact(KI nB e a).symm
 refine Ld.q ?_
 refine Ld.n ?_
 cases ok with
 |false=>
  refine aa.cG (Br.T ?_)
  exact aS.here ⟨0,K,S,made,es,ck,C,false,uo,ur,rfl,rfl,hS,hJ,.refl,fun h=>by cases h⟩
 |true=>
 refine aa.cG (Br.F ?_)
 refine⟨.u32,(a:Int),(b:Int),rfl,rfl,⟨.u32,(a:Int),(b:Int),rfl,rfl,?_⟩⟩
 have Zu:(if(b:Int)<(a:Int)then(b:Int)else(a:Int))=((min a b:Nat):Int):=by split<;>omega
 have Zv:(if(b:Int)>(a:Int)then(b:Int)else(a:Int))=((max a b:Nat):Int):=by split<;>omega
 rw[Zu,Zv]
 refine Build.mk (cs:=[u32 (min a b),u32 (max a b)]) (by kernel_rfl) ?_
 intro TT _
 refine St.p (by intro x hx;simp[u32]at hx;rcases hx with rfl|rfl<;>rfl) ?_
 refine Ld.q ?_
 refine av.q ?_
 obtain⟨m,hE,hkn⟩:=hJ
 have uH:(bj,Obj.map uo ur)∈(TT,Obj.cells #[u32 (min a b),u32 (max a b)] 363 (0,0))::Qh e b3 b5 b1 qz qZ bj bq kp bm true uo ur es ck C:=.tail _ (.tail _ (.tail _ (.head _)))
 cases hg:cR m (min a b,max a b)with
 |some x=>
  refine aN.BE (ke:=pk) (k:=(min a b,max a b)) Kg Bd hE uH hg ?_
  rintro v rfl
  obtain⟨g1,g2⟩:=hkn rfl _ ((dS hE.nd).1 hg)
  refine Ext.mk rfl (Ext.mk rfl (Br.yes ?_))
  refine aS.mk .tail ⟨x,K,S,made,es,ck,C,true,uo,ur,rfl,rfl,hS,⟨m,hE,hkn⟩,.refl,fun h=>⟨h,?_,g2⟩⟩
  rw[g1];exact Qg e S0 a b
 |none=>
 refine aN.sK (ke:=pk) (k:=(min a b,max a b)) Kg Bd hE uH hg ?_
 refine Ext.mk rfl (Ext.mk rfl (Br.no ?_))
 refine Ld.q ?_
 refine ae.eq (A9 (bm:=bm) (ok:=true) (es:=es) (ck:=ck) hK la) ?_
 refine Ext.two ?_
 intro TS _
 refine St.whole (r:=got K.N a) (by exact .head _) rfl (aH _ _).1 (aH _ _).2 ?_
 refine Ld.q ?_
 refine ae.eq (A9 (bm:=bm) (ok:=true) (es:=es) (ck:=ck) hK lb) ?_
 refine Ext.two ?_
 intro TR _
 refine St.whole (r:=got K.N b) (by exact .head _) rfl (aH _ _).1 (aH _ _).2 ?_
 rw[mg hS.cP.N hc0 FY ha,mg hS.cP.N hc0 FY hb,eN,tu hS.cP.N FY hc0 ha,tu hS.cP.N FY hc0 hb]
 have hmin:min (dep K0.n (lv ah) K0.N a) (dep K0.n (lv ah) K0.N b)<K0.n:=by
  refine Classical.byContradiction fun hn=>h2 (.inr ?_)
  have AM:∀r,live K0.N r→K0.n≤dep K0.n (lv ah) K0.N r→r<2:=fun r hr hd=>by
   rcases hr with h|⟨d,cN⟩
   ·exact h
   ·rw[az cN]at hd
    have:=ic.lt _ (jk.var cN);omega
  have a2:=AM a ha (by omega)
  have b2:=AM b hb (by omega)
  cases e<;>simp only[Bool.toNat_true,Bool.toNat_false,Bool.not_true,Bool.not_false]at h1 h2<;>omega
 obtain⟨v,hv,hvl⟩:=Xp jk ic (hc0 0 (by omega)) hmin
 have hva:=hv.le a (by simp)
 have hvb:=hv.le b (by simp)
 obtain⟨za,pa,qa,ega,ga1,ga2⟩:=zG jk ic ha hv.lt hva
 obtain⟨zb,pb,qb,egb,gb1,gb2⟩:=zG jk ic hb hv.lt hvb
 rw[ega,egb]
 have fC:∀r∈[a,b,0],live K0.N r:=fun r hr=>by
  simp only[List.mem_cons,List.not_mem_nil,or_false]at hr
  rcases hr with rfl|rfl|rfl
  ·exact ha
  ·exact hb
  ·exact .inl (by omega)
 obtain⟨f1,f2⟩:=nj (S:=S0) jk ic nB fC hv false
 obtain⟨t1,t2⟩:=nj (S:=S0) jk ic nB fC hv true
 rw[z6 v _ a b (hc0 0 (by omega))]at f1 f2 t1 t2
 have ec:∀bb,jf e S0 (dw K0.N v bb a) (dw K0.N v bb b)=fun x=>jf e S0 a b (aj.aA x v bb):=fun bb=>by
  have:=F9 (S:=S0) jk ic nB rfl fC hv (XJ e) bb
  rw[z6 v _ a b (hc0 0 (by omega))]at this
  exact this
 generalize ea1:dw K0.N v false a=a1 at*
 generalize ea2:dw K0.N v true a=a2 at*
 generalize ec1:dw K0.N v false b=c1 at*
 generalize ec2:dw K0.N v true b=c2 at*
 have gH:=ic.lt v hv.lt
 have HG:=jG.of ic hv.lt
 have qo:∀j,j<lv ah v→¬dm (jf e S0 a b) (ord.getD j 0):=vY jk ic nB jG (q:=[a,b,0]) rfl fC (Nat.le_of_lt gH) hv.le (XJ e)
 obtain⟨i1,JO⟩:=g9 (n:=K0.n) (ord:=ord) (c:=jf e S0 a1 c1) qo (b:=false) (by rw[HG,←ea1,←ec1];exact ec false)
 obtain⟨i2,JN⟩:=g9 (n:=K0.n) (ord:=ord) (c:=jf e S0 a2 c2) qo (b:=true) (by rw[HG,←ea2,←ec2];exact ec true)
 have eF:jf e S0 a1 c1=fun x=>jf e S0 a b (aj.aA x v false):=by rw[←ea1,←ec1];exact ec false
 have eT:jf e S0 a2 c2=fun x=>jf e S0 a b (aj.aA x v true):=by rw[←ea2,←ec2];exact ec true
 have la1:=f1 a1 (by simp)
 have lc1:=f1 c1 (by simp)
 have la2:=t1 a2 (by simp)
 have lc2:=t1 c2 (by simp)
 have da1:=f2 a1 (by simp)
 have dc1:=f2 c1 (by simp)
 have da2:=t2 a2 (by simp)
 have dc2:=t2 c2 (by simp)
 refine Ld.f ?_
 intro J49 h49
 have VZ:J49 [.int .i64 (v:Int)] ((TR,.cells #[.int .i64 zb,u32 pb,u32 qb] 161 (0,0))::(TS,.cells #[.int .i64 za,u32 pa,u32 qa] 161 (0,0))::(TT,.cells #[u32 (min a b),u32 (max a b)] 363 (0,0))::Qh e b3 b5 b1 qz qZ bj bq kp bm true uo ur es ck C):=by
  refine h49 _ _ fun gs J53 h53=>?_
  have VY:J53 [] ((TR,.cells #[.int .i64 zb,u32 pb,u32 qb] 161 (0,0))::(TS,.cells #[.int .i64 za,u32 a1,u32 a2] 161 (0,0))::(TT,.cells #[u32 (min a b),u32 (max a b)] 363 (0,0))::Qh e b3 b5 b1 qz qZ bj bq kp bm true uo ur es ck C):=by
   refine h53 _ fun gs J56 h56=>?_
   have VX:J56 [] ((TR,.cells #[.int .i64 zb,u32 c1,u32 c2] 161 (0,0))::(TS,.cells #[.int .i64 za,u32 a1,u32 a2] 161 (0,0))::(TT,.cells #[u32 (min a b),u32 (max a b)] 363 (0,0))::Qh e b3 b5 b1 qz qZ bj bq kp bm true uo ur es ck C):=by
    refine h56 _ fun gs=>?_
    refine Ld.q ?_
    refine Ld.f ?_
    refine Ld.f ?_
    refine bI.of rfl gg ?_
    have hJ0:TW K0 (fun p=>jf e S0 p.1 p.2) S made true uo ur:=⟨m,hE,hkn⟩
    refine ae.fq (args:=#[u32 a1,u32 c1,ptr b3,ptr b5,ptr b1,ptr qz,ptr qZ]) (ih _ (by omega) a1 c1 rfl K S made es ck C true uo ur la1 lc1 hS hJ0 (fun g hg=>hU g (JO g hg))) ?_
    rintro w H ⟨x1,K1,S1,vq,nC,k9,C1,Xw,XL,XN,rfl,rfl,AI,SK,Nl,zm⟩
    refine DR.of (R:=[(TR,.cells #[.int .i64 zb,u32 c1,u32 c2] 161 (0,0)),(TS,.cells #[.int .i64 za,u32 a1,u32 a2] 161 (0,0)),(qZ,.cells #[BZ b3 b5 b1 qz qZ] 361 (0,0)),(b1,.cells #[ptr bq] 344 (0,0))]) (.cons (.cons (.skip (.cons (.skip (.skip (.skip (.skip (aM.left (A:=[_])))))))))) ?_
    refine Ld.q ?_
    refine Ld.q ?_
    refine Ld.f ?_
    refine Ld.f ?_
    refine bI.of rfl gg ?_
    refine ae.fq (args:=#[u32 a2,u32 c2,ptr b3,ptr b5,ptr b1,ptr qz,ptr qZ]) (ih _ (by omega) a2 c2 rfl K1 S1 vq nC k9 C1 Xw XL XN la2 lc2 AI SK (fun g hg=>hU g (JN g hg))) ?_
    rintro w H ⟨x2,K2,S2,fL,mr,nD,C2,WE,XK,XM,rfl,rfl,jH,vO,jI,uG⟩
    refine⟨.cons (.cons (.skip (.cons (.skip (.skip (.skip (.skip (aM.left (A:=[_]))))))))),?_⟩
    have xA:=Nl.trans jI
    have fin:∀(x3:Nat) K3 S3 gL rR we C3 AA,uP kp K0 S0 U ord ah K3 S3 gL rR we C3 AA→AQ K2 S2 fL K3 S3 gL→(AA=true→WE=true∧S3 x3=jf e S0 a b∧(live K0.N x3∨x3∈gL))→
      ∀TX,TX=(TR,.cells #[.int .i64 zb,u32 c1,u32 c2] 161 (0,0))::(TS,.cells #[.int .i64 za,u32 a1,u32 a2] 161 (0,0))::(TT,.cells #[u32 (min a b),u32 (max a b)] 363 (0,0))::Qh e b3 b5 b1 qz qZ bj bq kp bm AA XK XM rR we C3→
      aM TX [(TR,.cells #[.int .i64 zb,u32 c1,u32 c2] 161 (0,0)),(TS,.cells #[.int .i64 za,u32 a1,u32 a2] 161 (0,0)),(qZ,.cells #[BZ b3 b5 b1 qz qZ] 361 (0,0)),(b1,.cells #[ptr bq] 344 (0,0))]∧
      Ld TX (ptr qz) fun v77=>av 2 TX (ptr TT) fun v78=>gn Tryz.prog 363 TX v77 v78 (u32 x3) fun H79=>aS (Ta kp K0 S0 U ord ah e b3 b5 b1 qz qZ bj bq bm K S made true (jf e S0 a b)) (.returned (u32 x3)) H79:=by
     rintro x3 K3 S3 gL rR we C3 AA SC AK zl TX rfl
     refine⟨.cons (.cons (.skip (.cons (.skip (.skip (.skip (.skip (aM.left (A:=[_]))))))))),?_⟩
     refine Ld.q ?_
     refine av.q ?_
     obtain⟨m3,QN,Sc⟩:=vO.more jH AK (fun h=>(zl h).1)
     refine aN.Jy (ke:=pk) (k:=(min a b,max a b)) (vr:=Ju) (x:=x3) Kg Bd N6 QN rfl fun es' ca he=>⟨_,.tail (.tail (.tail (.tail (.tail (.head _))))),?_⟩
     refine aS.mk (.skip (.skip .tail)) ⟨x3,K3,S3,gL,rR,we,C3,AA,es',ca,rfl,rfl,SC,⟨_,he,fun h y hy=>(o6 hy).elim (fun e1=>?_) (fun hy=>Sc h y hy)⟩,xA.trans AK,fun h=>⟨rfl,(zl h).2⟩⟩
     rw[e1]
     exact⟨(zl h).2.1.trans (Qg e S0 a b).symm,(zl h).2.2⟩
    cases WE with
    |false=>
     refine ae.eq (args:=#[ptr bq,.int .i64 (v:Int),u32 x1,u32 x2]) (u5 (kp:=kp) (bm:=bm) _ _ _ _) ?_
     exact fin 0 K2 S2 fL mr nD C2 false jH .refl (fun h=>by cases h) _ rfl
    |true=>
     obtain⟨Ru,e2,m2⟩:=uG rfl
     obtain⟨_,e1,m1⟩:=zm Ru
     have RH:=AI.sM m1
     have l1:live K2.N x1:=cI jI.N RH
     have l2:=jH.sM m2
     have Pt:S2 x1=jf e S0 a1 c1:=(jI.fn x1 RH).trans e1
     have dB:=jH.ks
     have n2:=jH.cP.n
     have b1':=dB.ok.below dB.od (l:=lv ah v+1) l1 (by omega) (by rw[Pt];exact i1)
     have b2':=dB.ok.below dB.od (l:=lv ah v+1) l2 (by omega) (by rw[e2];exact i2)
     have rB:ite S2 ⟨v,x1,x2⟩=jf e S0 a b:=by
      funext x
      unfold aC.ite
      rw[Pt,e2,eF,eT]
      conv=>rhs;rw[←aj.jt x v]
      simp only
      cases x.testBit v<;>rfl
     have gz:x1≠x2→U (ite S2 ⟨v,x1,x2⟩):=fun hx=>by
      have vL:dm (jf e S0 a b) (ord.getD (lv ah v) 0):=by
       rw[HG]
       refine Classical.byContradiction fun hno=>hx ?_
       refine dB.ok.wf.same dB.ok.lv dB.ok.mid.int l1 l2 fun x=>?_
       rw[Pt,e2,eF,eT]
       exact(cq hno x false).trans (cq hno x true).symm
      rw[rB]
      exact hU _ (mQ qo gH vL)
     refine ae.fq (args:=#[ptr bq,.int .i64 (v:Int),u32 x1,u32 x2]) (yG jH (by rw[n2];exact hv.lt) l1 l2 ⟨by omega,by omega⟩ (by rw[rB];exact hU) gz hf) ?_
     rintro w H ⟨r,K3,S3,gL,rR,we,C3,AA,rfl,rfl,SC,AK,zl⟩
     exact fin r K3 S3 gL rR we C3 AA SC AK (fun h=>⟨rfl,by rw[(zl h).1,rB],(zl h).2.imp .inl id⟩) _ rfl
   refine aa.iU (Br.dec (fun hh=>?_) (fun hh=>?_))
   ·obtain⟨x1,x2⟩:=gb2 (by omega)
    subst x1;subst x2
    refine ag.mk (St.one (by exact .head _) rfl (by simp) rfl ?_)
    refine ag.mk (St.one (by exact .head _) rfl (by simp) rfl ?_)
    exact JE.mk VX
   ·obtain⟨x1,x2,x3⟩:=gb1 (by omega)
    rw[x2,x3]
    exact JE.mk VX
  refine aa.iU (Br.dec (fun hh=>?_) (fun hh=>?_))
  ·obtain⟨x1,x2⟩:=ga2 (by omega)
   subst x1;subst x2
   refine ag.mk (St.one (by exact .tail (.head _)) rfl (by simp) rfl ?_)
   refine ag.mk (St.one (by exact .tail (.head _)) rfl (by simp) rfl ?_)
   exact JE.mk VY
  ·obtain⟨x1,x2,x3⟩:=ga1 (by omega)
   rw[x2,x3]
   exact JE.mk VY
 refine aa.dH (Br.dec (fun hh=>?_) (fun hh=>?_))
 ·obtain⟨x1,x2,x3⟩:=gb1 (by omega)
  refine Ld.f ?_
  subst x1
  exact JE.mk VZ
 ·obtain⟨x1,x2,x3⟩:=ga1 (by omega)
  subst x1
  exact JE.mk VZ
end
theorem KR{N:dQ}{S:Nat→aC.Fn}{n:Nat}{cZ:Nat→Nat}{ord:List Nat}(h:WF n cZ N)(hl:jR n cZ)(hi:Interp N S)(ho:aC.Ord n cZ ord){r:Nat}(hr:live N r){l:Nat}(Lf:l≤n)(hle:l≤dep n cZ N r):∀j,j<l→¬dm (S r) (ord.getD j 0):=by
 rintro j hj ⟨x,hx⟩
 apply hx
 obtain⟨o1,o2⟩:=ho.aY j (by omega)
 rw[h.bT hl hi hr o1 (by omega) x false,h.bT hl hi hr o1 (by omega) x true]
section
variable {kp bq bm:Nat} {K0:Kd} {S0:Nat→aC.Fn} {U:aC.Fn→Prop} {ord ah:List Nat}
def PO(kp:Nat)(K0:Kd)(S0:Nat→aC.Fn)(U:aC.Fn→Prop)(ord ah:List Nat)(bq bm:Nat)(LB:Hp)(K:Kd)(S:Nat→aC.Fn)(made:List Nat)(f:aC.Fn)(w:Value)(H:Hp):Prop:=
 ∃x K' S' made' es' ca C' kU,w=u32 x∧H=LB++rJ bq kp bm kU es' ca C'∧uP kp K0 S0 U ord ah K' S' made' es' ca C' kU∧AQ K S made K' S' made'∧(kU=true→S' x=f∧(live K0.N x∨x∈made'))
theorem Ow{e:Bool}(jk:WF K0.n (lv ah) K0.N)(nB:Interp K0.N S0)(ic:jR K0.n (lv ah))(jG:aC.Ord K0.n (lv ah) ord)(hf:∀s,K0.hold s+1<65535){a b:Nat}{K:Kd}{S:Nat→aC.Fn}{made:List Nat}{es:Array MapEntry}{ck:Nat}{C:Hp}
 (ha:live K0.N a)(hb:live K0.N b)(hS:uP kp K0 S0 U ord ah K S made es ck C true)(hU:∀g,aP K0.n ord (fun g=>g=jf e S0 a b) g→U g):
  Fc Tryz.prog 283 #[ptr bq,u32 a,u32 b,.bool e] (rJ bq kp bm true es ck C) (PO kp K0 S0 U ord ah bq bm [] K S made (jf e S0 a b)):=by
 refine aR fun g=>CW ?_
 intro b1 _ b3 _ b5 _
 refine St.one (by exact .tail (.head _)) rfl (by simp) rfl ?_
 refine St.one (by exact .head _) rfl (by simp) rfl ?_
 have gg:bu Tryz.prog 288=true:=by kernel_rfl
 intro J hJ
 have Jj:J [] ((b5,.cells #[u32 (!e).toNat] 77 (0,0))::(b3,.cells #[u32 e.toNat] 77 (0,0))::(b1,.cells #[ptr bq] 344 (0,0))::rJ bq kp bm true es ck C):=by
  refine hJ _ fun gs=>?_
  intro bj _ qz _
  refine St.one (by exact .head _) rfl (by simp) rfl ?_
  intro qZ _
  refine St.one (by exact .head _) rfl (by simp) rfl ?_
  refine Ld.q ?_
  refine bI.of rfl gg ?_
  refine ae.fq (args:=#[u32 a,u32 b,ptr b3,ptr b5,ptr b1,ptr qz,ptr qZ]) (KH (e:=e) gg jk nB ic jG hf _ a b rfl K S made es ck C true #[] 0 ha hb hS ⟨[],aN.empty,fun _ y hy=>by cases hy⟩ hU) ?_
  rintro w H ⟨x,K',S',made',es',ca,C',kU,RL,RM,rfl,rfl,O4,_,hA,ho⟩
  exact aS.mk (.skip (.skip (.skip (.skip (.skip .tail))))) ⟨x,K',S',made',es',ca,C',kU,rfl,rfl,O4,hA,fun h=>(ho h).2⟩
 cases e with
 |true=>
  refine Br.yes ?_
  refine St.one (by exact .tail (.head _)) rfl (by simp) rfl ?_
  refine St.one (by exact .head _) rfl (by simp) rfl ?_
  exact JE.mk Jj
 |false=>exact Br.no (JE.mk Jj)
def Gv(kp:Nat)(K0:Kd)(S0:Nat→aC.Fn)(U:aC.Fn→Prop)(ord ah:List Nat)(bq bm:Nat)(t:Bool→Bool→Bool)(v:Nat)(fv:Value)(LB:Hp):Prop:=
 ∃f first cap,fv=.func (.func f) first cap∧bu Tryz.prog f=true∧∀(r:Nat) (d:Nd),K0.N r=some d→d.v=v→∀K S made es ck C,uP kp K0 S0 U ord ah K S made es ck C true→(∀g,aP K0.n ord (fun g=>g=QF t v (S0 r)) g→U g)→
  Fc Tryz.prog f (first++ #[.agg (bt d).toArray]++cap) (LB++rJ bq kp bm true es ck C) (PO kp K0 S0 U ord ah bq bm LB K S made (QF t v (S0 r)))
def Ml(b1 gR iX b3 wh:Nat):Value:=.func (.func 278) #[] #[ptr b1,ptr gR,ptr iX,ptr b3,ptr wh]
def Te(K0:Kd)(F:Nat→aC.Fn)(S:Nat→aC.Fn)(made:List Nat)(ok:Bool)(es:Array MapEntry)(ck:Nat):Prop:=
 ∃m:List (Nat×Nat),aN (kN .u32) Ju es ck m∧(ok=true→∀y∈m,S y.2=F y.1∧(live K0.N y.2∨y.2∈made))
theorem Te.more{F:Nat→aC.Fn}{K K':Kd}{S S':Nat→aC.Fn}{made made':List Nat}{es uo:Array MapEntry}{ck ur:Nat}{C:Hp}{ok kU:Bool}(hq:uP kp K0 S0 U ord ah K S made es ck C ok)(h:Te K0 F S made ok uo ur)(ha:AQ K S made K' S' made')(hok:kU=true→ok=true):Te K0 F S' made' kU uo ur:=by
 obtain⟨m,h1,h2⟩:=h
 refine⟨m,h1,fun h y hy=>?_⟩
 obtain⟨a,b⟩:=h2 (hok h) y hy
 exact⟨by rw[ha.fn _ (hq.sM b),a],b.imp id (ha.mem _)⟩
abbrev Xc(b1 b3 gR iX wh bd lvl:Nat)(fv:Value)(LB:Hp)(bq kp bm:Nat)(ok:Bool)(Jl:Array MapEntry)(Jm:Nat)(es:Array MapEntry)(ck:Nat)(C:Hp):Hp:=
 (wh,.cells #[Ml b1 gR iX b3 wh] 352 (0,0))::(iX,.cells #[.map (some bd)] 351 (0,0))::(bd,.map Jl Jm)::(gR,.cells #[.int .i64 (lvl:Int)] 3 (0,0))::(b3,.cells #[fv] 289 (0,0))::(b1,.cells #[ptr bq] 344 (0,0))::(LB++rJ bq kp bm ok es ck C)
def ZJ(kp:Nat)(K0:Kd)(S0:Nat→aC.Fn)(U:aC.Fn→Prop)(ord ah:List Nat)(t:Bool→Bool→Bool)(v b1 b3 gR iX wh bd:Nat)(fv:Value)(LB:Hp)(bq bm:Nat)(K:Kd)(S:Nat→aC.Fn)(made:List Nat)(ok:Bool)(f:aC.Fn)(w:Value)(H:Hp):Prop:=
 ∃x K' S' made' es' ca C' kU SO SS,w=u32 x∧H=Xc b1 b3 gR iX wh bd (lv ah v) fv LB bq kp bm kU SO SS es' ca C'∧uP kp K0 S0 U ord ah K' S' made' es' ca C' kU∧Te K0 (fun r=>QF t v (S0 r)) S' made' kU SO SS∧AQ K S made K' S' made'∧
  (kU=true→ok=true∧S' x=f∧(live K0.N x∨x∈made'))
variable {b1 b3 gR iX wh bd:Nat} {fv:Value} {LB:Hp} {t:Bool→Bool→Bool} {v:Nat}
set_option maxHeartbeats 2000000 in
theorem Mb(gg:bu Tryz.prog 278=true)(W6:Gv kp K0 S0 U ord ah bq bm t v fv LB)(ht:∀a,t a a=a)(hv:v<K0.n)(jk:WF K0.n (lv ah) K0.N)(nB:Interp K0.N S0)(ic:jR K0.n (lv ah))(jG:aC.Ord K0.n (lv ah) ord)(hf:∀s,K0.hold s+1<65535):
  ∀(k r:Nat),K0.n-dep K0.n (lv ah) K0.N r=k→∀(K:Kd) (S:Nat→aC.Fn) (made:List Nat) (es:Array MapEntry) (ck:Nat) (C:Hp) (ok:Bool) (Jl:Array MapEntry) (Jm:Nat),
  live K0.N r→uP kp K0 S0 U ord ah K S made es ck C ok→Te K0 (fun r=>QF t v (S0 r)) S made ok Jl Jm→(∀g,aP K0.n ord (fun g=>g=QF t v (S0 r)) g→U g)→
  Fc Tryz.prog 278 #[u32 r,ptr b1,ptr gR,ptr iX,ptr b3,ptr wh] (Xc b1 b3 gR iX wh bd (lv ah v) fv LB bq kp bm ok Jl Jm es ck C) (ZJ kp K0 S0 U ord ah t v b1 b3 gR iX wh bd fv LB bq bm K S made ok (QF t v (S0 r))):=by
 have hc0:∀r,r<2→K0.N r=none:=fun r hr=>jk.const hr
 intro k
 induction k using Nat.strongRecOn with
 |ind k ih=>
 intro r hk K S made es ck C ok Jl Jm hr hS hD hU g
 have hK:=hS.ks
 have FY:∀r,r<2→K.N r=none:=fun r hr=>hK.ok.wf.const hr
 have eN:=hS.cP.n
 have lr:=hS.cP.live hr
 refine C7 (R:=aS _) ?_
 unfold L278
 refine Ld.q ?_
 refine ae.eq (A9 (bm:=bm) (ok:=ok) (es:=es) (ck:=ck) hK lr) ?_
 refine Ext.two ?_
 intro b6 _
 refine St.whole (r:=got K.N r) (by exact .head _) rfl (aH _ _).1 (aH _ _).2 ?_
 rw[mg hS.cP.N hc0 FY hr,eN,tu hS.cP.N FY hc0 hr]
 refine Ld.q ?_
 refine aa.iU ?_
 refine df.or (!ok) (fun _=>?_) (by simp) fun gs=>?_
 ·refine Ld.q ?_
  refine Ld.n ?_
  exact aa.cG ⟨rfl,by cases ok<;>rfl⟩
 refine Br.mk (fun hb=>?_) (fun hb=>?_)
 ·-- deeper, or an error before
  refine aS.mk .tail ⟨r,K,S,made,es,ck,C,ok,Jl,Jm,rfl,rfl,hS,hD,.refl,fun h=>⟨h,?_,.inl hr⟩⟩
  rw[h]at hb
  simp only[Bool.not_true,Bool.or_false,decide_eq_true_eq]at hb
  rw[hS.cP.fn r hr]
  refine(PR ht ?_).symm
  rintro⟨x,hx⟩
  apply hx
  rw[jk.bT ic nB hr hv hb x false,jk.bT ic nB hr hv hb x true]
 simp only[Bool.or_eq_false_iff,decide_eq_false_iff_not,Bool.not_eq_false',Nat.not_lt]at hb
 obtain⟨xx,rfl⟩:=hb
 obtain⟨m,hE,hkn⟩:=hD
 refine Ld.q ?_
 have uH:(bd,Obj.map Jl Jm)∈(b6,Obj.cells (got K0.N r).toArray 161 (0,0))::Xc b1 b3 gR iX wh bd (lv ah v) fv LB bq kp bm true Jl Jm es ck C:=.tail _ (.tail _ (.tail _ (.head _)))
 have hlv:=ic.lt v hv
 obtain⟨d,hd⟩:∃d,K0.N r=some d:=by
  cases e:K0.N r with
  |none=>rw[aW e]at xx;omega
  |some d=>exact⟨d,rfl⟩
 have ed:=az (n:=K0.n) (ah:=lv ah) hd
 have h2:=jk.two hd
 have nJ:=jk.var hd
 cases hg:cR m r with
 |some x=>
  refine aN.hit (k:=r) gW hE uH hg ?_
  rintro w rfl
  obtain⟨g1,g2⟩:=hkn rfl _ ((dS hE.nd).1 hg)
  refine Ext.mk rfl (Ext.mk rfl (Br.yes ?_))
  exact aS.mk .tail ⟨x,K,S,made,es,ck,C,true,Jl,Jm,rfl,rfl,hS,⟨m,hE,hkn⟩,.refl,fun h=>⟨h,g1,g2⟩⟩
 |none=>
 refine aN.bK (k:=r) gW hE uH hg ?_
 refine Ext.mk rfl (Ext.mk rfl (Br.no ?_))
 rw[c8 hd h2]
 intro J hJ
 have fin:∀(x3:Nat) K3 S3 gL rR we C3 AA SN SR,uP kp K0 S0 U ord ah K3 S3 gL rR we C3 AA→Te K0 (fun r=>QF t v (S0 r)) S3 gL AA SN SR→AQ K S made K3 S3 gL→(AA=true→S3 x3=QF t v (S0 r)∧(live K0.N x3∨x3∈gL))→
   J [u32 x3] ((b6,.cells (bt d).toArray 161 (0,0))::Xc b1 b3 gR iX wh bd (lv ah v) fv LB bq kp bm AA SN SR rR we C3):=by
  intro x3 K3 S3 gL rR we C3 AA SN SR SC hD3 AK zl
  refine hJ _ _ fun gs=>?_
  refine Ld.q ?_
  obtain⟨m3,QN,Sc⟩:=hD3
  refine aN.bS (k:=r) (x:=x3) gW FU QN rfl fun es' ca he=>⟨_,.tail (.tail (.tail (.head _))),?_⟩
  refine aS.mk .tail ⟨x3,K3,S3,gL,rR,we,C3,AA,es',ca,rfl,rfl,SC,⟨_,he,fun h y hy=>(o6 hy).elim (fun e1=>?_) (fun hy=>Sc h y hy)⟩,AK,fun h=>⟨rfl,zl h⟩⟩
  rw[e1];exact zl h
 have hD0:Te K0 (fun r=>QF t v (S0 r)) S made true Jl Jm:=⟨m,hE,hkn⟩
 refine Ld.q ?_
 refine aa.cE (Br.dec (fun hl=>?_) (fun hl=>?_))
 ·-- at the variable
  have ev:d.v=v:=ic.inj _ _ nJ hv (by omega)
  obtain⟨f,first,cap,rfl,OU,U3⟩:=W6
  refine Ld.q ?_
  refine av.q ?_
  refine bI.of rfl OU ?_
  refine ae.fq (C:=LB++rJ bq kp bm true es ck C) (U3 r d hd ev K S made es ck C hS hU) ?_
  rintro w H ⟨x,K',S',made',es',ca,C',kU,rfl,rfl,O4,hA,ho⟩
  exact JE.mk (fin x K' S' made' es' ca C' kU Jl Jm O4 (hD0.more hS hA (fun _=>rfl)) hA ho)
 ·-- above it
  have Yk:lv ah d.v<lv ah v:=by omega
  have hne:d.v≠v:=fun e=>by rw[e]at Yk;omega
  obtain⟨g1,g2,g3⟩:=g6 (S:=S0) jk ic nB hr nJ (by omega) false
  obtain⟨t1,t2,t3⟩:=g6 (S:=S0) jk ic nB hr nJ (by omega) true
  obtain⟨q1,q2⟩:=rU (N:=K0.N) hd
  rw[q1]at g1 g2 g3
  rw[q2]at t1 t2 t3
  have gH:=ic.lt d.v nJ
  have HG:=jG.of ic nJ
  have qo:∀j,j<lv ah d.v→¬dm (QF t v (S0 r)) (ord.getD j 0):=fun j hj=>MN (KR jk ic nB jG hr (Nat.le_of_lt gH) (by omega) j hj)
  have eF:QF t v (S0 d.lo)=fun x=>QF t v (S0 r) (aj.aA x d.v false):=by rw[←MO hne];congr 1;exact funext g1
  have eT:QF t v (S0 d.hi)=fun x=>QF t v (S0 r) (aj.aA x d.v true):=by rw[←MO hne];congr 1;exact funext t1
  obtain⟨i1,JO⟩:=g9 (n:=K0.n) (ord:=ord) (c:=QF t v (S0 d.lo)) qo (b:=false) (by rw[HG];exact eF)
  obtain⟨i2,JN⟩:=g9 (n:=K0.n) (ord:=ord) (c:=QF t v (S0 d.hi)) qo (b:=true) (by rw[HG];exact eT)
  refine Ld.q ?_
  refine Ld.f ?_
  refine bI.of rfl gg ?_
  refine ae.fq (args:=#[u32 d.lo,ptr b1,ptr gR,ptr iX,ptr b3,ptr wh]) (ih _ (by omega) d.lo rfl K S made es ck C true Jl Jm g2 hS hD0 (fun g hg=>hU g (JO g hg))) ?_
  rintro w H ⟨x1,K1,S1,vq,nC,k9,C1,Xw,Zw,Zy,rfl,rfl,AI,hD1,Nl,zm⟩
  refine DR.of (R:=[(b6,.cells (bt d).toArray 161 (0,0)),(wh,.cells #[Ml b1 gR iX b3 wh] 352 (0,0)),(b1,.cells #[ptr bq] 344 (0,0))]) (.cons (.cons (.skip (.skip (.skip (.skip (aM.left (A:=[_])))))))) ?_
  refine Ld.q ?_
  refine Ld.f ?_
  refine Ld.q ?_
  refine Ld.f ?_
  refine bI.of rfl gg ?_
  refine ae.fq (args:=#[u32 d.hi,ptr b1,ptr gR,ptr iX,ptr b3,ptr wh]) (ih _ (by omega) d.hi rfl K1 S1 vq nC k9 C1 Xw Zw Zy t2 AI hD1 (fun g hg=>hU g (JN g hg))) ?_
  rintro w H ⟨x2,K2,S2,fL,mr,nD,C2,WE,V7,V9,rfl,rfl,jH,hD2,jI,uG⟩
  refine⟨.cons (.cons (.skip (.skip (.skip (.skip (aM.left (A:=[_]))))))),?_⟩
  have xA:=Nl.trans jI
  cases WE with
  |false=>
   refine ae.eq (args:=#[ptr bq,.int .i64 (d.v:Int),u32 x1,u32 x2]) (u5 (kp:=kp) (bm:=bm) _ _ _ _) ?_
   refine⟨.cons (.cons (.skip (.skip (.skip (.skip (aM.left (A:=[_]))))))),?_⟩
   exact JE.mk (fin 0 K2 S2 fL mr nD C2 false V7 V9 jH hD2 xA (fun h=>by cases h))
  |true=>
   obtain⟨Ru,e2,m2⟩:=uG rfl
   obtain⟨_,e1,m1⟩:=zm Ru
   have RH:=AI.sM m1
   have l1:live K2.N x1:=cI jI.N RH
   have l2:=jH.sM m2
   have Pt:S2 x1=QF t v (S0 d.lo):=(jI.fn x1 RH).trans e1
   have dB:=jH.ks
   have n2:=jH.cP.n
   have b1':=dB.ok.below dB.od (l:=lv ah d.v+1) l1 (by omega) (by rw[Pt];exact i1)
   have b2':=dB.ok.below dB.od (l:=lv ah d.v+1) l2 (by omega) (by rw[e2];exact i2)
   have rB:ite S2 ⟨d.v,x1,x2⟩=QF t v (S0 r):=by
    funext x
    unfold aC.ite
    rw[Pt,e2,eF,eT]
    conv=>rhs;rw[←aj.jt x d.v]
    simp only
    cases x.testBit d.v<;>rfl
   have gz:x1≠x2→U (ite S2 ⟨d.v,x1,x2⟩):=fun hx=>by
    have vL:dm (QF t v (S0 r)) (ord.getD (lv ah d.v) 0):=by
     rw[HG]
     refine Classical.byContradiction fun hno=>hx ?_
     refine dB.ok.wf.same dB.ok.lv dB.ok.mid.int l1 l2 fun x=>?_
     rw[Pt,e2,eF,eT]
     exact(cq hno x false).trans (cq hno x true).symm
    rw[rB]
    exact hU _ (mQ qo gH vL)
   refine ae.fq (args:=#[ptr bq,.int .i64 (d.v:Int),u32 x1,u32 x2]) (yG jH (by rw[n2];exact nJ) l1 l2 ⟨by omega,by omega⟩ (by rw[rB];exact hU) gz hf) ?_
   rintro w H ⟨r3,K3,S3,gL,rR,we,C3,AA,rfl,rfl,SC,AK,zl⟩
   refine⟨.cons (.cons (.skip (.skip (.skip (.skip (aM.left (A:=[_]))))))),?_⟩
   exact JE.mk (fin r3 K3 S3 gL rR we C3 AA V7 V9 SC (hD2.more jH AK (fun _=>rfl)) (xA.trans AK) (fun h=>⟨by rw[(zl h).1,rB],(zl h).2.imp .inl id⟩))
end
def Rz(es:Array MapEntry)(l:List Nat):List Value→Hp→Nat:=fun _ H=>match H with
 |(_,.mapIter _ _ seen _)::_=>(cA es (x8 l) seen).length
 |_=>0
structure Let(K K':Kd)(l:List Nat):Prop where
 n:K'.n=K.n
 cap:K'.cap=K.cap
 N:∀s d,K'.N s=some d→K.N s=some d
 hold:∀s,K'.hold s+l.count s=K.hold s
section
variable {kp bq bm:Nat} {K0:Kd} {S0:Nat→aC.Fn} {U:aC.Fn→Prop} {ord ah:List Nat}
theorem FD{g:Gh}{K:Kd}{S:Nat→aC.Fn}{l:List Nat}{es:Array MapEntry}{ck b9 b1:Nat}{ok:Bool}{C LB:Hp}(hK:cw kp K S ord ah [] C)(hE:aN (kN .u32) Xk es ck (x8 l))(hc:∀s,l.count s≤K.hold s)(h2:∀s∈l,2≤s)(Pa:∀s∈l,s<4294967296){Kc:Hp→Prop}
 (hk:∀K' C' bi it,cw kp K' S ord ah [] C'→Let K K' l→Kc ((bi,it)::(b9,.cells #[ptr bq] 344 (0,0))::(b1,.cells #[ptr kp] 26 (0,0))::(LB++rJ bq kp bm ok es ck C'))):
  jU Tryz.prog g 277 #[ptr b9,ptr b1] ((b9,.cells #[ptr bq] 344 (0,0))::(b1,.cells #[ptr kp] 26 (0,0))::(LB++rJ bq kp bm ok es ck C)) Kc:=by
 refine Ao (R:=_) ?_
 unfold L277
 refine Ld.q ?_
 refine Ld.n ?_
 refine .inr ⟨bm,es,ck,rfl,.tail _ (.tail _ (List.mem_append_right _ (.tail _ (.head _)))),fun bi _=>?_⟩
 refine⟨fun _ H=>∃(done:List Nat) (K':Kd) (C':Hp) (seen:Array Nat),H=(bi,.mapIter (some bm) ck seen ck)::(b9,.cells #[ptr bq] 344 (0,0))::(b1,.cells #[ptr kp] 26 (0,0))::(LB++rJ bq kp bm ok es ck C')∧
   cw kp K' S ord ah [] C'∧Let K K' done∧(done++(cA es (x8 l) seen).map Prod.fst).Perm l,Rz es l,JE.mk ⟨[],K,C,#[],rfl,hK,⟨rfl,rfl,fun _ _ h=>h,fun s=>by simp⟩,by rw[nU hE,o7];exact .refl _⟩,?_⟩
 rintro H ⟨done,K',C',seen,rfl,fD,hl,hp⟩ gs
 refine aN.next (bi:=bi) (bm:=bm) (seen:=seen) hE (.tail _ (.tail _ (.tail _ (List.mem_append_right _ (.tail _ (.head _)))))) (.head _) (fun e x seen' he hkey hv K8 WW Vg=>⟨_,.head _,?_⟩) (fun hu=>?_)
 ·refine Ext.mk rfl (Br.yes ?_)
  refine⟨bi,bm,ck,seen',e.born,ck,es,e,rfl,.head _,WW,.tail _ (.tail _ (.tail _ (List.mem_append_right _ (.tail _ (.head _))))),Vg,?_⟩
  refine Ext.mk rfl ?_
  refine Ld.q ?_
  have WK:x.1∈l:=by
   refine hp.mem_iff.1 (List.mem_append_right _ ?_)
   exact List.mem_map_of_mem (K8.mem_iff.2 (.head _))
  have AH:done.count x.1+1≤l.count x.1:=by
   rw[←hp.count_eq,List.count_append,(K8.map Prod.fst).count_eq,List.map_cons,List.count_cons_self];omega
  have hhx:K'.hold x.1≠0:=by
   have a:=hl.hold x.1
   have b:=hc x.1
   omega
  show ae Tryz.prog g 131 #[ptr kp,e.key] _ _ _
  rw[hkey]
  refine ae.fq (args:=#[ptr kp,u32 x.1]) (nh fD (r:=x.1) (Pa _ WK) (fun _=>hhx)) ?_
  rintro w C2 ⟨rfl,K2,dB,f2⟩
  refine aB.mk ⟨done++[x.1],K2,C2,seen',rfl,dB,⟨f2.n.trans hl.n,f2.cap.trans hl.cap,fun s d hd=>hl.N s d (f2.N s d hd),fun s=>?_⟩,?_⟩ ?_
  ·have a:=hl.hold s
   rw[f2.hold,List.count_append,List.count_singleton]
   by_cases e1:s=x.1
   ·subst e1
    have:=h2 _ WK
    simp[this];omega
   ·have:(x.1==s)=false:=by simpa using fun e'=>e1 e'.symm
    simp[e1,this];exact a
  ·refine .trans ?_ hp
   rw[List.append_assoc]
   refine List.Perm.append_left _ ?_
   exact(K8.map Prod.fst).symm
  ·show(cA es (x8 l) seen').length<(cA es (x8 l) seen).length
   rw[K8.length_eq,List.length_cons];omega
 ·refine Ext.mk rfl (Br.no ?_)
  rw[hu,List.map_nil,List.append_nil]at hp
  refine⟨⟨_,rfl⟩,hk K' C' bi _ fD ⟨hl.n,hl.cap,hl.N,fun s=>?_⟩⟩
  rw[←hp.count_eq];exact hl.hold s
end
section
variable {kp:Nat} {K:Kd} {S:Nat→aC.Fn} {ord ah tr:List Nat} {C:Hp}
theorem Uf{α:Type}(a x y b:α)(L R:List α):(a::x::y::b::(L++R)).Perm (a::b::(L++x::y::R)):=by
 classical
 rw[List.perm_iff_count];intro z
 simp only[List.count_append,List.count_cons]
 omega
theorem Hr{made:List Nat}{x:Nat}:ov (x8 made) x=x8 (made.filter fun r=>decide (¬r=x)):=by
 unfold ov x8
 induction made with
 |nil=>rfl
 |cons a l ih=>
  simp only[List.map_cons,List.filter_cons]
  by_cases h:a=x
  ·simp[h]at ih⊢;exact ih
  ·simp[h]at ih⊢;exact ih
def gi(kp:Nat)(K:Kd)(S:Nat→aC.Fn)(ord ah:List Nat)(LB:Hp)(f:aC.Fn)(w:Value)(H:Hp):Prop:=
 (∃x K' S' C',w=.tuple #[u32 x,.bool true,.int .i64 0]∧H=LB++C'∧cw kp K' S' ord ah [] C'∧kR K S K' S' f x)∨
 (w=.tuple #[u32 0,.bool false,.int .i64 9]∧(∃K' S' C',H=LB++C'∧cw kp K' S' ord ah [] C'∧Kept K S K' S')∧¬Fits (aP K.n ord (fun g=>K.held S g∨g=f)) K.cap)
theorem FC(hK:cw kp K S ord ah tr C){f:aC.Fn}{LB:Hp}{fb:Value}(hf:∀s,K.hold s+1<65535)
 (hb:∀K1 C1,cw kp K1 S ord ah [] C1→PS K K1 1→∃ff first cap,fb=.func (.func ff) first cap∧bu Tryz.prog ff=true∧∀bq bm,uP kp K1 S (aP K.n ord (fun g=>K.held S g∨g=f)) ord ah K1 S [] #[] 0 C1 true→
   Fc Tryz.prog ff (first++ #[ptr bq]++cap) (LB++rJ bq kp bm true #[] 0 C1) (PO kp K1 S (aP K.n ord (fun g=>K.held S g∨g=f)) ord ah bq bm LB K1 S [] f)):
  Fc Tryz.prog 268 #[ptr kp,fb] (LB++C) (gi kp K S ord ah LB f):=by
 refine aR fun g=>Df ?_
 intro b1 _
 refine Ld.q ?_
 intro bm _
 refine Build.mk (cs:=[ptr kp,.map (some bm),.int .i64 0]) (by kernel_rfl) ?_
 intro bq _ b9 _
 refine St.one (by exact .head _) rfl (by simp) rfl ?_
 refine Ld.q ?_
 refine ae.fq (args:=#[ptr kp,u32 1]) (pw hK (r:=1) (.inl (by omega)) (fun h=>by omega)) ?_
 rintro w C1 ⟨rfl,K1,fe,mo⟩
 have fB:∀s,K1.hold s=K.hold s:=fun s=>by rw[mo.hold,if_neg (by omega)]
 have Vk:∀g,K1.held S g→K.held S g:=by
  rintro g ⟨s,hs,rfl⟩
  exact⟨s,by have:K1.hold s≠0:=hs;rwa [fB]at this,rfl⟩
 obtain⟨ff,first,cap,rfl,OU,hbody⟩:=hb K1 C1 fe mo
 refine Ld.q ?_
 refine bI.of rfl OU ?_
 refine ae.pre (H':=(b9,.cells #[ptr bq] 344 (0,0))::(b1,.cells #[ptr kp] 26 (0,0))::(LB++rJ bq kp bm true #[] 0 C1)) (.perm (Uf _ _ _ _ _ _)) ?_
 have Nk:uP kp K1 S (aP K.n ord (fun g=>K.held S g∨g=f)) ord ah K1 S [] #[] 0 C1 true:=⟨fe,.refl fun g hg=>by rw[mo.n]at hg;exact bJ (fun g h=>.inl (Vk g h)) hg,aN.empty,fun h=>by cases h⟩
 refine ae.fq (C:=LB++rJ bq kp bm true #[] 0 C1) (hbody bq bm Nk) ?_
 rintro w H ⟨x,K2,S2,made,es,ck,C2,ok,rfl,rfl,jH,hA,ho⟩
 have dB:=jH.ks
 have m4:=jH.cP
 have gE:=jH.nd
 have FX:∀s,made.count s≤K2.hold s:=fun s=>by rw[m4.hold];omega
 have Pa:∀s∈made,s<4294967296:=fun s hs=>by have:=dB.bR (m4.fZ dB hs);omega
 have FW:∀s,K.hold s≠0→live K.N s:=fun s hs=>.inr (hK.ok.mid.held s hs)
 have YZ:∀s d,K.N s=some d→K2.N s=some d:=fun s d hd=>m4.N s d (by rw[mo.N];exact hd)
 have hfn:∀s,live K.N s→S2 s=S s:=fun s hs=>m4.fn s (by rw[mo.N];exact hs)
 refine Ld.q ?_
 refine Ld.n ?_
 cases ok with
 |false=>
  refine aa.cG (Br.T ?_)
  refine Ld.q ?_
  refine Ld.n ?_
  refine FD dB jH.ie FX m4.two Pa fun K3 C3 bi it nA hl=>?_
  have jF:∀s,K3.hold s=K.hold s:=fun s=>by
   have a:=hl.hold s
   have b:=m4.hold s
   rw[fB]at b
   omega
  refine aS.mk (.skip (.skip (.skip (.cQ (.skip .tail) _)))) (.inr ⟨rfl,⟨K3,S2,C3,rfl,nA,⟨by rw[hl.n,m4.n,mo.n],by rw[hl.cap,m4.cap,mo.cap],jF,fun g=>?_,fun r hr=>hfn r (FW r hr)⟩⟩,?_⟩)
  ·constructor
   ·rintro⟨s,hs,rfl⟩
    have hs':K.hold s≠0:=by rw[←jF];exact hs
    exact⟨s,hs',hfn s (FW s hs')⟩
   ·rintro⟨s,hs,rfl⟩
    exact⟨s,by show K3.hold s≠0;rw[jF];exact hs,(hfn s (FW s hs)).symm⟩
  ·have:=jH.bad rfl
   rw[mo.cap]at this;exact this
 |true=>
  obtain⟨hx,Uy⟩:=ho rfl
  refine aa.cG (Br.F ?_)
  refine Ld.q ?_
  refine Ld.n ?_
  have fin:∀(K3:Kd) (l:List Nat) (rR:Array MapEntry) (C3:Hp),cw kp K3 S2 ord ah [] C3→(∀s d,K3.N s=some d→K2.N s=some d)→K3.n=K2.n→K3.cap=K2.cap→aN (kN .u32) Xk rR ck (x8 l)→(∀s∈l,s∈made)→(∀s,K3.hold s=K.hold s+l.count s+if s=x∧2≤x then 1 else 0)→
    jU Tryz.prog g 277 #[ptr b9,ptr b1] ((b9,.cells #[ptr bq] 344 (0,0))::(b1,.cells #[ptr kp] 26 (0,0))::(LB++rJ bq kp bm true rR ck C3)) fun H=>aS (gi kp K S ord ah LB f) (.returned (.tuple #[u32 x,.bool true,.int .i64 0])) H:=by
   intro K3 l rR C3 nA VN Ye Vq QN U1 Ni
   refine FD nA QN (fun s=>by rw[Ni];omega) (fun s hs=>m4.two s (U1 s hs)) (fun s hs=>Pa s (U1 s hs)) fun K4 C4 bi it LP hl=>?_
   have pA:∀s,K4.hold s=K.hold s+if s=x∧2≤x then 1 else 0:=fun s=>by
    have a:=hl.hold s
    rw[Ni]at a
    omega
   have Le:live K4.N x:=by
    by_cases h2:x<2
    ·exact .inl h2
    ·refine .inr (LP.ok.mid.held x ?_)
     rw[pA,if_pos ⟨rfl,by omega⟩];omega
   refine aS.mk (.skip (.skip (.skip (.cQ (.skip .tail) _)))) (.inl ⟨x,K4,S2,C4,rfl,rfl,LP,⟨by rw[hl.n,Ye,m4.n,mo.n],by rw[hl.cap,Vq,m4.cap,mo.cap],fun s d hs=>iA hK.ok LP.ok (fun s h=>by rw[pA];omega) (fun s d d' h h'=>?_) _ s d hs (Nat.le_refl _),hfn,Le,hx,pA⟩⟩)
   have a:=VN s d' (hl.N s d' h')
   rw[YZ s d h]at a;exact(Option.some.inj a).symm
  by_cases hm:x∈made
  ·refine aN.hit (k:=x) (x:=()) gW jH.ie (.tail _ (.tail _ (List.mem_append_right _ (.tail _ (.head _))))) (mY.1 hm) ?_
   rintro v rfl
   refine aa.gtr (Br.T ?_)
   refine Ld.q ?_
   refine Ld.n ?_
   refine aN.del (k:=x) gW jH.ie (.tail _ (.tail _ (List.mem_append_right _ (.tail _ (.head _))))) fun es' he=>⟨_,.tail (.tail ((cD.tail (.head _)).bO LB)),?_⟩
   rw[Hr]at he
   refine fin K2 _ es' C2 dB (fun _ _ h=>h) rfl rfl he (fun s hs=>(List.mem_filter.1 hs).1) fun s=>?_
   rw[m4.hold,fB]
   have h2x:=m4.two x hm
   by_cases e1:s=x
   ·subst e1
    have c1:made.count s=1:=by rw[gE.count,if_pos hm]
    have c2:(made.filter fun r=>decide (¬r=s)).count s=0:=List.count_eq_zero.2 (by simp)
    rw[c1,c2,if_pos ⟨rfl,h2x⟩]
   ·have:(made.filter fun r=>decide (¬r=x)).count s=made.count s:=List.count_filter (by simpa using e1)
    rw[this,if_neg (fun h=>e1 h.1)];rfl
  ·refine aN.bK (k:=x) gW jH.ie (.tail _ (.tail _ (List.mem_append_right _ (.tail _ (.head _))))) (mY.2 hm) ?_
   refine aa.gtr (Br.F ?_)
   refine Ld.q ?_
   have Le:live K2.N x:=jH.sM Uy
   have AH:K2.hold x<65535:=by
    rw[m4.hold,fB,List.count_eq_zero.2 hm]
    have:=hf x;omega
   refine ae.fq (args:=#[ptr kp,u32 x]) (pw dB (r:=x) Le (fun _=>AH)) ?_
   rintro w C3 ⟨rfl,K3,nA,m3⟩
   refine aa.gA ?_
   rw[show decide ((0:Int)=0)=true from rfl]
   refine fin K3 made es C3 nA (fun s d h=>by rw[←m3.N];exact h) m3.n m3.cap jH.ie (fun _ h=>h) fun s=>?_
   rw[m3.hold,m4.hold,fB]
   split<;>omega
end
section
variable {kp bq bm:Nat} {K0:Kd} {S0:Nat→aC.Fn} {U:aC.Fn→Prop} {ord ah:List Nat}
theorem Gb{t:Bool→Bool→Bool}{v r:Nat}{fv:Value}{LB:Hp}(W6:Gv kp K0 S0 U ord ah bq bm t v fv LB)(ht:∀a,t a a=a)(hv:v<K0.n)(jk:WF K0.n (lv ah) K0.N)(nB:Interp K0.N S0)(ic:jR K0.n (lv ah))(jG:aC.Ord K0.n (lv ah) ord)(hf:∀s,K0.hold s+1<65535)
 {K:Kd}{S:Nat→aC.Fn}{made:List Nat}{es:Array MapEntry}{ck:Nat}{C:Hp}(hr:live K0.N r)(hS:uP kp K0 S0 U ord ah K S made es ck C true)(hU:∀g,aP K0.n ord (fun g=>g=QF t v (S0 r)) g→U g):
  Fc Tryz.prog 270 #[ptr bq,u32 r,.int .i64 (v:Int),fv] (LB++rJ bq kp bm true es ck C) (PO kp K0 S0 U ord ah bq bm LB K S made (QF t v (S0 r))):=by
 have gg:bu Tryz.prog 278=true:=by kernel_rfl
 have Y6:=W6
 obtain⟨f0,Zp,aeG,Ls,_⟩:=Y6
 have hn:=hS.cP.n
 refine aR fun g=>Dd ?_
 intro b1 _ b3 _
 refine Ld.q ?_
 refine Ld.n ?_
 refine ae.rq (m0 hS.ks.rep (v:Int)) ?_
 rw[if_pos (by omega)]
 rintro w rfl
 refine Ext.two ?_
 intro gR _
 refine St.one (by exact .head _) rfl (by simp) rfl ?_
 intro bd _ iX _
 refine St.one (by exact .head _) rfl (by simp) rfl ?_
 intro wh _
 refine St.one (by exact .head _) rfl (by simp) rfl ?_
 refine Ld.q ?_
 refine bI.of rfl gg ?_
 subst Ls
 refine ae.fq (args:=#[u32 r,ptr b1,ptr gR,ptr iX,ptr b3,ptr wh]) (Mb (b1:=b1) (b3:=b3) (gR:=gR) (iX:=iX) (wh:=wh) (bd:=bd) gg W6 ht hv jk nB ic jG hf _ r rfl K S made es ck C true #[] 0 hr hS ⟨[],aN.empty,fun _ y hy=>by cases hy⟩ hU) ?_
 rintro w H ⟨x,K',S',made',es',ca,C',kU,SO,SS,rfl,rfl,O4,_,hA,ho⟩
 exact aS.mk (.skip (.skip (.skip (.skip (.skip .tail))))) ⟨x,K',S',made',es',ca,C',kU,rfl,rfl,O4,hA,fun h=>(ho h).2⟩
abbrev MA(b5:Nat)(b:Bool):Nat×Obj:=(b5,.cells #[.bool b] 4 (0,0))
theorem A5{v b5:Nat}{b:Bool}{LB:Hp}(jk:WF K0.n (lv ah) K0.N)(nB:Interp K0.N S0)(ic:jR K0.n (lv ah))(hm:MA b5 b∈LB):Gv kp K0 S0 U ord ah bq bm (fun x y=>if b then y else x) v (.func (.func 271) #[] #[ptr b5]) LB:=by
 refine⟨_,_,_,rfl,by kernel_rfl,fun r d hd nJ K S made es ck C hS hU=>?_⟩
 have hr:live K0.N r:=.inr ⟨d,hd⟩
 have Lv:=jk.var hd
 obtain⟨g1,g2,g3⟩:=g6 (S:=S0) jk ic nB hr Lv (by rw[az hd];exact Nat.le_refl _) false
 obtain⟨t1,t2,t3⟩:=g6 (S:=S0) jk ic nB hr Lv (by rw[az hd];exact Nat.le_refl _) true
 obtain⟨q1,q2⟩:=rU (N:=K0.N) hd
 rw[q1]at g1 g2 g3
 rw[q2]at t1 t2 t3
 subst nJ
 refine aR fun g=>Dc ?_
 intro b1 _
 refine Ld.mk (v:=.bool b) (by exact .tail _ (List.mem_append_left _ hm)) rfl ?_
 refine Br.mk (fun hb=>?_) (fun hb=>?_)
 ·subst hb
  refine Ld.f ?_
  refine aS.mk .tail ⟨d.hi,K,S,made,es,ck,C,true,rfl,rfl,hS,.refl,fun _=>⟨?_,.inl t2⟩⟩
  rw[hS.cP.fn _ t2]
  exact funext t1
 ·subst hb
  refine Ld.f ?_
  refine aS.mk .tail ⟨d.lo,K,S,made,es,ck,C,true,rfl,rfl,hS,.refl,fun _=>⟨?_,.inl g2⟩⟩
  rw[hS.cP.fn _ g2]
  exact funext g1
theorem Ab{v b1 b5:Nat}{e:Bool}{LB:Hp}(jk:WF K0.n (lv ah) K0.N)(nB:Interp K0.N S0)(ic:jR K0.n (lv ah))(jG:aC.Ord K0.n (lv ah) ord)(hf:∀s,K0.hold s+1<65535)(hm:MA b5 e∈LB)(h1:(b1,Obj.cells #[ptr bq] 344 (0,0))∈LB):
  Gv kp K0 S0 U ord ah bq bm (fun x y=>if e then x||y else x&&y) v (.func (.func 282) #[] #[ptr b1,ptr b5]) LB:=by
 refine⟨_,_,_,rfl,by kernel_rfl,fun r d hd nJ K S made es ck C hS hU=>?_⟩
 have hr:live K0.N r:=.inr ⟨d,hd⟩
 have Lv:=jk.var hd
 obtain⟨g1,g2,g3⟩:=g6 (S:=S0) jk ic nB hr Lv (by rw[az hd];exact Nat.le_refl _) false
 obtain⟨t1,t2,t3⟩:=g6 (S:=S0) jk ic nB hr Lv (by rw[az hd];exact Nat.le_refl _) true
 obtain⟨q1,q2⟩:=rU (N:=K0.N) hd
 rw[q1]at g1 g2 g3
 rw[q2]at t1 t2 t3
 subst nJ
 have eq:QF (fun x y=>if e then x||y else x&&y) d.v (S0 r)=jf e S0 d.lo d.hi:=by
  funext x
  rw[qk,g1,t1];rfl
 rw[eq]at hU⊢
 refine aR fun g=>CX ?_
 intro b _
 refine Ld.mk (v:=ptr bq) (by exact .tail _ (List.mem_append_left _ h1)) rfl ?_
 refine Ld.f ?_
 refine Ld.f ?_
 refine Ld.mk (v:=.bool e) (by exact .tail _ (List.mem_append_left _ hm)) rfl ?_
 refine ae.fq (args:=#[ptr bq,u32 d.lo,u32 d.hi,.bool e]) (C:=rJ bq kp bm true es ck C) (Ow jk nB ic jG hf g2 t2 hS hU) ?_
 rintro w H ⟨x,K',S',made',es',ca,C',kU,rfl,rfl,O4,hA,ho⟩
 exact aS.mk .tail ⟨x,K',S',made',es',ca,C',kU,rfl,rfl,O4,hA,ho⟩
end
section
variable {kp:Nat} {K:Kd} {S:Nat→aC.Fn} {ord ah tr:List Nat} {C:Hp}
abbrev WD(b5 b3 b1:Nat)(b:Bool)(v r:Nat):Hp:=[MA b5 b,(b3,.cells #[.int .i64 (v:Int)] 3 (0,0)),(b1,.cells #[u32 r] 77 (0,0))]
theorem gi.three{LB:Hp}{f:aC.Fn}{w:Value}{H:Hp}(h:gi kp K S ord ah LB f w H):∃x b e,w=.tuple #[x,b,e]:=by
 rcases h with⟨x,K',S',C',rfl,_⟩|⟨rfl,_⟩
 ·exact⟨_,_,_,rfl⟩
 ·exact⟨_,_,_,rfl⟩
theorem gi.drop{LB:Hp}{f:aC.Fn}{w:Value}{H:Hp}(h:gi kp K S ord ah LB f w H):∃C',aM H C'∧gi kp K S ord ah [] f w C':=by
 rcases h with⟨x,K',S',C',rfl,rfl,fD,hg⟩|⟨rfl,⟨K',S',C',rfl,fD,hk⟩,hn⟩
 ·exact⟨C',.right,.inl ⟨x,K',S',C',rfl,rfl,fD,hg⟩⟩
 ·exact⟨C',.right,.inr ⟨rfl,⟨K',S',C',rfl,fD,hk⟩,hn⟩⟩
theorem aS.drop{LB:Hp}{f:aC.Fn}{w:Value}{H:Hp}(h:gi kp K S ord ah LB f w H):aS (gi kp K S ord ah [] f) (.returned w) H:=by
 obtain⟨C',h1,h2⟩:=h.drop
 exact aS.mk h1 h2
theorem lK(hK:cw kp K S ord ah tr C){r v:Nat}{b:Bool}(hr:live K.N r)(hv:v<K.n)(hf:∀s,K.hold s+1<65535):
  Fc Tryz.prog 248 #[ptr kp,u32 r,.int .i64 (v:Int),.bool b] C (gi kp K S ord ah [] (fun x=>S r (aj.aA x v b))):=by
 have eq:QF (fun x y=>if b then y else x) v (S r)=fun x=>S r (aj.aA x v b):=by
  funext x;unfold QF;cases b<;>rfl
 rw[←eq]
 refine aR fun g=>Du ?_
 intro b1 _ b3 _ b5 _
 refine ae.fq (args:=#[ptr kp,.func (.func 269) #[] #[ptr b1,ptr b3,ptr b5]]) (C:=WD b5 b3 b1 b v r++C) (FC (f:=QF (fun x y=>if b then y else x) v (S r)) hK hf fun K1 C1 fe mo=>⟨_,_,_,rfl,by kernel_rfl,fun bq bm hQ=>?_⟩) ?_
 ·intro g
  refine De (R:=aS _) ?_
  unfold L269
  refine Ld.q ?_
  refine Ld.q ?_
  have BB:live K1.N r:=by rw[mo.N];exact hr
  have fB:∀s,K1.hold s=K.hold s:=fun s=>by rw[mo.hold,if_neg (by omega)]
  refine ae.fq (args:=#[ptr bq,u32 r,.int .i64 (v:Int),.func (.func 271) #[] #[ptr b5]]) (C:=WD b5 b3 b1 b v r++rJ bq kp bm true #[] 0 C1)
   (Gb (A5 fe.ok.wf fe.ok.mid.int fe.ok.lv (b:=b) (.head _)) (fun a=>by cases b<;>rfl) (by rw[mo.n];exact hv) fe.ok.wf fe.ok.mid.int fe.ok.lv fe.od (fun s=>by rw[fB];exact hf s) BB hQ (fun g hg=>by rw[mo.n]at hg;exact bJ (fun g h=>.inr h) hg)) ?_
  intro w H hO
  exact aS.here hO
 ·intro w H hO
  obtain⟨x,bb,e,rfl⟩:=hO.three
  exact Ext.mk rfl (Ext.mk rfl (Ext.mk rfl (aS.drop hO)))
def qf(e:Bool)(v:Nat)(f:aC.Fn):aC.Fn:=QF (fun x y=>if e then x||y else x&&y) v f
theorem yF(hK:cw kp K S ord ah tr C){r v:Nat}{e:Bool}(hr:live K.N r)(hv:v<K.n)(hf:∀s,K.hold s+1<65535):
  Fc Tryz.prog 272 #[ptr kp,u32 r,.int .i64 (v:Int),.bool e] C (gi kp K S ord ah [] (qf e v (S r))):=by
 refine aR fun g=>Db ?_
 intro b1 _ b3 _ b5 _
 refine ae.fq (args:=#[ptr kp,.func (.func 281) #[] #[ptr b1,ptr b3,ptr b5]]) (C:=WD b5 b3 b1 e v r++C) (FC (f:=qf e v (S r)) hK hf fun K1 C1 fe mo=>⟨_,_,_,rfl,by kernel_rfl,fun bq bm hQ=>?_⟩) ?_
 ·intro g
  refine CY (R:=aS _) ?_
  unfold L281
  intro b2 _
  refine Ld.q ?_
  refine Ld.q ?_
  refine Ld.q ?_
  have BB:live K1.N r:=by rw[mo.N];exact hr
  have fB:∀s,K1.hold s=K.hold s:=fun s=>by rw[mo.hold,if_neg (by omega)]
  have BJ:∀s,K1.hold s+1<65535:=fun s=>by rw[fB];exact hf s
  refine ae.fq (args:=#[ptr bq,u32 r,.int .i64 (v:Int),.func (.func 282) #[] #[ptr b2,ptr b5]]) (C:=((b2,Obj.cells #[ptr bq] 344 (0,0))::WD b5 b3 b1 e v r)++rJ bq kp bm true #[] 0 C1)
   (Gb (Ab fe.ok.wf fe.ok.mid.int fe.ok.lv fe.od BJ (e:=e) (.tail _ (.head _)) (.head _)) (fun a=>by cases e<;>cases a<;>rfl) (by rw[mo.n];exact hv) fe.ok.wf fe.ok.mid.int fe.ok.lv fe.od BJ BB hQ (fun g hg=>by rw[mo.n]at hg;exact bJ (fun g h=>.inr h) hg)) ?_
  rintro w H ⟨x,K',S',made',es',ca,C',kU,rfl,rfl,O4,hA,ho⟩
  exact aS.mk .tail ⟨x,K',S',made',es',ca,C',kU,rfl,rfl,O4,hA,ho⟩
 ·intro w H hO
  obtain⟨x,bb,e,rfl⟩:=hO.three
  exact Ext.mk rfl (Ext.mk rfl (Ext.mk rfl (aS.drop hO)))
end
end Go.Proofs
namespace Go.Sx
open Go
section
variable {P:Program} {g:Gh} {H:Hp}
def FcD(P:Program)(f:FuncId)(args:Array Value)(C:Hp)(Q:Value→Hp→Prop):Prop:=∀g,iY P g f args C (aS Q)
theorem jU.fn{f:FuncId}{args:Array Value}{C H:Hp}{c:Hp→Hp}{Q:Value→Hp→Prop}{K:Hp→Prop}(hh:aZ C H c)(hc:FcD P f args C Q)(hk:∀v C',Q v C'→K (c C')):jU P g f args H K:=by
 intro w hw u
 obtain⟨rfl,F,hp⟩:=hh.spec
 have di:Own g (C++F) w:=aM.perm (hp C) g w hw
 refine((hc (g.add F)) w (Own.eL.1 di) u).mono ?_
 rintro e u' w' ⟨rfl,H',ho,v,C',rfl,he,hq⟩
 have h1:Own g (H'++F) w':=Own.eL.2 ho
 have h2:Own g (c H') w':=aM.perm (hp H').symm g w' h1
 exact⟨rfl,c C',hh.ie he g w' h2,⟨v,rfl⟩,hk _ _ hq⟩
end
end Go.Sx
set_option maxRecDepth 100000
namespace Go.Proofs
open Go Go.Sx
open aC
section
variable {kp:Nat} {K:Kd} {ord ah tr:List Nat} {C:Hp} {S:Nat→aC.Fn}
theorem H7(h:cw kp K S ord ah tr C){r:Nat}(hr:r<4294967296)(hh:2≤r→K.hold r≠0):∀g,L131 g (ptr kp) (u32 r) C (aS fun v C'=>v=.int .i64 0∧∃K',cw kp K' S ord ah [] C'∧uh K K' r):=by
 have h0:=h
 obtain⟨b,hC,hO⟩:=h.rep
 intro g
 unfold L131
 refine aa.aD (Br.no ?_)
 intro J2 vO
 have fin:∀(K':Kd) C1,cr kp K' ord ah tr C1→Ok K' S (lv ah)→Idle K'→uh K K' r→J2 [] C1:=fun K' C1 fD xu s8 hm=>by
  refine vO _ fun gs=>?_
  obtain⟨b',rfl,uK⟩:=fD
  refine Nil.ptr (ag.mk (St.one (by exact .head _) rfl (by simp[rG.cells]) rfl ?_))
  have jG:Ord K'.n (lv ah) ord:=by rw[hm.n];exact h.od
  refine aS.mk (kZ:=({b' with vt:=.slice none 0 0,CR:=[]}:rG).hp kp K'.n) ?_ ⟨rfl,K',⟨⟨{b' with vt:=.slice none 0 0,CR:=[]},rfl,{uK with tr:=aK.nil}⟩,xu,jG,s8,trivial⟩,hm⟩
  refine .cons (.cQ (.cQ (.cQ (.cQ (.cQ (.cQ .nil _) _) _) _) _) _)
 refine aa.iU (b:=1) (Br.dec (fun h2=>?_) (fun h2=>?_))
 rotate_left
 ·exact JE.mk (fin K C h.rep h.ok h.idle ⟨rfl,rfl,fun _ _ h=>h,fun s=>by rw[if_neg (by omega)]⟩)
 have me:2≤r:=by omega
 have oM:=hh me
 obtain⟨d,hd⟩:=h.ok.mid.held r oM
 have Ve:=h.ok.mid.fit hd
 have HF:=hO.ul
 have hfit:r<K.ho.length:=by omega
 have hle:=h.iS r
 refine ae.eq (sP h.rep hr (fun s=>by have:=h.iS s;omega)) ?_
 refine aa.gA (Br.F ?_)
 subst hC
 refine Nil.ptr (ag.mk (Ld.f ?_))
 refine hO.ho.ld (x:=((K.hold r:Nat):Int)) (aX hfit) (aZ.sub (.cons (.app (.app (.app .left))))) ?_
 refine aa.bE (b:=1) ?_
 refine hO.ho.ja (x:=((K.hold r-1:Nat):Int)) (.cons (.app (.app (.app .left)))) (by rw[ai];exact hfit) fun MU Si=>?_
 rw[eJ]at Si
 have g1:∀s,(K.ho.set r (K.hold r-1)).getD s 0=if s=r then K.hold r-1 else K.hold s:=fun s=>fN hfit
 have hM:=h.ok.mid.drop (r:=r) (cj:=K.ho.set r (K.hold r-1)) (by omega) (by simp) (by rw[g1,if_pos rfl];omega) (fun s hs=>by rw[g1,if_neg hs])
 have fe:cr kp {K with ho:=K.ho.set r (K.hold r-1)} ord ah tr (({b with CH:=MU}:rG).hp kp K.n):=⟨_,rfl,{hO with ho:=Si,ul:=by simp;exact HF}⟩
 have U9:∀s,(K.ho.set r (K.hold r-1)).getD s 0=if s=r∧2≤r then K.hold s-1 else K.hold s:=fun s=>by
  rw[g1]
  by_cases e:s=r
  ·subst e;rw[if_pos rfl,if_pos ⟨rfl,me⟩]
  ·rw[if_neg e,if_neg (fun h=>e h.1)]
 refine Nil.ptr (ag.mk (Ld.f ?_))
 refine Si.ld (x:=((K.hold r-1:Nat):Int)) (by rw[aX (by simpa using hfit),g1,if_pos rfl]) (aZ.sub (.cons (.app (.app (.app .left))))) ?_
 refine aa.cE (b:=0) (Br.dec (fun h3=>?_) (fun h3=>?_))
 rotate_left
 ·rw[if_neg (by omega)]at hM
  exact JE.mk (fin {K with ho:=K.ho.set r (K.hold r-1)} _ fe ⟨hM,h.ok.pos,h.ok.lv,h.ok.wf⟩ h.idle ⟨rfl,rfl,fun _ _ h=>h,U9⟩)
 rw[if_pos (by omega)]at hM
 refine Nil.ptr (ag.mk ?_)
 have F0:ig {K with ho:=K.ho.set r (K.hold r-1)} S gv (fP zero' [r]):=hM.congr (fun _=>Iff.rfl) fun s _=>by
  unfold up fP zero'
  by_cases e:s=r
  ·subst e;simp
  ·simp[e,Ne.symm e]
 refine ae.fq (kf (P0:=zero') fe F0 h.ok.pos (fun t LS h0=>?_) (h.bR (.inr ⟨d,hd⟩)) (fun s=>by have:=h.AW s;show K.use s<_;omega)) ?_
 ·by_cases e:t=r
  ·subst e;exact⟨d,hd⟩
  ·have TQ:0<zero' t+[r].count t:=h0
   simp[zero',Ne.symm e]at TQ
 rintro w C2 ⟨rfl,K2,dB,O7,Nc,_,dk⟩
 refine JE.mk (fin K2 _ dB ⟨O7,Nc,by rw[dk.n];exact h.ok.lv,FQ h.ok.wf O7 (fun h=>dk.N h) dk.n⟩ (dk.idle h.idle) ⟨dk.n,dk.cap,fun s e hs=>dk.N hs,fun s=>?_⟩)
 show K2.ho.getD s 0=_
 rw[dk.ho]
 exact U9 s
theorem mu(h:cw kp K S ord ah tr C){r:Nat}(hr:r<4294967296)(hh:2≤r→K.hold r≠0):FcD Tryz.prog 131 #[ptr kp,u32 r] C (fun v C'=>v=.int .i64 0∧∃K',cw kp K' S ord ah [] C'∧uh K K' r):=
 fun g=>Aq (H7 h hr hh g)
end
end Go.Proofs
set_option maxRecDepth 100000
namespace Go.Proofs
open Go Go.Sx
open aC
section
variable {kp:Nat} {K:Kd} {S:Nat→aC.Fn} {ord ah tr:List Nat} {C:Hp}
theorem rH(B:Hp)(x:Nat):Rd Tryz.prog 247 #[u32 x,.bool true,.int .i64 0] B (· =.tuple #[u32 x,.int .i64 0]):=by
 refine aR fun g=>tU ?_
 exact aa.cG (Br.F (Un.not (Br.no (bN.mk (.refl _) rfl))))
theorem rI(B:Hp)(x:Value)(b:Value):Rd Tryz.prog 247 #[x,b,.int .i64 9] B (· =.tuple #[u32 0,.int .i64 9]):=by
 refine aR fun g=>tU ?_
 exact aa.cG (Br.T (bN.mk (.refl _) rfl))
theorem uY(hK:cw kp K S ord ah tr C){v:Nat}(hv:v<K.n):Rd Tryz.prog 245 #[ptr kp,.int .i64 (v:Int)] C (· =.tuple #[.int .u64 ((2^v:Nat):Int),.bool true]):=by
 have hn:=hK.aY.oK
 refine aR fun g=>Dw ?_
 intro J hJ
 refine aa.lss ?_
 rw[decide_eq_false (by omega)]
 refine Split.go rfl ?_
 refine aa.wU ?_
 refine Split.go rfl ?_
 refine ae.eq (gy hK.rep) ?_
 refine aa.qT ?_
 rw[decide_eq_false (by omega)]
 refine ay.mk (ay.mk (JE.mk (hJ _ _ fun gs=>Br.no ?_)))
 have h2:2^v<18446744073709551616:=Nat.lt_of_lt_of_le (Nat.pow_lt_pow_right (by decide) (show v<64 by omega)) (by decide)
 refine aa.uy (a:=1) (by simp[IntKind.bits];omega) (by rw[Nat.one_shiftLeft];simpa[bA]using h2) ?_
 rw[Nat.one_shiftLeft]
 exact bN.mk (.refl _) rfl
theorem p7(hK:cw kp K S ord ah tr C){Y:Hp}{mask:Nat}{vr:Value}{refs:List Nat}(hm:mask<2^K.n)(hr:cS .u32 Y vr (iw refs))(hl:∀r∈refs,live K.N r)(bH:refs.length≤1048576):Rd Tryz.prog 246 #[ptr kp,.int .u64 (mask:Int),vr] (Y++C) (· =.int .i64 0):=by
 have hn:=hK.aY.oK
 refine aR fun g=>Dv ?_
 refine aa.aD (Br.no ?_)
 refine ae.eq (gy hK.rep) ?_
 have xB:mask<18446744073709551616:=Nat.lt_of_lt_of_le hm (Nat.pow_le_pow_right (n:=2) (by decide) hn)
 refine aa.j7 (by simpa[bA]using xB) ?_
 rw[Nat.shiftRight_eq_div_pow,Nat.div_eq_of_lt hm]
 refine aa.cG (Br.F ?_)
 refine hr.bc ?_
 rw[ai]
 refine⟨fun vs H=>∃i:Nat,vs=[.int .i64 (i:Int)]∧i≤refs.length∧H=Y++C,fun vs _=>refs.length-br vs 0,JE.mk ⟨0,rfl,Nat.zero_le _,rfl⟩,?_⟩
 rintro w7 H ⟨i,⟨⟩,hi,rfl⟩ gs
 refine aa.dH (Br.dec (fun hlt=>?_) (fun hlt=>?_))
 ·have hlr:=hl _ (List.getElem_mem hlt)
  refine hr.ld (n:=((refs[i]:Nat):Int)) (bV (List.getElem?_eq_getElem hlt)) (fun _ h=>List.mem_append_left _ h) ?_
  refine ae.eq (args:=#[ptr kp,u32 refs[i]]) (fM hK.rep (by have:=hK.bR hlr;omega)) ?_
  rw[bM.2 hlr]
  refine Ext.two ?_
  intro b15 _
  refine St.whole (r:=got K.N refs[i]) (by exact .head _) rfl (aH _ _).1 (aH _ _).2 ?_
  refine aa.cG (Br.F ?_)
  refine aa.inc ?_
  exact aB.of .tail ⟨i+1,rfl,hlt,rfl⟩ (by simp only[br];omega)
 ·exact bN.mk (.refl _) rfl
theorem gi.done{f:aC.Fn}{w:Value}{H:Hp}(h:gi kp K S ord ah [] f w H):(∃x,w=.tuple #[u32 x,.bool true,.int .i64 0]∧oH kp K S ord ah tr f (.tuple #[u32 x,.int .i64 0]) H)∨(w=.tuple #[u32 0,.bool false,.int .i64 9]∧oH kp K S ord ah tr f (.tuple #[u32 0,.int .i64 9]) H):=by
 rcases h with⟨x,K',S',C',rfl,rfl,fD,hg⟩|⟨rfl,⟨K',S',C',rfl,fD,hk⟩,hn⟩
 ·exact .inl ⟨x,rfl,.inl ⟨x,K',S',rfl,fD,hg⟩⟩
 ·exact .inr ⟨rfl,.inr ⟨rfl,⟨K',S',[],fD,.inl rfl,hk⟩,hn⟩⟩
theorem iP{n v:Nat}(hv:v<n):2^v<2^n:=Nat.pow_lt_pow_right (by decide) hv
theorem wT(hK:cw kp K S ord ah tr C){r v:Nat}{b:Bool}(hr:live K.N r)(hv:v<K.n)(hf:∀s,K.hold s+1<65535):
  Fc Tryz.prog 199 #[ptr kp,u32 r,.int .i64 (v:Int),.bool b] C (oH kp K S ord ah tr (fun x=>S r (aj.aA x v b))):=by
 refine aR fun g=>D9 ?_
 refine ae.eq (uY hK hv) ?_
 refine Ext.two ?_
 refine aa.wU ?_
 refine df.and (a:=true) false (fun _=>Un.not ⟨rfl,rfl⟩) rfl fun gs=>Br.no ?_
 refine aq.int (e:=77) (by kernel_rfl) (by kernel_rfl) (by kernel_rfl) fun bs=>?_
 refine ae.eq (args:=#[ptr kp,.int .u64 ((2^v:Nat):Int),.slice (some ⟨bs,0,none⟩) 1 1]) (p7 (Y:=[(bs,Obj.cells (ax .u32 [(r:Int)]) 77 (0,0))]) (refs:=[r]) hK (iP hv) ((aK.made (T:=77) (kd:=.u32) (b:=bs) (iw [r])).ints) (fun s hs=>by simp at hs;subst hs;exact hr) (by show 1≤1048576;omega)) ?_
 refine aa.cG (Br.F ?_)
 refine ae.fq (args:=#[ptr kp,u32 r,.int .i64 (v:Int),.bool b]) (lK hK hr hv hf) ?_
 intro w H hO
 rcases hO.done (tr:=tr)with⟨x,rfl,hD⟩|⟨rfl,hD⟩
 ·refine Ext.mk rfl (Ext.mk rfl (Ext.mk rfl ?_))
  refine ae.eq (rH _ x) ?_
  exact Ext.mk rfl (Ext.mk rfl (aS.mk .tail hD))
 ·refine Ext.mk rfl (Ext.mk rfl (Ext.mk rfl ?_))
  refine ae.eq (rI _ _ _) ?_
  exact Ext.mk rfl (Ext.mk rfl (aS.mk .tail hD))
end
theorem Fits.mono{A B:aC.Fn→Prop}{cap:Nat}(h:∀g,A g→B g)(hB:Fits B cap):Fits A cap:=by
 classical
 obtain⟨ku,⟨l,h1,h2,h3⟩,hc⟩:=hB
 refine⟨(l.filter fun g=>decide (A g)).length,⟨l.filter fun g=>decide (A g),h1.filter _,rfl,fun g=>?_⟩,?_⟩
 ·rw[List.mem_filter,decide_eq_true_eq,←h3]
  exact⟨fun x=>⟨h g x,x⟩,fun x=>x.2⟩
 ·have:=List.length_filter_le (fun g=>decide (A g)) l
  omega
def bitsOf(mask n:Nat):List Nat:=(List.range n).filter fun i=>mask.testBit i
theorem iW(mask n:Nat):bitsOf mask (n+1)=bitsOf mask n++if mask.testBit n then [n]else []:=by
 unfold bitsOf
 rw[List.range_succ,List.filter_append,List.filter_cons,List.filter_nil]
def MY(e:Bool)(vs:List Nat)(f:aC.Fn):aC.Fn:=vs.foldl (fun g v=>qf e v g) f
theorem Ka(e:Bool)(vs:List Nat)(v:Nat)(f:aC.Fn):MY e (vs++[v]) f=qf e v (MY e vs f):=by
 unfold MY;rw[List.foldl_append];rfl
section
variable {kp:Nat} {K:Kd} {S:Nat→aC.Fn} {ord ah tr:List Nat} {C:Hp}
def g7(kp:Nat)(K:Kd)(S:Nat→aC.Fn)(ord ah tr:List Nat)(e:Bool)(mask r:Nat)(w:Value)(H:Hp):Prop:=
 (∃x K' S',w=.tuple #[u32 x,.int .i64 0]∧cw kp K' S' ord ah [] H∧kR K S K' S' (MY e (bitsOf mask K.n) (S r)) x)∨
 (w=.tuple #[u32 0,.int .i64 9]∧(∃K' S' kK,cw kp K' S' ord ah kK H∧(kK=[]∨kK=tr)∧Kept K S K' S')∧∃i,i<K.n∧mask.testBit i=true∧¬Fits (aP K.n ord (fun g=>(K.held S g∨(bitsOf mask i≠[]∧g=MY e (bitsOf mask i) (S r)))∨g=qf e i (MY e (bitsOf mask i) (S r)))) K.cap)
structure Way(K:Kd)(S:Nat→aC.Fn)(K1:Kd)(S1:Nat→aC.Fn)(ch:Bool)(cur:Nat):Prop where
 n:K1.n=K.n
 cap:K1.cap=K.cap
 N:∀s d,K.N s=some d→K1.N s=some d
 fn:∀s,live K.N s→S1 s=S s
 live:live K1.N cur
 hold:∀s,K1.hold s=K.hold s+if ch=true∧s=cur∧2≤cur then 1 else 0
theorem Ga(hK:cw kp K S ord ah tr C){r mask:Nat}{e:Bool}(hr:live K.N r)(hm:mask<2^K.n)(hf:∀s,K.hold s+2<65535):
  Fc Tryz.prog 249 #[ptr kp,u32 r,.int .u64 (mask:Int),.bool e] C (g7 kp K S ord ah tr e mask r):=by
 have hn:=hK.aY.oK
 have xB:mask<18446744073709551616:=Nat.lt_of_lt_of_le hm (Nat.pow_le_pow_right (n:=2) (by decide) hn)
 have FW:∀s,K.hold s≠0→live K.N s:=fun s hs=>.inr (hK.ok.mid.held s hs)
 refine aR fun g=>Ds ?_
 refine aq.int (e:=77) (by kernel_rfl) (by kernel_rfl) (by kernel_rfl) fun bs=>?_
 refine ae.eq (args:=#[ptr kp,.int .u64 (mask:Int),.slice (some ⟨bs,0,none⟩) 1 1]) (p7 (Y:=[(bs,Obj.cells (ax .u32 [(r:Int)]) 77 (0,0))]) (refs:=[r]) hK hm ((aK.made (T:=77) (kd:=.u32) (b:=bs) (iw [r])).ints) (fun s hs=>by simp at hs;subst hs;exact hr) (by show 1≤1048576;omega)) ?_
 refine aa.cG (Br.F ?_)
 refine aa.cE (b:=0) (Br.dec (fun h0=>?_) (fun h0=>?_))
 ·subst h0
  refine ae.fq (args:=#[ptr kp,u32 r]) (pw hK (r:=r) hr (fun _=>by have:=hf r;omega)) ?_
  rintro w C1 ⟨rfl,K1,fe,mo⟩
  refine aa.cG (Br.F ?_)
  refine aS.mk .tail (.inl ⟨r,K1,S,rfl,fe,mo.n,mo.cap,fun s d hd=>by rw[mo.N];exact hd,fun _ _=>rfl,by rw[mo.N];exact hr,?_,fun s=>by rw[mo.hold];split<;>omega⟩)
  have:bitsOf 0 K.n=[]:=by unfold bitsOf;rw[List.filter_eq_nil_iff];intro a _;simp
  rw[this];rfl
 refine ae.eq (gy hK.rep) ?_
 refine⟨fun vs H=>∃(i cur:Nat) (ch:Bool) (K1:Kd) (S1:Nat→aC.Fn) (C1:Hp) (Rc:List Nat),vs=[u32 cur,.bool ch,.int .i64 (i:Int)]∧i≤K.n∧H=(bs,Obj.cells (ax .u32 [(r:Int)]) 77 (0,0))::C1∧cw kp K1 S1 ord ah Rc C1∧
   (ch=decide (bitsOf mask i≠[]))∧S1 cur=MY e (bitsOf mask i) (S r)∧Way K S K1 S1 ch cur∧(ch=true→Rc=[]),fun vs _=>K.n-br vs 2,
  JE.mk ⟨0,r,false,K,S,C,tr,rfl,Nat.zero_le _,rfl,hK,rfl,rfl,⟨rfl,rfl,fun _ _ h=>h,fun _ _=>rfl,hr,fun s=>by rw[if_neg (fun h=>by cases h.1)];rfl⟩,fun h=>by cases h⟩,?_⟩
 rintro w16 w17 w18 H ⟨i,cur,ch,K1,S1,C1,Rc,hvs,hi,rfl,fe,jY,kW,hw,fo⟩ gs
 simp only[List.cons.injEq,and_true]at hvs
 obtain⟨rfl,rfl,rfl⟩:=hvs
 refine aa.dH (Br.dec (fun hlt=>?_) (fun hlt=>?_))
 rotate_left
 ·obtain rfl:i=K.n:=by omega
  have hne:bitsOf mask K.n≠[]:=fun hb=>h0 (by
   apply Nat.eq_of_testBit_eq
   intro j
   rw[Nat.zero_testBit]
   by_cases hj:j<K.n
   ·cases ht:mask.testBit j with
    |false=>rfl
    |true=>
     have:j∈bitsOf mask K.n:=List.mem_filter.2 ⟨List.mem_range.2 hj,ht⟩
     rw[hb]at this;cases this
   ·exact Nat.testBit_lt_two_pow (Nat.lt_of_lt_of_le hm (Nat.pow_le_pow_right (by decide) (by omega))))
  have hct:ch=true:=by rw[jY];exact decide_eq_true hne
  rw[fo hct]at fe
  exact aS.mk .tail (.inl ⟨cur,K1,S1,rfl,fe,hw.n,hw.cap,hw.N,hw.fn,hw.live,kW,fun s=>by rw[hw.hold];simp[hct]⟩)
 intro J hJ
 refine aa.j7 (by simpa[bA]using xB) ?_
 refine aa.iL (b:=1) (by have:mask>>>i≤mask:=Nat.shiftRight_le _ _;simp[bA];omega) (by simp[bA]) ?_
 have zy:(mask>>>i) &&&1=(mask.testBit i).toNat:=by
  rw[Nat.and_one_is_mod,Nat.testBit_eq_decide_div_mod_eq,Nat.shiftRight_eq_div_pow]
  have:mask/2^i%2<2:=Nat.mod_lt _ (by decide)
  by_cases h:mask/2^i%2=1
  ·simp[h]
  ·have:mask/2^i%2=0:=by omega
   simp[this]
 rw[zy]
 refine aa.cE (b:=0) ?_
 cases ht:mask.testBit i with
 |false=>
  refine Br.T ?_
  refine JE.mk (hJ _ _ _ fun gs=>?_)
  refine aa.inc ?_
  have eb:bitsOf mask (i+1)=bitsOf mask i:=by rw[iW,ht];simp
  exact aB.mk ⟨i+1,cur,ch,K1,S1,C1,Rc,rfl,hlt,rfl,fe,by rw[eb];exact jY,by rw[eb];exact kW,hw,fo⟩ (by simp only[br];omega)
 |true=>
  refine Br.F ?_
  have eb:bitsOf mask (i+1)=bitsOf mask i++[i]:=by rw[iW,ht];simp
  have BJ:∀s,K1.hold s+1<65535:=fun s=>by rw[hw.hold];have:=hf s;split<;>omega
  have Tz:∀s,K1.hold s≠0→live K1.N s:=fun s hs=>.inr (fe.ok.mid.held s hs)
  refine ae.fq (args:=#[ptr kp,u32 cur,.int .i64 (i:Int),.bool e]) (yF fe hw.live (by rw[hw.n];exact hlt) BJ) ?_
  rintro w H (⟨x,K2,S2,C2,rfl,rfl,dB,hg⟩|⟨rfl,⟨K2,S2,C2,rfl,dB,hk⟩,hno⟩)
  ·refine Ext.mk rfl (Ext.mk rfl (Ext.mk rfl ?_))
   refine ae.eq (rH _ x) ?_
   refine Ext.two ?_
   intro Wr Zk
   have go:∀K3 C3,cw kp K3 S2 ord ah [] C3→Way K S K3 S2 true x→Wr [] ((bs,Obj.cells (ax .u32 [(r:Int)]) 77 (0,0))::C3):=fun K3 C3 nA OC=>by
    refine Zk _ fun gs=>?_
    refine aa.cG (Br.F ?_)
    refine JE.mk (hJ _ _ _ fun gs=>?_)
    refine aa.inc ?_
    exact aB.mk ⟨i+1,x,true,K3,S2,C3,[],rfl,hlt,rfl,nA,by rw[eb];exact(decide_eq_true (by simp)).symm,by rw[hg.is,eb,Ka,kW],OC,fun _=>rfl⟩ (by simp only[br];omega)
   have fn2:∀s,live K.N s→S2 s=S s:=fun s hs=>(hg.fn s (cI hw.N hs)).trans (hw.fn s hs)
   cases ch with
   |false=>
    refine Br.no (JE.mk (go K2 H dB ⟨hg.n.trans hw.n,hg.cap.trans hw.cap,fun s d hd=>hg.N s d (hw.N s d hd),fn2,hg.live,fun s=>?_⟩))
    have a:=hw.hold s
    rw[if_neg (fun h=>by cases h.1)]at a
    rw[hg.hold,a];simp
   |true=>
    have hlc:=hw.live
    have YH:2≤cur→K2.hold cur≠0:=fun h2=>by rw[hg.hold,hw.hold,if_pos ⟨rfl,rfl,h2⟩];omega
    refine Br.yes ?_
    refine ae.fq (args:=#[ptr kp,u32 cur]) (nh dB (r:=cur) (by have:=fe.bR hlc;omega) YH) ?_
    rintro w C3 ⟨rfl,K3,nA,f3⟩
    have jF:∀s,K3.hold s=K.hold s+if s=x∧2≤x then 1 else 0:=fun s=>by
     have a:=hw.hold s
     simp only[true_and]at a
     rw[f3.hold,hg.hold,a]
     split<;>split<;>omega
    refine JE.mk (go K3 C3 nA ⟨by rw[f3.n,hg.n,hw.n],by rw[f3.cap,hg.cap,hw.cap],fun s d hs=>iA hK.ok nA.ok (fun s h=>by rw[jF];omega) (fun s d d' h h'=>?_) _ s d hs (Nat.le_refl _),fn2,?_,fun s=>by rw[jF];simp⟩)
    ·have a:=f3.N s d' h'
     rw[hg.N s d (hw.N s d h)]at a;exact(Option.some.inj a).symm
    ·by_cases h2:x<2
     ·exact .inl h2
     ·refine .inr (nA.ok.mid.held x ?_)
      rw[jF,if_pos ⟨rfl,by omega⟩];omega
  ·refine Ext.mk rfl (Ext.mk rfl (Ext.mk rfl ?_))
   refine ae.eq (rI _ _ _) ?_
   refine Ext.two ?_
   intro Wr Zk
   have vJ:∀g,K1.held S1 g→K.held S g∨(bitsOf mask i≠[]∧g=MY e (bitsOf mask i) (S r)):=by
    rintro g ⟨s,hs,rfl⟩
    have hs':K1.hold s≠0:=hs
    by_cases hz:K.hold s=0
    ·right
     rw[hw.hold,hz]at hs'
     by_cases hx:ch=true∧s=cur∧2≤cur
     ·refine⟨?_,by rw[hx.2.1];exact kW⟩
      have:=hx.1
      rw[jY]at this
      exact of_decide_eq_true this
     ·rw[if_neg hx]at hs';omega
    ·exact .inl ⟨s,hz,hw.fn s (FW s hz)⟩
   have zn:¬Fits (aP K.n ord (fun g=>(K.held S g∨(bitsOf mask i≠[]∧g=MY e (bitsOf mask i) (S r)))∨g=qf e i (MY e (bitsOf mask i) (S r)))) K.cap:=fun hfit=>hno (by
    rw[hw.n,hw.cap,kW]
    exact Fits.mono (fun g hg=>bJ (fun g h=>h.imp (vJ g) id) hg) hfit)
   have go:∀K3 C3 T2,cw kp K3 S2 ord ah T2 C3→T2=[]→(∀s,K3.hold s=K.hold s)→K3.n=K2.n→K3.cap=K2.cap→Wr [] ((bs,Obj.cells (ax .u32 [(r:Int)]) 77 (0,0))::C3):=fun K3 C3 T2 nA OF Ni Ye Vq=>by
    refine Zk _ fun gs=>?_
    refine aa.cG (Br.T ?_)
    have hfn:∀s,K.hold s≠0→S2 s=S s:=fun s hs=>(hk.fn s (by rw[hw.hold];omega)).trans (hw.fn s (FW s hs))
    refine aS.mk .tail (.inr ⟨rfl,⟨K3,S2,T2,nA,.inl OF,⟨by rw[Ye,hk.n,hw.n],by rw[Vq,hk.cap,hw.cap],Ni,fun g=>?_,hfn⟩⟩,i,hlt,ht,zn⟩)
    constructor
    ·rintro⟨s,hs,rfl⟩
     have hs':K.hold s≠0:=by rw[←Ni];exact hs
     exact⟨s,hs',hfn s hs'⟩
    ·rintro⟨s,hs,rfl⟩
     exact⟨s,by show K3.hold s≠0;rw[Ni];exact hs,(hfn s hs).symm⟩
   cases ch with
   |false=>
    refine Br.no (JE.mk (go K2 H [] dB rfl (fun s=>?_) rfl rfl))
    rw[hk.hold,hw.hold,if_neg (fun h=>by cases h.1)];rfl
   |true=>
    have YH:2≤cur→K2.hold cur≠0:=fun h2=>by rw[hk.hold,hw.hold,if_pos ⟨rfl,rfl,h2⟩];omega
    refine Br.yes ?_
    refine ae.fq (args:=#[ptr kp,u32 cur]) (nh dB (r:=cur) (by have:=fe.bR hw.live;omega) YH) ?_
    rintro w C3 ⟨rfl,K3,nA,f3⟩
    refine JE.mk (go K3 C3 [] nA rfl (fun s=>?_) f3.n f3.cap)
    have a:=hw.hold s
    simp only[true_and]at a
    rw[f3.hold,hk.hold,a]
    split<;>omega
end
section
variable {kp:Nat} {K:Kd} {S:Nat→aC.Fn} {ord ah tr:List Nat} {C:Hp}
theorem g7.two{e:Bool}{mask r:Nat}{w:Value}{H:Hp}(h:g7 kp K S ord ah tr e mask r w H):∃x y,w=.tuple #[x,y]:=by
 rcases h with⟨x,K',S',rfl,_⟩|⟨rfl,_⟩
 ·exact⟨_,_,rfl⟩
 ·exact⟨_,_,rfl⟩
theorem HV(hK:cw kp K S ord ah tr C){r mask:Nat}(hr:live K.N r)(hm:mask<2^K.n)(hf:∀s,K.hold s+2<65535):
  Fc Tryz.prog 200 #[ptr kp,u32 r,.int .u64 (mask:Int)] C (g7 kp K S ord ah tr true mask r):=by
 refine aR fun g=>D8 ?_
 refine ae.fq (Ga hK hr hm hf) ?_
 intro w H hO
 obtain⟨x,y,rfl⟩:=hO.two
 exact Ext.mk rfl (Ext.mk rfl (aS.here hO))
theorem HT(hK:cw kp K S ord ah tr C){r mask:Nat}(hr:live K.N r)(hm:mask<2^K.n)(hf:∀s,K.hold s+2<65535):
  Fc Tryz.prog 201 #[ptr kp,u32 r,.int .u64 (mask:Int)] C (g7 kp K S ord ah tr false mask r):=by
 refine aR fun g=>D7 ?_
 refine ae.fq (Ga hK hr hm hf) ?_
 intro w H hO
 obtain⟨x,y,rfl⟩:=hO.two
 exact Ext.mk rfl (Ext.mk rfl (aS.here hO))
theorem B8{n v:Nat}(hv:v<n):bitsOf (2^v) n=[v]∧bitsOf (2^v) v=[]:=by
 have h0:bitsOf (2^v) v=[]:=by
  unfold bitsOf
  rw[List.filter_eq_nil_iff]
  intro a ha
  have:=List.mem_range.1 ha
  simp[Nat.testBit_two_pow];omega
 refine⟨?_,h0⟩
 have key:∀k,v+1+k≤n→bitsOf (2^v) (v+1+k)=[v]:=by
  intro k
  induction k with
  |zero=>intro _;rw[Nat.add_zero,iW,h0];simp[Nat.testBit_two_pow]
  |succ k ih=>
   intro hk
   rw[←Nat.add_assoc,iW,ih (by omega)]
   have:¬v=v+1+k:=by omega
   simp[Nat.testBit_two_pow,this]
 have:=key (n-(v+1)) (by omega)
 rwa [show v+1+(n-(v+1))=n by omega]at this
theorem g7.one{e:Bool}{v r:Nat}{w:Value}{H:Hp}(hv:v<K.n)(h:g7 kp K S ord ah tr e (2^v) r w H):oH kp K S ord ah tr (qf e v (S r)) w H:=by
 obtain⟨e1,e2⟩:=B8 hv
 rcases h with⟨x,K',S',rfl,fD,hg⟩|⟨rfl,hk,i,hi,ht,hno⟩
 ·rw[e1]at hg
  exact .inl ⟨x,K',S',rfl,fD,hg⟩
 ·have:i=v:=by
   rw[Nat.testBit_two_pow]at ht
   exact(of_decide_eq_true ht).symm
  subst this
  rw[e2]at hno
  exact .inr ⟨rfl,hk,fun hfit=>hno (Fits.mono (fun g hg=>bJ (fun g h=>h.elim (fun h=>h.elim .inl fun h=>absurd rfl h.1) .inr) hg) hfit)⟩
def xZ(kp:Nat)(K:Kd)(S:Nat→aC.Fn)(ord ah tr:List Nat)(lo hi f:aC.Fn)(w:Value)(H:Hp):Prop:=
 (∃x K' S',w=.tuple #[u32 x,.int .i64 0]∧cw kp K' S' ord ah [] H∧kR K S K' S' f x)∨
 (w=.tuple #[u32 0,.int .i64 9]∧(∃K' S' kK,cw kp K' S' ord ah kK H∧(kK=[]∨kK=tr)∧Kept K S K' S')∧
  (¬Fits (aP K.n ord (fun g=>K.held S g∨g=lo)) K.cap∨¬Fits (aP K.n ord (fun g=>(K.held S g∨g=lo)∨g=hi)) K.cap∨¬Fits (aP K.n ord (fun g=>((K.held S g∨g=lo)∨g=hi)∨g=f)) K.cap))
theorem Pv(hK:cw kp K S ord ah tr C){r v h:Nat}(hr:live K.N r)(hv:v<K.n)(hh:live K.N h)(hB:∀s,K.hold s+2+2^K.n≤65535):
  Fc Tryz.prog 202 #[ptr kp,u32 r,.int .i64 (v:Int),u32 h] C (xZ kp K S ord ah tr (fun x=>S r (aj.aA x v false)) (fun x=>S r (aj.aA x v true)) (fun x=>if S h x then S r (aj.aA x v true)else S r (aj.aA x v false))):=by
 have sV:1≤2^K.n:=Nat.one_le_two_pow
 have FW:∀s,K.hold s≠0→live K.N s:=fun s hs=>.inr (hK.ok.mid.held s hs)
 refine aR fun g=>D6 ?_
 refine ae.eq (uY hK hv) ?_
 refine Ext.two ?_
 refine aa.wU ?_
 refine df.and (a:=true) false (fun _=>Un.not ⟨rfl,rfl⟩) rfl fun gs=>Br.no ?_
 refine aq.KN (e:=77) (by kernel_rfl) (by kernel_rfl) (by kernel_rfl) fun bs=>?_
 refine ae.rq (args:=#[ptr kp,.int .u64 ((2^v:Nat):Int),.slice (some ⟨bs,0,none⟩) 2 2]) (p7 (Y:=[(bs,Obj.cells (ax .u32 [(r:Int),(h:Int)]) 77 (0,0))]) (refs:=[r,h]) hK (iP hv) ((aK.made (T:=77) (kd:=.u32) (b:=bs) (iw [r,h])).ints) (fun s hs=>by
  simp only[List.mem_cons,List.not_mem_nil,or_false]at hs
  rcases hs with rfl|rfl
  ·exact hr
  ·exact hh) (by show 2≤1048576;omega)) ?_
 rintro w rfl
 refine aa.cG (Br.F ?_)
 refine ae.fq (args:=#[ptr kp,u32 r,.int .i64 (v:Int),.bool false]) (lK hK hr hv (fun s=>by have:=hB s;omega)) ?_
 intro w H hO
 rcases hO with⟨x1,K1,S1,C1,rfl,rfl,fe,g1⟩|⟨rfl,⟨K1,S1,C1,rfl,fe,hk⟩,hno⟩
 rotate_left
 ·refine Ext.mk rfl (Ext.mk rfl (Ext.mk rfl ?_))
  refine ae.eq (rI _ _ _) ?_
  refine Ext.two ?_
  refine aa.cG (Br.T ?_)
  exact aS.mk .tail (.inr ⟨rfl,⟨K1,S1,[],fe,.inl rfl,hk⟩,.inl hno⟩)
 refine Ext.mk rfl (Ext.mk rfl (Ext.mk rfl ?_))
 refine ae.eq (rH _ x1) ?_
 refine Ext.two ?_
 refine aa.cG (Br.F ?_)
 have BB:=cI g1.N hr
 have e1:S1 r=S r:=g1.fn r hr
 have Tz:=cI g1.N hh
 have l1:=g1.live
 have fB:=g1.hold
 have Lq:∀g,K1.held S1 g→K.held S g∨g=fun x=>S r (aj.aA x v false):=g1.held FW
 refine ae.fq (args:=#[ptr kp,u32 r,.int .i64 (v:Int),.bool true]) (lK fe BB (by rw[g1.n];exact hv) (fun s=>by rw[fB];have:=hB s;split<;>omega)) ?_
 intro w H hO
 rw[e1]at hO
 rcases hO with⟨x2,K2,S2,C2,rfl,rfl,dB,g2⟩|⟨rfl,⟨K2,S2,C2,rfl,dB,hk⟩,hno⟩
 rotate_left
 ·refine Ext.mk rfl (Ext.mk rfl (Ext.mk rfl ?_))
  refine ae.eq (rI _ _ _) ?_
  refine Ext.two ?_
  refine aa.cG (Br.T ?_)
  refine jU.fn (args:=#[ptr kp,u32 x1]) (.cons .here) (mu dB (r:=x1) (by have:=fe.bR l1;omega) (fun h2=>by rw[hk.hold,fB,if_pos ⟨rfl,h2⟩];omega)) ?_
  rintro w C3 ⟨rfl,K3,nA,f3⟩
  have Ni:∀s,K3.hold s=K.hold s:=fun s=>by
   rw[f3.hold,hk.hold,fB]
   split<;>omega
  have hfn:∀s,K.hold s≠0→S2 s=S s:=fun s hs=>(hk.fn s (by rw[fB];omega)).trans (g1.fn s (FW s hs))
  refine aS.mk .tail (.inr ⟨rfl,⟨K3,S2,[],nA,.inl rfl,⟨by rw[f3.n,hk.n,g1.n],by rw[f3.cap,hk.cap,g1.cap],Ni,fun g=>?_,hfn⟩⟩,.inr (.inl fun hfit=>hno ?_)⟩)
  ·constructor
   ·rintro⟨s,hs,rfl⟩
    have hs':K.hold s≠0:=by rw[←Ni];exact hs
    exact⟨s,hs',hfn s hs'⟩
   ·rintro⟨s,hs,rfl⟩
    exact⟨s,by show K3.hold s≠0;rw[Ni];exact hs,(hfn s hs).symm⟩
  ·rw[g1.n,g1.cap]
   exact Fits.mono (fun g hg=>bJ (fun g h=>h.imp (Lq g) id) hg) hfit
 refine Ext.mk rfl (Ext.mk rfl (Ext.mk rfl ?_))
 refine ae.eq (rH _ x2) ?_
 refine Ext.two ?_
 refine aa.cG (Br.F ?_)
 have Sk:=cI g2.N Tz
 have l12:=cI g2.N l1
 have l2:=g2.live
 have iT:=g2.hold
 have Ya:∀s,K1.hold s≠0→live K1.N s:=fun s hs=>.inr (fe.ok.mid.held s hs)
 have Sj:∀g,K2.held S2 g→(K.held S g∨g=fun x=>S r (aj.aA x v false))∨g=fun x=>S r (aj.aA x v true):=fun g hg=>(g2.held Ya g hg).imp (Lq g) id
 have eh:S2 h=S h:=(g2.fn h Tz).trans (g1.fn h hh)
 have ex1:S2 x1=fun x=>S r (aj.aA x v false):=(g2.fn x1 l1).trans g1.is
 have Vf:∀s,live K.N s→S2 s=S s:=fun s hs=>(g2.fn s (cI g1.N hs)).trans (g1.fn s hs)
 refine ae.fq (args:=#[ptr kp,u32 h,u32 x2,u32 x1]) (Gq dB Sk l2 l12 (fun s=>by rw[iT,fB,g2.n,g1.n];have:=hB s;split<;>split<;>omega)) ?_
 intro w H hO
 rw[eh,ex1,g2.is]at hO
 rcases hO with⟨x3,K3,S3,rfl,nA,g3⟩|⟨rfl,⟨K3,S3,T2,nA,_,hk⟩,hno⟩
 ·refine Ext.two ?_
  have jF:=g3.hold
  refine jU.fn (args:=#[ptr kp,u32 x2]) (.cons .here) (mu nA (r:=x2) (by have:=dB.bR l2;omega) (fun h2=>by rw[jF,iT,if_pos ⟨rfl,h2⟩];omega)) ?_
  rintro w C4 ⟨rfl,K4,LP,f4⟩
  have pA:∀s,K4.hold s=K1.hold s+if s=x3∧2≤x3 then 1 else 0:=fun s=>by
   rw[f4.hold,jF,iT]
   split<;>split<;>omega
  refine jU.fn (args:=#[ptr kp,u32 x1]) (.cons .here) (mu LP (r:=x1) (by have:=fe.bR l1;omega) (fun h2=>by rw[pA,fB,if_pos ⟨rfl,h2⟩];omega)) ?_
  rintro w C5 ⟨rfl,K5,Ji,f5⟩
  have sW:∀s,K5.hold s=K.hold s+if s=x3∧2≤x3 then 1 else 0:=fun s=>by
   rw[f5.hold,pA,fB]
   split<;>split<;>omega
  have Le:live K5.N x3:=by
   by_cases h2:x3<2
   ·exact .inl h2
   ·refine .inr (Ji.ok.mid.held x3 ?_)
    rw[sW,if_pos ⟨rfl,by omega⟩];omega
  have Yy:∀s,live K.N s→S3 s=S s:=fun s hs=>(g3.fn s (cI g2.N (cI g1.N hs))).trans (Vf s hs)
  refine aS.mk .tail (.inl ⟨x3,K5,S3,rfl,Ji,⟨by rw[f5.n,f4.n,g3.n,g2.n,g1.n],by rw[f5.cap,f4.cap,g3.cap,g2.cap,g1.cap],fun s d hs=>iA hK.ok Ji.ok (fun s h=>by rw[sW];omega) (fun s d d' h h'=>?_) _ s d hs (Nat.le_refl _),Yy,Le,g3.is,sW⟩⟩)
  have a:=f4.N s d' (f5.N s d' h')
  rw[g3.N s d (g2.N s d (g1.N s d h))]at a;exact(Option.some.inj a).symm
 ·refine Ext.two ?_
  have jF:=hk.hold
  refine jU.fn (args:=#[ptr kp,u32 x2]) (.cons .here) (mu nA (r:=x2) (by have:=dB.bR l2;omega) (fun h2=>by rw[jF,iT,if_pos ⟨rfl,h2⟩];omega)) ?_
  rintro w C4 ⟨rfl,K4,LP,f4⟩
  have pA:∀s,K4.hold s=K1.hold s:=fun s=>by
   rw[f4.hold,jF,iT]
   split<;>omega
  refine jU.fn (args:=#[ptr kp,u32 x1]) (.cons .here) (mu LP (r:=x1) (by have:=fe.bR l1;omega) (fun h2=>by rw[pA,fB,if_pos ⟨rfl,h2⟩];omega)) ?_
  rintro w C5 ⟨rfl,K5,Ji,f5⟩
  have sW:∀s,K5.hold s=K.hold s:=fun s=>by
   rw[f5.hold,pA,fB]
   split<;>omega
  have hfn:∀s,K.hold s≠0→S3 s=S s:=fun s hs=>(hk.fn s (by rw[iT,fB];omega)).trans (Vf s (FW s hs))
  refine aS.mk .tail (.inr ⟨rfl,⟨K5,S3,[],Ji,.inl rfl,⟨by rw[f5.n,f4.n,hk.n,g2.n,g1.n],by rw[f5.cap,f4.cap,hk.cap,g2.cap,g1.cap],sW,fun g=>?_,hfn⟩⟩,.inr (.inr fun hfit=>hno ?_)⟩)
  ·constructor
   ·rintro⟨s,hs,rfl⟩
    have hs':K.hold s≠0:=by rw[←sW];exact hs
    exact⟨s,hs',hfn s hs'⟩
   ·rintro⟨s,hs,rfl⟩
    exact⟨s,by show K5.hold s≠0;rw[sW];exact hs,(hfn s hs).symm⟩
  ·rw[g2.n,g2.cap,g1.n,g1.cap]
   exact Fits.mono (fun g hg=>bJ (fun g h=>h.imp (Sj g) id) hg) hfit
end
end Go.Proofs
set_option maxRecDepth 100000
namespace Go.Proofs
open Go Go.Sx
theorem ye{n:Nat}(hn:n≤16)(B:Hp):Rd Tryz.prog 254 #[.int .i64 (n:Int)] B (· =.int .i64 ((aj.wN n:Nat):Int)):=by
 refine aR fun g=>Dm ?_
 have h1:1<<<n≤65536:=by rw[Nat.one_shiftLeft];exact Nat.pow_le_pow_right (n:=2) (by decide) hn
 refine aa.uy (a:=1) (b:=n) (by simp[IntKind.bits];omega) (by simp[bA];omega) ?_
 refine aa.j7 (b:=6) (by simp[bA];omega) ?_
 refine⟨_,_,_,rfl,rfl,?_⟩
 refine bN.mk (.refl _) ?_
 have:1<<<n>>>6=2^n/64:=by rw[Nat.one_shiftLeft,Nat.shiftRight_eq_div_pow]
 rw[this]
 congr 1
 unfold aj.wN
 rw[Nat.max_def]
 split<;>split<;>omega
theorem F3{n:Nat}(hn:n≤16)(B:Hp):Rd Tryz.prog 255 #[.int .i64 (n:Int)] B (· =.int .u64 ((aj.dc n:Nat):Int)):=by
 refine aR fun g=>Dl ?_
 refine aa.qT (a:=n) (b:=6) (Br.dec (fun h=>?_) (fun h=>?_))
 ·exact bN.mk (.refl _) (by unfold aj.dc;rw[if_pos h];rfl)
 ·have h1:2^n≤32:=Nat.pow_le_pow_right (n:=2) (by decide) (by omega:n≤5)
  have h2:2^2^n≤2^32:=Nat.pow_le_pow_right (by decide) h1
  have h3:=Nat.two_pow_pos (2^n)
  refine aa.wR (a:=1) (b:=n) ?_
  rw[Nat.one_shiftLeft,Nat.mod_eq_of_lt (by omega)]
  refine aa.wR (a:=1) ?_
  rw[Nat.one_shiftLeft,Nat.mod_eq_of_lt (by omega)]
  refine aa.bE (b:=1) ?_
  exact bN.mk (.refl _) (by unfold aj.dc;rw[if_neg h])
theorem Hy{n:Nat}{ws:List Nat}(hn:n≤16)(hl:ws.length=aj.wN n)(hw:∀w∈ws,w<18446744073709551616){w:Nat}(hg:ws[ws.length-1]? =some w):
  (mC w (aj.dc n)=0)↔aj.dh n ws:=by
 have key:∀w,w<18446744073709551616→(mC w (aj.dc n)=0↔w≤aj.dc n):=by
  intro w hw
  constructor
  ·intro h
   have:w&&&aj.dc n=w:=by
    apply Nat.eq_of_testBit_eq;intro j
    have:=congrArg (fun x=>x.testBit j) h
    simp only[dA,Nat.zero_testBit]at this
    rw[Nat.testBit_and]
    cases h1:w.testBit j<;>cases h2:(aj.dc n).testBit j<;>simp_all
   rw[←this];exact Nat.and_le_right
  ·intro h
   have:=aj.tE h
   unfold mC;rw[this,Nat.xor_self]
 constructor
 ·intro h
  refine⟨hn,hl,fun u hu=>?_⟩
  by_cases h6:6≤n
  ·unfold aj.dc;rw[if_pos h6];have:=hw u hu;omega
  ·have h1:ws.length=1:=by rw[hl,aj.Fm (by omega)]
   obtain⟨x,rfl⟩:=List.length_eq_one_iff.1 h1
   simp at hg hu
   subst hg;subst hu
   exact(key _ (hw _ (by simp))).1 h
 ·intro h
  exact(key w (hw w (List.mem_of_getElem? hg))).2 (h.full w (List.mem_of_getElem? hg))
theorem zK{B:Hp}{v:Value}{t:Tb}(ht:AO B v t):Rd Tryz.prog 232 #[v] B (· =.bool (decide (TF t))):=by
 obtain⟨tn,ws⟩:=t
 obtain⟨s,rfl,hs,hw⟩:=ht
 simp only at hs hw⊢
 refine aR fun g=>DG ?_
 intro b1 _ J hJ
 have hno:¬TF ⟨tn,ws⟩→JE J [.bool true] ((b1,.cells (Value.cells (.agg #[.int .i64 tn,s])) 57 (0,0))::B):=fun h=>
  JE.mk (hJ _ _ fun gs=>Br.yes (bN.mk .tail (by rw[decide_eq_false h])))
 refine DR.self ?_
 refine ag.mk (Ld.mk zM rfl ?_)
 refine aa.lss (Br.dec (fun h0=>hno fun h=>by have:=h.1;simp only at this;omega) (fun h0=>?_))
 obtain⟨n,rfl⟩:∃n:Nat,tn=n:=⟨tn.toNat,by omega⟩
 have YU:TF ⟨(n:Int),ws⟩↔aj.dh n ws:=by unfold TF;simp
 refine ag.mk (Ld.mk zM rfl ?_)
 refine aa.iU (b:=16) (ay.mk (Br.dec (fun h1=>hno fun h=>by have:=(YU.1 h).qd;omega) (fun h1=>?_)))
 refine ag.mk (Ld.mk zM rfl ?_)
 refine hs.bc ?_
 refine ag.mk (Ld.mk zM rfl ?_)
 intro F
 refine ae.eq (ye (by omega) B) ?_
 refine⟨(by repeat (first|exact aM.refl _|apply aM.cons|apply aM.skip|apply aM.cQ|apply aM.eG)),?_⟩
 rw[ai]
 refine aa.uk (ay.mk ?_)
 simp only[cond_false]
 by_cases hl:ws.length=aj.wN n
 case neg=>rw[show decide (ws.length≠aj.wN n)=true by simp[hl]];exact hno fun h=>hl (YU.1 h).len
 rw[show decide (ws.length≠aj.wN n)=false by simp[hl]]
 refine JE.mk (hJ _ _ fun gs=>Br.no ?_)
 have hpos:=aj.Q6 n
 obtain⟨w,hg⟩:∃w,ws[ws.length-1]? =some w:=⟨_,List.getElem?_eq_getElem (by omega)⟩
 refine DR.self ?_
 refine ag.mk (Ld.mk zM rfl ?_)
 refine ag.mk (Ld.mk zM rfl ?_)
 refine hs.bc ?_
 rw[ai]
 refine aa.ux (b:=1) (by have:=aj.rX (n:=n) (by omega);simp[bA];omega) (by omega) ?_
 refine hs.ld (bV hg) zS ?_
 refine ag.mk (Ld.mk zM rfl ?_)
 refine ae.eq (F3 (by omega) B) ?_
 refine⟨(by repeat (first|exact aM.refl _|apply aM.cons|apply aM.skip|apply aM.cQ|apply aM.eG)),?_⟩
 refine aa.Gn (by have:=hw w (List.mem_of_getElem? hg);simpa[bA]using this) (by have:=aj.pE n;simpa[bA]using this) ?_
 refine aa.cE (b:=0) ?_
 refine bN.mk .tail ?_
 congr 1
 exact decide_eq_decide.2 ((Hy (by omega) hl hw hg).trans YU.symm)
theorem tj{B:Hp}{v:Value}{ts:List Tb}(ht:dZ B v ts)(bH:ts.length<2^62):Rd Tryz.prog 220 #[v] B (· =.bool (decide (∀t∈ts,TF t∧some t.n=ts.head?.map Tb.n))):=by
 refine aR fun g=>DN ?_
 refine ht.bc ?_
 refine⟨fun vs H=>aT B H∧∃k:Nat,vs=[.int .i64 (k:Int)]∧k≤ts.length∧∀i t,i<k→ts[i]? =some t→TF t∧some t.n=ts.head?.map Tb.n,fun vs _=>ts.length-br vs 0,JE.mk ⟨.refl _,0,rfl,by omega,by omega⟩,?_⟩
 rintro w H ⟨hg,k,⟨⟩,hk,aE⟩ gs
 refine aa.dH (Br.dec (fun hlt=>?_) (fun hlt=>?_))
 ·obtain⟨t,jE⟩:∃t,ts[k]? =some t:=⟨_,List.getElem?_eq_getElem hlt⟩
  obtain⟨t0,OG⟩:∃t,ts[0]? =some t:=⟨_,List.getElem?_eq_getElem (by omega)⟩
  have hh:ts.head?.map Tb.n=some t0.n:=by rw[List.head?_eq_getElem?,OG];rfl
  have UC:=ht.mono hg.sub
  refine UC.ld jE (fun _ h=>h) fun s hs=>?_
  intro b1 _
  refine St.p ?_ ?_
  ·obtain⟨a,c,rfl,_⟩:=hs.1.shape;simp[Value.oneCell']
  intro J hJ
  have hno:∀H',aT B H'→¬(TF t∧some t.n=ts.head?.map Tb.n)→JE J [.bool true] H':=fun H' Qu h=>
   JE.mk (hJ _ _ fun gs=>Br.yes (bN.mk Qu.ie (by rw[decide_eq_false];exact fun hh=>h (hh t (List.mem_of_getElem? jE)))))
  have Qt:aT B ((b1,Obj.cells (List.toArray [.int .i64 t.n,s]) 57 (0,0))::H):=.cons hg
  refine DR.self ?_
  refine av.q ?_
  intro F
  refine ae.eq (B:=H) (zK ⟨s,rfl,hs⟩) ?_
  refine⟨.refl _,Un.not ?_⟩
  by_cases hT:TF t
  case neg=>rw[decide_eq_false hT];exact Br.yes (hno _ Qt fun h=>hT h.1)
  rw[decide_eq_true hT]
  refine Br.no ?_
  refine ag.mk (Ld.mk zM rfl ?_)
  refine UC.Tn OG zS ?_
  refine aa.cG (ay.mk ?_)
  simp only[cond_false]
  by_cases hn:t.n=t0.n
  case neg=>rw[decide_eq_true hn];exact hno _ Qt fun h=>hn (by have:=h.2;rw[hh]at this;simpa using this)
  rw[decide_eq_false (by simpa using hn)]
  refine JE.mk (hJ _ _ fun gs=>Br.no ?_)
  refine aa.inc ?_
  refine aB.mk ⟨Qt,k+1,rfl,by omega,fun i u hi hu=>?_⟩ (by simp[br];omega)
  by_cases e:i=k
  ·subst e;rw[jE]at hu;cases hu;exact⟨hT,by rw[hh,hn]⟩
  ·exact aE i u (by omega) hu
 ·refine bN.mk hg.ie ?_
  rw[decide_eq_true]
  intro t XW
  obtain⟨i,hi,rfl⟩:=List.mem_iff_getElem.1 XW
  exact aE i _ (by omega) (List.getElem?_eq_getElem hi)
theorem oA{B:Hp}{b:Nat}{t:Tb}{s:Value}{T:TypeId}{fz:Nat×Nat}(hm:(b,Obj.cells #[.int .i64 t.n,s] T fz)∈B)(hw:Words B s t.ws):
  Rd Tryz.prog 220 #[.slice (some ⟨b,0,none⟩) 1 1] B (· =.bool (decide (TF t))):=
 (tj (dZ.one (cap:=0) hm hw) (by simp)).mono fun v H ⟨h1,h2⟩=>⟨h1,by rw[h2];congr 1;simp⟩
theorem Uj{B:Hp}{v:Value}{t:Tb}(ht:AO B v t)(u:Int):Rd Tryz.prog 214 #[v,.int .i64 u] B (· =.int .i64 (if TF t then(if 0≤u∧u<t.n then 0 else 2)else 5)):=by
 obtain⟨s,rfl,hw⟩:=ht
 refine aR fun g=>DU ?_
 intro b1 _
 refine av.q ?_
 refine jO fun b2=>?_
 refine ae.rd .here (oA (by exact List.Mem.head _) (hw.mono zS)) ?_
 rintro v rfl
 refine Un.not ?_
 by_cases hT:TF t
 ·rw[decide_eq_true hT,if_pos hT]
  refine Br.no (aa.lss ?_)
  refine df.or (decide (t.n≤u)) (fun h=>?_) rfl ?_
  ·refine ag.mk (Ld.mk zM rfl ?_)
   exact aa.geq ⟨rfl,rfl⟩
  ·intro gs
   have hor:(decide (u<0)||decide (t.n≤u))=decide (¬(0≤u∧u<t.n)):=by
    by_cases h1:u<0<;>by_cases h2:t.n≤u<;>simp[h1,h2]<;>omega
   rw[hor]
   refine Br.dec (fun h=>?_) (fun h=>?_)
   ·exact bN.mk (by repeat (first|exact aM.refl _|apply aM.cons|apply aM.skip|apply aM.cQ|apply aM.eG)) (by rw[if_neg h])
   ·exact bN.mk (by repeat (first|exact aM.refl _|apply aM.cons|apply aM.skip|apply aM.cQ|apply aM.eG)) (by rw[if_pos (Classical.not_not.1 h)])
 ·rw[decide_eq_false hT,if_neg hT]
  exact Br.yes (bN.mk (by repeat (first|exact aM.refl _|apply aM.cons|apply aM.skip|apply aM.cQ|apply aM.eG)) rfl)
theorem v9{u i:Nat}(hu:u<64)(hi:i<18446744073709551616)(BG:i<9223372036854775808)(B:Hp):Rd Tryz.prog 219 #[.int .i64 (u:Int),.int .i64 (i:Int)] B
  (· =.int .u64 ((if 6≤u then(if(i>>>(u-6)).testBit 0 then 18446744073709551615 else 0)else aj.mask u:Nat):Int)):=by
 refine aR fun g=>DO ?_
 refine aa.qT (a:=u) (b:=6) (Br.dec (fun h=>?_) (fun h=>?_))
 ·refine aQ.nat (by simpa[bA]using hi) ?_
  refine aa.ux (b:=6) (by simp[bA];omega) h ?_
  refine aa.j7 (by simpa[bA]using hi) ?_
  have hs:i>>>(u-6)<18446744073709551616:=Nat.lt_of_le_of_lt (Nat.shiftRight_le _ _) hi
  refine aa.iL (b:=1) (by simpa[bA]using hs) (by decide) ?_
  refine Un.XB (by rw[aj.dY];split<;>decide) ?_
  refine bN.mk (.refl _) ?_
  rw[if_pos h,aj.dY]
  split<;>rfl
 ·refine⟨fun vs H=>H=B∧∃j:Nat,vs=[.int .u64 ((aj.xI u j:Nat):Int),.int .i64 (j:Int)]∧j≤64,fun vs _=>64-br vs 1,JE.mk ⟨rfl,0,rfl,by omega⟩,?_⟩
  rintro w1 w2 H ⟨rfl,j,⟨⟩,hj⟩ gs
  refine aa.dH (b:=64) (Br.dec (fun hlt=>?_) (fun hlt=>?_))
  ·refine aa.j7 (by simp[bA];omega) ?_
   have hs:j>>>u<64:=Nat.lt_of_le_of_lt (Nat.shiftRight_le _ _) hlt
   refine aa.iL (b:=1) (by simp[bA];omega) (by decide) ?_
   have h1:j>>>u&&&1≤1:=by rw[aj.dY];split<;>decide
   refine aQ.q ?_
   refine aa.wR ?_
   have h2:((j>>>u&&&1)<<<j)<18446744073709551616:=by
    rw[Nat.shiftLeft_eq]
    calc _≤1*2^j:=Nat.mul_le_mul_right _ h1
     _<2^64:=by rw[Nat.one_mul];exact Nat.pow_lt_pow_right (by decide) hlt
   rw[Nat.mod_eq_of_lt h2]
   have h3:aj.xI u j<18446744073709551616:=Nat.lt_of_lt_of_le (aj.xH u j) (Nat.pow_le_pow_right (n:=2) (by decide) hj)
   refine aa.Jb (by simpa[bA]using h3) (by simpa[bA]using h2) ?_
   refine aa.inc ?_
   exact aB.mk ⟨rfl,j+1,rfl,by omega⟩ (by simp[br];omega)
  ·have:j=64:=by omega
   subst this
   exact bN.mk (.refl _) (by rw[if_neg h];rfl)
theorem mZ{n:Nat}(hn:n≤16){fv:Value}{f:FuncId}{first cap:Array Value}(Ls:fv=.func (.func f) first cap)(gg:bu Tryz.prog f=true){F:Nat→Nat}(hF:∀i,i<aj.wN n→F i<18446744073709551616){B:Hp}
 (hc:∀i:Nat,i<aj.wN n→Rd Tryz.prog f (first++ #[.int .i64 (i:Int)]++cap) B (· =.int .u64 ((F i:Nat):Int))):
  Px Tryz.prog 212 #[.int .i64 (n:Int),fv] B (fun v H=>AO H v ⟨n,(List.range (aj.wN n)).map fun i=>F i&&&aj.dc n⟩):=by
 intro g
 have WM:=aj.rX hn
 refine DW (R:=aS _) ?_
 unfold L212
 intro b1 _
 refine ae.eq (ye hn B) ?_
 refine cO.ints (jg hn).1 (jg hn).2 fun bw=>?_
 refine Build.mk (cs:=[.int .i64 (n:Int),.slice (some ⟨bw,0,none⟩) (aj.wN n) (aj.wN n)]) (by kernel_rfl) ?_
 intro b8 _
 refine St.q ?_
 refine ag.mk (Ld.mk zM rfl ?_)
 refine aF.mk ?_
 rw[range_zero (G:=fun i=>F i&&&aj.dc n)]
 refine⟨fun vs H=>∃i:Nat,vs=[.int .i64 (i:Int)]∧i≤aj.wN n∧H=(b8,.cells (List.toArray [.int .i64 (n:Int),.slice (some ⟨bw,0,none⟩) (aj.wN n) (aj.wN n)]) 57 (0,0))::
   (bw,.cells (ax .u64 (iw ((List.range (aj.wN n)).map fun k=>if k<i then F k&&&aj.dc n else 0))) 50 (0,0))::(b1,.cells #[.int .i64 0,.slice none 0 0] 57 (0,0))::B,
  fun vs _=>aj.wN n-br vs 0,JE.mk ⟨0,rfl,by omega,rfl⟩,?_⟩
 rintro w H ⟨i,⟨⟩,hi,rfl⟩ gs
 refine aa.dH (Br.dec (fun hlt=>?_) (fun hlt=>?_))
 ·refine DR.self ?_
  refine ag.mk (Ld.mk zM rfl ?_)
  refine bI.of Ls gg ?_
  refine ae.eq (hc i hlt) ?_
  refine⟨.refl _,?_⟩
  refine ae.eq (F3 hn B) ?_
  refine⟨.refl _,?_⟩
  refine aa.iL (by simpa[bA]using hF i hlt) (by simpa[bA]using aj.pE n) ?_
  refine an.nat hlt ?_
  refine St.ints (l:=iw _) (by exact .tail (.head _)) (by simpa using hlt) ?_
  refine aa.inc ?_
  rw[G7 hlt]
  exact aB.mk ⟨i+1,rfl,by omega,rfl⟩ (by simp[br];omega)
 ·have:i=aj.wN n:=by omega
  subst this
  rw[A8]
  refine av.q ?_
  refine St.q ?_
  refine av.q ?_
  refine tL.mk (by repeat (first|exact aT.refl _|apply aT.cons|apply aT.app)) ⟨_,rfl,?_⟩
  have:=Words.block (b:=bw) (cap:=aj.wN n) (ws:=(List.range (aj.wN n)).map fun i=>F i&&&aj.dc n) (T:=50) (fz:=(0,0)) (B:=(b8,.cells (List.toArray [.int .i64 (n:Int),.slice (some ⟨bw,0,none⟩) (aj.wN n) (aj.wN n)]) 57 (0,0))::
   (bw,.cells (ax .u64 (iw ((List.range (aj.wN n)).map fun i=>F i&&&aj.dc n))) 50 (0,0))::(b1,.cells (List.toArray [.int .i64 (n:Int),.slice (some ⟨bw,0,none⟩) (aj.wN n) (aj.wN n)]) 57 (0,0))::B) (by exact .tail _ (.head _)) (by simp) (fun w hw=>by
    obtain⟨k,_,rfl⟩:=List.mem_map.1 hw
    exact Nat.lt_of_le_of_lt Nat.and_le_right (aj.pE n))
  simpa using this
theorem LK{B:Hp}{pv pb pa s:Value}{u n i:Nat}{c:Bool}{ws:List Nat}(hv:Go.Sx.At B pv [.int .i64 (u:Int)])(hb:Go.Sx.At B pb [.bool c])(ha:Go.Sx.At B pa [.int .i64 (n:Int),s])(hw:Words B s ws)(hf:aj.dh n ws)(hu:u<n)(hi:i<aj.wN n):
  Rd Tryz.prog 256 #[.int .i64 (i:Int),pv,pb,pa] B (· =.int .u64 ((aj.pC ws u c i:Nat):Int)):=by
 intro g
 have hn:=hf.qd
 have WM:=aj.rX hn
 refine Dk (R:=aS _) ?_
 unfold L256
 refine Ld.at hv (fun _ h=>h) ?_
 refine aa.qT (a:=u) (b:=6) (Br.dec (fun h6=>?_) (fun h6=>?_))
 ·have hp:2^(u-6)≤1024:=Nat.pow_le_pow_right (n:=2) (by decide) (by omega:u-6≤10)
  refine Ld.at hv (fun _ h=>h) ?_
  refine aa.ux (b:=6) (by simp[bA];omega) h6 ?_
  refine aa.uy (a:=1) (by simp[IntKind.bits];omega) (by rw[Nat.one_shiftLeft];simp[bA];omega) ?_
  rw[Nat.one_shiftLeft]
  refine aa.Gn (by simp[bA];omega) (by simp[bA];omega) ?_
  have hand:=nk i (2^(u-6))
  intro J hJ
  have UI:aj.aA i (u-6) c<aj.wN n:=by
   rw[aj.Fo (by omega)]at hi⊢
   exact aj.fG hi (by omega)
  have gY:JE J [.int .i64 ((aj.aA i (u-6) c:Nat):Int)] B:=by
   refine JE.mk (hJ _ _ fun gs=>?_)
   refine ag.at ha fun q hq=>Ld.at hq (fun _ h=>h) ?_
   have hg:ws[aj.aA i (u-6) c]? =some (ws.getD (aj.aA i (u-6) c) 0):=by rw[List.getElem?_eq_getElem (by rw[hf.len];exact UI),List.getD_eq_getElem?_getD,List.getElem?_eq_getElem (by rw[hf.len];exact UI)];rfl
   refine hw.1.ld (bV hg) (fun _ h=>h) ?_
   exact bN.mk (.refl _) (by unfold aj.pC;rw[if_pos h6])
  refine Ld.at hb (fun _ h=>h) ?_
  cases c
  ·exact Br.no gY
  ·refine Br.yes ?_
   refine Ld.at hv (fun _ h=>h) ?_
   refine aa.ux (b:=6) (by simp[bA];omega) h6 ?_
   refine aa.uy (a:=1) (by simp[IntKind.bits];omega) (by rw[Nat.one_shiftLeft];simp[bA];omega) ?_
   rw[Nat.one_shiftLeft]
   refine aa.Jb (by simp[bA];omega) (by simp[bA];omega) ?_
   have e:mC i (2^(u-6))|||2^(u-6)=aj.aA i (u-6) true:=by
    apply Nat.eq_of_testBit_eq;intro k
    rw[Nat.testBit_or,dA,aj.ak,Nat.testBit_two_pow]
    by_cases e:k=u-6
    ·simp[e]
    ·simp[e,Ne.symm e]
   rw[e];exact gY
 ·have hp:2^u≤32:=Nat.pow_le_pow_right (n:=2) (by decide) (by omega:u≤5)
  have hg:ws[i]? =some (ws.getD i 0):=by rw[List.getElem?_eq_getElem (by rw[hf.len];exact hi),List.getD_eq_getElem?_getD,List.getElem?_eq_getElem (by rw[hf.len];exact hi)];rfl
  have hwi:=hw.2 _ (List.mem_of_getElem? hg)
  have hm:=aj.iP u
  refine DR.self ?_
  refine Ld.at hv (fun _ h=>h) (Ld.at hv (fun _ h=>h) ?_)
  refine aa.uy (a:=1) (b:=u) (by simp[IntKind.bits];omega) (by rw[Nat.one_shiftLeft];simp[bA];omega) ?_
  rw[Nat.one_shiftLeft]
  refine ae.eq (v9 (u:=u) (i:=0) (by omega) (by omega) (by omega) B) ?_
  rw[if_neg h6]
  refine⟨.refl _,?_⟩
  refine Ld.at hb (fun _ h=>h) ?_
  cases c
  ·refine Br.no ?_
   refine ag.at ha fun q hq=>Ld.at hq (fun _ h=>h) ?_
   refine hw.1.ld (bV hg) (fun _ h=>h) ?_
   refine aa.Gn (by simpa[bA]using hwi) (by simpa[bA]using hm) ?_
   refine aa.wR ?_
   have:=nk (ws.getD i 0) (aj.mask u)
   refine aa.Jb (by simp only[bA];omega) (by simp only[bA];omega) ?_
   exact bN.mk (.refl _) (by unfold aj.pC;rw[if_neg h6];rfl)
  ·refine Br.yes ?_
   refine ag.at ha fun q hq=>Ld.at hq (fun _ h=>h) ?_
   refine hw.1.ld (bV hg) (fun _ h=>h) ?_
   refine aa.iL (by simpa[bA]using hwi) (by simpa[bA]using hm) ?_
   have h1:ws.getD i 0&&&aj.mask u≤ws.getD i 0:=Nat.and_le_left
   refine aa.j7 (by simp only[bA];omega) ?_
   have h2:=Nat.shiftRight_le (ws.getD i 0&&&aj.mask u) (2^u)
   refine aa.Jb (by simp only[bA];omega) (by simp only[bA];omega) ?_
   exact bN.mk (.refl _) (by unfold aj.pC;rw[if_neg h6];rfl)
theorem xz{B:Hp}{v:Value}{n u:Nat}{ws:List Nat}{c:Bool}(ht:AO B v ⟨n,ws⟩)(hf:aj.dh n ws)(hu:u<n):
  Px Tryz.prog 215 #[v,.int .i64 (u:Int),.bool c] B (fun v H=>AO H v ⟨n,aj.eV n ws u c⟩):=by
 obtain⟨s,rfl,hw⟩:=ht
 refine aR fun g=>DS ?_
 intro b1 _ b3 _ b5 _ b7 _
 refine ag.mk (Ld.mk zM rfl ?_)
 refine ae.px (.cons .here) (mZ hf.qd rfl (by kernel_rfl) (F:=fun i=>aj.pC ws u c i) (fun i hi=>?_) (fun i hi=>?_)) ?_
 ·unfold aj.pC
  split
  ·by_cases h:aj.aA i (u-6) c<ws.length
   ·rw[List.getD_eq_getElem?_getD,List.getElem?_eq_getElem h];exact hf.lt (List.getElem_mem h)
   ·rw[List.getD_eq_getElem?_getD,List.getElem?_eq_none (by omega)];decide
  ·have hg:ws.getD i 0<2^64:=by rw[List.getD_eq_getElem?_getD,List.getElem?_eq_getElem (by rw[hf.len];exact hi)];exact hf.lt (List.getElem_mem _)
   split
   ·refine Nat.or_lt_two_pow (n:=64) (Nat.lt_of_le_of_lt Nat.and_le_left hg) (Nat.lt_of_le_of_lt (Nat.shiftRight_le _ _) (Nat.lt_of_le_of_lt Nat.and_le_left hg))
   ·exact Nat.or_lt_two_pow (n:=64) (Nat.lt_of_le_of_lt (nk _ _) hg) (Nat.mod_lt _ (by decide))
 ·exact LK (Go.Sx.At.block (l:=[.int .i64 (u:Int)]) zM) (Go.Sx.At.block (l:=[.bool c]) zM) (Go.Sx.At.block (l:=[.int .i64 (n:Int),s]) zM) (hw.mono zS) hf hu hi
 ·rintro v N ⟨s',rfl,di⟩
  refine St.p ?_ ?_
  ·have:=aG di;simpa[Value.oneCell']using this
  refine av.q ?_
  exact tL.mk (by repeat (first|exact aT.refl _|apply aT.cons|apply aT.app)) ⟨s',rfl,di.mono zS⟩
theorem wK{B:Hp}{v:Value}{n u:Nat}{ws:List Nat}{c:Bool}(ht:AO B v ⟨n,ws⟩)(hf:aj.dh n ws)(hu:u<n):
  Px Tryz.prog 148 #[v,.int .i64 (u:Int),.bool c] B (fun r H=>∃v',r=.tuple #[v',.int .i64 0]∧AO H v' ⟨n,aj.eV n ws u c⟩):=by
 obtain⟨s,rfl,hw⟩:=ht
 refine aR fun g=>EF ?_
 intro b1 _ b3 _
 refine av.q ?_
 refine ae.eq (Uj (t:=⟨n,ws⟩) ⟨s,rfl,hw.mono zS⟩ (u:Int)) ?_
 rw[if_pos (show TF ⟨(n:Int),ws⟩from⟨by simp,by simpa using hf⟩),if_pos ⟨by omega,by simp only;omega⟩]
 refine aa.cG (Br.F ?_)
 refine av.q ?_
 refine ae.pq (xz (v:=.agg (List.toArray [.int .i64 (n:Int),s])) ⟨s,rfl,hw.mono zS⟩ hf hu) ?_
 rintro v N ⟨s',rfl,di⟩
 refine St.p ?_ ?_
 ·have:=aG di;simpa[Value.oneCell']using this
 refine av.q ?_
 exact tL.mk (by repeat (first|exact aT.refl _|apply aT.cons|apply aT.app)) ⟨_,rfl,s',rfl,di.mono zS⟩
theorem Aa{w j:Nat}(hj:j<8):((List.range (j+1)).map fun i=>UInt8.ofNat (w>>>(8*i)))=((List.range j).map fun i=>UInt8.ofNat (w>>>(8*i)))++[UInt8.ofNat (w>>>(8*j))]:=by
 rw[List.range_succ,List.map_append];rfl
theorem Ig(l:List UInt8)(n:Nat):qv (l++[UInt8.ofNat n])=qv l++[[Value.int .u8 ((n%256:Nat):Int)]]:=by
 simp[qv]
theorem Bu{B:Hp}{v:Value}{t:Tb}(ht:AO B v t)(hl:t.ws.length≤4294967296):Rd Tryz.prog 234 #[v] B (· =wM (aj.fT t.ws)):=by
 obtain⟨s,rfl,hw⟩:=ht
 refine aR fun g=>DE ?_
 intro b1 _
 refine ag.mk (Ld.mk zM rfl ?_)
 refine hw.1.bc ?_
 rw[ai]
 refine⟨fun vs H=>∃(k:Nat) (v:Value) (C:Hp),vs=[v,.int .i64 (k:Int)]∧k≤t.ws.length∧H=C++B∧aO 5 1 v (qv (aj.fT (t.ws.take k))) C,fun vs _=>t.ws.length-br vs 1,
  JE.of (.tail) ⟨0,_,[],rfl,by omega,rfl,aO.nil _ _⟩,?_⟩
 rintro w6 w7 H ⟨k,v,C,⟨⟩,hk,rfl,ho⟩ gs
 refine aa.dH (Br.dec (fun hlt=>?_) (fun hlt=>?_))
 ·have hg:t.ws[k]? =some t.ws[k]:=List.getElem?_eq_getElem hlt
  have hwk:=hw.2 _ (List.getElem_mem hlt)
  refine hw.1.ld (bV hg) zS ?_
  have hlen:(qv (aj.fT (t.ws.take k))).length=8*k:=by simp only[qv,List.length_map,aj.qO,List.length_take];omega
  refine⟨fun vs H=>∃(j:Nat) (v:Value) (C:Hp),vs=[v,.int .i64 (j:Int)]∧j≤8∧H=C++B∧aO 5 1 v (qv (aj.fT (t.ws.take k)++(List.range j).map fun i=>UInt8.ofNat (t.ws[k]>>>(8*i)))) C,fun vs _=>8-br vs 1,
   JE.mk ⟨0,_,C,rfl,by omega,rfl,by simpa using ho⟩,?_⟩
  rintro w8 w9 H ⟨j,v,C,⟨⟩,hj,rfl,ho⟩ gs
  refine aa.dH (b:=8) (Br.dec (fun h8=>?_) (fun h8=>?_))
  ·refine aa.jx (a:=8) ?_
   refine aa.j7 (by simpa[bA]using hwk) ?_
   refine aQ.Zz ?_
   refine aq.int (e:=5) (by kernel_rfl) (by kernel_rfl) (by kernel_rfl) fun xb=>?_
   refine ho.Ce (A:=[_]) (r:=[Value.int .u8 (((t.ws[k]>>>(8*j))%256:Nat):Int)]) (by exact .head _) rfl (by simp[Value.oneCell']) ⟨[.int .u8 0],rfl,rfl⟩ (by simp only[qv,List.length_map,List.length_append,List.length_range]at hlen⊢;omega) (by simp only[qv,List.length_map,List.length_append,List.length_range]at hlen⊢;omega) fun v' C' cj=>?_
   refine aa.inc ?_
   refine aB.of .tail ⟨j+1,_,C',rfl,by omega,rfl,?_⟩ (by simp[br];omega)
   rw[Aa h8,←List.append_assoc,Ig];exact cj
  ·have:j=8:=by omega
   subst this
   refine aa.inc ?_
   refine aB.mk ⟨k+1,_,C,rfl,by omega,rfl,?_⟩ (by simp[br];omega)
   rw[List.take_succ_eq_append_getElem hlt,aj.fT,List.flatMap_append]
   simpa[aj.fT,aj.jg]using ho
 ·have:k=t.ws.length:=by omega
  subst this
  rw[List.take_length]at ho
  refine ji.own ho (fun _ h=>List.mem_append_left _ h) ?_
  exact bN.mk .right rfl
theorem SW{B:Hp}{b n:Nat}{es:Array MapEntry}{ck:Nat}{m:List (List UInt8×List Nat)}{v:Value}{ws:List Nat}(hE:eZ n B es ck m)(ht:AO B v ⟨n,ws⟩)(hf:aj.dh n ws):
  Fc Tryz.prog 233 #[.map (some b),v] ((b,.map es ck)::B) (fun _ H=>∃es' ca N,H=(b,.map es' ca)::(N++B)∧eZ n (N++B) es' ca (wH m ws)):=by
 obtain⟨s,rfl,hw⟩:=ht
 refine aR fun g=>DF ?_
 intro b1 _
 refine DR.self ?_
 refine av.q ?_
 refine av.q ?_
 refine ae.eq (Bu (t:=⟨n,ws⟩) ⟨s,rfl,hw⟩ (rO hf)) ?_
 refine⟨.refl _,?_⟩
 refine hE.bS (b:=b) ⟨s,rfl,hw⟩ hf fun es' ca zB=>⟨_,.tail (.head _),?_⟩
 exact aS.mk (kZ:=(b,.map es' ca)::([]++B)) .tail ⟨es',ca,[],rfl,zB⟩
theorem u7{B:Hp}{v:Value}{n:Nat}{ts:List Tb}{L:List (List Nat)}(ht:dZ B v ts)(hL:ts=L.map fun ws=>⟨n,ws⟩)(hf:∀ws∈L,aj.dh n ws)(bH:L.length<4611686018427387904):
  Fc Tryz.prog 176 #[v] B (fun r H=>∃b es ck m N,r=.map (some b)∧H=(b,.map es ck)::(N++B)∧eZ n (N++B) es ck m∧∀x,x∈m.map Prod.snd↔x∈L):=by
 have hlen:ts.length=L.length:=by rw[hL];simp
 refine aR fun g=>Em ?_
 intro b _
 refine ht.bc ?_
 rw[hlen]
 refine⟨fun vs H=>∃(k:Nat) (es:Array MapEntry) (ck:Nat) (m:List (List UInt8×List Nat)) (N:Hp),vs=[.int .i64 (k:Int)]∧k≤L.length∧H=(b,.map es ck)::(N++B)∧eZ n (N++B) es ck m∧∀x,x∈m.map Prod.snd↔x∈L.take k,
  fun vs _=>L.length-br vs 0,JE.mk ⟨0,_,_,[],[],rfl,by omega,rfl,eZ.empty _ _,by simp⟩,?_⟩
 rintro w H ⟨k,es,ck,m,N,⟨⟩,hk,rfl,hE,hm⟩ gs
 refine aa.dH (Br.dec (fun hlt=>?_) (fun hlt=>?_))
 ·have hg:ts[k]? =some ⟨n,L[k]⟩:=by rw[hL,List.getElem?_map,List.getElem?_eq_getElem hlt];rfl
  have nx:=hf L[k] (List.getElem_mem hlt)
  refine ht.ld hg zS fun s hw=>?_
  intro b2 _
  refine St.p ?_ ?_
  ·have:=aG hw;simpa[Value.oneCell']using this
  refine av.q ?_
  refine ae.fq (SW hE ⟨s,rfl,hw.mono zS⟩ nx) ?_
  rintro r C' ⟨es',ca,N',rfl,zB⟩
  refine aa.inc ?_
  refine aB.of .tail ⟨k+1,es',ca,wH m L[k],N'++N,rfl,by omega,by rw[List.append_assoc],by rw[List.append_assoc];exact zB,fun x=>?_⟩ (by simp[br];omega)
  rw[pW hE.2 nx,hm,List.take_succ_eq_append_getElem hlt,List.mem_append,List.mem_singleton]
 ·have:k=L.length:=by omega
  subst this
  rw[List.take_length]at hm
  exact aS.here ⟨b,es,ck,m,N,rfl,rfl,hE,hm⟩
theorem tg{B:Hp}{bm n u:Nat}{es:Array MapEntry}{ck:Nat}{m:List (List UInt8×List Nat)}(hm:(bm,Obj.map es ck)∈B)(hE:eZ n B es ck m)(hu:u<n)(bH:m.length<4611686018427387904):
  Fc Tryz.prog 177 #[.map (some bm),.int .i64 (u:Int)] B (fun r H=>∃b' es' ca m' N,r=.tuple #[.map (some b'),.int .i64 ((aj.nodes n (m.map Prod.snd) u).length:Int)]∧H=(b',.map es' ca)::(N++B)∧eZ n (N++B) es' ca m'∧
   ∀x,x∈m'.map Prod.snd↔∃t∈m.map Prod.snd,∃c,x=aj.eV n t u c):=by
 refine aR fun g=>El ?_
 intro b' _
 refine .inr ⟨bm,es,ck,rfl,.tail _ hm,fun bi _=>?_⟩
 refine⟨fun vs H=>∃(es':Array MapEntry) (ca:Nat) (m':List (List UInt8×List Nat)) (seen:Array Nat) (N:Hp) (D:List (List Nat)),vs=[.int .i64 ((aj.nodes n D u).length:Int)]∧
   H=(bi,.mapIter (some bm) ck seen ck)::(b',.map es' ca)::(N++B)∧eZ n (N++B) es' ca m'∧(m.map Prod.snd).Perm (D++(cA es m seen).map Prod.snd)∧∀x,x∈m'.map Prod.snd↔∃t∈D,∃c,x=aj.eV n t u c,
  fun vs H=>match H with|(_,.mapIter _ _ seen _)::_=>(cA es m seen).length|_=>0,JE.mk ⟨_,_,[],_,[],[],rfl,rfl,eZ.empty _ _,?_,by simp⟩,?_⟩
 ·rw[nU hE.1];simp
 rintro w H ⟨es',ca,m',seen,N,D,⟨⟩,rfl,zB,dg,hmem⟩ gs
 have hbm:∀{X:Hp},(bm,Obj.map es ck)∈X++B:=List.mem_append_right _ hm
 refine hE.1.next (.tail _ (.tail _ hbm)) (.head _) (fun e x seen' he hkey hval hstep Vu hfind=>⟨_,.head _,?_⟩) (fun BC=>?_)
 ·obtain⟨bs,ws⟩:=x
  simp only at hval hkey
  refine Ext.mk rfl (Br.yes ?_)
  refine⟨bi,bm,ck,seen',e.born,ck,es,e,rfl,.head _,Vu,.tail _ (.tail _ hbm),hfind,?_⟩
  refine Ext.mk rfl ?_
  have hx:(bs,ws)∈m:=by
   have h:=hstep.mem_iff.2 (List.mem_cons_self (a:=(bs,ws)))
   unfold cA at h
   obtain⟨p,hp,kE⟩:=List.mem_map.1 h
   rw[←kE]
   exact(List.of_mem_zip (List.mem_filter.1 hp).1).2
  obtain⟨hbs,hf⟩:=hE.2 _ hx
  simp only at hbs hf
  obtain⟨s,Vi,hw⟩:=hval
  rw[Vi]
  have hone:=aG hw
  intro b1 _
  refine St.p (by simpa[Value.oneCell']using hone) ?_
  refine av.q ?_
  refine ae.pq (B:=N++B) (wK (n:=n) (ws:=ws) ⟨s,rfl,hw.mono zS⟩ hf hu) ?_
  rintro r N1 ⟨v1,rfl,s1,rfl,jj⟩
  have US:=aG jj
  refine Ext.two ?_
  intro b2 _
  refine St.p (by simpa[Value.oneCell']using US) ?_
  refine av.q ?_
  refine ae.pq (B:=N1++(N++B)) (wK (n:=n) (ws:=ws) ⟨s,rfl,hw.mono zS⟩ hf hu) ?_
  rintro r N2 ⟨v2,rfl,s2,rfl,py⟩
  have UR:=aG py
  refine Ext.two ?_
  intro b3 _
  refine St.p (by simpa[Value.oneCell']using UR) ?_
  refine DR.self ?_
  refine av.q ?_
  refine av.q ?_
  have f1:=aj.cy (v:=u) (ws:=ws) (b:=false) hf.qd
  have f2:=aj.cy (v:=u) (ws:=ws) (b:=true) hf.qd
  refine ae.eq (B:=N2++(N1++(N++B))) (Bu (t:=⟨n,aj.eV n ws u false⟩) ⟨s1,rfl,jj.mono zS⟩ (rO f1)) ?_
  refine⟨.refl _,?_⟩
  refine ae.eq (B:=N2++(N1++(N++B))) (Bu (t:=⟨n,aj.eV n ws u true⟩) ⟨s2,rfl,py⟩ (rO f2)) ?_
  refine⟨.refl _,?_⟩
  intro J hJ
  have xx:(aj.fT (aj.eV n ws u false)≠aj.fT (aj.eV n ws u true))↔aj.dep n ws u=true:=by
   simp only[aj.dep,ne_eq,decide_eq_true_eq]
   exact not_congr ⟨fun h=>f1.key_inj f2 h,fun h=>by rw[h]⟩
  have gY:JE J [.int .i64 ((aj.nodes n (D++[ws]) u).length:Int)] ((b3,.cells (List.toArray [.int .i64 (n:Int),s2]) 57 (0,0))::(b2,.cells (List.toArray [.int .i64 (n:Int),s1]) 57 (0,0))::
    (b1,.cells (List.toArray [.int .i64 (n:Int),s]) 57 (0,0))::(bi,.mapIter (some bm) ck seen' ck)::(b',.map es' ca)::(N2++(N1++(N++B)))):=by
   refine JE.mk (hJ _ _ fun gs=>?_)
   refine DR.of (R:=(b3,.cells (List.toArray [.int .i64 (n:Int),s2]) 57 (0,0))::(b2,.cells (List.toArray [.int .i64 (n:Int),s1]) 57 (0,0))::[]) ?_ ?_
   ·exact .cons (.cons (fun g w h=>(Own.left (B:=_) (A:=[]) h)))
   refine av.q ?_
   refine av.q ?_
   have vP:=zB.mono (B':=N2++(N1++(N++B))) zS
   refine vP.bS (b:=b') (ws:=aj.eV n ws u false) ⟨s1,rfl,jj.mono zS⟩ f1 fun mr nD QN=>⟨_,.tail (.tail (.tail (.tail (.head _)))),?_⟩
   refine⟨.cons (.cons (fun g w h=>(Own.left (B:=_) (A:=[]) h))),?_⟩
   refine QN.bS (b:=b') (ws:=aj.eV n ws u true) ⟨s2,rfl,py⟩ f2 fun rR we hE4=>⟨_,.tail (.tail (.tail (.tail (.head _)))),?_⟩
   refine aB.of (H':=(bi,.mapIter (some bm) ck seen' ck)::(b',.map rR we)::((N2++(N1++N))++B)) ?_ ⟨rR,we,wH (wH m' (aj.eV n ws u false)) (aj.eV n ws u true),seen',N2++(N1++N),D++[ws],rfl,rfl,?_,?_,fun x=>?_⟩ ?_
   ·refine .skip (.skip (.skip (.cons (.cons ?_))))
    intro g w h;rw[List.append_assoc,List.append_assoc];exact h
   ·rw[List.append_assoc,List.append_assoc];exact hE4
   ·refine dg.trans ?_
    refine(List.Perm.append_left D (hstep.map Prod.snd)).trans ?_
    simp only[List.map_cons,List.append_assoc,List.cons_append,List.nil_append]
    exact .refl _
   ·rw[pW QN.2 f2,pW vP.2 f1,hmem]
    constructor
    ·rintro((⟨t,ht,c,rfl⟩|rfl)|rfl)
     ·exact⟨t,by simp[ht],c,rfl⟩
     ·exact⟨ws,by simp,_,rfl⟩
     ·exact⟨ws,by simp,_,rfl⟩
    ·rintro⟨t,ht,c,rfl⟩
     rcases List.mem_append.1 ht with ht|ht
     ·exact .inl (.inl ⟨t,ht,c,rfl⟩)
     ·simp at ht;subst ht
      cases c
      ·exact .inl (.inr rfl)
      ·exact .inr rfl
   ·have:=hstep.length_eq
    simp only[List.length_cons]at this⊢
    omega
  refine aa.T6 (Br.dec (fun h=>?_) (fun h=>?_))
  ·refine aa.PM (b:=1) ?_ ?_
   ·have h1:=dg.length_eq
    simp only[List.length_map,List.length_append]at h1
    have h2:(aj.nodes n D u).length≤D.length:=List.length_filter_le _ _
    simp[bA];omega
   ·have:(aj.nodes n (D++[ws]) u).length=(aj.nodes n D u).length+1:=by
     simp[aj.nodes,List.filter_append,xx.1 h]
    rw[this]at gY;exact gY
  ·have:(aj.nodes n (D++[ws]) u).length=(aj.nodes n D u).length:=by
    have hd:aj.dep n ws u=false:=by cases hh:aj.dep n ws u;rfl;exact absurd (xx.2 hh) h
    simp[aj.nodes,List.filter_append,hd]
   rw[this]at gY;exact gY
 ·refine Ext.mk rfl (Br.no ?_)
  rw[BC]at dg
  simp only[List.map_nil,List.append_nil]at dg
  refine aS.mk (kZ:=(b',.map es' ca)::(N++B)) .tail ⟨b',es',ca,m',N,?_,rfl,zB,fun x=>?_⟩
  ·rw[aj.iz dg]
  ·rw[hmem]
   constructor
   ·rintro⟨t,ht,h⟩;exact⟨t,dg.mem_iff.2 ht,h⟩
   ·rintro⟨t,ht,h⟩;exact⟨t,dg.mem_iff.1 ht,h⟩
theorem G0{B:Hp}{v:Value}{ts:List Tb}(ht:dZ B v ts)(bH:ts.length<2^62):Rd Tryz.prog 175 #[v] B (· =.bool (decide (∀t∈ts,TF t∧some t.n=ts.head?.map Tb.n))):=by
 intro g
 refine En (R:=aS _) ?_
 unfold L175
 refine ht.bc ?_
 refine⟨fun vs H=>aT B H∧∃k:Nat,vs=[.int .i64 (k:Int)]∧k≤ts.length∧∀i t,i<k→ts[i]? =some t→TF t∧some t.n=ts.head?.map Tb.n,fun vs _=>ts.length-br vs 0,JE.mk ⟨.refl _,0,rfl,by omega,by omega⟩,?_⟩
 rintro w H ⟨hg,k,hv,hk,aE⟩ gs
 simp only[List.cons.injEq,and_true]at hv
 subst hv
 refine aa.dH (Br.dec (fun hlt=>?_) (fun hlt=>?_))
 ·obtain⟨t,jE⟩:∃t,ts[k]? =some t:=⟨_,List.getElem?_eq_getElem hlt⟩
  obtain⟨t0,OG⟩:∃t,ts[0]? =some t:=⟨_,List.getElem?_eq_getElem (by omega)⟩
  have hh:ts.head?.map Tb.n=some t0.n:=by rw[List.head?_eq_getElem?,OG];rfl
  have UC:=ht.mono hg.sub
  refine UC.ld jE (fun _ h=>h) fun s hs=>?_
  intro b1 _
  refine St.whole (r:=[.int .i64 t.n,s]) (by exact cD.head _) rfl rfl ?_ ?_
  ·obtain⟨a,c,rfl,_⟩:=hs.1.shape;simp[Value.oneCell']
  intro J hJ
  have hno:∀H',aT B H'→¬(TF t∧some t.n=ts.head?.map Tb.n)→JE J [.bool true] H':=fun H' Qu h=>
   JE.mk (hJ _ _ fun gs=>Br.yes (bN.mk Qu.ie (by rw[decide_eq_false];exact fun hh=>h (hh t (List.mem_of_getElem? jE)))))
  have Qt:aT B ((b1,Obj.cells (List.toArray [.int .i64 t.n,s]) 57 (0,0))::H):=.cons hg
  refine DR.self ?_
  refine av.whole (r:=[.int .i64 t.n,s]) (by exact List.Mem.head _) rfl ?_
  intro F
  refine ae.rd (B:=H) (.cons .here) (zK ⟨s,rfl,hs⟩) ?_
  rintro v rfl
  refine⟨.refl _,Un.not ?_⟩
  by_cases hT:TF t
  case neg=>rw[decide_eq_false hT];exact Br.yes (hno _ Qt fun h=>hT h.1)
  rw[decide_eq_true hT]
  refine Br.no ?_
  refine ag.mk (Ld.mk zM rfl ?_)
  refine UC.Tn OG zS ?_
  refine aa.cG (ay.mk ?_)
  simp only[cond_false]
  by_cases hn:t.n=t0.n
  case neg=>rw[decide_eq_true hn];exact hno _ Qt fun h=>hn (by have:=h.2;rw[hh]at this;simpa using this)
  rw[decide_eq_false (by simpa using hn)]
  refine JE.mk (hJ _ _ fun gs=>Br.no ?_)
  refine aa.PM (b:=1) (by simp[bA];omega) ?_
  refine aB.mk ⟨Qt,k+1,rfl,by omega,fun i u hi hu=>?_⟩ (by simp[br];omega)
  by_cases e:i=k
  ·subst e;rw[jE]at hu;cases hu;exact⟨hT,by rw[hh,hn]⟩
  ·exact aE i u (by omega) hu
 ·refine bN.mk hg.ie ?_
  rw[decide_eq_true]
  intro t XW
  obtain⟨i,hi,rfl⟩:=List.mem_iff_getElem.1 XW
  exact aE i _ (by omega) (List.getElem?_eq_getElem hi)
def pP(ts:List Tb):Prop:=∀t∈ts,TF t∧some t.n=ts.head?.map Tb.n
instance (ts:List Tb):Decidable (pP ts):=by unfold pP;infer_instance
theorem oa{B:Hp}{v:Value}{ts:List Tb}(ht:dZ B v ts)(bH:ts.length<2^62):Rd Tryz.prog 175 #[v] B (· =.bool (decide (pP ts))):=G0 ht bH
theorem sF{n:Nat}{L:List (List Nat)}(hf:∀ws∈L,aj.dh n ws):pP (L.map fun ws=>⟨n,ws⟩):=by
 intro t ht
 obtain⟨ws,WL,rfl⟩:=List.mem_map.1 ht
 refine⟨⟨by simp,by simpa using hf ws WL⟩,?_⟩
 cases L with
 |nil=>simp at WL
 |cons a b=>rfl
theorem FM{ts:List Tb}(h:pP ts)(hne:ts≠[]):∃(n:Nat) (L:List (List Nat)),n≤16∧ts=L.map (fun ws=>⟨n,ws⟩)∧L≠[]∧∀ws∈L,aj.dh n ws:=by
 cases ts with
 |nil=>exact absurd rfl hne
 |cons t r=>
  have ht:=(h t (by simp)).1
  have hn:∀u∈t::r,u.n=t.n:=fun u hu=>by have:=(h u hu).2;simpa using this
  refine⟨t.n.toNat,(t::r).map Tb.ws,ht.2.qd,?_,by simp,fun ws WL=>?_⟩
  ·rw[List.map_map]
   conv=>lhs;rw[←List.map_id (t::r)]
   apply List.map_congr_left
   intro u hu
   have h1:=hn u hu
   have h2:=ht.1
   obtain⟨un,uw⟩:=u
   simp only[Function.comp,id]at h1⊢
   congr 1;omega
  ·obtain⟨u,hu,rfl⟩:=List.mem_map.1 WL
   have:=(h u hu).1.2
   rwa [hn u hu]at this
end Go.Proofs
namespace aC
theorem Rm.qp(m:Rm):∀ls ord,m.c9 0 ls ord=ls.take (m.c9 0 ls ord).length
 | [],_=>rfl
 |c::cs,ord=>by
  by_cases hf:m.fit ord (0+c)=true
  ·have:=m.qp cs (iJ ord (0+c))
   rw[c9,if_pos hf,List.length_cons,List.take_succ_cons,←this,Nat.zero_add]
  ·rw[c9,if_neg hf];simp
def Rm.can(m:Rm)(ord ls:List Nat):Bool:=decide ((m.c9 0 ls ord).length=ls.length)
theorem Rm.LV(m:Rm){ord ls:List Nat}{i:Nat}(hi:i<(m.c9 0 ls ord).length){l:Nat}(hl:ls[i]? =some l):m.fit (au ord (ls.take i)) l=true:=by
 obtain⟨_,c,h1,h2⟩:=m.pD 0 ls ord i hi
 rw[hl]at h1;cases h1
 rw[m.qp,List.take_take,Nat.min_eq_left (Nat.le_of_lt hi),Nat.zero_add]at h2
 exact h2
theorem Rm.HS(m:Rm){ord ls:List Nat}{l:Nat}(hl:ls[(m.c9 0 ls ord).length]? =some l):m.fit (au ord (ls.take (m.c9 0 ls ord).length)) l=false:=by
 have:=m.tf 0 ls ord l hl
 rw[Nat.zero_add]at this
 rw[←m.qp]
 exact this
def road(a b:Nat):List Nat:=List.range' a (b-a)++(List.range' b (a-b)).reverse
theorem yE(a b:Nat):(road a b).length=(b-a)+(a-b):=by simp[road]
theorem JZ{a b l n:Nat}(ha:a<n)(hb:b<n)(h:l∈road a b):l+1<n:=by
 unfold road at h
 rcases List.mem_append.1 h with h|h
 ·rw[List.mem_range'_1]at h;omega
 ·rw[List.mem_reverse,List.mem_range'_1]at h;omega
theorem iO{α:Type}[DecidableEq α]:∀{l p:List α},l.Nodup→(∀x∈l,x∈p)→p.length≤l.length→l.Perm p
 | [],p,_,_,h=>by
  have:p=[]:=List.length_eq_zero_iff.1 (by simpa using h)
  subst this;exact .refl _
 |x::t,p,hn,hs,hl=>by
  have hx:=hs x (by simp)
  have hp:=List.perm_cons_erase hx
  have hlen:(p.erase x).length=p.length-1:=List.length_erase_of_mem hx
  have hpos:=List.length_pos_of_mem hx
  refine(List.Perm.cons x (iO (List.nodup_cons.1 hn).2 (fun y hy=>?_) (by simp only[List.length_cons]at hl;omega))).trans hp.symm
  refine(List.mem_erase_of_ne fun e=>?_).2 (hs y (by simp[hy]))
  subst e;exact(List.nodup_cons.1 hn).1 hy
end aC
set_option maxRecDepth 100000
namespace Go.Proofs
open Go Go.Sx
open aC
theorem ze{l:List Nat}(h:l.Nodup):(iw l).Nodup:=List.pairwise_map.2 (h.imp fun hne e=>hne (Int.ofNat.inj e))
theorem nm{p:List Int}:mE p↔p.Perm (iw (List.range p.length)):=by
 constructor
 ·intro h
  refine(iO (ze List.nodup_range) (fun x hx=>?_) (by rw[ai,List.length_range];exact Nat.le_refl _)).symm
  obtain⟨k,hk,rfl⟩:=List.mem_map.1 hx
  exact h k (List.mem_range.1 hk)
 ·intro h v hv
  exact h.mem_iff.2 (List.mem_map.2 ⟨v,List.mem_range.2 hv,rfl⟩)
theorem MJ{p:List Int}(hn:p.Nodup)(h:∀x∈p,0≤x∧x<(p.length:Int)):mE p:=by
 refine nm.2 (iO hn (fun x hx=>?_) (by rw[ai,List.length_range];exact Nat.le_refl _))
 obtain⟨h1,h2⟩:=h x hx
 exact List.mem_map.2 ⟨x.toNat,List.mem_range.2 (by omega),by show((x.toNat:Nat):Int)=x;omega⟩
theorem Am{p:List Int}(h:mE p){x:Int}(hx:x∈p):0≤x∧x<(p.length:Int):=by
 have:=(nm.1 h).mem_iff.1 hx
 obtain⟨k,hk,rfl⟩:=List.mem_map.1 this
 have:=List.mem_range.1 hk
 show(0:Int)≤(k:Int)∧(k:Int)<_
 omega
theorem Al{p:List Int}(h:mE p):p.Nodup:=(nm.1 h).nodup_iff.2 (ze List.nodup_range)
theorem JT{p:List Int}{i n W:Nat}(hi:i<p.length)(hn:p[i]=(n:Int))(hw:n<W):((List.range W).map fun k=>decide (((k:Nat):Int)∈p.take i)).set n true=(List.range W).map fun k=>decide (((k:Nat):Int)∈p.take (i+1)):=by
 apply List.ext_getElem?
 intro j
 rw[List.take_succ_eq_append_getElem hi,hn]
 by_cases hj:j<W
 ·by_cases e:n=j
  ·subst e;rw[List.getElem?_set_self (by simpa using hw)];simp[hw]
  ·rw[List.getElem?_set_ne e]
   simp only[List.getElem?_map,List.getElem?_range hj,Option.map_some,List.mem_append,List.mem_singleton]
   congr 1
   have:¬((j:Nat):Int)=(n:Int):=by omega
   simp[this]
 ·rw[List.getElem?_eq_none (by simp;omega),List.getElem?_eq_none (by simp;omega)]
theorem GX{p:List Int}{W:Nat}:List.replicate W false=(List.range W).map fun k=>decide (((k:Nat):Int)∈p.take 0):=by
 apply List.ext_getElem?
 intro j
 by_cases hj:j<W
 ·simp[hj]
 ·rw[List.getElem?_eq_none (by simp;omega),List.getElem?_eq_none (by simp;omega)]
theorem ju{B:Hp}{v:Value}{p:List Int}(h:cS .i64 B v p)(bH:p.length≤70368744177664):Rd Tryz.prog 101 #[v] B (fun r=>(r=.int .i64 0∧mE p∧p.length≤64)∨(r=.int .i64 13∧mE p∧64<p.length)∨(r=.int .i64 4∧¬mE p)):=by
 refine aR fun g=>Fe ?_
 refine h.bc (cO.Ms (by omega) fun b=>h.bc ?_)
 rw[GX (p:=p)]
 refine⟨fun vs H=>∃i:Nat,vs=[.int .i64 (i:Int)]∧H=(b,.cells (dW ((List.range p.length).map fun k=>decide (((k:Nat):Int)∈p.take i))) 4 (0,0))::B∧i≤p.length∧(p.take i).Nodup∧∀x∈p.take i,0≤x∧x<(p.length:Int),fun vs _=>p.length-br vs 0,
  JE.mk ⟨0,rfl,rfl,Nat.zero_le _,by simp,by simp⟩,?_⟩
 rintro w H ⟨i,⟨⟩,rfl,hi,gE,hin⟩ gs
 refine aa.dH (Br.dec (fun hlt=>?_) (fun hlt=>?_))
 ·refine h.ld (List.getElem?_eq_getElem hlt) (fun _ h=>.tail _ h) ?_
  obtain⟨x,hx⟩:∃x,p[i]=x:=⟨_,rfl⟩
  have Uy:x∈p:=by rw[←hx];exact List.getElem_mem hlt
  rw[hx]
  have hB:=As.block (b:=b) (cap:=p.length) (l:=(List.range p.length).map fun k=>decide (((k:Nat):Int)∈p.take i)) (T:=4) (fz:=(0,0)) (B:=(b,.cells (dW ((List.range p.length).map fun k=>decide (((k:Nat):Int)∈p.take i))) 4 (0,0))::B) (.head _) (by simp)
  rw[List.length_map,List.length_range]at hB
  refine aa.lss ?_
  refine df.or (decide ((p.length:Int)≤x)) (fun _=>h.bc (aa.geq ⟨rfl,rfl⟩)) (by simp) fun gs=>?_
  rw[←Bool.decide_or]
  refine df.or (decide (x∈p.take i)) (fun hno=>?_) (by simp) fun gs=>?_
  ·have zn:=of_decide_eq_false hno
   obtain⟨n,rfl⟩:∃n:Nat,x=n:=⟨x.toNat,by omega⟩
   refine hB.ld (b:=decide (((n:Nat):Int)∈p.take i)) ?_ (fun _ h=>h) ⟨rfl,rfl⟩
   rw[List.getElem?_map,List.getElem?_range (by omega)];rfl
  rw[←Bool.decide_or]
  refine Br.dec (fun OW=>bN.mk .tail (.inr (.inr ⟨rfl,fun ha=>?_⟩))) (fun Vc=>?_)
  ·have h1:=Am ha Uy
   rcases OW with hb|hb
   ·omega
   ·have h2:=Al ha
    rw[←List.take_append_drop i p,List.nodup_append]at h2
    refine h2.2.2 x hb x ?_ rfl
    rw[List.drop_eq_getElem_cons hlt,hx];exact .head _
  ·obtain⟨n,rfl⟩:∃n:Nat,x=n:=⟨x.toNat,by omega⟩
   refine an.nat (by omega) ?_
   refine St.Ms (l:=(List.range p.length).map fun k=>decide (((k:Nat):Int)∈p.take i)) (.head _) (by simp;omega) ?_
   rw[JT hlt hx (by omega)]
   refine aa.inc ?_
   refine aB.mk ⟨i+1,rfl,rfl,hlt,?_,fun x HE=>?_⟩ (by simp only[br];omega)
   ·rw[List.take_succ_eq_append_getElem hlt,hx,List.nodup_append]
    exact⟨gE,by simp,fun a ha b hb e=>by simp at hb;subst hb;subst e;exact Vc (.inr ha)⟩
   ·rw[List.take_succ_eq_append_getElem hlt,hx,List.mem_append,List.mem_singleton]at HE
    rcases HE with HE|rfl
    ·exact hin x HE
    ·omega
 ·obtain rfl:i=p.length:=by omega
  rw[List.take_length]at gE hin
  have aE:=MJ gE hin
  refine h.bc (aa.iU (b:=64) (Br.dec (fun hg=>bN.mk .tail (.inr (.inl ⟨rfl,aE,hg⟩))) (fun hg=>bN.mk .tail (.inl ⟨rfl,aE,by omega⟩))))
theorem GV{B:Hp}{v:Value}{p:List Int}{x:Int}(h:cS .i64 B v p)(bH:p.length<4611686018427387904):Rd Tryz.prog 179 #[v,.int .i64 x] B (· =.int .i64 (if x∈p then((p.idxOf x:Nat):Int)else-1)):=by
 refine aR fun g=>Ej ?_
 refine h.bc ?_
 refine⟨fun vs H=>∃i:Nat,vs=[.int .i64 (i:Int)]∧H=B∧i≤p.length∧x∉p.take i,fun vs _=>p.length-br vs 0,JE.mk ⟨0,rfl,rfl,Nat.zero_le _,by simp⟩,?_⟩
 rintro w H ⟨i,⟨⟩,rfl,hi,hq⟩ gs
 refine aa.dH (Br.dec (fun hlt=>?_) (fun hlt=>?_))
 ·refine h.ld (List.getElem?_eq_getElem hlt) (fun _ h=>h) ?_
  refine aa.gA (Br.dec (fun he=>bN.mk (.refl _) ?_) (fun he=>?_))
  ·rw[if_pos (by rw[he];exact List.getElem_mem hlt),KT hq hlt he.symm]
  ·refine aa.inc ?_
   refine aB.of (.refl _) ⟨i+1,rfl,rfl,hlt,?_⟩ (by simp only[br];omega)
   rw[List.take_succ_eq_append_getElem hlt,List.mem_append,List.mem_singleton]
   rintro(h|h)
   ·exact hq h
   ·exact he h
 ·refine bN.mk (.refl _) ?_
  rw[List.take_of_length_le (by omega)]at hq
  rw[if_neg hq]
theorem Py{B:Hp}{v1 v2:Value}{p q:List Nat}{n:Nat}(h1:cS .i64 B v1 (iw p))(h2:cS .i64 B v2 (iw q))(hp:p.Perm (List.range n))(hq:q.Perm (List.range n))(hn:n≤64):Rd Tryz.prog 178 #[v1,v2] B (· =.int .i64 0):=by
 have e1:p.length=n:=by rw[hp.length_eq,List.length_range]
 have e2:q.length=n:=by rw[hq.length_eq,List.length_range]
 refine aR fun g=>Ek ?_
 refine ae.rq (ju h1 (by rw[ai];omega)) ?_
 rintro v (⟨rfl,_,_⟩|⟨_,_,hl⟩|⟨_,hno⟩)
 rotate_left
 ·rw[ai]at hl;omega
 ·exact absurd (tH hp) hno
 refine ae.rq (ju h2 (by rw[ai];omega)) ?_
 rintro v (⟨rfl,_,_⟩|⟨_,_,hl⟩|⟨_,hno⟩)
 rotate_left
 ·rw[ai]at hl;omega
 ·exact absurd (tH hq) hno
 refine aa.gA ?_
 refine df.or false (fun _=>aa.gA ⟨rfl,rfl⟩) rfl fun gs=>?_
 refine df.or false (fun _=>?_) rfl fun gs=>Br.no ?_
 ·refine h1.bc (h2.bc (aa.uk ⟨rfl,?_⟩))
  rw[ai,ai,decide_eq_false (by omega)]
 ·exact⟨.i64,0,0,rfl,rfl,bN.mk (.refl _) rfl⟩
end Go.Proofs
set_option maxRecDepth 100000
namespace Go.Proofs
open Go Go.Sx
open aC
theorem y2(n:Nat)(ord:List Nat)(L:aj.Fs)(k:Nat):(l5 n ord L k).length≤2^k*L.length:=Nat.le_trans (List.length_filter_le _ _) (xF k)
theorem mP(n:Nat)(ord:List Nat)(L:aj.Fs):∀m,cY n ord L m+L.length≤2^m*L.length
 |0=>by show 0+L.length≤1*L.length;omega
 |m+1=>by
  have ih:=mP n ord L m
  have h:=y2 n ord L m
  show cY n ord L m+(l5 n ord L m).length+L.length≤_
  rw[Nat.pow_succ]
  have:2^m*2*L.length=2*(2^m*L.length):=by rw[Nat.mul_comm (2^m) 2,Nat.mul_assoc]
  omega
def lP(n:Nat)(ord:List Nat)(L:aj.Fs)(m:Nat):List Nat:=(List.range m).map fun k=>(l5 n ord L k).length
theorem Bc(n:Nat)(ord:List Nat)(L:aj.Fs)(m:Nat):lP n ord L (m+1)=lP n ord L m++[(l5 n ord L m).length]:=by
 unfold lP;rw[List.range_succ,List.map_append];rfl
theorem Bb{B:Hp}{v o:Value}{n:Nat}{L:List (List Nat)}{ord:List Nat}(ht:dZ B v (L.map fun ws=>⟨n,ws⟩))(hf:∀ws∈L,aj.dh n ws)(nv:n≤16)(bH:L.length<1048576)(ho:cS .i64 B o (iw ord))(rz:ord.length=n)(hA:mE (iw ord)):
  Px Tryz.prog 99 #[v,o] B (fun r H=>∃s,r=.tuple #[s,.int .i64 0]∧cS .i64 H s (iw (lP n ord L n))):=by
 refine aR fun g=>Il ?_
 refine ae.eq (oa ht (by simp;omega)) ?_
 rw[decide_eq_true (sF hf)]
 refine Un.not (Br.no ?_)
 intro J hJ
 have fin:J [.bool false] B:=by
  refine hJ _ _ fun gs=>Br.no ?_
  clear hJ
  refine ho.bc ?_
  rw[ai,rz]
  refine aa.iU (b:=16) (Br.F ?_)
  refine ae.fq (u7 ht rfl hf (by omega)) ?_
  rintro r H ⟨b,es,ck,m,N,rfl,rfl,hE,hm⟩
  refine ho.bc ?_
  rw[ai,rz]
  have hbound:∀k,k≤n→∀m:List (List UInt8×List Nat),(m.map Prod.snd).Nodup→(∀x,x∈m.map Prod.snd↔x∈cur n ord L k)→m.length<4611686018427387904:=by
   intro k hk m gE hmem
   have h1:=(aj.ew gE (ni k) hmem).length_eq
   have h2:=xF (n:=n) (ord:=ord) (L:=L) k
   have h3:2^k≤2^16:=Nat.pow_le_pow_right (by decide) (by omega)
   have h4:2^k*L.length≤2^16*L.length:=Nat.mul_le_mul_right _ h3
   rw[List.length_map]at h1
   omega
  refine⟨fun vs H=>∃(k:Nat) (s:Value) (b:Nat) (es:Array MapEntry) (ck:Nat) (m:List (List UInt8×List Nat)) (CS N:Hp),vs=[s,.map (some b),.int .i64 (k:Int)]∧k≤n∧H=CS++((b,.map es ck)::(N++B))∧aK 3 .i64 s (iw (lP n ord L k)) CS∧eZ n (N++B) es ck m∧∀x,x∈m.map Prod.snd↔x∈cur n ord L k,
   fun vs _=>n-br vs 2,JE.mk ⟨0,_,b,es,ck,m,[],N,rfl,by omega,rfl,aK.nil,hE,fun x=>by rw[hm];exact aj.dU.symm⟩,?_⟩
  clear hm hE
  rintro w17 w18 w19 H ⟨k,s,b,es,ck,m,CS,N,⟨⟩,hk,rfl,hs,hE,hm⟩ gs
  have vP:=hE.mono (B':=(b,Obj.map es ck)::(N++B)) zS
  refine aa.dH (Br.dec (fun hlt=>?_) (fun hlt=>?_))
  ·refine ho.ld (n:=((ord.getD k 0:Nat):Int)) (aX (by omega)) (fun _ h=>List.mem_append_right _ (.tail _ (List.mem_append_right _ h))) ?_
   have kF:ord.getD k 0<n:=by
    have hmem:((ord.getD k 0:Nat):Int)∈iw ord:=List.mem_of_getElem? (aX (by omega))
    have:=Am hA hmem
    rw[ai,rz]at this;omega
   refine ae.fq (tg (.head _) vP kF (hbound k hk m hE.nodup hm)) ?_
   rintro r H ⟨b',es',ca,m',N',rfl,rfl,zB,hm'⟩
   refine Ext.two ?_
   have Su:(aj.nodes n (m.map Prod.snd) (ord.getD k 0)).length=(l5 n ord L k).length:=aj.iz (aj.ew hE.nodup (ni k) hm)
   have hle:(l5 n ord L k).length≤65536*1048576:=Nat.le_trans (y2 n ord L k) (Nat.mul_le_mul (Nat.le_trans (Nat.pow_le_pow_right (by decide) (show k≤16 by omega)) (by decide)) (by omega))
   rw[Su]
   refine aq.int (e:=3) (by kernel_rfl) (by kernel_rfl) (by kernel_rfl) fun bx=>?_
   have qP:(lP n ord L k).length=k:=by simp[lP]
   refine hs.pN (x:=(((l5 n ord L k).length:Nat):Int)) (.cons .left) (by exact .head _) (by rw[ai,qP];omega) (by rw[ai,qP];omega) fun s' ZL hs'=>?_
   refine aa.inc ?_
   refine aB.of .tail ⟨k+1,s',b',es',ca,m',ZL,N'++(b,.map es ck)::N,rfl,by omega,by rw[List.append_assoc];rfl,?_,by rw[List.append_assoc];exact zB,fun x=>?_⟩ (by simp only[br];omega)
   ·rw[Bc,bP];exact hs'
   ·rw[hm']
    show _↔x∈aj.given n (cur n ord L k) (ord.getD k 0)
    rw[aj.bL]
    constructor
    ·rintro⟨t,h1,h2⟩;exact⟨t,(hm t).1 h1,h2⟩
    ·rintro⟨t,h1,h2⟩;exact⟨t,(hm t).2 h1,h2⟩
  ·obtain rfl:k=n:=by omega
   refine tL.mk (.app (.cons (.app (.refl _)))) ⟨_,rfl,hs.ints.mono fun _ h=>List.mem_append_left _ h⟩
 refine ht.bc ?_
 rw[List.length_map]
 refine aa.iU (b:=0) ?_
 by_cases hne:L=[]
 ·subst hne
  refine Split.Kj rfl (ay.mk ?_)
  refine ae.rq (ju ho (by rw[ai,rz];omega)) ?_
  rintro w (⟨rfl,_,_⟩|⟨rfl,_,hl⟩|⟨rfl,hno⟩)
  rotate_left
  ·rw[ai]at hl;omega
  ·exact absurd hA hno
  exact aa.gA (ay.mk (JE.mk fin))
 have hpos:0<L.length:=List.length_pos_iff.2 hne
 obtain⟨w0,Jc⟩:∃w0,L[0]? =some w0:=⟨_,List.getElem?_eq_getElem hpos⟩
 rw[decide_eq_true hpos]
 refine Split.go rfl ?_
 refine ho.bc ?_
 rw[ai,rz]
 refine ht.Tn (i:=0) (t:=⟨n,w0⟩) (by rw[List.getElem?_map,Jc];rfl) (fun _ h=>h) ?_
 refine aa.cG (ay.mk ?_)
 rw[decide_eq_false (by simp)]
 refine Split.go rfl ?_
 refine ae.rq (ju ho (by rw[ai,rz];omega)) ?_
 rintro w (⟨rfl,_,_⟩|⟨rfl,_,hl⟩|⟨rfl,hno⟩)
 rotate_left
 ·rw[ai]at hl;omega
 ·exact absurd hA hno
 exact aa.gA (ay.mk (JE.mk fin))
theorem NN{B:Hp}{v o:Value}{n:Nat}{L:List (List Nat)}{ord:List Nat}(ht:dZ B v (L.map fun ws=>⟨n,ws⟩))(hf:∀ws∈L,aj.dh n ws)(nv:n≤16)(bH:L.length<1048576)(ho:cS .i64 B o (iw ord))(rz:ord.length=n)(hA:mE (iw ord)):
  Px Tryz.prog 38 #[v,o] B (fun r H=>r=.tuple #[.int .i64 ((cY n ord L n:Nat):Int),.int .i64 0]):=by
 refine aR fun g=>IV ?_
 refine ae.pq (Bb ht hf nv bH ho rz hA) ?_
 rintro w N ⟨s,rfl,hs⟩
 refine Ext.two ?_
 refine hs.bc ?_
 have qP:∀k,(lP n ord L k).length=k:=fun k=>by simp[lP]
 rw[ai,qP]
 refine⟨fun vs H=>∃k:Nat,vs=[.int .i64 ((cY n ord L k:Nat):Int),.int .i64 (k:Int)]∧k≤n∧H=N++B,fun vs _=>n-br vs 1,JE.mk ⟨0,rfl,by omega,rfl⟩,?_⟩
 rintro w10 ZR H ⟨k,⟨⟩,hk,rfl⟩ gs
 refine aa.dH (Br.dec (fun hlt=>?_) (fun hlt=>?_))
 ·have hg:(lP n ord L n)[k]? =some (l5 n ord L k).length:=by
   unfold lP
   rw[List.getElem?_map,List.getElem?_range hlt];rfl
  refine hs.ld (n:=(((l5 n ord L k).length:Nat):Int)) (bV hg) (fun _ h=>h) ?_
  have hsz:∀m,m≤16→cY n ord L m≤65536*1048576:=fun m hm=>by
   have:=mP n ord L m
   have h2:2^m*L.length≤65536*1048576:=Nat.mul_le_mul (Nat.le_trans (Nat.pow_le_pow_right (by decide) hm) (by decide)) (by omega)
   omega
  have h1:=hsz (k+1) (by omega)
  have e1:cY n ord L (k+1)=cY n ord L k+(l5 n ord L k).length:=rfl
  refine aa.dx ?_
  refine aa.inc ?_
  exact aB.mk ⟨k+1,rfl,by omega,rfl⟩ (by simp only[br];omega)
 ·obtain rfl:k=n:=by omega
  exact tL.mk (.app (.refl _)) rfl
end Go.Proofs
namespace Go.Sx
open Go
section
variable {P:Program} {g:Gh} {H:Hp}
theorem aq.Rq{t e:TypeId}{z:Value}{a b c d:Value}{K:Value→Hp→Prop}(h1:P.underlying t=some (.slice e))(h2:cU P e=some 2)(h3:dR P e=some z)
 (h:∀x,K (.slice (some ⟨x,0,Option.none⟩) 2 2) ((x,.cells (rows [[a,b],[c,d]]) e (0,0))::H)):aq P t 2 [(0,.agg #[a,b]),(1,.agg #[c,d])] H K:=by
 refine⟨rows [[a,b],[c,d]],e,2,z,h1,h2,h3,by decide,?_,fun b _=>h b⟩
 have e1:Array.range (2*2)=#[0,1,2,3]:=rfl
 simp[Instr.fill,Value.cells,rows,e1]
theorem aq.Rp{t e:TypeId}{z:Value}{a b c d x y:Value}{K:Value→Hp→Prop}(h1:P.underlying t=some (.slice e))(h2:cU P e=some 2)(h3:dR P e=some z)
 (h:∀u,K (.slice (some ⟨u,0,Option.none⟩) 3 3) ((u,.cells (rows [[a,b],[c,d],[x,y]]) e (0,0))::H)):aq P t 3 [(0,.agg #[a,b]),(1,.agg #[c,d]),(2,.agg #[x,y])] H K:=by
 refine⟨rows [[a,b],[c,d],[x,y]],e,2,z,h1,h2,h3,by decide,?_,fun b _=>h b⟩
 have e1:Array.range (3*2)=#[0,1,2,3,4,5]:=rfl
 simp[Instr.fill,Value.cells,rows,e1]
theorem aq.Uu{t e:TypeId}{kd:IntKind}{x y z u:Int}{K:Value→Hp→Prop}(h1:P.underlying t=some (.slice e))(h2:cU P e=some 1)(h3:dR P e=some (.int kd 0))
 (h:∀b,K (.slice (some ⟨b,0,Option.none⟩) 4 4) ((b,.cells (ax kd [x,y,z,u]) e (0,0))::H)):aq P t 4 [(0,.int kd x),(1,.int kd y),(2,.int kd z),(3,.int kd u)] H K:=by
 refine⟨ax kd [x,y,z,u],e,1,_,h1,h2,h3,by decide,?_,fun b _=>h b⟩
 have e1:Array.range (4*1)=#[0,1,2,3]:=rfl
 simp[Instr.fill,Value.cells,ax,e1]
theorem aO.made{T:TypeId}{k b:Nat}(rs:List (List Value))(h:∀r∈rs,r.length=k):aO T k (.slice (some ⟨b,0,none⟩) rs.length rs.length) rs [(b,.cells (rows rs) T (0,0))]:=
 .inr ⟨b,[],by simp,by simp,by simpa using h⟩
end
end Go.Sx
namespace aC
open aj
variable {n:Nat} {F:Nat→Nat} {ws us rs:List Nat}
def vx(n:Nat)(F:Nat→Nat):List Nat:=(List.range (wN n)).map fun i=>F i&&&dc n
theorem jA(hn:n≤16):dh n (vx n F):=by
 refine⟨hn,by simp[vx],fun w hw=>?_⟩
 obtain⟨i,_,rfl⟩:=List.mem_map.1 hw
 exact Nat.and_le_right
theorem Hz{x:Nat}(hx:x<2^n):bit (vx n F) x=(F (x/64)).testBit (x%64):=by
 have hi:=yY hx
 unfold bit
 have gf:(vx n F).getD (x/64) 0=F (x/64) &&&dc n:=by simp[vx,hi]
 rw[gf,Nat.testBit_and,j4]
 have Vh:decide (x%64<if 6≤n then 64 else 2^n)=true:=by
  rw[decide_eq_true_eq]
  split
  ·exact Nat.mod_lt _ (by decide)
  ·have h1:2^n≤32:=Nat.pow_le_pow_right (n:=2) (by decide) (by omega:n≤5)
   omega
 rw[Vh,Bool.and_true]
theorem mj{f:Fn}(h:∀x,x<2^n→(F (x/64)).testBit (x%64)=f x)(hf:∀x,f (x%2^n)=f x):gJ n (vx n F)=f:=by
 funext x
 unfold gJ
 have hx:x%2^n<2^n:=Nat.mod_lt _ (Nat.two_pow_pos n)
 rw[Hz hx,h _ hx,hf]
theorem m8(x:Nat):gJ n ws (x%2^n)=gJ n ws x:=by unfold gJ;rw[Nat.mod_mod]
theorem jl{x:Nat}(hx:x<2^n):(ws.getD (x/64) 0).testBit (x%64)=gJ n ws x:=by
 unfold gJ bit;rw[Nat.mod_eq_of_lt hx]
theorem yM{j:Nat}(hj:j<64):(18446744073709551615:Nat).testBit j=true:=by
 have:(18446744073709551615:Nat)=2^64-1:=by decide
 rw[this,Nat.testBit_two_pow_sub_one];simpa using hj
theorem rK{w j:Nat}(hw:w<18446744073709551616)(hj:j<64):(18446744073709551615-w).testBit j= !w.testBit j:=by
 have e:(18446744073709551615-w)=2^64-(w+1):=by
  have:(2:Nat)^64=18446744073709551616:=by decide
  omega
 rw[e,Nat.testBit_two_pow_sub_succ (by
  have:(2:Nat)^64=18446744073709551616:=by decide
  omega)]
 simp[hj]
end aC
set_option maxRecDepth 100000
namespace Go.Proofs
open Go Go.Sx
open aC
section
variable {B:Hp}
def cC(B:Hp)(v:Value)(n:Nat)(f:aC.Fn):Prop:=∃ws,AO B v ⟨n,ws⟩∧aj.dh n ws∧gJ n ws=f
theorem cC.mono{B B':Hp}{v:Value}{n:Nat}{f:aC.Fn}(h:cC B v n f)(hs:∀x∈B,x∈B'):cC B' v n f:=let ⟨ws,h1,h2,h3⟩:=h;⟨ws,h1.mono hs,h2,h3⟩
theorem zZ{n:Nat}(hn:n≤16)(B:Hp):Rd Tryz.prog 211 #[.int .i64 (n:Int)] B (· =.int .i64 0):=by
 refine aR fun g=>DX ?_
 exact aa.lss (Br.F (aa.iU (b:=16) (Br.F (bN.mk (.refl _) rfl))))
theorem AZ{b:Bool}{p:Value}{i:Int}(hb:Go.Sx.At B p [.bool b]):Rd Tryz.prog 213 #[.int .i64 i,p] B (· =.int .u64 (((if b then 18446744073709551615 else 0:Nat)):Int)):=by
 refine aR fun g=>DV ?_
 refine Ld.at hb (fun _ h=>h) ?_
 cases b
 ·exact Br.no (bN.mk (.refl _) rfl)
 ·exact Br.yes (bN.mk (.refl _) rfl)
theorem mN{n:Nat}(hn:n≤16)(b:Bool)(B:Hp):Px Tryz.prog 147 #[.int .i64 (n:Int),.bool b] B (fun r H=>∃v,r=.tuple #[v,.int .i64 0]∧cC H v n (fun _=>b)):=by
 refine aR fun g=>EG ?_
 intro b1 _ b3 _
 refine ae.eq (zZ hn _) ?_
 refine aa.cG (Br.F ?_)
 refine ae.pq (mZ hn rfl (by kernel_rfl) (F:=fun _=>if b then 18446744073709551615 else 0) (fun i _=>by cases b<;>decide) (B:=(b1,.cells #[.bool b] 4 (0,0))::B) fun i _=>AZ (Go.Sx.At.block (l:=[.bool b]) zM)) ?_
 rintro v N ⟨s,rfl,hw⟩
 refine St.p ?_ ?_
 ·have:=aG hw;simpa[Value.oneCell']using this
 refine av.q ?_
 refine tL.mk (by repeat (first|exact aT.refl _|apply aT.cons|apply aT.app)) ⟨_,rfl,_,⟨s,rfl,hw.mono zS⟩,jA hn,mj (fun x hx=>?_) (fun x=>rfl)⟩
 cases b
 ·exact Nat.zero_testBit _
 ·exact yM (Nat.mod_lt _ (by decide))
theorem JA{v i:Nat}{p:Value}(hv:v<64)(hi:i<9223372036854775808)(hb:Go.Sx.At B p [.int .i64 (v:Int)]):Rd Tryz.prog 218 #[.int .i64 (i:Int),p] B (· =.int .u64 ((if 6≤v then(if(i>>>(v-6)).testBit 0 then 18446744073709551615 else 0)else aj.mask v:Nat):Int)):=by
 refine aR fun g=>DP ?_
 refine Ld.at hb (fun _ h=>h) ?_
 refine ae.eq (v9 hv (by omega) hi B) ?_
 exact bN.mk (.refl _) rfl
theorem Ft{n v:Nat}(hn:n≤16)(hv:v<n)(B:Hp):Px Tryz.prog 153 #[.int .i64 (n:Int),.int .i64 (v:Int)] B (fun r H=>∃t,r=.tuple #[t,.int .i64 0]∧cC H t n (fun x=>x.testBit v)):=by
 refine aR fun g=>EA ?_
 intro b1 _ b3 _
 refine ae.eq (zZ hn _) ?_
 refine aa.cG (Br.F ?_)
 refine Ld.q ?_
 refine aa.lss ?_
 rw[decide_eq_false (by omega)]
 refine df.or (a:=false) false (fun _=>?_) rfl fun gs=>Br.no ?_
 ·refine Ld.q ?_
  exact aa.qT ⟨rfl,by rw[decide_eq_false (by omega)]⟩
 have WM:=aj.rX hn
 refine ae.pq (mZ hn rfl (by kernel_rfl) (F:=fun i=>if 6≤v then(if(i>>>(v-6)).testBit 0 then 18446744073709551615 else 0)else aj.mask v) (fun i _=>by
  have:=aj.iP v
  split
  ·split<;>decide
  ·exact this) (B:=(b1,.cells #[.int .i64 (v:Int)] 3 (0,0))::B) fun i hi=>JA (by omega) (by omega) (Go.Sx.At.block (l:=[.int .i64 (v:Int)]) zM)) ?_
 rintro w N ⟨s,rfl,hw⟩
 refine St.p ?_ ?_
 ·have:=aG hw;simpa[Value.oneCell']using this
 refine av.q ?_
 refine tL.mk (by repeat (first|exact aT.refl _|apply aT.cons|apply aT.app)) ⟨_,rfl,_,⟨s,rfl,hw.mono zS⟩,jA hn,mj (fun x hx=>?_) (fun x=>?_)⟩
 ·have hj:x%64<64:=Nat.mod_lt _ (by decide)
  have acy:x=64*(x/64)+x%64:=by omega
  by_cases h6:6≤v
  ·rw[if_pos h6]
   have e:x.testBit v=((x/64)>>>(v-6)).testBit 0:=by
    rw[Nat.testBit_shiftRight,Nat.add_zero]
    have:=Nat.testBit_div_two_pow (n:=6) x (v-6)
    rw[show(2:Nat)^6=64 from rfl]at this
    rw[this];congr 1;omega
   rw[e]
   cases ((x/64)>>>(v-6)).testBit 0
   ·exact Nat.zero_testBit _
   ·exact yM hj
  ·rw[if_neg h6,aj.fF]
   have:=Nat.testBit_mod_two_pow x 6 v
   rw[show(2:Nat)^6=64 from rfl]at this
   rw[this]
   simp[hj];omega
 ·rw[Nat.testBit_mod_two_pow];simp[hv]
end
end Go.Proofs
set_option maxRecDepth 100000
namespace Go.Proofs
open Go Go.Sx
open aC
section
variable {B:Hp}
theorem dO{n i:Nat}{ws:List Nat}(hf:aj.dh n ws):ws.getD i 0<18446744073709551616:=by
 by_cases h:i<ws.length
 ·rw[List.getD_eq_getElem?_getD,List.getElem?_eq_getElem h];exact hf.lt (List.getElem_mem h)
 ·rw[List.getD_eq_getElem?_getD,List.getElem?_eq_none (by omega)];decide
theorem iD{n i:Nat}{ws:List Nat}(hf:aj.dh n ws)(hi:i<aj.wN n):ws[i]? =some (ws.getD i 0):=by
 rw[List.getD_eq_getElem?_getD,List.getElem?_eq_getElem (by rw[hf.len];exact hi)];rfl
theorem JG{pa s:Value}{n i:Nat}{ws:List Nat}(ha:Go.Sx.At B pa [.int .i64 (n:Int),s])(hw:Words B s ws)(hf:aj.dh n ws)(hi:i<aj.wN n):
  Rd Tryz.prog 238 #[.int .i64 (i:Int),pa] B (· =.int .u64 ((18446744073709551615-ws.getD i 0:Nat):Int)):=by
 refine aR fun g=>DD ?_
 refine ag.at ha fun q hq=>Ld.at hq (fun _ h=>h) ?_
 refine hw.1.ld (bV (iD hf hi)) (fun _ h=>h) ?_
 exact Un.GF (dO hf) (bN.mk (.refl _) rfl)
theorem ND{v:Value}{n:Nat}{f:aC.Fn}(ht:cC B v n f):Px Tryz.prog 193 #[v] B (fun r H=>∃t,r=.tuple #[t,.int .i64 0]∧cC H t n (fun x=> !f x)):=by
 obtain⟨ws,⟨s,rfl,hw⟩,hf,rfl⟩:=ht
 refine aR fun g=>Ef ?_
 intro b1 _ b3 _
 refine av.q ?_
 refine jO fun bx=>?_
 refine ae.rd .here (oA (t:=⟨n,ws⟩) (by exact .head _) (hw.mono zS)) ?_
 rintro w rfl
 rw[decide_eq_true (show TF ⟨(n:Int),ws⟩from⟨by simp,by simpa using hf⟩)]
 refine Un.not (Br.no ?_)
 refine Ld.f ?_
 refine ae.pre (H':=(b3,.cells #[.int .i64 0,.slice none 0 0] 57 (0,0))::(b1,.cells #[.int .i64 (n:Int),s] 57 (0,0))::B) .tail ?_
 refine ae.pq (mZ hf.qd rfl (by kernel_rfl) (F:=fun i=>18446744073709551615-ws.getD i 0) (fun i _=>by omega) (B:=(b1,.cells #[.int .i64 (n:Int),s] 57 (0,0))::B) fun i hi=>JG (Go.Sx.At.block (l:=[.int .i64 (n:Int),s]) zM) (hw.mono zS) hf hi) ?_
 rintro w N ⟨s',rfl,di⟩
 refine St.p ?_ ?_
 ·have:=aG di;simpa[Value.oneCell']using this
 refine av.q ?_
 refine tL.mk (by repeat (first|exact aT.refl _|apply aT.cons|apply aT.app)) ⟨_,rfl,_,⟨s',rfl,di.mono zS⟩,jA hf.qd,mj (fun x hx=>?_) (fun x=>by rw[m8])⟩
 rw[rK (dO hf) (Nat.mod_lt _ (by decide)),jl hx]
def tC(op w u:Nat):Nat→Nat
 |0=>0
 |k+1=>if op.testBit k then tC op w u k|||([(18446744073709551615-w) &&& (18446744073709551615-u),(18446744073709551615-w) &&&u,w&&& (18446744073709551615-u),w&&&u].getD k 0)else tC op w u k
theorem FK{w u k:Nat}(hw:w<18446744073709551616)(hu:u<18446744073709551616):[(18446744073709551615-w) &&& (18446744073709551615-u),(18446744073709551615-w) &&&u,w&&& (18446744073709551615-u),w&&&u].getD k 0<18446744073709551616:=by
 have h1:∀a b:Nat,a<18446744073709551616→a&&&b<18446744073709551616:=fun a b h=>Nat.lt_of_le_of_lt Nat.and_le_left h
 match k with
 |0=>exact h1 _ _ (by omega)
 |1=>exact h1 _ _ (by omega)
 |2=>exact h1 _ _ hw
 |3=>exact h1 _ _ hw
 |k+4=>exact(by decide:(0:Nat)<18446744073709551616)
theorem rV{op w u:Nat}(hw:w<18446744073709551616)(hu:u<18446744073709551616):∀k,tC op w u k<18446744073709551616
 |0=>by show(0:Nat)<18446744073709551616;decide
 |k+1=>by
  unfold tC
  split
  ·exact Nat.or_lt_two_pow (n:=64) (rV hw hu k) (FK hw hu)
  ·exact rV hw hu k
theorem Mw{op w u j:Nat}(hw:w<18446744073709551616)(hu:u<18446744073709551616)(hj:j<64):(tC op w u 4).testBit j=Hi op (w.testBit j) (u.testBit j):=by
 have nw:=rK hw hj
 have nu:=rK hu hj
 simp only[tC,List.getD_cons_zero,List.getD_cons_succ]
 unfold Hi
 cases h0:op.testBit 0<;>cases h1:op.testBit 1<;>cases h2:op.testBit 2<;>cases h3:op.testBit 3<;>
  simp only[if_true,Bool.false_eq_true,if_false,Nat.testBit_or,Nat.testBit_and,nw,nu,Nat.zero_testBit]<;>
  cases w.testBit j<;>cases u.testBit j<;>simp[h0,h1,h2,h3]
theorem JI{p1 p2 p3 s1 s2:Value}{n i op:Nat}{ws us:List Nat}(h1:Go.Sx.At B p1 [.int .i64 (n:Int),s1])(h2:Go.Sx.At B p2 [.int .i64 (n:Int),s2])(h3:Go.Sx.At B p3 [.int .u8 (op:Int)])(hw:Words B s1 ws)(hu:Words B s2 us)(hf:aj.dh n ws)(hg:aj.dh n us)(hop:op<16)(hi:i<aj.wN n):
  Rd Tryz.prog 239 #[.int .i64 (i:Int),p1,p2,p3] B (· =.int .u64 ((tC op (ws.getD i 0) (us.getD i 0) 4:Nat):Int)):=by
 have lw:=dO (i:=i) hf
 have lu:=dO (i:=i) hg
 refine aR fun g=>DC ?_
 refine ag.at h1 fun q hq=>Ld.at hq (fun _ h=>h) ?_
 refine hw.1.ld (bV (iD hf hi)) (fun _ h=>h) ?_
 refine ag.at h2 fun q hq=>Ld.at hq (fun _ h=>h) ?_
 refine hu.1.ld (bV (iD hg hi)) (fun _ h=>h) ?_
 generalize ws.getD i 0=w at*
 generalize us.getD i 0=u at*
 refine Un.GF lw (Un.GF lu ?_)
 refine aa.iL (by simp only[bA];omega) (by simp only[bA];omega) ?_
 refine Un.GF lw ?_
 refine aa.iL (by simp only[bA];omega) (by simp only[bA];omega) ?_
 refine Un.GF lu ?_
 refine aa.iL (by simp only[bA];omega) (by simp only[bA];omega) ?_
 refine aa.iL (by simp only[bA];omega) (by simp only[bA];omega) ?_
 refine aq.Uu (e:=50) (by kernel_rfl) (by kernel_rfl) (by kernel_rfl) fun bx=>?_
 obtain⟨ps,hps⟩:∃ps,ps=[(18446744073709551615-w) &&& (18446744073709551615-u),(18446744073709551615-w) &&&u,w&&& (18446744073709551615-u),w&&&u]:=⟨_,rfl⟩
 have hI:cS .u64 [(bx,Obj.cells (ax .u64 (iw ps)) 50 (0,0))] (.slice (some ⟨bx,0,none⟩) 4 4) (iw ps):=by
  have:=(aK.made (T:=50) (kd:=.u64) (b:=bx) (iw ps)).ints
  have hl:(iw ps).length=4:=by rw[hps];rfl
  rw[hl]at this;exact this
 have qP:ps.length=4:=by rw[hps];rfl
 have hH:(bx,Obj.cells (ax .u64 [((((18446744073709551615-w) &&& (18446744073709551615-u):Nat)):Int),((((18446744073709551615-w) &&&u:Nat)):Int),(((w&&& (18446744073709551615-u):Nat)):Int),((w&&&u:Nat):Int)]) 50 (0,0))=(bx,Obj.cells (ax .u64 (iw ps)) 50 (0,0)):=by rw[hps];rfl
 rw[hH]
 refine aF.mk ?_
 refine⟨fun vs H=>∃k:Nat,vs=[.int .u64 ((tC op w u k:Nat):Int),.int .i64 (k:Int)]∧k≤4∧H=(bx,Obj.cells (ax .u64 (iw ps)) 50 (0,0))::B,fun vs _=>4-br vs 1,JE.mk ⟨0,rfl,by omega,rfl⟩,?_⟩
 rintro w24 TZ H ⟨k,⟨⟩,hk,rfl⟩ gs
 refine aa.dH (b:=4) (Br.dec (fun hlt=>?_) (fun hlt=>?_))
 ·intro J hJ
  refine hI.ld (n:=((ps.getD k 0:Nat):Int)) (aX (by omega)) (fun _ h=>by simp at h;rw[h];exact .head _) ?_
  refine Ld.at h3 (fun _ h=>.tail _ h) ?_
  refine aa.j7 (by simp only[bA];omega) ?_
  refine aa.iL (b:=1) (by have:=Nat.shiftRight_le op k;simp only[bA];omega) (by decide) ?_
  have zy:(op>>>k) &&&1=(op.testBit k).toNat:=by
   rw[aj.dY,Nat.testBit_shiftRight,Nat.add_zero]
   cases op.testBit k<;>rfl
  rw[zy]
  refine aa.cE (b:=1) ?_
  have X6:ps.getD k 0<18446744073709551616:=by rw[hps];exact FK lw lu
  cases hb:op.testBit k with
  |true=>
   refine Br.T ?_
   refine aa.Jb (by simpa only[bA]using rV lw lu k) (by simpa only[bA]using X6) ?_
   refine JE.mk (hJ _ _ fun gs=>?_)
   refine aa.inc ?_
   exact aB.mk ⟨k+1,by rw[tC,if_pos hb,hps],by omega,rfl⟩ (by simp only[br];omega)
  |false=>
   refine Br.F ?_
   refine JE.mk (hJ _ _ fun gs=>?_)
   refine aa.inc ?_
   exact aB.mk ⟨k+1,by rw[tC,if_neg (by rw[hb];decide)],by omega,rfl⟩ (by simp only[br];omega)
 ·obtain rfl:k=4:=by omega
  exact bN.mk .tail rfl
theorem T4{bx n:Nat}{s1 s2:Value}{ws us:List Nat}(h1:Words B s1 ws)(h2:Words B s2 us):dZ ((bx,.cells (rows [[.int .i64 (n:Int),s1],[.int .i64 (n:Int),s2]]) 57 (0,0))::B) (.slice (some ⟨bx,0,none⟩) 2 2) [⟨n,ws⟩,⟨n,us⟩]:=by
 refine⟨[[.int .i64 (n:Int),s1],[.int .i64 (n:Int),s2]],(Sl.kM (aO.made (T:=57) (k:=2) (b:=bx) _ (by simp)) (by decide)).mono fun _ h=>by simp at h;rw[h];exact .head _,rfl,fun i r x hr hx=>?_⟩
 match i with
 |0=>simp at hr hx;subst hr;subst hx;exact⟨s1,rfl,h1.mono fun _ h=>.tail _ h⟩
 |1=>simp at hr hx;subst hr;subst hx;exact⟨s2,rfl,h2.mono fun _ h=>.tail _ h⟩
 |i+2=>simp at hr
theorem wL{v1 v2:Value}{n op:Nat}{f1 f2:aC.Fn}(hop:op<16)(h1:cC B v1 n f1)(h2:cC B v2 n f2):Px Tryz.prog 194 #[.int .u8 (op:Int),v1,v2] B (fun r H=>∃t,r=.tuple #[t,.int .i64 0]∧cC H t n (fun x=>Hi op (f1 x) (f2 x))):=by
 obtain⟨ws,⟨s1,rfl,hw⟩,hf,rfl⟩:=h1
 obtain⟨us,⟨s2,rfl,hu⟩,hg,rfl⟩:=h2
 refine aR fun g=>Ee ?_
 intro b1 _ b3 _ b5 _ b7 _
 refine Ld.q ?_
 refine aa.iU (b:=15) (Br.F ?_)
 refine av.q ?_
 refine av.q ?_
 refine aq.Rq (e:=57) (z:=.agg #[.int .i64 0,.slice none 0 0]) (by kernel_rfl) (by kernel_rfl) (by kernel_rfl) fun bx=>?_
 refine ae.rd .here (tj (T4 (n:=n) (hw.mono zS) (hu.mono zS)) (by show 2<2^62;decide)) ?_
 rintro w rfl
 rw[decide_eq_true (by
  intro t ht
  simp only[List.mem_cons,List.not_mem_nil,or_false]at ht
  rcases ht with rfl|rfl
  ·exact⟨⟨by simp,by simpa using hf⟩,rfl⟩
  ·exact⟨⟨by simp,by simpa using hg⟩,rfl⟩)]
 refine Un.not (Br.no ?_)
 refine Ld.f ?_
 refine ae.pre (H':=(b7,.cells #[.int .i64 0,.slice none 0 0] 57 (0,0))::(b5,.cells #[.int .i64 (n:Int),s2] 57 (0,0))::(b3,.cells #[.int .i64 (n:Int),s1] 57 (0,0))::(b1,.cells #[.int .u8 (op:Int)] 5 (0,0))::B) .tail ?_
 refine ae.pq (mZ hf.qd rfl (by kernel_rfl) (F:=fun i=>tC op (ws.getD i 0) (us.getD i 0) 4) (fun i _=>rV (dO hf) (dO hg) 4) (B:=(b5,.cells #[.int .i64 (n:Int),s2] 57 (0,0))::(b3,.cells #[.int .i64 (n:Int),s1] 57 (0,0))::(b1,.cells #[.int .u8 (op:Int)] 5 (0,0))::B)
  fun i hi=>JI (Go.Sx.At.block (l:=[.int .i64 (n:Int),s1]) zM) (Go.Sx.At.block (l:=[.int .i64 (n:Int),s2]) zM) (Go.Sx.At.block (l:=[.int .u8 (op:Int)]) zM) (hw.mono zS) (hu.mono zS) hf hg hop hi) ?_
 rintro w N ⟨s',rfl,di⟩
 refine St.p ?_ ?_
 ·have:=aG di;simpa[Value.oneCell']using this
 refine av.q ?_
 refine tL.mk (by repeat (first|exact aT.refl _|apply aT.cons|apply aT.app)) ⟨_,rfl,_,⟨s',rfl,di.mono zS⟩,jA hf.qd,mj (fun x hx=>?_) (fun x=>by rw[m8,m8])⟩
 rw[Mw (dO hf) (dO hg) (Nat.mod_lt _ (by decide)),jl hx,jl hx]
theorem JH{p1 p2 p3 s1 s2 s3:Value}{n i:Nat}{ws us rs:List Nat}(h1:Go.Sx.At B p1 [.int .i64 (n:Int),s1])(h2:Go.Sx.At B p2 [.int .i64 (n:Int),s2])(h3:Go.Sx.At B p3 [.int .i64 (n:Int),s3])(hw:Words B s1 ws)(hu:Words B s2 us)(hr:Words B s3 rs)(hf:aj.dh n ws)(hg:aj.dh n us)(hh:aj.dh n rs)(hi:i<aj.wN n):
  Rd Tryz.prog 221 #[.int .i64 (i:Int),p1,p2,p3] B (· =.int .u64 (((ws.getD i 0&&&us.getD i 0)|||((18446744073709551615-ws.getD i 0) &&&rs.getD i 0):Nat):Int)):=by
 have lw:=dO (i:=i) hf
 have lu:=dO (i:=i) hg
 have lr:=dO (i:=i) hh
 refine aR fun g=>DM ?_
 refine ag.at h1 fun q hq=>Ld.at hq (fun _ h=>h) ?_
 refine hw.1.ld (bV (iD hf hi)) (fun _ h=>h) ?_
 refine ag.at h2 fun q hq=>Ld.at hq (fun _ h=>h) ?_
 refine hu.1.ld (bV (iD hg hi)) (fun _ h=>h) ?_
 refine aa.iL (by simpa only[bA]using lw) (by simpa only[bA]using lu) ?_
 refine ag.at h1 fun q hq=>Ld.at hq (fun _ h=>h) ?_
 refine hw.1.ld (bV (iD hf hi)) (fun _ h=>h) ?_
 refine Un.GF lw ?_
 refine ag.at h3 fun q hq=>Ld.at hq (fun _ h=>h) ?_
 refine hr.1.ld (bV (iD hh hi)) (fun _ h=>h) ?_
 refine aa.iL (by simp only[bA];omega) (by simpa only[bA]using lr) ?_
 refine aa.Jb (Nat.lt_of_le_of_lt Nat.and_le_left (by simpa only[bA]using lw)) (Nat.lt_of_le_of_lt Nat.and_le_left (by simp only[bA];omega)) ?_
 exact bN.mk (.refl _) rfl
theorem T3{bx n:Nat}{s1 s2 s3:Value}{ws us rs:List Nat}(h1:Words B s1 ws)(h2:Words B s2 us)(h3:Words B s3 rs):dZ ((bx,.cells (rows [[.int .i64 (n:Int),s1],[.int .i64 (n:Int),s2],[.int .i64 (n:Int),s3]]) 57 (0,0))::B) (.slice (some ⟨bx,0,none⟩) 3 3) [⟨n,ws⟩,⟨n,us⟩,⟨n,rs⟩]:=by
 refine⟨[[.int .i64 (n:Int),s1],[.int .i64 (n:Int),s2],[.int .i64 (n:Int),s3]],(Sl.kM (aO.made (T:=57) (k:=2) (b:=bx) _ (by simp)) (by decide)).mono fun _ h=>by simp at h;rw[h];exact .head _,rfl,fun i r x hr hx=>?_⟩
 match i with
 |0=>simp at hr hx;subst hr;subst hx;exact⟨s1,rfl,h1.mono fun _ h=>.tail _ h⟩
 |1=>simp at hr hx;subst hr;subst hx;exact⟨s2,rfl,h2.mono fun _ h=>.tail _ h⟩
 |2=>simp at hr hx;subst hr;subst hx;exact⟨s3,rfl,h3.mono fun _ h=>.tail _ h⟩
 |i+3=>simp at hr
theorem wI{v1 v2 v3:Value}{n:Nat}{f1 f2 f3:aC.Fn}(h1:cC B v1 n f1)(h2:cC B v2 n f2)(h3:cC B v3 n f3):Px Tryz.prog 154 #[v1,v2,v3] B (fun r H=>∃t,r=.tuple #[t,.int .i64 0]∧cC H t n (fun x=>if f1 x then f2 x else f3 x)):=by
 obtain⟨ws,⟨s1,rfl,hw⟩,hf,rfl⟩:=h1
 obtain⟨us,⟨s2,rfl,hu⟩,hg,rfl⟩:=h2
 obtain⟨rs,⟨s3,rfl,hr⟩,hh,rfl⟩:=h3
 refine aR fun g=>Ez ?_
 intro b1 _ b3 _ b5 _ b7 _
 refine av.q ?_
 refine av.q ?_
 refine av.q ?_
 refine aq.Rp (e:=57) (z:=.agg #[.int .i64 0,.slice none 0 0]) (by kernel_rfl) (by kernel_rfl) (by kernel_rfl) fun bx=>?_
 refine ae.rd .here (tj (T3 (n:=n) (hw.mono zS) (hu.mono zS) (hr.mono zS)) (by show 3<2^62;decide)) ?_
 rintro w rfl
 rw[decide_eq_true (by
  intro t ht
  simp only[List.mem_cons,List.not_mem_nil,or_false]at ht
  rcases ht with rfl|rfl|rfl
  ·exact⟨⟨by simp,by simpa using hf⟩,rfl⟩
  ·exact⟨⟨by simp,by simpa using hg⟩,rfl⟩
  ·exact⟨⟨by simp,by simpa using hh⟩,rfl⟩)]
 refine Un.not (Br.no ?_)
 refine Ld.f ?_
 refine ae.pre (H':=(b7,.cells #[.int .i64 0,.slice none 0 0] 57 (0,0))::(b5,.cells #[.int .i64 (n:Int),s3] 57 (0,0))::(b3,.cells #[.int .i64 (n:Int),s2] 57 (0,0))::(b1,.cells #[.int .i64 (n:Int),s1] 57 (0,0))::B) .tail ?_
 have ol:∀i,(ws.getD i 0&&&us.getD i 0)|||((18446744073709551615-ws.getD i 0) &&&rs.getD i 0)<18446744073709551616:=fun i=>
  Nat.or_lt_two_pow (n:=64) (Nat.lt_of_le_of_lt Nat.and_le_left (dO hf)) (Nat.lt_of_le_of_lt Nat.and_le_right (dO hh))
 refine ae.pq (mZ hf.qd rfl (by kernel_rfl) (F:=fun i=>(ws.getD i 0&&&us.getD i 0)|||((18446744073709551615-ws.getD i 0) &&&rs.getD i 0)) (fun i _=>ol i) (B:=(b5,.cells #[.int .i64 (n:Int),s3] 57 (0,0))::(b3,.cells #[.int .i64 (n:Int),s2] 57 (0,0))::(b1,.cells #[.int .i64 (n:Int),s1] 57 (0,0))::B)
  fun i hi=>JH (Go.Sx.At.block (l:=[.int .i64 (n:Int),s1]) zM) (Go.Sx.At.block (l:=[.int .i64 (n:Int),s2]) zM) (Go.Sx.At.block (l:=[.int .i64 (n:Int),s3]) zM) (hw.mono zS) (hu.mono zS) (hr.mono zS) hf hg hh hi) ?_
 rintro w N ⟨s',rfl,di⟩
 refine St.p ?_ ?_
 ·have:=aG di;simpa[Value.oneCell']using this
 refine av.q ?_
 refine tL.mk (by repeat (first|exact aT.refl _|apply aT.cons|apply aT.app)) ⟨_,rfl,_,⟨s',rfl,di.mono zS⟩,jA hf.qd,mj (fun x hx=>?_) (fun x=>by rw[m8,m8,m8])⟩
 rw[Nat.testBit_or,Nat.testBit_and,Nat.testBit_and,rK (dO hf) (Nat.mod_lt _ (by decide)),jl hx,jl hx,jl hx]
 cases gJ n ws x<;>cases gJ n us x<;>cases gJ n rs x<;>rfl
theorem lj{v:Value}{n u:Nat}{c:Bool}{f:aC.Fn}(ht:cC B v n f)(hu:u<n):Px Tryz.prog 148 #[v,.int .i64 (u:Int),.bool c] B (fun r H=>∃t,r=.tuple #[t,.int .i64 0]∧cC H t n (fun x=>f (aj.aA x u c))):=by
 obtain⟨ws,ht,hf,rfl⟩:=ht
 refine(wK ht hf hu).mono fun v H h=>?_
 obtain⟨hg,v',rfl,ht'⟩:=h
 exact⟨hg,v',rfl,_,ht',aj.cy hf.qd,pG hf hu c⟩
end
end Go.Proofs
namespace Go.Sx
open Go
section
variable {P:Program} {g:Gh} {H C:Hp} {c:Hp→Hp}
theorem aO.Ai{elem k bytes:Nat}{zero:Value}{v x:Value}{rs r2:List (List Value)}(h:aO elem k v rs C)(hh:aZ C H c)(hx:Sl k H x r2)(h1:∀r∈r2,∀u∈r,u.oneCell'=true)(hz:∃z:List Value,zero.cells=z.toArray∧z.length=k)
 (hb:(rs.length+r2.length)*bytes≤140737488355328)(hm:rs.length+r2.length≤9223372036854775807){K:Value→Hp→Prop}(hk:∀v' C',aO elem k v' (rs++r2) C'→K v' (c C')):App P elem k bytes zero H v x K:=by
 obtain⟨A,B,e⟩:=hh.split
 have e2:=hh.spec.1
 rw[e]at e2
 subst e2
 obtain⟨a,cap,rfl,hc⟩:=Sl.cells hx
 exact aO.apps h hc hx.1 h1 hz hb hm fun v' C' ho=>by have:=hk v' C' ho;rwa [e]at this
theorem aa.p6{kd:IntKind}{a b:Nat}{k:Value→Prop}(hb:b≠0)(h:k (.int kd ((a%b:Nat):Int))):aa .num .rem (.int kd a) (.int kd b) k:=
 aa.P2 (by omega) rfl (by have:((a:Int)).tmod (b:Int)=((a%b:Nat):Int):=rfl;rw[this];exact h)
end
end Go.Sx
set_option maxRecDepth 100000
namespace Go.Proofs
open Go Go.Sx
open aC
abbrev eS(gb kp n:Nat)(vr vf:Value):Nat×Obj:=(gb,.cells #[ptr kp,.int .i64 (n:Int),vr,vf] 30 (0,0))
structure mL(gb kp n:Nat)(vr vf:Value)(refs:List Nat)(fs:List (List Nat))(M G:Hp):Prop where
 cell:eS gb kp n vr vf∈G
 rf:cS .u32 G vr (iw refs)
 fn:∃rs,Sl 2 G vf rs∧jT (xV M) rs (fs.map fun ws=>⟨n,ws⟩)
theorem mL.grow{gb kp n:Nat}{vr vf:Value}{refs:List Nat}{fs:List (List Nat)}{M M' G:Hp}(h:mL gb kp n vr vf refs fs M G)(hs:∀x∈M,x∈M'):mL gb kp n vr vf refs fs M' G:=
 ⟨h.cell,h.rf,let ⟨rs,h1,h2⟩:=h.fn;⟨rs,h1,h2.mono fun _ _ h=>h.mono hs⟩⟩
def PxL(P:Program)(f:FuncId)(args:Array Value)(M G:Hp)(Q:Value→Hp→Prop):Prop:=Fc P f args (M++G) (fun w H=>∃M',H=M'++G∧aT M M'∧Q w M')
structure AP(gb kp n:Nat)(vr vf:Value)(refs:List Nat)(fs:List (List Nat))(C B:Hp):Prop where
 cell:eS gb kp n vr vf∈B
 rf:cS .u32 B vr (iw refs)
 fn:dZ B vf (fs.map fun ws=>⟨n,ws⟩)
 hole:∃c,aZ C B c∧∀Z,eS gb kp n vr vf∈c Z
theorem AP.cons{gb kp n:Nat}{vr vf:Value}{refs:List Nat}{fs:List (List Nat)}{C B:Hp}(h:AP gb kp n vr vf refs fs C B)(x:Nat×Obj):AP gb kp n vr vf refs fs C (x::B):=
 ⟨.tail _ h.cell,h.rf.mono fun _ h=>.tail _ h,h.fn.mono fun _ h=>.tail _ h,let ⟨c,hc,hm⟩:=h.hole;⟨_,.cons hc,fun Z=>.tail _ (hm Z)⟩⟩
theorem AP.app{gb kp n:Nat}{vr vf:Value}{refs:List Nat}{fs:List (List Nat)}{C B:Hp}(h:AP gb kp n vr vf refs fs C B)(N:Hp):AP gb kp n vr vf refs fs C (N++B):=
 ⟨List.mem_append_right _ h.cell,h.rf.mono fun _ h=>List.mem_append_right _ h,h.fn.mono fun _ h=>List.mem_append_right _ h,let ⟨c,hc,hm⟩:=h.hole;⟨_,.app hc,fun Z=>List.mem_append_right _ (hm Z)⟩⟩
theorem AP.grow{gb kp n:Nat}{vr vf:Value}{refs:List Nat}{fs:List (List Nat)}{C B B':Hp}(h:AP gb kp n vr vf refs fs C B)(hg:aT B B'):AP gb kp n vr vf refs fs C B':=by
 obtain⟨N,rfl⟩:=hg.spec;exact h.app N
structure ug(K:Kd)(S:Nat→aC.Fn)(refs:List Nat)(fs:List (List Nat)):Prop where
 len:refs.length=fs.length
 oz:∀t∈fs,aj.dh K.n t
 is:∀i,i<refs.length→2≤refs.getD i 0∧gJ K.n (fs.getD i [])=S (refs.getD i 0)
 hold:∀s,K.hold s=refs.count s
section
variable {kp gb n:Nat} {vr vf:Value} {refs:List Nat} {fs:List (List Nat)} {K:Kd} {S:Nat→aC.Fn} {ord ah tr:List Nat} {C B:Hp}
theorem ug.mem(h:ug K S refs fs){s:Nat}:K.hold s≠0↔s∈refs:=by
 rw[h.hold]
 constructor
 ·intro h0;exact List.count_pos_iff.1 (by omega)
 ·intro h1;have:=List.count_pos_iff.2 h1;omega
theorem ug.live(h:ug K S refs fs)(hK:cw kp K S ord ah tr C){s:Nat}(hs:s∈refs):live K.N s:=.inr (hK.ok.mid.held s (h.mem.2 hs))
theorem ug.held(h:ug K S refs fs)(g:aC.Fn):K.held S g↔FT K.n fs g:=by
 constructor
 ·rintro⟨s,hs,rfl⟩
  have hs':=h.mem.1 hs
  obtain⟨i,hi,rfl⟩:=List.mem_iff_getElem.1 hs'
  obtain⟨h2,h3⟩:=h.is i hi
  have e:refs.getD i 0=refs[i]:=by rw[List.getD_eq_getElem?_getD,List.getElem?_eq_getElem hi];rfl
  have hi':i<fs.length:=by rw[←h.len];exact hi
  have e':fs.getD i []=fs[i]:=by rw[List.getD_eq_getElem?_getD,List.getElem?_eq_getElem hi'];rfl
  rw[e,e']at h3
  exact⟨fs[i],List.getElem_mem hi',h3.symm⟩
 ·rintro⟨t,ht,rfl⟩
  obtain⟨i,hi,rfl⟩:=List.mem_iff_getElem.1 ht
  have hi':i<refs.length:=by rw[h.len];exact hi
  obtain⟨h2,h3⟩:=h.is i hi'
  have e:refs.getD i 0=refs[i]:=by rw[List.getD_eq_getElem?_getD,List.getElem?_eq_getElem hi'];rfl
  have e':fs.getD i []=fs[i]:=by rw[List.getD_eq_getElem?_getD,List.getElem?_eq_getElem hi];rfl
  rw[e,e']at h3
  exact⟨refs[i],h.mem.2 (List.getElem_mem hi'),h3⟩
theorem oV{a b:Value}{f f':aC.Fn}(h1:cC B a n f)(h2:cC B b n f'):Rd Tryz.prog 67 #[a,b] B (fun r=>∃x:Bool,r=.bool x∧(x=true↔f=f')):=by
 obtain⟨ws,⟨s1,rfl,hw⟩,hf,rfl⟩:=h1
 obtain⟨us,⟨s2,rfl,hu⟩,hg,rfl⟩:=h2
 have ON:=hf.len
 have hlu:=hg.len
 have WM:=aj.rX hf.qd
 refine aR fun g=>Iz ?_
 intro b1 _ b3 _
 refine Ld.f ?_
 refine Ld.f ?_
 refine aa.uk ?_
 rw[decide_eq_false (by simp)]
 refine df.or (a:=false) false (fun _=>?_) rfl fun gs=>Br.no ?_
 ·refine Ld.f ?_
  refine hw.1.bc ?_
  refine Ld.f ?_
  refine hu.1.bc ?_
  rw[ai,ai]
  refine aa.uk ⟨rfl,?_⟩
  simp only
  rw[decide_eq_false]
  show¬ws.length≠us.length
  omega
 refine⟨fun vs H=>∃i:Nat,vs=[.int .i64 (i:Int)]∧i≤ws.length∧H=(b3,.cells #[.int .i64 (n:Int),s2] 57 (0,0))::(b1,.cells #[.int .i64 (n:Int),s1] 57 (0,0))::B∧ws.take i=us.take i,fun vs _=>ws.length-br vs 0,JE.mk ⟨0,rfl,Nat.zero_le _,rfl,rfl⟩,?_⟩
 rintro Xi H ⟨i,⟨⟩,hi,rfl,jE⟩ gs
 refine Ld.f ?_
 refine hw.1.bc ?_
 rw[ai]
 show aa .num .lss (.int .i64 (i:Int)) (.int .i64 ((ws.length:Nat):Int)) _
 refine aa.dH (Br.dec (fun hlt=>?_) (fun hlt=>?_))
 ·have kF:i<us.length:=by omega
  refine Ld.f ?_
  refine hw.1.ld (bV (List.getElem?_eq_getElem hlt)) (fun _ h=>.tail _ (.tail _ h)) ?_
  refine Ld.f ?_
  refine hu.1.ld (bV (List.getElem?_eq_getElem kF)) (fun _ h=>.tail _ (.tail _ h)) ?_
  refine aa.uk (Br.dec (fun hne=>?_) (fun hne=>?_))
  ·refine bN.mk (.skip .tail) ⟨false,rfl,by simp;intro h;exact hne (by have e:=F4 hf hg h;subst e;rfl)⟩
  ·refine aa.inc ?_
   refine aB.mk ⟨i+1,rfl,hlt,rfl,?_⟩ (by simp only[br];omega)
   rw[List.take_succ_eq_append_getElem hlt,List.take_succ_eq_append_getElem kF,jE]
   congr 2
   exact Classical.byContradiction hne
 ·obtain rfl:i=ws.length:=by omega
  rw[List.take_length,show ws.length=us.length by omega,List.take_length]at jE
  exact bN.mk (.skip .tail) ⟨true,rfl,by simp[jE]⟩
end
end Go.Proofs
set_option maxRecDepth 100000
namespace Go.Proofs
open Go Go.Sx
open aC
section
variable {kp gb n:Nat} {vr vf:Value} {refs:List Nat} {fs:List (List Nat)} {K:Kd} {S:Nat→aC.Fn} {ord ah tr:List Nat} {C B M G:Hp}
theorem wV(hG:mL gb kp K.n vr vf refs fs M G)(hg:ug K S refs fs)(hK:cw kp K S ord ah tr C)(hn:K.n≤16)(hm:refs.length<1048576){a:Nat}(ha:a<256):
  PxL Tryz.prog 126 #[ptr gb,.int .u8 (a:Int)] M G (fun w H=>∃r t,w=.tuple #[u32 r,t]∧live K.N r∧cC H t K.n (S r)):=by
 have hint:=hK.ok.mid.int
 refine aR fun g=>EV ?_
 intro b1 _
 refine aQ.q ?_
 refine Ld.v (by exact .tail _ (List.mem_append_right _ hG.cell)) ?_
 refine hG.rf.bc ?_
 rw[ai]
 refine aa.dx (b:=2) ?_
 refine aa.p6 (by omega) ?_
 have hlt:=Nat.mod_lt a (show 0<refs.length+2 by omega)
 generalize a%(refs.length+2)=i at*
 refine aa.dH (b:=2) (Br.dec (fun h2=>?_) (fun h2=>?_))
 ·refine Ld.v (by exact .tail _ (List.mem_append_right _ hG.cell)) ?_
  refine aa.cE (b:=1) ?_
  refine ae.pq (mN hn (decide (i=1)) M) ?_
  rintro w N ⟨v,rfl,ws,⟨s,rfl,hw⟩,hf,he⟩
  refine Ext.two ?_
  intro Ae _
  have h1:∀x∈[Value.int .i64 (K.n:Int),s],x.oneCell'=true:=by have:=aG hw;simpa[Value.oneCell']using this
  refine St.p h1 ?_
  refine DR.self ?_
  refine aQ.q ?_
  refine av.q ?_
  refine St.p h1 ?_
  refine av.q ?_
  refine aS.here ⟨_::_::(N++M),rfl,.cons (.cons (.app (.refl _))),i,_,rfl,.inl h2,ws,⟨s,rfl,hw.mono zS⟩,hf,he.trans ?_⟩
  have:i=0∨i=1:=by omega
  rcases this with rfl|rfl
  ·exact funext fun x=>(hint.zero x).symm
  ·exact funext fun x=>(hint.one x).symm
 ·refine DR.self ?_
  refine Ld.v (by exact .tail _ (List.mem_append_right _ hG.cell)) ?_
  refine aa.bE (b:=2) ?_
  have hi:i-2<refs.length:=by omega
  refine hG.rf.ld (n:=((refs.getD (i-2) 0:Nat):Int)) (aX hi) (fun _ h=>.tail _ (List.mem_append_right _ h)) ?_
  refine Ld.v (by exact .tail _ (List.mem_append_right _ hG.cell)) ?_
  refine aa.bE (b:=2) ?_
  have hi':i-2<fs.length:=by rw[←hg.len];exact hi
  have e':fs.getD (i-2) []=fs[i-2]:=by rw[List.getD_eq_getElem?_getD,List.getElem?_eq_getElem hi'];rfl
  obtain⟨rs,hSl,hE⟩:=hG.fn
  obtain⟨row,hrow,s,rfl,hw⟩:=hE.get (i:=i-2) (x:=⟨K.n,fs[i-2]⟩) (by rw[List.getElem?_map,List.getElem?_eq_getElem hi'];rfl)
  refine an.sl hSl hrow fun p hp=>?_
  refine av.at hp rfl (by decide) (fun _ h=>.tail _ (List.mem_append_right _ h)) ?_
  have h1:∀x∈[Value.int .i64 (K.n:Int),s],x.oneCell'=true:=by have:=aG hw;simpa[Value.oneCell']using this
  refine St.p h1 ?_
  refine av.q ?_
  obtain⟨me,h3⟩:=hg.is (i-2) hi
  have hmem:refs.getD (i-2) 0∈refs:=by rw[List.getD_eq_getElem?_getD,List.getElem?_eq_getElem hi];exact List.getElem_mem hi
  exact aS.here ⟨_::M,rfl,.cons (.refl _),refs.getD (i-2) 0,_,rfl,hg.live hK hmem,fs[i-2],⟨s,rfl,hw.mono zS⟩,hg.oz _ (List.getElem_mem hi'),by rw[←e'];exact h3⟩
def P4(k v x:Nat)(f h i:aC.Fn):aC.Fn:=match k with
 |0=>fun y=>y.testBit v
 |1=>fun y=> !f y
 |2=>fun y=>Hi (x%16) (f y) (h y)
 |3=>fun y=>Hi (x%16) (f y) (h y)
 |4=>fun y=>if f y then h y else i y
 |5=>fun y=>f (aj.aA y v (decide (x%2=1)))
 |6=>fun y=>Hi 14 (f (aj.aA y v false)) (f (aj.aA y v true))
 |7=>fun y=>Hi 8 (f (aj.aA y v false)) (f (aj.aA y v true))
 |_=>fun y=>if h y then f (aj.aA y v true)else f (aj.aA y v false)
structure rW where
 k:Nat
 v:Nat
 a:Nat
 b:Nat
 c:Nat
 x:Nat
structure rW.Ok(o:rW):Prop where
 k:o.k<256
 v:o.v<256
 a:o.a<256
 b:o.b<256
 c:o.c<256
 x:o.x<18446744073709551616
def rW.cells(o:rW):List Value:=[.int .u8 (o.k:Int),.int .u8 (o.v:Int),.int .u8 (o.a:Int),.int .u8 (o.b:Int),.int .u8 (o.c:Int),.int .u64 (o.x:Int)]
set_option maxHeartbeats 1000000 in
theorem JF(hG:mL gb kp K.n vr vf refs fs M G)(hn:K.n≤16)(zu:1≤K.n){o:rW}(ho:o.Ok){ft ht it:Value}{f h i:aC.Fn}(hf:cC M ft K.n f)(hh:cC M ht K.n h)(hi:cC M it K.n i):
  PxL Tryz.prog 127 #[ptr gb,.agg o.cells.toArray,ft,ht,it] M G (fun w H=>∃t,w=.tuple #[t,.int .i64 0]∧cC H t K.n (P4 (o.k%9) (o.v%K.n) o.x f h i)):=by
 obtain⟨ws,⟨s1,rfl,hw⟩,hwf,rfl⟩:=hf
 obtain⟨us,⟨s2,rfl,hu⟩,huf,rfl⟩:=hh
 obtain⟨rs,⟨s3,rfl,hr⟩,hrf,rfl⟩:=hi
 refine aR fun g=>EU ?_
 intro b1 _ b3 _ b5 _ b7 _ b9 _
 refine Ld.f ?_
 refine aQ.nat (by have:=ho.v;simp[bA];omega) ?_
 refine Ld.v (by exact .tail _ (.tail _ (.tail _ (.tail _ (.tail _ (List.mem_append_right _ hG.cell)))))) ?_
 refine aa.p6 (by omega) ?_
 have hv:=Nat.mod_lt o.v (show 0<K.n by omega)
 generalize o.v%K.n=v at*
 refine Ld.v (by exact .tail _ (.tail _ (.tail _ (.tail _ (.tail _ (List.mem_append_right _ hG.cell)))))) ?_
 obtain⟨B1,Jk⟩:∃B1:Hp,B1=(b7,Obj.cells #[.int .i64 (K.n:Int),s3] 57 (0,0))::(b5,.cells #[.int .i64 (K.n:Int),s2] 57 (0,0))::(b3,.cells #[.int .i64 (K.n:Int),s1] 57 (0,0))::(b1,.cells o.cells.toArray 106 (0,0))::M:=⟨_,rfl⟩
 have m7:(b7,Obj.cells #[.int .i64 (K.n:Int),s3] 57 (0,0))∈B1:=by rw[Jk];exact .head _
 have m5:(b5,Obj.cells #[.int .i64 (K.n:Int),s2] 57 (0,0))∈B1:=by rw[Jk];exact .tail _ (.head _)
 have m3:(b3,Obj.cells #[.int .i64 (K.n:Int),s1] 57 (0,0))∈B1:=by rw[Jk];exact .tail _ (.tail _ (.head _))
 have m1:(b1,Obj.cells o.cells.toArray 106 (0,0))∈B1:=by rw[Jk];exact .tail _ (.tail _ (.tail _ (.head _)))
 have hsub:∀x∈M,x∈B1:=fun x hx=>by rw[Jk];exact .tail _ (.tail _ (.tail _ (.tail _ hx)))
 have fc:aT M B1:=by rw[Jk];exact .cons (.cons (.cons (.cons (.refl _))))
 change ae Tryz.prog g _ _ ((b9,Obj.cells #[.int .i64 0,.slice none 0 0] 57 (0,0))::(((b7,Obj.cells #[.int .i64 (K.n:Int),s3] 57 (0,0))::(b5,.cells #[.int .i64 (K.n:Int),s2] 57 (0,0))::(b3,.cells #[.int .i64 (K.n:Int),s1] 57 (0,0))::(b1,.cells o.cells.toArray 106 (0,0))::M)++G)) _ _
 rw[←Jk]
 have t1:cC B1 (.agg #[.int .i64 (K.n:Int),s1]) K.n (gJ K.n ws):=⟨ws,⟨s1,rfl,hw.mono hsub⟩,hwf,rfl⟩
 have t2:cC B1 (.agg #[.int .i64 (K.n:Int),s2]) K.n (gJ K.n us):=⟨us,⟨s2,rfl,hu.mono hsub⟩,huf,rfl⟩
 have t3:cC B1 (.agg #[.int .i64 (K.n:Int),s3]) K.n (gJ K.n rs):=⟨rs,⟨s3,rfl,hr.mono hsub⟩,hrf,rfl⟩
 clear Jk hw hu hr
 have one:∀{X:Hp} {s:Value} {l:List Nat},Words X s l→∀x∈[Value.int .i64 (K.n:Int),s],x.oneCell'=true:=fun hw=>by have:=aG hw;simpa[Value.oneCell']using this
 refine ae.pq (Ft hn hv B1) ?_
 rintro w N1 ⟨_,rfl,w4,⟨s4,rfl,M7⟩,Qv,TC⟩
 refine Ext.two ?_
 intro QX _
 refine St.p (one M7) ?_
 refine av.whole (r:=[.int .i64 (K.n:Int),s1]) (by exact .tail _ (.tail _ (List.mem_append_left _ (List.mem_append_right _ m3)))) rfl ?_
 refine ae.px (.cons (.cons .left)) (lj (c:=false) (t1.mono zS) hv) ?_
 rintro w N2 ⟨_,rfl,w5,⟨s5,rfl,To⟩,hf5,he5⟩
 refine Ext.two ?_
 intro yc _
 refine St.p (one To) ?_
 refine av.whole (r:=[.int .i64 (K.n:Int),s1]) (by exact .tail _ (.tail _ (.tail _ (List.mem_append_left _ (List.mem_append_right _ (List.mem_append_right _ m3)))))) rfl ?_
 refine ae.px (.cons (.cons (.cons .left))) (lj (c:=true) (t1.mono zS) hv) ?_
 rintro w N3 ⟨_,rfl,w6,⟨s6,rfl,Qj⟩,hf6,he6⟩
 refine Ext.two ?_
 intro PB _
 refine St.p (one Qj) ?_
 obtain⟨Q,hQ⟩:∃Q:Hp,Q=N3++(N2++(N1++B1)):=⟨_,rfl⟩
 have q4:cC Q (.agg #[.int .i64 (K.n:Int),s4]) K.n (fun y=>y.testBit v):=by rw[hQ];exact⟨w4,⟨s4,rfl,M7.mono zS⟩,Qv,TC⟩
 have q5:cC Q (.agg #[.int .i64 (K.n:Int),s5]) K.n (fun y=>gJ K.n ws (aj.aA y v false)):=by rw[hQ];exact⟨w5,⟨s5,rfl,To.mono zS⟩,hf5,he5⟩
 have q6:cC Q (.agg #[.int .i64 (K.n:Int),s6]) K.n (fun y=>gJ K.n ws (aj.aA y v true)):=by rw[hQ];exact⟨w6,⟨s6,rfl,Qj⟩,hf6,he6⟩
 have QS:∀x∈B1,x∈Q:=fun x hx=>by rw[hQ];exact List.mem_append_right _ (List.mem_append_right _ (List.mem_append_right _ hx))
 have hgQ:aT M Q:=by rw[hQ];exact .app (.app (.app fc))
 rw[←hQ]
 have t1:=t1.mono QS
 have t2:=t2.mono QS
 have t3:=t3.mono QS
 have m1:=QS _ m1
 have m3:=QS _ m3
 have m5:=QS _ m5
 have m7:=QS _ m7
 clear hQ QS fc hsub M7 To Qj
 have fin:∀(N4:Hp) (f:aC.Fn) (u:Value),cC (N4++Q) u K.n f→f=P4 (o.k%9) v o.x (gJ K.n ws) (gJ K.n us) (gJ K.n rs)→
   St 2 ((PB,.cells #[.int .i64 (K.n:Int),s6] 57 (0,0))::(yc,.cells #[.int .i64 (K.n:Int),s5] 57 (0,0))::(QX,.cells #[.int .i64 (K.n:Int),s4] 57 (0,0))::(b9,.cells #[.int .i64 0,.slice none 0 0] 57 (0,0))::((N4++Q)++G)) (ptr b9) u fun H=>av 2 H (ptr b9) fun r=>
    aS (fun w H=>∃M',H=M'++G∧aT M M'∧∃t,w=.tuple #[t,.int .i64 0]∧cC M' t K.n (P4 (o.k%9) v o.x (gJ K.n ws) (gJ K.n us) (gJ K.n rs))) (.returned (.tuple #[r,.int .i64 0])) H:=by
  rintro N4 f u ⟨w7,⟨s7,rfl,hw7⟩,hf7,he7⟩ e
  refine St.p (one hw7) ?_
  refine av.q ?_
  exact aS.here ⟨_::_::_::_::(N4++Q),rfl,.cons (.cons (.cons (.cons (.app hgQ)))),_,rfl,w7,⟨s7,rfl,hw7.mono zS⟩,hf7,he7.trans e⟩
 have WH:∀{k:Value→Prop},k (.agg #[.int .i64 (K.n:Int),s1])→av 2 ((PB,.cells #[.int .i64 (K.n:Int),s6] 57 (0,0))::(yc,.cells #[.int .i64 (K.n:Int),s5] 57 (0,0))::(QX,.cells #[.int .i64 (K.n:Int),s4] 57 (0,0))::(b9,.cells #[.int .i64 0,.slice none 0 0] 57 (0,0))::(Q++G)) (ptr b3) k:=fun hk=>
  av.whole (r:=[.int .i64 (K.n:Int),s1]) (by exact .tail _ (.tail _ (.tail _ (.tail _ (List.mem_append_left _ m3))))) rfl hk
 have XH:∀{k:Value→Prop},k (.agg #[.int .i64 (K.n:Int),s2])→av 2 ((PB,.cells #[.int .i64 (K.n:Int),s6] 57 (0,0))::(yc,.cells #[.int .i64 (K.n:Int),s5] 57 (0,0))::(QX,.cells #[.int .i64 (K.n:Int),s4] 57 (0,0))::(b9,.cells #[.int .i64 0,.slice none 0 0] 57 (0,0))::(Q++G)) (ptr b5) k:=fun hk=>
  av.whole (r:=[.int .i64 (K.n:Int),s2]) (by exact .tail _ (.tail _ (.tail _ (.tail _ (List.mem_append_left _ m5))))) rfl hk
 have ld7:∀{k:Value→Prop},k (.agg #[.int .i64 (K.n:Int),s3])→av 2 ((PB,.cells #[.int .i64 (K.n:Int),s6] 57 (0,0))::(yc,.cells #[.int .i64 (K.n:Int),s5] 57 (0,0))::(QX,.cells #[.int .i64 (K.n:Int),s4] 57 (0,0))::(b9,.cells #[.int .i64 0,.slice none 0 0] 57 (0,0))::(Q++G)) (ptr b7) k:=fun hk=>
  av.whole (r:=[.int .i64 (K.n:Int),s3]) (by exact .tail _ (.tail _ (.tail _ (.tail _ (List.mem_append_left _ m7))))) rfl hk
 have RE:∀{k:Value→Prop},k (.agg #[.int .i64 (K.n:Int),s5])→av 2 ((PB,.cells #[.int .i64 (K.n:Int),s6] 57 (0,0))::(yc,.cells #[.int .i64 (K.n:Int),s5] 57 (0,0))::(QX,.cells #[.int .i64 (K.n:Int),s4] 57 (0,0))::(b9,.cells #[.int .i64 0,.slice none 0 0] 57 (0,0))::(Q++G)) (ptr yc) k:=fun hk=>
  av.q hk
 have RD:∀{k:Value→Prop},k (.agg #[.int .i64 (K.n:Int),s6])→av 2 ((PB,.cells #[.int .i64 (K.n:Int),s6] 57 (0,0))::(yc,.cells #[.int .i64 (K.n:Int),s5] 57 (0,0))::(QX,.cells #[.int .i64 (K.n:Int),s4] 57 (0,0))::(b9,.cells #[.int .i64 0,.slice none 0 0] 57 (0,0))::(Q++G)) (ptr PB) k:=fun hk=>
  av.q hk
 have RA:∀(i:Nat) (x:Value) {k:Value→Prop},o.cells[i]? =some x→k x→ag i (ptr b1) fun p=>Ld ((PB,.cells #[.int .i64 (K.n:Int),s6] 57 (0,0))::(yc,.cells #[.int .i64 (K.n:Int),s5] 57 (0,0))::(QX,.cells #[.int .i64 (K.n:Int),s4] 57 (0,0))::(b9,.cells #[.int .i64 0,.slice none 0 0] 57 (0,0))::(Q++G)) p k:=fun i x _ hx hk=>
  ag.mk (Ld.mk (v:=x) (by exact .tail _ (.tail _ (.tail _ (.tail _ (List.mem_append_left _ m1))))) (by simpa using hx) hk)
 refine RA 0 _ rfl ?_
 refine aa.p6 (b:=9) (by decide) ?_
 have hk9:=Nat.mod_lt o.k (show 0<9 by decide)
 have hx:=ho.x
 generalize o.k%9=k at*
 refine aa.cE (b:=0) (Br.dec (fun h0=>?_) (fun h0=>?_))
 ·subst h0
  refine av.q ?_
  exact fin [] _ _ q4 rfl
 refine aa.cE (b:=1) (Br.dec (fun h0=>?_) (fun h0=>?_))
 ·subst h0
  refine WH ?_
  refine ae.pq (ND t1) ?_
  rintro w N4 ⟨u,rfl,hu⟩
  exact Ext.mk rfl (Ext.mk rfl (fin N4 _ u hu rfl))
 intro J hJ
 have Jj:J [.bool (decide (k=2∨k=3))] ((PB,.cells #[.int .i64 (K.n:Int),s6] 57 (0,0))::(yc,.cells #[.int .i64 (K.n:Int),s5] 57 (0,0))::(QX,.cells #[.int .i64 (K.n:Int),s4] 57 (0,0))::(b9,.cells #[.int .i64 0,.slice none 0 0] 57 (0,0))::(Q++G)):=by
  refine hJ _ _ fun gs=>?_
  refine Br.dec (fun V1=>?_) (fun V1=>?_)
  ·refine RA 5 _ rfl ?_
   refine aa.p6 (b:=16) (by decide) ?_
   have Zm:=Nat.mod_lt o.x (show 0<16 by decide)
   refine aQ.q ?_
   refine WH (XH ?_)
   refine ae.pq (wL Zm t1 t2) ?_
   rintro w N4 ⟨u,rfl,hu⟩
   refine Ext.mk rfl (Ext.mk rfl (fin N4 _ u hu ?_))
   rcases V1 with rfl|rfl<;>rfl
  refine aa.cE (b:=4) (Br.dec (fun h0=>?_) (fun h0=>?_))
  ·subst h0
   refine WH (XH (ld7 ?_))
   refine ae.pq (wI t1 t2 t3) ?_
   rintro w N4 ⟨u,rfl,hu⟩
   exact Ext.mk rfl (Ext.mk rfl (fin N4 _ u hu rfl))
  refine aa.cE (b:=5) (Br.dec (fun h0=>?_) (fun h0=>?_))
  ·subst h0
   refine WH (RA 5 _ rfl ?_)
   refine aa.p6 (b:=2) (by decide) ?_
   refine aa.cE (b:=1) ?_
   refine ae.pq (lj t1 hv) ?_
   rintro w N4 ⟨u,rfl,hu⟩
   exact Ext.mk rfl (Ext.mk rfl (fin N4 _ u hu rfl))
  refine aa.cE (b:=6) (Br.dec (fun h0=>?_) (fun h0=>?_))
  ·subst h0
   refine RE (RD ?_)
   refine ae.pq (wL (op:=14) (by decide) q5 q6) ?_
   rintro w N4 ⟨u,rfl,hu⟩
   exact Ext.mk rfl (Ext.mk rfl (fin N4 _ u hu rfl))
  refine aa.cE (b:=7) (Br.dec (fun h0=>?_) (fun h0=>?_))
  ·subst h0
   refine RE (RD ?_)
   refine ae.pq (wL (op:=8) (by decide) q5 q6) ?_
   rintro w N4 ⟨u,rfl,hu⟩
   exact Ext.mk rfl (Ext.mk rfl (fin N4 _ u hu rfl))
  ·have:k=8:=by omega
   subst this
   refine XH (RD (RE ?_))
   refine ae.pq (wI t2 q6 q5) ?_
   rintro w N4 ⟨u,rfl,hu⟩
   exact Ext.mk rfl (Ext.mk rfl (fin N4 _ u hu rfl))
 refine aa.cE (b:=2) (Br.dec (fun h2=>?_) (fun h2=>?_))
 ·have:decide (k=2)=decide (k=2∨k=3):=by simp[h2]
  rw[this];exact JE.mk Jj
 ·refine aa.cE (b:=3) ?_
  have:decide (k=3)=decide (k=2∨k=3):=by simp[h2]
  rw[this];exact JE.mk Jj
end
end Go.Proofs
namespace Go.Sx
open Go
section
variable {P:Program} {g:Gh} {H B:Hp} {c:Hp→Hp}
theorem ae.top{f:FuncId}{args:Array Value}{Q:Value→Hp→Prop}{K:Value→Hp→Prop}{KP:List PanicEntry→Hp→Prop}(hh:aZ B H c)(hc:Fc P f args B (fun r H'=>∃N,H'=N++B∧Q r N))(hk:∀r N,Q r N→K r (N++H)):ae P g f args H K KP:=by
 refine(ae.fn (K:=fun r H'=>∃N,H'=c (N++B)∧Q r N) (KP:=KP) hh hc fun r C' ⟨N,h1,h2⟩=>⟨N,by rw[h1],h2⟩).post ?_
 intro e H' h
 cases e with
 |returned v=>
  obtain⟨N,rfl,hq⟩:=h
  refine⟨N++H,?_,hk v N hq⟩
  obtain⟨h1,F,h2⟩:=hh.spec
  refine .perm ((h2 (N++B)).trans ?_)
  rw[h1,List.append_assoc]
  exact List.Perm.append_left N (h2 B).symm
 |panicked ch=>exact⟨H',.refl _,h⟩
 |outgrown=>exact⟨H',.refl _,h⟩
theorem aM.Of{x:Nat×Obj}(h:x∈H):aM H [x]:=by
 obtain⟨A,D,rfl⟩:=List.append_of_mem h
 exact .eG (aM.left (A:=[x]))
end
end Go.Sx
set_option maxRecDepth 100000
namespace Go.Proofs
open Go Go.Sx
open aC
section
variable {kp gb n:Nat} {vr vf:Value} {refs:List Nat} {fs:List (List Nat)} {K:Kd} {S:Nat→aC.Fn} {ord ah tr:List Nat} {C B:Hp}
theorem cw.perm(hK:cw kp K S ord ah tr C):ord.Perm (List.range K.n):=by
 have jG:=hK.od
 refine iO ?_ (fun x hx=>?_) (by rw[List.length_range,jG.len];exact Nat.le_refl _)
 ·refine List.pairwise_iff_getElem.2 fun i j hi hj hij e=>?_
  have g1:=(jG.aY i (by rw[←jG.len];exact hi)).2
  have g2:=(jG.aY j (by rw[←jG.len];exact hj)).2
  rw[List.getD_eq_getElem?_getD,List.getElem?_eq_getElem hi,e]at g1
  rw[List.getD_eq_getElem?_getD,List.getElem?_eq_getElem hj]at g2
  omega
 ·obtain⟨i,hi,rfl⟩:=List.mem_iff_getElem.1 hx
  rw[jG.len]at hi
  have:=(jG.aY i hi).1
  rw[List.getD_eq_getElem?_getD,List.getElem?_eq_getElem (by rw[jG.len];exact hi)]at this
  exact List.mem_range.2 this
theorem Cn{p:List Nat}{m:Nat}(h:p.Perm (List.range m)):mE (iw p):=by
 rw[nm,ai,h.length_eq,List.length_range]
 exact h.map _
def oI(kp:Nat)(K:Kd)(S:Nat→aC.Fn)(ord ah tr:List Nat)(e8:Prop)(lo hi f:aC.Fn)(w:Value)(H:Hp):Prop:=
 (∃x K' S',w=.tuple #[u32 x,.int .i64 0]∧cw kp K' S' ord ah [] H∧kR K S K' S' f x)∨
 (w=.tuple #[u32 0,.int .i64 9]∧(∃K' S' kK,cw kp K' S' ord ah kK H∧(kK=[]∨kK=tr)∧Kept K S K' S')∧¬Fits (aP K.n ord (fun g=>((K.held S g∨g=lo)∨g=hi)∨g=f)) K.cap∧(e8∨¬Fits (aP K.n ord (fun g=>K.held S g∨g=f)) K.cap))
theorem oH.ask{e8:Prop}{lo hi f:aC.Fn}{w:Value}{H:Hp}(h:oH kp K S ord ah tr f w H):oI kp K S ord ah tr e8 lo hi f w H:=by
 rcases h with h|⟨h1,h2,h3⟩
 ·exact .inl h
 ·exact .inr ⟨h1,h2,fun hf=>h3 (Fits.mono (fun g hg=>bJ (fun g h=>h.imp (fun h=>.inl (.inl h)) id) hg) hf),.inr h3⟩
theorem xZ.ask{e8:Prop}(he:e8){lo hi f:aC.Fn}{w:Value}{H:Hp}(h:xZ kp K S ord ah tr lo hi f w H):oI kp K S ord ah tr e8 lo hi f w H:=by
 rcases h with h|⟨h1,h2,h3⟩
 ·exact .inl h
 ·refine .inr ⟨h1,h2,fun hf=>?_,.inl he⟩
  rcases h3 with h3|h3|h3
  ·exact h3 (Fits.mono (fun g hg=>bJ (fun g h=>.inl (.inl h)) hg) hf)
  ·exact h3 (Fits.mono (fun g hg=>bJ (fun g h=>.inl h) hg) hf)
  ·exact h3 hf
theorem oI.two{e8:Prop}{lo hi f:aC.Fn}{w:Value}{H:Hp}(h:oI kp K S ord ah tr e8 lo hi f w H):∃x y,w=.tuple #[x,y]:=by
 rcases h with⟨x,K',S',rfl,_⟩|⟨rfl,_⟩
 ·exact⟨_,_,rfl⟩
 ·exact⟨_,_,rfl⟩
theorem ME{c:Hp→Hp}(hc:aZ C B c)(hcell:∀Z,eS gb kp K.n vr vf∈c Z)(hK:cw kp K S ord ah tr C)(zu:1≤K.n){o:rW}(ho:o.Ok){r h i:Nat}(hr:live K.N r)(hh:live K.N h)(hi:live K.N i)(hB:∀s,K.hold s+2+2^K.n≤65535):
  Fc Tryz.prog 128 #[ptr gb,.agg o.cells.toArray,u32 r,u32 h,u32 i] B (fun w H=>∃C',H=c C'∧oI kp K S ord ah tr (o.k%9=8) (fun x=>S r (aj.aA x (o.v%K.n) false)) (fun x=>S r (aj.aA x (o.v%K.n) true)) (P4 (o.k%9) (o.v%K.n) o.x (S r) (S h) (S i)) w C'):=by
 have sV:1≤2^K.n:=Nat.one_le_two_pow
 have zq:=hK.aY.oK
 have Vd:eS gb kp K.n vr vf∈B:=by rw[hc.spec.1];exact hcell C
 have Jk:∀s,K.hold s+2^K.n≤65535:=fun s=>by have:=hB s;omega
 have AG:∀s,K.hold s+2<65535:=fun s=>by have:=hB s;omega
 have BJ:∀s,K.hold s+1<65535:=fun s=>by have:=hB s;omega
 refine aR fun g=>ET ?_
 intro b1 _
 refine Ld.f ?_
 refine aQ.nat (by have:=ho.v;simp[bA];omega) ?_
 refine Ld.v (by exact .tail _ Vd) ?_
 refine aa.p6 (by omega) ?_
 have hv:=Nat.mod_lt o.v (show 0<K.n by omega)
 generalize o.v%K.n=v at*
 have hx:=ho.x
 refine Ld.f ?_
 refine aa.p6 (b:=9) (by decide) ?_
 have hk9:=Nat.mod_lt o.k (show 0<9 by decide)
 generalize o.k%9=k at*
 obtain⟨Q,hQ⟩:∃Q:Value→Hp→Prop,Q=fun w H=>∃C',H=c C'∧oI kp K S ord ah tr (k=8) (fun x=>S r (aj.aA x v false)) (fun x=>S r (aj.aA x v true)) (P4 k v o.x (S r) (S h) (S i)) w C':=⟨_,rfl⟩
 rw[←hQ]
 have fin:∀w C',oI kp K S ord ah tr (k=8) (fun x=>S r (aj.aA x v false)) (fun x=>S r (aj.aA x v true)) (P4 k v o.x (S r) (S h) (S i)) w C'→
   Ext 0 w fun u=>Ext 1 w fun u'=>aS Q (.returned (.tuple #[u,u'])) ((b1,.cells o.cells.toArray 106 (0,0))::c C'):=fun w C' hA=>by
  obtain⟨x,y,rfl⟩:=hA.two
  refine Ext.mk rfl (Ext.mk rfl (aS.mk .tail ?_))
  rw[hQ];exact⟨C',rfl,hA⟩
 have ie:∀C',aM ((b1,.cells o.cells.toArray 106 (0,0))::c C') [(b1,.cells o.cells.toArray 106 (0,0)),eS gb kp K.n vr vf]:=fun C'=>.cons (.Of (hcell C'))
 refine aa.cE (b:=0) (Br.dec (fun h0=>?_) (fun h0=>?_))
 ·subst h0
  refine Ld.v (by exact .tail _ Vd) ?_
  refine ae.fn (.cons hc) (PC hK hv (fun s=>by have:=hB s;omega)) ?_
  intro w C' hD
  exact fin w C' hD.ask
 refine aa.cE (b:=1) (Br.dec (fun h0=>?_) (fun h0=>?_))
 ·subst h0
  refine Ld.v (by exact .tail _ Vd) ?_
  refine ae.fn (.cons hc) (PG hK hr Jk) ?_
  intro w C' hD
  exact fin w C' hD.ask
 intro J hJ
 have Jj:J [.bool (decide (k=2∨k=3))] ((b1,.cells o.cells.toArray 106 (0,0))::B):=by
  refine hJ _ _ fun gs=>?_
  refine Br.dec (fun V1=>?_) (fun V1=>?_)
  ·refine DR.of (R:=[(b1,.cells o.cells.toArray 106 (0,0)),eS gb kp K.n vr vf]) (by have:=ie C;rwa [←hc.spec.1]at this) ?_
   refine Ld.n ?_
   refine Ld.f ?_
   refine aa.p6 (b:=16) (by decide) ?_
   have Zm:=Nat.mod_lt o.x (show 0<16 by decide)
   refine aQ.q ?_
   refine ae.fn (.cons hc) (tK hK Zm hr hh Jk) ?_
   intro w C' hD
   refine⟨ie C',fin w C' ?_⟩
   rcases V1 with rfl|rfl
   ·exact hD.ask
   ·exact hD.ask
  refine aa.cE (b:=4) (Br.dec (fun h0=>?_) (fun h0=>?_))
  ·subst h0
   refine Ld.v (by exact .tail _ Vd) ?_
   refine ae.fn (.cons hc) (Gq hK hr hh hi Jk) ?_
   intro w C' hD
   exact fin w C' hD.ask
  refine aa.cE (b:=5) (Br.dec (fun h0=>?_) (fun h0=>?_))
  ·subst h0
   refine DR.of (R:=[(b1,.cells o.cells.toArray 106 (0,0)),eS gb kp K.n vr vf]) (by have:=ie C;rwa [←hc.spec.1]at this) ?_
   refine Ld.n ?_
   refine Ld.f ?_
   refine aa.p6 (b:=2) (by decide) ?_
   refine aa.cE (b:=1) ?_
   refine ae.fn (.cons hc) (wT hK hr hv BJ) ?_
   intro w C' hD
   exact⟨ie C',fin w C' hD.ask⟩
  have xB:2^v<18446744073709551616:=Nat.lt_of_lt_of_le (iP hv) (Nat.pow_le_pow_right (n:=2) (by decide) zq)
  have eq6:∀e:Bool,qf e v (S r)=fun y=>Hi (if e then 14 else 8) (S r (aj.aA y v false)) (S r (aj.aA y v true)):=fun e=>by
   funext y
   show(if e then S r (aj.aA y v false)||S r (aj.aA y v true)else S r (aj.aA y v false) &&S r (aj.aA y v true))=_
   cases e<;>cases S r (aj.aA y v false)<;>cases S r (aj.aA y v true)<;>rfl
  refine aa.cE (b:=6) (Br.dec (fun h0=>?_) (fun h0=>?_))
  ·subst h0
   refine DR.of (R:=[(b1,.cells o.cells.toArray 106 (0,0)),eS gb kp K.n vr vf]) (by have:=ie C;rwa [←hc.spec.1]at this) ?_
   refine Ld.n ?_
   refine aa.uy (a:=1) (by simp[IntKind.bits];omega) (by rw[Nat.one_shiftLeft];simpa[bA]using xB) ?_
   rw[Nat.one_shiftLeft]
   refine ae.fn (.cons hc) (HV hK hr (iP hv) AG) ?_
   intro w C' hD
   have:=(g7.one hv hD).ask (e8:=(6:Nat)=8) (lo:=fun x=>S r (aj.aA x v false)) (hi:=fun x=>S r (aj.aA x v true))
   rw[eq6 true]at this
   exact⟨ie C',fin w C' this⟩
  refine aa.cE (b:=7) (Br.dec (fun h0=>?_) (fun h0=>?_))
  ·subst h0
   refine DR.of (R:=[(b1,.cells o.cells.toArray 106 (0,0)),eS gb kp K.n vr vf]) (by have:=ie C;rwa [←hc.spec.1]at this) ?_
   refine Ld.n ?_
   refine aa.uy (a:=1) (by simp[IntKind.bits];omega) (by rw[Nat.one_shiftLeft];simpa[bA]using xB) ?_
   rw[Nat.one_shiftLeft]
   refine ae.fn (.cons hc) (HT hK hr (iP hv) AG) ?_
   intro w C' hD
   have:=(g7.one hv hD).ask (e8:=(7:Nat)=8) (lo:=fun x=>S r (aj.aA x v false)) (hi:=fun x=>S r (aj.aA x v true))
   rw[eq6 false]at this
   exact⟨ie C',fin w C' this⟩
  ·have:k=8:=by omega
   subst this
   refine Ld.v (by exact .tail _ Vd) ?_
   refine ae.fn (.cons hc) (Pv hK hr hv hh hB) ?_
   intro w C' hD
   exact fin w C' (hD.ask rfl)
 refine aa.cE (b:=2) (Br.dec (fun h2=>?_) (fun h2=>?_))
 ·have:decide (k=2)=decide (k=2∨k=3):=by simp[h2]
  rw[this];exact JE.mk Jj
 ·refine aa.cE (b:=3) ?_
  have:decide (k=3)=decide (k=2∨k=3):=by simp[h2]
  rw[this];exact JE.mk Jj
theorem zD(hG:AP gb kp K.n vr vf refs fs C B)(hfr:∀t∈fs,aj.dh K.n t)(hK:cw kp K S ord ah tr C)(hm:fs.length<65536){more:Value}{ms:List (List Nat)}(hmo:dZ B more (ms.map fun ws=>⟨K.n,ws⟩))(hmf:∀t∈ms,aj.dh K.n t)(hml:ms.length≤1)(nv:K.n≤16):
  Px Tryz.prog 64 #[ptr gb,more] B (fun w H=>w=.int .i64 ((cY K.n ord (fs++ms) K.n:Nat):Int)):=by
 refine aR fun g=>IB ?_
 refine aq.none (e:=57) (k:=2) (z:=.agg #[.int .i64 0,.slice none 0 0]) (by kernel_rfl) (by kernel_rfl) (by kernel_rfl) fun bx=>?_
 refine Ld.v (by exact .tail _ hG.cell) ?_
 obtain⟨rf,hSf,Zh⟩:=hG.fn
 obtain⟨rm,hSm,Zg⟩:=hmo
 have lf:rf.length=fs.length:=by rw[Zh.1,List.length_map]
 have lm:rm.length=ms.length:=by rw[Zg.1,List.length_map]
 have Kq:∀{X:Hp} {rs:List (List Value)} {ts:List Tb},jT (xV X) rs ts→∀r∈rs,∀u∈r,u.oneCell'=true:=fun hE r hr u hu=>by
  obtain⟨i,hi,rfl⟩:=List.mem_iff_getElem.1 hr
  obtain⟨s,hs,hw⟩:=hE.2 i _ _ (List.getElem?_eq_getElem hi) (List.getElem?_eq_getElem (by rw[←hE.1];exact hi))
  rw[hs]at hu
  simp only[List.mem_cons,List.not_mem_nil,or_false]at hu
  rcases hu with rfl|rfl
  ·rfl
  ·exact aG hw
 have Nk:aO 57 2 (.slice (some ⟨bx,0,none⟩) 0 0) [] [(bx,.cells (rows []) 57 (0,0))]:=aO.made [] (by simp)
 refine Nk.Ai (C:=[(bx,.cells (rows []) 57 (0,0))]) (c:=fun X=>X++B) (aZ.left (C:=[(bx,.cells (rows []) 57 (0,0))])) (hSf.mono zS) (Kq Zh) ⟨[.int .i64 0,.slice none 0 0],rfl,rfl⟩ (by simp only[List.length_nil];omega) (by simp only[List.length_nil];omega) fun v8 C8 h8=>?_
 refine h8.Ai .left (hSm.mono fun _ h=>List.mem_append_right _ h) (Kq Zg) ⟨[.int .i64 0,.slice none 0 0],rfl,rfl⟩ (by simp only[List.nil_append];omega) (by simp only[List.nil_append];omega) fun Xn C12 Pb=>?_
 refine Ld.v (by exact List.mem_append_right _ hG.cell) ?_
 obtain⟨c,hc,_⟩:=hG.hole
 refine ae.top (Q:=fun r N=>aK 3 .i64 r (iw ord) N) (.app hc) (qh hK.rep) ?_
 intro vo N ho
 have hT:dZ (N++(C12++B)) Xn ((fs++ms).map fun ws=>⟨K.n,ws⟩):=by
  refine⟨[]++rf++rm,(Sl.kM Pb (by decide)).mono fun _ h=>List.mem_append_right _ (List.mem_append_left _ h),?_,fun i r x hr hx=>?_⟩
  ·simp only[List.nil_append,List.length_append,List.length_map];omega
  ·rw[List.nil_append]at hr
   rw[List.map_append]at hx
   by_cases hi:i<rf.length
   ·rw[List.getElem?_append_left hi]at hr
    rw[List.getElem?_append_left (by rw[List.length_map];omega)]at hx
    obtain⟨s,h1,h2⟩:=Zh.2 i r x hr hx
    exact⟨s,h1,h2.mono zS⟩
   ·rw[List.getElem?_append_right (by omega)]at hr
    rw[List.getElem?_append_right (by rw[List.length_map];omega)]at hx
    rw[List.length_map,←lf]at hx
    obtain⟨s,h1,h2⟩:=Zg.2 _ r x hr hx
    exact⟨s,h1,h2.mono zS⟩
 refine ae.pq (NN hT (fun t ht=>(List.mem_append.1 ht).elim (hfr t) (hmf t)) nv (by rw[List.length_append];omega) (ho.ints.mono fun _ h=>List.mem_append_left _ h) hK.od.len (Cn hK.perm)) ?_
 rintro w N2 rfl
 refine Ext.two ?_
 refine aa.cG (Br.F ?_)
 exact tL.mk (by repeat (first|exact aT.refl _|apply aT.cons|apply aT.app)) rfl
end
end Go.Proofs
set_option maxRecDepth 100000
namespace Go.Proofs
open Go Go.Sx
open aC
section
variable {kp gb n:Nat} {vr vf:Value} {refs:List Nat} {fs:List (List Nat)} {K:Kd} {S:Nat→aC.Fn} {ord ah tr:List Nat} {C B:Hp}
theorem aO.one{T:TypeId}{k:Nat}{v:Value}{l:List (List Value)}(h:aO T k v l C):v.oneCell'=true:=by obtain⟨a,c,e⟩:=aO.len h;rw[e];rfl
theorem Ph{r:Nat}(h2:r<2){s:Value}(B:Hp):Fc Tryz.prog 129 #[ptr gb,u32 r,.agg #[.int .i64 (n:Int),s]] B (fun _ H=>H=B):=by
 refine aR fun g=>uc ?_
 intro b1 _
 exact aa.iU (b:=1) (Br.F (aS.mk .tail rfl))
theorem Pg{r:Nat}(h2:2≤r){s:Value}{CR CF D:Hp}{rs:List (List Value)}(hr:aK 77 .u32 vr (iw refs) CR)(hf:aO 57 2 vf rs CF)(hs:s.oneCell'=true)(AE:refs.length<1048576)(qQ:rs.length<1048576):
  Fc Tryz.prog 129 #[ptr gb,u32 r,.agg #[.int .i64 (n:Int),s]] (eS gb kp n vr vf::(CR++(CF++D))) (fun _ H=>∃qF uv x4 Ar,H=eS gb kp n qF uv::(x4++(Ar++D))∧aK 77 .u32 qF (iw (refs++[r])) x4∧aO 57 2 uv (rs++[[.int .i64 (n:Int),s]]) Ar):=by
 refine aR fun g=>uc ?_
 intro b1 _
 refine aa.iU (b:=1) (Br.T ?_)
 refine Ld.n ?_
 refine aq.int (e:=77) (by kernel_rfl) (by kernel_rfl) (by kernel_rfl) fun bx=>?_
 refine hr.pN (x:=(r:Int)) (.cons (.cons (.cons .left))) (by exact .head _) (by rw[ai];omega) (by rw[ai];omega) fun qF x4 hr'=>?_
 refine Nil.ptr (ag.mk (St.one (by exact .tail (.tail (.head _))) hr'.one (by simp) rfl ?_))
 refine DR.of (R:=[(b1,.cells #[.int .i64 (n:Int),s] 57 (0,0)),eS gb kp n qF vf]) (.skip (.cons (aM.left (A:=[_])))) ?_
 refine Ld.n ?_
 refine av.q ?_
 refine jO fun by'=>?_
 refine⟨.skip (.skip (.cons (aM.left (A:=[_])))),?_⟩
 have h1:∀u∈[Value.int .i64 (n:Int),s],u.oneCell'=true:=by simpa[Value.oneCell']using hs
 refine hf.pN (r:=[.int .i64 (n:Int),s]) (.cons (.cons (.cons (.cons (.app .left))))) (by exact .head _) rfl h1 ⟨[.int .i64 0,.slice none 0 0],rfl,rfl⟩ (by omega) (by omega) fun uv Ar zx=>?_
 refine⟨.skip (.skip (.cons (aM.left (A:=[_])))),?_⟩
 refine Nil.ptr (ag.mk (St.one (by exact .tail (.tail (.tail (.head _)))) (aO.one zx) (by simp) rfl ?_))
 refine aS.mk (.skip (.skip .tail)) ⟨qF,uv,x4,Ar,rfl,?_,zx⟩
 rw[bP];exact hr'
structure Fg(gb kp:Nat)(K:Kd)(S:Nat→aC.Fn)(ord ah tr:List Nat)(refs:List Nat)(fs:List (List Nat))(vr vf:Value)(M CR CF C:Hp)(rs:List (List Value)):Prop where
 ks:cw kp K S ord ah tr C
 vQ:ug K S refs fs
 rf:aK 77 .u32 vr (iw refs) CR
 fn:aO 57 2 vf rs CF
 row:jT (xV M) rs (fs.map fun ws=>⟨K.n,ws⟩)
abbrev gG(gb kp n:Nat)(vr vf:Value)(CR CF C:Hp):Hp:=eS gb kp n vr vf::(CR++(CF++C))
theorem Fg.look{rs:List (List Value)}{M CR CF:Hp}(h:Fg gb kp K S ord ah tr refs fs vr vf M CR CF C rs):mL gb kp K.n vr vf refs fs M (gG gb kp K.n vr vf CR CF C):=
 ⟨.head _,h.rf.ints.mono fun _ h=>.tail _ (List.mem_append_left _ h),rs,(Sl.kM h.fn (by decide)).mono fun _ h=>.tail _ (List.mem_append_right _ (List.mem_append_left _ h)),h.row⟩
theorem Fg.Uc{rs:List (List Value)}{M CR CF:Hp}(h:Fg gb kp K S ord ah tr refs fs vr vf M CR CF C rs):rs.length=refs.length:=by
 rw[h.row.1,List.length_map,h.vQ.len]
theorem ug.more(h:ug K S refs fs)(hK:cw kp K S ord ah tr C){K':Kd}{S':Nat→aC.Fn}{f:aC.Fn}{x:Nat}{t:List Nat}(hg:kR K S K' S' f x)(hf:aj.dh K.n t)(ht:gJ K.n t=f):(2≤x→ug K' S' (refs++[x]) (fs++[t]))∧(x<2→ug K' S' refs fs):=by
 have old:∀i,i<refs.length→2≤refs.getD i 0∧gJ K'.n (fs.getD i [])=S' (refs.getD i 0):=fun i hi=>by
  obtain⟨h1,h2⟩:=h.is i hi
  have hm:refs.getD i 0∈refs:=by rw[List.getD_eq_getElem?_getD,List.getElem?_eq_getElem hi];exact List.getElem_mem hi
  exact⟨h1,by rw[hg.n,h2,hg.fn _ (h.live hK hm)]⟩
 refine⟨fun h2=>⟨by simp[h.len],fun u hu=>?_,fun i hi=>?_,fun s=>?_⟩,fun h2=>⟨h.len,by rw[hg.n];exact h.oz,old,fun s=>by rw[hg.hold,h.hold,if_neg (by omega)];rfl⟩⟩
 ·rw[hg.n]
  rcases List.mem_append.1 hu with hu|hu
  ·exact h.oz u hu
  ·simp at hu;subst hu;exact hf
 ·by_cases hi':i<refs.length
  ·have e1:(refs++[x]).getD i 0=refs.getD i 0:=by rw[List.getD_eq_getElem?_getD,List.getElem?_append_left hi',←List.getD_eq_getElem?_getD]
   have e2:(fs++[t]).getD i []=fs.getD i []:=by rw[List.getD_eq_getElem?_getD,List.getElem?_append_left (by rw[←h.len];exact hi'),←List.getD_eq_getElem?_getD]
   rw[e1,e2];exact old i hi'
  ·have Tx:i=refs.length:=by rw[List.length_append,List.length_singleton]at hi;omega
   have e1:(refs++[x]).getD i 0=x:=by rw[List.getD_eq_getElem?_getD,List.getElem?_append_right (by omega),Tx,Nat.sub_self];rfl
   have e2:(fs++[t]).getD i []=t:=by rw[List.getD_eq_getElem?_getD,List.getElem?_append_right (by rw[←h.len];omega),Tx,h.len,Nat.sub_self];rfl
   rw[e1,e2,hg.n,ht,hg.is]
   exact⟨h2,rfl⟩
 ·rw[hg.hold,h.hold,List.count_append,List.count_singleton]
  by_cases e:s=x
  ·subst e;simp[h2]
  ·have:(x==s)=false:=by simpa using fun e'=>e e'.symm
   simp[e,this]
theorem yR{n:Nat}{ord:List Nat}{f:aC.Fn}(hf:∀v,¬dm f v)(g:aC.Fn):¬aP n ord (fun g=>g=f) g:=by
 rintro⟨l,hl,hg,hh⟩
 rw[rN (l:=n) (fun j _=>hf _) l (by omega) g hg]at hh
 exact hf _ hh
theorem kR.fits{K':Kd}{S':Nat→aC.Fn}{f:aC.Fn}{x:Nat}{kK:List Nat}{C':Hp}(h:kR K S K' S' f x)(hK:cw kp K S ord ah tr C)(fD:cw kp K' S' ord ah kK C'):Fits (aP K.n ord (fun g=>K.held S g∨g=f)) K.cap:=by
 have hc:=fD.ok.size fD.od
 have hr:=fD.ok.mid.room
 have h2:=fD.ok.mid.cap
 rw[h.n]at hc
 refine Fits.mono (fun g hg=>?_) ⟨K'.used-2,hc,by rw[←h.cap];omega⟩
 have old:∀g,K.held S g→K'.held S' g:=fun g ⟨s,hs,e⟩=>⟨s,by show K'.hold s≠0;have:K.hold s≠0:=hs;rw[h.hold];omega,by rw[h.fn s (.inr (hK.ok.mid.held s hs)),e]⟩
 by_cases h2:2≤x
 ·refine bJ (fun g hg=>?_) hg
  rcases hg with hg|rfl
  ·exact old g hg
  ·exact⟨x,by show K'.hold x≠0;rw[h.hold,if_pos ⟨rfl,h2⟩];omega,h.is.symm⟩
 ·rcases(yP g).1 hg with hg|hg
  ·exact bJ old hg
  ·refine absurd hg (yR (fun v=>?_) g)
   rintro⟨y,hy⟩
   rw[←h.is]at hy
   have hi:=fD.ok.mid.int
   obtain rfl|rfl:x=0∨x=1:=by omega
   ·exact hy (by rw[hi.zero,hi.zero])
   ·exact hy (by rw[hi.one,hi.one])
theorem ug.F5(h:ug K S refs fs)(hK:cw kp K S ord ah tr C)(hn:K.n≤16){f:aC.Fn}{t:List Nat}(hf:aj.dh K.n t)(ht:gJ K.n t=f):Fits (aP K.n ord (fun g=>K.held S g∨g=f)) K.cap↔cY K.n ord (fs++[t]) K.n+2≤K.cap:=by
 have hfr:∀u∈fs++[t],aj.dh K.n u:=fun u hu=>(List.mem_append.1 hu).elim (h.oz u) (fun hu=>by rw[List.mem_singleton.1 hu];exact hf)
 have hc:=xJ hfr hn (ord:=ord) (fun i hi=>(hK.od.aY i hi).1)
 have e:(fun g=>K.held S g∨g=f)=FT K.n (fs++[t]):=funext fun g=>propext<|by
  rw[h.held g]
  constructor
  ·rintro(⟨u,hu,e⟩|rfl)
   ·exact⟨u,List.mem_append_left _ hu,e⟩
   ·exact⟨t,by simp,ht.symm⟩
  ·rintro⟨u,hu,e⟩
   rcases List.mem_append.1 hu with hu|hu
   ·exact .inl ⟨u,hu,e⟩
   ·rw[List.mem_singleton.1 hu,ht]at e;exact .inr e
 rw[e]
 constructor
 ·rintro⟨ku,h1,h2⟩;rw[hc.uniq h1];exact h2
 ·intro h2;exact⟨_,hc,h2⟩
theorem ug.kept{K':Kd}{S':Nat→aC.Fn}(h:ug K S refs fs)(hk:Kept K S K' S'):ug K' S' refs fs:=by
 refine⟨h.len,by rw[hk.n];exact h.oz,fun i hi=>?_,fun s=>by rw[hk.hold,h.hold]⟩
 obtain⟨h1,h2⟩:=h.is i hi
 have hm:refs.getD i 0∈refs:=by rw[List.getD_eq_getElem?_getD,List.getElem?_eq_getElem hi];exact List.getElem_mem hi
 exact⟨h1,by rw[hk.n,h2,hk.fn _ (h.mem.2 hm)]⟩
def QZ(gb kp:Nat)(K:Kd)(S:Nat→aC.Fn)(ord ah:List Nat)(refs:List Nat)(M0:Hp)(o:rW)(w:Value)(H:Hp):Prop:=
 w=.bool true∧∃(x a b c:Nat) (K':Kd) (S':Nat→aC.Fn) (refs':List Nat) (fs':List (List Nat)) (vr vf:Value) (M CR CF C:Hp) (rs:List (List Value)),H=M++gG gb kp K.n vr vf CR CF C∧aT M0 M∧Fg gb kp K' S' ord ah [] refs' fs' vr vf M CR CF C rs∧K'.n=K.n∧K'.cap=K.cap∧
  refs'=refs++(if 2≤x then [x]else [])∧S' x=P4 (o.k%9) (o.v%K.n) o.x (S a) (S b) (S c)∧live K'.N x∧(∀s,live K.N s→S' s=S s)
def Wj(gb kp:Nat)(K:Kd)(S:Nat→aC.Fn)(ord ah tr:List Nat)(refs:List Nat)(fs:List (List Nat))(vr vf:Value)(CR CF:Hp)(rs:List (List Value))(M0:Hp)(o:rW)(w:Value)(H:Hp):Prop:=
 QZ gb kp K S ord ah refs M0 o w H∨
 (w=.bool true∧∃(K':Kd) (S':Nat→aC.Fn) (kK:List Nat) (M C':Hp),H=M++gG gb kp K.n vr vf CR CF C'∧aT M0 M∧Fg gb kp K' S' ord ah kK refs fs vr vf M CR CF C' rs∧Kept K S K' S'∧(kK=[]∨kK=tr)∧∃L:List (List Nat),(∀t∈L,aj.dh K.n t)∧L.length=fs.length+3∧¬cY K.n ord L K.n+2≤K.cap)
set_option maxHeartbeats 1000000 in
theorem Kp{M CR CF:Hp}{rs:List (List Value)}(h:Fg gb kp K S ord ah tr refs fs vr vf M CR CF C rs)(zu:1≤K.n)(hn:K.n≤6)(hl:refs.length≤50){o:rW}(ho:o.Ok):
  Fc Tryz.prog 55 #[ptr gb,.agg o.cells.toArray] (M++gG gb kp K.n vr vf CR CF C) (Wj gb kp K S ord ah tr refs fs vr vf CR CF rs M o):=by
 have hK:=h.ks
 have jG:=hK.od
 have hlf:fs.length≤50:=by rw[←h.vQ.len];exact hl
 have one:∀{X:Hp} {s:Value} {l:List Nat},Words X s l→∀x∈[Value.int .i64 (K.n:Int),s],x.oneCell'=true:=fun hw=>by have:=aG hw;simpa[Value.oneCell']using this
 refine aR fun g=>IL ?_
 intro b1 _
 refine Ld.f ?_
 have Qa:mL gb kp K.n vr vf refs fs ((b1,Obj.cells o.cells.toArray 106 (0,0))::M) (gG gb kp K.n vr vf CR CF C):=h.look.grow fun _ h=>.tail _ h
 refine ae.fq (C:=((b1,Obj.cells o.cells.toArray 106 (0,0))::M)++gG gb kp K.n vr vf CR CF C) (wV Qa h.vQ hK (by omega) (by omega) ho.a) ?_
 rintro w H ⟨M1,rfl,g1,r,_,rfl,lr,w1,⟨s1,rfl,jj⟩,BJ,Jf⟩
 have m1:=g1.sub _ (List.Mem.head _)
 refine Ext.two ?_
 intro b9 _
 refine St.p (one jj) ?_
 refine Ld.u (by exact .tail _ (List.mem_append_left _ m1)) ?_
 have P9:mL gb kp K.n vr vf refs fs ((b9,Obj.cells #[.int .i64 (K.n:Int),s1] 57 (0,0))::M1) (gG gb kp K.n vr vf CR CF C):=(Qa.grow g1.sub).grow fun _ h=>.tail _ h
 refine ae.fq (C:=((b9,Obj.cells #[.int .i64 (K.n:Int),s1] 57 (0,0))::M1)++gG gb kp K.n vr vf CR CF C) (wV P9 h.vQ hK (by omega) (by omega) ho.b) ?_
 rintro w H ⟨M2,rfl,g2,q,_,rfl,lq,w2,⟨s2,rfl,py⟩,AG,Qw⟩
 have m1:=g2.sub _ (List.Mem.tail _ m1)
 have m9:=g2.sub _ (List.Mem.head _)
 refine Ext.two ?_
 intro iX _
 refine St.p (one py) ?_
 refine Ld.u (by exact .tail _ (List.mem_append_left _ m1)) ?_
 have P8:mL gb kp K.n vr vf refs fs ((iX,Obj.cells #[.int .i64 (K.n:Int),s2] 57 (0,0))::M2) (gG gb kp K.n vr vf CR CF C):=(P9.grow g2.sub).grow fun _ h=>.tail _ h
 refine ae.fq (C:=((iX,Obj.cells #[.int .i64 (K.n:Int),s2] 57 (0,0))::M2)++gG gb kp K.n vr vf CR CF C) (wV P8 h.vQ hK (by omega) (by omega) ho.c) ?_
 rintro w H ⟨M3,rfl,g3,p,_,rfl,lp,w3,⟨s3,rfl,OC⟩,YC,he3⟩
 have m1:=g3.sub _ (List.Mem.tail _ m1)
 have m9:=g3.sub _ (List.Mem.tail _ m9)
 have m18:=g3.sub _ (List.Mem.head _)
 refine Ext.two ?_
 intro SV _
 refine St.p (one OC) ?_
 refine av.whole (r:=o.cells) (by exact .tail _ (List.mem_append_left _ m1)) rfl ?_
 refine av.whole (r:=[.int .i64 (K.n:Int),s1]) (by exact .tail _ (List.mem_append_left _ m9)) rfl ?_
 refine av.whole (r:=[.int .i64 (K.n:Int),s2]) (by exact .tail _ (List.mem_append_left _ m18)) rfl ?_
 refine av.q ?_
 have P7:mL gb kp K.n vr vf refs fs ((SV,Obj.cells #[.int .i64 (K.n:Int),s3] 57 (0,0))::M3) (gG gb kp K.n vr vf CR CF C):=(P8.grow g3.sub).grow fun _ h=>.tail _ h
 have t1:cC ((SV,Obj.cells #[.int .i64 (K.n:Int),s3] 57 (0,0))::M3) (.agg #[.int .i64 (K.n:Int),s1]) K.n (S r):=⟨w1,⟨s1,rfl,jj.mono fun x hx=>.tail _ (g3.sub _ (.tail _ (g2.sub _ (.tail _ hx))))⟩,BJ,Jf⟩
 have t2:cC ((SV,Obj.cells #[.int .i64 (K.n:Int),s3] 57 (0,0))::M3) (.agg #[.int .i64 (K.n:Int),s2]) K.n (S q):=⟨w2,⟨s2,rfl,py.mono fun x hx=>.tail _ (g3.sub _ (.tail _ hx))⟩,AG,Qw⟩
 have t3:cC ((SV,Obj.cells #[.int .i64 (K.n:Int),s3] 57 (0,0))::M3) (.agg #[.int .i64 (K.n:Int),s3]) K.n (S p):=⟨w3,⟨s3,rfl,OC.mono fun x hx=>.tail _ hx⟩,YC,he3⟩
 refine ae.fq (C:=((SV,Obj.cells #[.int .i64 (K.n:Int),s3] 57 (0,0))::M3)++gG gb kp K.n vr vf CR CF C) (JF P7 (by omega) zu ho t1 t2 t3) ?_
 rintro w H ⟨M4,rfl,g4,_,rfl,w4,⟨s4,rfl,M7⟩,Qv,TC⟩
 have m1:=g4.sub _ (List.Mem.tail _ m1)
 refine Ext.two ?_
 intro ZB _
 refine St.p (one M7) ?_
 refine av.whole (r:=o.cells) (by exact .tail _ (List.mem_append_left _ m1)) rfl ?_
 have kX:∀s,K.hold s≤50:=fun s=>by
  rw[h.vQ.hold]
  have:=List.count_le_length (a:=s) (l:=refs)
  omega
 have xB:2^K.n≤64:=Nat.pow_le_pow_right (n:=2) (by decide) hn
 have hv:=Nat.mod_lt o.v (show 0<K.n by omega)
 obtain⟨M5,TK⟩:∃M5:Hp,M5=(ZB,Obj.cells #[.int .i64 (K.n:Int),s4] 57 (0,0))::M4:=⟨_,rfl⟩
 have Up:mL gb kp K.n vr vf refs fs M5 (gG gb kp K.n vr vf CR CF C):=by rw[TK];exact(P7.grow g4.sub).grow fun _ h=>.tail _ h
 have Z2:(ZB,Obj.cells #[.int .i64 (K.n:Int),s4] 57 (0,0))∈M5:=by rw[TK];exact .head _
 have To:Words M5 s4 w4:=by rw[TK];exact M7.mono fun _ h=>.tail _ h
 have XF:(b1,Obj.cells o.cells.toArray 106 (0,0))∈M5:=by rw[TK];exact .tail _ m1
 have gM:aT M M5:=by rw[TK];exact .cons ((((aT.refl M).cons.trans g1).cons.trans g2).cons.trans g3|>.cons.trans g4)
 change ae Tryz.prog g _ _ (((ZB,Obj.cells #[.int .i64 (K.n:Int),s4] 57 (0,0))::M4)++gG gb kp K.n vr vf CR CF C) _ _
 rw[←TK]
 refine ae.fq (args:=#[ptr gb,.agg o.cells.toArray,u32 r,u32 q,u32 p]) (ME (gb:=gb) (vr:=vr) (vf:=vf) (c:=fun Z=>M5++gG gb kp K.n vr vf CR CF Z) (.app (.cons (.app (.app .here)))) (fun Z=>List.mem_append_right _ (.head _)) hK zu ho lr lq lp (fun s=>by have:=kX s;omega)) ?_
 rintro w H ⟨C',rfl,hA⟩
 obtain⟨x,e,K',S',kK,rfl,fD,hn',jc,QB⟩:∃(x e:Nat) (K':Kd) (S':Nat→aC.Fn) (kK:List Nat),w=.tuple #[u32 x,.int .i64 (e:Int)]∧cw kp K' S' ord ah kK C'∧K'.n=K.n∧K'.cap=K.cap∧((e=0∧kK=[]∧kR K S K' S' (P4 (o.k%9) (o.v%K.n) o.x (S r) (S q) (S p)) x)∨(e=9∧x=0∧(kK=[]∨kK=tr)∧Kept K S K' S'∧(¬cY K.n ord (fs++[aj.eV K.n w1 (o.v%K.n) false,aj.eV K.n w1 (o.v%K.n) true,w4]) K.n+2≤K.cap)∧(o.k%9=8∨¬cY K.n ord (fs++[w4]) K.n+2≤K.cap))):=by
  rcases hA with⟨x,K',S',rfl,fD,fc⟩|⟨rfl,⟨K',S',kK,fD,fo,hk⟩,hno,Lb⟩
  ·exact⟨x,0,K',S',[],rfl,fD,fc.n,fc.cap,.inl ⟨rfl,rfl,fc⟩⟩
  ·refine⟨0,9,K',S',kK,rfl,fD,hk.n,hk.cap,.inr ⟨rfl,rfl,fo,hk,fun hs=>?_,Lb.imp id fun Lb hs=>Lb ((h.vQ.F5 hK (by omega) Qv TC).2 hs)⟩⟩
   refine hno (Fits.mono (fun g hg=>bJ (fun g h'=>?_) hg) ⟨_,xJ (L:=fs++[aj.eV K.n w1 (o.v%K.n) false,aj.eV K.n w1 (o.v%K.n) true,w4]) (fun t ht=>?_) (by omega) (fun i hi=>(jG.aY i hi).1),hs⟩)
   ·rcases h' with((h'|h')|h')|h'
    ·obtain⟨t,ht,e⟩:=(h.vQ.held g).1 h'
     exact⟨t,List.mem_append_left _ ht,e⟩
    ·exact⟨aj.eV K.n w1 (o.v%K.n) false,by simp,by rw[pG BJ hv,Jf];exact h'⟩
    ·exact⟨aj.eV K.n w1 (o.v%K.n) true,by simp,by rw[pG BJ hv,Jf];exact h'⟩
    ·exact⟨w4,by simp,by rw[TC];exact h'⟩
   ·rcases List.mem_append.1 ht with ht|ht
    ·exact h.vQ.oz t ht
    ·simp only[List.mem_cons,List.not_mem_nil,or_false]at ht
     rcases ht with rfl|rfl|rfl
     ·exact aj.cy (by omega)
     ·exact aj.cy (by omega)
     ·exact Qv
 refine Ext.two ?_
 refine aa.cG (Br.F ?_)
 refine DR.self ?_
 refine av.whole (r:=[.int .i64 (K.n:Int),s4]) (by exact List.mem_append_left _ Z2) rfl ?_
 refine Ld.n ?_
 refine jO fun bs=>?_
 refine⟨.tail,?_⟩
 obtain⟨MX,hSl,hE⟩:=Up.fn
 have Yw:AP gb kp K'.n vr vf refs fs C' ((bs,Obj.cells #[.int .i64 (K.n:Int),s4] 57 (0,0))::(M5++gG gb kp K.n vr vf CR CF C')):=by
  rw[hn']
  refine AP.cons ?_ _
  refine⟨List.mem_append_right _ (.head _),h.rf.ints.mono fun _ h=>List.mem_append_right _ (.tail _ (List.mem_append_left _ h)),⟨rs,(Sl.kM h.fn (by decide)).mono fun _ h=>List.mem_append_right _ (.tail _ (List.mem_append_right _ (List.mem_append_left _ h))),h.row.mono fun _ _ h=>h.mono fun _ h=>List.mem_append_left _ (gM.sub _ h)⟩,
   _,.app (.cons (.app (.app .here))),fun Z=>List.mem_append_right _ (.head _)⟩
 have l9:dZ ((bs,Obj.cells #[.int .i64 (K.n:Int),s4] 57 (0,0))::(M5++gG gb kp K.n vr vf CR CF C')) (.slice (some ⟨bs,0,none⟩) 1 1) ([w4].map fun ws=>⟨K'.n,ws⟩):=by
  rw[hn']
  exact dZ.one (cap:=0) (t:=⟨K.n,w4⟩) (.head _) (To.mono fun _ h=>.tail _ (List.mem_append_left _ h))
 refine ae.pq (zD (ms:=[w4]) Yw (by rw[hn'];exact h.vQ.oz) fD (by omega) l9 (by rw[hn'];intro t ht;simp at ht;subst ht;exact Qv) (by simp) (by omega)) ?_
 rintro w N5 rfl
 refine⟨.eG .tail,?_⟩
 have hsz:=mP K'.n ord (fs++[w4]) K'.n
 have acM:2^K'.n*(fs++[w4]).length≤64*51:=by rw[hn',List.length_append];exact Nat.mul_le_mul xB (by simp;omega)
 refine aa.dx (b:=2) ?_
 refine ae.eq (qi fD.rep) ?_
 refine⟨.eG .tail,?_⟩
 refine aa.y4 ?_
 rw[jc,hn']
 refine aa.cE (a:=e) (b:=9) (Br.dec (fun h9=>?_) (fun h9=>?_))
 ·rcases QB with⟨h0,_⟩|⟨_,rfl,fo,hk,hno,Lb⟩
  ·omega
  refine aa.cE (a:=0) (b:=0) ?_
  have hk9:=ho.k
  refine df.and (a:=true) (!decide (cY K.n ord (fs++[w4]) K.n+2≤K.cap)||decide (o.k%9=8)) (fun _=>Un.not ?_) rfl fun gs=>?_
  ·refine df.or (decide (o.k%9=8)) (fun _=>?_) rfl fun gs=>⟨rfl,rfl⟩
   refine Ld.u (v:=.int .u8 (o.k:Int)) (by exact List.mem_append_right _ (.tail _ (List.mem_append_left _ XF))) ?_
   exact aa.Oc (b:=9) (by decide) (aa.cE (b:=8) ⟨rfl,rfl⟩)
  ·have et:(true&& (!decide (cY K.n ord (fs++[w4]) K.n+2≤K.cap)||decide (o.k%9=8)))=true:=by
    rcases Lb with h8|h8
    ·rw[decide_eq_true h8,Bool.or_true];rfl
    ·rw[decide_eq_false h8];rfl
   rw[et]
   refine aS.here (.inr ⟨rfl,K',S',kK,N5++(bs,Obj.cells #[.int .i64 (K.n:Int),s4] 57 (0,0))::M5,C',by rw[List.append_assoc];rfl,.app (.cons gM),⟨fD,h.vQ.kept hk,h.rf,h.fn,?_⟩,hk,fo,_,fun t ht=>?_,by rw[List.length_append];rfl,hno⟩)
   ·rw[hn']
    exact h.row.mono fun _ _ h=>h.mono fun _ h=>List.mem_append_right _ (.tail _ (gM.sub _ h))
   ·rcases List.mem_append.1 ht with ht|ht
    ·exact h.vQ.oz t ht
    ·simp only[List.mem_cons,List.not_mem_nil,or_false]at ht
     rcases ht with rfl|rfl|rfl
     ·exact aj.cy (by omega)
     ·exact aj.cy (by omega)
     ·exact Qv
 rcases QB with⟨rfl,rfl,fc⟩|⟨h0,_⟩
 rotate_left
 ·exact absurd h0 h9
 rw[decide_eq_true ((h.vQ.F5 hK (by omega) Qv TC).1 (fc.fits hK fD))]
 refine aa.cG ?_
 refine df.or (a:=decide (((0:Nat):Int)≠0)) false (fun _=>Un.not ⟨rfl,rfl⟩) (by simp) fun gs=>?_
 refine Br.mk (fun hb=>by simp at hb) (fun _=>?_)
 refine av.whole (r:=[.int .i64 (K.n:Int),s4]) (by exact List.mem_append_right _ (.tail _ (List.mem_append_left _ Z2))) rfl ?_
 have more:=h.vQ.more hK fc Qv TC
 have row':jT (xV (N5++(bs,Obj.cells #[.int .i64 (K.n:Int),s4] 57 (0,0))::M5)) rs (fs.map fun ws=>⟨K'.n,ws⟩):=by
  rw[hn']
  exact h.row.mono fun _ _ h=>h.mono fun _ h=>List.mem_append_right _ (.tail _ (gM.sub _ h))
 have eH:N5++(bs,Obj.cells #[.int .i64 (K.n:Int),s4] 57 (0,0))::(M5++gG gb kp K.n vr vf CR CF C')=(N5++(bs,Obj.cells #[.int .i64 (K.n:Int),s4] 57 (0,0))::M5)++gG gb kp K.n vr vf CR CF C':=by rw[List.append_assoc];rfl
 rw[eH]
 by_cases HE:2≤x
 ·refine ae.fq (Pg (n:=K.n) HE (s:=s4) h.rf h.fn (aG M7) (by omega) (by rw[h.Uc];omega)) ?_
  rintro w H ⟨qF,uv,x4,Ar,rfl,hr',zx⟩
  refine aS.here (.inl ⟨rfl,x,r,q,p,K',S',refs++[x],fs++[w4],qF,uv,_,x4,Ar,C',rs++[[.int .i64 (K.n:Int),s4]],rfl,.app (.cons gM),⟨fD,more.1 HE,hr',zx,?_⟩,fc.n,fc.cap,by rw[if_pos HE],fc.is,fc.live,fc.fn⟩)
  refine⟨by rw[List.length_append,row'.1,List.map_append,List.length_append];rfl,fun i row t hr ht=>?_⟩
  rw[List.map_append]at ht
  by_cases hi:i<rs.length
  ·rw[List.getElem?_append_left hi]at hr
   rw[List.getElem?_append_left (by rw[←row'.1];exact hi)]at ht
   exact row'.2 i row t hr ht
  ·rw[List.getElem?_append_right (by omega)]at hr
   rw[List.getElem?_append_right (by rw[←row'.1];omega),←row'.1]at ht
   have h0:i-rs.length=0:=by
    have:=(List.getElem?_eq_some_iff.1 hr).1
    simp at this;omega
   rw[h0]at hr ht
   simp at hr ht
   subst hr;subst ht
   exact⟨s4,by rw[hn'],To.mono fun _ h=>List.mem_append_right _ (.tail _ h)⟩
 ·refine ae.fq (Ph (gb:=gb) (n:=K.n) (r:=x) (by omega) _) ?_
  rintro w H rfl
  exact aS.here (.inl ⟨rfl,x,r,q,p,K',S',refs,fs,vr,vf,_,CR,CF,C',rs,rfl,.app (.cons gM),⟨fD,more.2 (by omega),h.rf,h.fn,row'⟩,fc.n,fc.cap,by rw[if_neg HE,List.append_nil],fc.is,fc.live,fc.fn⟩)
theorem P3{M CR CF:Hp}{rs:List (List Value)}(h:Fg gb kp K S ord ah tr refs fs vr vf M CR CF C rs)(zu:1≤K.n)(hn:K.n≤6)(hcap:K.cap=4000)(hl:refs.length≤50){o:rW}(ho:o.Ok):
  Fc Tryz.prog 55 #[ptr gb,.agg o.cells.toArray] (M++gG gb kp K.n vr vf CR CF C) (QZ gb kp K S ord ah refs M o):=by
 refine(Kp h zu hn hl ho).mono fun w H hw=>?_
 rcases hw with hw|⟨_,_,_,_,_,_,_,_,_,_,_,L,hf,hlen,hno⟩
 ·exact hw
 ·have h1:=mP K.n ord L K.n
  have h2:2^K.n*L.length≤64*53:=Nat.mul_le_mul (Nat.pow_le_pow_right (n:=2) (by decide) hn) (by have:=h.vQ.len;omega)
  omega
end
section
variable {kp gb n:Nat} {vr vf:Value} {refs:List Nat} {fs:List (List Nat)} {K:Kd} {S:Nat→aC.Fn} {ord ah tr:List Nat} {C B:Hp}
theorem Ac(hG:AP gb kp K.n vr vf refs fs C B)(hK:cw kp K S ord ah tr C){r l:Nat}(hr:live K.N r)(hl:l<dep K.n (lv ah) K.N r):
  Rd Tryz.prog 149 #[ptr gb,u32 r,.int .i64 (l:Int)] B (· =.bool true):=by
 obtain⟨c,hc,_⟩:=hG.hole
 have hlt:=hK.bR hr
 refine aR fun g=>EE ?_
 refine Ld.v (by exact hG.cell) ?_
 refine ae.rd (args:=#[ptr kp,u32 r]) hc (fM hK.rep (by omega)) ?_
 rw[bM.2 hr]
 rintro w rfl
 refine Ext.two ?_
 intro b8 _
 refine St.whole (r:=got K.N r) (by exact .head _) rfl (aH _ _).1 (aH _ _).2 ?_
 refine aa.cG ?_
 rw[show decide ((if true=true then(0:Int)else 3)≠0)=false by decide]
 refine df.or (a:=false) (decide (r<2)) (fun _=>aa.dH (b:=2) ⟨rfl,rfl⟩) rfl fun gs=>?_
 rw[Bool.false_or]
 refine Br.dec (fun h2=>?_) (fun h2=>?_)
 ·exact aa.gA (bN.mk .tail rfl)
 ·obtain⟨d,hd⟩:∃d,K.N r=some d:=by rcases hr with h|h;exact absurd h h2;exact h
  have hv:=hK.ok.wf.var hd
  rw[az hd]at hl
  refine DR.self ?_
  refine Ld.v (by exact .tail _ hG.cell) ?_
  rw[c8 hd (by omega)]
  refine Ld.f ?_
  refine ae.rd (.cons hc) (m0 hK.rep (d.v:Int)) ?_
  rw[if_pos (by omega)]
  rintro w rfl
  refine⟨.refl _,?_⟩
  refine Ext.two ?_
  refine aa.gA ?_
  refine df.and (a:=decide ((0:Int)=0)) (decide (l<lv ah d.v)) (fun _=>aa.iU ⟨rfl,rfl⟩) (by simp) fun gs=>?_
  rw[decide_eq_true hl]
  exact bN.mk .tail rfl
set_option maxHeartbeats 1000000 in
theorem NP(hn:K.n≤16)(hK:cw kp K S ord ah tr C):∀(k:Nat) (r deep:Nat),K.n-dep K.n (lv ah) K.N r≤k→k+1≤deep→deep≤1000→∀(B:Hp) (t:Value),AP gb kp K.n vr vf refs fs C B→live K.N r→cC B t K.n (S r)→
  Px Tryz.prog 66 #[ptr gb,u32 r,t,.int .i64 (deep:Int)] B (fun w _=>w=.bool true):=by
 have hW:=hK.ok.wf
 have hL:=hK.ok.lv
 have hI:=hK.ok.mid.int
 intro k
 induction k with
 |zero=>
  intro r deep hk hd hdm B t hG hr ht
  obtain⟨c,hc,_⟩:=hG.hole
  have hlt:=hK.bR hr
  obtain⟨ws,⟨s,rfl,hw⟩,hf,he⟩:=ht
  have h2:r<2:=by
   rcases hr with h|⟨d,cN⟩
   ·exact h
   ·rw[az cN]at hk
    have:=hL.lt _ (hW.var cN);omega
  have h1:∀{s:Value} {X:Hp} {l:List Nat},Words X s l→∀x∈[Value.int .i64 (K.n:Int),s],x.oneCell'=true:=fun hw=>by have:=aG hw;simpa[Value.oneCell']using this
  refine aR fun g=>wA ?_
  intro b1 _
  refine aa.cE (b:=0) (Br.F ?_)
  refine Ld.v (by exact .tail _ hG.cell) ?_
  refine ae.rd (args:=#[ptr kp,u32 r]) (.cons hc) (fM hK.rep (by omega)) ?_
  rw[bM.2 hr]
  rintro w rfl
  refine Ext.two ?_
  intro ZC _
  refine St.whole (r:=got K.N r) (by exact .head _) rfl (aH _ _).1 (aH _ _).2 ?_
  rw[dJ h2]
  refine aa.cG (Br.F ?_)
  refine aa.dH (b:=2) (Br.SP h2 ?_)
  refine Ld.v (by exact .tail _ (.tail _ hG.cell)) ?_
  refine aa.cE (b:=1) ?_
  refine ae.pq (mN hn (decide (r=1)) _) ?_
  rintro w N ⟨_,rfl,ws',⟨s',rfl,di⟩,zx,he'⟩
  refine Ext.two ?_
  intro b24 _
  refine St.p (h1 di) ?_
  intro J hJ
  refine aa.gA ?_
  refine Split.go (by decide) ?_
  refine Ld.f ?_
  refine aa.gA (ay.mk ?_)
  refine Split.go (by decide) ?_
  refine av.q ?_
  refine av.q ?_
  refine ae.rq (oV (n:=K.n) (f:=fun _=>decide (r=1)) (f':=S r) ⟨ws',⟨s',rfl,di.mono zS⟩,zx,he'⟩ ⟨ws,⟨s,rfl,hw.mono zS⟩,hf,he⟩) ?_
  rintro w ⟨x,rfl,hx⟩
  have:x=true:=hx.2 (by
   have:r=0∨r=1:=by omega
   rcases this with rfl|rfl
   ·exact funext fun x=>(hI.zero x).symm
   ·exact funext fun x=>(hI.one x).symm)
  subst this
  refine ay.mk (JE.mk (hJ _ _ fun gs=>?_))
  exact tL.mk (by repeat (first|exact aT.refl _|apply aT.cons|apply aT.app)) rfl
 |succ k ih=>
  intro r deep hk hd hdm B t hG hr ht
  by_cases Ng:K.n-dep K.n (lv ah) K.N r≤k
  ·exact ih r deep Ng (by omega) hdm B t hG hr ht
  obtain⟨c,hc,_⟩:=hG.hole
  have hlt:=hK.bR hr
  have h0:=ht
  obtain⟨ws,⟨s,hts,hw⟩,hf,he⟩:=ht
  have hts:t=.agg #[.int .i64 (K.n:Int),s]:=hts
  subst hts
  obtain⟨d,cN⟩:∃d,K.N r=some d:=by
   cases e:K.N r with
   |none=>rw[aW e]at Ng;omega
   |some d=>exact⟨d,rfl⟩
  have h2:=hW.two cN
  have hv:=hW.var cN
  have ed:=az (n:=K.n) (ah:=lv ah) cN
  have hlo:=hW.lo cN
  have hhi:=hW.hi cN
  have hne:=hK.ok.mid.ne cN
  have h1:∀{s:Value} {X:Hp} {l:List Nat},Words X s l→∀x∈[Value.int .i64 (K.n:Int),s],x.oneCell'=true:=fun hw=>by have:=aG hw;simpa[Value.oneCell']using this
  refine aR fun g=>wA ?_
  intro b1 _
  refine aa.cE (b:=0) (Br.F ?_)
  refine Ld.v (by exact .tail _ hG.cell) ?_
  refine ae.rd (args:=#[ptr kp,u32 r]) (.cons hc) (fM hK.rep (by omega)) ?_
  rw[bM.2 hr]
  rintro w rfl
  refine Ext.two ?_
  intro ZC _
  refine St.whole (r:=got K.N r) (by exact .head _) rfl (aH _ _).1 (aH _ _).2 ?_
  rw[c8 cN h2]
  refine aa.cG (Br.F ?_)
  refine aa.dH (b:=2) (Br.F ?_)
  refine DR.self ?_
  refine Ld.v (by exact .tail _ (.tail _ hG.cell)) ?_
  refine Ld.f ?_
  refine ae.rd (.cons (.cons hc)) (m0 hK.rep (d.v:Int)) ?_
  rw[if_pos (by omega)]
  rintro w rfl
  refine⟨.refl _,?_⟩
  refine Ext.two ?_
  refine av.q ?_
  refine Ld.f ?_
  refine ae.px .here (lj (c:=false) (h0.mono zS) hv) ?_
  rintro w N1 ⟨_,rfl,w1,⟨s1,rfl,jj⟩,BJ,Jf⟩
  refine Ext.two ?_
  intro b61 _
  refine St.p (h1 jj) ?_
  refine av.q ?_
  refine Ld.f ?_
  refine ae.px .here (lj (c:=true) (h0.mono zS) hv) ?_
  rintro w N2 ⟨_,rfl,w2,⟨s2,rfl,py⟩,AG,Qw⟩
  refine Ext.two ?_
  intro b71 _
  refine St.p (h1 py) ?_
  obtain⟨Q,hQ⟩:∃Q:Hp,Q=(b71,Obj.cells #[.int .i64 (K.n:Int),s2] 57 (0,0))::(N2++((b61,.cells #[.int .i64 (K.n:Int),s1] 57 (0,0))::(N1++((ZC,.cells (bt d).toArray 161 (0,0))::(b1,.cells (Value.agg #[.int .i64 (K.n:Int),s]).cells 57 (0,0))::B)))):=⟨_,rfl⟩
  have gQ:aT B Q:=by rw[hQ];exact .cons (.app (.cons (.app (.cons (.cons (.refl _))))))
  have Tk:(ZC,Obj.cells (bt d).toArray 161 (0,0))∈Q:=by rw[hQ];exact .tail _ (List.mem_append_right _ (.tail _ (List.mem_append_right _ (.head _))))
  have q61:(b61,Obj.cells #[.int .i64 (K.n:Int),s1] 57 (0,0))∈Q:=by rw[hQ];exact .tail _ (List.mem_append_right _ (.head _))
  have q71:(b71,Obj.cells #[.int .i64 (K.n:Int),s2] 57 (0,0))∈Q:=by rw[hQ];exact .head _
  have W9:=hG.grow gQ
  have tlo:cC Q (.agg #[.int .i64 (K.n:Int),s1]) K.n (S d.lo):=by
   rw[hQ]
   exact⟨w1,⟨s1,rfl,jj.mono zS⟩,BJ,Jf.trans (funext fun x=>hW.child hL hI cN x false)⟩
  have thi:cC Q (.agg #[.int .i64 (K.n:Int),s2]) K.n (S d.hi):=by
   rw[hQ]
   exact⟨w2,⟨s2,rfl,py.mono zS⟩,AG,Qw.trans (funext fun x=>hW.child hL hI cN x true)⟩
  intro J hJ
  have Jj:J [.bool false] Q:=by
   refine hJ _ _ fun gs=>Br.no ?_
   intro J2 vO
   refine Ld.u (by exact Tk) ?_
   refine av.whole (r:=[.int .i64 (K.n:Int),s1]) (by exact q61) rfl ?_
   refine aa.bE (b:=1) ?_
   refine ae.pq (ih d.lo (deep-1) (by omega) (by omega) (by omega) Q _ W9 hlo.1 tlo) ?_
   rintro w N3 rfl
   refine Split.go rfl ?_
   refine Ld.u (by exact List.mem_append_right _ Tk) ?_
   refine av.whole (r:=[.int .i64 (K.n:Int),s2]) (by exact List.mem_append_right _ q71) rfl ?_
   refine aa.bE (b:=1) ?_
   refine ae.pq (ih d.hi (deep-1) (by omega) (by omega) (by omega) (N3++Q) _ (W9.app N3) hhi.1 (thi.mono zS)) ?_
   rintro w N4 rfl
   refine ay.mk (JE.mk (vO _ _ fun gs=>?_))
   exact tL.mk (.app (.app gQ)) rfl
  rw[←hQ]
  refine aa.cG ?_
  refine Split.go (by decide) ?_
  refine aa.cG (ay.mk ?_)
  refine Split.go (by decide) ?_
  refine aa.cG (ay.mk ?_)
  refine Split.go (by decide) ?_
  refine Ld.u (by exact Tk) ?_
  refine Ld.u (by exact Tk) ?_
  refine aa.cE (ay.mk ?_)
  rw[decide_eq_false hne]
  refine Split.go rfl ?_
  refine Ld.u (by exact Tk) ?_
  refine ae.eq (Ac W9 hK hlo.1 hlo.2) ?_
  refine Un.not (ay.mk ?_)
  refine Split.go rfl ?_
  refine Ld.u (by exact Tk) ?_
  refine ae.eq (Ac W9 hK hhi.1 hhi.2) ?_
  refine Un.not (ay.mk (JE.mk Jj))
theorem Pp(hG:AP gb kp K.n vr vf refs fs C B)(hg:ug K S refs fs)(hK:cw kp K S ord ah tr C)(hn:K.n≤16)(hm:refs.length<65536):
  Px Tryz.prog 21 #[ptr gb] B (fun w _=>w=.bool true):=by
 obtain⟨c,hc,_⟩:=hG.hole
 have hcap:=hK.ok.mid.cap
 have hroom:=hK.ok.mid.room
 have hfl:fs.length=refs.length:=hg.len.symm
 have hsize:K.used-2=cY K.n ord fs K.n:=by
  have h1:=hK.ok.size hK.od
  have h2:=xJ (n:=K.n) (ord:=ord) (L:=fs) hg.oz hn (fun i hi=>(hK.od.aY i hi).1)
  rw[show K.held S=FT K.n fs from funext fun g=>propext (hg.held g)]at h1
  exact h1.uniq h2
 have inj:∀i j,i<refs.length→j<refs.length→(refs.getD i 0=refs.getD j 0↔gJ K.n (fs.getD i [])=gJ K.n (fs.getD j [])):=fun i j hi hj=>by
  obtain⟨_,e1⟩:=hg.is i hi
  obtain⟨_,e2⟩:=hg.is j hj
  have m1:refs.getD i 0∈refs:=by rw[List.getD_eq_getElem?_getD,List.getElem?_eq_getElem hi];exact List.getElem_mem hi
  have m2:refs.getD j 0∈refs:=by rw[List.getD_eq_getElem?_getD,List.getElem?_eq_getElem hj];exact List.getElem_mem hj
  rw[e1,e2]
  exact⟨fun h=>by rw[h],fun h=>hK.ok.wf.same hK.ok.lv hK.ok.mid.int (hg.live hK m1) (hg.live hK m2) (congrFun h)⟩
 have g8:∀{X:Hp} {i:Nat} {k:Value→Prop} {R:Hp},dZ X vf (fs.map fun ws=>⟨K.n,ws⟩)→i<refs.length→(∀x∈X,x∈R)→(∀t,cC X t K.n (gJ K.n (fs.getD i []))→k t)→an 2 vf (.int .i64 (i:Int)) fun p=>av 2 R p k:=fun{X i k R} hT hi hs hk=>by
  have hi':i<fs.length:=by omega
  have e':fs.getD i []=fs[i]:=by rw[List.getD_eq_getElem?_getD,List.getElem?_eq_getElem hi'];rfl
  refine hT.ld (i:=i) (t:=⟨K.n,fs[i]⟩) (by rw[List.getElem?_map,List.getElem?_eq_getElem hi'];rfl) hs fun s hw=>hk _ ?_
  exact⟨fs[i],⟨s,rfl,hw⟩,hg.oz _ (List.getElem_mem hi'),by rw[e']⟩
 refine aR fun g=>I0 ?_
 intro J1 SK
 have hJ:∀N:Hp,J1 [.bool false] (N++B):=by
  intro N
  refine SK _ _ fun gs=>Br.no ?_
  refine⟨fun vs H=>∃i:Nat,vs=[.int .i64 (i:Int)]∧i≤refs.length∧aT B H,fun vs _=>refs.length-br vs 0,JE.mk ⟨0,rfl,Nat.zero_le _,.app (.refl _)⟩,?_⟩
  rintro w9 H ⟨i,⟨⟩,hi,fc⟩ gs
  have QL:=hG.grow fc
  refine Ld.v (by exact QL.cell) ?_
  refine QL.rf.bc ?_
  rw[ai]
  refine aa.dH (Br.dec (fun hlt=>?_) (fun hlt=>?_))
  rotate_left
  ·exact tL.mk fc rfl
  refine DR.self ?_
  refine Ld.v (by exact QL.cell) ?_
  refine QL.rf.ld (n:=((refs.getD i 0:Nat):Int)) (aX hlt) (fun _ h=>h) ?_
  refine Ld.v (by exact QL.cell) ?_
  refine g8 QL.fn hlt (fun _ h=>h) fun t ht=>?_
  refine Ld.v (by exact QL.cell) ?_
  refine aa.jx (a:=2) ?_
  refine aa.dx (b:=2) ?_
  obtain⟨_,e1⟩:=hg.is i hlt
  have mi:refs.getD i 0∈refs:=by rw[List.getD_eq_getElem?_getD,List.getElem?_eq_getElem hlt];exact List.getElem_mem hlt
  rw[e1]at ht
  refine ae.pq (NP hn hK K.n (refs.getD i 0) (2*K.n+2) (by omega) (by omega) (by omega) H t QL (hg.live hK mi) ht) ?_
  rintro w N2 rfl
  refine⟨.right,Un.not (Br.no ?_)⟩
  refine⟨fun vs H'=>∃j:Nat,vs=[.int .i64 (j:Int)]∧j≤i∧aT B H',fun vs _=>i-br vs 0,JE.mk ⟨0,rfl,Nat.zero_le _,.app fc⟩,?_⟩
  rintro w38 H2 ⟨j,⟨⟩,hj,Sn⟩ gs
  have QM:=hG.grow Sn
  refine aa.dH (Br.dec (fun kF=>?_) (fun kF=>?_))
  ·refine DR.self ?_
   have Ll:j<refs.length:=by omega
   refine Ld.v (by exact QM.cell) ?_
   refine QM.rf.ld (n:=((refs.getD i 0:Nat):Int)) (aX hlt) (fun _ h=>h) ?_
   refine Ld.v (by exact QM.cell) ?_
   refine QM.rf.ld (n:=((refs.getD j 0:Nat):Int)) (aX Ll) (fun _ h=>h) ?_
   refine aa.cE ?_
   refine Ld.v (by exact QM.cell) ?_
   refine g8 QM.fn hlt (fun _ h=>h) fun t1 Ql=>?_
   refine Ld.v (by exact QM.cell) ?_
   refine g8 QM.fn Ll (fun _ h=>h) fun t2 M8=>?_
   refine ae.rq (oV Ql M8) ?_
   rintro w ⟨x,rfl,hx⟩
   refine⟨.refl _,?_⟩
   have ex:x=decide (refs.getD i 0=refs.getD j 0):=by
    by_cases e:refs.getD i 0=refs.getD j 0
    ·rw[decide_eq_true e];exact hx.2 ((inj i j hlt Ll).1 e)
    ·rw[decide_eq_false e]
     cases x with
     |false=>rfl
     |true=>exact absurd ((inj i j hlt Ll).2 (hx.1 rfl)) e
   rw[ex]
   refine aa.XA (Br.mk (fun hb=>by simp at hb) fun _=>?_)
   refine aa.inc ?_
   exact aB.mk ⟨j+1,rfl,by omega,Sn⟩ (by simp only[br];omega)
  ·refine aa.inc ?_
   exact aB.mk ⟨i+1,rfl,hlt,Sn⟩ (by simp only[br];omega)
 refine DR.self ?_
 refine Ld.v (by exact hG.cell) ?_
 intro F
 refine ae.eh hc (rM hK.rep (by omega) (by omega)) ?_
 refine⟨.refl _,?_⟩
 intro F
 have l9:dZ B (.slice none 0 0) (([]:List (List Nat)).map fun ws=>⟨K.n,ws⟩):=⟨[],Sl.nil _ _,jT.nil⟩
 refine ae.pq (zD (ms:=[]) hG hg.oz hK (by omega) l9 (by simp) (by simp) hn) ?_
 rintro w N1 rfl
 rw[List.append_nil,←hsize]
 refine⟨.right,?_⟩
 refine aa.uk (Br.F ?_)
 refine Ld.v (by exact hG.cell) ?_
 refine Ld.v (by exact hG.cell) ?_
 intro F
 refine ae.eh (.app hc) (rM hK.rep (by omega) (by omega)) ?_
 refine⟨.right,?_⟩
 refine aa.dx (b:=2) ?_
 intro F
 refine ae.eh (.app hc) (qi hK.rep) ?_
 refine⟨.right,?_⟩
 refine aa.iU ?_
 rw[decide_eq_false (by omega)]
 exact ay.mk (JE.mk (hJ N1))
end
section
variable {B:Hp}
theorem G9{L:List Nat}{j z:Nat}(hj:j<L.length)(hz:L[L.length-1]? =some z):((L.set j z).take (L.length-1)++[L.getD j 0]).Perm L:=by
 obtain⟨L',z',rfl⟩:∃L' z',L=L'++[z']:=⟨L.dropLast,L.getLast (List.ne_nil_of_length_pos (by omega)),(List.dropLast_concat_getLast _).symm⟩
 have hl:(L'++[z']).length-1=L'.length:=by simp
 rw[hl]at hz⊢
 have ez:z'=z:=by rw[List.getElem?_append_right (Nat.le_refl _),Nat.sub_self]at hz;simpa using hz
 subst ez
 by_cases hj':j<L'.length
 ·rw[List.set_append_left _ _ hj',List.take_left' (by simp)]
  have e:(L'++[z']).getD j 0=L'[j]:=by rw[List.getD_eq_getElem?_getD,List.getElem?_append_left hj',List.getElem?_eq_getElem hj'];rfl
  rw[e]
  classical
  rw[List.perm_iff_count]
  intro x
  rw[List.count_append,List.count_append,List.count_set hj',List.count_singleton,List.count_singleton]
  have hc:(L'[j]==x)=true→0<L'.count x:=fun h=>by
   have:L'[j]=x:=by simpa using h
   exact List.count_pos_iff.2 (this▸List.getElem_mem hj')
  split<;>split<;>simp_all<;>omega
 ·have:j=L'.length:=by rw[List.length_append,List.length_singleton]at hj;omega
  subst this
  rw[List.set_append_right _ _ (Nat.le_refl _),Nat.sub_self,List.take_left' rfl]
  have e:(L'++[z']).getD L'.length 0=z':=by rw[List.getD_eq_getElem?_getD,List.getElem?_append_right (Nat.le_refl _),Nat.sub_self];rfl
  rw[e]
end
end Go.Proofs
