import Derived.Test.YtfgkdmbicjdeoaaGreatF4
import Derived.Test.YtfgkdmbicjdeoaaGreatF1
import Derived.Test.YtfgkdmbicjdeoaaGreatF2
import Derived.Test.YtfgkdmbicjdeoaaGreatF3
import Derived.Deep.Slices
import Derived.SizedLaws
set_option linter.unusedVariables false
set_option linter.unusedSimpArgs false
set_option linter.unusedSectionVars false
set_option maxRecDepth 100000
namespace Go.Proofs
open Go Go.Sx
open aZ
theorem zQ{l:List Nat}(h:l.Nodup):(iw l).Nodup:=List.pairwise_map.2 (h.imp fun hne e=>hne (Int.ofNat.inj e))
theorem q5{p:List Int}:ng p↔p.Perm (iw (List.range p.length)):=by
 constructor
 ·intro h
  refine(mA (zQ List.nodup_range) (fun x hx=>?_) (by rw[an,List.length_range];exact Nat.le_refl _)).symm
  obtain⟨k,hk,rfl⟩:=List.mem_map.1 hx
  exact h k (List.mem_range.1 hk)
 ·intro h v hv
  exact h.mem_iff.2 (List.mem_map.2 ⟨v,List.mem_range.2 hv,rfl⟩)
theorem Ow{p:List Int}(hn:p.Nodup)(h:∀x∈p,0≤x∧x<(p.length:Int)):ng p:=by
 refine q5.2 (mA hn (fun x hx=>?_) (by rw[an,List.length_range];exact Nat.le_refl _))
 obtain⟨h1,h2⟩:=h x hx
 exact List.mem_map.2 ⟨x.toNat,List.mem_range.2 (by omega),by show((x.toNat:Nat):Int)=x;omega⟩
theorem Ox{p:List Int}(h:ng p){x:Int}(hx:x∈p):0≤x∧x<(p.length:Int):=by
 have:=(q5.1 h).mem_iff.1 hx
 obtain⟨k,hk,rfl⟩:=List.mem_map.1 this
 have:=List.mem_range.1 hk
 show(0:Int)≤(k:Int)∧(k:Int)<_
 omega
theorem AK{p:List Int}(h:ng p):p.Nodup:=(q5.1 h).nodup_iff.2 (zQ List.nodup_range)
theorem LH{p:List Int}{i n W:Nat}(hi:i<p.length)(hn:p[i]=(n:Int))(hw:n<W):((List.range W).map fun k=>decide (((k:Nat):Int)∈p.take i)).set n true=(List.range W).map fun k=>decide (((k:Nat):Int)∈p.take (i+1)):=by
 apply List.ext_getElem?
 intro j
 rw[List.take_succ_eq_append_getElem hi,hn]
 by_cases hj:j<W
 ·by_cases e:n=j
  ·subst e;rw[List.getElem?_set_self (by simpa using hw)];simp[hw]
  ·rw[List.getElem?_set_ne e]
   simp only[List.getElem?_map,List.getElem?_range hj,Option.map_some,List.mem_append,List.mem_singleton]
   congr 1
   have:¬((j:Nat):Int)=(n:Int):=by omega
   simp[this]
 ·rw[List.getElem?_eq_none (by simp;omega),List.getElem?_eq_none (by simp;omega)]
theorem HG{p:List Int}{W:Nat}:List.replicate W false=(List.range W).map fun k=>decide (((k:Nat):Int)∈p.take 0):=by
 apply List.ext_getElem?
 intro j
 by_cases hj:j<W
 ·simp[hj]
 ·rw[List.getElem?_eq_none (by simp;omega),List.getElem?_eq_none (by simp;omega)]
theorem qA{B:Hp}{v:Value}{p:List Int}(h:bW .i64 B v p)(bE:p.length≤70368744177664):Rd Tryz.prog 101 #[v] B (fun r=>(r=.int .i64 0∧ng p∧p.length≤64)∨(r=.int .i64 13∧ng p∧64<p.length)∨(r=.int .i64 4∧¬ng p)):=by
 intro g
 refine FG (R:=aF _) ?_
 unfold L101
 refine h.aR (cc.og (by omega) fun b=>h.aR ?_)
 rw[HG (p:=p)]
 refine⟨fun vs H=>∃i:Nat,vs=[.int .i64 (i:Int)]∧H=(b,.cells (c4 ((List.range p.length).map fun k=>decide (((k:Nat):Int)∈p.take i))) 4 (0,0))::B∧i≤p.length∧(p.take i).Nodup∧∀x∈p.take i,0≤x∧x<(p.length:Int),fun vs _=>p.length-bg vs 0,
  JE.mk ⟨0,rfl,rfl,Nat.zero_le _,by simp,by simp⟩,?_⟩
 rintro w H ⟨i,hv,rfl,hi,g8,hin⟩ gs
 simp only[List.cons.injEq,and_true]at hv
 subst hv
 refine ae.dz (Br.dec (fun hlt=>?_) (fun hlt=>?_))
 ·refine h.ld (List.getElem?_eq_getElem hlt) (fun _ h=>.tail _ h) ?_
  obtain⟨x,hx⟩:∃x,p[i]=x:=⟨_,rfl⟩
  have hxm:x∈p:=by rw[←hx];exact List.getElem_mem hlt
  rw[hx]
  have hB:=iM.block (b:=b) (cap:=p.length) (l:=(List.range p.length).map fun k=>decide (((k:Nat):Int)∈p.take i)) (T:=4) (fz:=(0,0)) (B:=(b,.cells (c4 ((List.range p.length).map fun k=>decide (((k:Nat):Int)∈p.take i))) 4 (0,0))::B) (.head _) (by simp)
  rw[List.length_map,List.length_range]at hB
  refine ae.lss ?_
  refine bM.or (decide ((p.length:Int)≤x)) (fun _=>h.aR (ae.geq ⟨rfl,rfl⟩)) (by simp) fun gs=>?_
  rw[←Bool.decide_or]
  refine bM.or (decide (x∈p.take i)) (fun hno=>?_) (by simp) fun gs=>?_
  ·have ID:=of_decide_eq_false hno
   obtain⟨n,rfl⟩:∃n:Nat,x=n:=⟨x.toNat,by omega⟩
   refine hB.ld (b:=decide (((n:Nat):Int)∈p.take i)) ?_ (fun _ h=>h) ⟨rfl,rfl⟩
   rw[List.getElem?_map,List.getElem?_range (by omega)];rfl
  rw[←Bool.decide_or]
  refine Br.dec (fun QW=>bO.mk .tail (.inr (.inr ⟨rfl,fun ha=>?_⟩))) (fun X3=>?_)
  ·have h1:=Ox ha hxm
   rcases QW with hb|hb
   ·omega
   ·have h2:=AK ha
    rw[←List.take_append_drop i p,List.nodup_append]at h2
    refine h2.2.2 x hb x ?_ rfl
    rw[List.drop_eq_getElem_cons hlt,hx];exact .head _
  ·obtain⟨n,rfl⟩:∃n:Nat,x=n:=⟨x.toNat,by omega⟩
   refine ah.nat (by omega) ?_
   refine St.og (l:=(List.range p.length).map fun k=>decide (((k:Nat):Int)∈p.take i)) (.head _) (by simp;omega) ?_
   rw[LH hlt hx (by omega)]
   refine ae.aH (b:=1) (by simp[aB];omega) ?_
   refine ay.mk ⟨i+1,rfl,rfl,hlt,?_,fun x Z6=>?_⟩ (by simp only[bg];omega)
   ·rw[List.take_succ_eq_append_getElem hlt,hx,List.nodup_append]
    exact⟨g8,by simp,fun a ha b hb e=>by simp at hb;subst hb;subst e;exact X3 (.inr ha)⟩
   ·rw[List.take_succ_eq_append_getElem hlt,hx,List.mem_append,List.mem_singleton]at Z6
    rcases Z6 with Z6|rfl
    ·exact hin x Z6
    ·omega
 ·obtain rfl:i=p.length:=by omega
  rw[List.take_length]at g8 hin
  have aK:=Ow g8 hin
  refine h.aR (ae.me (b:=64) (Br.dec (fun hg=>bO.mk .tail (.inr (.inl ⟨rfl,aK,hg⟩))) (fun hg=>bO.mk .tail (.inl ⟨rfl,aK,by omega⟩))))
theorem HE{B:Hp}{v:Value}{p:List Int}{x:Int}(h:bW .i64 B v p)(bE:p.length<4611686018427387904):Rd Tryz.prog 179 #[v,.int .i64 x] B (· =.int .i64 (if x∈p then((p.idxOf x:Nat):Int)else-1)):=by
 intro g
 refine EC (R:=aF _) ?_
 unfold L179
 refine h.aR ?_
 refine⟨fun vs H=>∃i:Nat,vs=[.int .i64 (i:Int)]∧H=B∧i≤p.length∧x∉p.take i,fun vs _=>p.length-bg vs 0,JE.mk ⟨0,rfl,rfl,Nat.zero_le _,by simp⟩,?_⟩
 rintro w H ⟨i,hv,rfl,hi,hq⟩ gs
 simp only[List.cons.injEq,and_true]at hv
 subst hv
 refine ae.dz (Br.dec (fun hlt=>?_) (fun hlt=>?_))
 ·refine h.ld (List.getElem?_eq_getElem hlt) (fun _ h=>h) ?_
  refine ae.jG (Br.dec (fun he=>bO.mk (.refl _) ?_) (fun he=>?_))
  ·rw[if_pos (by rw[he];exact List.getElem_mem hlt),zV hq hlt he.symm]
  ·refine ae.aH (b:=1) (by simp[aB];omega) ?_
   refine ay.of (.refl _) ⟨i+1,rfl,rfl,hlt,?_⟩ (by simp only[bg];omega)
   rw[List.take_succ_eq_append_getElem hlt,List.mem_append,List.mem_singleton]
   rintro(h|h)
   ·exact hq h
   ·exact he h
 ·refine bO.mk (.refl _) ?_
  rw[List.take_of_length_le (by omega)]at hq
  rw[if_neg hq]
theorem Ry{B:Hp}{v1 v2:Value}{p q:List Nat}{n:Nat}(h1:bW .i64 B v1 (iw p))(h2:bW .i64 B v2 (iw q))(hp:p.Perm (List.range n))(hq:q.Perm (List.range n))(hn:n≤64):Rd Tryz.prog 178 #[v1,v2] B (· =.int .i64 0):=by
 have e1:p.length=n:=by rw[hp.length_eq,List.length_range]
 have e2:q.length=n:=by rw[hq.length_eq,List.length_range]
 intro g
 refine ED (R:=aF _) ?_
 unfold L178
 refine ag.rd .here (qA h1 (by rw[an];omega)) ?_
 rintro v (⟨rfl,_,_⟩|⟨_,_,hl⟩|⟨_,hno⟩)
 rotate_left
 ·rw[an]at hl;omega
 ·exact absurd (nf hp) hno
 refine ag.rd .here (qA h2 (by rw[an];omega)) ?_
 rintro v (⟨rfl,_,_⟩|⟨_,_,hl⟩|⟨_,hno⟩)
 rotate_left
 ·rw[an]at hl;omega
 ·exact absurd (nf hq) hno
 refine ae.jG ?_
 refine bM.or false (fun _=>ae.jG ⟨rfl,rfl⟩) rfl fun gs=>?_
 refine bM.or false (fun _=>?_) rfl fun gs=>Br.no ?_
 ·refine h1.aR (h2.aR (ae.pH ⟨rfl,?_⟩))
  rw[an,an,decide_eq_false (by omega)]
 ·exact⟨.i64,0,0,rfl,rfl,bO.mk (.refl _) rfl⟩
end Go.Proofs
namespace Go.Sx
open Go
section
variable {P:Program} {g:Gh} {H:Hp}
theorem av.Uf{t e:TypeId}{z:Value}{a b c d:Value}{K:Value→Hp→Prop}(h1:P.underlying t=some (.slice e))(h2:dO P e=some 2)(h3:fu P e=some z)
 (h:∀x,K (.slice (some ⟨x,0,Option.none⟩) 2 2) ((x,.cells (rows [[a,b],[c,d]]) e (0,0))::H)):av P t 2 [(0,.agg #[a,b]),(1,.agg #[c,d])] H K:=by
 refine⟨rows [[a,b],[c,d]],e,2,z,h1,h2,h3,by decide,?_,fun b _=>h b⟩
 have e1:Array.range (2*2)=#[0,1,2,3]:=rfl
 simp[Instr.fill,Value.cells,rows,e1]
theorem av.Ue{t e:TypeId}{z:Value}{a b c d x y:Value}{K:Value→Hp→Prop}(h1:P.underlying t=some (.slice e))(h2:dO P e=some 2)(h3:fu P e=some z)
 (h:∀u,K (.slice (some ⟨u,0,Option.none⟩) 3 3) ((u,.cells (rows [[a,b],[c,d],[x,y]]) e (0,0))::H)):av P t 3 [(0,.agg #[a,b]),(1,.agg #[c,d]),(2,.agg #[x,y])] H K:=by
 refine⟨rows [[a,b],[c,d],[x,y]],e,2,z,h1,h2,h3,by decide,?_,fun b _=>h b⟩
 have e1:Array.range (3*2)=#[0,1,2,3,4,5]:=rfl
 simp[Instr.fill,Value.cells,rows,e1]
theorem av.Xi{t e:TypeId}{kd:IntKind}{x y z u:Int}{K:Value→Hp→Prop}(h1:P.underlying t=some (.slice e))(h2:dO P e=some 1)(h3:fu P e=some (.int kd 0))
 (h:∀b,K (.slice (some ⟨b,0,Option.none⟩) 4 4) ((b,.cells (aC kd [x,y,z,u]) e (0,0))::H)):av P t 4 [(0,.int kd x),(1,.int kd y),(2,.int kd z),(3,.int kd u)] H K:=by
 refine⟨aC kd [x,y,z,u],e,1,_,h1,h2,h3,by decide,?_,fun b _=>h b⟩
 have e1:Array.range (4*1)=#[0,1,2,3]:=rfl
 simp[Instr.fill,Value.cells,aC,e1]
theorem aS.made{T:TypeId}{k b:Nat}(rs:List (List Value))(h:∀r∈rs,r.length=k):aS T k (.slice (some ⟨b,0,none⟩) rs.length rs.length) rs [(b,.cells (rows rs) T (0,0))]:=
 .inr ⟨b,[],by simp,by simp,by simpa using h⟩
end
end Go.Sx
namespace aZ
open aj
variable {n:Nat} {F:Nat→Nat} {ws us rs:List Nat}
def wj(n:Nat)(F:Nat→Nat):List Nat:=(List.range (wN n)).map fun i=>F i&&&ct n
theorem nH(hn:n≤16):cB n (wj n F):=by
 refine⟨hn,by simp[wj],fun w hw=>?_⟩
 obtain⟨i,_,rfl⟩:=List.mem_map.1 hw
 exact Nat.and_le_right
theorem Iv{x:Nat}(hx:x<2^n):bit (wj n F) x=(F (x/64)).testBit (x%64):=by
 have hi:=pM hx
 unfold bit
 have gX:(wj n F).getD (x/64) 0=F (x/64) &&&ct n:=by simp[wj,hi]
 rw[gX,Nat.testBit_and,fh]
 have X6:decide (x%64<if 6≤n then 64 else 2^n)=true:=by
  rw[decide_eq_true_eq]
  split
  ·exact Nat.mod_lt _ (by decide)
  ·have h1:2^n≤32:=Nat.pow_le_pow_right (n:=2) (by decide) (by omega:n≤5)
   omega
 rw[X6,Bool.and_true]
theorem p5{f:Fn}(h:∀x,x<2^n→(F (x/64)).testBit (x%64)=f x)(hf:∀x,f (x%2^n)=f x):eL n (wj n F)=f:=by
 funext x
 unfold eL
 have hx:x%2^n<2^n:=Nat.mod_lt _ (Nat.two_pow_pos n)
 rw[Iv hx,h _ hx,hf]
theorem p0(x:Nat):eL n ws (x%2^n)=eL n ws x:=by unfold eL;rw[Nat.mod_mod]
theorem mh{x:Nat}(hx:x<2^n):(ws.getD (x/64) 0).testBit (x%64)=eL n ws x:=by
 unfold eL bit;rw[Nat.mod_eq_of_lt hx]
theorem zo{j:Nat}(hj:j<64):(18446744073709551615:Nat).testBit j=true:=by
 have:(18446744073709551615:Nat)=2^64-1:=by decide
 rw[this,Nat.testBit_two_pow_sub_one];simpa using hj
theorem xG{w j:Nat}(hw:w<18446744073709551616)(hj:j<64):(18446744073709551615-w).testBit j= !w.testBit j:=by
 have e:(18446744073709551615-w)=2^64-(w+1):=by
  have:(2:Nat)^64=18446744073709551616:=by decide
  omega
 rw[e,Nat.testBit_two_pow_sub_succ (by
  have:(2:Nat)^64=18446744073709551616:=by decide
  omega)]
 simp[hj]
end aZ
set_option maxRecDepth 100000
namespace Go.Proofs
open Go Go.Sx
open aZ
section
variable {B:Hp}
def iB(B:Hp)(v:Value)(n:Nat)(f:aZ.Fn):Prop:=∃ws,j5 B v ⟨n,ws⟩∧aj.cB n ws∧eL n ws=f
theorem iB.mono{B B':Hp}{v:Value}{n:Nat}{f:aZ.Fn}(h:iB B v n f)(hs:∀x∈B,x∈B'):iB B' v n f:=let ⟨ws,h1,h2,h3⟩:=h;⟨ws,h1.mono hs,h2,h3⟩
theorem Ax{n:Nat}(hn:n≤16)(B:Hp):Rd Tryz.prog 211 #[.int .i64 (n:Int)] B (· =.int .i64 0):=by
 intro g
 refine Ej (R:=aF _) ?_
 unfold L211
 exact ae.lss (Br.cq (by omega) (ae.me (b:=16) (Br.cq (by omega) (bO.mk (.refl _) rfl))))
theorem BB{b:Bool}{p:Value}{i:Int}(hb:Go.Sx.At B p [.bool b]):Rd Tryz.prog 213 #[.int .i64 i,p] B (· =.int .u64 (((if b then 18446744073709551615 else 0:Nat)):Int)):=by
 intro g
 refine Eh (R:=aF _) ?_
 unfold L213
 refine Ld.at hb (fun _ h=>h) ?_
 cases b
 ·exact Br.no (bO.mk (.refl _) rfl)
 ·exact Br.yes (bO.mk (.refl _) rfl)
theorem vN{n:Nat}(hn:n≤16)(b:Bool)(B:Hp):Px Tryz.prog 147 #[.int .i64 (n:Int),.bool b] B (fun r H=>∃v,r=.tuple #[v,.int .i64 0]∧iB H v n (fun _=>b)):=by
 intro g
 refine E7 (R:=aF _) ?_
 unfold L147
 intro b1 _ b3 _
 refine ag.rd .here (Ax hn _) ?_
 rintro w rfl
 refine ae.dX (Br.cq (by decide) ?_)
 refine ag.px (.cons .here) (pP hn rfl (by kernel_rfl) (F:=fun _=>if b then 18446744073709551615 else 0) (fun i _=>by cases b<;>decide) (B:=(b1,.cells #[.bool b] 4 (0,0))::B) fun i _=>BB (Go.Sx.At.block (l:=[.bool b]) zM)) ?_
 rintro v N ⟨s,rfl,hw⟩
 refine St.whole (r:=[.int .i64 (n:Int),s]) (by exact .head _) rfl rfl ?_ ?_
 ·have:=aD hw;simpa[Value.oneCell']using this
 refine az.whole (r:=[.int .i64 (n:Int),s]) (by exact .head _) rfl ?_
 refine oV.mk (by repeat (first|exact aV.refl _|apply aV.cons|apply aV.app)) ⟨_,rfl,_,⟨s,rfl,hw.mono zS⟩,nH hn,p5 (fun x hx=>?_) (fun x=>rfl)⟩
 cases b
 ·exact Nat.zero_testBit _
 ·exact zo (Nat.mod_lt _ (by decide))
theorem Lq{v i:Nat}{p:Value}(hv:v<64)(hi:i<9223372036854775808)(hb:Go.Sx.At B p [.int .i64 (v:Int)]):Rd Tryz.prog 218 #[.int .i64 (i:Int),p] B (· =.int .u64 ((if 6≤v then(if(i>>>(v-6)).testBit 0 then 18446744073709551615 else 0)else aj.mask v:Nat):Int)):=by
 intro g
 refine Ed (R:=aF _) ?_
 unfold L218
 refine Ld.at hb (fun _ h=>h) ?_
 refine ag.rd .here (wI hv (by omega) hi B) ?_
 rintro w rfl
 exact bO.mk (.refl _) rfl
theorem PM{n v:Nat}(hn:n≤16)(hv:v<n)(B:Hp):Px Tryz.prog 153 #[.int .i64 (n:Int),.int .i64 (v:Int)] B (fun r H=>∃t,r=.tuple #[t,.int .i64 0]∧iB H t n (fun x=>x.testBit v)):=by
 intro g
 refine E0 (R:=aF _) ?_
 unfold L153
 intro b1 _ b3 _
 refine ag.rd .here (Ax hn _) ?_
 rintro w rfl
 refine ae.dX (Br.cq (by decide) ?_)
 refine Ld.mk (v:=.int .i64 (v:Int)) (by exact .tail _ (.head _)) rfl ?_
 refine ae.lss ?_
 rw[decide_eq_false (by omega)]
 refine bM.or (a:=false) false (fun _=>?_) rfl fun gs=>Br.no ?_
 ·refine Ld.mk (v:=.int .i64 (v:Int)) (by exact .tail _ (.head _)) rfl ?_
  exact ae.qP ⟨rfl,by rw[decide_eq_false (by omega)]⟩
 have MG:=aj.rj hn
 refine ag.px (.cons .here) (pP hn rfl (by kernel_rfl) (F:=fun i=>if 6≤v then(if(i>>>(v-6)).testBit 0 then 18446744073709551615 else 0)else aj.mask v) (fun i _=>by
  have:=aj.su v
  split
  ·split<;>decide
  ·exact this) (B:=(b1,.cells #[.int .i64 (v:Int)] 3 (0,0))::B) fun i hi=>Lq (by omega) (by omega) (Go.Sx.At.block (l:=[.int .i64 (v:Int)]) zM)) ?_
 rintro w N ⟨s,rfl,hw⟩
 refine St.whole (r:=[.int .i64 (n:Int),s]) (by exact .head _) rfl rfl ?_ ?_
 ·have:=aD hw;simpa[Value.oneCell']using this
 refine az.whole (r:=[.int .i64 (n:Int),s]) (by exact .head _) rfl ?_
 refine oV.mk (by repeat (first|exact aV.refl _|apply aV.cons|apply aV.app)) ⟨_,rfl,_,⟨s,rfl,hw.mono zS⟩,nH hn,p5 (fun x hx=>?_) (fun x=>?_)⟩
 ·have hj:x%64<64:=Nat.mod_lt _ (by decide)
  have aia:x=64*(x/64)+x%64:=by omega
  by_cases h6:6≤v
  ·rw[if_pos h6]
   have e:x.testBit v=((x/64)>>>(v-6)).testBit 0:=by
    rw[Nat.testBit_shiftRight,Nat.add_zero]
    have:=Nat.testBit_div_two_pow (n:=6) x (v-6)
    rw[show(2:Nat)^6=64 from rfl]at this
    rw[this];congr 1;omega
   rw[e]
   cases ((x/64)>>>(v-6)).testBit 0
   ·exact Nat.zero_testBit _
   ·exact zo hj
  ·rw[if_neg h6,aj.dB]
   have:=Nat.testBit_mod_two_pow x 6 v
   rw[show(2:Nat)^6=64 from rfl]at this
   rw[this]
   simp[hj];omega
 ·rw[Nat.testBit_mod_two_pow];simp[hv]
end
section
variable {B:Hp}
theorem fP{n i:Nat}{ws:List Nat}(hf:aj.cB n ws):ws.getD i 0<18446744073709551616:=by
 by_cases h:i<ws.length
 ·rw[List.getD_eq_getElem?_getD,List.getElem?_eq_getElem h];exact hf.lt (List.getElem_mem h)
 ·rw[List.getD_eq_getElem?_getD,List.getElem?_eq_none (by omega)];decide
theorem kF{n i:Nat}{ws:List Nat}(hf:aj.cB n ws)(hi:i<aj.wN n):ws[i]? =some (ws.getD i 0):=by
 rw[List.getD_eq_getElem?_getD,List.getElem?_eq_getElem (by rw[hf.len];exact hi)];rfl
def uu(op w u:Nat):Nat→Nat
 |0=>0
 |k+1=>if op.testBit k then uu op w u k|||([(18446744073709551615-w) &&& (18446744073709551615-u),(18446744073709551615-w) &&&u,w&&& (18446744073709551615-u),w&&&u].getD k 0)else uu op w u k
theorem Gp{w u k:Nat}(hw:w<18446744073709551616)(hu:u<18446744073709551616):[(18446744073709551615-w) &&& (18446744073709551615-u),(18446744073709551615-w) &&&u,w&&& (18446744073709551615-u),w&&&u].getD k 0<18446744073709551616:=by
 have h1:∀a b:Nat,a<18446744073709551616→a&&&b<18446744073709551616:=fun a b h=>Nat.lt_of_le_of_lt Nat.and_le_left h
 match k with
 |0=>exact h1 _ _ (by omega)
 |1=>exact h1 _ _ (by omega)
 |2=>exact h1 _ _ hw
 |3=>exact h1 _ _ hw
 |k+4=>exact(by decide:(0:Nat)<18446744073709551616)
theorem sG{op w u:Nat}(hw:w<18446744073709551616)(hu:u<18446744073709551616):∀k,uu op w u k<18446744073709551616
 |0=>by show(0:Nat)<18446744073709551616;decide
 |k+1=>by
  unfold uu
  split
  ·exact Nat.or_lt_two_pow (n:=64) (sG hw hu k) (Gp hw hu)
  ·exact sG hw hu k
theorem Oi{op w u j:Nat}(hw:w<18446744073709551616)(hu:u<18446744073709551616)(hj:j<64):(uu op w u 4).testBit j=opB op (w.testBit j) (u.testBit j):=by
 have nw:=xG hw hj
 have nu:=xG hu hj
 simp only[uu,List.getD_cons_zero,List.getD_cons_succ]
 unfold opB
 cases h0:op.testBit 0<;>cases h1:op.testBit 1<;>cases h2:op.testBit 2<;>cases h3:op.testBit 3<;>
  simp only[if_true,Bool.false_eq_true,if_false,Nat.testBit_or,Nat.testBit_and,nw,nu,Nat.zero_testBit]<;>
  cases w.testBit j<;>cases u.testBit j<;>simp[h0,h1,h2,h3]
theorem Lu{p1 p2 p3 s1 s2:Value}{n i op:Nat}{ws us:List Nat}(h1:Go.Sx.At B p1 [.int .i64 (n:Int),s1])(h2:Go.Sx.At B p2 [.int .i64 (n:Int),s2])(h3:Go.Sx.At B p3 [.int .u8 (op:Int)])(hw:Words B s1 ws)(hu:Words B s2 us)(hf:aj.cB n ws)(hg:aj.cB n us)(hop:op<16)(hi:i<aj.wN n):
  Rd Tryz.prog 239 #[.int .i64 (i:Int),p1,p2,p3] B (· =.int .u64 ((uu op (ws.getD i 0) (us.getD i 0) 4:Nat):Int)):=by
 have lw:=fP (i:=i) hf
 have lu:=fP (i:=i) hg
 intro g
 refine DU (R:=aF _) ?_
 unfold L239
 refine aa.at h1 fun q hq=>Ld.at hq (fun _ h=>h) ?_
 refine hw.1.ld (cj (kF hf hi)) (fun _ h=>h) ?_
 refine aa.at h2 fun q hq=>Ld.at hq (fun _ h=>h) ?_
 refine hu.1.ld (cj (kF hg hi)) (fun _ h=>h) ?_
 generalize ws.getD i 0=w at*
 generalize us.getD i 0=u at*
 refine Un.KK lw (Un.KK lu ?_)
 refine ae.jr (by simp only[aB];omega) (by simp only[aB];omega) ?_
 refine Un.KK lw ?_
 refine ae.jr (by simp only[aB];omega) (by simp only[aB];omega) ?_
 refine Un.KK lu ?_
 refine ae.jr (by simp only[aB];omega) (by simp only[aB];omega) ?_
 refine ae.jr (by simp only[aB];omega) (by simp only[aB];omega) ?_
 refine av.Xi (e:=50) (by kernel_rfl) (by kernel_rfl) (by kernel_rfl) fun bx=>?_
 obtain⟨ps,hps⟩:∃ps,ps=[(18446744073709551615-w) &&& (18446744073709551615-u),(18446744073709551615-w) &&&u,w&&& (18446744073709551615-u),w&&&u]:=⟨_,rfl⟩
 have hI:bW .u64 [(bx,Obj.cells (aC .u64 (iw ps)) 50 (0,0))] (.slice (some ⟨bx,0,none⟩) 4 4) (iw ps):=by
  have:=(aQ.made (T:=50) (kd:=.u64) (b:=bx) (iw ps)).ints
  have hl:(iw ps).length=4:=by rw[hps];rfl
  rw[hl]at this;exact this
 have qJ:ps.length=4:=by rw[hps];rfl
 have hH:(bx,Obj.cells (aC .u64 [((((18446744073709551615-w) &&& (18446744073709551615-u):Nat)):Int),((((18446744073709551615-w) &&&u:Nat)):Int),(((w&&& (18446744073709551615-u):Nat)):Int),((w&&&u:Nat):Int)]) 50 (0,0))=(bx,Obj.cells (aC .u64 (iw ps)) 50 (0,0)):=by rw[hps];rfl
 rw[hH]
 refine aG.mk ?_
 refine⟨fun vs H=>∃k:Nat,vs=[.int .u64 ((uu op w u k:Nat):Int),.int .i64 (k:Int)]∧k≤4∧H=(bx,Obj.cells (aC .u64 (iw ps)) 50 (0,0))::B,fun vs _=>4-bg vs 1,JE.mk ⟨0,rfl,by omega,rfl⟩,?_⟩
 rintro FZ sN H ⟨k,hv,hk,rfl⟩ gs
 simp only[List.cons.injEq,and_true]at hv
 obtain⟨rfl,rfl⟩:=hv
 refine ae.dz (b:=4) (Br.dec (fun hlt=>?_) (fun hlt=>?_))
 ·intro J hJ
  refine hI.ld (n:=((ps.getD k 0:Nat):Int)) (bF (by omega)) (fun _ h=>by simp at h;rw[h];exact .head _) ?_
  refine Ld.at h3 (fun _ h=>.tail _ h) ?_
  refine ae.jU (by simp only[aB];omega) ?_
  refine ae.jr (b:=1) (by have:=Nat.shiftRight_le op k;simp only[aB];omega) (by decide) ?_
  have tP:(op>>>k) &&&1=(op.testBit k).toNat:=by
   rw[aj.e9,Nat.testBit_shiftRight,Nat.add_zero]
   cases op.testBit k<;>rfl
  rw[tP]
  refine ae.gz (b:=1) ?_
  have acH:ps.getD k 0<18446744073709551616:=by rw[hps];exact Gp lw lu
  cases hb:op.testBit k with
  |true=>
   refine Br.gf rfl ?_
   refine ae.Gr (by simpa only[aB]using sG lw lu k) (by simpa only[aB]using acH) ?_
   refine JE.mk (hJ _ _ fun gs=>?_)
   refine ae.aH (b:=1) (by simp[aB];omega) ?_
   exact ay.mk ⟨k+1,by rw[uu,if_pos hb,hps],by omega,rfl⟩ (by simp only[bg];omega)
  |false=>
   refine Br.cq (by decide) ?_
   refine JE.mk (hJ _ _ fun gs=>?_)
   refine ae.aH (b:=1) (by simp[aB];omega) ?_
   exact ay.mk ⟨k+1,by rw[uu,if_neg (by rw[hb];decide)],by omega,rfl⟩ (by simp only[bg];omega)
 ·obtain rfl:k=4:=by omega
  exact bO.mk .tail rfl
theorem WU{bx n:Nat}{s1 s2:Value}{ws us:List Nat}(h1:Words B s1 ws)(h2:Words B s2 us):cT ((bx,.cells (rows [[.int .i64 (n:Int),s1],[.int .i64 (n:Int),s2]]) 57 (0,0))::B) (.slice (some ⟨bx,0,none⟩) 2 2) [⟨n,ws⟩,⟨n,us⟩]:=by
 refine⟨[[.int .i64 (n:Int),s1],[.int .i64 (n:Int),s2]],(Sl.rE (aS.made (T:=57) (k:=2) (b:=bx) _ (by simp)) (by decide)).mono fun _ h=>by simp at h;rw[h];exact .head _,rfl,fun i r x hr hx=>?_⟩
 match i with
 |0=>simp at hr hx;subst hr;subst hx;exact⟨s1,rfl,h1.mono fun _ h=>.tail _ h⟩
 |1=>simp at hr hx;subst hr;subst hx;exact⟨s2,rfl,h2.mono fun _ h=>.tail _ h⟩
 |i+2=>simp at hr
theorem ZX{v1 v2:Value}{n op:Nat}{f1 f2:aZ.Fn}(hop:op<16)(h1:iB B v1 n f1)(h2:iB B v2 n f2):Px Tryz.prog 194 #[.int .u8 (op:Int),v1,v2] B (fun r H=>∃t,r=.tuple #[t,.int .i64 0]∧iB H t n (fun x=>opB op (f1 x) (f2 x))):=by
 obtain⟨ws,⟨s1,rfl,hw⟩,hf,rfl⟩:=h1
 obtain⟨us,⟨s2,rfl,hu⟩,hg,rfl⟩:=h2
 intro g
 refine Et (R:=aF _) ?_
 unfold L194
 intro b1 _ b3 _ b5 _ b7 _
 refine Ld.mk (v:=.int .u8 (op:Int)) (by exact .tail _ (.tail _ (.tail _ (.head _)))) rfl ?_
 refine ae.me (b:=15) (Br.cq (by omega) ?_)
 refine az.whole (r:=[.int .i64 (n:Int),s1]) (by exact .tail _ (.tail _ (.head _))) rfl ?_
 refine az.whole (r:=[.int .i64 (n:Int),s2]) (by exact .tail _ (.head _)) rfl ?_
 refine av.Uf (e:=57) (z:=.agg #[.int .i64 0,.slice none 0 0]) (by kernel_rfl) (by kernel_rfl) (by kernel_rfl) fun bx=>?_
 refine ag.rd .here (tX (WU (n:=n) (hw.mono zS) (hu.mono zS)) (by show 2<2^62;decide)) ?_
 rintro w rfl
 rw[decide_eq_true (by
  intro t ht
  simp only[List.mem_cons,List.not_mem_nil,or_false]at ht
  rcases ht with rfl|rfl
  ·exact⟨⟨by simp,by simpa using hf⟩,rfl⟩
  ·exact⟨⟨by simp,by simpa using hg⟩,rfl⟩)]
 refine Un.not (Br.no ?_)
 refine aa.mk (Ld.mk (v:=.int .i64 (n:Int)) (by exact .tail _ (.tail _ (.tail _ (.head _)))) rfl ?_)
 refine ag.pre (H':=(b7,.cells #[.int .i64 0,.slice none 0 0] 57 (0,0))::(b5,.cells #[.int .i64 (n:Int),s2] 57 (0,0))::(b3,.cells #[.int .i64 (n:Int),s1] 57 (0,0))::(b1,.cells #[.int .u8 (op:Int)] 5 (0,0))::B) .tail ?_
 refine ag.px (.cons .here) (pP hf.lN rfl (by kernel_rfl) (F:=fun i=>uu op (ws.getD i 0) (us.getD i 0) 4) (fun i _=>sG (fP hf) (fP hg) 4) (B:=(b5,.cells #[.int .i64 (n:Int),s2] 57 (0,0))::(b3,.cells #[.int .i64 (n:Int),s1] 57 (0,0))::(b1,.cells #[.int .u8 (op:Int)] 5 (0,0))::B)
  fun i hi=>Lu (Go.Sx.At.block (l:=[.int .i64 (n:Int),s1]) zM) (Go.Sx.At.block (l:=[.int .i64 (n:Int),s2]) zM) (Go.Sx.At.block (l:=[.int .u8 (op:Int)]) zM) (hw.mono zS) (hu.mono zS) hf hg hop hi) ?_
 rintro w N ⟨s',rfl,dx⟩
 refine St.whole (r:=[.int .i64 (n:Int),s']) (by exact .head _) rfl rfl ?_ ?_
 ·have:=aD dx;simpa[Value.oneCell']using this
 refine az.whole (r:=[.int .i64 (n:Int),s']) (by exact .head _) rfl ?_
 refine oV.mk (by repeat (first|exact aV.refl _|apply aV.cons|apply aV.app)) ⟨_,rfl,_,⟨s',rfl,dx.mono zS⟩,nH hf.lN,p5 (fun x hx=>?_) (fun x=>by rw[p0,p0])⟩
 rw[Oi (fP hf) (fP hg) (Nat.mod_lt _ (by decide)),mh hx,mh hx]
theorem Lt{p1 p2 p3 s1 s2 s3:Value}{n i:Nat}{ws us rs:List Nat}(h1:Go.Sx.At B p1 [.int .i64 (n:Int),s1])(h2:Go.Sx.At B p2 [.int .i64 (n:Int),s2])(h3:Go.Sx.At B p3 [.int .i64 (n:Int),s3])(hw:Words B s1 ws)(hu:Words B s2 us)(hr:Words B s3 rs)(hf:aj.cB n ws)(hg:aj.cB n us)(hh:aj.cB n rs)(hi:i<aj.wN n):
  Rd Tryz.prog 221 #[.int .i64 (i:Int),p1,p2,p3] B (· =.int .u64 (((ws.getD i 0&&&us.getD i 0)|||((18446744073709551615-ws.getD i 0) &&&rs.getD i 0):Nat):Int)):=by
 have lw:=fP (i:=i) hf
 have lu:=fP (i:=i) hg
 have lr:=fP (i:=i) hh
 intro g
 refine Ea (R:=aF _) ?_
 unfold L221
 refine aa.at h1 fun q hq=>Ld.at hq (fun _ h=>h) ?_
 refine hw.1.ld (cj (kF hf hi)) (fun _ h=>h) ?_
 refine aa.at h2 fun q hq=>Ld.at hq (fun _ h=>h) ?_
 refine hu.1.ld (cj (kF hg hi)) (fun _ h=>h) ?_
 refine ae.jr (by simpa only[aB]using lw) (by simpa only[aB]using lu) ?_
 refine aa.at h1 fun q hq=>Ld.at hq (fun _ h=>h) ?_
 refine hw.1.ld (cj (kF hf hi)) (fun _ h=>h) ?_
 refine Un.KK lw ?_
 refine aa.at h3 fun q hq=>Ld.at hq (fun _ h=>h) ?_
 refine hr.1.ld (cj (kF hh hi)) (fun _ h=>h) ?_
 refine ae.jr (by simp only[aB];omega) (by simpa only[aB]using lr) ?_
 refine ae.Gr (Nat.lt_of_le_of_lt Nat.and_le_left (by simpa only[aB]using lw)) (Nat.lt_of_le_of_lt Nat.and_le_left (by simp only[aB];omega)) ?_
 exact bO.mk (.refl _) rfl
theorem WT{bx n:Nat}{s1 s2 s3:Value}{ws us rs:List Nat}(h1:Words B s1 ws)(h2:Words B s2 us)(h3:Words B s3 rs):cT ((bx,.cells (rows [[.int .i64 (n:Int),s1],[.int .i64 (n:Int),s2],[.int .i64 (n:Int),s3]]) 57 (0,0))::B) (.slice (some ⟨bx,0,none⟩) 3 3) [⟨n,ws⟩,⟨n,us⟩,⟨n,rs⟩]:=by
 refine⟨[[.int .i64 (n:Int),s1],[.int .i64 (n:Int),s2],[.int .i64 (n:Int),s3]],(Sl.rE (aS.made (T:=57) (k:=2) (b:=bx) _ (by simp)) (by decide)).mono fun _ h=>by simp at h;rw[h];exact .head _,rfl,fun i r x hr hx=>?_⟩
 match i with
 |0=>simp at hr hx;subst hr;subst hx;exact⟨s1,rfl,h1.mono fun _ h=>.tail _ h⟩
 |1=>simp at hr hx;subst hr;subst hx;exact⟨s2,rfl,h2.mono fun _ h=>.tail _ h⟩
 |2=>simp at hr hx;subst hr;subst hx;exact⟨s3,rfl,h3.mono fun _ h=>.tail _ h⟩
 |i+3=>simp at hr
theorem PO{v1 v2 v3:Value}{n:Nat}{f1 f2 f3:aZ.Fn}(h1:iB B v1 n f1)(h2:iB B v2 n f2)(h3:iB B v3 n f3):Px Tryz.prog 154 #[v1,v2,v3] B (fun r H=>∃t,r=.tuple #[t,.int .i64 0]∧iB H t n (fun x=>if f1 x then f2 x else f3 x)):=by
 obtain⟨ws,⟨s1,rfl,hw⟩,hf,rfl⟩:=h1
 obtain⟨us,⟨s2,rfl,hu⟩,hg,rfl⟩:=h2
 obtain⟨rs,⟨s3,rfl,hr⟩,hh,rfl⟩:=h3
 intro g
 refine EZ (R:=aF _) ?_
 unfold L154
 intro b1 _ b3 _ b5 _ b7 _
 refine az.whole (r:=[.int .i64 (n:Int),s1]) (by exact .tail _ (.tail _ (.tail _ (.head _)))) rfl ?_
 refine az.whole (r:=[.int .i64 (n:Int),s2]) (by exact .tail _ (.tail _ (.head _))) rfl ?_
 refine az.whole (r:=[.int .i64 (n:Int),s3]) (by exact .tail _ (.head _)) rfl ?_
 refine av.Ue (e:=57) (z:=.agg #[.int .i64 0,.slice none 0 0]) (by kernel_rfl) (by kernel_rfl) (by kernel_rfl) fun bx=>?_
 refine ag.rd .here (tX (WT (n:=n) (hw.mono zS) (hu.mono zS) (hr.mono zS)) (by show 3<2^62;decide)) ?_
 rintro w rfl
 rw[decide_eq_true (by
  intro t ht
  simp only[List.mem_cons,List.not_mem_nil,or_false]at ht
  rcases ht with rfl|rfl|rfl
  ·exact⟨⟨by simp,by simpa using hf⟩,rfl⟩
  ·exact⟨⟨by simp,by simpa using hg⟩,rfl⟩
  ·exact⟨⟨by simp,by simpa using hh⟩,rfl⟩)]
 refine Un.not (Br.no ?_)
 refine aa.mk (Ld.mk (v:=.int .i64 (n:Int)) (by exact .tail _ (.tail _ (.tail _ (.tail _ (.head _))))) rfl ?_)
 refine ag.pre (H':=(b7,.cells #[.int .i64 0,.slice none 0 0] 57 (0,0))::(b5,.cells #[.int .i64 (n:Int),s3] 57 (0,0))::(b3,.cells #[.int .i64 (n:Int),s2] 57 (0,0))::(b1,.cells #[.int .i64 (n:Int),s1] 57 (0,0))::B) .tail ?_
 have ol:∀i,(ws.getD i 0&&&us.getD i 0)|||((18446744073709551615-ws.getD i 0) &&&rs.getD i 0)<18446744073709551616:=fun i=>
  Nat.or_lt_two_pow (n:=64) (Nat.lt_of_le_of_lt Nat.and_le_left (fP hf)) (Nat.lt_of_le_of_lt Nat.and_le_right (fP hh))
 refine ag.px (.cons .here) (pP hf.lN rfl (by kernel_rfl) (F:=fun i=>(ws.getD i 0&&&us.getD i 0)|||((18446744073709551615-ws.getD i 0) &&&rs.getD i 0)) (fun i _=>ol i) (B:=(b5,.cells #[.int .i64 (n:Int),s3] 57 (0,0))::(b3,.cells #[.int .i64 (n:Int),s2] 57 (0,0))::(b1,.cells #[.int .i64 (n:Int),s1] 57 (0,0))::B)
  fun i hi=>Lt (Go.Sx.At.block (l:=[.int .i64 (n:Int),s1]) zM) (Go.Sx.At.block (l:=[.int .i64 (n:Int),s2]) zM) (Go.Sx.At.block (l:=[.int .i64 (n:Int),s3]) zM) (hw.mono zS) (hu.mono zS) (hr.mono zS) hf hg hh hi) ?_
 rintro w N ⟨s',rfl,dx⟩
 refine St.whole (r:=[.int .i64 (n:Int),s']) (by exact .head _) rfl rfl ?_ ?_
 ·have:=aD dx;simpa[Value.oneCell']using this
 refine az.whole (r:=[.int .i64 (n:Int),s']) (by exact .head _) rfl ?_
 refine oV.mk (by repeat (first|exact aV.refl _|apply aV.cons|apply aV.app)) ⟨_,rfl,_,⟨s',rfl,dx.mono zS⟩,nH hf.lN,p5 (fun x hx=>?_) (fun x=>by rw[p0,p0,p0])⟩
 rw[Nat.testBit_or,Nat.testBit_and,Nat.testBit_and,xG (fP hf) (Nat.mod_lt _ (by decide)),mh hx,mh hx,mh hx]
 cases eL n ws x<;>cases eL n us x<;>cases eL n rs x<;>rfl
end
end Go.Proofs
namespace Go.Sx
open Go
section
variable {P:Program} {g:Gh} {H B:Hp} {c:Hp→Hp}
theorem aO.Uh{x:Nat×Obj}(h:x∈H):aO H [x]:=by
 obtain⟨A,D,rfl⟩:=List.append_of_mem h
 exact .bN (aO.left (A:=[x]))
end
end Go.Sx
set_option maxRecDepth 100000
namespace Go.Proofs
open Go Go.Sx
open aZ
theorem L0{B:Hp}{v1 v2:Value}{p q:List Nat}{n:Nat}(h1:bW .i64 B v1 (iw p))(h2:bW .i64 B v2 (iw q))(hp:p.Perm (List.range n))(hq:q.Perm (List.range n))(hn:n≤64):
  Fc Tryz.prog 102 #[v1,v2] B (fun r H=>∃s C,r=.tuple #[s,.int .i64 0]∧H=C++B∧aQ 3 .i64 s (iw (path p q)) C):=by
 have e1:p.length=n:=by rw[hp.length_eq,List.length_range]
 have e2:q.length=n:=by rw[hq.length_eq,List.length_range]
 have g8:q.Nodup:=hq.nodup_iff.2 List.nodup_range
 have hpq:=hp.trans hq.symm
 intro g
 refine FE (R:=aF _) ?_
 unfold L102
 refine ag.rd .here (Ry h1 h2 hp hq hn) ?_
 rintro v rfl
 refine ae.dX (Br.cq (by decide) ?_)
 refine ag.fn .here (uj h1 (by rw[an];omega)) ?_
 rintro va H ⟨CA,rfl,hA⟩
 refine h2.aR ?_
 rw[an]
 refine⟨fun vs H=>∃(i:Nat) (w9:Value) (C N:Hp),vs=[w9,.int .i64 (i:Int)]∧i≤n∧H=C++(N++B)∧aQ 3 .i64 w9 (iw (dg p q i)) C∧aQ 3 .i64 va (iw (aE p (dg p q i))) N,fun vs _=>n-bg vs 1,
  JE.mk ⟨0,_,[],CA,rfl,Nat.zero_le _,rfl,aQ.nil,hA⟩,?_⟩
 rintro w9 eo H ⟨i,u9,C,N,hv,hi,rfl,ho,hw⟩ gs
 simp only[List.cons.injEq,and_true]at hv
 obtain⟨rfl,rfl⟩:=hv
 refine ae.dz (Br.dec (fun hlt=>?_) (fun hlt=>?_))
 rotate_left
 ·obtain rfl:i=q.length:=by omega
  exact aF.mk (.cL .right _) ⟨w9,C,rfl,rfl,ho⟩
 have spec:=gT g8 hpq i (by omega)
 obtain⟨s1,s2,s3⟩:=spec
 obtain⟨s4,s5⟩:=s3 hlt
 have XV:=kg g8 hpq (i+1) (by omega)
 have rK:(i+1)*p.length≤64*64:=Nat.mul_le_mul (by omega) (by omega)
 refine h2.ld (n:=((q.getD i 0:Nat):Int)) (bF hlt) (fun _ h=>List.mem_append_right _ (List.mem_append_right _ h)) ?_
 have hmem:q.getD i 0∈aE p (dg p q i):=by
  have:q.getD i 0∈q:=by rw[List.getD_eq_getElem?_getD,List.getElem?_eq_getElem hlt];exact List.getElem_mem _
  exact((gR s1).trans hpq).mem_iff.2 this
 refine ag.rd (.app .left) (HE hw.ints (by rw[an,dV];omega)) ?_
 rintro v rfl
 rw[if_pos (BR.2 hmem),ME]
 refine⟨fun vs H=>∃(j:Nat) (u9:Value) (P:List Nat) (C N:Hp),vs=[u9,.int .i64 (j:Int)]∧i≤j∧j<n∧P++A3 i j=dg p q (i+1)∧H=C++(N++B)∧aQ 3 .i64 u9 (iw P) C∧aQ 3 .i64 va (iw (aE p P)) N,fun vs _=>bg vs 1,
  JE.mk ⟨Ua (aE p (dg p q i)) (q.getD i 0),w9,dg p q i,C,N,rfl,s4,by omega,rfl,rfl,ho,hw⟩,?_⟩
 rintro jK lW H ⟨j,u9,P,C2,N2,hv,hij,QO,hP,rfl,nI,mI⟩ gs
 simp only[List.cons.injEq,and_true]at hv
 obtain⟨rfl,rfl⟩:=hv
 refine ae.me (Br.dec (fun hgt=>?_) (fun hgt=>?_))
 ·obtain⟨j,rfl⟩:∃k,j=k+1:=⟨j-1,by omega⟩
  have hPl:P.length≤4096:=by
   have:=congrArg List.length hP
   rw[List.length_append]at this;omega
  have hlen:(aE p P).length=n:=by rw[dV,e1]
  refine DR.self ?_
  refine ae.bH (b:=1) (by simp[aB];omega) (by omega) ?_
  rw[Nat.add_sub_cancel]
  refine mI.ld (x:=(((aE p P).getD (j+1) 0:Nat):Int)) (bF (by omega)) (fun _ h=>List.mem_append_right _ (List.mem_append_left _ h)) ?_
  refine ae.bH (b:=1) (by simp[aB];omega) (by omega) ?_
  rw[Nat.add_sub_cancel]
  refine mI.ld (x:=(((aE p P).getD j 0:Nat):Int)) (bF (by omega)) (fun _ h=>List.mem_append_right _ (List.mem_append_left _ h)) ?_
  refine mI.jD (x:=(((aE p P).getD (j+1) 0:Nat):Int)) (.app .left) (by rw[an];omega) fun N3 Ux=>?_
  refine Ux.jD (x:=(((aE p P).getD j 0:Nat):Int)) (.app .left) (by rw[List.length_set,an];omega) fun N4 hw4=>?_
  have e:((iw (aE p P)).set j (((aE p P).getD (j+1) 0:Nat):Int)).set (j+1) (((aE p P).getD j 0:Nat):Int)=iw (aE p (P++[j])):=by
   rw[dU];unfold eG;rw[fZ,fZ]
  rw[e]at hw4
  refine ae.bH (b:=1) (by simp[aB];omega) (by omega) ?_
  rw[Nat.add_sub_cancel]
  refine av.int (e:=3) (by kernel_rfl) (by kernel_rfl) (by kernel_rfl) fun bx=>?_
  refine nI.mW (.cons .left) (by exact .head _) (by rw[an];omega) (by rw[an];omega) fun v' C3 yK=>?_
  refine ae.bH (b:=1) (by simp[aB];omega) (by omega) ?_
  rw[Nat.add_sub_cancel]
  refine ay.of .tail ⟨j,v',P++[j],C3,N4,rfl,by omega,by omega,?_,rfl,by rw[bT];exact yK,hw4⟩ ?_
  ·rw[←hP,mU (show i≤j by omega),List.append_assoc];rfl
  ·simp only[bg];omega
 ·obtain rfl:j=i:=by omega
  rw[uo (Nat.le_refl _),List.append_nil]at hP
  subst hP
  refine ae.aH (b:=1) (by simp[aB];omega) ?_
  exact ay.of (.refl _) ⟨j+1,jK,C2,N2,rfl,by omega,rfl,nI,mI⟩ (by simp only[bg];omega)
end Go.Proofs
set_option maxRecDepth 100000
namespace Go.Proofs
open Go Go.Sx
open aZ
def wk(b kp f d:Nat)(ok:Bool):Nat×Obj:=(b,.cells #[ptr kp,.int .i64 (f:Int),.int .i64 (d:Int),.bool ok] 260 (0,0))
section
variable {kp b f d:Nat} {K:Kd} {S:Nat→aZ.Fn} {ord tr:List Nat} {C:Hp}
theorem Hq(h:At kp K S ord tr C):Fc Tryz.prog 104 #[ptr kp] C (fun r H=>∃b,r=ptr b∧H=wk b kp tr.length 0 false::C):=by
 intro g
 refine FC (R:=aF _) ?_
 unfold L104
 refine ag.rd .here (kI h) ?_
 rintro v rfl
 refine Build.mk (cs:=[ptr kp,.int .i64 ((tr.length:Nat):Int),.int .i64 0,.bool false]) (by kernel_rfl) ?_
 intro b _
 exact aF.here ⟨b,rfl,rfl⟩
theorem KM(h:At kp K S ord tr C){l:Nat}(hl:l+1<K.n)(ig:tr.length<1099511627776)(hf:gW K S ord l)(hd:d<4611686018427387904):
  Fc Tryz.prog 107 #[ptr b,.int .i64 (l:Int)] (wk b kp f d false::C) (fun r H=>r=.int .i64 0∧∃C',H=wk b kp f (d+1) false::C'∧At kp K S (eG ord l) (tr++[l]) C'):=by
 intro g
 refine uR (R:=aF _) ?_
 unfold L107
 refine Nil.ptr (aa.mk (Ld.mk (v:=ptr kp) (by exact .head _) rfl ?_))
 refine ag.fn (.cons .here) (sI h hl ig hf) ?_
 rintro v C' ⟨rfl,h'⟩
 intro J hJ
 refine ae.jG (Br.gf rfl ?_)
 refine Nil.ptr (aa.mk (Ld.mk (v:=.int .i64 (d:Int)) (by exact .head _) rfl ?_))
 refine ae.aH (b:=1) (by simp[aB];omega) ?_
 refine Nil.ptr (aa.mk (St.one (by exact .head _) rfl (by simp) rfl ?_))
 exact JE.mk (hJ _ fun gs=>aF.here ⟨rfl,C',rfl,h'⟩)
theorem KN(h:At kp K S ord tr C){l:Nat}(hl:l+1<K.n)(ig:tr.length<1099511627776)(hf:¬gW K S ord l):
  Rd Tryz.prog 107 #[ptr b,.int .i64 (l:Int)] (wk b kp f d false::C) (· =.int .i64 9):=by
 intro g
 refine uR (R:=aF _) ?_
 unfold L107
 refine Nil.ptr (aa.mk (Ld.mk (v:=ptr kp) (by exact .head _) rfl ?_))
 refine ag.rd (.cons .here) (oU h hl ig hf) ?_
 rintro v rfl
 intro J hJ
 refine ae.jG (Br.cq (by decide) ?_)
 exact JE.mk (hJ _ fun gs=>bO.mk (.refl _) rfl)
theorem KQ{ok:Bool}{path:List Nat}(h:At kp K S (aE ord path) (tr++path) C)(hp:∀l∈path,l+1<K.n)(ig:(tr++path).length<1099511627776)(hd:d<4611686018427387904):
  Fc Tryz.prog 108 #[ptr b] (wk b kp tr.length d ok::C) (fun r H=>r=.tuple #[]∧∃C',H=wk b kp tr.length (d+path.length) ok::C'∧At kp K S ord tr C'):=by
 have qJ:path.length<1099511627776:=by rw[List.length_append]at ig;omega
 intro g
 refine FB (R:=aF _) ?_
 unfold L108
 refine DR.of (R:=[wk b kp tr.length d ok]) (aO.left (A:=[_]) (B:=C)) ?_
 refine Nil.ptr (aa.mk (Ld.mk (v:=ptr kp) (by exact .head _) rfl ?_))
 refine Nil.ptr (aa.mk (Ld.mk (v:=.int .i64 ((tr.length:Nat):Int)) (by exact .head _) rfl ?_))
 refine ag.fn (args:=#[ptr kp,.int .i64 ((tr.length+0:Nat):Int)]) (.cons .here) (GY h hp (Nat.zero_le _) ig) ?_
 rintro v C' ⟨rfl,h'⟩
 rw[List.take_zero,List.append_nil]at h'
 refine⟨aO.left (A:=[_]) (B:=C'),?_⟩
 refine Ext.mk rfl (Ext.mk rfl ?_)
 refine Nil.ptr (aa.mk (Ld.mk (v:=.int .i64 (d:Int)) (by exact .head _) rfl ?_))
 refine ae.aH (by simp[aB];omega) ?_
 refine Nil.ptr (aa.mk (St.one (by exact .head _) rfl (by simp) rfl ?_))
 exact aF.here ⟨rfl,C',rfl,h'⟩
theorem Hi:Rd Tryz.prog 105 #[ptr b] (wk b kp f d true::C) (· =.tuple #[]):=by
 intro g
 refine uS (R:=aF _) ?_
 unfold L105
 refine Nil.ptr (aa.mk (Ld.mk (v:=.bool true) (by exact .head _) rfl ?_))
 exact Un.not (Br.no (bO.mk (.refl _) rfl))
theorem Hl{path:List Nat}(h:At kp K S (aE ord path) (tr++path) C)(hp:∀l∈path,l+1<K.n)(ig:(tr++path).length<1099511627776)(hd:d<4611686018427387904):
  Fc Tryz.prog 105 #[ptr b] (wk b kp tr.length d false::C) (fun r H=>r=.tuple #[]∧∃C',H=wk b kp tr.length (d+path.length) false::C'∧At kp K S ord tr C'):=by
 intro g
 refine uS (R:=aF _) ?_
 unfold L105
 refine Nil.ptr (aa.mk (Ld.mk (v:=.bool false) (by exact .head _) rfl ?_))
 refine Un.not (Br.yes ?_)
 refine ag.fn .here (KQ h hp ig hd) ?_
 rintro v H ⟨rfl,C',rfl,h'⟩
 exact aF.here ⟨rfl,C',rfl,h'⟩
theorem Oq(h:At kp K S ord tr C){v:Nat}(hv:v<K.n):Rd Tryz.prog 46 #[ptr kp,.int .i64 (v:Int)] C (fun r=>∃p,p<K.n∧ord.getD p 0=v∧r=.tuple #[.int .i64 (p:Int),.int .i64 0]):=by
 obtain⟨K',S',fC,h,hk⟩:=h
 obtain⟨b,rfl,hO⟩:=h.rep
 have hn:=hO.uY
 have xQ:v<K'.n:=by rw[hk.n];exact hv
 have hlen:v<fC.length:=by rw[hO.ol.2];exact xQ
 intro g
 refine JS (R:=aF _) ?_
 unfold L46
 refine ae.aJ (Br.no ?_)
 refine ag.rd .here (xM h.rep (v:Int)) ?_
 rintro r rfl
 rw[decide_eq_true (by omega)]
 refine Un.not (Br.no ?_)
 refine Nil.ptr (aa.mk (Ld.mk (v:=b.vl) (by exact .head _) rfl ?_))
 refine hO.lv.ld (x:=((fC.getD v 0:Nat):Int)) (bF hlen) (cy.sub (.cons (.app (.app (.app (.app (.app .left))))))) ?_
 refine bO.mk (.refl _) ⟨fC.getD v 0,?_,?_,rfl⟩
 ·rw[←hk.n];exact h.ok.lv.lt v xQ
 ·exact h.od.of h.ok.lv xQ
def G2(kp:Nat)(K:Kd)(S:Nat→aZ.Fn)(ord tr ls:List Nat)(r:Value)(C:Hp):Prop:=
 ((rm K S).can ord ls=true∧r=.tuple #[.int .i64 ((ls.length:Nat):Int),.int .i64 0]∧At kp K S (aE ord ls) (tr++ls) C)∨
 ((rm K S).can ord ls=false∧r=.tuple #[.int .i64 ((2*((rm K S).cI 0 ls ord).length:Nat):Int),.int .i64 9]∧At kp K S ord tr C)
theorem Qg{Y:Hp}{v:Value}{ls:List Nat}(h:At kp K S ord tr C)(hI:bW .i64 Y v (iw ls))(hp:∀l∈ls,l+1<K.n)(ig:tr.length+ls.length<1099511627776):
  Fc Tryz.prog 103 #[ptr kp,v] (Y++C) (fun r H=>∃C',H=Y++C'∧G2 kp K S ord tr ls r C'):=by
 let m:=rm K S
 have hgl:=m.pW 0 ls ord
 have hpt:∀i,∀l∈ls.take i,l+1<K.n:=fun i l hl=>hp l (List.mem_of_mem_take hl)
 intro g
 refine FD (R:=aF _) ?_
 unfold L103
 intro b1 _
 refine ag.fn (.cons (.app .here)) (Hq h) ?_
 rintro v3 H ⟨b,rfl,rfl⟩
 intro b5 _
 refine St.one (by exact .head _) rfl (by simp) rfl ?_
 refine hI.aR ?_
 rw[an]
 refine⟨fun vs H=>∃i C2,i≤(m.cI 0 ls ord).length∧vs=[.int .i64 (i:Int)]∧H=(b5,.cells #[ptr b] 169 (0,0))::(b1,.cells #[.int .i64 0] 3 (0,0))::(Y++(wk b kp tr.length i false::C2))∧At kp K S (aE ord (ls.take i)) (tr++ls.take i) C2,
  fun vs _=>ls.length-bg vs 0,JE.mk ⟨0,C,Nat.zero_le _,rfl,rfl,by simpa[aE]using h⟩,?_⟩
 rintro nY H ⟨i,C2,hi,hv,rfl,h2⟩ gs
 simp only[List.cons.injEq,and_true]at hv
 subst hv
 have M3:(tr++ls.take i).length<1099511627776:=by rw[List.length_append,List.length_take];omega
 refine ae.dz (Br.dec (fun hlt=>?_) (fun hlt=>?_))
 ·refine hI.ld (n:=((ls.getD i 0:Nat):Int)) (bF hlt) (fun _ h=>.tail _ (.tail _ (List.mem_append_left _ h))) ?_
  have eg:ls.getD i 0=ls[i]:=by rw[List.getD_eq_getElem?_getD,List.getElem?_eq_getElem hlt];rfl
  have Cg:ls.getD i 0+1<K.n:=by rw[eg];exact hp _ (List.getElem_mem hlt)
  have eq:ls[i]? =some (ls.getD i 0):=by rw[eg];exact List.getElem?_eq_getElem hlt
  refine Ld.mk (v:=ptr b) (by exact .head _) rfl ?_
  by_cases hg:i<(m.cI 0 ls ord).length
  ·have hf:gW K S (aE ord (ls.take i)) (ls.getD i 0):=oD.1 (m.NG hg eq)
   refine ag.fn (.cons (.cons (.app .here))) (KM h2 Cg M3 hf (by omega)) ?_
   rintro r H ⟨rfl,C3,rfl,h3⟩
   refine ae.dX (Br.cq (by decide) ?_)
   refine ae.aH (b:=1) (by simp[aB];omega) ?_
   refine ay.mk ⟨i+1,C3,hg,rfl,rfl,?_⟩ (by simp only[bg];omega)
   have e:ls.take (i+1)=ls.take i++[ls.getD i 0]:=by rw[List.take_add_one,eq];rfl
   rw[e,dU,←List.append_assoc];exact h3
  ·obtain rfl:i=(m.cI 0 ls ord).length:=by omega
   have hf:¬gW K S (aE ord (ls.take (m.cI 0 ls ord).length)) (ls.getD (m.cI 0 ls ord).length 0):=fun hf=>by
    have h8:=m.IQ eq
    have h9:=oD.2 hf
    rw[show(rm K S).fit _ _=false from h8]at h9;cases h9
   refine ag.rd (.cons (.cons (.app .here))) (KN h2 Cg M3 hf) ?_
   rintro r rfl
   refine ae.dX (Br.gf (by decide) ?_)
   refine St.one (by exact .tail (.head _)) rfl (by simp) rfl ?_
   refine rW (R:=_) ?_
   unfold L180
   refine Ld.mk (v:=ptr b) (by exact .head _) rfl ?_
   refine ag.fn (.cons (.cons (.app .here))) (Hl h2 (hpt _) M3 (by omega)) ?_
   rintro r H ⟨rfl,C3,rfl,h3⟩
   refine Ld.mk (v:=ptr b) (by exact .head _) rfl ?_
   have eD:(m.cI 0 ls ord).length+(ls.take (m.cI 0 ls ord).length).length=2*(m.cI 0 ls ord).length:=by rw[List.length_take];omega
   rw[eD]
   refine Nil.ptr (aa.mk (Ld.mk (v:=.int .i64 ((2*(m.cI 0 ls ord).length:Nat):Int)) (by exact .tail _ (.tail _ (List.mem_append_right _ (.head _)))) rfl ?_))
   refine St.one (by exact .tail (.head _)) rfl (by simp) rfl ?_
   refine⟨⟨_,rfl⟩,?_⟩
   refine Ld.mk (v:=.int .i64 ((2*(m.cI 0 ls ord).length:Nat):Int)) (by exact .tail _ (.head _)) rfl ?_
   refine aF.mk (.skip (.skip (.cL .tail _))) ⟨C3,rfl,.inr ⟨decide_eq_false (show¬(m.cI 0 ls ord).length=ls.length by omega),rfl,h3⟩⟩
 ·have Ci:i=ls.length:=by omega
  subst Ci
  rw[List.take_length]at h2
  have hcan:(rm K S).can ord ls=true:=decide_eq_true (show(m.cI 0 ls ord).length=ls.length by omega)
  refine Ld.mk (v:=ptr b) (by exact .head _) rfl ?_
  refine Nil.ptr (aa.mk (St.one (cJ.tail (cJ.tail (cJ.bI (.head _) _))) rfl (by simp) rfl ?_))
  refine St.one (by exact .tail (.head _)) rfl (by simp) rfl ?_
  refine rW (R:=_) ?_
  unfold L180
  refine Ld.mk (v:=ptr b) (by exact .head _) rfl ?_
  refine ag.rd (B:=wk b kp tr.length ls.length true::C2) (.cons (.cons (.app .here))) Hi ?_
  rintro r rfl
  refine Ld.mk (v:=ptr b) (by exact .head _) rfl ?_
  refine Nil.ptr (aa.mk (Ld.mk (v:=.int .i64 ((ls.length:Nat):Int)) (by exact .tail _ (.tail _ (List.mem_append_right _ (.head _)))) rfl ?_))
  refine St.one (by exact .tail (.head _)) rfl (by simp) rfl ?_
  refine⟨⟨_,rfl⟩,?_⟩
  refine Ld.mk (v:=.int .i64 ((ls.length:Nat):Int)) (by exact .tail _ (.head _)) rfl ?_
  refine aF.mk (.skip (.skip (.cL .tail _))) ⟨C2,rfl,.inl ⟨hcan,rfl,h2⟩⟩
end
section
variable {kp b f d:Nat} {K:Kd} {S:Nat→aZ.Fn} {ord tr:List Nat} {C:Hp}
theorem G2.tup{ls:List Nat}{r:Value}(h:G2 kp K S ord tr ls r C):∃x y,r=.tuple #[x,y]:=by
 rcases h with⟨_,rfl,_⟩|⟨_,rfl,_⟩<;>exact⟨_,_,rfl⟩
theorem L7{Y:Hp}{v:Value}{q:List Nat}(h:At kp K S ord tr C)(hI:bW .i64 Y v (iw q))(O4:ord.Perm (List.range K.n))(hpq:q.Perm (List.range K.n))(ig:tr.length<549755813888):
  Fc Tryz.prog 42 #[ptr kp,v] (Y++C) (fun r H=>∃C',H=Y++C'∧G2 kp K S ord tr (path ord q) r C'):=by
 have hn:=h.uY
 have zY:ord.length=K.n:=by rw[O4.length_eq,List.length_range]
 have hql:q.length=K.n:=by rw[hpq.length_eq,List.length_range]
 have g8:q.Nodup:=hpq.nodup_iff.2 List.nodup_range
 intro g
 refine JU (R:=aF _) ?_
 unfold L42
 refine ae.aJ (Br.no ?_)
 intro J2 A1
 refine ag.rd .left (qA hI (by rw[an];omega)) ?_
 rintro r (⟨rfl,ha,hl⟩|⟨_,_,hl⟩|⟨_,hno⟩)
 rotate_left
 ·rw[an]at hl;omega
 ·exact absurd (nf hpq) hno
 refine ae.dX (Split.go (by decide) ?_)
 refine hI.aR ?_
 refine ag.rd (.app .here) (lG h) ?_
 rintro r rfl
 refine ae.pH ?_
 rw[decide_eq_false (by rw[an];omega)]
 refine aA.mk (JE.mk (A1 _ _ fun gs=>Br.no ?_))
 refine ag.fn (.app .here) (AH h) ?_
 rintro vo H ⟨N,rfl,ho⟩
 refine ag.pre (H':=(N++Y)++C) (.perm (by rw[List.append_assoc,←List.append_assoc,←List.append_assoc];exact List.perm_append_comm.append_right C)) ?_
 refine ag.fn .left (L0 (ho.ints.mono fun _ h=>List.mem_append_left _ h) (hI.mono fun _ h=>List.mem_append_right _ h) O4 hpq hn) ?_
 rintro r H ⟨s,CP,rfl,rfl,hP⟩
 refine Ext.mk rfl (Ext.mk rfl (ae.dX (Br.cq (by decide) ?_)))
 obtain⟨_,qJ⟩:=sq g8 (O4.trans hpq.symm)
 have XE:(path ord q).length≤4096:=by
  have:=kg g8 (O4.trans hpq.symm) q.length (Nat.le_refl _)
  have h2:q.length*ord.length≤64*64:=Nat.mul_le_mul (by omega) (by omega)
  unfold path;omega
 refine ag.fn .here (Qg h (hP.ints.mono fun _ h=>List.mem_append_left _ h) (fun x hx=>by have:=qJ x hx;omega) (by omega)) ?_
 rintro r H ⟨C',rfl,hM⟩
 obtain⟨x,y,rfl⟩:=hM.tup
 refine Ext.mk rfl (Ext.mk rfl ?_)
 refine aF.mk ?_ ⟨C',rfl,hM⟩
 rw[List.append_assoc,List.append_assoc]
 exact aO.right.trans .right
def Ql(p:Nat):Nat→Nat→Nat
 |0,_=>p
 |_,k=>p-k
def IF(n p:Nat):Nat→Nat→Nat
 |0,k=>p+k
 |_,_=>n-1
end
end Go.Proofs
namespace aZ
theorem qy{p j:Nat}(h:p≤j):road p (j+1)=road p j++[j]:=by
 unfold road
 rw[show p-(j+1)=0 by omega,show p-j=0 by omega,show j+1-p=(j-p)+1 by omega,List.range'_concat]
 simp;omega
theorem qz{p j:Nat}(h:j<p):road p j=road p (j+1)++[j]:=by
 unfold road
 rw[show j-p=0 by omega,show j+1-p=0 by omega,show p-j=(p-(j+1))+1 by omega,List.range'_succ]
 simp
theorem gS(p:Nat):road p p=[]:=by unfold road;simp
theorem yl(m:Rm){Q:List Nat→Prop}(hs:∀ord l,Q ord→l+1<m.n→Q (eG ord l))(hf:∀ord l,Q ord→l+1<m.n→m.fit ord l=true):∀{ls:List Nat} {ord:List Nat},Q ord→(∀x∈ls,x+1<m.n)→m.can ord ls=true
 | [],_,_,_=>decide_eq_true rfl
 |l::ls,ord,hq,hl=>by
  have h1:=hl l (by simp)
  have ih:=yl m hs hf (ls:=ls) (hs ord l hq h1) (fun x hx=>hl x (by simp[hx]))
  unfold Rm.can at ih⊢
  have:=of_decide_eq_true ih
  rw[Rm.cI,Nat.zero_add,if_pos (hf ord l hq h1),List.length_cons,List.length_cons,this]
  exact decide_eq_true rfl
end aZ
set_option maxRecDepth 100000
namespace Go.Proofs
open Go Go.Sx
open aZ
section
variable {kp gb n:Nat} {vr vf:Value} {refs:List Nat} {fs:List (List Nat)} {K:Kd} {S:Nat→aZ.Fn} {ord tr:List Nat} {C Z:Hp}
theorem Gl{ord:List Nat}(hp:ord.Perm (List.range n)):∀i,i<n→ord.getD i 0<n:=fun i hi=>by
 have zY:ord.length=n:=by rw[hp.length_eq,List.length_range]
 have:ord.getD i 0∈ord:=by rw[List.getD_eq_getElem?_getD,List.getElem?_eq_getElem (by omega)];exact List.getElem_mem _
 exact List.mem_range.1 (hp.mem_iff.1 this)
end
end Go.Proofs
set_option maxRecDepth 100000
namespace Go.Proofs
open Go Go.Sx
section
open Go.ChangeShapes Go.WideShapes Go.Deep
variable {H:Type} {enc:TypeId×Value→H} {W:World} {base:Nat} {spare:Nat→Bool} {held:Bool}
theorem Qp{f:FuncId}{args:Array Value}{W:World}(h:Rd Tryz.prog f args (whole W) (· =.bool true)):
  Calls Tryz.prog f args W fun e W'=>e=.returned (.bool true)∧Go.RowKit.Below W.heap.size W W':=
 Uo (h.mono fun _ _ ⟨h1,h2⟩=>⟨by rw[h1];exact .refl _,h2⟩)
end
end Go.Proofs
namespace aZ
def Rm.u3(m:Rm)(g:Nat)(ord:List Nat)(p:Nat)(dn:Bool):Nat→Nat→Nat→Nat→Nat×Nat×Nat
 |0,j,b,q=>(j,b,q)
 |k+1,j,b,q=>
  if m.fit (aE ord (road p j)) (bif dn then j else j-1)=true then
   if(if m.size (aE ord (road p (bif dn then j+1 else j-1)))<b then m.size (aE ord (road p (bif dn then j+1 else j-1)))else b)*g<m.size (aE ord (road p (bif dn then j+1 else j-1)))*100 then
    (bif dn then j+1 else j-1,if m.size (aE ord (road p (bif dn then j+1 else j-1)))<b then m.size (aE ord (road p (bif dn then j+1 else j-1)))else b,if m.size (aE ord (road p (bif dn then j+1 else j-1)))<b then(bif dn then j+1 else j-1)else q)
   else m.u3 g ord p dn k (bif dn then j+1 else j-1) (if m.size (aE ord (road p (bif dn then j+1 else j-1)))<b then m.size (aE ord (road p (bif dn then j+1 else j-1)))else b) (if m.size (aE ord (road p (bif dn then j+1 else j-1)))<b then(bif dn then j+1 else j-1)else q)
  else(j,b,q)
def dst(x y:Nat):Nat:=(x-y)+(y-x)
def Rm.rest(m:Rm)(dn:Bool)(j:Nat):Nat:=bif dn then m.n-1-j else j
def Rm.pC(m:Rm)(g:Nat)(ord:List Nat)(p:Nat):Nat×Nat:=
 let dn:=decide (m.n-1-p≤p)
 let a:=m.u3 g ord p dn (m.rest dn p) p (m.size ord) p
 let b:=m.u3 g ord p (!dn) (m.rest (!dn) p) p a.2.1 a.2.2
 (b.2.2,dst a.1 p+dst a.1 p+dst b.1 p+if b.2.2≠a.2.2 then dst b.1 b.2.2 else dst b.1 p+dst p b.2.2)
def Rm.cV(m:Rm)(g:Nat)(ord:List Nat):List Nat→List Nat×Nat
 | []=>([],0)
 |v::r=>let p:=ord.idxOf v;let a:=m.pC g ord p;let b:=m.cV g (aE ord (road p a.1)) r;(road p a.1++b.1,a.2+b.2)
structure Zv(m:Rm)(ord:List Nat)(p:Nat)(dn:Bool)(k j b q:Nat)(r:Nat×Nat×Nat):Prop where
 way:bif dn then j≤r.1∧r.1≤j+k else r.1≤j∧j≤r.1+k
 size:r.2.1=m.size (aE ord (road p r.2.2))
 new:(r.2.1=b∧r.2.2=q)∨(r.2.1<b∧bif dn then j<r.2.2∧r.2.2≤r.1 else r.1≤r.2.2∧r.2.2<j)
 fit:∀i,(bif dn then j≤i∧i<r.1 else r.1<i∧i≤j)→m.fit (aE ord (road p i)) (bif dn then i else i-1)=true
theorem Rm.tC(m:Rm)(g:Nat)(ord:List Nat)(p:Nat)(dn:Bool):∀k j b q,(dn=false→k≤j)→b=m.size (aE ord (road p q))→Zv m ord p dn k j b q (m.u3 g ord p dn k j b q)
 |0,j,b,q,hk,hb=>⟨by cases dn<;>simp[u3],hb,.inl ⟨rfl,rfl⟩,fun i hi=>by cases dn<;>simp[u3]at hi<;>omega⟩
 |k+1,j,b,q,hk,hb=>by
  rw[u3]
  by_cases hf:m.fit (aE ord (road p j)) (bif dn then j else j-1)=true
  ·rw[if_pos hf]
   obtain⟨J,hJ⟩:∃J,J=bif dn then j+1 else j-1:=⟨_,rfl⟩
   rw[←hJ]
   obtain⟨s,hs⟩:∃s,s=m.size (aE ord (road p J)):=⟨_,rfl⟩
   rw[←hs]
   obtain⟨B,hB⟩:∃B,B=if s<b then s else b:=⟨_,rfl⟩
   obtain⟨Q,hQ⟩:∃Q,Q=if s<b then J else q:=⟨_,rfl⟩
   rw[←hB,←hQ]
   have hbq:(B=b∧Q=q)∨(B<b∧Q=J):=by
    by_cases h:s<b
    ·rw[if_pos h]at hB hQ;exact .inr ⟨by omega,hQ⟩
    ·rw[if_neg h]at hB hQ;exact .inl ⟨hB,hQ⟩
   have hb':B=m.size (aE ord (road p Q)):=by
    by_cases h:s<b
    ·rw[if_pos h]at hB hQ;rw[hB,hQ,hs]
    ·rw[if_neg h]at hB hQ;rw[hB,hQ,hb]
   clear hB hQ
   by_cases hg:B*g<s*100
   ·rw[if_pos hg]
    refine⟨?_,hb',?_,fun i hi=>?_⟩
    ·cases dn
     ·simp only[cond_false]at hJ⊢;have:=hk rfl;omega
     ·simp only[cond_true]at hJ⊢;omega
    ·cases dn
     ·simp only[cond_false]at hJ⊢;have:=hk rfl;omega
     ·simp only[cond_true]at hJ⊢;omega
    ·have:i=j:=by
      cases dn
      ·simp only[cond_false]at hi hJ;omega
      ·simp only[cond_true]at hi hJ;omega
     subst this;exact hf
   ·rw[if_neg hg]
    have ih:=m.tC g ord p dn k J B Q (fun h=>by subst h;have:=hk rfl;simp only[cond_false]at hJ;omega) hb'
    obtain⟨w1,w2,w3,w4⟩:=ih
    refine⟨?_,w2,?_,fun i hi=>?_⟩
    ·cases dn
     ·simp only[cond_false]at w1 hJ⊢;have:=hk rfl;omega
     ·simp only[cond_true]at w1 hJ⊢;omega
    ·cases dn
     ·simp only[cond_false]at w3 w1 hJ⊢
      have:=hk rfl
      omega
     ·simp only[cond_true]at w3 w1 hJ⊢
      omega
    ·by_cases e:i=j
     ·subst e;exact hf
     ·refine w4 i ?_
      cases dn
      ·simp only[cond_false]at hi hJ⊢;omega
      ·simp only[cond_true]at hi hJ⊢;omega
  ·rw[if_neg hf]
   exact⟨by cases dn<;>simp,hb,.inl ⟨rfl,rfl⟩,fun i hi=>by cases dn<;>simp at hi<;>omega⟩
structure Ze(m:Rm)(ord:List Nat)(p:Nat)(r:Nat×Nat):Prop where
 lt:r.1<m.n
 le:m.size (aE ord (road p r.1))≤m.size ord
 stay:m.size (aE ord (road p r.1))=m.size ord→r.1=p
 Lz:r.2≤3*(m.n-1)
theorem Rm.xC(m:Rm)(g:Nat){ord:List Nat}{p:Nat}(hp:p<m.n):Ze m ord p (m.pC g ord p):=by
 have ha:=m.tC g ord p (decide (m.n-1-p≤p)) (m.rest (decide (m.n-1-p≤p)) p) p (m.size ord) p (fun h=>by unfold Rm.rest;rw[h];exact Nat.le_refl _) (by rw[gS];rfl)
 unfold pC
 simp only
 generalize decide (m.n-1-p≤p)=dn at*
 generalize m.u3 g ord p dn (m.rest dn p) p (m.size ord) p=a at*
 have hb:=m.tC g ord p (!dn) (m.rest (!dn) p) p a.2.1 a.2.2 (fun h=>by unfold Rm.rest;rw[h];exact Nat.le_refl _) ha.size
 generalize m.u3 g ord p (!dn) (m.rest (!dn) p) p a.2.1 a.2.2=b at*
 obtain⟨a1,a2,a3,a4⟩:=ha
 obtain⟨b1,b2,b3,b4⟩:=hb
 unfold Rm.rest at a1 b1
 refine⟨?_,?_,fun h=>?_,?_⟩
 ·cases dn<;>simp only[cond_false,cond_true,Bool.not_false,Bool.not_true]at a1 b1 a3 b3<;>simp only<;>omega
 ·simp only;rw[←b2]
  cases dn<;>simp only[cond_false,cond_true,Bool.not_false,Bool.not_true]at a1 b1 a3 b3<;>omega
 ·simp only at h⊢;rw[←b2]at h
  cases dn<;>simp only[cond_false,cond_true,Bool.not_false,Bool.not_true]at a1 b1 a3 b3<;>omega
 ·unfold dst
  cases dn<;>simp only[cond_false,cond_true,Bool.not_false,Bool.not_true]at a1 b1 a3 b3<;>simp only<;>split<;>omega
end aZ
namespace aZ
section
variable {m:Rm} {g:Nat}
theorem Gj{p q:Nat}(hp:p<m.n)(hq:q<m.n):∀x∈road p q,x+1<m.n:=fun x hx=>zg hp hq hx
theorem B9{ord:List Nat}{v n:Nat}(hp:ord.Perm (List.range n))(hv:v<n):ord.idxOf v<n:=by
 have h1:v∈ord:=hp.mem_iff.2 (List.mem_range.2 hv)
 have h2:=List.idxOf_lt_length_of_mem h1
 rwa [hp.length_eq,List.length_range]at h2
theorem nt{ord path:List Nat}{n:Nat}(hp:ord.Perm (List.range n))(h:∀x∈path,x+1<n):(aE ord path).Perm (List.range n):=
 (gR fun x hx=>by rw[hp.length_eq,List.length_range];exact h x hx).trans hp
structure Vn(m:Rm)(g:Nat)(ord l:List Nat)(r:List Nat×Nat):Prop where
 mem:∀x∈r.1,x+1<m.n
 le:m.size (aE ord r.1)≤m.size ord
 stay:m.size (aE ord r.1)=m.size ord→r.1=[]∧∀v∈l,(m.pC g ord (ord.idxOf v)).1=ord.idxOf v
 Lz:r.2≤3*(m.n-1)*l.length
 len:r.1.length≤m.n*l.length
theorem xB:∀{l ord:List Nat},ord.Perm (List.range m.n)→(∀v∈l,v<m.n)→Vn m g ord l (m.cV g ord l)
 | [],ord,hp,hl=>⟨by simp[Rm.cV],Nat.le_refl _,fun _=>⟨rfl,by simp⟩,by simp[Rm.cV],by simp[Rm.cV]⟩
 |v::l,ord,hp,hl=>by
  have hv:=B9 hp (hl v (by simp))
  have h1:=m.xC g (ord:=ord) hv
  rw[Rm.cV]
  generalize hq:ord.idxOf v=p at*
  generalize hr:m.pC g ord p=a at*
  obtain⟨a1,a2,a3,a4⟩:=h1
  have hin:=Gj hv a1
  have h2:=xB (l:=l) (ord:=aE ord (road p a.1)) (nt hp hin) (fun x hx=>hl x (by simp[hx]))
  generalize m.cV g (aE ord (road p a.1)) l=b at*
  obtain⟨b1,b2,b3,b4,b5⟩:=h2
  have u5:=zh p a.1
  refine⟨fun x hx=>?_,?_,fun h=>?_,?_,?_⟩
  ·rcases List.mem_append.1 hx with h|h
   ·exact hin x h
   ·exact b1 x h
  ·rw[jc];omega
  ·rw[jc]at h
   have e:=a3 (by omega)
   rw[e,gS]at b3 h⊢
   obtain⟨c1,c2⟩:=b3 h
   refine⟨by rw[c1];rfl,fun u hu=>?_⟩
   rcases List.mem_cons.1 hu with rfl|hu
   ·rw[hq,hr];exact e
   ·exact c2 u hu
  ·rw[List.length_cons,Nat.mul_add,Nat.mul_one]
   show a.2+b.2≤_
   omega
  ·rw[List.length_append,List.length_cons,Nat.mul_add,Nat.mul_one];omega
theorem vT{v:Nat}:∀{l ord:List Nat},m.cV g ord (l++[v])=((m.cV g ord l).1++road ((aE ord (m.cV g ord l).1).idxOf v) (m.pC g (aE ord (m.cV g ord l).1) ((aE ord (m.cV g ord l).1).idxOf v)).1,(m.cV g ord l).2+(m.pC g (aE ord (m.cV g ord l).1) ((aE ord (m.cV g ord l).1).idxOf v)).2)
 | [],ord=>by simp[Rm.cV,aE]
 |u::l,ord=>by
  rw[List.cons_append,Rm.cV,Rm.cV]
  simp only
  rw[vT (l:=l)]
  simp only[jc,List.append_assoc,Nat.add_assoc]
end
end aZ
set_option maxRecDepth 100000
namespace Go.Proofs
open Go Go.Sx
open aZ
def gL(kp a b q gr sw:Nat)(la:Int)(st:Value):Array Value:=#[ptr kp,.int .i64 (a:Int),.int .i64 (b:Int),.int .i64 (q:Int),.int .i64 (gr:Int),.int .i64 (sw:Int),.int .i64 la,st]
def fi(wp:Nat)(c:Array Value):Nat×Obj:=(wp,.cells c 175 (0,0))
def ou(bx wp:Nat):Nat×Obj:=(bx,.cells #[ptr wp] 172 (0,0))
def VV(dn:Bool):Nat:=bif dn then 181 else 183
def vR(dn:Bool)(bx:Nat):Value:=.func (.func (VV dn)) #[] #[ptr bx]
def AT:Hp→Nat
 |(_,.cells c _ _)::_=>bg c.toList 1
 |_=>0
section
variable {kp wp bx a b q gr sw p:Nat} {la:Int} {st:Value} {K:Kd} {S:Nat→aZ.Fn} {ord o tr:List Nat} {C:Hp} {dn:Bool}
theorem Lx{l a':Nat}{d:Int}(h:At kp K S ord tr C)(hl:l+1<K.n)(ig:tr.length<1099511627776)(hf:gW K S ord l)(ha:(a:Int)+d=(a':Int))(hb:a'<1024)(GB:sw<4611686018427387904):
  Fc Tryz.prog 182 #[ptr wp,.int .i64 (l:Int),.int .i64 d] (fi wp (gL kp a b q gr sw la st)::C) (fun v H=>v=.int .i64 0∧∃C',H=fi wp (gL kp a' b q gr (sw+1) la st)::C'∧At kp K S (eG ord l) (tr++[l]) C'):=by
 intro g
 refine uJ (R:=aF _) ?_
 unfold L182
 refine Nil.ptr (aa.mk (Ld.mk (v:=ptr kp) (by exact .head _) rfl ?_))
 refine ag.fn (.cons .here) (sI h hl ig hf) ?_
 rintro v C' ⟨rfl,h'⟩
 intro J6 h6
 refine ae.jG (Br.gf rfl ?_)
 refine Nil.ptr (aa.mk (Ld.mk (v:=.int .i64 (sw:Int)) (by exact .head _) rfl ?_))
 refine ae.aH (b:=1) (by simp[aB];omega) ?_
 refine Nil.ptr (aa.mk (St.one (c':=gL kp a b q gr (sw+1) la st) (by exact .head _) rfl (by simp[gL]) rfl ?_))
 refine Nil.ptr (aa.mk (Ld.mk (v:=.int .i64 (a:Int)) (by exact .head _) rfl ?_))
 refine ae.wO (c:=(a':Int)) ha (by omega) ?_
 refine Nil.ptr (aa.mk (St.one (c':=gL kp a' b q gr (sw+1) la st) (by exact .head _) rfl (by simp[gL]) rfl ?_))
 exact JE.mk (h6 _ fun gs=>aF.here ⟨rfl,C',rfl,h'⟩)
theorem R4{l:Nat}{d:Int}(h:At kp K S ord tr C)(hl:l+1<K.n)(ig:tr.length<1099511627776)(hf:¬gW K S ord l):
  Rd Tryz.prog 182 #[ptr wp,.int .i64 (l:Int),.int .i64 d] (fi wp (gL kp a b q gr sw la st)::C) (· =.int .i64 9):=by
 intro g
 refine uJ (R:=aF _) ?_
 unfold L182
 refine Nil.ptr (aa.mk (Ld.mk (v:=ptr kp) (by exact .head _) rfl ?_))
 refine ag.rd (.cons .here) (oU h hl ig hf) ?_
 rintro v rfl
 intro J6 h6
 refine ae.jG (Br.cq (by decide) ?_)
 exact JE.mk (h6 _ fun gs=>bO.mk (.refl _) rfl)
theorem qv(h:At kp K S ord tr C)(QM:1≤K.n):
  Fc Tryz.prog 110 #[ptr wp,.bool dn] (fi wp (gL kp a b q gr sw la st)::C) (fun v H=>v=.tuple #[]∧∃bx,H=fi wp (gL kp a b q gr sw (bif dn then((K.n-1:Nat):Int)else 0) (vR dn bx))::ou bx wp::C):=by
 have hn:=h.uY
 intro g
 refine Fz (R:=aF _) ?_
 unfold L110
 intro b1 _
 cases dn
 ·refine Br.no ?_
  refine Ld.mk (v:=ptr wp) (by exact .head _) rfl ?_
  refine Nil.ptr (aa.mk (St.one (c':=gL kp a b q gr sw 0 st) (by exact .tail (.head _)) rfl (by simp[gL]) rfl ?_))
  refine Ld.mk (v:=ptr wp) (by exact .head _) rfl ?_
  refine Nil.ptr (aa.mk (St.one (c':=gL kp a b q gr sw 0 (vR false b1)) (by exact .tail (.head _)) rfl (by simp[gL]) rfl ?_))
  exact aF.mk .swap ⟨rfl,b1,rfl⟩
 ·refine Br.yes ?_
  refine DR.self ?_
  refine Ld.mk (v:=ptr wp) (by exact .head _) rfl ?_
  refine Ld.mk (v:=ptr wp) (by exact .head _) rfl ?_
  refine Nil.ptr (aa.mk (Ld.mk (v:=ptr kp) (by exact .tail _ (.head _)) rfl ?_))
  intro F
  refine ag.rd (.cons (.cons .here)) (lG h) ?_
  rintro v rfl
  refine⟨.refl _,?_⟩
  refine ae.bH (b:=1) (by simp[aB];omega) (by omega) ?_
  refine Nil.ptr (aa.mk fun F=>?_)
  refine St.one (c':=gL kp a b q gr sw ((K.n-1:Nat):Int) st) (by exact .tail (.head _)) rfl (by simp[gL]) rfl ?_
  refine Ld.mk (v:=ptr wp) (by exact .head _) rfl ?_
  refine Nil.ptr (aa.mk (St.one (c':=gL kp a b q gr sw ((K.n-1:Nat):Int) (vR true b1)) (by exact .tail (.head _)) rfl (by simp[gL]) rfl ?_))
  exact aF.mk .swap ⟨rfl,b1,rfl⟩
def nC(dn:Bool)(j:Nat):Nat:=bif dn then j+1 else j-1
def T3(dn:Bool)(j:Nat):Nat:=bif dn then j else j-1
theorem LR{j:Nat}(hs:bif dn then p≤j else 0<j∧j≤p):road p (nC dn j)=road p j++[T3 dn j]:=by
 cases dn
 ·simp only[cond_false]at hs
  obtain⟨i,rfl⟩:∃i,j=i+1:=⟨j-1,by omega⟩
  exact qz hs.2
 ·exact qy hs
theorem y8{j:Nat}(h:At kp K S (aE o (road p j)) (tr++road p j) C)(hp:p<K.n)(hs:bif dn then p≤j∧j+1<K.n else 0<j∧j≤p)(ig:(tr++road p j).length<1099511627776)(hf:gW K S (aE o (road p j)) (T3 dn j))(GB:sw<4611686018427387904):
  Fc Tryz.prog (VV dn) #[ptr bx] (fi wp (gL kp j b q gr sw la st)::ou bx wp::C) (fun v H=>v=.int .i64 0∧∃C',H=fi wp (gL kp (nC dn j) b q gr (sw+1) la st)::ou bx wp::C'∧At kp K S (aE o (road p (nC dn j))) (tr++road p (nC dn j)) C'):=by
 have hn:=h.uY
 have hr:=LR (p:=p) (dn:=dn) (j:=j) (by cases dn<;>simp only[cond_false,cond_true]at hs⊢ <;>omega)
 intro g
 rw[hr,dU,←List.append_assoc]
 cases dn
 ·simp only[cond_false]at hs
  refine uI (R:=aF _) ?_
  unfold L183
  refine DR.self ?_
  refine Ld.mk (v:=ptr wp) (by exact .tail _ (.head _)) rfl ?_
  refine Ld.mk (v:=ptr wp) (by exact .tail _ (.head _)) rfl ?_
  refine Nil.ptr (aa.mk (Ld.mk (v:=.int .i64 (j:Int)) (by exact .head _) rfl ?_))
  refine ae.bH (b:=1) (by simp[aB];omega) (by omega) ?_
  intro F
  refine ag.pre .swap ?_
  refine ag.fn (.cons .here) (Lx (a':=j-1) h (by omega) ig hf (by omega) (by omega) GB) ?_
  rintro v H ⟨rfl,C',rfl,h'⟩
  exact aF.mk .swap ⟨rfl,C',rfl,h'⟩
 ·simp only[cond_true]at hs
  refine uK (R:=aF _) ?_
  unfold L181
  refine DR.self ?_
  refine Ld.mk (v:=ptr wp) (by exact .tail _ (.head _)) rfl ?_
  refine Ld.mk (v:=ptr wp) (by exact .tail _ (.head _)) rfl ?_
  refine Nil.ptr (aa.mk (Ld.mk (v:=.int .i64 (j:Int)) (by exact .head _) rfl ?_))
  intro F
  refine ag.pre .swap ?_
  refine ag.fn (.cons .here) (Lx (a':=j+1) h (by omega) ig hf (by omega) (by omega) GB) ?_
  rintro v H ⟨rfl,C',rfl,h'⟩
  exact aF.mk .swap ⟨rfl,C',rfl,h'⟩
theorem PW{j:Nat}(h:At kp K S ord tr C)(hs:bif dn then j+1<K.n else 0<j∧j<K.n)(ig:tr.length<1099511627776)(hf:¬gW K S ord (T3 dn j)):
  Rd Tryz.prog (VV dn) #[ptr bx] (fi wp (gL kp j b q gr sw la st)::ou bx wp::C) (· =.int .i64 9):=by
 have hn:=h.uY
 intro g
 cases dn
 ·simp only[cond_false]at hs
  refine uI (R:=aF _) ?_
  unfold L183
  refine DR.self ?_
  refine Ld.mk (v:=ptr wp) (by exact .tail _ (.head _)) rfl ?_
  refine Ld.mk (v:=ptr wp) (by exact .tail _ (.head _)) rfl ?_
  refine Nil.ptr (aa.mk (Ld.mk (v:=.int .i64 (j:Int)) (by exact .head _) rfl ?_))
  refine ae.bH (b:=1) (by simp[aB];omega) (by omega) ?_
  intro F
  refine ag.pre .swap ?_
  refine ag.rd (.cons .here) (R4 h (by omega) ig hf) ?_
  rintro v rfl
  exact bO.mk .swap rfl
 ·simp only[cond_true]at hs
  refine uK (R:=aF _) ?_
  unfold L181
  refine DR.self ?_
  refine Ld.mk (v:=ptr wp) (by exact .tail _ (.head _)) rfl ?_
  refine Ld.mk (v:=ptr wp) (by exact .tail _ (.head _)) rfl ?_
  refine Nil.ptr (aa.mk (Ld.mk (v:=.int .i64 (j:Int)) (by exact .head _) rfl ?_))
  intro F
  refine ag.pre .swap ?_
  refine ag.rd (.cons .here) (R4 h (by omega) ig hf) ?_
  rintro v rfl
  exact bO.mk .swap rfl
theorem y7(dn:Bool):cR Tryz.prog (VV dn)=true:=by cases dn<;>kernel_rfl
theorem oC{n j:Nat}(hn:n≤64)(hp:p<n)(hj:j<n):(road p j).length≤64:=by rw[zh];omega
theorem LM(h0:At kp K S o tr C)(hp:p<K.n)(qL:100≤gr∧gr≤1000)(hb:b≤1048576)(GB:sw<1099511627776)(ig:tr.length<549755813888)(hla:la=bif dn then((K.n-1:Nat):Int)else 0){r:Nat×Nat×Nat}(hr:(rm K S).u3 gr o p dn ((rm K S).rest dn p) p b q=r):
  Fc Tryz.prog 111 #[ptr wp] (fi wp (gL kp p b q gr sw la (vR dn bx))::ou bx wp::C) (fun v H=>v=.tuple #[]∧∃C',H=fi wp (gL kp r.1 r.2.1 r.2.2 gr (sw+dst r.1 p) la (vR dn bx))::ou bx wp::C'∧At kp K S (aE o (road p r.1)) (tr++road p r.1) C'):=by
 have hn:=h0.uY
 intro g
 refine Fy (R:=aF _) ?_
 unfold L111
 refine⟨fun vs H=>∃(k j b' q':Nat) (C':Hp),vs=[]∧H=fi wp (gL kp j b' q' gr (sw+dst j p) la (vR dn bx))::ou bx wp::C'∧At kp K S (aE o (road p j)) (tr++road p j) C'∧k=(rm K S).rest dn j∧(bif dn then p≤j∧j<K.n else j≤p)∧b'≤1048576∧(rm K S).u3 gr o p dn k j b' q'=r,
  fun _ H=>bif dn then K.n-AT H else AT H,JE.mk ⟨_,p,b,q,C,rfl,by simp[dst],by rw[gS,List.append_nil];exact h0,rfl,by cases dn<;>simp[hp],hb,hr⟩,?_⟩
 rintro H ⟨k,j,b',q',C',_,rfl,hA,hk,hs,hb',r7⟩ gs
 have QO:j<K.n:=by cases dn<;>simp only[cond_false,cond_true]at hs<;>omega
 have Cu:dst j p≤64:=by unfold dst;omega
 have u5:=oC hn hp QO
 have MH:(tr++road p j).length<1099511627776:=by rw[List.length_append];omega
 have MM:(rm K S).n=K.n:=rfl
 have hsz:∀o:List Nat,(rm K S).size o=bC K S o:=fun _=>rfl
 intro J5 h5
 have fin:r=(j,b',q')→J5 [.bool false] (fi wp (gL kp j b' q' gr (sw+dst j p) la (vR dn bx))::ou bx wp::C'):=fun e=>h5 _ _ fun gs=>Br.no (aF.here ⟨rfl,C',by rw[e],by rw[e];exact hA⟩)
 refine DR.self ?_
 refine Nil.ptr (aa.mk (Ld.mk (v:=.int .i64 (j:Int)) (by exact .head _) rfl ?_))
 refine Nil.ptr (aa.mk (Ld.mk (v:=.int .i64 la) (by exact .head _) rfl ?_))
 refine ae.dX (Br.dec (fun hne=>?_) (fun heq=>?_))
 rotate_left
 ·have hk0:k=0:=by
   rw[hk];unfold Rm.rest
   cases dn<;>simp only[cond_false,cond_true]at hla⊢ <;>omega
  subst hk0
  exact JE.mk (fin r7.symm)
 have mK:bif dn then j+1<K.n else 0<j:=by
  cases dn<;>simp only[cond_false,cond_true]at hla⊢ <;>omega
 obtain⟨k',hk'⟩:∃k',k=k'+1:=by
  refine⟨k-1,?_⟩
  rw[hk];unfold Rm.rest
  cases dn<;>simp only[cond_false,cond_true]at mK⊢ <;>omega
 subst hk'
 rw[Rm.u3]at r7
 change (if(rm K S).fit (aE o (road p j)) (T3 dn j)=true then _ else _)=r at r7
 refine Nil.ptr (aa.mk (Ld.mk (v:=vR dn bx) (by exact .head _) rfl ?_))
 intro F
 refine fx.of (f:=VV dn) rfl (y7 dn) ?_
 by_cases hf:gW K S (aE o (road p j)) (T3 dn j)
 rotate_left
 ·refine ag.rd (args:=#[ptr bx]) .here (PW hA (by cases dn<;>simp only[cond_false,cond_true]at mK⊢ <;>omega) MH hf) ?_
  rintro v rfl
  refine ae.jG (aA.mk ?_)
  rw[if_neg (fun h=>hf (oD.1 h))]at r7
  exact JE.mk (fin r7.symm)
 refine ag.fn (args:=#[ptr bx]) .here (y8 hA hp (by cases dn<;>simp only[cond_false,cond_true]at mK hs⊢ <;>omega) MH hf (by omega)) ?_
 rintro v H ⟨rfl,C2,rfl,nV⟩
 refine ae.jG (aA.mk ?_)
 rw[if_pos (show(rm K S).fit (aE o (road p j)) (T3 dn j)=true from oD.2 hf)]at r7
 change (if(if(rm K S).size (aE o (road p (nC dn j)))<b' then(rm K S).size (aE o (road p (nC dn j)))else b')*gr<(rm K S).size (aE o (road p (nC dn j)))*100 then(nC dn j,if(rm K S).size (aE o (road p (nC dn j)))<b' then(rm K S).size (aE o (road p (nC dn j)))else b',if(rm K S).size (aE o (road p (nC dn j)))<b' then nC dn j else q')else(rm K S).u3 gr o p dn k' (nC dn j) (if(rm K S).size (aE o (road p (nC dn j)))<b' then(rm K S).size (aE o (road p (nC dn j)))else b') (if(rm K S).size (aE o (road p (nC dn j)))<b' then nC dn j else q'))=r at r7
 have hle:=uv nV
 rw[hsz]at r7
 have acw:sw+dst j p+1=sw+dst (nC dn j) p:=by unfold dst nC;cases dn<;>simp only[cond_false,cond_true]at mK hs⊢ <;>omega
 rw[acw]
 have hnk:k'=(rm K S).rest dn (nC dn j):=by
  unfold Rm.rest at hk⊢;unfold nC
  cases dn<;>simp only[cond_false,cond_true]at mK hk⊢ <;>omega
 have XL:bif dn then p≤nC dn j∧nC dn j<K.n else nC dn j≤p:=by
  unfold nC
  cases dn<;>simp only[cond_false,cond_true]at mK hs⊢ <;>omega
 have hms:(bif dn then K.n-nC dn j else nC dn j)<(bif dn then K.n-j else j):=by
  unfold nC
  cases dn<;>simp only[cond_false,cond_true]at mK⊢ <;>omega
 generalize hj':nC dn j=j' at*
 generalize hs':bC K S (aE o (road p j'))=s at*
 have XM:∀b2 q2,AT (fi wp (gL kp j b' q' gr (sw+dst j p) la (vR dn bx))::ou bx wp::C')=j∧∀C2,AT (fi wp (gL kp j' b2 q2 gr (sw+dst j' p) la (vR dn bx))::ou bx wp::C2)=j':=fun b2 q2=>⟨by simp[AT,fi,gL,bg],fun C2=>by simp[AT,fi,gL,bg]⟩
 refine JE.mk (h5 _ _ fun gs=>Br.yes ?_)
 refine Nil.ptr (aa.mk (Ld.mk (v:=ptr kp) (by exact .head _) rfl ?_))
 refine ag.rd (.cons (.cons .here)) (cM nV) ?_
 rintro v rfl
 rw[hs']
 intro Ki h14
 have next:∀b2 q2,b2≤1048576→(if b2*gr<s*100 then(j',b2,q2)else(rm K S).u3 gr o p dn k' j' b2 q2)=r→Ki [] (fi wp (gL kp j' b2 q2 gr (sw+dst j' p) la (vR dn bx))::ou bx wp::C2):=by
  intro b2 q2 We rK
  refine h14 _ fun gs=>?_
  have GC:b2*gr≤1048576*1000:=Nat.mul_le_mul We qL.2
  refine ae.lg (b:=100) (by simp only[aB];omega) ?_
  refine Nil.ptr (aa.mk (Ld.mk (v:=.int .i64 (b2:Int)) (by exact .head _) rfl ?_))
  refine Nil.ptr (aa.mk (Ld.mk (v:=.int .i64 (gr:Int)) (by exact .head _) rfl ?_))
  refine ae.lg (by simp only[aB];omega) ?_
  refine ae.me (Br.dec (fun hgt=>?_) (fun hgt=>?_))
  ·rw[if_pos hgt]at rK
   subst rK
   exact aF.here ⟨rfl,C2,rfl,nV⟩
  ·rw[if_neg hgt]at rK
   refine ay.mk ⟨k',j',b2,q2,C2,rfl,rfl,nV,hnk,XL,We,rK⟩ ?_
   rw[(XM b2 q2).1,(XM b2 q2).2]
   exact hms
 refine Nil.ptr (aa.mk (Ld.mk (v:=.int .i64 (b':Int)) (by exact .head _) rfl ?_))
 refine ae.dz (Br.dec (fun hlt=>?_) (fun hlt=>?_))
 ·rw[if_pos hlt,if_pos hlt]at r7
  refine Nil.ptr (aa.mk (Ld.mk (v:=.int .i64 (j':Int)) (by exact .head _) rfl ?_))
  refine Nil.ptr (aa.mk (St.one (c':=gL kp j' s q' gr (sw+dst j' p) la (vR dn bx)) (by exact .head _) rfl (by simp[gL]) rfl ?_))
  refine Nil.ptr (aa.mk (St.one (c':=gL kp j' s j' gr (sw+dst j' p) la (vR dn bx)) (by exact .head _) rfl (by simp[gL]) rfl ?_))
  exact JE.mk (next _ _ (by omega) r7)
 ·rw[if_neg hlt,if_neg hlt]at r7
  exact JE.mk (next _ _ hb' r7)
theorem xq{j t:Nat}(h:At kp K S (aE o (road p j)) (tr++road p j) C)(zY:o.length=K.n)(hp:p<K.n)(hjt:(p≤t∧t≤j∧j<K.n)∨(j≤t∧t≤p))(GB:sw<1099511627776)(ig:tr.length<549755813888):
  Fc Tryz.prog 112 #[ptr wp,.int .i64 (t:Int)] (fi wp (gL kp j b q gr sw la st)::C) (fun v H=>v=.tuple #[]∧∃C',H=fi wp (gL kp t b q gr (sw+dst j t) la st)::C'∧At kp K S (aE o (road p t)) (tr++road p t) C'):=by
 have hn:=h.uY
 intro g
 refine Fx (R:=aF _) ?_
 unfold L112
 refine⟨fun vs H=>∃(i:Nat) (C':Hp),vs=[]∧H=fi wp (gL kp i b q gr (sw+dst j i) la st)::C'∧At kp K S (aE o (road p i)) (tr++road p i) C'∧((p≤t∧t≤i∧i≤j∧j<K.n)∨(j≤i∧i≤t∧t≤p)),
  fun _ H=>dst (AT H) t,JE.mk ⟨j,C,rfl,by simp[dst],h,by omega⟩,?_⟩
 rintro H ⟨i,C',_,rfl,hA,hs⟩ gs
 have hin:i<K.n:=by omega
 have hdi:dst j i≤64:=by unfold dst;omega
 have u5:=oC hn hp hin
 have Cb:∀i sw C',AT (fi wp (gL kp i b q gr sw la st)::C')=i:=fun i sw C'=>by simp[AT,fi,gL,bg]
 refine Nil.ptr (aa.mk (Ld.mk (v:=.int .i64 (i:Int)) (by exact .head _) rfl ?_))
 refine ae.pH (Br.dec (fun hne=>?_) (fun heq=>?_))
 rotate_left
 ·obtain rfl:i=t:=by omega
  exact aF.here ⟨rfl,C',rfl,hA⟩
 refine Nil.ptr (aa.mk (Ld.mk (v:=ptr kp) (by exact .head _) rfl ?_))
 rcases hs with hs|hs
 ·obtain⟨i,rfl⟩:∃i',i=i'+1:=⟨i-1,by omega⟩
  rw[qy (by omega),dU,←List.append_assoc]at hA
  refine ag.fn (.cons .here) (yq hA (by rw[qy (by omega),List.length_append,List.length_singleton]at u5;rw[List.length_append];omega)) ?_
  rintro w C2 ⟨rfl,nV⟩
  rw[pz (by rw[dV,zY];omega)]at nV
  refine Ext.mk rfl (Ext.mk rfl ?_)
  refine Nil.ptr (aa.mk (Ld.mk (v:=.int .i64 ((sw+dst j (i+1):Nat):Int)) (by exact .head _) rfl ?_))
  refine ae.aH (b:=1) (by simp[aB];omega) ?_
  refine Nil.ptr (aa.mk (St.one (c':=gL kp (i+1) b q gr (sw+dst j (i+1)+1) la st) (by exact .head _) rfl (by simp[gL]) rfl ?_))
  refine Nil.ptr (aa.mk (Ld.mk (v:=.int .i64 ((i+1:Nat):Int)) (by exact .head _) rfl ?_))
  refine ae.dz (Br.gf (by omega) ?_)
  refine Nil.ptr (aa.mk (St.one (c':=gL kp i b q gr (sw+dst j (i+1)+1) la st) (by exact .head _) rfl (by simp[gL]) rfl ?_))
  refine ay.mk ⟨i,C2,rfl,by rw[show sw+dst j (i+1)+1=sw+dst j i by unfold dst;omega];rfl,nV,by omega⟩ ?_
  show dst (AT (fi wp (gL kp i b q gr (sw+dst j (i+1)+1) la st)::C2)) t<dst (AT (fi wp (gL kp (i+1) b q gr (sw+dst j (i+1)) la st)::C')) t
  rw[Cb,Cb];unfold dst;omega
 ·rw[qz (by omega),dU,←List.append_assoc]at hA
  refine ag.fn (.cons .here) (yq hA (by rw[qz (by omega),List.length_append,List.length_singleton]at u5;rw[List.length_append];omega)) ?_
  rintro w C2 ⟨rfl,nV⟩
  rw[pz (by rw[dV,zY];omega)]at nV
  refine Ext.mk rfl (Ext.mk rfl ?_)
  refine Nil.ptr (aa.mk (Ld.mk (v:=.int .i64 ((sw+dst j i:Nat):Int)) (by exact .head _) rfl ?_))
  refine ae.aH (b:=1) (by simp[aB];omega) ?_
  refine Nil.ptr (aa.mk (St.one (c':=gL kp i b q gr (sw+dst j i+1) la st) (by exact .head _) rfl (by simp[gL]) rfl ?_))
  refine Nil.ptr (aa.mk (Ld.mk (v:=.int .i64 (i:Int)) (by exact .head _) rfl ?_))
  refine ae.dz (Br.cq (by omega) ?_)
  refine ae.aH (b:=1) (by simp[aB];omega) ?_
  refine Nil.ptr (aa.mk (St.one (c':=gL kp (i+1) b q gr (sw+dst j i+1) la st) (by exact .head _) rfl (by simp[gL]) rfl ?_))
  refine ay.mk ⟨i+1,C2,rfl,by rw[show sw+dst j i+1=sw+dst j (i+1)by unfold dst;omega];rfl,nV,by omega⟩ ?_
  show dst (AT (fi wp (gL kp (i+1) b q gr (sw+dst j i+1) la st)::C2)) t<dst (AT (fi wp (gL kp i b q gr (sw+dst j i) la st)::C')) t
  rw[Cb,Cb];unfold dst;omega
end
end Go.Proofs
set_option maxRecDepth 100000
namespace Go.Proofs
open Go Go.Sx
open aZ
section
variable {kp v gr:Nat} {K:Kd} {S:Nat→aZ.Fn} {ord tr:List Nat} {C:Hp}
theorem s8(kp:Nat){gr:Int}(C:Hp):Rd Tryz.prog 109 #[ptr kp,.int .i64 gr] C (· =.int .i64 (if gr<100∨1000<gr then 1 else 0)):=by
 intro g
 refine FA (R:=aF _) ?_
 unfold L109
 refine ae.aJ (Br.no ?_)
 refine ae.lss ?_
 refine bM.or (decide (1000<gr)) (fun _=>ae.gtr ⟨rfl,rfl⟩) rfl fun gs=>?_
 by_cases h:gr<100∨1000<gr
 ·rw[if_pos h]
  refine Br.WE ?_ (bO.mk (.refl _) rfl)
  simpa using h
 ·rw[if_neg h]
  refine Br.no' ?_ (bO.mk (.refl _) rfl)
  simpa using h
theorem T9(hp:ord.Perm (List.range K.n)){p:Nat}(O5:p<K.n)(hv:ord.getD p 0=v):ord.idxOf v=p:=by
 have zY:ord.length=K.n:=by rw[hp.length_eq,List.length_range]
 have g8:ord.Nodup:=hp.nodup_iff.2 List.nodup_range
 have hm:v∈ord:=by
  rw[←hv,List.getD_eq_getElem?_getD,List.getElem?_eq_getElem (by omega)];exact List.getElem_mem _
 have h1:=List.idxOf_lt_length_of_mem hm
 refine getD_inj g8 h1 (by omega) ?_
 rw[hv,List.getD_eq_getElem?_getD,List.getElem?_eq_getElem h1]
 exact List.getElem_idxOf h1
theorem PZ(h:At kp K S ord tr C)(hp:ord.Perm (List.range K.n))(hv:v<K.n)(qL:100≤gr∧gr≤1000)(ig:tr.length<549755813888){r:Nat×Nat}(hr:(rm K S).pC gr ord (ord.idxOf v)=r):
  Fc Tryz.prog 45 #[ptr kp,.int .i64 (v:Int),.int .i64 (gr:Int)] C (fun w H=>w=.tuple #[rep (bC K S ord) (bC K S (aE ord (road (ord.idxOf v) r.1))) r.2,.int .i64 0]∧At kp K S (aE ord (road (ord.idxOf v) r.1)) (tr++road (ord.idxOf v) r.1) H):=by
 have hn:=h.uY
 have zY:ord.length=K.n:=by rw[hp.length_eq,List.length_range]
 have hsz:=uv h
 have MM:(rm K S).n=K.n:=rfl
 intro g
 refine JT (R:=aF _) ?_
 unfold L45
 intro b1 _
 refine ag.rd (.cons .here) (s8 kp (gr:=(gr:Int)) C) ?_
 rintro w rfl
 rw[if_neg (by omega)]
 refine ae.dX (Br.cq (by simp) ?_)
 refine ag.rd (.cons .here) (Oq h hv) ?_
 rintro w ⟨p,O5,UF,rfl⟩
 have hpi:=T9 hp O5 UF
 rw[hpi]at hr⊢
 have aiW:p<(rm K S).n:=O5
 refine Ext.mk rfl (Ext.mk rfl ?_)
 refine ae.dX (Br.cq (by simp) ?_)
 refine ag.rd (.cons .here) (cM h) ?_
 rintro w rfl
 refine Build.mk (cs:=[.int .i64 ((bC K S ord:Nat):Int),.int .i64 0,.int .i64 0,.bool false]) (by kernel_rfl) ?_
 intro wL _
 refine St.whole (r:=[.int .i64 ((bC K S ord:Nat):Int),.int .i64 0,.int .i64 0,.bool false]) (by exact .head _) rfl rfl (by simp[Value.oneCell']) ?_
 refine aa.mk (Ld.mk (v:=.int .i64 ((bC K S ord:Nat):Int)) (by exact .head _) rfl ?_)
 refine Build.mk (cs:=[ptr kp,.int .i64 (p:Int),.int .i64 ((bC K S ord:Nat):Int),.int .i64 (p:Int),.int .i64 (gr:Int),.int .i64 0,.int .i64 0,.nilFunc]) (by kernel_rfl) ?_
 intro wp _
 refine ag.rd (.cons (.cons (.cons .here))) (lG h) ?_
 rintro w rfl
 refine ae.bH (b:=1) (by simp[aB];omega) (by omega) ?_
 refine ae.bH (by simp[aB];omega) (by omega) ?_
 refine ae.zI ?_
 obtain⟨X,hX⟩:∃X:Hp,X=[(wL,Obj.cells (List.toArray [.int .i64 ((bC K S ord:Nat):Int),.int .i64 0,.int .i64 0,.bool false]) 42 (0,0)),(b1,Obj.cells #[.int .i64 0,.int .i64 0,.int .i64 0,.bool false] 42 (0,0))]:=⟨_,rfl⟩
 unfold Rm.pC at hr
 simp only[MM]at hr
 rw[show(rm K S).size ord=bC K S ord from rfl]at hr
 generalize hdn:decide (K.n-1-p≤p)=dn at*
 have aeb:∀x:Nat×Obj,aO (x::(wL,Obj.cells (List.toArray [.int .i64 ((bC K S ord:Nat):Int),.int .i64 0,.int .i64 0,.bool false]) 42 (0,0))::(b1,Obj.cells #[.int .i64 0,.int .i64 0,.int .i64 0,.bool false] 42 (0,0))::C) (X++(x::C)):=fun x=>.perm (by rw[hX];exact(List.perm_middle (l₁:=[_,_])).symm)
 refine ag.pre (aeb _) ?_
 refine ag.fn (.app .here) (qv (wp:=wp) (a:=p) (b:=bC K S ord) (q:=p) (gr:=gr) (sw:=0) (la:=0) (st:=.nilFunc) (dn:=dn) h (by omega)) ?_
 rintro w H ⟨rfl,bx,rfl⟩
 refine ag.fn (.app .here) (LM h O5 qL (by omega) (by omega) ig rfl rfl) ?_
 rintro w H ⟨rfl,C1,rfl,hA1⟩
 have Cg:=(rm K S).tC gr ord p dn ((rm K S).rest dn p) p (bC K S ord) p (fun h=>by unfold Rm.rest;rw[h];exact Nat.le_refl _) (by rw[gS];rfl)
 generalize (rm K S).u3 gr ord p dn ((rm K S).rest dn p) p (bC K S ord) p=a at*
 have rK:=(rm K S).tC gr ord p (!dn) ((rm K S).rest (!dn) p) p a.2.1 a.2.2 (fun h=>by unfold Rm.rest;rw[h];exact Nat.le_refl _) Cg.size
 obtain⟨a1,a2,a3,a4⟩:=Cg
 unfold Rm.rest at a1
 rw[MM]at a1
 have Cz:a.1<K.n∧((p≤a.1)∨(a.1≤p)):=by cases dn<;>simp only[cond_false,cond_true]at a1<;>omega
 have hab:a.2.1≤1048576:=by
  have:a.2.1≤bC K S ord:=by omega
  omega
 have Nh:dst a.1 p≤64:=by unfold dst;omega
 refine ag.pre (aO.cL (.cons .tail) X) ?_
 refine ag.fn (.app .here) (xq (t:=p) hA1 zY O5 (by omega) (by omega) ig) ?_
 rintro w H ⟨rfl,C2,rfl,nV⟩
 rw[gS,List.append_nil]at nV
 have nV:At kp K S ord tr C2:=nV
 refine Nil.ptr (aa.mk (Ld.mk (v:=.int .i64 ((a.2.2:Nat):Int)) (by exact List.mem_append_right _ (.head _)) rfl ?_))
 refine Un.not ?_
 refine ag.fn (.app .here) (qv (dn:= !dn) nV (by omega)) ?_
 rintro w H ⟨rfl,bx2,rfl⟩
 refine ag.fn (.app .here) (LM nV O5 qL hab (by omega) ig rfl rfl) ?_
 rintro w H ⟨rfl,C3,rfl,hA3⟩
 generalize (rm K S).u3 gr ord p (!dn) ((rm K S).rest (!dn) p) p a.2.1 a.2.2=b at*
 obtain⟨e1,e2,e3,e4⟩:=rK
 unfold Rm.rest at e1
 rw[MM]at e1
 have qJ:bif dn then p≤a.2.2∧a.2.2≤a.1 else a.1≤a.2.2∧a.2.2≤p:=by
  cases dn<;>simp only[cond_false,cond_true]at a3 a1⊢ <;>omega
 have hb1:b.1<K.n∧((p≤b.1)∨(b.1≤p)):=by cases dn<;>simp only[cond_false,cond_true,Bool.not_false,Bool.not_true]at e1<;>omega
 have wz:dst b.1 p≤64:=by unfold dst;omega
 intro ZA h47
 have fin:∀(bb:Nat) (BZ:Int) (st':Value) (Cf:Hp),At kp K S (aE ord (road p r.1)) (tr++road p r.1) Cf→ZA [] (X++(fi wp (gL kp r.1 bb r.1 gr r.2 BZ st')::Cf)):=by
  intro bb BZ st' Cf hAf
  rw[hX]
  refine h47 _ fun gs=>?_
  refine DR.of (R:=[fi wp (gL kp r.1 bb r.1 gr r.2 BZ st')]) (aO.Uh (.tail _ (.tail _ (.head _)))) ?_
  refine Nil.ptr (aa.mk (Ld.mk (v:=.int .i64 ((r.2:Nat):Int)) (by exact .head _) rfl ?_))
  intro F
  refine ag.rd (.cons (.cons (.cons .here))) (cM hAf) ?_
  rintro w rfl
  refine⟨aO.Uh (.tail _ (.tail _ (.head _))),?_⟩
  refine aa.mk fun F=>?_
  refine St.one (c':=#[.int .i64 ((bC K S ord:Nat):Int),.int .i64 ((bC K S (aE ord (road p r.1)):Nat):Int),.int .i64 0,.bool false]) (by exact .head _) rfl (by simp) rfl ?_
  refine⟨aO.Uh (.tail _ (.tail _ (.head _))),?_⟩
  refine aa.mk fun F=>?_
  refine St.one (c':=#[.int .i64 ((bC K S ord:Nat):Int),.int .i64 ((bC K S (aE ord (road p r.1)):Nat):Int),.int .i64 ((r.2:Nat):Int),.bool false]) (by exact .head _) rfl (by simp) rfl ?_
  refine az.whole (r:=[.int .i64 ((bC K S ord:Nat):Int),.int .i64 ((bC K S (aE ord (road p r.1)):Nat):Int),.int .i64 ((r.2:Nat):Int),.bool false]) (by exact .head _) rfl ?_
  refine St.whole (r:=[.int .i64 ((bC K S ord:Nat):Int),.int .i64 ((bC K S (aE ord (road p r.1)):Nat):Int),.int .i64 ((r.2:Nat):Int),.bool false]) (by exact .tail (.head _)) rfl rfl (by simp[Value.oneCell']) ?_
  refine az.whole (r:=[.int .i64 ((bC K S ord:Nat):Int),.int .i64 ((bC K S (aE ord (road p r.1)):Nat):Int),.int .i64 ((r.2:Nat):Int),.bool false]) (by exact .tail _ (.head _)) rfl ?_
  exact aF.mk (.skip (.skip .tail)) ⟨rfl,hAf⟩
 refine Nil.ptr (aa.mk (Ld.mk (v:=.int .i64 ((b.2.2:Nat):Int)) (by exact List.mem_append_right _ (.head _)) rfl ?_))
 refine ae.pH (Br.dec (fun hne=>?_) (fun heq=>?_))
 ·-- the other way is better
  rw[if_pos hne]at hr
  refine Nil.ptr (aa.mk (Ld.mk (v:=.int .i64 ((b.2.2:Nat):Int)) (by exact List.mem_append_right _ (.head _)) rfl ?_))
  refine ag.pre (aO.cL (.cons .tail) X) ?_
  have hbt:(p≤b.2.2∧b.2.2≤b.1∧b.1<K.n)∨(b.1≤b.2.2∧b.2.2≤p):=by
   cases dn<;>simp only[cond_false,cond_true,Bool.not_false,Bool.not_true]at e3 e1<;>omega
  refine ag.fn (.app .here) (xq (t:=b.2.2) hA3 zY O5 hbt (by omega) ig) ?_
  rintro w H ⟨rfl,C4,rfl,Vb⟩
  subst hr
  refine JE.mk ?_
  rw[Nat.zero_add]
  exact fin b.2.1 _ _ C4 Vb
 ·-- back again
  have heq:b.2.2=a.2.2:=Classical.not_not.1 heq
  rw[if_neg (fun h=>h heq)]at hr
  refine ag.pre (aO.cL (.cons .tail) X) ?_
  refine ag.fn (.app .here) (xq (t:=p) hA3 zY O5 (by omega) (by omega) ig) ?_
  rintro w H ⟨rfl,C4,rfl,Vb⟩
  rw[gS,List.append_nil]at Vb
  have Vb:At kp K S ord tr C4:=Vb
  refine ag.fn (.app .here) (qv (dn:=dn) Vb (by omega)) ?_
  rintro w H ⟨rfl,KD,rfl⟩
  obtain⟨s3,hs3⟩:∃s3,s3=0+dst a.1 p+dst a.1 p+dst b.1 p+dst b.1 p:=⟨_,rfl⟩
  rw[←hs3]
  obtain⟨Sf,acX⟩:∃Sf,Sf=(bif dn then((K.n-1:Nat):Int)else 0):=⟨_,rfl⟩
  rw[←acX]
  refine⟨fun vs H=>∃(i:Nat) (C':Hp),vs=[]∧H=fi wp (gL kp i b.2.1 b.2.2 gr (s3+dst p i) Sf (vR dn KD))::ou KD wp::(X++C')∧At kp K S (aE ord (road p i)) (tr++road p i) C'∧(bif dn then p≤i∧i≤b.2.2 else b.2.2≤i∧i≤p),
   fun _ H=>dst (AT H) b.2.2,JE.of (H':=fi wp (gL kp p b.2.1 b.2.2 gr s3 Sf (vR dn KD))::ou KD wp::(X++C4)) (.perm ?_) ⟨p,C4,rfl,by simp[dst],by rw[gS,List.append_nil];exact Vb,?_⟩,?_⟩
  ·exact(List.perm_middle (l₁:=X)).trans (List.Perm.cons _ List.perm_middle)
  ·rw[heq]
   cases dn<;>simp only[cond_false,cond_true]at qJ⊢ <;>omega
  rintro H ⟨i,C5,_,rfl,hA5,hi⟩ gs
  rw[heq]at hi
  have hin:i<K.n:=by cases dn<;>simp only[cond_false,cond_true]at hi qJ<;>omega
  have hdi:dst p i≤64:=by unfold dst;omega
  have u5:=oC hn O5 hin
  intro J83 h83
  refine DR.self ?_
  refine Nil.ptr (aa.mk (Ld.mk (v:=.int .i64 (i:Int)) (by exact .head _) rfl ?_))
  refine Nil.ptr (aa.mk (Ld.mk (v:=.int .i64 ((b.2.2:Nat):Int)) (by exact .head _) rfl ?_))
  refine ae.pH (Br.dec (fun hne=>?_) (fun hie=>?_))
  ·refine Nil.ptr (aa.mk (Ld.mk (v:=vR dn KD) (by exact .head _) rfl ?_))
   intro F
   refine fx.of (f:=VV dn) rfl (y7 dn) ?_
   have XD:aO (fi wp (gL kp i b.2.1 b.2.2 gr (s3+dst p i) Sf (vR dn KD))::ou KD wp::(X++C5)) (X++(fi wp (gL kp i b.2.1 b.2.2 gr (s3+dst p i) Sf (vR dn KD))::ou KD wp::C5)):=
    .perm ((List.perm_middle (l₁:=X)).trans (List.Perm.cons _ List.perm_middle)).symm
   refine ag.pre XD ?_
   have hstep:bif dn then p≤i∧i+1<K.n else 0<i∧i≤p:=by
    rw[heq]at hne
    cases dn<;>simp only[cond_false,cond_true]at hi qJ⊢ <;>omega
   have hfit:gW K S (aE ord (road p i)) (T3 dn i):=by
    refine oD.1 (a4 i ?_)
    rw[heq]at hne
    cases dn<;>simp only[cond_false,cond_true]at hi qJ⊢ <;>omega
   refine ag.fn (args:=#[ptr KD]) (.app .here) (y8 hA5 O5 hstep (by rw[List.length_append];omega) hfit (by omega)) ?_
   rintro w H ⟨rfl,C6,rfl,hA6⟩
   refine ae.jG (aA.mk ?_)
   have hnx:s3+dst p i+1=s3+dst p (nC dn i):=by unfold dst nC;cases dn<;>simp only[cond_false,cond_true]at hstep⊢ <;>omega
   rw[hnx]
   refine JE.of (.perm ((List.perm_middle (l₁:=X)).trans (List.Perm.cons _ List.perm_middle))) (h83 _ _ fun gs=>Br.yes ?_)
   refine ay.mk ⟨nC dn i,C6,rfl,rfl,hA6,?_⟩ ?_
   ·rw[heq]at hne⊢
    unfold nC
    cases dn<;>simp only[cond_false,cond_true]at hi hstep⊢ <;>omega
   ·have Cb:∀i sw C',AT (fi wp (gL kp i b.2.1 b.2.2 gr sw Sf (vR dn KD))::C')=i:=fun i sw C'=>by simp[AT,fi,gL,bg]
    rw[Cb,Cb,heq]
    rw[heq]at hne
    unfold nC dst
    cases dn<;>simp only[cond_false,cond_true]at hi hstep⊢ <;>omega
  ·have hie:i=b.2.2:=Classical.not_not.1 hie
   subst hie
   subst hr
   refine JE.mk (h83 _ _ fun gs=>Br.no ?_)
   refine JE.of ?_ (fin b.2.1 Sf (vR dn KD) C5 hA5)
   refine(aO.cons .tail).trans ?_
   refine(aO.perm (List.perm_middle (l₁:=X)).symm).trans ?_
   have e:s3+dst p b.2.2=dst a.1 p+dst a.1 p+dst b.1 p+(dst b.1 p+dst p b.2.2):=by omega
   rw[e]
   exact .refl _
end
end Go.Proofs
set_option maxRecDepth 100000
namespace Go.Proofs
open Go Go.Sx
theorem LF{n A:Nat}{L:List (List Nat)}(hn:n≤16)(hl:L.length<33554432){k:Nat}(hk:k≤n):(aj.st n L A k).length<2199023255551:=by
 have h2:=aj.qw n L A k
 have h3:2^k≤2^16:=Nat.pow_le_pow_right (by decide) (by omega)
 have h4:2^k*L.length≤2^16*L.length:=Nat.mul_le_mul_right _ h3
 omega
theorem NU{B:Hp}{v1 v2:Value}{a b:List Nat}(h1:Words B v1 a)(h2:Words B v2 b)(bE:a.length<2^62):Rd Tryz.prog 222 #[v1,v2] B (· =.bool (decide (a=b))):=by
 intro g
 refine D9 (R:=aF _) ?_
 unfold L222
 refine h1.1.aR (h2.1.aR ?_)
 simp only[an]
 refine ae.pH (Br.dec (fun h=>?_) (fun h=>?_))
 ·exact bO.mk (.refl _) (by rw[decide_eq_false (fun e=>h (by rw[e]))])
 ·refine h1.1.aR ?_
  simp only[an]
  have hlen:a.length=b.length:=by omega
  refine⟨fun vs H=>H=B∧∃j:Nat,vs=[.int .i64 (j:Int)]∧j≤a.length∧∀i,i<j→a[i]? =b[i]?,fun vs _=>a.length-bg vs 0,JE.mk ⟨rfl,0,rfl,by omega,by omega⟩,?_⟩
  rintro w H ⟨rfl,j,hv,hj,aK⟩ gs
  simp only[List.cons.injEq,and_true]at hv
  subst hv
  refine ae.dz (Br.dec (fun hlt=>?_) (fun hlt=>?_))
  ·have ga:a[j]? =some a[j]:=List.getElem?_eq_getElem hlt
   have gb:b[j]? =some b[j]:=List.getElem?_eq_getElem (by omega)
   refine h1.1.ld (cj ga) (fun _ h=>h) ?_
   refine h2.1.ld (cj gb) (fun _ h=>h) ?_
   refine ae.pH (Br.dec (fun hne=>?_) (fun hne=>?_))
   ·exact bO.mk (.refl _) (by rw[decide_eq_false];rintro rfl;exact hne rfl)
   ·refine ae.aH (b:=1) (by simp[aB];omega) ?_
    refine ay.mk ⟨rfl,j+1,rfl,by omega,fun i hi=>?_⟩ (by simp[bg];omega)
    by_cases e:i=j
    ·subst e;rw[ga,gb];simp;omega
    ·exact aK i (by omega)
  ·refine bO.mk (.refl _) ?_
   rw[decide_eq_true]
   apply List.ext_getElem? 
   intro i
   by_cases hi:i<a.length
   ·exact aK i (by omega)
   ·rw[List.getElem?_eq_none (by omega),List.getElem?_eq_none (by omega)]
theorem Mn{B:Hp}{v:Value}{n u A:Nat}{L:List (List Nat)}(ht:cT B v (L.map fun ws=>⟨n,ws⟩))(hf:∀ws∈L,aj.cB n ws)(hne:L≠[])(bE:L.length<4398046511104)(hA:A<2^n)(hu:u<n)(hAu:A.testBit u=false):
  Rd Tryz.prog 157 #[v,.int .u64 (A:Int),.int .i64 (u:Int)] B (· =.tuple #[.int .i64 ((aj.lvl n L A u:Nat):Int),.int .i64 0]):=by
 obtain⟨w0,oP⟩:∃w0,L[0]? =some w0:=⟨_,List.getElem?_eq_getElem (List.length_pos_iff.2 hne)⟩
 have qK:n≤16:=(hf w0 (List.mem_of_getElem? oP)).lN
 have ajy:A<65536:=Nat.lt_of_lt_of_le hA (Nat.pow_le_pow_right (n:=2) (by decide) qK)
 intro g
 refine EW (R:=aF _) ?_
 unfold L157
 refine ag.rd .here (tc ht (by simp;omega)) ?_
 rintro v rfl
 rw[decide_eq_true (zq hf)]
 refine Un.not (Br.no ?_)
 intro J hJ
 refine ht.aR ?_
 rw[List.length_map]
 have hpos:0<L.length:=List.length_pos_iff.2 hne
 refine ae.me (b:=0) (Br.gf hpos ?_)
 refine ht.Xe (i:=0) (t:=⟨n,w0⟩) (by rw[List.getElem?_map,oP];rfl) (fun _ h=>h) ?_
 refine JE.mk (hJ _ _ fun gs=>?_)
 simp only
 refine ae.lss (bM.or (decide (n≤u)) (fun _=>?_) rfl fun gs=>?_)
 ·exact ae.qP ⟨trivial,rfl⟩
 rw[show(decide ((u:Int)<0)||decide (n≤u))=false by simp;omega]
 refine bM.or (decide (A>>>n≠0)) (fun _=>?_) rfl fun gs=>?_
 ·refine ae.jU (by simp[aB];omega) ?_
  exact ae.pH (b:=0) ⟨trivial,rfl⟩
 rw[show(false||decide (A>>>n≠0))=false by rw[Nat.shiftRight_eq_div_pow,Nat.div_eq_of_lt hA];rfl]
 refine Br.no ?_
 have Xu:∀k,A>>>k<18446744073709551616:=fun k=>Nat.lt_of_le_of_lt (Nat.shiftRight_le _ _) (by omega)
 refine ae.jU (by simp[aB];omega) (ae.jr (b:=1) (by simpa[aB]using Xu u) (by decide) (ae.gz (b:=1) ?_))
 refine Br.cq (by rw[aj.sE,hAu];simp) ?_
 refine ag.fn .here (Ih ht rfl hf (by omega)) ?_
 rintro r H ⟨b,es,ck,m,N,rfl,rfl,hE,hm⟩
 have hbound:∀k,k≤n→∀m:List (List UInt8×List Nat),(m.map Prod.snd).Nodup→(∀x,x∈m.map Prod.snd↔x∈aj.st n L A k)→m.length<4611686018427387904:=by
  intro k hk m g8 hmem
  have h1:=(aj.iR g8 (aj.mr n L A k) hmem).length_eq
  have h2:=aj.qw n L A k
  have h3:2^k≤2^16:=Nat.pow_le_pow_right (by decide) (by omega)
  have h4:2^k*L.length≤2^16*L.length:=Nat.mul_le_mul_right _ h3
  rw[List.length_map]at h1
  omega
 refine⟨fun vs H=>∃(k:Nat) (b:Nat) (es:Array MapEntry) (ck:Nat) (m:List (List UInt8×List Nat)) (N:Hp),vs=[.map (some b),.int .i64 (k:Int)]∧k≤n∧H=(b,.map es ck)::(N++B)∧gw n (N++B) es ck m∧∀x,x∈m.map Prod.snd↔x∈aj.st n L A k,
  fun vs _=>n-bg vs 1,JE.mk ⟨0,b,es,ck,m,N,rfl,by omega,rfl,hE,fun x=>by rw[hm];exact aj.cX.symm⟩,?_⟩
 clear hm hE
 rintro sN jx H ⟨k,b,es,ck,m,N,hv,hk,rfl,hE,hm⟩ gs
 simp only[List.cons.injEq,and_true]at hv
 obtain⟨rfl,rfl⟩:=hv
 have CD:=hE.mono (B':=(b,Obj.map es ck)::(N++B)) zS
 refine ae.dz (Br.dec (fun hlt=>?_) (fun hlt=>?_))
 ·intro J hJ
  refine ae.jU (by simp[aB];omega) (ae.jr (b:=1) (by simpa[aB]using Xu k) (by decide) (ae.gz (b:=1) ?_))
  refine Br.dec (fun h=>?_) (fun h=>?_)
  ·have hb:=(aj.sE A k).1 h
   refine ag.fn .here (Ae (.head _) CD hlt (hbound k hk m hE.nodup hm)) ?_
   rintro r H ⟨b',es',eU,m',N',rfl,rfl,CE,hm'⟩
   refine Ext.mk rfl (Ext.mk rfl (JE.mk (hJ _ _ fun gs=>?_)))
   refine ae.aH (b:=1) (by simp[aB];omega) ?_
   refine ay.mk ⟨k+1,b',es',eU,m',N'++(b,.map es ck)::N,rfl,by omega,by rw[List.append_assoc];rfl,by rw[List.append_assoc];exact CE,fun x=>?_⟩ (by simp[bg];omega)
   rw[hm',aj.st,if_pos hb,aj.bY]
   constructor
   ·rintro⟨t,h1,h2⟩;exact⟨t,(hm t).1 h1,h2⟩
   ·rintro⟨t,h1,h2⟩;exact⟨t,(hm t).2 h1,h2⟩
  ·have hb:A.testBit k=false:=by cases hh:A.testBit k;rfl;exact absurd ((aj.sE A k).2 hh) h
   refine JE.mk (hJ _ _ fun gs=>?_)
   refine ae.aH (b:=1) (by simp[aB];omega) ?_
   refine ay.mk ⟨k+1,b,es,ck,m,N,rfl,by omega,rfl,hE,fun x=>?_⟩ (by simp[bg];omega)
   rw[hm,aj.st,hb];simp
 ·have:k=n:=by omega
  subst this
  refine ag.fn .here (Ae (.head _) CD hu (hbound k hk m hE.nodup hm)) ?_
  rintro r H ⟨b',es',eU,m',N',rfl,rfl,CE,hm'⟩
  refine Ext.mk rfl (Ext.mk rfl ?_)
  refine bO.mk ?_ ?_
  ·exact .skip (.bN (.skip .right))
  ·have:=aj.k7 (n:=k) (v:=u) (aj.iR hE.nodup (aj.mr k L A k) hm)
   unfold aj.lvl;rw[←this];rfl
theorem sX{B:Hp}{v:Value}{t:Tb}(ht:j5 B v t):Rd Tryz.prog 156 #[v] B (· =.tuple (if TF t then#[.int .u64 ((aj.ov t.n.toNat t.ws:Nat):Int),.int .i64 0]else#[.int .u64 0,.int .i64 5])):=by
 obtain⟨tn,ws⟩:=t
 obtain⟨s,rfl,hw⟩:=ht
 simp only at hw⊢
 intro g
 refine EX (R:=aF _) ?_
 unfold L156
 intro b1 _
 refine az.whole (r:=[.int .i64 tn,s]) (by exact .head _) rfl ?_
 refine eC fun b2=>?_
 refine ag.rd .here (tY (t:=⟨tn,ws⟩) (by exact .head _) (hw.mono zS)) ?_
 rintro v rfl
 refine Un.not ?_
 by_cases hT:TF ⟨tn,ws⟩
 case neg=>
  rw[decide_eq_false hT,if_neg hT]
  exact Br.yes (bO.mk (by repeat (first|exact aO.refl _|apply aO.cons|apply aO.skip|apply aO.cL|apply aO.bN)) rfl)
 rw[decide_eq_true hT,if_pos hT]
 refine Br.no ?_
 obtain⟨n,rfl⟩:∃n:Nat,tn=n:=⟨tn.toNat,by have:=hT.1;simp only at this;omega⟩
 have hf:aj.cB n ws:=by have:=hT.2;simpa using this
 refine aa.mk (Ld.mk zM rfl ?_)
 refine⟨fun vs H=>∃(k:Nat) (N:Hp),vs=[.int .u64 ((aj.kf n ws k:Nat):Int),.int .i64 (k:Int)]∧k≤n∧H=(b1,.cells (Value.cells (.agg #[.int .i64 (n:Int),s])) 57 (0,0))::(N++B),
  fun vs _=>n-bg vs 1,JE.of .tail ⟨0,[],rfl,by omega,rfl⟩,?_⟩
 rintro mi fT H ⟨k,N,hv,hk,rfl⟩ gs
 simp only[List.cons.injEq,and_true]at hv
 obtain⟨rfl,rfl⟩:=hv
 have qK:=hf.lN
 have Z9:=aj.mm n ws k
 have ais:aj.kf n ws k<65536:=Nat.lt_of_lt_of_le Z9 (Nat.pow_le_pow_right (n:=2) (by decide) (by omega:k≤16))
 refine ae.dz (Br.dec (fun hlt=>?_) (fun hlt=>?_))
 ·intro J hJ
  refine DR.self ?_
  refine az.whole (r:=[.int .i64 (n:Int),s]) (by exact .head _) rfl (az.whole (r:=[.int .i64 (n:Int),s]) (by exact .head _) rfl ?_)
  refine ag.px (B:=N++B) (.cons .here) (x6 (v:=.agg (List.toArray [.int .i64 (n:Int),s])) ⟨s,rfl,hw.mono zS⟩ hf hlt) ?_
  rintro v N1 ⟨s1,rfl,jz⟩
  refine⟨.cons .right,Bb.mk rfl ?_⟩
  refine ag.px (B:=N1++(N++B)) (.cons .here) (x6 (v:=.agg (List.toArray [.int .i64 (n:Int),s])) ⟨s,rfl,hw.mono zS⟩ hf hlt) ?_
  rintro v N2 ⟨s2,rfl,mI⟩
  refine⟨.cons (.bN .right),Bb.mk rfl ?_⟩
  refine ag.rd (B:=N2++(N1++(N++B))) (.cons .here) (NU (jz.mono zS) mI (by have:=fQ (aj.cH (v:=k) (ws:=ws) (b:=false) hf.lN);simp only;omega)) ?_
  rintro v rfl
  refine⟨.cons (.bN .right),Un.not ?_⟩
  have fm:JE J [.int .u64 ((aj.kf n ws (k+1):Nat):Int)] ((b1,.cells (Value.cells (.agg #[.int .i64 (n:Int),s])) 57 (0,0))::(N2++(N1++(N++B)))):=by
   refine JE.mk (hJ _ _ fun gs=>?_)
   refine ae.aH (b:=1) (by simp[aB];omega) ?_
   exact ay.mk ⟨k+1,N2++(N1++N),rfl,by omega,by rw[List.append_assoc,List.append_assoc]⟩ (by simp[bg];omega)
  rw[aj.kf]at fm
  by_cases hd:aj.dep n ws k=true
  ·rw[if_pos hd]at fm
   have:aj.ed n ws k false≠aj.ed n ws k true:=by simpa[aj.dep]using hd
   rw[decide_eq_false this]
   refine Br.yes ?_
   refine ae.pB (a:=1) ?_
   have h2:2^k<65536:=Nat.lt_of_lt_of_le (Nat.pow_lt_pow_right (n:=16) (by decide) (by omega)) (by decide)
   rw[Nat.one_shiftLeft,Nat.mod_eq_of_lt (by omega)]
   exact ae.Gr (by simp[aB];omega) (by simp[aB];omega) fm
  ·rw[if_neg hd]at fm
   have:aj.ed n ws k false=aj.ed n ws k true:=by simpa[aj.dep]using hd
   rw[decide_eq_true this]
   exact Br.no fm
 ·have:k=n:=by omega
  subst this
  refine bO.mk (.skip .right) ?_
  simp[aj.ov]
theorem L4{B:Hp}{v:Value}{ts:List Tb}(ht:cT B v ts)(bE:ts.length<4398046511104):Px Tryz.prog 155 #[v] B (fun r _=>∃s,r=.tuple #[s,.int .i64 (if qe ts then 0 else 5)]):=by
 intro g
 refine EY (R:=aF _) ?_
 unfold L155
 refine ag.rd .here (tc ht (by omega)) ?_
 rintro v rfl
 refine Un.not ?_
 by_cases hO:qe ts
 case neg=>rw[decide_eq_false hO,if_neg hO];exact Br.yes (oV.mk (.refl _) ⟨_,rfl⟩)
 rw[decide_eq_true hO,if_pos hO]
 refine Br.no (ht.aR (ae.gz (b:=0) (Br.dec (fun h0=>oV.mk (.refl _) ⟨_,rfl⟩) (fun h0=>?_))))
 obtain⟨n,L,qK,rfl,hne,hf⟩:=Gt hO (by intro e;rw[e]at h0;exact h0 rfl)
 rw[List.length_map]at bE
 obtain⟨w0,oP⟩:∃w0,L[0]? =some w0:=⟨_,List.getElem?_eq_getElem (List.length_pos_iff.2 hne)⟩
 refine ht.Xe (i:=0) (t:=⟨n,w0⟩) (by rw[List.getElem?_map,oP];rfl) (fun _ h=>h) ?_
 simp only
 refine cc.ints (by omega) (by omega) fun bw=>?_
 refine ht.aR ?_
 refine⟨fun vs H=>∃(k:Nat) (l:List Nat),vs=[.int .i64 (k:Int)]∧k≤L.length∧H=(bw,.cells (aC .u64 (iw l)) 50 (0,0))::B∧l.length=n∧∀w∈l,w<18446744073709551616,
  fun vs _=>L.length-bg vs 0,JE.mk ⟨0,List.replicate n 0,rfl,by omega,by simp[iw],by simp,fun w hw=>by rw[List.eq_of_mem_replicate hw];decide⟩,?_⟩
 rintro w H ⟨k,l,hv,hk,rfl,hl,SC⟩ gs
 simp only[List.cons.injEq,and_true]at hv
 subst hv
 rw[List.length_map]
 refine ae.dz (Br.dec (fun hlt=>?_) (fun hlt=>?_))
 ·have hg:(L.map fun ws=>(⟨n,ws⟩:Tb))[k]? =some ⟨n,L[k]⟩:=by rw[List.getElem?_map,List.getElem?_eq_getElem hlt];rfl
  have jF:=hf L[k] (List.getElem_mem hlt)
  refine ht.ld hg zS fun s hw=>?_
  intro b2 _
  refine St.whole (r:=[.int .i64 (n:Int),s]) (by exact .head _) rfl rfl ?_ ?_
  ·have:=aD hw;simpa[Value.oneCell']using this
  refine az.whole (r:=[.int .i64 (n:Int),s]) (by exact .head _) rfl ?_
  refine ag.rd (B:=B) (.cons (.cons .here)) (sX (v:=.agg (List.toArray [.int .i64 (n:Int),s])) (t:=⟨n,L[k]⟩) ⟨s,rfl,hw⟩) ?_
  rintro v rfl
  rw[if_pos (show TF ⟨(n:Int),L[k]⟩from⟨by simp,by simpa using jF⟩)]
  refine Ext.mk rfl (Ext.mk rfl (aG.mk ?_))
  simp only[Int.toNat_natCast]
  have Xt:aj.ov n L[k]<65536:=Nat.lt_of_lt_of_le (aj.mm n L[k] n) (Nat.pow_le_pow_right (n:=2) (by decide) qK)
  refine⟨fun vs H=>∃(j:Nat) (l:List Nat),vs=[.int .i64 (j:Int)]∧j≤n∧H=(bw,.cells (aC .u64 (iw l)) 50 (0,0))::B∧l.length=n∧∀w∈l,w<18446744073709551616,
   fun vs _=>n-bg vs 0,JE.of .tail ⟨0,l,rfl,by omega,rfl,hl,SC⟩,?_⟩
  rintro w H ⟨j,l,hv,hj,rfl,hl,SC⟩ gs
  simp only[List.cons.injEq,and_true]at hv
  subst hv
  refine ae.dz (Br.dec (fun SH=>?_) (fun SH=>?_))
  ·intro J hJ
   have fm:∀l:List Nat,l.length=n→(∀w∈l,w<18446744073709551616)→JE J [] ((bw,.cells (aC .u64 (iw l)) 50 (0,0))::B):=fun l hl SC=>by
    refine JE.mk (hJ _ fun gs=>?_)
    refine ae.aH (b:=1) (by simp[aB];omega) ?_
    exact ay.mk ⟨j+1,l,rfl,by omega,rfl,hl,SC⟩ (by simp[bg];omega)
   have hsh:aj.ov n L[k]>>>j<65536:=Nat.lt_of_le_of_lt (Nat.shiftRight_le _ _) Xt
   refine ae.jU (by simp[aB];omega) (ae.jr (b:=1) (by simp[aB];omega) (by decide) (ae.gz (b:=1) ?_))
   refine Br.dec (fun h=>?_) (fun h=>fm l hl SC)
   refine DR.self ?_
   have hgj:l[j]? =some l[j]:=List.getElem?_eq_getElem (by omega)
   have hlj:=SC _ (List.getElem_mem (show j<l.length by omega))
   refine ah.nat SH ?_
   refine Ld.mk (v:=.int .u64 (l[j]:Int)) (by exact .head _) (by simp[aC,iw,hgj]) ?_
   refine ae.pB (a:=1) ?_
   have h2:2^j<65536:=Nat.lt_of_lt_of_le (Nat.pow_lt_pow_right (n:=16) (by decide) (by omega)) (by decide)
   rw[Nat.one_shiftLeft,Nat.mod_eq_of_lt (by omega)]
   refine ae.AJ (by simp[aB];omega) (by simp[aB];omega) ?_
   have h3:=jS (aj.ov n L[k]) (2^j)
   refine ae.Gr (by simp only[aB];exact hlj) (by simp only[aB];omega) ?_
   refine ah.nat SH ?_
   refine St.ints (l:=iw l) (by exact .head _) (by simp;omega) ?_
   have e:(iw l).set j ((l[j]|||lH (aj.ov n L[k]) (2^j):Nat):Int)=iw (l.set j (l[j]|||lH (aj.ov n L[k]) (2^j))):=by simp[iw,List.map_set]
   rw[e]
   refine fm _ (by simp[hl]) fun w hw=>?_
   rcases List.mem_or_eq_of_mem_set hw with hw|rfl
   ·exact SC w hw
   ·exact Nat.or_lt_two_pow (n:=64) hlj (by omega)
  ·refine ae.aH (b:=1) (by simp[aB];omega) ?_
   exact ay.mk ⟨k+1,l,rfl,by omega,rfl,hl,SC⟩ (by simp[bg];omega)
 ·exact oV.mk (by repeat (first|exact aV.refl _|apply aV.cons|apply aV.app)) ⟨_,rfl⟩
end Go.Proofs
namespace aj
open Go.Sx
def gn:List Nat→Nat
 | []=>0
 |x::r=>r.foldl min x
theorem pZ:∀(r:List Nat) (x:Nat),r.foldl min x≤x∧∀y∈r,r.foldl min x≤y
 | [],x=>⟨Nat.le_refl _,by simp⟩
 |z::r,x=>by
  obtain⟨h1,h2⟩:=pZ r (min x z)
  refine⟨by rw[List.foldl_cons];omega,fun y hy=>?_⟩
  rw[List.foldl_cons]
  rcases List.mem_cons.1 hy with rfl|hy
  ·omega
  ·exact h2 y hy
theorem oc:∀(r:List Nat) (x:Nat),r.foldl min x=x∨r.foldl min x∈r
 | [],x=>.inl rfl
 |z::r,x=>by
  rw[List.foldl_cons]
  rcases oc r (min x z)with h|h
  ·rw[h]
   rcases Nat.le_total x z with h'|h'
   ·left;omega
   ·right;rw[Nat.min_eq_right h'];simp
  ·right;exact List.mem_cons_of_mem _ h
theorem zC{l:List Nat}{y:Nat}(h:y∈l):gn l≤y:=by
 cases l with
 |nil=>simp at h
 |cons x r=>
  obtain⟨h1,h2⟩:=pZ r x
  rcases List.mem_cons.1 h with rfl|h
  ·exact h1
  ·exact h2 y h
theorem nF{l:List Nat}(h:l≠[]):gn l∈l:=by
 cases l with
 |nil=>exact absurd rfl h
 |cons x r=>
  rcases oc r x with h|h
  ·show r.foldl min x∈_;rw[h];simp
  ·exact List.mem_cons_of_mem _ h
theorem zD{l:List Nat}{m:Nat}(h1:m∈l)(h2:∀y∈l,m≤y):gn l=m:=
 Nat.le_antisymm (zC h1) (h2 _ (nF (by intro e;rw[e]at h1;simp at h1)))
theorem BQ(l:List Nat)(x:Nat):gn (l++[x])=if l=[]then x else min (gn l) x:=by
 cases l with
 |nil=>rfl
 |cons y r=>simp[gn,List.foldl_append]
def cg(n a:Nat):List Nat:=(List.range n).filter fun v=> !a.testBit v
def has(n a:Nat):List Nat:=(List.range n).filter fun v=>a.testBit v
theorem cN{n a v:Nat}:v∈cg n a↔v<n∧a.testBit v=false:=by simp[cg]
theorem pK{n a v:Nat}:v∈has n a↔v<n∧a.testBit v=true:=by simp[has]
theorem mO{α:Type}(p q:α→Bool)(x:α):∀(l:List α),l.Nodup→x∈l→p x=true→q x=false→(∀y∈l,y≠x→q y=p y)→(l.filter q).length+1=(l.filter p).length
 | [],_,h,_,_,_=>by simp at h
 |y::l,nd,h,hp,hq,aK=>by
  rw[List.nodup_cons]at nd
  by_cases e:y=x
  ·subst e
   have hsame:l.filter q=l.filter p:=by
    apply List.filter_congr
    intro z hz
    exact aK z (by simp[hz]) (fun e=>nd.1 (e▸hz))
   rw[List.filter_cons,List.filter_cons,hp,hq,hsame];simp
  ·have hxl:x∈l:=by rcases List.mem_cons.1 h with h|h;exact absurd h.symm e;exact h
   have ih:=mO p q x l nd.2 hxl hp hq fun z hz hne=>aK z (by simp[hz]) hne
   have hy:=aK y (by simp) e
   rw[List.filter_cons,List.filter_cons,hy]
   cases p y
   ·simpa using ih
   ·simp only[if_true,List.length_cons];omega
theorem pD{a u v:Nat}(h:v≠u):(aI a u true).testBit v=a.testBit v:=by rw[au,if_neg h]
theorem gD{n a v:Nat}(h:v∈cg n a):(cg n (aI a v true)).length+1=(cg n a).length:=by
 obtain⟨h1,h2⟩:=cN.1 h
 refine mO _ _ v (List.range n) List.nodup_range (List.mem_range.2 h1) (by simp[h2]) (by simp[au]) fun y hy hne=>?_
 rw[pD hne]
def Ol(n:Nat)(c:Nat→Nat→Nat):Nat→Nat→Nat
 |0,_=>0
 |f+1,a=>gn ((cg n a).map fun v=>c a v+Ol n c f (aI a v true))
def par(n:Nat)(c:Nat→Nat→Nat):Nat→Nat→Nat
 |0,_=>0
 |f+1,s=>gn ((has n s).map fun v=>c (aI s v false) v+par n c f (aI s v false))
theorem AE{n:Nat}{c:Nat→Nat→Nat}:∀(f:Nat) (a:Nat),(cg n a).length≤f→Ol n c (f+1) a=Ol n c f a
 |0,a,h=>by
  have:cg n a=[]:=List.length_eq_zero_iff.1 (by omega)
  simp[Ol,this,gn]
 |f+1,a,h=>by
  rw[Ol,Ol]
  congr 1
  apply List.map_congr_left
  intro v hv
  rw[AE f _ (by have:=gD hv;omega)]
theorem Qf(n a:Nat):(cg n a).length≤n:=by have:=List.length_filter_le (fun v=> !a.testBit v) (List.range n);simpa[cg]using this
def B(n:Nat)(c:Nat→Nat→Nat)(a:Nat):Nat:=Ol n c n a
def W(n:Nat)(c:Nat→Nat→Nat)(s:Nat):Nat:=par n c n s
theorem FV(n:Nat)(c:Nat→Nat→Nat)(a:Nat):B n c a=gn ((cg n a).map fun v=>c a v+B n c (aI a v true)):=by
 unfold B
 rw[←AE n a (Qf n a)]
 rfl
theorem ZR{n:Nat}{c:Nat→Nat→Nat}{a v:Nat}(hv:v∈cg n a):B n c a≤c a v+B n c (aI a v true):=by
 rw[FV n c a];exact zC (List.mem_map.2 ⟨v,hv,rfl⟩)
theorem ZS{n:Nat}{c:Nat→Nat→Nat}{a:Nat}(h:cg n a≠[]):∃v∈cg n a,B n c a=c a v+B n c (aI a v true):=by
 have:=nF (l:=(cg n a).map fun v=>c a v+B n c (aI a v true)) (by simpa using h)
 rw[←FV]at this
 obtain⟨v,hv,e⟩:=List.mem_map.1 this
 exact⟨v,hv,e.symm⟩
theorem Hf{n:Nat}{c:Nat→Nat→Nat}{a:Nat}(h:cg n a=[]):B n c a=0:=by rw[FV,h];rfl
structure Used(n:Nat)(c:Nat→Nat→Nat)(U:Nat):Prop where
 zero:∀a v,v<n→a.testBit v=false→U.testBit v=false→c a v=0
 mask:∀a v,v<n→a.testBit v=false→c a v=c (a&&&U) v
theorem mX{a U v:Nat}{b:Bool}:(aI a v b) &&&U=if U.testBit v then aI (a&&&U) v b else a&&&U:=by
 apply Nat.eq_of_testBit_eq;intro k
 by_cases hU:U.testBit v=true
 ·rw[if_pos hU,Nat.testBit_and,au,au,Nat.testBit_and]
  by_cases e:k=v
  ·subst e;simp[hU]
  ·simp[e]
 ·rw[if_neg hU,Nat.testBit_and,au,Nat.testBit_and]
  by_cases e:k=v
  ·subst e;simp[hU]
  ·simp[e]
def dw(n U a:Nat):List Nat:=(cg n a).filter fun v=>U.testBit v
theorem fk{n U a v:Nat}:v∈dw n U a↔v<n∧a.testBit v=false∧U.testBit v=true:=by simp[dw,cN,and_assoc]
theorem kq(n U a:Nat):dw n U (a&&&U)=dw n U a:=by
 unfold dw cg
 rw[List.filter_filter,List.filter_filter]
 apply List.filter_congr
 intro v _
 rw[Nat.testBit_and]
 cases a.testBit v<;>cases U.testBit v<;>rfl
theorem FU{n U:Nat}{c:Nat→Nat→Nat}(hU:Used n c U):∀(d a:Nat),(cg n a).length=d→B n c a=gn ((dw n U a).map fun v=>c (a&&&U) v+B n c (aI a v true))∧∀a',(cg n a').length≤d→a'&&&U=a&&&U→B n c a'=B n c a:=by
 intro d
 induction d using Nat.strongRecOn with
 |_ d ih=>
  have key:∀a,(cg n a).length=d→B n c a=gn ((dw n U a).map fun v=>c (a&&&U) v+B n c (aI a v true)):=by
   intro a hd
   by_cases hm:cg n a=[]
   ·have h1:dw n U a=[]:=by unfold dw;rw[hm];rfl
    rw[h1,Hf hm];rfl
   ·have hle:∀v∈dw n U a,B n c a≤c (a&&&U) v+B n c (aI a v true):=fun v hv=>by
     obtain⟨h1,h2,h3⟩:=fk.1 hv
     rw[←hU.mask a v h1 h2];exact ZR (cN.2 ⟨h1,h2⟩)
    obtain⟨v,hv,he⟩:=ZS (c:=c) hm
    obtain⟨h1,h2⟩:=cN.1 hv
    by_cases hu:U.testBit v=true
    ·symm
     refine zD (List.mem_map.2 ⟨v,fk.2 ⟨h1,h2,hu⟩,by rw[←hU.mask a v h1 h2];exact he.symm⟩) fun y hy=>?_
     obtain⟨w,hw,rfl⟩:=List.mem_map.1 hy
     exact hle w hw
    ·have xS:U.testBit v=false:=by simpa using hu
     rw[hU.zero a v h1 h2 xS,Nat.zero_add]at he
     have hlt:(cg n (aI a v true)).length<d:=by have:=gD hv;omega
     have hand:aI a v true&&&U=a&&&U:=by rw[mX,if_neg hu]
     obtain⟨k1,k2⟩:=ih _ hlt (aI a v true) rfl
     have SB:dw n U (aI a v true)=dw n U a:=by rw[←kq,hand,kq]
     by_cases Ce:dw n U a=[]
     ·rw[SB,Ce]at k1
      rw[he,k1,Ce];rfl
     ·symm
      rw[SB,hand]at k1
      have hmem:=nF (l:=(dw n U a).map fun w=>c (a&&&U) w+B n c (aI (aI a v true) w true)) (by simpa using Ce)
      rw[←k1]at hmem
      obtain⟨w,hw,hwe⟩:=List.mem_map.1 hmem
      obtain⟨w1,w2,w3⟩:=fk.1 hw
      have hwv:w≠v:=fun e=>by rw[e]at w3;rw[xS]at w3;cases w3
      have SN:aI (aI a v true) w true=aI (aI a w true) v true:=by
       apply Nat.eq_of_testBit_eq;intro k
       rw[au,au,au,au]
       by_cases e1:k=w<;>by_cases e2:k=v<;>simp[e1,e2]
      have hmw:w∈cg n a:=cN.2 ⟨w1,w2⟩
      have hsub:B n c (aI (aI a v true) w true)=B n c (aI a w true):=by
       have dF:(cg n (aI a w true)).length<d:=by have:=gD hmw;omega
       refine(ih _ dF (aI a w true) rfl).2 _ ?_ ?_
       ·have hvm:v∈cg n (aI a w true):=cN.2 ⟨h1,by rw[au,if_neg (Ne.symm hwv)];exact h2⟩
        have:=gD hvm
        rw[SN];omega
       ·rw[SN,mX,if_neg hu]
      have hval:c (a&&&U) w+B n c (aI a w true)=B n c a:=by rw[he,←hwe,hsub]
      refine zD (List.mem_map.2 ⟨w,hw,hval⟩) fun y hy=>?_
      obtain⟨z,hz,rfl⟩:=List.mem_map.1 hy
      exact hle z hz
  intro a hd
  refine⟨key a hd,fun a' ej hand=>?_⟩
  have SB:dw n U a'=dw n U a:=by rw[←kq,hand,kq]
  have h':B n c a'=gn ((dw n U a').map fun v=>c (a'&&&U) v+B n c (aI a' v true)):=by
   rcases Nat.lt_or_ge (cg n a').length d with h|h
   ·exact(ih _ h a' rfl).1
   ·exact key a' (by omega)
  rw[h',key a hd,SB,hand]
  congr 1
  apply List.map_congr_left
  intro v hv
  congr 1
  obtain⟨v1,v2,v3⟩:=fk.1 hv
  have hma:v∈cg n a:=cN.2 ⟨v1,v2⟩
  have acQ:v∈cg n a':=by
   rw[←SB]at hv
   exact cN.2 ⟨v1,(fk.1 hv).2.1⟩
  have hlt:(cg n (aI a v true)).length<d:=by have:=gD hma;omega
  refine(ih _ hlt (aI a v true) rfl).2 _ ?_ ?_
  ·have:=gD acQ;have:=gD hma;omega
  ·rw[mX,mX,hand]
theorem Tm{n U:Nat}{c:Nat→Nat→Nat}(hU:Used n c U)(a:Nat):B n c (a&&&U)=B n c a:=by
 have e:(a&&&U) &&&U=a&&&U:=by rw[Nat.and_assoc,Nat.and_self]
 rcases Nat.le_total (cg n (a&&&U)).length (cg n a).length with h|h
 ·exact(FU hU _ a rfl).2 _ h e
 ·exact((FU hU _ (a&&&U) rfl).2 a h e.symm).symm
theorem ZQ{n U:Nat}{c:Nat→Nat→Nat}(hU:Used n c U)(a:Nat):B n c a=gn ((dw n U a).map fun v=>c (a&&&U) v+B n c (aI (a&&&U) v true)):=by
 rw[(FU hU _ a rfl).1]
 congr 1
 apply List.map_congr_left
 intro v hv
 obtain⟨v1,v2,v3⟩:=fk.1 hv
 congr 1
 rw[←Tm hU (aI a v true),mX,if_pos v3]
def ord(n:Nat)(c:Nat→Nat→Nat):Nat→Nat→List Nat
 |0,_=>[]
 |f+1,a=>match(cg n a).find? fun v=>c a v+B n c (aI a v true)==B n c a with
  |some v=>v::ord n c f (aI a v true)
  |none=>[]
theorem tt{n:Nat}{c:Nat→Nat→Nat}{f a:Nat}(h:cg n a≠[]):∃v,v∈cg n a∧c a v+B n c (aI a v true)=B n c a∧(∀u∈cg n a,u<v→c a u+B n c (aI a u true)≠B n c a)∧ord n c (f+1) a=v::ord n c f (aI a v true):=by
 obtain⟨w,hw,he⟩:=ZS (c:=c) h
 cases hf:(cg n a).find? fun v=>c a v+B n c (aI a v true)==B n c a with
 |none=>
  rw[List.find?_eq_none]at hf
  exact absurd (by simpa using he.symm) (hf w hw)
 |some v=>
  have h1:=List.find?_some hf
  refine⟨v,List.mem_of_find?_eq_some hf,by simpa using h1,fun u hu huv=>?_,by rw[ord,hf]⟩
  rw[List.find?_eq_some_iff_append]at hf
  obtain⟨_,as1,bs,hab,hno⟩:=hf
  have hs:(cg n a).Pairwise (· < ·):=List.Pairwise.filter _ List.pairwise_lt_range
  rw[hab]at hs hu
  rcases List.mem_append.1 hu with hu|hu
  ·have:=hno u hu;simpa using this
  ·rw[List.pairwise_append]at hs
   have h2:=hs.2.1
   rw[List.pairwise_cons]at h2
   rcases List.mem_cons.1 hu with rfl|hu
   ·omega
   ·have:=h2.1 u hu;omega
end aj
namespace aj
open Go.Sx
theorem eI{x u v:Nat}{b c:Bool}(h:u≠v):aI (aI x u b) v c=aI (aI x v c) u b:=by
 apply Nat.eq_of_testBit_eq;intro k
 rw[au,au,au,au]
 by_cases e1:k=u<;>by_cases e2:k=v
 ·exact absurd (e1.symm.trans e2) h
 ·simp[e1,h]
 ·simp[e2,Ne.symm h]
 ·simp[e1,e2]
theorem Rv{n u v:Nat}{ws:List Nat}{b:Bool}(hf:cB n ws)(hu:u<n)(hv:v<n)(h:dep n ws v=false):dep n (ed n ws u b) v=false:=by
 by_cases e:u=v
 ·subst e
  cases hd:dep n (ed n ws u b) u
  ·rfl
  ·obtain⟨x,hx,hne⟩:=(sD (cH hf.lN) hu).1 hd
   rw[eV hf hu (fj hx hu),eV hf hu (fj hx hu)]at hne
   refine absurd ?_ hne
   congr 1
   apply Nat.eq_of_testBit_eq;intro k
   rw[au,au,au,au]
   by_cases e:k=u<;>simp[e]
 ·cases hd:dep n (ed n ws u b) v
  ·rfl
  ·obtain⟨x,hx,hne⟩:=(sD (cH hf.lN) hv).1 hd
   rw[eV hf hu (fj hx hv),eV hf hu (fj hx hv),eI (Ne.symm e),eI (Ne.symm e)]at hne
   have:=(sD hf hv).2 ⟨aI x u b,fj hx hu,hne⟩
   rw[h]at this;cases this
theorem xA{n:Nat}{L:Fs}{A:Nat}(hL:∀t∈L,cB n t)(hn:n≤16){v:Nat}(hv:v<n)(h:∀t∈L,dep n t v=false):∀k,k≤n→∀t∈st n L A k,dep n t v=false
 |0,_,t,ht=>h t (cX.1 ht)
 |k+1,hk,t,ht=>by
  rw[st]at ht
  split at ht
  ·obtain⟨u,hu,b,rfl⟩:=bY.1 ht
   exact Rv (BD hL hn k u hu) (by omega) hv (xA hL hn hv h k (by omega) u hu)
  ·exact xA hL hn hv h k (by omega) t ht
def aX(n:Nat)(L:Fs):Nat:=L.foldl (fun u t=>u|||ov n t) 0
theorem n5(n v:Nat):∀(L:Fs) (u:Nat),(L.foldl (fun u t=>u|||ov n t) u).testBit v=(u.testBit v||L.any fun t=>(ov n t).testBit v)
 | [],u=>by simp
 |t::L,u=>by rw[List.foldl_cons,n5 n v L,Nat.testBit_or,List.any_cons,Bool.or_assoc]
theorem xx{n v:Nat}{L:Fs}:(aX n L).testBit v=L.any fun t=>(ov n t).testBit v:=by
 unfold aX;rw[n5];simp
theorem sP{n v:Nat}{L:Fs}(hv:v<n)(h:(aX n L).testBit v=false):∀t∈L,dep n t v=false:=by
 rw[xx,List.any_eq_false]at h
 intro t ht
 have:=h t ht
 rw[ov,g7]at this
 simpa[hv]using this
theorem Ah(n:Nat):∀(L:Fs) (u:Nat),u<2^n→L.foldl (fun u t=>u|||ov n t) u<2^n
 | [],u,h=>h
 |t::L,u,h=>Ah n L _ (Nat.or_lt_two_pow h (mm n t n))
theorem sQ(n:Nat)(L:Fs):aX n L<2^n:=Ah n L 0 (Nat.two_pow_pos n)
theorem Gg{n:Nat}{L:Fs}{A:Nat}(hL:∀t∈L,cB n t)(hn:n≤16):∀k,k≤n→∀x,x∈st n L A k↔x∈st n L (A&&&aX n L) k
 |0,_,x=>Iff.rfl
 |k+1,hk,x=>by
  have ih:=Gg (A:=A) hL hn k (by omega)
  rw[st,st,Nat.testBit_and]
  cases hA:A.testBit k
  ·simpa using ih x
  ·cases hU:(aX n L).testBit k
   ·simp only[if_true,Bool.and_false,Bool.false_eq_true,if_false]
    rw[bY,←ih x]
    have hd:=xA (A:=A) hL hn (v:=k) (by omega) (sP (by omega) hU) k (by omega)
    have hf:=BD (A:=A) hL hn k
    constructor
    ·rintro⟨t,ht,b,rfl⟩
     rw[mR (hf t ht) (by omega) (hd t ht)];exact ht
    ·intro hx
     exact⟨x,hx,false,(mR (hf x hx) (by omega) (hd x hx)).symm⟩
   ·simp only[Bool.and_true,if_true]
    rw[bY,bY]
    constructor
    ·rintro⟨t,ht,h⟩;exact⟨t,(ih t).1 ht,h⟩
    ·rintro⟨t,ht,h⟩;exact⟨t,(ih t).2 ht,h⟩
theorem F5{n:Nat}{L:Fs}(hL:∀t∈L,cB n t)(hn:n≤16):Used n (lvl n L) (aX n L):=by
 refine⟨fun a v hv _ hU=>?_,fun a v hv _=>?_⟩
 ·unfold lvl nodes
  rw[List.length_eq_zero_iff,List.filter_eq_nil_iff]
  intro t ht
  rw[xA hL hn hv (sP hv hU) n (Nat.le_refl _) t ht];simp
 ·exact k7 (iR (mr n L a n) (mr n L _ n) (Gg hL hn n (Nat.le_refl _)))
end aj
set_option maxRecDepth 100000
namespace Go.Proofs
open Go Go.Sx
def kp(x:Nat×Nat):Value:=.agg (aC .i64 [(x.1:Int),(x.2:Int)])
def ki(x:Nat):Value:=.int .i64 (x:Int)
theorem B4(a b:Nat):Instr.sameNow (.int .i64) (ki a) (ki b)=some (decide (a=b)):=by
 simp only[Instr.sameNow,ki,if_true,Option.some.injEq]
 rw[Bool.eq_iff_iff];simp;omega
theorem Qt(a:Nat):Instr.sameBits 10000 (ki a) (ki a)=true:=by simp[Instr.sameBits,ki]
theorem Ms(a b:Nat×Nat):FO Tryz.prog 226 (kp a) (kp b) (decide (a=b)):=by
 have:=FO.array (P:=Tryz.prog) (t:=226) (e:=3) (q:=.i64) (n:=2) (by kernel_rfl) (by kernel_rfl) (by kernel_rfl) [(a.1:Int),(a.2:Int)] [(b.1:Int),(b.2:Int)] rfl rfl
 have e:decide ([(a.1:Int),(a.2:Int)]=[(b.1:Int),(b.2:Int)])=decide (a=b):=by
  rw[decide_eq_decide]
  obtain⟨a1,a2⟩:=a;obtain⟨b1,b2⟩:=b
  simp;omega
 rw[e]at this;exact this
theorem B1(a:Nat×Nat):nX Tryz.prog 226 (kp a):=nX.array (P:=Tryz.prog) (t:=226) (e:=3) (q:=.i64) (n:=2) (by kernel_rfl) (by kernel_rfl) (by kernel_rfl) _ rfl
theorem vj(n:Nat)(q:IntKind)(l:List Int):Instr.sameBits (n+1+1) (.agg (aC q l)) (.agg (aC q l))=true:=by
 simp only[Instr.sameBits,aC,beq_self_eq_true,Bool.true_and,List.all_eq_true]
 intro x hx
 obtain⟨a,b⟩:=x
 have h:=List.of_mem_zip hx
 have e:a=b:=by
  rw[List.zip_eq_zip_take_min]at hx
  obtain⟨i,hi,he⟩:=List.mem_iff_getElem.1 hx
  simp at he
  exact he.1.symm.trans he.2
 subst e
 have:=h.1
 simp only[List.toList_toArray,List.mem_map]at this
 obtain⟨y,_,rfl⟩:=this
 simp[Instr.sameBits]
theorem Qq(a:Nat×Nat):Instr.sameBits 10000 (kp a) (kp a)=true:=vj 9998 _ _
abbrev ZU(v:Value)(x:Nat):Prop:=v=.int .i64 (x:Int)
structure G1(n:Nat)(L:List (List Nat))(rQ:Array MapEntry)(qa:Nat)(qm:Array MapEntry)(rT:Nat):Prop where
 ax:∃m,bu kp ZU rQ qa m∧∀x∈m,x.2=aj.lvl n L x.1.1 x.1.2
 dow:∃m,bu ki ZU qm rT m∧∀x∈m,x.2=aj.B n (aj.lvl n L) x.1
def lQ(bp bl bd:Nat)(uZ:Value)(n:Nat)(L:List (List Nat))(U:Nat)(B H:Hp):Prop:=
 ∃rQ qa qm rT,H=(bp,.cells #[uZ,.int .i64 (n:Int),.int .i64 (U:Int),.map (some bl),.map (some bd)] 137 (0,0))::(bl,.map rQ qa)::(bd,.map qm rT)::B∧G1 n L rQ qa qm rT
theorem zB{κ:Type}[DecidableEq κ]{f:κ→Nat}{m:List (κ×Nat)}{k:κ}(h:∀x∈m,x.2=f x.1):∀x∈gU m k (f k),x.2=f x.1:=by
 intro x hx
 unfold gU at hx
 split at hx
 ·obtain⟨y,hy,rfl⟩:=List.mem_map.1 hx
  split
  ·rfl
  ·exact h y hy
 ·rcases List.mem_append.1 hx with hx|hx
  ·exact h x hx
  ·simp at hx;subst hx;rfl
theorem zE{κ:Type}[DecidableEq κ]{f:κ→Nat}{m:List (κ×Nat)}{k:κ}{x:Nat}(h:∀x∈m,x.2=f x.1)(hk:er m k=some x):x=f k:=by
 unfold er at hk
 obtain⟨y,hy,rfl⟩:=Option.map_eq_some_iff.1 hk
 have h1:=List.find?_some hy
 have h2:=h y (List.mem_of_find?_eq_some hy)
 simp only[decide_eq_true_eq]at h1
 rw[h2,h1]
structure uC(uZ:Value)(n:Nat)(L:List (List Nat))(B:Hp):Prop where
 tb:cT B uZ (gy n L)
 kR:∀ws∈L,aj.cB n ws
 ne:L≠[]
 small:L.length<33554432
 ZZ:n≤12
theorem BV{uZ:Value}{n:Nat}{L:List (List Nat)}{B:Hp}(h:uC uZ n L B)(a v:Nat):aj.lvl n L a v<2199023255551:=by
 have h1:aj.lvl n L a v≤(aj.st n L a n).length:=List.length_filter_le _ _
 have h2:=LF (n:=n) (A:=a) (L:=L) (by have:=h.ZZ;omega) h.small (Nat.le_refl n)
 omega
theorem zx{uZ:Value}{n:Nat}{L:List (List Nat)}{B:Hp}(h:uC uZ n L B){bp bl bd a v:Nat}{H:Hp}(hp:lQ bp bl bd uZ n L (aj.aX n L) B H)(ha:a<2^n)(hv:v<n)(hav:a.testBit v=false):
  Fc Tryz.prog 73 #[.pointer (some ⟨bp,0,none⟩),.int .i64 (a:Int),.int .i64 (v:Int)] H (fun r H'=>r=.int .i64 ((aj.lvl n L a v:Nat):Int)∧lQ bp bl bd uZ n L (aj.aX n L) B H'):=by
 obtain⟨rQ,qa,qm,rT,rfl,hM⟩:=hp
 have hU:=aj.sQ n L
 have z4:=h.ZZ
 have lA:2^n≤2^12:=Nat.pow_le_pow_right (by decide) z4
 have z9:=aj.F5 h.kR (by omega)
 have hsU:aj.aX n L>>>v≤aj.aX n L:=Nat.shiftRight_le _ _
 intro g
 refine JC (R:=aF _) ?_
 unfold L73
 refine Nil.ptr ?_
 refine aa.mk (Ld.mk zM rfl ?_)
 refine ae.jU (by simp[aB];omega) (ae.jr (b:=1) (by simp[aB];omega) (by decide) (ae.gz (b:=0) ?_))
 have tP:aj.aX n L>>>v&&&1=0↔(aj.aX n L).testBit v=false:=by
  rw[aj.e9,Nat.testBit_shiftRight,Nat.add_zero];cases (aj.aX n L).testBit v<;>simp
 refine Br.dec (fun h0=>?_) (fun h0=>?_)
 ·refine aF.here ⟨?_,rQ,qa,qm,rT,rfl,hM⟩
  rw[z9.zero a v hv hav (tP.1 h0)];rfl
 have hUv:(aj.aX n L).testBit v=true:=by cases hh:(aj.aX n L).testBit v;exact absurd (tP.2 hh) h0;rfl
 refine Nil.ptr ?_
 refine aa.mk (Ld.mk zM rfl ?_)
 refine ae.jr (by simp[aB];omega) (by simp[aB];omega) ?_
 have hlv:aj.lvl n L a v=aj.lvl n L (a&&&aj.aX n L) v:=z9.mask a v hv hav
 have SU:(a&&&aj.aX n L).testBit v=false:=by rw[Nat.testBit_and,hav];rfl
 have Wf:a&&&aj.aX n L<2^n:=Nat.lt_of_le_of_lt Nat.and_le_left ha
 rw[hlv]
 obtain⟨a',ew⟩:∃a',a'=a&&&aj.aX n L:=⟨_,rfl⟩
 rw[←ew]at SU Wf⊢
 refine Build.two (q:=.i64) (e:=3) (by kernel_rfl) (by kernel_rfl) (by kernel_rfl) ?_
 rw[show aC .i64 [(a':Int),(v:Int)]=List.toArray [.int .i64 (a':Int),.int .i64 (v:Int)]from rfl]
 intro mV _
 refine St.whole (r:=[.int .i64 (a':Int),.int .i64 (v:Int)]) (by exact .head _) rfl rfl (by simp[Value.oneCell']) ?_
 refine Nil.ptr ?_
 refine aa.mk (Ld.mk zM rfl ?_)
 refine az.whole (r:=[.int .i64 (a':Int),.int .i64 (v:Int)]) (by exact .head _) rfl ?_
 obtain⟨⟨m1,S7,GC⟩,X9⟩:=hM
 have Xx:∀J:List Value→Hp→Prop,(∀sN:Value,∀iD:Hp,(∀Ra:Fr,aF (fun r H'=>r=.int .i64 ((aj.lvl n L a' v:Nat):Int)∧lQ bp bl bd uZ n L (aj.aX n L) B H') (.returned sN) iD)→J [sN] iD)→
   ∀Rs Rw,G1 n L Rs Rw qm rT→J [.int .i64 ((aj.lvl n L a' v:Nat):Int)] ((bp,.cells #[uZ,.int .i64 (n:Int),.int .i64 ((aj.aX n L:Nat):Int),.map (some bl),.map (some bd)] 137 (0,0))::(bl,.map Rs Rw)::(bd,.map qm rT)::B):=
  fun J hJ Rs Rw hM=>hJ _ _ fun gs=>aF.here ⟨rfl,Rs,Rw,qm,rT,rfl,hM⟩
 cases hg:er m1 (a',v)with
 |some x=>
  have hx:=zE (f:=fun k=>aj.lvl n L k.1 k.2) GC hg
  simp only at hx
  refine bu.QR (ke:=kp) (k:=(a',v)) Ms B1 S7 (by exact .tail _ (.tail _ (.head _))) hg fun y hy=>?_
  subst hy
  refine Ext.mk rfl (Ext.mk rfl ?_)
  intro J hJ
  refine Un.not (Br.no (JE.of .tail ?_))
  rw[hx]
  exact Xx J hJ _ _ ⟨⟨m1,S7,GC⟩,X9⟩
 |none=>
  refine bu.Gx (ke:=kp) (k:=(a',v)) Ms B1 S7 (by exact .tail _ (.tail _ (.head _))) hg ?_
  refine Ext.mk rfl (Ext.mk rfl ?_)
  intro J hJ
  refine Un.not (Br.yes ?_)
  refine DR.self ?_
  refine Nil.ptr ?_
  refine aa.mk (Ld.mk zM rfl ?_)
  refine⟨mV,0,.i64,0,rfl,rfl,by decide,by decide,?_⟩
  refine Ld.mk (v:=.int .i64 (a':Int)) (by exact .head _) rfl ?_
  refine bL.nat (by simp[aB];omega) ?_
  refine ag.rd (B:=B) (.cons (.cons (.cons (.cons .here)))) (Mn (n:=n) (L:=L) h.tb h.kR h.ne (by have:=h.small;omega) Wf hv SU) ?_
  rintro r rfl
  refine⟨.refl _,Ext.mk rfl (Ext.mk rfl ?_)⟩
  refine DR.of (R:=(mV,.cells (List.toArray [.int .i64 (a':Int),.int .i64 (v:Int)]) 226 (0,0))::(bp,.cells #[uZ,.int .i64 (n:Int),.int .i64 ((aj.aX n L:Nat):Int),.map (some bl),.map (some bd)] 137 (0,0))::[]) (.cons (.cons (fun g w h=>(Own.left (B:=_) (A:=[]) h)))) ?_
  refine Nil.ptr ?_
  refine aa.mk (Ld.mk zM rfl ?_)
  refine az.whole (r:=[.int .i64 (a':Int),.int .i64 (v:Int)]) (by exact .head _) rfl ?_
  refine bu.WO (ke:=kp) (vr:=ZU) (b:=bl) (val:=.int .i64 ((aj.lvl n L a' v:Nat):Int)) (k:=(a',v)) (x:=aj.lvl n L a' v) Ms B1 Qq S7 rfl fun es' eU CE=>⟨_,.tail (.tail (.head _)),?_⟩
  have acS:∀x∈gU m1 (a',v) (aj.lvl n L a' v),x.2=aj.lvl n L x.1.1 x.1.2:=zB (f:=fun k:Nat×Nat=>aj.lvl n L k.1 k.2) (k:=(a',v)) GC
  have hM':G1 n L es' eU qm rT:=⟨⟨gU m1 (a',v) (aj.lvl n L a' v),CE,acS⟩,X9⟩
  exact JE.of .tail (Xx J hJ es' eU hM')
end Go.Proofs
namespace Go.Sx
open Go
theorem tv(n:Int):BitVec.ofInt 64 (IntKind.i64.wrap n)=BitVec.ofInt 64 n:=by
 apply BitVec.eq_of_toNat_eq
 simp only[BitVec.toNat_ofInt,IntKind.wrap,IntKind.bits,IntKind.signed,Bool.true_and,decide_eq_true_eq]
 congr 1
 split<;>omega
theorem wrap_toInt(x:BitVec 64):IntKind.i64.wrap (x.toNat:Int)=x.toInt:=by
 rw[BitVec.toInt_eq_toNat_cond]
 have:=x.isLt
 have e:(2:Int)^(64-1)=9223372036854775808:=rfl
 simp only[IntKind.wrap,IntKind.bits,IntKind.signed,Bool.true_and,decide_eq_true_eq,e]
 split<;>split<;>omega
theorem oM(op:BinOp)(x y:Int):BitVec.ofInt 64 (bits op .i64 x y)=(match op with
  | .and=>BitVec.ofInt 64 x&&&BitVec.ofInt 64 y
  | .or=>BitVec.ofInt 64 x|||BitVec.ofInt 64 y
  | .xor=>BitVec.ofInt 64 x^^^BitVec.ofInt 64 y
  |_=>BitVec.ofInt 64 x&&& ~~~BitVec.ofInt 64 y):=by
 unfold bits
 simp only[tv]
 rw[BitVec.ofInt_natCast]
 simp only[IntKind.bits]
 rw[BitVec.ofNat_toNat,BitVec.setWidth_eq]
 cases op<;>rfl
theorem ur(op:BinOp)(x y:Int):bits op .i64 x y=(BitVec.ofInt 64 (bits op .i64 x y)).toInt:=by
 unfold bits
 simp only[tv]
 rw[BitVec.ofInt_natCast]
 simp only[IntKind.bits]
 rw[BitVec.ofNat_toNat,BitVec.setWidth_eq]
 exact wrap_toInt _
theorem Ig{a U v:Nat}(ha:a<4611686018427387904)(hU:U<4611686018427387904)(hv:v<62):
  bits .and .i64 ((bits .or .i64 a (bits .xor .i64 (-1) U)).fdiv (2^(min (v:Int).toNat IntKind.i64.bits))) 1=if a.testBit v=true∨U.testBit v=false then 1 else 0:=by
 have hX:=oM .or (a:Int) (bits .xor .i64 (-1) U)
 simp only at hX
 have hN:=oM .xor (-1) (U:Int)
 simp only at hN
 rw[hN]at hX
 generalize hx:bits .or .i64 a (bits .xor .i64 (-1) U)=x at hX
 have VW:x=(BitVec.ofInt 64 x).toInt:=by rw[←hx];exact ur _ _ _
 have hm:min (v:Int).toNat IntKind.i64.bits=v:=by simp[IntKind.bits];omega
 rw[hm]
 have hs:x.fdiv (2^v)=((BitVec.ofInt 64 x).sshiftRight v).toInt:=by
  rw[BitVec.toInt_sshiftRight,←VW,Int.shiftRight_eq_div_pow,Int.fdiv_eq_ediv_of_nonneg _ (Int.le_of_lt (Int.pow_pos (by decide)))]
  push_cast;rfl
 rw[hs,ur,oM]
 simp only[BitVec.ofInt_toInt]
 rw[hX]
 have h1:BitVec.ofInt 64 (1:Int)=1#64:=rfl
 have h2:BitVec.ofInt 64 (-1:Int)=BitVec.allOnes 64:=by decide
 rw[h1,h2]
 have tP:((BitVec.ofInt 64 (a:Int)|||BitVec.allOnes 64^^^BitVec.ofInt 64 (U:Int)).sshiftRight v).getLsbD 0=(a.testBit v|| !U.testBit v):=by
  rw[BitVec.getLsbD_sshiftRight]
  have e1:v+0<64:=by omega
  simp only[Nat.add_zero,show¬(64≤0)from by decide,decide_false,Bool.not_false,Bool.true_and,show v<64 by omega,if_true]
  rw[BitVec.getLsbD_or,BitVec.getLsbD_xor,BitVec.getLsbD_allOnes,BitVec.ofInt_natCast,BitVec.ofInt_natCast,BitVec.getLsbD_ofNat,BitVec.getLsbD_ofNat]
  simp[show v<64 by omega]
 have fm:∀y:BitVec 64,(y&&&1#64).toInt=if y.getLsbD 0 then 1 else 0:=by
  intro y
  have:y&&&1#64=if y.getLsbD 0 then 1#64 else 0#64:=by
   apply BitVec.eq_of_getLsbD_eq
   intro i hi
   rw[BitVec.getLsbD_and]
   by_cases h0:i=0
   ·subst h0;cases hb:y.getLsbD 0<;>simp[hb]
   ·have:(1#64).getLsbD i=false:=by simp[BitVec.getLsbD_one,h0]
    rw[this]
    cases y.getLsbD 0<;>simp[this]
  rw[this]
  cases y.getLsbD 0<;>decide
 rw[fm,tP]
 cases a.testBit v<;>cases U.testBit v<;>simp
theorem W6{a U v:Nat}(ha:a<4611686018427387904)(hU:U<4611686018427387904)(hv:v<62){k:Value→Prop}(h:k (.bool (decide (a.testBit v=true∨U.testBit v=false)))):
  Un .xor (.int .i64 (U:Int)) fun ff=>ae .num .or (.int .i64 (a:Int)) ff fun fc=>ae .num .shr fc (.int .i64 (v:Int)) fun fA=>ae .num .and fA (.int .i64 1) fun dQ=>ae .num .eql dQ (.int .i64 1) k:=by
 refine⟨_,rfl,_,rfl,?_⟩
 have h0:¬((v:Int)<0):=by omega
 refine⟨_,by simp only[gA,h0,if_false];rfl,_,rfl,?_⟩
 refine ae.jG ?_
 have hs:(if IntKind.i64.signed=true then(-1:Int)else IntKind.i64.max)= -1:=rfl
 rw[hs,Ig ha hU hv]
 by_cases hc:a.testBit v=true∨U.testBit v=false
 ·rw[if_pos hc];rw[decide_eq_true hc]at h;exact h
 ·rw[if_neg hc];rw[decide_eq_false hc]at h;exact h
end Go.Sx
set_option maxRecDepth 100000
namespace Go.Proofs
open Go Go.Sx
theorem ie(x:Value)(r:List Value)(i:Nat):bg (x::r) (i+1)=bg r i:=by cases x<;>rfl
def jf(n:Nat)(L:List (List Nat))(U a k:Nat):List Nat:=((List.range k).filter fun v=> !a.testBit v&&U.testBit v).map fun v=>aj.lvl n L a v+aj.B n (aj.lvl n L) (aj.aI a v true)
theorem HJ{n:Nat}{L:List (List Nat)}{U a:Nat}:jf n L U a n=(aj.dw n U a).map fun v=>aj.lvl n L a v+aj.B n (aj.lvl n L) (aj.aI a v true):=by
 unfold jf aj.dw aj.cg
 rw[List.filter_filter]
 congr 1
 apply List.filter_congr
 intro v _
 cases a.testBit v<;>cases U.testBit v<;>rfl
theorem ta{n:Nat}{L:List (List Nat)}{U a k:Nat}:jf n L U a (k+1)=if a.testBit k=true∨U.testBit k=false then jf n L U a k else jf n L U a k++[aj.lvl n L a k+aj.B n (aj.lvl n L) (aj.aI a k true)]:=by
 unfold jf
 rw[List.range_succ,List.filter_append,List.map_append]
 cases h1:a.testBit k<;>cases h2:U.testBit k<;>simp[h1,h2]
def wK(l:List Nat):Value:=if l=[]then .int .i64 (-1)else .int .i64 ((aj.gn l:Nat):Int)
theorem Oj(n:Nat)(c:Nat→Nat→Nat)(M:Nat)(hc:∀a v,c a v≤M):∀f a,aj.Ol n c f a≤f*M
 |0,a=>by simp[aj.Ol]
 |f+1,a=>by
  rw[aj.Ol,Nat.succ_mul]
  by_cases h:aj.cg n a=[]
  ·rw[h];simp[aj.gn]
  ·have:=aj.nF (l:=(aj.cg n a).map fun v=>c a v+aj.Ol n c f (aj.aI a v true)) (by simpa using h)
   obtain⟨v,_,e⟩:=List.mem_map.1 this
   rw[←e]
   have h1:=hc a v
   have h2:=Oj n c M hc f (aj.aI a v true)
   omega
theorem He{uZ:Value}{n:Nat}{L:List (List Nat)}{B:Hp}(h:uC uZ n L B)(a:Nat):aj.B n (aj.lvl n L) a<35184372088832:=by
 have h1:=Oj n (aj.lvl n L) 2199023255551 (fun a v=>Nat.le_of_lt (BV h a v)) n a
 have h2:n*2199023255551≤12*2199023255551:=Nat.mul_le_mul_right _ h.ZZ
 unfold aj.B;omega
theorem yu{a U n:Nat}(hU:U<2^n)(h:∀v,v<n→¬(a.testBit v=false∧U.testBit v=true)):a&&&U=U:=by
 apply Nat.eq_of_testBit_eq;intro k
 rw[Nat.testBit_and]
 by_cases hk:k<n
 ·have:=h k hk
  cases h1:a.testBit k<;>cases h2:U.testBit k<;>simp_all
 ·have:U.testBit k=false:=Nat.testBit_lt_two_pow (Nat.lt_of_lt_of_le hU (Nat.pow_le_pow_right (by decide) (by omega)))
  rw[this];simp
theorem qq{uZ:Value}{n:Nat}{L:List (List Nat)}{B:Hp}(h:uC uZ n L B){bp bl bd:Nat}:∀(d a:Nat),(aj.dw n (aj.aX n L) a).length≤d→a<2^n→∀H,lQ bp bl bd uZ n L (aj.aX n L) B H→
  Fc Tryz.prog 74 #[.pointer (some ⟨bp,0,none⟩),.int .i64 (a:Int)] H (fun r H'=>r=.int .i64 ((aj.B n (aj.lvl n L) a:Nat):Int)∧lQ bp bl bd uZ n L (aj.aX n L) B H'):=by
 have hU:=aj.sQ n L
 have z4:=h.ZZ
 have lA:2^n≤2^12:=Nat.pow_le_pow_right (by decide) z4
 have z9:=aj.F5 h.kR (by omega)
 intro d
 induction d using Nat.strongRecOn with
 |_ d ih=>
  intro a hd ha H hp
  obtain⟨rQ,qa,qm,rT,rfl,hM⟩:=hp
  intro g
  refine wW (R:=aF _) ?_
  unfold L74
  refine Nil.ptr ?_
  refine aa.mk (Ld.mk zM rfl ?_)
  refine ae.jr (by simp[aB];omega) (by simp[aB];omega) ?_
  refine Nil.ptr ?_
  refine aa.mk (Ld.mk zM rfl ?_)
  have hBa:aj.B n (aj.lvl n L) a=aj.B n (aj.lvl n L) (a&&&aj.aX n L):=(aj.Tm z9 a).symm
  have SB:aj.dw n (aj.aX n L) (a&&&aj.aX n L)=aj.dw n (aj.aX n L) a:=aj.kq _ _ _
  have Wf:a&&&aj.aX n L<2^n:=Nat.lt_of_le_of_lt Nat.and_le_left ha
  have mJ:(a&&&aj.aX n L) &&&aj.aX n L=a&&&aj.aX n L:=by rw[Nat.and_assoc,Nat.and_self]
  rw[hBa]
  rw[←SB]at hd
  obtain⟨a',ew⟩:∃a',a'=a&&&aj.aX n L:=⟨_,rfl⟩
  rw[←ew]at Wf hd mJ⊢
  clear hBa SB ha ew
  have aK:=HJ (n:=n) (L:=L) (U:=aj.aX n L) (a:=a')
  have Xy:aj.B n (aj.lvl n L) a'=aj.gn (jf n L (aj.aX n L) a' n):=by
   rw[aK]
   have:=aj.ZQ z9 a'
   rw[mJ]at this
   exact this
  refine ae.gz (Br.dec (fun h0=>?_) (fun h0=>?_))
  ·refine aF.here ⟨?_,rQ,qa,qm,rT,rfl,hM⟩
   have:aj.dw n (aj.aX n L) a'=[]:=by
    rw[List.eq_nil_iff_forall_not_mem]
    intro v hv
    obtain⟨_,h2,h3⟩:=aj.fk.1 hv
    rw[h0,h3]at h2;cases h2
   rw[Xy,aK,this];rfl
  have hne:jf n L (aj.aX n L) a' n≠[]:=by
   rw[aK]
   intro e
   apply h0
   rw[←mJ]
   refine yu hU fun v hv hh=>?_
   have:v∈aj.dw n (aj.aX n L) a':=aj.fk.2 ⟨hv,hh.1,hh.2⟩
   rw[List.map_eq_nil_iff.1 e]at this;simp at this
  refine Nil.ptr ?_
  refine aa.mk (Ld.mk zM rfl ?_)
  obtain⟨M0,m2,CD,wy⟩:=hM
  cases hg:er m2 a' with
  |some x=>
   have hx:=zE (f:=aj.B n (aj.lvl n L)) wy hg
   refine bu.hit (ke:=ki) (k:=a') B4 CD (by exact .tail _ (.tail _ (.head _))) hg fun y hy=>?_
   subst hy
   refine Ext.mk rfl (Ext.mk rfl (Br.yes (aF.here ⟨?_,rQ,qa,qm,rT,rfl,M0,m2,CD,wy⟩)))
   rw[hx];rfl
  |none=>
   refine bu.cg (ke:=ki) (k:=a') B4 CD (by exact .tail _ (.tail _ (.head _))) hg ?_
   refine Ext.mk rfl (Ext.mk rfl (Br.no (Nil.ptr ?_)))
   refine aa.mk (Ld.mk zM rfl ?_)
   refine⟨fun vs H=>∃k:Nat,vs=[wK (jf n L (aj.aX n L) a' k),.int .i64 (k:Int)]∧k≤n∧lQ bp bl bd uZ n L (aj.aX n L) B H,fun vs _=>n-bg vs 1,
    JE.mk ⟨0,rfl,Nat.zero_le _,rQ,qa,qm,rT,rfl,M0,m2,CD,wy⟩,?_⟩
   clear CD wy hg M0 rQ qa qm rT m2
   rintro jK lW H ⟨k,hv,hk,hp⟩ gs
   simp only[List.cons.injEq,and_true]at hv
   obtain⟨rfl,rfl⟩:=hv
   refine ae.dz (Br.dec (fun hlt=>?_) (fun hlt=>?_))
   ·intro J hJ
    have wx:=hp
    obtain⟨rQ,qa,qm,rT,rfl,hM⟩:=hp
    refine Nil.ptr ?_
    refine aa.mk (Ld.mk zM rfl ?_)
    refine W6 (by omega) (by omega) (by omega) ?_
    have zZ:∀l H,l=jf n L (aj.aX n L) a' (k+1)→lQ bp bl bd uZ n L (aj.aX n L) B H→J [wK l] H:=fun l H hl hp=>hJ _ _ fun gs=>by
     refine ae.aH (b:=1) (by simp[aB];omega) ?_
     exact ay.mk ⟨k+1,by rw[hl],by omega,hp⟩ (by rw[ie,ie];show n-(((k:Int)+1).toNat)<n-((k:Int).toNat);omega)
    by_cases hc:a'.testBit k=true∨(aj.aX n L).testBit k=false
    ·rw[decide_eq_true hc]
     refine Br.yes (JE.mk (zZ _ _ ?_ wx))
     rw[ta,if_pos hc]
    ·rw[decide_eq_false hc]
     have hck:a'.testBit k=false∧(aj.aX n L).testBit k=true:=by
      cases h1:a'.testBit k<;>cases h2:(aj.aX n L).testBit k<;>simp_all
     have hmem:k∈aj.dw n (aj.aX n L) a':=aj.fk.2 ⟨hlt,hck.1,hck.2⟩
     refine Br.no (DR.self ?_)
     have hpk:2^k≤2^12:=Nat.pow_le_pow_right (by decide) (by omega)
     refine ae.r3 (a:=1) (by simp[IntKind.bits];omega) (by rw[Nat.one_shiftLeft];simp[aB];omega) ?_
     rw[Nat.one_shiftLeft]
     refine ae.Gr (by simp[aB];omega) (by simp[aB];omega) ?_
     have Rr:a'|||2^k=aj.aI a' k true:=rfl
     rw[Rr]
     refine ag.fn .here (zx h wx Wf hlt hck.1) ?_
     rintro r H1 ⟨rfl,vw⟩
     have hlen:(aj.dw n (aj.aX n L) (aj.aI a' k true)).length<d:=by
      have h1:(aj.dw n (aj.aX n L) (aj.aI a' k true)).length+1=(aj.dw n (aj.aX n L) a').length:=by
       unfold aj.dw aj.cg
       rw[List.filter_filter,List.filter_filter]
       refine aj.mO _ _ k (List.range n) List.nodup_range (List.mem_range.2 hlt) (by simp[hck]) (by simp[aj.au]) fun y hy hne=>?_
       rw[aj.pD hne]
      omega
     refine ag.fn .here (ih _ hlen (aj.aI a' k true) (Nat.le_refl _) (aj.fj Wf hlt) H1 vw) ?_
     rintro r H2 ⟨rfl,lA⟩
     have hb1:=BV h a' k
     have We:=He h (aj.aI a' k true)
     refine ae.aH (by simp[aB];omega) ?_
     have hstep:=ta (n:=n) (L:=L) (U:=aj.aX n L) (a:=a') (k:=k)
     rw[if_neg hc]at hstep
     generalize aj.lvl n L a' k+aj.B n (aj.lvl n L) (aj.aI a' k true)=x at hstep
     unfold wK
     by_cases hl:jf n L (aj.aX n L) a' k=[]
     ·rw[if_pos hl]
      refine ae.lss (bM.mk true (fun e=>by simp at e) (fun _=>rfl) fun gs=>Br.yes (JE.mk ?_))
      have:=zZ [x] _ (by rw[hstep,hl];rfl) lA
      simpa[wK,aj.gn]using this
     ·rw[if_neg hl]
      have hms:=aj.BQ (jf n L (aj.aX n L) a' k) x
      rw[if_neg hl,←hstep]at hms
      have acM:jf n L (aj.aX n L) a' (k+1)≠[]:=by rw[hstep];simp
      have QM:=zZ _ H2 rfl lA
      unfold wK at QM
      rw[if_neg acM,hms]at QM
      have hneg:decide (((aj.gn (jf n L (aj.aX n L) a' k):Nat):Int)<0)=false:=decide_eq_false (by omega)
      by_cases hx:x<aj.gn (jf n L (aj.aX n L) a' k)
      ·rw[Nat.min_eq_right (by omega)]at QM
       refine ae.lss ?_
       rw[hneg]
       exact bM.mk true (fun _=>ae.dz ⟨rfl,by rw[decide_eq_true hx]⟩) (fun e=>by simp at e) fun gs=>Br.yes (JE.mk QM)
      ·rw[Nat.min_eq_left (by omega)]at QM
       refine ae.lss ?_
       rw[hneg]
       exact bM.mk false (fun _=>ae.dz ⟨rfl,by rw[decide_eq_false hx]⟩) (fun e=>by simp at e) fun gs=>Br.no (JE.mk QM)
   ·have:k=n:=by omega
    subst this
    obtain⟨rQ,qa,qm,rT,rfl,M0,m2,CD,wy⟩:=hp
    refine Nil.ptr ?_
    refine aa.mk (Ld.mk zM rfl ?_)
    unfold wK
    rw[if_neg hne,←Xy]
    refine bu.cz (ke:=ki) (vr:=ZU) (b:=bd) (val:=.int .i64 ((aj.B k (aj.lvl k L) a':Nat):Int)) (k:=a') (x:=aj.B k (aj.lvl k L) a') B4 Qt CD rfl fun es' eU CE=>⟨_,.tail (.tail (.head _)),?_⟩
    have acR:∀x∈gU m2 a' (aj.B k (aj.lvl k L) a'),x.2=aj.B k (aj.lvl k L) x.1:=zB (f:=aj.B k (aj.lvl k L)) wy
    exact aF.here ⟨rfl,rQ,qa,es',eU,rfl,M0,_,CE,acR⟩
end Go.Proofs
set_option maxRecDepth 100000
namespace Go.Proofs
open Go Go.Sx
def afm(v:Value)(ts:List Tb)(B:Hp)(r:Value)(H:Hp):Prop:=
 (qe ts∧∃(bp bl bd n:Nat) (L:List (List Nat)) (N:Hp),ts=gy n L∧(L=[]→n=0)∧n≤16∧(∀ws∈L,aj.cB n ws)∧r=.tuple #[.pointer (some ⟨bp,0,none⟩),.int .i64 0]∧lQ bp bl bd v n L (aj.aX n L) (N++B) H)
 ∨(¬qe ts∧r=.tuple #[.pointer none,.int .i64 5])
theorem rC(n:Nat)(L:List (List Nat)):G1 n L #[] 0 #[] 0:=⟨⟨[],bu.empty,by simp⟩,⟨[],bu.empty,by simp⟩⟩
theorem Bx{n:Nat}{L:List (List Nat)}{k:Nat}(h:k<L.length):aj.aX n (L.take (k+1))=aj.aX n (L.take k)|||aj.ov n L[k]:=by
 unfold aj.aX
 rw[List.take_add_one,List.getElem?_eq_getElem h,Option.toList_some,List.foldl_append];rfl
theorem IY{B:Hp}{v:Value}{ts:List Tb}(ht:cT B v ts)(bE:ts.length<4398046511104):Px Tryz.prog 72 #[v] B (afm v ts B):=by
 obtain⟨va,vc,vl,rfl⟩:∃a c l,v=.slice a l c:=by
  obtain⟨rs,h1,_⟩:=ht
  obtain⟨a,c,e,_⟩:=h1.shape
  exact⟨a,c,_,e⟩
 intro g
 refine JD (R:=aF _) ?_
 unfold L72
 intro b1 _ b2 _
 refine Build.mk (cs:=[.slice va vl vc,.int .i64 0,.int .i64 0,.map (some b1),.map (some b2)]) (by kernel_rfl) ?_
 intro bp _
 generalize hvs:Value.slice va vl vc=vv at ht⊢
 refine ht.aR (ae.gz (b:=0) (Br.dec (fun h0=>?_) (fun h0=>?_)))
 ·have Ce:ts=[]:=List.eq_nil_of_length_eq_zero h0
  subst Ce
  refine⟨_,_,rfl,aO.cons aO.swap,(by repeat (first|exact aV.refl _|apply aV.cons|apply aV.app)),Or.inl ⟨by simp[qe],bp,b1,b2,0,[],[],rfl,fun _=>rfl,by omega,by simp,rfl,_,_,_,_,?_,rC _ _⟩⟩
  subst hvs;rfl
 refine ag.px (B:=B) (.cons (.cons (.cons .here))) (L4 ht bE) ?_
 rintro r N ⟨s,rfl⟩
 refine Ext.mk rfl (Ext.mk rfl ?_)
 by_cases hO:qe ts
 case neg=>
  rw[if_neg hO]
  exact ae.pH (a:=5) (b:=0) (Br.dec (fun _=>oV.mk (by repeat (first|exact aV.refl _|apply aV.cons|apply aV.app)) (.inr ⟨hO,rfl⟩)) (fun h=>absurd (by decide) h))
 rw[if_pos hO]
 refine ae.pH (a:=0) (b:=0) (Br.dec (fun h=>absurd rfl h) (fun _=>?_))
 obtain⟨n,L,qK,rfl,hne,hf⟩:=Gt hO (by intro e;rw[e]at h0;exact h0 rfl)
 rw[List.length_map]at bE h0
 obtain⟨w0,oP⟩:∃w0,L[0]? =some w0:=⟨_,List.getElem?_eq_getElem (List.length_pos_iff.2 hne)⟩
 refine ht.Xe (i:=0) (t:=⟨n,w0⟩) (by rw[List.getElem?_map,oP];rfl) zS ?_
 simp only
 refine Nil.ptr (aa.mk ?_)
 refine St.one (c:=#[vv,.int .i64 0,.int .i64 0,.map (some b1),.map (some b2)]) (c':=#[vv,.int .i64 (n:Int),.int .i64 0,.map (some b1),.map (some b2)]) (H':=(bp,.cells #[vv,.int .i64 (n:Int),.int .i64 0,.map (some b1),.map (some b2)] 137 (0,0))::(b2,.map #[] 0)::(b1,.map #[] 0)::(N++B)) (by subst hvs;exact .head _) rfl (by simp) rfl ?_
 refine ht.aR ?_
 rw[List.length_map]
 refine⟨fun vs H=>∃(k:Nat) (N:Hp),vs=[.int .i64 (k:Int)]∧k≤L.length∧H=(bp,.cells #[vv,.int .i64 (n:Int),.int .i64 ((aj.aX n (L.take k):Nat):Int),.map (some b1),.map (some b2)] 137 (0,0))::(b2,.map #[] 0)::(b1,.map #[] 0)::(N++B),
  fun vs _=>L.length-bg vs 0,JE.mk ⟨0,N,rfl,by omega,rfl⟩,?_⟩
 clear N
 rintro w H ⟨k,N,hv,hk,rfl⟩ gs
 simp only[List.cons.injEq,and_true]at hv
 subst hv
 refine ae.dz (Br.dec (fun hlt=>?_) (fun hlt=>?_))
 ·have hg:(L.map fun ws=>(⟨n,ws⟩:Tb))[k]? =some ⟨n,L[k]⟩:=by rw[List.getElem?_map,List.getElem?_eq_getElem hlt];rfl
  have jF:=hf L[k] (List.getElem_mem hlt)
  refine ht.ld hg zS fun s hw=>?_
  intro b3 _
  refine St.whole (r:=[.int .i64 (n:Int),s]) (by exact .head _) rfl rfl ?_ ?_
  ·have:=aD hw;simpa[Value.oneCell']using this
  refine az.whole (r:=[.int .i64 (n:Int),s]) (by exact .head _) rfl ?_
  refine ag.rd (B:=B) (.cons (.cons (.cons (.cons (.app .here))))) (sX (v:=.agg (List.toArray [.int .i64 (n:Int),s])) (t:=⟨n,L[k]⟩) ⟨s,rfl,hw⟩) ?_
  rintro v rfl
  rw[if_pos (show TF ⟨(n:Int),L[k]⟩from⟨by simp,by simpa using jF⟩)]
  refine Ext.mk rfl (Ext.mk rfl ?_)
  simp only[Int.toNat_natCast]
  have aiz:2^n≤2^16:=Nat.pow_le_pow_right (n:=2) (by decide) qK
  have Xt:aj.ov n L[k]<2^n:=aj.mm n L[k] n
  have hus:=aj.sQ n (L.take k)
  refine Nil.ptr ?_
  refine aa.mk (Ld.mk zM rfl ?_)
  refine bL.nat (by simp[aB];omega) ?_
  refine ae.Gr (by simp[aB];omega) (by simp[aB];omega) ?_
  rw[←Bx hlt]
  refine Nil.ptr (aa.mk ?_)
  refine St.one (c:=#[vv,.int .i64 (n:Int),.int .i64 ((aj.aX n (L.take k):Nat):Int),.map (some b1),.map (some b2)]) (c':=#[vv,.int .i64 (n:Int),.int .i64 ((aj.aX n (L.take (k+1)):Nat):Int),.map (some b1),.map (some b2)]) (by repeat (first|exact cJ.head _|apply cJ.tail|apply cJ.bI)) rfl (by simp) rfl ?_
  refine ae.aH (b:=1) (by simp[aB];omega) ?_
  exact ay.of .tail ⟨k+1,N,rfl,by omega,rfl⟩ (by simp[bg];omega)
 ·have:k=L.length:=by omega
  subst this
  rw[List.take_length]
  refine⟨_,_,rfl,aO.cons aO.swap,(by repeat (first|exact aV.refl _|apply aV.cons|apply aV.app)),Or.inl ⟨hO,bp,b1,b2,n,L,N,rfl,fun e=>absurd e hne,qK,hf,rfl,_,_,_,_,rfl,rC _ _⟩⟩
theorem L8{n:Nat}{c:Nat→Nat→Nat}{f a v:Nat}(hv:v∈aj.cg n a)(he:c a v+aj.B n c (aj.aI a v true)=aj.B n c a)(hm:∀u∈aj.cg n a,u<v→c a u+aj.B n c (aj.aI a u true)≠aj.B n c a):
    aj.ord n c (f+1) a=v::aj.ord n c f (aj.aI a v true):=by
  obtain⟨u,h1,h2,h3,h4⟩:=aj.tt (c:=c) (f:=f) (List.ne_nil_of_mem hv)
  rcases Nat.lt_trichotomy u v with h|h|h
  · exact absurd h2 (hm u h1 h)
  · rw[h4,h]
  · exact absurd he (h3 v hv h)
theorem Jk{uZ:Value}{n:Nat}{L:List (List Nat)}{B:Hp}{bp bl bd a:Nat}(ha:a<4611686018427387904){H:Hp}(hp:lQ bp bl bd uZ n L 0 B H):
    Fc Tryz.prog 74 #[.pointer (some ⟨bp,0,none⟩),.int .i64 (a:Int)] H (fun r H'=>r=.int .i64 0∧H'=H):=by
  obtain⟨rQ,qa,qm,rT,rfl,hM⟩:=hp
  intro g
  refine wW (R:=aF _) ?_
  unfold L74
  refine Nil.ptr ?_
  refine aa.mk (Ld.mk zM rfl ?_)
  refine ae.jr (b:=0) (by simp[aB];omega) (by simp[aB]) ?_
  refine Nil.ptr ?_
  refine aa.mk (Ld.mk zM rfl ?_)
  exact ae.gz (b:=0) (Br.gf (by simp) (aF.here ⟨rfl,rfl⟩))
def ZP(ts:List Tb)(B:Hp)(r:Value)(H:Hp):Prop:=
  (¬qe ts∧r=.tuple #[.int .i64 0,.slice none 0 0,.int .i64 5])∨
  (qe ts∧∃(n:Nat) (L:List (List Nat)),ts=gy n L∧(L=[]→n=0)∧n≤16∧(∀ws∈L,aj.cB n ws)∧
    ((12<n∧r=.tuple #[.int .i64 0,.slice none 0 0,.int .i64 6])∨
     (n≤12∧∃(s:Value) (C N:Hp),r=.tuple #[.int .i64 ((aj.B n (aj.lvl n L) 0:Nat):Int),s,.int .i64 0]∧aQ 3 .i64 s (iw (aj.ord n (aj.lvl n L) n 0)) C∧H=C++(N++B))))
structure BSt(n:Nat)(c:Nat→Nat→Nat)(s:Value)(a:Nat)(l:List Nat)(C:Hp):Prop where
  own:aQ 3 .i64 s (iw l) C
  lt:a<2^n
  len:(aj.cg n a).length+l.length=n
  pre:l++aj.ord n c (n-l.length) a=aj.ord n c n 0
theorem GX{a v:Nat}:(a>>>v&&&1=0)↔a.testBit v=false:=by
  have:=Nat.testBit_eq_decide_div_mod_eq (x:=a) (i:=v)
  rw[this,Nat.and_one_is_mod,Nat.shiftRight_eq_div_pow]
  simp
theorem RA{B:Hp}{v:Value}{ts:List Tb}(ht:cT B v ts)(bE:ts.length<33554432):Px Tryz.prog 26 #[v] B (ZP ts B):=by
  intro g
  refine J0 (R:=aF _) ?_
  unfold L26
  refine ag.px .here (IY ht (by omega)) ?_
  rintro r N0 (⟨hO,bp,bl,bd,n,L,N,rfl,V1,qK,hf,rfl,hp⟩|⟨hO,rfl⟩)
  case inr=>exact Ext.mk rfl (Ext.mk rfl (ae.pH (a:=5) (b:=0) (Br.dec (fun _=>oV.mk (by repeat (first|exact aV.refl _|apply aV.cons|apply aV.app)) (.inl ⟨hO,rfl⟩)) (fun h=>absurd (by decide) h))))
  generalize N0++B=H2 at hp⊢
  clear N0
  rw[aW]at bE
  have wx:=hp
  obtain⟨rQ,qa,qm,rT,rfl,hM⟩:=hp
  refine Ext.mk rfl (Ext.mk rfl (ae.pH (a:=0) (b:=0) (Br.dec (fun h=>absurd rfl h) (fun _=>?_))))
  refine Nil.ptr ?_
  refine aa.mk (Ld.mk zM rfl ?_)
  refine ae.me (b:=12) (Br.dec (fun Vc=>oV.mk (by repeat (first|exact aV.refl _|apply aV.cons|apply aV.app)) (.inr ⟨hO,n,L,rfl,V1,qK,hf,.inl ⟨Vc,rfl⟩⟩)) (fun Vc=>?_))
  clear hM
  have z4:n≤12:=by omega
  have hOK:L≠[]→uC v n L (N++B):=fun hne=>⟨ht.mono zS,hf,hne,bE,z4⟩
  have lA:2^n≤2^12:=Nat.pow_le_pow_right (by decide) z4
  have hm0:(aj.cg n 0).length=n:=by
    have:aj.cg n 0=List.range n:=by unfold aj.cg;rw[List.filter_eq_self];simp
    rw[this,List.length_range]
  refine⟨fun vs H=>∃(s:Value) (a:Nat) (l:List Nat) (C H1:Hp),vs=[s,.int .i64 (a:Int)]∧BSt n (aj.lvl n L) s a l C∧lQ bp bl bd v n L (aj.aX n L) (N++B) H1∧H=C++H1,
    fun vs _=>(aj.cg n (bg vs 1)).length,JE.mk ⟨_,0,[],[],_,rfl,⟨aQ.nil,Nat.two_pow_pos n,by rw[hm0];rfl,by simp⟩,wx,rfl⟩,?_⟩
  clear wx rQ qa qm rT
  rintro kP mi H ⟨s,a,l,C,H1,hv,hb,hp,rfl⟩ gs
  simp only[List.cons.injEq,and_true]at hv
  obtain⟨rfl,rfl⟩:=hv
  have wx:=hp
  obtain⟨rQ,qa,qm,rT,rfl,hM⟩:=hp
  refine hb.own.aR ?_
  rw[an]
  refine Nil.ptr ?_
  refine aa.mk (Ld.mk zM rfl ?_)
  have SR:=hb.len
  refine ae.dz (Br.dec (fun hlt=>?_) (fun hlt=>?_))
  · have acO:aj.cg n a≠[]:=by intro e;rw[e]at SR;simp at SR;omega
    have hne:L≠[]:=fun e=>by have:=V1 e;omega
    have qJ:=hOK hne
    have hnf:n-l.length=n-l.length-1+1:=by omega
    refine Nil.ptr ?_
    refine aa.mk (Ld.mk zM rfl ?_)
    refine⟨fun vs H=>∃(k:Nat) (H1:Hp),vs=[kP,.int .i64 (a:Int),.int .i64 (k:Int)]∧k≤n∧(∀u∈aj.cg n a,u<k→aj.lvl n L a u+aj.B n (aj.lvl n L) (aj.aI a u true)≠aj.B n (aj.lvl n L) a)∧lQ bp bl bd v n L (aj.aX n L) (N++B) H1∧H=C++H1,
      fun vs _=>n-bg vs 2,JE.mk ⟨0,_,rfl,by omega,fun u _ h=>by omega,wx,rfl⟩,?_⟩
    clear hM wx
    rintro vg vI AU H ⟨k,H1,hv,hk,hmin,hp,rfl⟩ gs
    simp only[List.cons.injEq,and_true]at hv
    obtain⟨rfl,rfl,rfl⟩:=hv
    refine ae.dz (Br.dec (fun hlk=>?_) (fun hlk=>?_))
    · intro J hJ
      have hpk:2^k≤2^12:=Nat.pow_le_pow_right (by decide) (by omega)
      have hno:∀H1,¬(a.testBit k=false∧aj.lvl n L a k+aj.B n (aj.lvl n L) (aj.aI a k true)=aj.B n (aj.lvl n L) a)→lQ bp bl bd v n L (aj.aX n L) (N++B) H1→J [.bool false] (C++H1):=fun H1 hx hp=>hJ _ _ fun gs=>by
        refine Br.no (ae.aH (b:=1) (by simp[aB];omega) ?_)
        refine ay.mk ⟨k+1,H1,rfl,by omega,fun u hu hlu=>?_,hp,rfl⟩ (by rw[ie,ie,ie,ie];show n-(((k:Int)+1).toNat)<n-((k:Int).toNat);omega)
        by_cases e:u=k
        · subst e;exact fun h=>hx ⟨(aj.cN.1 hu).2,h⟩
        · exact hmin u hu (by omega)
      refine DR.self ?_
      have ai8:a<4611686018427387904:=by have:=hb.lt;omega
      refine ae.jU (by simp[aB];omega) (ae.jr (b:=1) (by simp[aB];exact Nat.lt_of_le_of_lt (Nat.shiftRight_le _ _) (by omega)) (by decide) (ae.gz (b:=0) ?_))
      refine Br.dec (fun h0=>?_) (fun h0=>JE.mk (hno H1 (fun h=>h0 (GX.2 h.1)) hp))
      have hak:=GX.1 h0
      refine ae.r3 (a:=1) (by simp[IntKind.bits];omega) (by rw[Nat.one_shiftLeft];simp[aB];omega) ?_
      rw[Nat.one_shiftLeft]
      refine ae.Gr (by simp[aB];omega) (by simp[aB];omega) ?_
      have Rr:a|||2^k=aj.aI a k true:=rfl
      rw[Rr]
      intro F
      refine ag.fn (.app .here) (zx qJ hp hb.lt hlk hak) ?_
      rintro r H2 ⟨rfl,lA⟩
      intro F
      refine ag.fn (.app .here) (qq qJ _ (aj.aI a k true) (Nat.le_refl _) (aj.fj hb.lt hlk) H2 lA) ?_
      rintro r H3 ⟨rfl,Sw⟩
      have hb1:=BV qJ a k
      have We:=He qJ (aj.aI a k true)
      refine ae.aH (by simp[aB];omega) ?_
      intro F
      refine ag.fn (.app .here) (qq qJ _ a (Nat.le_refl _) hb.lt H3 Sw) ?_
      rintro r H4 ⟨rfl,VY⟩
      refine ae.gz ?_
      by_cases he:aj.lvl n L a k+aj.B n (aj.lvl n L) (aj.aI a k true)=aj.B n (aj.lvl n L) a
      · rw[decide_eq_true he]
        have hmem:k∈aj.cg n a:=aj.cN.2 ⟨hlk,hak⟩
        have QI:=L8 (f:=n-l.length-1) hmem he hmin
        have hml:=aj.gD hmem
        refine aA.mk (JE.mk (hJ _ _ fun gs=>Br.yes ?_))
        refine av.int (e:=3) (by kernel_rfl) (by kernel_rfl) (by kernel_rfl) fun xb=>?_
        refine aQ.app (A:=[_]) hb.own (by exact .head _) (by simp;omega) (by simp;omega) fun v' C' ho=>?_
        refine ae.r3 (a:=1) (by simp[IntKind.bits];omega) (by rw[Nat.one_shiftLeft];simp[aB];omega) ?_
        rw[Nat.one_shiftLeft]
        refine ae.Gr (by simp[aB];omega) (by simp[aB];omega) ?_
        rw[Rr]
        refine ay.of .right ⟨v',aj.aI a k true,l++[k],C',H4,rfl,⟨by simpa[iw]using ho,aj.fj hb.lt hlk,by simp;omega,?_⟩,VY,rfl⟩ (by rw[ie,ie];show(aj.cg n (aj.aI a k true)).length<(aj.cg n a).length;omega)
        have:=hb.pre
        rw[hnf,QI]at this
        rw[List.length_append,List.length_singleton,Nat.sub_add_eq,List.append_assoc]
        exact this
      · rw[decide_eq_false he]
        exact aA.mk (JE.mk (hno H4 (fun h=>he h.2) VY))
    · obtain⟨u,h1,h2,_⟩:=aj.tt (c:=aj.lvl n L) (f:=0) acO
      exact absurd h2 (hmin u h1 (by have:=(aj.cN.1 h1).1;omega))
  · have A0:l.length=n:=by omega
    have hl:l=aj.ord n (aj.lvl n L) n 0:=by
      have:=hb.pre
      rw[A0,Nat.sub_self]at this
      simpa[aj.ord]using this
    have hown:=hb.own
    rw[hl]at hown
    by_cases hne:L=[]
    · have hn:=V1 hne
      subst hne
      subst hn
      refine ag.fn (.app .here) (Jk (a:=0) (by omega) wx) ?_
      rintro r H3 ⟨rfl,rfl⟩
      exact⟨_,_,rfl,.refl _,(by repeat (first|exact aV.refl _|apply aV.cons|apply aV.app)),.inr ⟨hO,0,[],rfl,V1,qK,hf,.inr ⟨z4,_,C,(_::_::_::N),rfl,hown,rfl⟩⟩⟩
    · refine ag.fn (.app .here) (qq (hOK hne) _ 0 (Nat.le_refl _) (Nat.two_pow_pos n) _ wx) ?_
      rintro r H3 ⟨rfl,Wl,Wm,es4,ck4,rfl,hM'⟩
      exact⟨_,_,rfl,.refl _,(by repeat (first|exact aV.refl _|apply aV.cons|apply aV.app)),.inr ⟨hO,n,L,rfl,V1,qK,hf,.inr ⟨z4,_,C,(_::_::_::N),rfl,hown,rfl⟩⟩⟩
end Go.Proofs
namespace OJ
abbrev It:=Int×Int
def prec(a b:It):Bool:=decide (a.2<b.2)||(a.2==b.2&&decide (a.1<b.1))
theorem ti{a b:It}:prec a b=true↔a.2<b.2∨a.2=b.2∧a.1<b.1:=by simp[prec]
theorem kY{a b:It}:prec a b=false↔¬(a.2<b.2∨a.2=b.2∧a.1<b.1):=by rw[←ti];simp
theorem mz(a:It):prec a a=false:=by rw[kY];omega
theorem oH{a b:It}(h:prec a b=true):prec b a=false:=by rw[ti]at h;rw[kY];omega
theorem le_trans{a b c:It}(h1:prec b a=false)(h2:prec c b=false):prec c a=false:=by rw[kY]at*;omega
theorem BX{a b c:It}(h1:prec a b=true)(h2:prec c b=false):prec c a=false:=by rw[ti]at h1;rw[kY]at*;omega
def gN(V:Nat→It)(i:Nat)(b:It):Nat→It:=fun j=>if j=i then b else V j
def E(V:Nat→It)(j:Nat):Prop:=prec (V j) (V ((j-1) /2))=false
def wQ(n:Nat)(V:Nat→It)(i:Nat):Prop:=
 (∀j,0<j→j<n→j≠i→(j-1) /2≠i→E V j)∧(∀j,0<j→j<n→(j-1) /2=i→0<i→prec (V j) (V ((i-1) /2))=false)
def nP(n:Nat)(V:Nat→It)(i:Nat):Prop:=∀j,0<j→j<n→(j-1) /2=i→E V j
def RV(n:Nat)(V:Nat→It)(i:Nat):Prop:=
 (∀j,0<j→j<n→(j-1) /2≠i→E V j)∧(∀j,0<j→j<n→(j-1) /2=i→0<i→prec (V j) (V ((i-1) /2))=false)
def Ord(n:Nat)(V:Nat→It):Prop:=∀j,0<j→j<n→E V j
theorem PG{n i:Nat}{V:Nat→It}(hi:0<i)(hn:i<n)(h:wQ n V i)(ha:prec (V i) (V ((i-1) /2))=true):
  wQ n (gN (gN V i (V ((i-1) /2))) ((i-1) /2) (V i)) ((i-1) /2)∧nP n (gN (gN V i (V ((i-1) /2))) ((i-1) /2) (V i)) ((i-1) /2):=by
 obtain⟨h1,h2⟩:=h
 have hq:(i-1) /2≠i:=by omega
 generalize hqd:(i-1) /2=q at*
 have hqi:q<i:=by omega
 refine⟨⟨?_,?_⟩,?_⟩
 ·intro j j0 jn jq jp
  unfold E gN
  rw[if_neg jq,if_neg jp]
  by_cases e1:j=i
  ·exact absurd (by rw[e1,hqd]) jp
  ·rw[if_neg e1]
   by_cases e2:(j-1) /2=i
   ·rw[if_pos e2];exact h2 j j0 jn e2 hi
   ·rw[if_neg e2];exact h1 j j0 jn e1 e2
 ·intro j j0 jn jp q0
  unfold gN
  have hqq:(q-1) /2≠q:=by omega
  have acD:(q-1) /2≠i:=by omega
  rw[if_neg hqq,if_neg acD]
  have V5:j≠q:=by omega
  rw[if_neg V5]
  have UE:E V q:=h1 q q0 (by omega) hq (by omega)
  by_cases e1:j=i
  ·rw[if_pos e1];exact UE
  ·rw[if_neg e1]
   have:=h1 j j0 jn e1 (by omega)
   unfold E at this UE
   rw[jp]at this
   exact le_trans UE this
 ·intro j j0 jn jp
  unfold E gN
  rw[jp,if_pos rfl]
  have V5:j≠q:=by omega
  rw[if_neg V5]
  by_cases e1:j=i
  ·rw[if_pos e1];exact oH ha
  ·rw[if_neg e1]
   have:=h1 j j0 jn e1 (by omega)
   unfold E at this
   rw[jp]at this
   exact BX ha this
theorem PI{n i:Nat}{V:Nat→It}(h:wQ n V i)(ha:i=0∨prec (V i) (V ((i-1) /2))=false):RV n V i:=by
 refine⟨fun j j0 jn jp=>?_,h.2⟩
 by_cases e:j=i
 ·subst e;rcases ha with ha|ha
  ·omega
  ·exact ha
 ·exact h.1 j j0 jn e jp
theorem wD{n i:Nat}{V:Nat→It}(h:RV n V i)(hc:nP n V i):Ord n V:=fun j j0 jn=>by
 by_cases e:(j-1) /2=i
 ·exact hc j j0 jn e
 ·exact h.1 j j0 jn e
def wq(n:Nat)(V:Nat→It)(i:Nat):Nat:=if(decide (2*i+1+1<n) &&prec (V (2*i+1+1)) (V (2*i+1)))=true then 2*i+1+1 else 2*i+1
theorem qG(n:Nat)(V:Nat→It)(i:Nat):wq n V i=2*i+1∨wq n V i=2*i+2∧2*i+2<n:=by
 unfold wq;split
 ·rename_i h;simp only[Bool.and_eq_true,decide_eq_true_eq]at h;right;omega
 ·left;rfl
theorem wo{n i j:Nat}{V:Nat→It}(j0:0<j)(jn:j<n)(jp:(j-1) /2=i):prec (V j) (V (wq n V i))=false:=by
 unfold wq
 split
 ·rename_i h
  simp only[Bool.and_eq_true,decide_eq_true_eq]at h
  rcases(show j=2*i+1∨j=2*i+1+1 by omega)with rfl|rfl
  ·exact oH h.2
  ·exact mz _
 ·rename_i h
  rcases(show j=2*i+1∨j=2*i+1+1 by omega)with rfl|rfl
  ·exact mz _
  ·cases hh:prec (V (2*i+1+1)) (V (2*i+1))
   ·rfl
   ·exact absurd (by simp[hh,jn]) h
theorem IZ{n i:Nat}{V:Nat→It}(h:RV n V i)(hk:wq n V i<n)(ha:prec (V (wq n V i)) (V i)=true):
  RV n (gN (gN V i (V (wq n V i))) (wq n V i) (V i)) (wq n V i):=by
 have hl:∀j,0<j→j<n→(j-1) /2=i→prec (V j) (V (wq n V i))=false:=fun j=>wo
 have hkc:=qG n V i
 generalize wq n V i=c at*
 obtain⟨h1,h2⟩:=h
 have hcp:(c-1) /2=i:=by omega
 have hc0:0<c:=by omega
 have n9:c≠i:=by omega
 refine⟨?_,?_⟩
 ·intro j j0 jn jp
  unfold E gN
  rw[if_neg jp]
  by_cases e1:j=c
  ·rw[if_pos e1,if_pos (by rw[e1];exact hcp)];exact oH ha
  ·rw[if_neg e1]
   by_cases e2:j=i
   ·rw[if_pos e2]
    have:(j-1) /2≠i:=by omega
    rw[if_neg this,e2];exact h2 c hc0 hk hcp (by omega)
   ·rw[if_neg e2]
    by_cases e3:(j-1) /2=i
    ·rw[if_pos e3];exact hl j j0 jn e3
    ·rw[if_neg e3];exact h1 j j0 jn e3
 ·intro j j0 jn jp _
  unfold gN
  rw[hcp]
  have:j≠c:=by omega
  have e2:j≠i:=by omega
  rw[if_neg this,if_neg e2,if_neg (fun e=>n9 e.symm),if_pos rfl]
  have:=h1 j j0 jn (by omega)
  unfold E at this
  rwa [jp]at this
theorem I0{n i:Nat}{V:Nat→It}(h:RV n V i)(ha:n≤wq n V i∨prec (V (wq n V i)) (V i)=false):Ord n V:=by
 refine wD h fun j j0 jn jp=>?_
 have hl:=wo (V:=V) j0 jn jp
 rcases ha with ha|ha
 ·rcases qG n V i with h|h<;>omega
 ·unfold E;rw[jp];exact le_trans ha hl
theorem Qb{n:Nat}{V:Nat→It}(h:Ord n V):∀j,j<n→prec (V j) (V 0)=false:=by
 intro j
 induction j using Nat.strongRecOn with
 |_ j ih=>
  intro jn
  by_cases j0:j=0
  ·subst j0;exact mz _
  ·exact le_trans (ih ((j-1) /2) (by omega) (by omega)) (h j (by omega) jn)
def bB(l:List It)(j:Nat):It:=l.getD j (0,0)
theorem RE{l:List It}{j:Nat}(h:j<l.length):l[j]? =some (bB l j):=by simp[bB,List.getD,h]
theorem gJ{l:List It}{i:Nat}(b:It)(h:i<l.length):bB (l.set i b)=gN (bB l) i b:=by
 funext j
 unfold bB gN
 simp only[List.getD,List.getElem?_set]
 by_cases e:i=j
 ·subst e;simp[h]
 ·rw[if_neg e,if_neg (fun x=>e x.symm)]
theorem oB{l:List It}{i:Nat}(h:i<l.length):l.set i (bB l i)=l:=by
 apply List.ext_getElem?;intro j;rw[List.getElem?_set];by_cases e:i=j
 ·subst e;simp[h,bB,List.getD]
 ·simp[e]
theorem swap_perm{l:List It}{i q:Nat}(hi:i<l.length)(hq:q<l.length)(hne:q≠i):((l.set i (bB l q)).set q (bB l i)).Perm l:=by
 rw[List.perm_iff_count]
 intro x
 have g1:l[i]=bB l i:=by simp[bB,List.getD,hi]
 have g2:l[q]=bB l q:=by simp[bB,List.getD,hq]
 have g3:(l.set i (bB l q))[q]'(by simp[hq])=bB l q:=by rw[List.getElem_set_ne (fun e=>hne e.symm)];exact g2
 rw[List.count_set (by simp[hq]),List.count_set hi,g1,g3]
 have hc:bB l i=x→0<l.count x:=fun e=>by rw[List.count_pos_iff,←e,←g1];exact List.getElem_mem hi
 by_cases e1:bB l i=x
 ·have:=hc e1
  by_cases e2:bB l q=x<;>simp[e1,e2]<;>omega
 ·by_cases e2:bB l q=x<;>simp[e1,e2]
def js(l:List It):Prop:=(l.map Prod.fst).Nodup
theorem js.perm{l l':List It}(h:js l)(p:l'.Perm l):js l':=(p.map _).nodup_iff.2 h
theorem js.inj{l:List It}(h:js l){i j:Nat}(hi:i<l.length)(hj:j<l.length)(e:(bB l i).1=(bB l j).1):i=j:=by
 unfold js at h
 have hp:=List.pairwise_iff_getElem.1 h
 have g:∀k (hk:k<l.length),(l.map Prod.fst)[k]'(by simpa using hk)=(bB l k).1:=fun k hk=>by simp[bB,List.getD,hk]
 rcases Nat.lt_trichotomy i j with hlt|rfl|hlt
 ·have:=hp i j (by simpa using hi) (by simpa using hj) hlt
  rw[g i hi,g j hj]at this;exact absurd e this
 ·rfl
 ·have:=hp j i (by simpa using hj) (by simpa using hi) hlt
  rw[g i hi,g j hj]at this;exact absurd e.symm this
theorem gV{l:List It}{x:Int}:x∈l.map Prod.fst↔∃j,j<l.length∧(bB l j).1=x:=by
 rw[List.mem_iff_getElem]
 constructor
 ·rintro⟨j,hj,e⟩
  have hj':j<l.length:=by simpa using hj
  exact⟨j,hj',by simpa[bB,List.getD,hj']using e⟩
 ·rintro⟨j,hj,e⟩
  exact⟨j,by simpa using hj,by simpa[bB,List.getD,hj]using e⟩
def AX(f:Int→Option Nat)(x:Int)(p:Option Nat):Int→Option Nat:=fun y=>if y=x then p else f y
def lV(l:List It)(f:Int→Option Nat)(i:Nat):Prop:=(∀j,j<l.length→j≠i→f (bB l j).1=some j)∧∀x,x∉l.map Prod.fst→f x=none
def Cons(l:List It)(f:Int→Option Nat):Prop:=(∀j,j<l.length→f (bB l j).1=some j)∧∀x,x∉l.map Prod.fst→f x=none
theorem lV.done{l:List It}{f:Int→Option Nat}{i:Nat}(h:lV l f i)(ho:js l)(hi:i<l.length):Cons l (AX f (bB l i).1 (some i)):=by
 refine⟨fun j hj=>?_,fun x hx=>?_⟩
 ·unfold AX
  by_cases e:(bB l j).1=(bB l i).1
  ·rw[if_pos e,ho.inj hj hi e]
  ·rw[if_neg e];exact h.1 j hj (fun e2=>e (by rw[e2]))
 ·unfold AX
  rw[if_neg (fun e=>hx (gV.2 ⟨i,hi,e.symm⟩))]
  exact h.2 x hx
theorem lV.step{l:List It}{f:Int→Option Nat}{i q:Nat}(h:lV l f i)(ho:js l)(hi:i<l.length)(hq:q<l.length)(hne:q≠i):
  lV ((l.set i (bB l q)).set q (bB l i)) (AX f (bB l q).1 (some i)) q:=by
 have yL:∀j,bB ((l.set i (bB l q)).set q (bB l i)) j=gN (gN (bB l) i (bB l q)) q (bB l i) j:=fun j=>by rw[gJ _ (by simpa using hq),gJ _ hi]
 refine⟨fun j hj V5=>?_,fun x hx=>?_⟩
 ·rw[yL]
  simp only[List.length_set]at hj
  unfold gN AX
  rw[if_neg V5]
  by_cases e:j=i
  ·rw[if_pos e,if_pos rfl,e]
  ·rw[if_neg e]
   rw[if_neg (fun e2=>V5 (ho.inj hj hq e2))]
   exact h.1 j hj e
 ·have hx':x∉l.map Prod.fst:=fun hm=>hx (by
   have:=(swap_perm hi hq hne).map Prod.fst
   exact this.mem_iff.2 hm)
  unfold AX
  rw[if_neg (fun e=>hx' (gV.2 ⟨q,hq,e.symm⟩))]
  exact h.2 x hx'
end OJ
namespace OJ
open Go Go.Sx
def enc(kd:IntKind)(a:It):List Value:=[.int kd a.1,.int .i64 a.2]
def eN(kd:IntKind)(l:List It):List (List Value):=l.map (enc kd)
theorem cP(kd:IntKind)(l:List It):(eN kd l).length=l.length:=by simp[eN]
theorem IX(kd:IntKind)(l:List It):∀r∈eN kd l,r.length=2:=fun r hr=>by
 obtain⟨a,_,rfl⟩:=List.mem_map.1 hr;rfl
theorem fH{kd:IntKind}{l:List It}{i:Nat}(h:i<l.length)(aL:List (List Value)):(eN kd l++aL)[i]? =some (enc kd (bB l i)):=by
 rw[List.getElem?_append_left (by rw[cP];exact h),eN,List.getElem?_map,RE h];rfl
theorem NW{kd:IntKind}{l:List It}{i:Nat}(h:i<l.length)(a:It)(aL:List (List Value)):(eN kd l++aL).set i (enc kd a)=eN kd (l.set i a)++aL:=by
 rw[List.set_append_left _ _ (by rw[cP];exact h),eN,eN,List.map_set]
def idx(i:Nat):Value:=.int .i64 (i:Int)
def HO(kd:IntKind)(TI TH:TypeId)(h:Value)(l:List It)(f:Int→Option Nat)(C:Hp):Prop:=
 ∃bh sv mv Cs Cm,h=.pointer (some ⟨bh,0,none⟩)∧C=(bh,Obj.cells #[sv,mv] TH (0,0))::(Cs++Cm)∧aS TI 2 sv (eN kd l) Cs∧jY kd idx mv f Cm∧(mv=.map none→l=[])
theorem HO.open{kd:IntKind}{TI TH:TypeId}{h:Value}{l:List It}{f:Int→Option Nat}{C:Hp}(H:HO kd TI TH h l f C)(hp:0<l.length):
  ∃bh la mb aL Cm,h=.pointer (some ⟨bh,0,none⟩)∧
   C=(bh,Obj.cells #[.slice (some ⟨la,0,none⟩) l.length (l.length+aL.length),.map (some mb)] TH (0,0))::(la,.cells (rows (eN kd l++aL)) TI (0,0))::Cm∧
   (∀r∈eN kd l++aL,r.length=2)∧jY kd idx (.map (some mb)) f Cm:=by
 obtain⟨bh,sv,mv,Cs,Cm,rfl,rfl,hs,hm,hne⟩:=H
 obtain⟨la,aL,rfl,rfl,aK⟩:=hs.pos (by rw[cP];exact hp)
 rw[cP]
 rcases hm with⟨rfl,_⟩|⟨mb,m,ck,rfl,h2⟩
 ·rw[hne rfl]at hp;simp at hp
 ·exact⟨bh,la,mb,aL,Cm,rfl,rfl,aK,.inr ⟨mb,m,ck,rfl,h2⟩⟩
theorem HO.shut{kd:IntKind}{TI TH:TypeId}{bh la mb n c:Nat}{aL:List (List Value)}{Cm:Hp}{l:List It}{f:Int→Option Nat}(aK:∀r∈eN kd l++aL,r.length=2)(hn:n=l.length)(hc:c=l.length+aL.length)
 (hm:jY kd idx (.map (some mb)) f Cm):
  HO kd TI TH (.pointer (some ⟨bh,0,none⟩)) l f ((bh,Obj.cells #[.slice (some ⟨la,0,none⟩) n c,.map (some mb)] TH (0,0))::(la,.cells (rows (eN kd l++aL)) TI (0,0))::Cm):=
 ⟨bh,_,_,[_],Cm,rfl,rfl,aS.mk' aK (by rw[cP];exact hn) (by rw[cP];exact hc),hm,fun h=>by simp at h⟩
theorem LP{l aL:List (List Value)}(h:∀r∈l++aL,r.length=2)(kd:IntKind)(l':List It):∀r∈eN kd l'++aL,r.length=2:=fun r hr=>by
 rcases List.mem_append.1 hr with hr|hr
 ·exact IX kd l' r hr
 ·exact h r (by simp[hr])
theorem nL(kd:IntKind)(a:It):∀v∈enc kd a,v.oneCell'=true:=by simp[enc,Value.oneCell']
end OJ
namespace OJ
open Go Go.Sx
theorem T8(j:Nat)(h:0<j):((j-1:Nat):Int).tdiv 2=(((j-1) /2:Nat):Int):=by
 rw[Int.tdiv_eq_ediv_of_nonneg (by omega)];omega
theorem s9{l:List It}{i q:Nat}(a:It)(hi:i<l.length)(hq:q<l.length)(hne:q≠i):((l.set i a).set i (bB (l.set i a) q)).set q (bB (l.set i a) i)=(l.set i (bB l q)).set q a:=by
 rw[gJ a hi,List.set_set]
 simp[gN,hne]
def HI(kd:IntKind)(TI TH:TypeId)(h:Value)(l:List It)(C:Hp):Prop:=∃f,HO kd TI TH h l f C∧Cons l f∧Ord l.length (bB l)∧js l
theorem Df{l:List It}{a:It}{j:Nat}(h:j<l.length):bB (l++[a]) j=bB l j:=by simp[bB,List.getD,List.getElem?_append_left h]
theorem LZ{l:List It}{f:Int→Option Nat}{a:It}(hc:Cons l f)(ho:Ord l.length (bB l))(h1:js l)(hx:a.1∉l.map Prod.fst):
  wQ (l++[a]).length (bB (l++[a])) l.length∧lV (l++[a]) f l.length∧js (l++[a])∧nP (l++[a]).length (bB (l++[a])) l.length:=by
 simp only[List.length_append,List.length_cons,List.length_nil,Nat.zero_add]
 refine⟨⟨fun j j0 jn jne jp=>?_,fun j j0 jn jp=>by omega⟩,⟨fun j jn jne=>?_,fun x hx'=>?_⟩,?_,fun j j0 jn jp=>by omega⟩
 ·unfold E;rw[Df (by omega),Df (by omega)];exact ho j j0 (by omega)
 ·simp only[List.length_append,List.length_cons,List.length_nil]at jn
  rw[Df (by omega)];exact hc.1 j (by omega)
 ·exact hc.2 x (fun h=>hx' (by rw[List.map_append,List.mem_append];exact .inl h))
 ·unfold js at*;rw[List.map_append,List.nodup_append];exact⟨h1,by simp,fun a' ew b hb=>by simp at hb;subst hb;intro e;subst e;exact hx ew⟩
theorem N8{l:List It}{f:Int→Option Nat}(hc:Cons l f){x:Int}:(x∉l.map Prod.fst∧f x=none)∨∃i,i<l.length∧(bB l i).1=x∧f x=some i:=by
 by_cases h:x∈l.map Prod.fst
 ·obtain⟨j,hj,e⟩:=gV.1 h
  exact .inr ⟨j,hj,e,by rw[←e];exact hc.1 j hj⟩
 ·exact .inl ⟨h,hc.2 x h⟩
theorem P4{l:List It}{f:Int→Option Nat}(hc:Cons l f)(ho:Ord l.length (bB l))(h1:js l){n:Nat}(hn:l.length=n+1):
  let l':=l.take n
  ((0<n→(bB l n)::(l'.set 0 (bB l n)).tail=l'.set 0 (bB l n)∧(bB l 0::l'.set 0 (bB l n)).Perm l∧RV n (bB (l'.set 0 (bB l n))) 0∧js (l'.set 0 (bB l n))∧
   lV (l'.set 0 (bB l n)) (AX f (bB l 0).1 none) 0)):=by
 intro l' V1
 have hl':l'.length=n:=by simp[l',hn]
 have dP:(bB l 0::l'.set 0 (bB l n)).Perm l:=by
  rw[List.perm_iff_count]
  intro x
  have e:l=l'++[bB l n]:=by
   have:l=l.take n++l.drop n:=(List.take_append_drop n l).symm
   have h2:l.drop n=[bB l n]:=by
    rw[List.drop_eq_getElem_cons (by omega),List.drop_eq_nil_of_le (by omega)]
    simp[hn,bB,List.getD]
   rw[h2]at this;exact this
  have g0:l'[0]'(by omega)=bB l 0:=by simp[l',bB,List.getD,hn]
  conv=>rhs;rw[e]
  rw[List.count_cons,List.count_set (by omega),g0,List.count_append]
  have hc0:bB l 0=x→0<l'.count x:=fun e=>by rw[List.count_pos_iff,←e,←g0];exact List.getElem_mem _
  by_cases e1:bB l 0=x
  ·have:=hc0 e1
   by_cases e2:bB l n=x<;>simp[e1,e2]<;>omega
  ·by_cases e2:bB l n=x<;>simp[e1,e2]
 have yL:∀j,j<n→j≠0→bB (l'.set 0 (bB l n)) j=bB l j:=fun j hj h0=>by
  rw[gJ _ (by omega)];simp[gN,h0,l',bB,List.getD,hj]
 have hO:js (l'.set 0 (bB l n)):=by
  have:=(h1.perm dP:js _)
  unfold js at this⊢
  simp only[List.map_cons,List.nodup_cons]at this
  exact this.2
 refine⟨?_,dP,⟨fun j j0 jn jp=>?_,fun j j0 jn jp h=>by omega⟩,hO,fun j hj UR=>?_,fun x hx=>?_⟩
 ·cases hh:l' with
  |nil=>rw[hh]at hl';simp at hl';omega
  |cons a r=>simp
 ·unfold E;rw[yL j jn (by omega),yL _ (by omega) jp];exact ho j j0 (by omega)
 ·simp only[List.length_set,hl']at hj
  rw[yL j hj UR]
  unfold AX
  rw[if_neg (fun e=>UR (h1.inj (by omega) (by omega) e))]
  exact hc.1 j (by omega)
 ·unfold AX
  by_cases e:x=(bB l 0).1
  ·rw[if_pos e]
  ·rw[if_neg e]
   refine hc.2 x fun hm=>hx ?_
   have:=(dP.map Prod.fst).mem_iff.2 hm
   simp only[List.map_cons,List.mem_cons]at this
   rcases this with h|h
   ·exact absurd h e
   ·exact h
end OJ
set_option maxRecDepth 100000
namespace Go.Proofs
open Go Go.Sx
open OJ
abbrev Pn:=HO .i64 233 231
abbrev RO:=HI .i64 233 231
theorem uz(a b:It)(B:Hp):Rd Tryz.prog 223 #[.agg #[.int .i64 a.1,.int .i64 a.2],.agg #[.int .i64 b.1,.int .i64 b.2]] B (· =.bool (prec a b)):=by
 intro g
 refine D8 (R:=aF _) ?_
 unfold L223
 intro b1 _ b2 _
 (repeat (first|refine Nil.ptr ?_|refine aa.mk ?_|refine Ld.mk zM rfl ?_|refine aG.mk ?_|refine ae.eql ?_|refine ae.neq ?_|refine ae.lss ?_|refine ae.leq ?_|refine ae.gtr ?_|refine ae.geq ?_|refine Un.not ?_|refine Ext.mk rfl ?_|refine aA.mk ?_|refine ae.aJ ?_|refine ae.bJ ?_|refine ae.bG ?_|refine Br.yes ?_|refine Br.no ?_))
 refine bM.or (a.2==b.2&&decide (a.1<b.1)) (fun _=>?_) rfl fun _=>bO.mk (.skip .tail) rfl
 (repeat (first|refine Nil.ptr ?_|refine aa.mk ?_|refine Ld.mk zM rfl ?_|refine aG.mk ?_|refine ae.eql ?_|refine ae.neq ?_|refine ae.lss ?_|refine ae.leq ?_|refine ae.gtr ?_|refine ae.geq ?_|refine Un.not ?_|refine Ext.mk rfl ?_|refine aA.mk ?_|refine ae.aJ ?_|refine ae.bJ ?_|refine ae.bG ?_|refine Br.yes ?_|refine Br.no ?_))
 refine bM.and (decide (a.1<b.1)) (fun _=>?_) rfl fun _=>⟨rfl,rfl⟩
 (repeat (first|refine Nil.ptr ?_|refine aa.mk ?_|refine Ld.mk zM rfl ?_|refine aG.mk ?_|refine ae.eql ?_|refine ae.neq ?_|refine ae.lss ?_|refine ae.leq ?_|refine ae.gtr ?_|refine ae.geq ?_|refine Un.not ?_|refine Ext.mk rfl ?_|refine aA.mk ?_|refine ae.aJ ?_|refine ae.bJ ?_|refine ae.bG ?_|refine Br.yes ?_|refine Br.no ?_))
 exact⟨rfl,rfl⟩
theorem pS{h:Value}{l:List It}{f:Int→Option Nat}{C:Hp}(ho:Pn h l f C){i:Nat}(hi:i<l.length)(a:It):
  Fc Tryz.prog 159 #[h,.int .i64 (i:Int),.agg #[.int .i64 a.1,.int .i64 a.2]] C (fun v C'=>v=.tuple #[]∧Pn h (l.set i a) (AX f a.1 (some i)) C'):=by
 obtain⟨bh,la,mb,aL,Cm,rfl,rfl,aK,hm⟩:=ho.open (by omega)
 intro g
 refine EU (R:=aF _) ?_
 unfold L159
 intro b1 _
 refine DR.self ?_
 (repeat (first|refine Nil.ptr ?_|refine aa.mk ?_|refine Ld.mk zM rfl ?_|refine aG.mk ?_|refine ae.eql ?_|refine ae.neq ?_|refine ae.lss ?_|refine ae.leq ?_|refine ae.gtr ?_|refine ae.geq ?_|refine Un.not ?_|refine Ext.mk rfl ?_|refine aA.mk ?_|refine ae.aJ ?_|refine ae.bJ ?_|refine ae.bG ?_|refine Br.yes ?_|refine Br.no ?_))
 refine az.whole (r:=enc .i64 a) zM rfl ?_
 refine ah.nat hi ?_
 refine St.row (l:=eN .i64 l++aL) (by repeat (first|exact cJ.head _|apply cJ.tail|apply cJ.bI)) aK (by rw[List.length_append,cP];omega) rfl (nL _ _) ?_
 refine DR.self ?_
 (repeat (first|refine Nil.ptr ?_|refine aa.mk ?_|refine Ld.mk zM rfl ?_|refine aG.mk ?_|refine ae.eql ?_|refine ae.neq ?_|refine ae.lss ?_|refine ae.leq ?_|refine ae.gtr ?_|refine ae.geq ?_|refine Un.not ?_|refine Ext.mk rfl ?_|refine aA.mk ?_|refine ae.aJ ?_|refine ae.bJ ?_|refine ae.bG ?_|refine Br.yes ?_|refine Br.no ?_))
 rw[←List.append_nil Cm]
 refine jY.cz (p:=i) (A:=[_,_,_]) (B:=[]) hm fun C' hm'=>?_
 refine⟨_,_,rfl,.tail,rfl,?_⟩
 rw[NW hi,List.append_nil]
 exact .shut (LP aK _ _) (by simp) (by simp) hm'
theorem Uz{h:Value}{l:List It}{f:Int→Option Nat}{C:Hp}(ho:Pn h l f C){i:Nat}(hi:i<l.length)(bE:l.length<4611686018427387904)(hu:wQ l.length (bB l) i)(hc:lV l f i)(hO:js l):
  Fc Tryz.prog 158 #[h,.int .i64 (i:Int)] C (fun v C'=>v=.tuple #[]∧∃l' f' p,Pn h l' f' C'∧l'.Perm l∧Cons l' f'∧RV l'.length (bB l') p∧p<l'.length∧bB l' p=bB l i∧
   (nP l.length (bB l) i→Ord l'.length (bB l'))):=by
 obtain⟨bh,la,mb,aL,Cm,rfl,rfl,aK,hm⟩:=ho.open (by omega)
 obtain⟨n,hn⟩:∃n,n=l.length:=⟨_,rfl⟩
 obtain⟨a,ha⟩:∃a,a=bB l i:=⟨_,rfl⟩
 intro g
 refine EV (R:=aF _) ?_
 unfold L158
 (repeat (first|refine Nil.ptr ?_|refine aa.mk ?_|refine Ld.mk zM rfl ?_|refine aG.mk ?_|refine ae.eql ?_|refine ae.neq ?_|refine ae.lss ?_|refine ae.leq ?_|refine ae.gtr ?_|refine ae.geq ?_|refine Un.not ?_|refine Ext.mk rfl ?_|refine aA.mk ?_|refine ae.aJ ?_|refine ae.bJ ?_|refine ae.bG ?_|refine Br.yes ?_|refine Br.no ?_))
 refine ah.nat hi ?_
 refine az.row (l:=eN .i64 l++aL) zM aK (fH hi aL) ?_
 intro b6 _
 refine St.whole (r:=enc .i64 (bB l i)) (by repeat (first|exact cJ.head _|apply cJ.tail|apply cJ.bI)) rfl rfl (nL _ _) ?_
 rw[←ha]
 refine⟨fun vs H=>∃(j:Nat) (L:List It) (f:Int→Option Nat) (C:Hp),vs=[.int .i64 (j:Int)]∧H=(b6,Obj.cells (enc .i64 a).toArray 233 (0,0))::C∧Pn (.pointer (some ⟨bh,0,none⟩)) L f C∧L.length=n∧j<n∧
   (L.set j a).Perm l∧wQ n (bB (L.set j a)) j∧lV (L.set j a) f j∧(nP n (bB l) i→nP n (bB (L.set j a)) j),
  fun vs _=>bg vs 0,.mk ⟨i,l,f,_,rfl,rfl,ho,hn.symm,by omega,?_,?_,?_,?_⟩,?_⟩
 ·exact(by rw[ha,oB hi])
 ·rw[ha,oB hi,hn];exact hu
 ·rw[ha,oB hi];exact hc
 ·rw[ha,oB hi];exact id
 rintro w H ⟨j,L,f,C,hw,rfl,ho,YB,hj,hp,hu,hc,l9⟩ gs
 simp only[List.cons.injEq,and_true]at hw
 subst hw
 have V0:=ho
 obtain⟨bh',la,mb,aL,Cm,Yg,rfl,aK,hm⟩:=ho.open (by omega)
 simp only[Value.pointer.injEq,Option.some.injEq,Addr.mk.injEq,and_true]at Yg
 subst Yg
 have Yx:js (L.set j a):=hO.perm hp
 have V3:(L.set j a).length=n:=by simp[YB]
 have SY:bB (L.set j a) j=a:=by rw[gJ a (by omega)];simp[gN]
 have hVq:0<j→bB (L.set j a) ((j-1) /2)=bB L ((j-1) /2):=fun h0=>by rw[gJ a (by omega)];simp[gN,show¬((j-1) /2=j)from by omega]
 intro J hJ
 have hend:¬(0<j∧prec a (bB L ((j-1) /2))=true)→J [.bool false] ((b6,Obj.cells (enc .i64 a).toArray 233 (0,0))::(bh,Obj.cells #[.slice (some ⟨la,0,none⟩) L.length (L.length+aL.length),.map (some mb)] 231 (0,0))::(la,.cells (rows (eN .i64 L++aL)) 233 (0,0))::Cm):=fun hno=>hJ _ _ fun gs=>by
  refine Br.no ?_
  refine az.whole (r:=enc .i64 a) zM rfl ?_
  refine ag.fn (.cons .here) (pS V0 (i:=j) (by omega) a) ?_
  rintro v C' ⟨rfl,bX⟩
  have hd:=hc.done Yx (by omega)
  rw[SY]at hd
  have hex:=PI hu (by
   by_cases h0:j=0
   ·exact .inl h0
   ·right
    rw[SY,hVq (by omega)]
    cases h:prec a (bB L ((j-1) /2))
    ·rfl
    ·exact absurd ⟨by omega,h⟩ hno)
  rw[←V3]at hex
  exact⟨_,_,rfl,.tail,rfl,_,_,j,bX,hp,hd,hex,by omega,by rw[SY,ha],fun hk=>wD hex (by rw[V3];exact l9 (by rw[hn];exact hk))⟩
 refine DR.self ?_
 refine ae.gtr (Br.dec (fun h0=>?_) (fun h0=>JE.mk (hend (fun h=>h0 (by omega)))))
 have h0:0<j:=by omega
 refine az.whole (r:=enc .i64 a) zM rfl ?_
 (repeat (first|refine Nil.ptr ?_|refine aa.mk ?_|refine Ld.mk zM rfl ?_|refine aG.mk ?_|refine ae.eql ?_|refine ae.neq ?_|refine ae.lss ?_|refine ae.leq ?_|refine ae.gtr ?_|refine ae.geq ?_|refine Un.not ?_|refine Ext.mk rfl ?_|refine aA.mk ?_|refine ae.aJ ?_|refine ae.bJ ?_|refine ae.bG ?_|refine Br.yes ?_|refine Br.no ?_))
 refine ae.mq (c:=((j-1:Nat):Int)) (by omega) (by omega) ?_
 refine ae.LV (by decide) (T8 j h0) (by omega) ?_
 refine ah.nat (by omega) ?_
 refine az.row (l:=eN .i64 L++aL) zM aK (fH (by omega) aL) ?_
 intro F
 refine ag.rd .here (uz a _ _) ?_
 rintro v rfl
 refine⟨.refl _,?_⟩
 cases Su:prec a (bB L ((j-1) /2))with
 |false=>exact aA.mk (JE.mk (hend (fun h=>by rw[Su]at h;exact absurd h.2 (by decide))))
 |true=>
 refine aA.mk (JE.mk (hJ _ _ fun gs=>Br.yes ?_))
 (repeat (first|refine Nil.ptr ?_|refine aa.mk ?_|refine Ld.mk zM rfl ?_|refine aG.mk ?_|refine ae.eql ?_|refine ae.neq ?_|refine ae.lss ?_|refine ae.leq ?_|refine ae.gtr ?_|refine ae.geq ?_|refine Un.not ?_|refine Ext.mk rfl ?_|refine aA.mk ?_|refine ae.aJ ?_|refine ae.bJ ?_|refine ae.bG ?_|refine Br.yes ?_|refine Br.no ?_))
 refine ae.mq (c:=((j-1:Nat):Int)) (by omega) (by omega) ?_
 refine ae.LV (by decide) (T8 j h0) (by omega) ?_
 refine ah.nat (by omega) ?_
 refine az.row (l:=eN .i64 L++aL) zM aK (fH (by omega) aL) ?_
 refine ag.fn (.cons .here) (pS V0 (i:=j) (by omega) (bB L ((j-1) /2))) ?_
 rintro v C' ⟨rfl,bX⟩
 refine ae.mq (c:=((j-1:Nat):Int)) (by omega) (by omega) ?_
 refine ae.LV (by decide) (T8 j h0) (by omega) ?_
 have hst:=PG h0 (by rw[←V3]at hj;rw[V3]at hj;exact hj) hu (by rw[SY,hVq h0];exact Su)
 have hcs:=hc.step Yx (i:=j) (q:=(j-1) /2) (by omega) (by omega) (by omega)
 have hpp:=(swap_perm (l:=L.set j a) (i:=j) (q:=(j-1) /2) (by omega) (by omega) (by omega)).trans hp
 have U3:(L.set j (bB L ((j-1) /2))).set ((j-1) /2) a=((L.set j a).set j (bB (L.set j a) ((j-1) /2))).set ((j-1) /2) (bB (L.set j a) j):=(s9 a (by omega) (by omega) (by omega)).symm
 have yL:bB ((L.set j (bB L ((j-1) /2))).set ((j-1) /2) a)=gN (gN (bB (L.set j a)) j (bB (L.set j a) ((j-1) /2))) ((j-1) /2) (bB (L.set j a) j):=by
  rw[U3,gJ _ (by simp;omega),gJ _ (by omega)]
 refine ay.mk ⟨(j-1) /2,_,_,C',rfl,rfl,bX,by simp[YB],by omega,?_,?_,?_,fun _=>?_⟩ ?_
 ·rw[U3];exact hpp
 ·rw[yL];exact hst.1
 ·rw[U3];rw[hVq h0]at hcs⊢;exact hcs
 ·rw[yL];exact hst.2
 ·simp only[bg,Int.toNat_natCast];omega
end Go.Proofs
set_option maxRecDepth 100000
namespace Go.Proofs
open Go Go.Sx
open OJ
theorem Ng{h:Value}{l:List It}{f:Int→Option Nat}{C:Hp}(ho:Pn h l f C){i:Nat}(hi:i<l.length)(bE:l.length<4611686018427387904)(hu:RV l.length (bB l) i)(hc:lV l f i)(hO:js l):
  Fc Tryz.prog 160 #[h,.int .i64 (i:Int)] C (fun v C'=>v=.tuple #[]∧∃l' f',Pn h l' f' C'∧l'.Perm l∧Cons l' f'∧Ord l'.length (bB l')):=by
 obtain⟨bh,la,mb,aL,Cm,rfl,rfl,aK,hm⟩:=ho.open (by omega)
 obtain⟨n,hn⟩:∃n,n=l.length:=⟨_,rfl⟩
 obtain⟨a,ha⟩:∃a,a=bB l i:=⟨_,rfl⟩
 intro g
 refine ET (R:=aF _) ?_
 unfold L160
 (repeat (first|refine Nil.ptr ?_|refine aa.mk ?_|refine Ld.mk zM rfl ?_|refine aG.mk ?_|refine ae.eql ?_|refine ae.neq ?_|refine ae.lss ?_|refine ae.leq ?_|refine ae.gtr ?_|refine ae.geq ?_|refine Un.not ?_|refine Ext.mk rfl ?_|refine aA.mk ?_|refine ae.aJ ?_|refine ae.bJ ?_|refine ae.bG ?_|refine Br.yes ?_|refine Br.no ?_))
 refine ah.nat hi ?_
 refine az.row (l:=eN .i64 l++aL) zM aK (fH hi aL) ?_
 intro b6 _
 refine St.whole (r:=enc .i64 (bB l i)) (by repeat (first|exact cJ.head _|apply cJ.tail|apply cJ.bI)) rfl rfl (nL _ _) ?_
 rw[←ha]
 refine⟨fun vs H=>∃(j:Nat) (L:List It) (f:Int→Option Nat) (C:Hp),vs=[.int .i64 (j:Int)]∧H=(b6,Obj.cells (enc .i64 a).toArray 233 (0,0))::C∧Pn (.pointer (some ⟨bh,0,none⟩)) L f C∧L.length=n∧j<n∧
   (L.set j a).Perm l∧RV n (bB (L.set j a)) j∧lV (L.set j a) f j,
  fun vs _=>n-bg vs 0,.mk ⟨i,l,f,_,rfl,rfl,ho,hn.symm,by omega,?_,?_,?_⟩,?_⟩
 ·exact(by rw[ha,oB hi])
 ·rw[ha,oB hi,hn];exact hu
 ·rw[ha,oB hi];exact hc
 rintro w H ⟨j,L,f,C,hw,rfl,ho,YB,hj,hp,hu,hc⟩ gs
 simp only[List.cons.injEq,and_true]at hw
 subst hw
 have V0:=ho
 obtain⟨bh',la,mb,aL,Cm,Yg,rfl,aK,hm⟩:=ho.open (by omega)
 simp only[Value.pointer.injEq,Option.some.injEq,Addr.mk.injEq,and_true]at Yg
 subst Yg
 have Yx:js (L.set j a):=hO.perm hp
 have V3:(L.set j a).length=n:=by simp[YB]
 have SY:bB (L.set j a) j=a:=by rw[gJ a (by omega)];simp[gN]
 have Yn:∀c,c≠j→bB (L.set j a) c=bB L c:=fun c h0=>by rw[gJ a (by omega)];simp[gN,h0]
 refine ae.Xa (c:=((2*j:Nat):Int)) (by omega) (by omega) ?_
 refine ae.wO (c:=((2*j+1:Nat):Int)) (by omega) (by omega) ?_
 intro J hJ
 obtain⟨c,hcd⟩:∃c,c=wq n (bB (L.set j a)) j:=⟨_,rfl⟩
 have hkc:=qG n (bB (L.set j a)) j
 rw[←hcd]at hkc
 have iJ:J [.int .i64 (c:Int)] ((b6,Obj.cells (enc .i64 a).toArray 233 (0,0))::(bh,Obj.cells #[.slice (some ⟨la,0,none⟩) L.length (L.length+aL.length),.map (some mb)] 231 (0,0))::(la,.cells (rows (eN .i64 L++aL)) 233 (0,0))::Cm):=by
  refine hJ _ _ fun gs2=>?_
  intro J2 A1
  have hstop:n≤c∨prec (bB L c) a=false→J2 [.bool true] ((b6,Obj.cells (enc .i64 a).toArray 233 (0,0))::(bh,Obj.cells #[.slice (some ⟨la,0,none⟩) L.length (L.length+aL.length),.map (some mb)] 231 (0,0))::(la,.cells (rows (eN .i64 L++aL)) 233 (0,0))::Cm):=fun hst=>A1 _ _ fun gs=>by
   refine Br.yes ?_
   refine az.whole (r:=enc .i64 a) zM rfl ?_
   refine ag.fn (.cons .here) (pS V0 (i:=j) (by omega) a) ?_
   rintro v C' ⟨rfl,bX⟩
   have hd:=hc.done Yx (by omega)
   rw[SY]at hd
   have hex:=I0 hu (by
    rw[←hcd]
    by_cases h0:n≤c
    ·exact .inl h0
    ·right
     rw[SY,Yn c (by omega)]
     rcases hst with h|h
     ·omega
     ·exact h)
   rw[←V3]at hex
   exact⟨_,_,rfl,.tail,rfl,_,_,bX,hp,hd,hex⟩
  refine DR.self ?_
  (repeat (first|refine Nil.ptr ?_|refine aa.mk ?_|refine Ld.mk zM rfl ?_|refine aG.mk ?_|refine ae.eql ?_|refine ae.neq ?_|refine ae.lss ?_|refine ae.leq ?_|refine ae.gtr ?_|refine ae.geq ?_|refine Un.not ?_|refine Ext.mk rfl ?_|refine aA.mk ?_|refine ae.aJ ?_|refine ae.bJ ?_|refine ae.bG ?_|refine Br.yes ?_|refine Br.no ?_))
  refine Br.dec (fun h0=>JE.mk (hstop (.inl (by omega)))) (fun h0=>?_)
  have h0:c<n:=by omega
  (repeat (first|refine Nil.ptr ?_|refine aa.mk ?_|refine Ld.mk zM rfl ?_|refine aG.mk ?_|refine ae.eql ?_|refine ae.neq ?_|refine ae.lss ?_|refine ae.leq ?_|refine ae.gtr ?_|refine ae.geq ?_|refine Un.not ?_|refine Ext.mk rfl ?_|refine aA.mk ?_|refine ae.aJ ?_|refine ae.bJ ?_|refine ae.bG ?_|refine Br.yes ?_|refine Br.no ?_))
  refine ah.nat (by omega) ?_
  refine az.row (l:=eN .i64 L++aL) zM aK (fH (by omega) aL) ?_
  refine az.whole (r:=enc .i64 a) zM rfl ?_
  intro F
  refine ag.rd .here (uz _ a _) ?_
  rintro v rfl
  refine⟨.refl _,Un.not ?_⟩
  cases Su:prec (bB L c) a with
  |false=>exact aA.mk (JE.mk (hstop (.inr Su)))
  |true=>
  refine aA.mk (JE.mk (A1 _ _ fun gs=>Br.no ?_))
  (repeat (first|refine Nil.ptr ?_|refine aa.mk ?_|refine Ld.mk zM rfl ?_|refine aG.mk ?_|refine ae.eql ?_|refine ae.neq ?_|refine ae.lss ?_|refine ae.leq ?_|refine ae.gtr ?_|refine ae.geq ?_|refine Un.not ?_|refine Ext.mk rfl ?_|refine aA.mk ?_|refine ae.aJ ?_|refine ae.bJ ?_|refine ae.bG ?_|refine Br.yes ?_|refine Br.no ?_))
  refine ah.nat (by omega) ?_
  refine az.row (l:=eN .i64 L++aL) zM aK (fH (by omega) aL) ?_
  refine ag.fn (.cons .here) (pS V0 (i:=j) (by omega) (bB L c)) ?_
  rintro v C' ⟨rfl,bX⟩
  have Ye:c≠j:=by omega
  have hst:=IZ hu (by rw[←hcd];exact h0) (by rw[←hcd,SY,Yn c Ye];exact Su)
  rw[←hcd]at hst
  have hcs:=hc.step Yx (i:=j) (q:=c) (by omega) (by omega) Ye
  have hpp:=(swap_perm (l:=L.set j a) (i:=j) (q:=c) (by omega) (by omega) Ye).trans hp
  have U3:(L.set j (bB L c)).set c a=((L.set j a).set j (bB (L.set j a) c)).set c (bB (L.set j a) j):=(s9 a (by omega) (by omega) Ye).symm
  have yL:bB ((L.set j (bB L c)).set c a)=gN (gN (bB (L.set j a)) j (bB (L.set j a) c)) c (bB (L.set j a) j):=by
   rw[U3,gJ _ (by simp;omega),gJ _ (by omega)]
  refine ay.mk ⟨c,_,_,C',rfl,rfl,bX,by simp[YB],by omega,?_,?_,?_⟩ ?_
  ·rw[U3];exact hpp
  ·rw[yL];exact hst
  ·rw[U3];rw[Yn c Ye]at hcs⊢;exact hcs
  ·simp only[bg,Int.toNat_natCast];omega
 intro J3 Wj
 have hkd:wq n (bB (L.set j a)) j=if(decide (2*j+1+1<n) &&prec (bB L (2*j+1+1)) (bB L (2*j+1)))=true then 2*j+1+1 else 2*j+1:=by
  unfold wq;rw[Yn _ (by omega),Yn _ (by omega)]
 rw[hkd]at hcd
 have hno:¬(2*j+1+1<n∧prec (bB L (2*j+1+1)) (bB L (2*j+1))=true)→J3 [.bool false] ((b6,Obj.cells (enc .i64 a).toArray 233 (0,0))::(bh,Obj.cells #[.slice (some ⟨la,0,none⟩) L.length (L.length+aL.length),.map (some mb)] 231 (0,0))::(la,.cells (rows (eN .i64 L++aL)) 233 (0,0))::Cm):=fun hx=>Wj _ _ fun gs=>by
  rw[if_neg (by simpa using hx)]at hcd
  rw[hcd]at iJ
  exact Br.no (.mk iJ)
 refine DR.self ?_
 refine ae.wO (c:=((2*j+1+1:Nat):Int)) (by omega) (by omega) ?_
 (repeat (first|refine Nil.ptr ?_|refine aa.mk ?_|refine Ld.mk zM rfl ?_|refine aG.mk ?_|refine ae.eql ?_|refine ae.neq ?_|refine ae.lss ?_|refine ae.leq ?_|refine ae.gtr ?_|refine ae.geq ?_|refine Un.not ?_|refine Ext.mk rfl ?_|refine aA.mk ?_|refine ae.aJ ?_|refine ae.bJ ?_|refine ae.bG ?_|refine Br.yes ?_|refine Br.no ?_))
 refine Br.dec (fun h0=>?_) (fun h0=>JE.mk (hno (fun h=>h0 (by omega))))
 have h0:2*j+1+1<n:=by omega
 (repeat (first|refine Nil.ptr ?_|refine aa.mk ?_|refine Ld.mk zM rfl ?_|refine aG.mk ?_|refine ae.eql ?_|refine ae.neq ?_|refine ae.lss ?_|refine ae.leq ?_|refine ae.gtr ?_|refine ae.geq ?_|refine Un.not ?_|refine Ext.mk rfl ?_|refine aA.mk ?_|refine ae.aJ ?_|refine ae.bJ ?_|refine ae.bG ?_|refine Br.yes ?_|refine Br.no ?_))
 refine ae.wO (c:=((2*j+1+1:Nat):Int)) (by omega) (by omega) ?_
 refine ah.nat (by omega) ?_
 refine az.row (l:=eN .i64 L++aL) zM aK (fH (by omega) aL) ?_
 (repeat (first|refine Nil.ptr ?_|refine aa.mk ?_|refine Ld.mk zM rfl ?_|refine aG.mk ?_|refine ae.eql ?_|refine ae.neq ?_|refine ae.lss ?_|refine ae.leq ?_|refine ae.gtr ?_|refine ae.geq ?_|refine Un.not ?_|refine Ext.mk rfl ?_|refine aA.mk ?_|refine ae.aJ ?_|refine ae.bJ ?_|refine ae.bG ?_|refine Br.yes ?_|refine Br.no ?_))
 refine ah.nat (by omega) ?_
 refine az.row (l:=eN .i64 L++aL) zM aK (fH (by omega) aL) ?_
 intro F
 refine ag.rd .here (uz _ _ _) ?_
 rintro v rfl
 refine⟨.refl _,?_⟩
 cases Su:prec (bB L (2*j+1+1)) (bB L (2*j+1))with
 |false=>exact aA.mk (JE.mk (hno (fun h=>by rw[Su]at h;exact absurd h.2 (by decide))))
 |true=>
 refine aA.mk (JE.mk (Wj _ _ fun gs=>Br.yes ?_))
 refine ae.wO (c:=((2*j+1+1:Nat):Int)) (by omega) (by omega) ?_
 rw[if_pos (by simp[h0,Su])]at hcd
 rw[hcd]at iJ
 exact .mk iJ
theorem QK(B:Hp):Fc Tryz.prog 76 #[] B (fun v H=>∃b C,v=.pointer (some ⟨b,0,none⟩)∧H=C++B∧RO (.pointer (some ⟨b,0,none⟩)) [] C):=by
 intro g
 refine JA (R:=aF _) ?_
 unfold L76
 refine Build.mk (cs:=[.slice none 0 0,.map none]) (by kernel_rfl) ?_
 intro b _
 exact⟨_,_,rfl,.refl _,b,[_],rfl,rfl,fun _=>none,⟨b,_,_,[],[],rfl,rfl,aS.nil _ _,.inl ⟨rfl,rfl,rfl⟩,fun _=>rfl⟩,⟨fun j hj=>by simp at hj,fun _ _=>rfl⟩,fun j _ hj=>by simp at hj,by simp[js]⟩
theorem MO{h:Value}{l:List It}{C:Hp}(hi:RO h l C)(bE:l.length<4398046511104)(x k:Int):
  Fc Tryz.prog 77 #[h,.int .i64 x,.int .i64 k] C (fun v C'=>∃l',RO h l' C'∧
   ((x∈l.map Prod.fst∧v=.int .i64 11∧l'=l)∨(x∉l.map Prod.fst∧v=.int .i64 0∧l'.Perm ((x,k)::l)))):=by
 have M7:=hi
 obtain⟨f,ho,hc,hO,h1⟩:=hi
 have V0:=ho
 obtain⟨bh,sv,mv,Cs,Cm,rfl,rfl,hs,hm,hne⟩:=ho
 intro g
 refine Jz (R:=aF _) ?_
 unfold L77
 (repeat (first|refine Nil.ptr ?_|refine aa.mk ?_|refine Ld.mk zM rfl ?_|refine aG.mk ?_|refine ae.eql ?_|refine ae.neq ?_|refine ae.lss ?_|refine ae.leq ?_|refine ae.gtr ?_|refine ae.geq ?_|refine Un.not ?_|refine Ext.mk rfl ?_|refine aA.mk ?_|refine ae.aJ ?_|refine ae.bJ ?_|refine ae.bG ?_|refine Br.yes ?_|refine Br.no ?_))
 rcases N8 hc (x:=x)with⟨hx,hf⟩|⟨i,hi,hx,hf⟩
 ·refine hm.Iq zS hf ?_
  (repeat (first|refine Nil.ptr ?_|refine aa.mk ?_|refine Ld.mk zM rfl ?_|refine aG.mk ?_|refine ae.eql ?_|refine ae.neq ?_|refine ae.lss ?_|refine ae.leq ?_|refine ae.gtr ?_|refine ae.geq ?_|refine Un.not ?_|refine Ext.mk rfl ?_|refine aA.mk ?_|refine ae.aJ ?_|refine ae.bJ ?_|refine ae.bG ?_|refine Br.yes ?_|refine Br.no ?_))
  intro J hJ
  obtain⟨vw,lA,Sw,VY⟩:=LZ (a:=(x,k)) hc hO h1 hx
  have iJ:∀mb Tk,jY .i64 idx (.map (some mb)) f Tk→J [] ((bh,Obj.cells #[sv,.map (some mb)] 231 (0,0))::(Cs++Tk)):=by
   intro mb Tk hm'
   refine hJ _ fun gs=>?_
   (repeat (first|refine Nil.ptr ?_|refine aa.mk ?_|refine Ld.mk zM rfl ?_|refine aG.mk ?_|refine ae.eql ?_|refine ae.neq ?_|refine ae.lss ?_|refine ae.leq ?_|refine ae.gtr ?_|refine ae.geq ?_|refine Un.not ?_|refine Ext.mk rfl ?_|refine aA.mk ?_|refine ae.aJ ?_|refine ae.bJ ?_|refine ae.bG ?_|refine Br.yes ?_|refine Br.no ?_))
   refine Build.mk (cs:=enc .i64 (x,k)) (by kernel_rfl) ?_
   refine av.one (k:=2) (e:=233) (z:=.agg #[.int .i64 0,.int .i64 0]) (by kernel_rfl) (by kernel_rfl) (by kernel_rfl) (by decide) rfl fun xb=>?_
   refine hs.Dg (A:=[_,_]) (B:=Tk) (r:=enc .i64 (x,k)) zM rfl (nL _ _) ⟨[.int .i64 0,.int .i64 0],rfl,rfl⟩ (by rw[cP];omega) (by rw[cP];omega) fun v' C' hs'=>?_
   (repeat (first|refine Nil.ptr ?_|refine aa.mk ?_|refine Ld.mk zM rfl ?_|refine aG.mk ?_|refine ae.eql ?_|refine ae.neq ?_|refine ae.lss ?_|refine ae.leq ?_|refine ae.gtr ?_|refine ae.geq ?_|refine Un.not ?_|refine Ext.mk rfl ?_|refine aA.mk ?_|refine ae.aJ ?_|refine ae.bJ ?_|refine ae.bG ?_|refine Br.yes ?_|refine Br.no ?_))
   refine St.one (by repeat (first|exact cJ.head _|apply cJ.tail|apply cJ.bI)) (by obtain⟨a,c,rfl⟩:=hs'.len;rfl) (by simp) rfl ?_
   (repeat (first|refine Nil.ptr ?_|refine aa.mk ?_|refine Ld.mk zM rfl ?_|refine aG.mk ?_|refine ae.eql ?_|refine ae.neq ?_|refine ae.lss ?_|refine ae.leq ?_|refine ae.gtr ?_|refine ae.geq ?_|refine Un.not ?_|refine Ext.mk rfl ?_|refine aA.mk ?_|refine ae.aJ ?_|refine ae.bJ ?_|refine ae.bG ?_|refine Br.yes ?_|refine Br.no ?_))
   refine hs'.aR ?_
   refine ae.mq (c:=((l.length:Nat):Int)) (by rw[List.length_append,cP];simp) (by omega) ?_
   have rJ:aS 233 2 v' (eN .i64 (l++[(x,k)])) C':=by simpa[eN]using hs'
   have bX:Pn (.pointer (some ⟨bh,0,none⟩)) (l++[(x,k)]) f ((bh,Obj.cells #[v',.map (some mb)] 231 (0,0))::(C'++Tk)):=
    ⟨bh,_,_,C',Tk,rfl,rfl,rJ,hm',fun h=>by simp at h⟩
   refine ag.pre (.tail) ?_
   refine ag.fn .here (Uz bX (i:=l.length) (by simp) (by simp;omega) vw lA Sw) ?_
   rintro v C'' ⟨rfl,l',f',p,nI,dP,hc2,hex,hp,yL,acJ⟩
   refine⟨_,_,rfl,.refl _,l',⟨f',nI,hc2,acJ VY,Sw.perm dP⟩,.inr ⟨hx,rfl,dP.trans ?_⟩⟩
   exact List.perm_append_comm (l₁:=l) (l₂:=[(x,k)])
  (repeat (first|refine Nil.ptr ?_|refine aa.mk ?_|refine Ld.mk zM rfl ?_|refine aG.mk ?_|refine ae.eql ?_|refine ae.neq ?_|refine ae.lss ?_|refine ae.leq ?_|refine ae.gtr ?_|refine ae.geq ?_|refine Un.not ?_|refine Ext.mk rfl ?_|refine aA.mk ?_|refine ae.aJ ?_|refine ae.bJ ?_|refine ae.bG ?_|refine Br.yes ?_|refine Br.no ?_))
  rcases hm with⟨rfl,rfl,hfn⟩|⟨mb,m,ck,rfl,h2⟩
  ·(repeat (first|refine Nil.ptr ?_|refine aa.mk ?_|refine Ld.mk zM rfl ?_|refine aG.mk ?_|refine ae.eql ?_|refine ae.neq ?_|refine ae.lss ?_|refine ae.leq ?_|refine ae.gtr ?_|refine ae.geq ?_|refine Un.not ?_|refine Ext.mk rfl ?_|refine aA.mk ?_|refine ae.aJ ?_|refine ae.bJ ?_|refine ae.bG ?_|refine Br.yes ?_|refine Br.no ?_))
   intro mb _
   (repeat (first|refine Nil.ptr ?_|refine aa.mk ?_|refine Ld.mk zM rfl ?_|refine aG.mk ?_|refine ae.eql ?_|refine ae.neq ?_|refine ae.lss ?_|refine ae.leq ?_|refine ae.gtr ?_|refine ae.geq ?_|refine Un.not ?_|refine Ext.mk rfl ?_|refine aA.mk ?_|refine ae.aJ ?_|refine ae.bJ ?_|refine ae.bG ?_|refine Br.yes ?_|refine Br.no ?_))
   refine St.one (by repeat (first|exact cJ.head _|apply cJ.tail|apply cJ.bI)) rfl (by simp) rfl ?_
   refine JE.of ?_ (iJ mb _ (by rw[hfn];exact jY.made mb))
   simp only[List.append_nil]
   refine .perm ?_
   refine(List.Perm.swap _ _ _).trans (.cons _ ?_)
   exact List.perm_append_comm (l₁:=[_])
  ·(repeat (first|refine Nil.ptr ?_|refine aa.mk ?_|refine Ld.mk zM rfl ?_|refine aG.mk ?_|refine ae.eql ?_|refine ae.neq ?_|refine ae.lss ?_|refine ae.leq ?_|refine ae.gtr ?_|refine ae.geq ?_|refine Un.not ?_|refine Ext.mk rfl ?_|refine aA.mk ?_|refine ae.aJ ?_|refine ae.bJ ?_|refine ae.bG ?_|refine Br.yes ?_|refine Br.no ?_))
   refine JE.mk ?_
   exact iJ mb Cm (.inr ⟨mb,m,ck,rfl,h2⟩)
 ·refine hm.Ip zS hf ?_
  (repeat (first|refine Nil.ptr ?_|refine aa.mk ?_|refine Ld.mk zM rfl ?_|refine aG.mk ?_|refine ae.eql ?_|refine ae.neq ?_|refine ae.lss ?_|refine ae.leq ?_|refine ae.gtr ?_|refine ae.geq ?_|refine Un.not ?_|refine Ext.mk rfl ?_|refine aA.mk ?_|refine ae.aJ ?_|refine ae.bJ ?_|refine ae.bG ?_|refine Br.yes ?_|refine Br.no ?_))
  refine⟨_,_,rfl,.refl _,l,M7,.inl ⟨?_,rfl,rfl⟩⟩
  rw[gV];exact⟨i,hi,hx⟩
theorem QH{h:Value}{l:List It}{C:Hp}(hi:RO h l C)(bE:l.length<4398046511104):
  Fc Tryz.prog 78 #[h] C (fun v C'=>∃l',RO h l' C'∧
   ((l=[]∧v=.tuple #[.int .i64 0,.int .i64 0,.int .i64 10]∧l'=l)∨(∃a,l.Perm (a::l')∧(∀b∈l,prec b a=false)∧v=.tuple #[.int .i64 a.1,.int .i64 a.2,.int .i64 0]))):=by
 have M7:=hi
 obtain⟨f,ho,hc,hO,h1⟩:=hi
 by_cases hl:l=[]
 ·subst hl
  intro g
  refine wV (R:=aF _) ?_
  unfold L78
  obtain⟨bh,sv,mv,Cs,Cm,rfl,rfl,hs,hm,hne⟩:=ho
  (repeat (first|refine Nil.ptr ?_|refine aa.mk ?_|refine Ld.mk zM rfl ?_|refine aG.mk ?_|refine ae.eql ?_|refine ae.neq ?_|refine ae.lss ?_|refine ae.leq ?_|refine ae.gtr ?_|refine ae.geq ?_|refine Un.not ?_|refine Ext.mk rfl ?_|refine aA.mk ?_|refine ae.aJ ?_|refine ae.bJ ?_|refine ae.bG ?_|refine Br.yes ?_|refine Br.no ?_))
  refine bM.or true (fun _=>?_) rfl fun _=>?_
  ·(repeat (first|refine Nil.ptr ?_|refine aa.mk ?_|refine Ld.mk zM rfl ?_|refine aG.mk ?_|refine ae.eql ?_|refine ae.neq ?_|refine ae.lss ?_|refine ae.leq ?_|refine ae.gtr ?_|refine ae.geq ?_|refine Un.not ?_|refine Ext.mk rfl ?_|refine aA.mk ?_|refine ae.aJ ?_|refine ae.bJ ?_|refine ae.bG ?_|refine Br.yes ?_|refine Br.no ?_))
   refine hs.aR ?_
   (repeat (first|refine Nil.ptr ?_|refine aa.mk ?_|refine Ld.mk zM rfl ?_|refine aG.mk ?_|refine ae.eql ?_|refine ae.neq ?_|refine ae.lss ?_|refine ae.leq ?_|refine ae.gtr ?_|refine ae.geq ?_|refine Un.not ?_|refine Ext.mk rfl ?_|refine aA.mk ?_|refine ae.aJ ?_|refine ae.bJ ?_|refine ae.bG ?_|refine Br.yes ?_|refine Br.no ?_))
   exact⟨rfl,rfl⟩
  ·(repeat (first|refine Nil.ptr ?_|refine aa.mk ?_|refine Ld.mk zM rfl ?_|refine aG.mk ?_|refine ae.eql ?_|refine ae.neq ?_|refine ae.lss ?_|refine ae.leq ?_|refine ae.gtr ?_|refine ae.geq ?_|refine Un.not ?_|refine Ext.mk rfl ?_|refine aA.mk ?_|refine ae.aJ ?_|refine ae.bJ ?_|refine ae.bG ?_|refine Br.yes ?_|refine Br.no ?_))
   exact⟨_,_,rfl,.refl _,[],M7,.inl ⟨rfl,rfl,rfl⟩⟩
 ·obtain⟨n,hn⟩:∃n,l.length=n+1:=⟨l.length-1,by have:=List.length_pos_iff.2 hl;omega⟩
  have hmin:∀b∈l,prec b (bB l 0)=false:=fun b hb=>by
   obtain⟨j,hj,e⟩:=List.mem_iff_getElem.1 hb
   have:=Qb hO j hj
   rwa [show bB l j=b by simp[bB,List.getD,hj,e]]at this
  intro g
  refine wV (R:=aF _) ?_
  obtain⟨bh,la,mb,aL,Cm,rfl,rfl,aK,hm⟩:=ho.open (by omega)
  unfold L78
  (repeat (first|refine Nil.ptr ?_|refine aa.mk ?_|refine Ld.mk zM rfl ?_|refine aG.mk ?_|refine ae.eql ?_|refine ae.neq ?_|refine ae.lss ?_|refine ae.leq ?_|refine ae.gtr ?_|refine ae.geq ?_|refine Un.not ?_|refine Ext.mk rfl ?_|refine aA.mk ?_|refine ae.aJ ?_|refine ae.bJ ?_|refine ae.bG ?_|refine Br.yes ?_|refine Br.no ?_))
  refine bM.or false (fun _=>?_) rfl fun _=>?_
  ·(repeat (first|refine Nil.ptr ?_|refine aa.mk ?_|refine Ld.mk zM rfl ?_|refine aG.mk ?_|refine ae.eql ?_|refine ae.neq ?_|refine ae.lss ?_|refine ae.leq ?_|refine ae.gtr ?_|refine ae.geq ?_|refine Un.not ?_|refine Ext.mk rfl ?_|refine aA.mk ?_|refine ae.aJ ?_|refine ae.bJ ?_|refine ae.bG ?_|refine Br.yes ?_|refine Br.no ?_))
   exact⟨rfl,by rw[hn];simp;omega⟩
  (repeat (first|refine Nil.ptr ?_|refine aa.mk ?_|refine Ld.mk zM rfl ?_|refine aG.mk ?_|refine ae.eql ?_|refine ae.neq ?_|refine ae.lss ?_|refine ae.leq ?_|refine ae.gtr ?_|refine ae.geq ?_|refine Un.not ?_|refine Ext.mk rfl ?_|refine aA.mk ?_|refine ae.aJ ?_|refine ae.bJ ?_|refine ae.bG ?_|refine Br.yes ?_|refine Br.no ?_))
  refine ah.of 0 rfl (by omega) ?_
  refine az.row (l:=eN .i64 l++aL) zM aK (fH (by omega) aL) ?_
  intro Pf _
  refine St.whole (r:=enc .i64 (bB l 0)) (by repeat (first|exact cJ.head _|apply cJ.tail|apply cJ.bI)) rfl rfl (nL _ _) ?_
  (repeat (first|refine Nil.ptr ?_|refine aa.mk ?_|refine Ld.mk zM rfl ?_|refine aG.mk ?_|refine ae.eql ?_|refine ae.neq ?_|refine ae.lss ?_|refine ae.leq ?_|refine ae.gtr ?_|refine ae.geq ?_|refine Un.not ?_|refine Ext.mk rfl ?_|refine aA.mk ?_|refine ae.aJ ?_|refine ae.bJ ?_|refine ae.bG ?_|refine Br.yes ?_|refine Br.no ?_))
  refine ae.mq (c:=(n:Int)) (by rw[hn];simp) (by omega) ?_
  (repeat (first|refine Nil.ptr ?_|refine aa.mk ?_|refine Ld.mk zM rfl ?_|refine aG.mk ?_|refine ae.eql ?_|refine ae.neq ?_|refine ae.lss ?_|refine ae.leq ?_|refine ae.gtr ?_|refine ae.geq ?_|refine Un.not ?_|refine Ext.mk rfl ?_|refine aA.mk ?_|refine ae.aJ ?_|refine ae.bJ ?_|refine ae.bG ?_|refine Br.yes ?_|refine Br.no ?_))
  refine ah.nat (by omega) ?_
  refine az.row (l:=eN .i64 l++aL) zM aK (fH (by omega) aL) ?_
  intro b27 _
  refine St.whole (r:=enc .i64 (bB l n)) (by repeat (first|exact cJ.head _|apply cJ.tail|apply cJ.bI)) rfl rfl (nL _ _) ?_
  (repeat (first|refine Nil.ptr ?_|refine aa.mk ?_|refine Ld.mk zM rfl ?_|refine aG.mk ?_|refine ae.eql ?_|refine ae.neq ?_|refine ae.lss ?_|refine ae.leq ?_|refine ae.gtr ?_|refine ae.geq ?_|refine Un.not ?_|refine Ext.mk rfl ?_|refine aA.mk ?_|refine ae.aJ ?_|refine ae.bJ ?_|refine ae.bG ?_|refine Br.yes ?_|refine Br.no ?_))
  refine gh.upto (h:=n) (by omega) ?_
  (repeat (first|refine Nil.ptr ?_|refine aa.mk ?_|refine Ld.mk zM rfl ?_|refine aG.mk ?_|refine ae.eql ?_|refine ae.neq ?_|refine ae.lss ?_|refine ae.leq ?_|refine ae.gtr ?_|refine ae.geq ?_|refine Un.not ?_|refine Ext.mk rfl ?_|refine aA.mk ?_|refine ae.aJ ?_|refine ae.bJ ?_|refine ae.bG ?_|refine Br.yes ?_|refine Br.no ?_))
  refine St.one (by repeat (first|exact cJ.head _|apply cJ.tail|apply cJ.bI)) rfl (by simp) rfl ?_
  refine DR.self ?_
  (repeat (first|refine Nil.ptr ?_|refine aa.mk ?_|refine Ld.mk zM rfl ?_|refine aG.mk ?_|refine ae.eql ?_|refine ae.neq ?_|refine ae.lss ?_|refine ae.leq ?_|refine ae.gtr ?_|refine ae.geq ?_|refine Un.not ?_|refine Ext.mk rfl ?_|refine aA.mk ?_|refine ae.aJ ?_|refine ae.bJ ?_|refine ae.bG ?_|refine Br.yes ?_|refine Br.no ?_))
  rw[←List.append_nil Cm]
  refine jY.del (A:=[_,_,_,_]) (B:=[]) hm fun Tk hm'=>?_
  rw[List.append_nil]
  have Ss:eN .i64 l++aL=eN .i64 (l.take n)++(enc .i64 (bB l n)::aL):=by
   have e:l=l.take n++[bB l n]:=by
    have h2:l.drop n=[bB l n]:=by
     rw[List.drop_eq_getElem_cons (by omega),List.drop_eq_nil_of_le (by omega)]
     simp[hn,bB,List.getD]
    have:=(List.take_append_drop n l).symm
    rw[h2]at this;exact this
   conv=>lhs;rw[e]
   simp[eN]
  have Nq:∀r∈eN .i64 (l.take n)++(enc .i64 (bB l n)::aL),r.length=2:=by rw[←Ss];exact aK
  intro J hJ
  have hlt:(l.take n).length=n:=by simp[hn]
  have iJ:∀l' C',RO (.pointer (some ⟨bh,0,none⟩)) l' C'→l.Perm (bB l 0::l')→J [] ((b27,Obj.cells (enc .i64 (bB l n)).toArray 233 (0,0))::(Pf,Obj.cells (enc .i64 (bB l 0)).toArray 233 (0,0))::C'):=by
   intro l' C' hi' UG
   refine hJ _ fun gs=>?_
   (repeat (first|refine Nil.ptr ?_|refine aa.mk ?_|refine Ld.mk zM rfl ?_|refine aG.mk ?_|refine ae.eql ?_|refine ae.neq ?_|refine ae.lss ?_|refine ae.leq ?_|refine ae.gtr ?_|refine ae.geq ?_|refine Un.not ?_|refine Ext.mk rfl ?_|refine aA.mk ?_|refine ae.aJ ?_|refine ae.bJ ?_|refine ae.bG ?_|refine Br.yes ?_|refine Br.no ?_))
   exact⟨_,_,rfl,.skip .tail,l',hi',.inr ⟨_,UG,hmin,rfl⟩⟩
  (repeat (first|refine Nil.ptr ?_|refine aa.mk ?_|refine Ld.mk zM rfl ?_|refine aG.mk ?_|refine ae.eql ?_|refine ae.neq ?_|refine ae.lss ?_|refine ae.leq ?_|refine ae.gtr ?_|refine ae.geq ?_|refine Un.not ?_|refine Ext.mk rfl ?_|refine aA.mk ?_|refine ae.aJ ?_|refine ae.bJ ?_|refine ae.bG ?_|refine Br.yes ?_|refine Br.no ?_))
  have Cd:Pn (.pointer (some ⟨bh,0,none⟩)) (l.take n) (AX f (bB l 0).1 none) ((bh,Obj.cells #[.slice (some ⟨la,0,none⟩) n (l.length+aL.length),.map (some mb)] 231 (0,0))::(la,.cells (rows (eN .i64 l++aL)) 233 (0,0))::Tk):=by
   rw[Ss]
   exact .shut Nq hlt.symm (by simp[hn];omega) hm'
  refine Br.mk (fun h0=>?_) (fun h0=>?_)
  ·have h0:0<n:=by simpa using h0
   obtain⟨_,q1,q2,q3,q4⟩:=P4 hc hO h1 hn h0
   refine az.whole (r:=enc .i64 (bB l n)) zM rfl ?_
   refine ag.fn (.cons (.cons .here)) (pS Cd (i:=0) (by omega) (bB l n)) ?_
   rintro v C2 ⟨rfl,nI⟩
   have II:lV ((l.take n).set 0 (bB l n)) (AX (AX f (bB l 0).1 none) (bB l n).1 (some 0)) 0:=by
    refine⟨fun j hj UR=>?_,fun x hx=>?_⟩
    ·unfold AX
     rw[if_neg]
     ·exact q4.1 j hj UR
     ·intro e
      have h00:bB ((l.take n).set 0 (bB l n)) 0=bB l n:=by rw[gJ _ (by omega)];simp[gN]
      exact UR (q3.inj hj (by simp;omega) (by rw[e,h00]))
    ·unfold AX
     rw[if_neg]
     ·exact q4.2 x hx
     ·intro e
      refine hx (gV.2 ⟨0,by simp;omega,?_⟩)
      rw[gJ _ (by omega)];simp[gN,e]
   refine ag.fn (.cons (.cons .here)) (Ng nI (i:=0) (by simp;omega) (by simp;omega) (by simpa[hn]using q2) II q3) ?_
   rintro v C3 ⟨rfl,l3,f3,yK,MP,hc3,XG⟩
   exact JE.mk (iJ l3 C3 ⟨f3,yK,hc3,XG,q3.perm MP⟩ ((MP.cons (bB l 0)).trans q1).symm)
  ·have h0:n=0:=by simp at h0;omega
   subst h0
   refine JE.mk (iJ (l.take 0) _ ⟨_,Cd,⟨fun j hj=>by simp at hj,fun x _=>?_⟩,fun j _ hj=>by simp at hj,by simp[js]⟩ ?_)
   ·unfold AX
    split
    ·rfl
    ·rename_i hne
     refine hc.2 x fun hm=>hne ?_
     obtain⟨j,hj,e⟩:=gV.1 hm
     rw[show j=0 by omega]at e;exact e.symm
   ·match l,hn with
    | [a],_=>exact .refl _
end Go.Proofs
namespace aj
open Go.Sx OJ
def nn(s k:Nat):It:=((s:Int),(k:Int))
variable {n:Nat} {c:Nat→Nat→Nat} {T:Nat} {D:List Nat} {l l':List It} {s i:Nat}
end aj
set_option maxRecDepth 100000
namespace Go.Proofs
open Go Go.Sx
open aZ OJ
theorem HB{pt n v:Nat}{T:Nd→Option Nat}{C:Hp}(h:ni pt n T C)(hv:v<n):
  Rd Tryz.prog 171 #[ptr pt,.int .i64 (v:Int)] C (fun r=>∃l:List (Nd×Nat),(l.map Prod.fst).Nodup∧(∀d r,(d,r)∈l↔T d=some r∧d.v=v)∧r=.tuple #[.int .i64 ((l.length:Nat):Int),.int .i64 0]):=by
 have h0:=h
 obtain⟨vs,Cs,ms,rfl,hs,ho⟩:=h
 obtain⟨m,hm⟩:∃m,ms[v]? =some m:=⟨_,List.getElem?_eq_getElem (by rw[ho.len];exact hv)⟩
 have he:=ho.rR v m hm
 have hT:∀d:Nd,d.v=v→T d=er m.l d:=fun d hd=>by rw[ho.T,hd,hm];rfl
 have hmem:∀d r,(d,r)∈m.l↔T d=some r∧d.v=v:=fun d r=>by
  constructor
  ·intro hx
   have hd:=ho.var v m hm _ hx
   exact⟨by rw[hT d hd];exact(jj he.nd).2 hx,hd⟩
  ·rintro⟨h1,h2⟩
   rw[hT d h2]at h1
   exact(jj he.nd).1 h1
 intro g
 refine EK (R:=aF _) ?_
 unfold L171
 refine ag.rd .here (j8 h0 hv) ?_
 rintro w rfl
 refine ae.dX (Br.cq (by simp) ?_)
 refine Nil.ptr ?_
 refine aa.mk (Ld.mk zM rfl ?_)
 refine hs.Se (x:=.map (some m.b)) (by rw[List.getElem?_map,hm];rfl) (fun _ h=>by exact .tail _ (List.mem_append_left _ h)) ?_
 refine he.Mo (b:=m.b) (by exact .tail _ (List.mem_append_right _ (pL hm))) ?_
 exact bO.mk (.refl _) ⟨m.l,he.nd,hmem,rfl⟩
section
variable {kp v gr:Nat} {K:Kd} {S:Nat→aZ.Fn} {ord tr:List Nat} {C:Hp}
theorem Iw{ax:List Nat}(h:c6 kp K ord ax tr C)(hv:v<K.n):Rd Tryz.prog 93 #[ptr kp,.int .i64 (v:Int)] C (fun r=>∃l:List (Nd×Nat),(l.map Prod.fst).Nodup∧(∀d r,(d,r)∈l↔K.T d=some r∧d.v=v)∧r=.tuple #[.int .i64 ((l.length:Nat):Int),.int .i64 0]):=by
 have h0:=h
 obtain⟨b,rfl,hO⟩:=h
 intro g
 refine Ju (R:=aF _) ?_
 unfold L93
 refine ae.aJ (Br.no ?_)
 refine ag.rd .here (xM h0 (v:Int)) ?_
 rintro r rfl
 rw[decide_eq_true (by omega)]
 refine Un.not (Br.no ?_)
 refine Nil.ptr (aa.mk (aa.mk (Ld.mk (v:=ptr b.pt) (by exact .head _) rfl ?_)))
 refine ag.rd (.cons (.app .left)) (HB hO.ut hv) ?_
 rintro r ⟨l,h1,h2,rfl⟩
 exact Ext.mk rfl (Ext.mk rfl (bO.mk (.refl _) ⟨l,h1,h2,rfl⟩))
theorem Oo(h:At kp K S ord tr C)(hv:v<K.n):Rd Tryz.prog 93 #[ptr kp,.int .i64 (v:Int)] C (fun r=>∃w:Nat,r=.tuple #[.int .i64 (w:Int),.int .i64 0]):=by
 obtain⟨K',S',fC,h,hk⟩:=h
 exact(Iw h.rep (by rw[hk.n];exact hv)).mono fun r H ⟨e,l,_,_,h3⟩=>⟨e,_,h3⟩
theorem QN{h:Value}{l:List It}{C:Hp}(hi:RO h l C):Rd Tryz.prog 184 #[h] C (· =.int .i64 ((l.length:Nat):Int)):=by
 obtain⟨f,⟨bh,sv,mv,Cs,Cm,rfl,rfl,hs,hm,hne⟩,_⟩:=hi
 intro g
 refine EB (R:=aF _) ?_
 unfold L184
 refine ae.aJ (Br.no ?_)
 refine Nil.ptr (aa.mk (Ld.mk (v:=sv) (by exact .head _) rfl ?_))
 refine hs.aR ?_
 rw[cP]
 exact bO.mk (.refl _) rfl
def sln:List Value→Nat
 | .slice _ n _::_=>n
 |_=>0
theorem LW(h:At kp K S ord tr C):Fc Tryz.prog 114 #[ptr kp] C (fun r H=>∃N l,H=N++C∧l.Perm (List.range K.n)∧aQ 3 .i64 r (iw l) N):=by
 have hn:=h.uY
 intro g
 refine Fv (R:=aF _) ?_
 unfold L114
 refine ae.aJ (Br.no ?_)
 refine ag.fn .here (QK C) ?_
 rintro w H ⟨bh,C0,rfl,rfl,M7⟩
 refine ag.rd (.app .here) (lG h) ?_
 rintro w rfl
 refine⟨fun vs H=>∃(i:Nat) (l:List It) (C':Hp),vs=[.int .i64 (i:Int)]∧i≤K.n∧H=C'++C∧RO (.pointer (some ⟨bh,0,none⟩)) l C'∧(l.map Prod.fst).Perm (iw (List.range i)),fun vs _=>K.n-bg vs 0,JE.mk ⟨0,[],C0,rfl,Nat.zero_le _,rfl,M7,.refl _⟩,?_⟩
 rintro w H ⟨i,l,C',hv,hi,rfl,hh,hp⟩ gs
 simp only[List.cons.injEq,and_true]at hv
 subst hv
 have A0:l.length=i:=by have:=hp.length_eq;simpa[iw]using this
 refine ae.dz (Br.dec (fun hlt=>?_) (fun hge=>?_))
 ·refine ag.rd (.app .here) (Oo h hlt) ?_
  rintro r ⟨w,rfl⟩
  refine Ext.mk rfl (Ext.mk rfl ?_)
  refine⟨_,rfl,?_⟩
  refine ag.fn .left (MO hh (by omega) _ _) ?_
  rintro r C2 ⟨l2,X2,⟨hin,_⟩|⟨_,rfl,dP⟩⟩
  ·exfalso
   have:=hp.mem_iff.1 hin
   rw[BR,List.mem_range]at this
   omega
  refine ae.aH (b:=1) (by simp[aB];omega) ?_
  refine ay.mk ⟨i+1,l2,C2,rfl,hlt,rfl,X2,?_⟩ (by simp only[bg];omega)
  refine(dP.map _).trans ?_
  rw[List.map_cons,List.range_succ,bT]
  exact(List.Perm.cons _ hp).trans (List.perm_append_comm (l₁:=[((i:Nat):Int)]))
 obtain rfl:i=K.n:=by omega
 refine⟨fun vs H=>∃(s:Value) (done:List Nat) (l:List It) (CS C':Hp),vs=[s]∧H=CS++(C'++C)∧RO (.pointer (some ⟨bh,0,none⟩)) l C'∧aQ 3 .i64 s (iw done) CS∧(iw done++l.map Prod.fst).Perm (iw (List.range K.n)),fun vs _=>K.n-sln vs,JE.mk ⟨_,[],l,[],C',rfl,rfl,hh,aQ.nil,hp⟩,?_⟩
 clear hp hh A0
 rintro w H ⟨s,done,l,CS,C',hv,rfl,hh,hs,hp⟩ gs
 simp only[List.cons.injEq,and_true]at hv
 subst hv
 have hlen:done.length+l.length=K.n:=by have:=hp.length_eq;simpa[iw]using this
 refine ag.rd (.app .left) (QN hh) ?_
 rintro r rfl
 refine ae.me (b:=0) (Br.dec (fun hlt=>?_) (fun hge=>?_))
 ·refine ag.fn (.app .left) (QH hh (by omega)) ?_
  rintro r C2 ⟨l2,X2,⟨rfl,_⟩|⟨a,dP,_,rfl⟩⟩
  ·simp at hlt
  have ha:a.1∈iw (List.range K.n):=hp.mem_iff.1 (List.mem_append_right _ (List.mem_map_of_mem (dP.mem_iff.2 (.head _))))
  obtain⟨x,hx,hxa⟩:=List.mem_map.1 ha
  refine Ext.mk rfl (Ext.mk rfl (Ext.mk rfl ?_))
  rw[←hxa]
  refine av.int (e:=3) (by kernel_rfl) (by kernel_rfl) (by kernel_rfl) fun bx=>?_
  refine hs.mW (x:=(x:Int)) (.cons .left) (by exact .head _) (by rw[an];omega) (by rw[an];omega) fun s2 CS2 rJ=>?_
  have lA:(iw (done++[x])++l2.map Prod.fst).Perm (iw (List.range K.n)):=by
   refine .trans ?_ hp
   rw[bT,List.append_assoc]
   refine List.Perm.append_left _ ?_
   refine .trans ?_ (dP.map _).symm
   rw[List.map_cons,←hxa]
   exact .refl _
  have e1:∀{s:Value} {done:List Nat} {CS:Hp},aQ 3 .i64 s (iw done) CS→sln [s]=done.length:=fun{s done CS} h=>by
   obtain⟨a,c,h⟩:=aS.len h
   rw[h];simp[sln,iw]
  refine ay.of .tail ⟨s2,done++[x],l2,CS2,C2,rfl,rfl,X2,by rw[bT];exact rJ,lA⟩ ?_
  rw[e1 (done:=done++[x]) (by rw[bT];exact rJ),e1 hs,List.length_append,List.length_singleton]
  have:=dP.length_eq
  rw[List.length_cons]at this
  omega
 ·have hl0:l=[]:=List.length_eq_zero_iff.1 (by omega)
  subst hl0
  rw[List.map_nil,List.append_nil]at hp
  obtain⟨l',hl',e⟩:=Gm hp
  rw[e]at hs
  exact aF.mk (aO.cL .right CS) ⟨CS,l',rfl,hl',hs⟩
theorem LI(h:At kp K S ord tr C)(hp:ord.Perm (List.range K.n))(qL:100≤gr∧gr≤1000)(ig:tr.length<274877906944):
  Fc Tryz.prog 47 #[ptr kp,.int .i64 (gr:Int)] C (fun v H=>∃l,l.Perm (List.range K.n)∧v=.tuple #[rep (bC K S ord) (bC K S (aE ord ((rm K S).cV gr ord l).1)) ((rm K S).cV gr ord l).2,.int .i64 0]∧At kp K S (aE ord ((rm K S).cV gr ord l).1) (tr++((rm K S).cV gr ord l).1) H):=by
 have hn:=h.uY
 have MM:(rm K S).n=K.n:=rfl
 intro g
 refine JR (R:=aF _) ?_
 unfold L47
 intro b1 _
 refine ag.rd (.cons .here) (s8 kp (gr:=(gr:Int)) C) ?_
 rintro w rfl
 rw[if_neg (by omega)]
 refine ae.dX (Br.cq (by simp) ?_)
 refine ag.rd (.cons .here) (cM h) ?_
 rintro w rfl
 refine Build.mk (cs:=[.int .i64 ((bC K S ord:Nat):Int),.int .i64 0,.int .i64 0,.bool false]) (by kernel_rfl) ?_
 intro mV _
 refine St.whole (r:=[.int .i64 ((bC K S ord:Nat):Int),.int .i64 0,.int .i64 0,.bool false]) (by exact .head _) rfl rfl (by simp[Value.oneCell']) ?_
 refine ag.fn (.cons (.cons .here)) (LW h) ?_
 rintro s H ⟨NQ,l,rfl,hl,hQ⟩
 have A0:l.length=K.n:=by rw[hl.length_eq,List.length_range]
 refine hQ.aR ?_
 rw[an,A0]
 refine⟨fun vs H=>∃(i:Nat) (C':Hp),vs=[.int .i64 (i:Int)]∧i≤K.n∧H=(mV,.cells (List.toArray [.int .i64 ((bC K S ord:Nat):Int),.int .i64 0,.int .i64 ((((rm K S).cV gr ord (l.take i)).2:Nat):Int),.bool false]) 42 (0,0))::(b1,.cells #[.int .i64 0,.int .i64 0,.int .i64 0,.bool false] 42 (0,0))::(NQ++C')∧At kp K S (aE ord ((rm K S).cV gr ord (l.take i)).1) (tr++((rm K S).cV gr ord (l.take i)).1) C',
  fun vs _=>K.n-bg vs 0,JE.mk ⟨0,C,rfl,Nat.zero_le _,rfl,by simpa[Rm.cV,aE]using h⟩,?_⟩
 rintro w H ⟨i,C',hv,hi,rfl,hA⟩ gs
 simp only[List.cons.injEq,and_true]at hv
 subst hv
 have hok:=xB (m:=rm K S) (g:=gr) (l:=l.take i) hp (fun v hv=>List.mem_range.1 (hl.mem_iff.1 (List.mem_of_mem_take hv)))
 have hlt:(l.take i).length≤64:=by rw[List.length_take];omega
 have h1:=hok.len
 have h2:=hok.Lz
 have h3:(rm K S).n*(l.take i).length≤64*64:=Nat.mul_le_mul hn hlt
 have h4:3*((rm K S).n-1)*(l.take i).length≤(3*64)*64:=Nat.mul_le_mul (Nat.mul_le_mul_left _ (by rw[MM];omega)) hlt
 have hpi:=nt hp hok.mem
 refine ae.dz (Br.dec (fun hlt=>?_) (fun hge=>?_))
 ·have Ci:i<l.length:=by omega
  have l8:l.take (i+1)=l.take i++[l[i]]:=List.take_succ_eq_append_getElem Ci
  refine hQ.ld (x:=((l[i]:Nat):Int)) (cj (List.getElem?_eq_getElem Ci)) (fun _ h=>.tail _ (.tail _ (List.mem_append_left _ h))) ?_
  have hvn:l[i]<K.n:=List.mem_range.1 (hl.mem_iff.1 (List.getElem_mem Ci))
  refine ag.fn (.cons (.cons (.app .here))) (PZ hA hpi hvn qL (by rw[List.length_append];omega) rfl) ?_
  rintro w C2 ⟨rfl,nV⟩
  have u4:=(rm K S).xC gr (ord:=aE ord ((rm K S).cV gr ord (l.take i)).1) (B9 hpi hvn)
  have GB:=u4.Lz
  rw[MM]at GB
  have QE:=vT (m:=rm K S) (g:=gr) (v:=l[i]) (l:=l.take i) (ord:=ord)
  rw[←l8]at QE
  rw[List.append_assoc,←jc]at nV
  refine Ext.mk rfl (Ext.mk rfl ?_)
  intro KG _
  refine St.whole (r:=[.int .i64 ((bC K S (aE ord ((rm K S).cV gr ord (l.take i)).1):Nat):Int),.int .i64 ((bC K S (aE (aE ord ((rm K S).cV gr ord (l.take i)).1) (road ((aE ord ((rm K S).cV gr ord (l.take i)).1).idxOf l[i]) ((rm K S).pC gr (aE ord ((rm K S).cV gr ord (l.take i)).1) ((aE ord ((rm K S).cV gr ord (l.take i)).1).idxOf l[i])).1)):Nat):Int),.int .i64 ((((rm K S).pC gr (aE ord ((rm K S).cV gr ord (l.take i)).1) ((aE ord ((rm K S).cV gr ord (l.take i)).1).idxOf l[i])).2:Nat):Int),.bool false]) (by exact .head _) rfl rfl (by simp[Value.oneCell']) ?_
  refine aa.mk (Ld.mk (by exact .tail _ (.head _)) rfl ?_)
  refine aa.mk (Ld.mk (by exact .head _) rfl ?_)
  refine ae.aH (by simp only[aB];omega) ?_
  refine aa.mk (St.one (c':=List.toArray [.int .i64 ((bC K S ord:Nat):Int),.int .i64 0,.int .i64 ((((rm K S).cV gr ord (l.take (i+1))).2:Nat):Int),.bool false]) (by exact .tail (.head _)) rfl (by simp) (by rw[QE];rfl) ?_)
  refine ae.aH (b:=1) (by simp[aB];omega) ?_
  exact ay.of .tail ⟨i+1,C2,rfl,hlt,rfl,by rw[QE];exact nV⟩ (by simp only[bg];omega)
 obtain rfl:i=K.n:=by omega
 rw[show l.take K.n=l from by rw[←A0];exact List.take_length]at hA⊢
 refine ag.rd (.cons (.cons (.app .here))) (cM hA) ?_
 rintro w rfl
 refine aa.mk (St.one (c':=List.toArray [.int .i64 ((bC K S ord:Nat):Int),.int .i64 ((bC K S (aE ord ((rm K S).cV gr ord l).1):Nat):Int),.int .i64 ((((rm K S).cV gr ord l).2:Nat):Int),.bool false]) (by exact .head _) rfl (by simp) rfl ?_)
 refine az.whole (r:=[.int .i64 ((bC K S ord:Nat):Int),.int .i64 ((bC K S (aE ord ((rm K S).cV gr ord l).1):Nat):Int),.int .i64 ((((rm K S).cV gr ord l).2:Nat):Int),.bool false]) (by exact .head _) rfl ?_
 refine St.whole (r:=[.int .i64 ((bC K S ord:Nat):Int),.int .i64 ((bC K S (aE ord ((rm K S).cV gr ord l).1):Nat):Int),.int .i64 ((((rm K S).cV gr ord l).2:Nat):Int),.bool false]) (by exact .tail (.head _)) rfl rfl (by simp[Value.oneCell']) ?_
 refine az.whole (r:=[.int .i64 ((bC K S ord:Nat):Int),.int .i64 ((bC K S (aE ord ((rm K S).cV gr ord l).1):Nat):Int),.int .i64 ((((rm K S).cV gr ord l).2:Nat):Int),.bool false]) (by exact .tail _ (.head _)) rfl ?_
 exact aF.mk (.skip (.skip .right)) ⟨l,hl,rfl,hA⟩
end
end Go.Proofs
set_option maxRecDepth 100000
namespace Go.Proofs
open Go Go.Sx
open aZ
section
variable {kp mb A5 b1 b7 yp bn:Nat} {K:Kd} {S:Nat→aZ.Fn} {ord ax tr:List Nat} {C:Hp}
def kr(r:Nat):Value:=u32 r
theorem tD(a b:Nat):Instr.sameNow (.int .u32) (kr a) (kr b)=some (decide (a=b)):=by
 simp only[Instr.sameNow,kr,u32,if_true,Option.some.injEq]
 rw[Bool.eq_iff_iff];simp;omega
theorem xN(a:Nat):Instr.sameBits 10000 (kr a) (kr a)=true:=by simp[Instr.sameBits,kr,u32]
structure Kn(n:Nat)(S:Nat→aZ.Fn)(es:Array MapEntry)(ck:Nat)(m:List (Nat×Value))(Y:Hp):Prop where
 rR:bu kr (fun v x=>v=x) es ck m
 jL:∀r v,er m r=some v→iB Y v n (S r)
 low:∀r,r<2→er m r≠none
theorem Kn.mono{n:Nat}{S:Nat→aZ.Fn}{es:Array MapEntry}{ck:Nat}{m:List (Nat×Value)}{Y Y':Hp}(h:Kn n S es ck m Y)(hs:∀x∈Y,x∈Y'):Kn n S es ck m Y':=⟨h.rR,fun r v hm=>(h.jL r v hm).mono hs,h.low⟩
theorem iB.one{B:Hp}{v:Value}{n:Nat}{f:aZ.Fn}(h:iB B v n f):∃s,v=.agg #[.int .i64 (n:Int),s]∧s.oneCell'=true:=by
 obtain⟨ws,⟨s,rfl,hw⟩,_,_⟩:=h
 exact⟨s,rfl,aD hw⟩
theorem cW{n:Nat}{s:Value}(h:s.oneCell'=true):∀u∈[Value.int .i64 (n:Int),s],u.oneCell'=true:=fun u hu=>by
 simp only[List.mem_cons,List.not_mem_nil,or_false]at hu
 rcases hu with rfl|rfl
 ·rfl
 ·exact h
theorem qC(d:Nd):∀u∈aT d,u.oneCell'=true:=fun u hu=>by
 simp only[aT,List.mem_cons,List.not_mem_nil,or_false]at hu
 rcases hu with rfl|rfl|rfl<;>rfl
theorem Ob{X:Hp}(h:lR kp K S ord ax tr C){r:Nat}{d:Nd}(hd:K.N r=some d):Px Tryz.prog 217 #[ptr kp,u32 r] (X++C) (fun v _=>v=.agg (aT d).toArray):=by
 have hlt:=h.fN (.inr ⟨d,hd⟩)
 intro g
 refine Ee (R:=aF _) ?_
 unfold L217
 intro b1 _
 refine ag.rd (args:=#[ptr kp,u32 r]) (.cons (.app .here)) (tF h.rep (by omega)) ?_
 rintro v rfl
 rw[kE hd (h.ok.mid.two hd).1]
 refine Ext.mk rfl (Ext.mk rfl ?_)
 intro b7 _
 refine St.whole (r:=aT d) (by exact .head _) rfl rfl (qC d) ?_
 refine az.whole (r:=aT d) (by exact .head _) rfl ?_
 refine St.whole (r:=aT d) (by exact .tail (.head _)) rfl rfl (qC d) ?_
 refine az.whole (r:=aT d) (by exact .tail _ (.head _)) rfl ?_
 exact oV.mk (by repeat (first|exact aV.refl _|apply aV.cons|apply aV.app)) rfl
theorem Oc{X:Hp}{v:Value}(h:lR kp K S ord ax tr C){rs:List Nat}(hv:bW .u32 (X++C) v (iw rs))(hr:∀r∈rs,live K.N r)(hl:rs.length<4611686018427387904):Px Tryz.prog 150 #[ptr kp,v] (X++C) (fun w _=>w=.int .i64 0):=by
 intro g
 refine E5 (R:=aF _) ?_
 unfold L150
 refine ae.aJ (Br.no ?_)
 refine hv.aR ?_
 rw[an]
 refine⟨fun vs H=>∃(i:Nat) (N:Hp),vs=[.int .i64 (i:Int)]∧i≤rs.length∧H=N++(X++C),fun vs _=>rs.length-bg vs 0,JE.mk ⟨0,[],rfl,Nat.zero_le _,rfl⟩,?_⟩
 rintro w H ⟨i,N,hw,hi,rfl⟩ gs
 simp only[List.cons.injEq,and_true]at hw
 subst hw
 refine ae.dz (Br.dec (fun hlt=>?_) (fun hge=>?_))
 ·have xU:=hr _ (List.getElem_mem hlt)
  have dF:=h.fN xU
  refine hv.ld (n:=((rs[i]:Nat):Int)) (cj (List.getElem?_eq_getElem hlt)) (fun _ h=>List.mem_append_right _ h) ?_
  refine ag.rd (args:=#[ptr kp,u32 rs[i]]) (.app (.app .here)) (tF h.rep (by omega)) ?_
  rintro v rfl
  rw[if_pos (cU.2 xU)]
  refine Ext.mk rfl (Ext.mk rfl ?_)
  intro qb _
  refine St.whole (r:=got K.N rs[i]) (by exact .head _) rfl (dH _ _).1 (dH _ _).2 ?_
  refine ae.dX (Br.cq (by simp) ?_)
  refine ae.aH (b:=1) (by simp[aB];omega) ?_
  exact ay.mk ⟨i+1,_::N,rfl,hlt,rfl⟩ (by simp only[bg];omega)
 ·exact oV.mk (by repeat (first|exact aV.refl _|apply aV.cons|apply aV.app)) rfl
theorem NN{X:Hp}{n:Nat}(hn:n≤16){d:Nd}(hd:d.v<n){v1 v2:Value}{f1 f2:aZ.Fn}(h1:iB X v1 n f1)(h2:iB X v2 n f2)(hm:(bn,Obj.cells #[.int .i64 (n:Int)] 3 (0,0))∈X):
  Px Tryz.prog 152 #[.agg (aT d).toArray,v1,v2,ptr bn] X (fun w H=>iB H w n (fun x=>if x.testBit d.v then f2 x else f1 x)):=by
 obtain⟨s1,rfl,o1⟩:=h1.one
 obtain⟨s2,rfl,o2⟩:=h2.one
 intro g
 refine E3 (R:=aF _) ?_
 unfold L152
 intro c1 _ c3 _ c5 _ c7 _
 refine Ld.mk (v:=.int .i64 (n:Int)) (by exact .tail _ (.tail _ (.tail _ (.tail _ hm)))) rfl ?_
 refine aa.mk (Ld.mk (v:=.int .i64 (d.v:Int)) (by exact .tail _ (.tail _ (.tail _ (.head _)))) rfl ?_)
 refine ag.px (cy.left (C:=[]) (A:=_)) (PM hn hd []) ?_
 rintro w N ⟨t,rfl,ht⟩
 rw[List.append_nil]at ht⊢
 obtain⟨s3,rfl,o3⟩:=ht.one
 refine Ext.mk rfl (Ext.mk rfl ?_)
 intro Td _
 refine St.whole (r:=[.int .i64 (n:Int),s3]) (by exact .head _) rfl rfl (cW o3) ?_
 refine az.whole (r:=[.int .i64 (n:Int),s3]) (by exact .head _) rfl ?_
 refine az.whole (r:=[.int .i64 (n:Int),s2]) (by exact .tail _ (List.mem_append_right _ (.tail _ (.head _)))) rfl ?_
 refine az.whole (r:=[.int .i64 (n:Int),s1]) (by exact .tail _ (List.mem_append_right _ (.tail _ (.tail _ (.head _))))) rfl ?_
 refine ag.pre (.perm (.cons _ (List.perm_middle.trans (.cons _ (List.perm_middle.trans (.cons _ (List.perm_middle.trans (.cons _ List.perm_middle)))))))) ?_
 refine ag.px (.cons (.cons (.cons (.cons (.cons .here))))) (PO (B:=N++X) (ht.mono fun _ h=>List.mem_append_left _ h) (h2.mono fun _ h=>List.mem_append_right _ h) (h1.mono fun _ h=>List.mem_append_right _ h)) ?_
 rintro w N2 ⟨t4,rfl,ht4⟩
 obtain⟨s4,rfl,o4⟩:=ht4.one
 refine Ext.mk rfl (Ext.mk rfl ?_)
 intro c26 _
 refine St.whole (r:=[.int .i64 (n:Int),s4]) (by exact .head _) rfl rfl (cW o4) ?_
 refine az.whole (r:=[.int .i64 (n:Int),s4]) (by exact .head _) rfl ?_
 refine St.whole (r:=[.int .i64 (n:Int),s4]) (by exact .tail (.tail (.head _))) rfl rfl (cW o4) ?_
 refine az.whole (r:=[.int .i64 (n:Int),s4]) (by exact .tail _ (.tail _ (.head _))) rfl ?_
 refine oV.mk (by repeat (first|exact aV.refl _|apply aV.cons|apply aV.app)) (ht4.mono ?_)
 intro x hx
 repeat (first|exact hx|apply List.mem_cons_of_mem)
theorem Y7(h:lR kp K S ord ax tr C)(hn:K.n≤16){Z0:Hp}(h19:(A5,Obj.cells #[.map (some mb)] 295 (0,0))∈Z0)(h1:(b1,Obj.cells #[ptr kp] 26 (0,0))∈Z0)(h7:(b7,Obj.cells #[.func (.func 152) #[] #[ptr bn]] 221 (0,0))∈Z0)
 (h22:(yp,Obj.cells #[.func (.func 216) #[] #[ptr A5,ptr b1,ptr b7,ptr yp]] 296 (0,0))∈Z0)(Wc:(bn,Obj.cells #[.int .i64 (K.n:Int)] 3 (0,0))∈Z0):
  ∀(k r:Nat) (es:Array MapEntry) (ck:Nat) (m:List (Nat×Value)) (Z:Hp),K.n-dep K.n (lv ax) K.N r≤k→live K.N r→(∀x∈Z0,x∈Z)→Kn K.n S es ck m Z→
  Fc Tryz.prog 216 #[u32 r,ptr A5,ptr b1,ptr b7,ptr yp] ((mb,.map es ck)::(Z++C)) (fun v H=>∃es' eU m' N,H=(mb,.map es' eU)::(N++(Z++C))∧Kn K.n S es' eU m' (N++Z)∧iB (N++Z) v K.n (S r)):=by
 have hit:∀{r:Nat} {es:Array MapEntry} {ck:Nat} {m:List (Nat×Value)} {Z:Hp} {v:Value},(∀x∈Z0,x∈Z)→Kn K.n S es ck m Z→er m r=some v→
   Fc Tryz.prog 216 #[u32 r,ptr A5,ptr b1,ptr b7,ptr yp] ((mb,.map es ck)::(Z++C)) (fun v H=>∃es' eU m' N,H=(mb,.map es' eU)::(N++(Z++C))∧Kn K.n S es' eU m' (N++Z)∧iB (N++Z) v K.n (S r)):=by
  intro r es ck m Z v hZ hm hv g
  obtain⟨s,rfl,hs⟩:=(hm.jL r v hv).one
  refine uH (R:=aF _) ?_
  unfold L216
  intro c1 _
  refine Ld.mk (v:=.map (some mb)) (by exact .tail _ (.tail _ (List.mem_append_left _ (hZ _ h19)))) rfl ?_
  refine hm.rR.hit (k:=r) tD (b:=mb) (by exact .tail _ (.head _)) hv fun v' e=>?_
  subst e
  refine Ext.mk rfl (Ext.mk rfl ?_)
  intro c7 _
  refine St.whole (r:=[.int .i64 (K.n:Int),s]) (by exact .head _) rfl rfl (cW hs) ?_
  refine Br.yes ?_
  refine az.whole (r:=[.int .i64 (K.n:Int),s]) (by exact .head _) rfl ?_
  refine St.whole (r:=[.int .i64 (K.n:Int),s]) (by exact .tail (.head _)) rfl rfl (cW hs) ?_
  refine az.whole (r:=[.int .i64 (K.n:Int),s]) (by exact .tail _ (.head _)) rfl ?_
  exact aF.mk (.skip .tail) ⟨es,ck,m,[],rfl,hm,hm.jL r _ hv⟩
 intro k
 induction k with
 |zero=>
  intro r es ck m Z hk hr hZ hm
  have nS:r<2:=by
   cases hN:K.N r with
   |some d=>
    have:=h.ok.wf.iA h.ok.lv r
    rw[aM hN]at hk
    have:=h.ok.lv.lt _ (h.ok.mid.var hN);omega
   |none=>
    rcases hr with hr|⟨d,e⟩
    ·exact hr
    ·rw[hN]at e;cases e
  cases hv:er m r with
  |none=>exact absurd hv (hm.low r nS)
  |some v=>exact hit hZ hm hv
 |succ k ih=>
  intro r es ck m Z hk hr hZ hm
  cases hv:er m r with
  |some v=>exact hit hZ hm hv
  |none=>
  have nS:¬r<2:=fun h2=>hm.low r h2 hv
  obtain⟨d,hN⟩:∃d,K.N r=some d:=by
   rcases hr with hr|hr
   ·omega
   ·exact hr
  have Cr:=h.ok.mid.var hN
  have hlo:=h.ok.wf.lo hN
  have hhi:=h.ok.wf.hi hN
  have hdl:=h.ok.wf.iA h.ok.lv r
  rw[aM hN]at hk
  have hvl:=h.ok.lv.lt _ Cr
  have Yr:S r=fun x=>if x.testBit d.v then S d.hi x else S d.lo x:=funext fun x=>h.ok.mid.int.node hN x
  intro g
  refine uH (R:=aF _) ?_
  unfold L216
  intro c1 _
  refine Ld.mk (v:=.map (some mb)) (by exact .tail _ (.tail _ (List.mem_append_left _ (hZ _ h19)))) rfl ?_
  refine hm.rR.cg (k:=r) tD (b:=mb) (by exact .tail _ (.head _)) hv ?_
  refine Ext.mk rfl (Ext.mk rfl ?_)
  intro c7 _
  refine St.whole (r:=[.int .i64 0,.slice none 0 0]) (by exact .head _) rfl rfl (by simp[Value.oneCell']) ?_
  refine Br.no ?_
  refine Ld.mk (v:=ptr kp) (by exact .tail _ (.tail _ (.tail _ (List.mem_append_left _ (hZ _ h1))))) rfl ?_
  refine ag.px (args:=#[ptr kp,u32 r]) (.cons (.cons (.cons .here))) (Ob (X:=Z) h hN) ?_
  rintro w N0 rfl
  intro Td _
  refine St.whole (r:=aT d) (by exact .head _) rfl rfl (qC d) ?_
  obtain⟨Z1,Yl⟩:∃Z1,Z1=(Td,Obj.cells (aT d).toArray 161 (0,0))::(N0++Z):=⟨_,rfl⟩
  have Nu:∀x∈Z,x∈Z1:=fun x hx=>by rw[Yl];exact .tail _ (List.mem_append_right _ hx)
  have M9:aO (Z1++C) ((Td,Obj.cells (aT d).toArray 161 (0,0))::Z):=by rw[Yl];exact aO.left.trans (.cons .right)
  have vw:((Td,Obj.cells (aT d).toArray 161 (0,0))::(c7,.cells (List.toArray [.int .i64 0,.slice none 0 0]) 57 (0,0))::(c1,.cells #[.int .i64 0,.slice none 0 0] 57 (0,0))::(mb,Obj.map es ck)::(N0++(Z++C))).Perm
    ((c1,.cells #[.int .i64 0,.slice none 0 0] 57 (0,0))::(c7,.cells (List.toArray [.int .i64 0,.slice none 0 0]) 57 (0,0))::(mb,Obj.map es ck)::(Z1++C)):=by
   rw[Yl,List.cons_append,List.append_assoc]
   refine(List.Perm.swap _ _ _).trans ?_
   refine(List.Perm.cons _ (List.Perm.swap _ _ _)).trans ?_
   refine(List.Perm.swap _ _ _).trans (.cons _ (.cons _ (.swap _ _ _)))
  have hR0:aO ((Td,Obj.cells (aT d).toArray 161 (0,0))::(c7,.cells (List.toArray [.int .i64 0,.slice none 0 0]) 57 (0,0))::(c1,.cells #[.int .i64 0,.slice none 0 0] 57 (0,0))::(mb,Obj.map es ck)::(N0++(Z++C))) ((Td,Obj.cells (aT d).toArray 161 (0,0))::Z):=
   .cons (.skip (.skip (.skip (.bN .left))))
  refine DR.of hR0 ?_
  refine Ld.mk (v:=.func (.func 152) #[] #[ptr bn]) (by exact .tail _ (hZ _ h7)) rfl ?_
  refine az.whole (r:=aT d) (by exact .head _) rfl ?_
  refine Ld.mk (v:=.func (.func 216) #[] #[ptr A5,ptr b1,ptr b7,ptr yp]) (by exact .tail _ (hZ _ h22)) rfl ?_
  refine aa.mk (Ld.mk (v:=u32 d.lo) (by exact .head _) rfl ?_)
  refine Ld.mk (v:=.func (.func 216) #[] #[ptr A5,ptr b1,ptr b7,ptr yp]) (by exact .tail _ (hZ _ h22)) rfl ?_
  refine aa.mk (Ld.mk (v:=u32 d.hi) (by exact .head _) rfl ?_)
  intro F
  refine fx.of rfl (by kernel_rfl) ?_
  refine ag.pre (.perm vw) ?_
  refine ag.fn (args:=#[u32 d.lo,ptr A5,ptr b1,ptr b7,ptr yp]) (.cons (.cons .here)) (ih d.lo es ck m Z1 (by omega) hlo.1 (fun x hx=>Nu _ (hZ x hx)) (hm.mono Nu)) ?_
  rintro v1 H ⟨rQ,qa,m1,N1,rfl,GC,VX⟩
  refine⟨.skip (.skip (.skip (.bN M9))),?_⟩
  rw[←List.append_assoc]
  intro F
  refine fx.of rfl (by kernel_rfl) ?_
  refine ag.fn (args:=#[u32 d.hi,ptr A5,ptr b1,ptr b7,ptr yp]) (.cons (.cons .here)) (ih d.hi rQ qa m1 (N1++Z1) (by omega) hhi.1 (fun x hx=>List.mem_append_right _ (Nu _ (hZ x hx))) GC) ?_
  rintro v2 H ⟨qm,rT,m2,N2,rfl,wy,Sp⟩
  refine⟨.skip (.skip (.skip (.bN (aO.assoc.trans (.bN M9))))),?_⟩
  rw[←List.append_assoc]
  intro F
  refine fx.of rfl (by kernel_rfl) ?_
  refine ag.px (args:=#[.agg (aT d).toArray,v1,v2,ptr bn]) (.cons (.cons (.cons .left))) (NN (bn:=bn) hn Cr (VX.mono fun _ h=>List.mem_append_right _ h) Sp (List.mem_append_right _ (List.mem_append_right _ (Nu _ (hZ _ Wc))))) ?_
  intro v3 N3 UB
  rw[←Yr]at UB
  refine⟨.skip (.skip (.skip (aO.assoc.trans (.bN (aO.assoc.trans (.bN (aO.assoc.trans (.bN M9)))))))),?_⟩
  obtain⟨s3,rfl,o3⟩:=UB.one
  intro c37 _
  intro F
  refine St.whole (r:=[.int .i64 (K.n:Int),s3]) (by exact .head _) rfl rfl (cW o3) ?_
  refine Ld.mk (v:=.map (some mb)) (by exact .tail _ (.tail _ (.tail _ (.tail _ (List.mem_append_left _ (List.mem_append_right _ (List.mem_append_right _ (List.mem_append_right _ (Nu _ (hZ _ h19)))))))))) rfl ?_
  refine az.whole (r:=[.int .i64 (K.n:Int),s3]) (by exact .head _) rfl ?_
  refine wy.rR.cz (k:=r) (b:=mb) (x:=.agg #[.int .i64 (K.n:Int),s3]) tD xN rfl fun Wl Wm he=>⟨_,.tail (.tail (.tail (.head _))),?_⟩
  refine az.whole (r:=[.int .i64 (K.n:Int),s3]) (by exact .head _) rfl ?_
  refine St.whole (r:=[.int .i64 (K.n:Int),s3]) (by exact .tail (.head _)) rfl rfl (cW o3) ?_
  refine az.whole (r:=[.int .i64 (K.n:Int),s3]) (by exact .tail _ (.head _)) rfl ?_
  have hmem:∀x∈N3++(N2++(N1++Z1)),x∈(N3++(N2++(N1++((Td,Obj.cells (aT d).toArray 161 (0,0))::N0))))++Z:=fun x hx=>by
   rw[Yl]at hx
   simpa only[List.append_assoc,List.cons_append]using hx
  refine aF.mk (.skip (.skip .tail)) ⟨Wl,Wm,gU m2 r (.agg #[.int .i64 (K.n:Int),s3]),N3++(N2++(N1++((Td,Obj.cells (aT d).toArray 161 (0,0))::N0))),by rw[Yl];simp only[List.append_assoc,List.cons_append],⟨he,fun r' v' xQ=>?_,fun r' hr'=>?_⟩,UB.mono hmem⟩
  ·rw[gp]at xQ
   split at xQ
   ·rename_i e
    subst e
    cases xQ
    exact UB.mono hmem
   ·exact(wy.jL r' v' xQ).mono fun x hx=>hmem x (List.mem_append_right _ hx)
  ·rw[gp]
   split
   ·simp
   ·exact wy.low r' hr'
end
section
variable {kp bn:Nat} {K:Kd} {S:Nat→aZ.Fn} {ord ax tr:List Nat} {C:Hp}
theorem Ro(h:lR kp K S ord ax tr C)(hn:K.n≤16){r:Nat}(hr:live K.N r){X:Hp}{v0 v1:Value}(hv0:iB X v0 K.n (fun _=>false))(AZ:iB X v1 K.n (fun _=>true))(Wc:(bn,Obj.cells #[.int .i64 (K.n:Int)] 3 (0,0))∈X):
  Fc Tryz.prog 151 #[ptr kp,u32 r,v0,v1,.func (.func 152) #[] #[ptr bn]] (X++C) (fun v H=>∃N,H=N++(X++C)∧iB (N++X) v K.n (S r)):=by
 obtain⟨s0,rfl,o0⟩:=hv0.one
 obtain⟨s1,rfl,o1⟩:=AZ.one
 have hi:=h.ok.mid.int
 intro g
 refine E4 (R:=aF _) ?_
 unfold L151
 intro b1 _ b3 _ b5 _ b7 _ b9 _ mb _
 refine az.whole (r:=[.int .i64 (K.n:Int),s0]) (by exact .tail _ (.tail _ (.tail _ (.tail _ (.head _))))) rfl ?_
 refine bu.cz (ke:=kr) (vr:=fun v x=>v=x) (k:=0) (b:=mb) (x:=Value.agg #[.int .i64 (K.n:Int),s0]) tD xN bu.empty rfl fun rQ qa Wa=>⟨_,.head _,?_⟩
 refine az.whole (r:=[.int .i64 (K.n:Int),s1]) (by exact .tail _ (.tail _ (.tail _ (.head _)))) rfl ?_
 refine bu.cz (ke:=kr) (vr:=fun v x=>v=x) (k:=1) (b:=mb) (x:=Value.agg #[.int .i64 (K.n:Int),s1]) tD xN Wa rfl fun qm rT V9=>⟨_,.head _,?_⟩
 intro A5 _
 refine St.one (c':=#[.map (some mb)]) (by exact .head _) rfl (by simp) rfl ?_
 intro yp _
 refine St.one (c':=#[.func (.func 216) #[] #[ptr A5,ptr b1,ptr b7,ptr yp]]) (by exact .head _) rfl (by simp) rfl ?_
 refine Ld.mk (v:=.func (.func 216) #[] #[ptr A5,ptr b1,ptr b7,ptr yp]) (by exact .head _) rfl ?_
 refine fx.of rfl (by kernel_rfl) ?_
 obtain⟨Z0,SW⟩:∃Z0:Hp,Z0=(yp,Obj.cells #[.func (.func 216) #[] #[ptr A5,ptr b1,ptr b7,ptr yp]] 296 (0,0))::(A5,.cells #[.map (some mb)] 295 (0,0))::(b7,.cells #[.func (.func 152) #[] #[ptr bn]] 221 (0,0))::(b5,.cells (Value.cells (.agg #[.int .i64 (K.n:Int),s1])) 57 (0,0))::(b3,.cells (Value.cells (.agg #[.int .i64 (K.n:Int),s0])) 57 (0,0))::(b1,.cells #[ptr kp] 26 (0,0))::X:=⟨_,rfl⟩
 have hXZ:∀x∈X,x∈Z0:=fun x hx=>by rw[SW];exact .tail _ (.tail _ (.tail _ (.tail _ (.tail _ (.tail _ hx)))))
 refine ag.pre (H':=(b9,Obj.cells #[.int .i64 0,.slice none 0 0] 57 (0,0))::(mb,Obj.map qm rT)::(Z0++C)) (.perm ?_) ?_
 ·rw[SW]
  simp only[List.cons_append]
  refine(List.Perm.cons _ (List.Perm.cons _ (List.Perm.swap _ _ _))).trans ?_
  refine(List.Perm.cons _ (List.Perm.swap _ _ _)).trans ?_
  refine(List.Perm.swap _ _ _).trans (.cons _ ?_)
  refine(List.Perm.cons _ (List.Perm.swap _ _ _)).trans ?_
  exact List.Perm.swap _ _ _
 refine ag.fn (args:=#[u32 r,ptr A5,ptr b1,ptr b7,ptr yp]) (.cons .here) (Y7 (Z0:=Z0) (bn:=bn) h hn (by rw[SW];exact .tail _ (.head _)) (by rw[SW];exact .tail _ (.tail _ (.tail _ (.tail _ (.tail _ (.head _)))))) (by rw[SW];exact .tail _ (.tail _ (.head _))) (by rw[SW];exact .head _) (hXZ _ Wc) K.n r qm rT _ Z0 (Nat.sub_le _ _) hr (fun _ h=>h) ⟨V9,fun r v hm=>?_,fun r hr=>?_⟩) ?_
 ·rw[gp,gp]at hm
  split at hm
  ·rename_i e;subst e;cases hm
   have:=AZ.mono hXZ
   rwa [show(fun _=>true)=S 1 from funext fun x=>(hi.one x).symm]at this
  split at hm
  ·rename_i e;subst e;cases hm
   have:=hv0.mono hXZ
   rwa [show(fun _=>false)=S 0 from funext fun x=>(hi.zero x).symm]at this
  ·simp[er]at hm
 ·rw[gp,gp]
  have:r=0∨r=1:=by omega
  rcases this with rfl|rfl<;>simp
 rintro v H ⟨Wl,Wm,m3,N,rfl,_,ht⟩
 obtain⟨s3,rfl,o3⟩:=ht.one
 refine St.whole (r:=[.int .i64 (K.n:Int),s3]) (by exact .head _) rfl rfl (cW o3) ?_
 refine az.whole (r:=[.int .i64 (K.n:Int),s3]) (by exact .head _) rfl ?_
 refine aF.mk (.skip .tail) ⟨N++[(yp,Obj.cells #[.func (.func 216) #[] #[ptr A5,ptr b1,ptr b7,ptr yp]] 296 (0,0)),(A5,.cells #[.map (some mb)] 295 (0,0)),(b7,.cells #[.func (.func 152) #[] #[ptr bn]] 221 (0,0)),(b5,.cells (Value.cells (.agg #[.int .i64 (K.n:Int),s1])) 57 (0,0)),(b3,.cells (Value.cells (.agg #[.int .i64 (K.n:Int),s0])) 57 (0,0)),(b1,.cells #[ptr kp] 26 (0,0))],by rw[SW];simp,ht.mono fun x hx=>?_⟩
 rw[SW]at hx
 simpa using hx
theorem Jd(h:lR kp K S ord ax tr C)(hn:K.n≤16){r:Nat}(hr:live K.N r):
  Fc Tryz.prog 71 #[ptr kp,u32 r] C (fun v H=>∃N t,H=N++C∧v=.tuple #[t,.int .i64 0]∧iB N t K.n (S r)):=by
 intro g
 refine JF (R:=aF _) ?_
 unfold L71
 intro b1 _
 refine av.int (e:=77) (by kernel_rfl) (by kernel_rfl) (by kernel_rfl) fun bx=>?_
 refine ag.px .here (Oc (X:=[(bx,_),(b1,_)]) (rs:=[r]) h (bW.block (by exact .head _) (by simp)) (fun x hx=>by rw[List.mem_singleton.1 hx];exact hr) (by simp)) ?_
 rintro w N0 rfl
 refine ae.dX (Br.cq (by simp) ?_)
 refine ag.rd (.app (.cons (.cons .here))) (zJ h.rep) ?_
 rintro w rfl
 intro RC _
 refine St.one (c':=#[.int .i64 (K.n:Int)]) (by exact .head _) rfl (by simp) rfl ?_
 refine Ld.mk (v:=.int .i64 (K.n:Int)) (by exact .head _) rfl ?_
 refine ae.me (b:=16) (Br.cq (by omega) ?_)
 refine Ld.mk (v:=.int .i64 (K.n:Int)) (by exact .head _) rfl ?_
 refine ag.px (cy.left (C:=[]) (A:=_)) (vN hn false []) ?_
 rintro w N1 ⟨t0,rfl,QD⟩
 rw[List.append_nil]at QD⊢
 obtain⟨s0,rfl,o0⟩:=QD.one
 refine Ext.mk rfl (Ext.mk rfl ?_)
 intro sH _
 refine St.whole (r:=[.int .i64 (K.n:Int),s0]) (by exact .head _) rfl rfl (cW o0) ?_
 refine Ld.mk (v:=.int .i64 (K.n:Int)) (by exact .tail _ (List.mem_append_right _ (.head _))) rfl ?_
 refine ag.px (cy.left (C:=[]) (A:=_)) (vN hn true []) ?_
 rintro w N2 ⟨t1,rfl,VX⟩
 rw[List.append_nil]at VX⊢
 obtain⟨s1,rfl,o1⟩:=VX.one
 refine Ext.mk rfl (Ext.mk rfl ?_)
 intro Y5 _
 refine St.whole (r:=[.int .i64 (K.n:Int),s1]) (by exact .head _) rfl rfl (cW o1) ?_
 refine az.whole (r:=[.int .i64 (K.n:Int),s0]) (by exact .tail _ (List.mem_append_right _ (.head _))) rfl ?_
 refine az.whole (r:=[.int .i64 (K.n:Int),s1]) (by exact .head _) rfl ?_
 obtain⟨X,hX⟩:∃X:Hp,X=(Y5,Obj.cells (List.toArray [.int .i64 (K.n:Int),s1]) 57 (0,0))::(N2++((sH,Obj.cells (List.toArray [.int .i64 (K.n:Int),s0]) 57 (0,0))::(N1++((RC,Obj.cells #[.int .i64 (K.n:Int)] 3 (0,0))::(N0++[(bx,Obj.cells (aC .u32 [(r:Int)]) 77 (0,0))]))))):=⟨_,rfl⟩
 refine ag.pre (H':=(b1,Obj.cells #[.int .i64 0,.slice none 0 0] 57 (0,0))::(X++C)) (.perm ?_) ?_
 ·rw[hX]
  have:=List.perm_middle (a:=(b1,Obj.cells #[Value.int .i64 0,.slice none 0 0] 57 (0,0))) (l₂:=C) (l₁:=(Y5,Obj.cells (List.toArray [Value.int .i64 (K.n:Int),s1]) 57 (0,0))::(N2++((sH,Obj.cells (List.toArray [Value.int .i64 (K.n:Int),s0]) 57 (0,0))::(N1++((RC,Obj.cells #[Value.int .i64 (K.n:Int)] 3 (0,0))::(N0++[(bx,Obj.cells (aC .u32 [(r:Int)]) 77 (0,0))]))))))
  simpa only[List.cons_append,List.append_assoc,List.nil_append]using this
 refine ag.fn (.cons .here) (Ro (X:=X) (bn:=RC) h hn hr (QD.mono fun x hx=>?_) (VX.mono fun x hx=>?_) ?_) ?_
 ·rw[hX];exact .tail _ (List.mem_append_right _ (.tail _ (List.mem_append_left _ hx)))
 ·rw[hX];exact .tail _ (List.mem_append_left _ hx)
 ·rw[hX];exact .tail _ (List.mem_append_right _ (.tail _ (List.mem_append_right _ (.head _))))
 rintro v H ⟨N,rfl,ht⟩
 obtain⟨s3,rfl,o3⟩:=ht.one
 refine St.whole (r:=[.int .i64 (K.n:Int),s3]) (by exact .head _) rfl rfl (cW o3) ?_
 refine az.whole (r:=[.int .i64 (K.n:Int),s3]) (by exact .head _) rfl ?_
 exact aF.mk .tail ⟨N++X,_,by rw[List.append_assoc],rfl,ht⟩
def rts(K:Kd):List Nat:=(List.range K.ho.length).filter fun r=>decide (0<K.hold r)
theorem HS(h:lR kp K S ord ax tr C):Fc Tryz.prog 70 #[ptr kp] C (fun r H=>∃N,H=N++C∧aQ 77 .u32 r (iw (rts K)) N):=by
 obtain⟨b,hC,hO⟩:=h.rep
 have hcap:=h.ok.mid.cap
 have hle:=h.jQ
 have hfit:K.ho.length≤1048576:=by
  have:=hO.ul
  omega
 intro g
 refine wX (R:=aF _) ?_
 unfold L70
 refine ae.aJ (Br.no ?_)
 have MJ:∀z∈b.CH,z∈C:=by rw[hC];exact cy.sub (.cons (.app (.app (.app .left))))
 refine Nil.ptr (aa.mk (aa.mk (Ld.mk (v:=b.vh) (by rw[hC];exact .head _) rfl ?_)))
 refine hO.ho.aR ?_
 rw[an]
 let rk:Nat→List Nat:=fun k=>(List.range k).filter fun r=>decide (0<K.hold r)
 refine⟨fun vs H=>∃(k:Nat) (w:Value) (N:Hp),vs=[w,.int .i64 (k:Int)]∧k≤K.ho.length∧H=N++C∧aQ 77 .u32 w (iw (rk k)) N,fun vs _=>K.ho.length-bg vs 1,JE.mk ⟨0,_,[],rfl,Nat.zero_le _,rfl,aQ.nil⟩,?_⟩
 rintro jy eW H ⟨k,w,N,hv,hk,rfl,hN⟩ gs
 simp only[List.cons.injEq,and_true]at hv
 obtain⟨rfl,rfl⟩:=hv
 refine ae.dz (Br.dec (fun hlt=>?_) (fun hlt=>?_))
 ·intro J hJ
  have fin:∀w' N',aQ 77 .u32 w' (iw (rk (k+1))) N'→J [w'] (N'++C):=fun w' N' h'=>hJ _ _ fun gs=>by
   refine ae.aH (b:=1) (by simp[aB];omega) ?_
   exact ay.of (.refl _) ⟨k+1,w',N',rfl,hlt,rfl,h'⟩ (by simp only[bg];omega)
  have e:rk (k+1)=rk k++if 0<K.hold k then [k]else []:=by
   show(List.range (k+1)).filter _=_
   rw[List.range_succ,List.filter_append]
   congr 1
   by_cases hp:0<K.hold k<;>simp[hp]
  refine hO.ho.ld (x:=((K.hold k:Nat):Int)) (bF hlt) (fun z hz=>List.mem_append_right _ (MJ z hz)) ?_
  refine ae.me (b:=0) (Br.dec (fun hp=>?_) (fun hp=>?_))
  ·rw[e,if_pos hp]at fin
   refine bL.nat (by simp[aB];omega) ?_
   have u5:(rk k).length≤k:=by
    have:=List.length_filter_le (fun r=>decide (0<K.hold r)) (List.range k)
    rwa [List.length_range]at this
   refine av.int (e:=77) (by kernel_rfl) (by kernel_rfl) (by kernel_rfl) fun bx=>?_
   refine hN.mW (.cons .left) (by exact .head _) (by rw[an];omega) (by rw[an];omega) fun v' N' bX=>?_
   rw[bT]at fin
   exact JE.of .tail (fin v' N' bX)
  ·rw[e,if_neg hp,List.append_nil]at fin
   exact JE.mk (fin jy N hN)
 ·obtain rfl:k=K.ho.length:=by omega
  exact aF.here ⟨N,rfl,hN⟩
end
end Go.Proofs
namespace aj
open Go.Sx
def Je(c:Nat→Nat→Nat):Nat→List Nat→Nat
 |_,[]=>0
 |a,v::o=>c a v+Je c (aI a v true) o
def oz(a:Nat)(o:List Nat):Nat:=o.foldl (fun a v=>aI a v true) a
theorem y9(a:Nat)(o o':List Nat):oz a (o++o')=oz (oz a o) o':=List.foldl_append ..
theorem ug(c:Nat→Nat→Nat):∀(o o':List Nat) (a:Nat),Je c a (o++o')=Je c a o+Je c (oz a o) o'
 | [],o',a=>by simp[Je,oz]
 |v::o,o',a=>by rw[List.cons_append,Je,ug c o o',Je,Nat.add_assoc];rfl
theorem pq:∀(o:List Nat) (a u:Nat),(oz a o).testBit u=(a.testBit u||decide (u∈o))
 | [],a,u=>by simp[oz]
 |v::o,a,u=>by
  show(oz (aI a v true) o).testBit u=_
  rw[pq o,au]
  by_cases e:u=v
  ·simp[e]
  ·simp[e]
structure lS(n a:Nat)(o:List Nat):Prop where
 nd:o.Nodup
 mem:∀v,v∈o↔v∈cg n a
variable {n:Nat} {c:Nat→Nat→Nat}
theorem lS.nil{a:Nat}(h:lS n a []):cg n a=[]:=List.eq_nil_iff_forall_not_mem.2 fun v hv=>by simpa using(h.mem v).2 hv
theorem lS.tail{a v:Nat}{o:List Nat}(h:lS n a (v::o)):v∈cg n a∧lS n (aI a v true) o:=by
 have h1:=List.nodup_cons.1 h.nd
 refine⟨(h.mem v).1 (by simp),h1.2,fun u=>?_⟩
 rw[cN,au]
 have hu:=h.mem u
 rw[cN,List.mem_cons]at hu
 by_cases e:u=v
 ·subst e;simp[h1.1]
 ·simp only[e,false_or,if_false]at hu⊢;exact hu
theorem lS.cons{a v:Nat}{o:List Nat}(hv:v∈cg n a)(h:lS n (aI a v true) o):lS n a (v::o):=by
 have hm:=h.mem
 refine⟨List.nodup_cons.2 ⟨fun hx=>?_,h.nd⟩,fun u=>?_⟩
 ·have:=(hm v).1 hx
  rw[cN,au,if_pos rfl]at this
  exact absurd this.2 (by simp)
 ·rw[List.mem_cons,hm,cN,cN,au]
  rw[cN]at hv
  by_cases e:u=v
  ·subst e;simp[hv]
  ·simp[e]
theorem AQ:∀(o:List Nat) (a:Nat),lS n a o→B n c a≤Je c a o
 | [],a,h=>by rw[Hf h.nil];exact Nat.zero_le _
 |v::o,a,h=>by
  obtain⟨h1,h2⟩:=h.tail
  exact Nat.le_trans (ZR h1) (Nat.add_le_add_left (AQ o _ h2) _)
theorem BL:∀(f a:Nat),(cg n a).length≤f→lS n a (ord n c f a)∧Je c a (ord n c f a)=B n c a
 |0,a,h=>by
  have hm:cg n a=[]:=List.eq_nil_of_length_eq_zero (by omega)
  rw[ord,Hf hm]
  exact⟨⟨by simp,fun v=>by rw[hm]⟩,rfl⟩
 |f+1,a,h=>by
  by_cases hm:cg n a=[]
  ·have:ord n c (f+1) a=[]:=by rw[ord,hm];rfl
   rw[this,Hf hm]
   exact⟨⟨by simp,fun v=>by rw[hm]⟩,rfl⟩
  ·obtain⟨v,hv,he,_,ho⟩:=tt (c:=c) (f:=f) hm
   have:=gD hv
   obtain⟨h1,h2⟩:=BL f (aI a v true) (by omega)
   rw[ho]
   exact⟨h1.cons hv,by rw[Je,h2,he]⟩
theorem nE(n:Nat):cg n 0=List.range n:=by
 unfold cg;rw[List.filter_eq_self.2];simp
end aj
namespace aj
open Go.Sx
def PU(n:Nat)(l:Fs)(vs:List Nat):Fs:=vs.foldl (fun l v=>given n l v) l
theorem No(A k:Nat):has (k+1) A=has k A++(if A.testBit k then [k]else []):=by
 unfold has;rw[List.range_succ,List.filter_append];congr 1;rw[List.filter_cons];simp
theorem sY(n:Nat)(l:Fs)(a b:List Nat):PU n l (a++b)=PU n (PU n l a) b:=List.foldl_append ..
theorem s6(n:Nat)(L:Fs)(A:Nat):∀k,st n L A k=PU n (dS L) (has k A)
 |0=>rfl
 |k+1=>by
  rw[st,No,sY,←s6 n L A k]
  split<;>rfl
def Sm(a b:Fs):Prop:=∀x,x∈a↔x∈b
theorem Sm.trans{a b c:Fs}(h:Sm a b)(h':Sm b c):Sm a c:=fun x=>(h x).trans (h' x)
theorem Sm.symm{a b:Fs}(h:Sm a b):Sm b a:=fun x=>(h x).symm
theorem Sm.refl(a:Fs):Sm a a:=fun _=>Iff.rfl
def AF(n:Nat)(l:Fs):Prop:=∀t∈l,cB n t
variable {n:Nat}
theorem rL{a b:Fs}(h:Sm a b)(v:Nat):Sm (given n a v) (given n b v):=fun x=>by
 rw[bY,bY]
 constructor
 ·rintro⟨t,ht,h'⟩;exact⟨t,(h t).1 ht,h'⟩
 ·rintro⟨t,ht,h'⟩;exact⟨t,(h t).2 ht,h'⟩
theorem NH(hn:n≤16)(l:Fs)(v:Nat):AF n (given n l v):=fun t ht=>by
 obtain⟨u,_,b,rfl⟩:=bY.1 ht;exact cH hn
theorem Ay{t:List Nat}{u v:Nat}{b c:Bool}(hf:cB n t)(hu:u<n)(hv:v<n)(h:u≠v):ed n (ed n t u b) v c=ed n (ed n t v c) u b:=
 (cH hf.lN).ext (cH hf.lN) fun x hx=>by
  rw[eV (cH hf.lN) hv hx,eV hf hu (fj hx hv),eV (cH hf.lN) hu hx,eV hf hv (fj hx hu),eI (Ne.symm h)]
theorem CJ{l:Fs}{u v:Nat}(hl:AF n l)(hu:u<n)(hv:v<n)(h:u≠v):Sm (given n (given n l u) v) (given n (given n l v) u):=fun x=>by
 rw[bY,bY]
 constructor
 ·rintro⟨t,ht,c,rfl⟩
  obtain⟨s,hs,b,rfl⟩:=bY.1 ht
  exact⟨ed n s v c,bY.2 ⟨s,hs,c,rfl⟩,b,Ay (hl s hs) hu hv h⟩
 ·rintro⟨t,ht,c,rfl⟩
  obtain⟨s,hs,b,rfl⟩:=bY.1 ht
  exact⟨ed n s u c,bY.2 ⟨s,hs,c,rfl⟩,b,Ay (hl s hs) hv hu (Ne.symm h)⟩
theorem vQ:∀(vs:List Nat) {a b:Fs},Sm a b→Sm (PU n a vs) (PU n b vs)
 | [],_,_,h=>h
 |v::vs,_,_,h=>vQ vs (rL h v)
theorem LA(hn:n≤16){vs vs':List Nat}(hp:vs.Perm vs'):(∀v∈vs,v<n)→∀l,AF n l→Sm (PU n l vs) (PU n l vs'):=by
 induction hp with
 |nil=>exact fun _ l _=>Sm.refl _
 |cons v _ ih=>exact fun h l hl=>ih (fun u hu=>h u (by simp[hu])) _ (NH hn l v)
 |swap x y r=>
  intro h l hl
  by_cases e:x=y
  ·subst e;exact Sm.refl _
  ·exact vQ r (CJ hl (h y (by simp)) (h x (by simp)) (Ne.symm e))
 |trans vw _ ih1 ih2=>exact fun h l hl=>(ih1 h l hl).trans (ih2 (fun v hv=>h v (vw.mem_iff.2 hv)) l hl)
theorem vP:∀(vs:List Nat) {l:Fs},l.Nodup→(PU n l vs).Nodup
 | [],_,h=>h
 |v::vs,_,_=>vP vs (mM _ _ _)
theorem HA{L:Fs}(h:AF n L):AF n (dS L):=fun t ht=>h t (cX.1 ht)
theorem BN{a b:Fs}(ha:a.Nodup)(hb:b.Nodup)(h:Sm a b)(v:Nat):(nodes n a v).length=(nodes n b v).length:=k7 (iR ha hb h)
theorem wA(n a:Nat):(has n a).Nodup:=List.Pairwise.filter _ List.nodup_range
theorem U1{a v:Nat}(h:v∈has n a):v<n:=(pK.1 h).1
theorem Np{a v:Nat}(hv:v<n)(ha:a.testBit v=false):(has n (aI a v true)).Perm (has n a++[v]):=by
 refine(List.perm_ext_iff_of_nodup (wA _ _) ?_).2 fun u=>?_
 ·rw[List.nodup_append]
  refine⟨wA _ _,by simp,fun x hx y hy=>?_⟩
  simp at hy;subst hy
  rintro rfl
  rw[(pK.1 hx).2]at ha;cases ha
 ·rw[pK,List.mem_append,List.mem_singleton,pK,au]
  by_cases e:u=v
  ·subst e;simp[hv]
  ·simp[e]
theorem PX(hn:n≤16){L:Fs}(hL:AF n L){a v:Nat}(hv:v<n)(ha:a.testBit v=false):Sm (st n L (aI a v true) n) (given n (st n L a n) v):=by
 rw[s6,s6]
 have h:=LA hn (Np hv ha) (fun u hu=>U1 hu) _ (HA hL)
 rw[sY]at h
 exact h
variable {φ:List Nat→List Nat} {π:Nat→Nat}
def lay(n:Nat)(F:Nat→Nat):List Nat:=(List.range (wN n)).map fun i=>F i&&&ct n
def neg(n:Nat)(ws:List Nat):List Nat:=lay n fun i=>18446744073709551615-ws.getD i 0
end aj
namespace aZ
open aj
section
variable {n:Nat} {ord:List Nat} {L:aj.Fs}
theorem BF(a:Nat)(o:List Nat)(v:Nat):oz a (o++[v])=aI (oz a o) v true:=by rw[y9];rfl
theorem NZ(hn:n≤16)(hL:∀t∈L,cB n t)(hp:ord.Perm (List.range n)):∀k,k≤n→Sm (cur n ord L k) (st n L (oz 0 (ord.take k)) n)
 |0,_=>by
  have e:st n L (oz 0 (ord.take 0)) n=dS L:=by
   rw[s6]
   have:has n (oz 0 (ord.take 0))=[]:=by
    show has n 0=[]
    rw[List.eq_nil_iff_forall_not_mem]
    intro v hv
    have:=(pK.1 hv).2
    rw[Nat.zero_testBit]at this;cases this
   rw[this];rfl
  rw[e];exact .refl _
 |k+1,hk=>by
  have zY:ord.length=n:=by rw[hp.length_eq,List.length_range]
  have g8:ord.Nodup:=hp.nodup_iff.2 List.nodup_range
  have hlt:k<ord.length:=by omega
  have hv:ord[k]<n:=List.mem_range.1 (hp.mem_iff.1 (List.getElem_mem hlt))
  have hg:ord.getD k 0=ord[k]:=by rw[List.getD_eq_getElem?_getD,List.getElem?_eq_getElem hlt];rfl
  have ht:ord.take (k+1)=ord.take k++[ord[k]]:=List.take_succ_eq_append_getElem hlt
  have hno:ord[k]∉ord.take k:=fun hm=>by
   have h2:(ord.take (k+1)).Nodup:=g8.sublist (List.take_sublist _ _)
   rw[ht]at h2
   exact(List.nodup_append.1 h2).2.2 _ hm _ (by simp) rfl
  have hb:(oz 0 (ord.take k)).testBit ord[k]=false:=by
   rw[pq,Nat.zero_testBit,decide_eq_false hno];rfl
  rw[ht,BF]
  refine Sm.trans ?_ (Sm.symm (PX hn hL hv hb))
  rw[cur,hg]
  exact rL (NZ hn hL hp k (by omega)) _
theorem Qm(hn:n≤16)(hL:∀t∈L,cB n t)(hp:ord.Perm (List.range n)){k:Nat}(hk:k≤n)(v:Nat):(nodes n (cur n ord L k) v).length=lvl n L (oz 0 (ord.take k)) v:=by
 unfold lvl
 refine BN (wG k) ?_ (NZ hn hL hp k hk) v
 rw[s6];exact vP _ (iO _)
theorem Aw(hn:n≤16)(hL:∀t∈L,cB n t)(hp:ord.Perm (List.range n)):∀k,k≤n→Je (lvl n L) 0 (ord.take k)=dW n ord L k
 |0,_=>rfl
 |k+1,hk=>by
  have zY:ord.length=n:=by rw[hp.length_eq,List.length_range]
  have hlt:k<ord.length:=by omega
  have hg:ord.getD k 0=ord[k]:=by rw[List.getD_eq_getElem?_getD,List.getElem?_eq_getElem hlt];rfl
  rw[List.take_succ_eq_append_getElem hlt,ug,Aw hn hL hp k (by omega),dW]
  congr 1
  unfold oO
  rw[Qm hn hL hp (by omega),hg]
  simp[Je]
theorem wH(hn:n≤16)(hL:∀t∈L,cB n t)(hp:ord.Perm (List.range n)):Je (lvl n L) 0 ord=dW n ord L n:=by
 have zY:ord.length=n:=by rw[hp.length_eq,List.length_range]
 rw[←Aw hn hL hp n (Nat.le_refl n),←zY,List.take_length]
theorem B7(hp:ord.Perm (List.range n)):lS n 0 ord:=⟨hp.nodup_iff.2 List.nodup_range,fun v=>by rw[nE];exact hp.mem_iff⟩
theorem BI(h:lS n 0 ord):ord.Perm (List.range n):=by
 refine(List.perm_ext_iff_of_nodup h.nd List.nodup_range).2 fun v=>?_
 rw[h.mem,nE]
theorem qX(c:Nat→Nat→Nat):(aj.ord n c n 0).Perm (List.range n):=BI (BL n 0 (by rw[nE,List.length_range];exact Nat.le_refl n)).1
theorem qW(hn:n≤16)(hL:∀t∈L,cB n t):dW n (aj.ord n (lvl n L) n 0) L n=B n (lvl n L) 0:=by
 rw[←wH hn hL (qX _)]
 exact(BL n 0 (by rw[nE,List.length_range];exact Nat.le_refl n)).2
theorem RB(hn:n≤16)(hL:∀t∈L,cB n t)(hp:ord.Perm (List.range n)):B n (lvl n L) 0≤dW n ord L n:=by
 rw[←wH hn hL hp]
 exact AQ ord 0 (B7 hp)
end
end aZ
set_option maxRecDepth 100000
namespace Go.Proofs
open Go Go.Sx
open aZ
section
variable {kp:Nat} {K:Kd} {S:Nat→aZ.Fn} {ord tr:List Nat} {C:Hp}
theorem s7{n:Nat}{o:List Nat}:∀k,dW n o [] k=0:=by
  have hc:∀k,cur n o [] k=[]:=fun k=>by
    induction k with
    |zero=>rfl
    |succ k ih=>rw[cur,ih];rfl
  intro k
  induction k with
  |zero=>rfl
  |succ k ih=>rw[dW,ih];unfold oO;rw[hc];rfl
theorem BC{B:Hp}{v:Value}{n:Nat}{f:aZ.Fn}(h:iB B v n f):∃s ws,v=.agg #[.int .i64 (n:Int),s]∧Words B s ws∧aj.cB n ws∧eL n ws=f:=by
  obtain⟨ws,⟨s,rfl,hw⟩,hf,he⟩:=h
  exact⟨s,ws,rfl,hw,hf,he⟩
def Zf(kp:Nat)(K:Kd)(S:Nat→aZ.Fn)(ord tr:List Nat)(v:Value)(H:Hp):Prop:=
  ∃L:aj.Fs,(∀t∈L,aj.cB K.n t)∧K.held S=FT K.n L∧L.length≤1048576∧
   ((bC K S ord=aj.B K.n (aj.lvl K.n L) 0∧v=.tuple #[.agg #[.int .i64 ((bC K S ord:Nat):Int),.int .i64 ((bC K S ord:Nat):Int),.int .i64 0,.bool true],.int .i64 0]∧At kp K S ord tr H)∨
    (bC K S ord≠aj.B K.n (aj.lvl K.n L) 0∧∃o ls,o=aj.ord K.n (aj.lvl K.n L) K.n 0∧ls=path ord o∧
     (((rm K S).can ord ls=true∧v=.tuple #[.agg #[.int .i64 ((bC K S ord:Nat):Int),.int .i64 ((bC K S o:Nat):Int),.int .i64 ((ls.length:Nat):Int),.bool true],.int .i64 0]∧At kp K S o (tr++ls) H)∨
      ((rm K S).can ord ls=false∧v=.tuple #[.agg #[.int .i64 ((bC K S ord:Nat):Int),.int .i64 ((bC K S ord:Nat):Int),.int .i64 ((2*((rm K S).cI 0 ls ord).length:Nat):Int),.bool false],.int .i64 0]∧At kp K S ord tr H))))
theorem FX(h:At kp K S ord tr C)(hp:ord.Perm (List.range K.n))(hn:K.n≤12)(ig:tr.length<274877906944):
    Fc Tryz.prog 25 #[ptr kp] C (fun v H=>Zf kp K S ord tr v H):=by
  have h0:=h
  obtain⟨K',S',fC,hK,hk⟩:=h
  have S6:=hk.n
  have z5:∀r,K'.hold r≠0→live K'.N r:=fun r hr=>(.inr (hK.ok.mid.held r hr))
  have hcap:=hK.ok.mid.cap
  have hle:=hK.jQ
  have u5:(rts K').length≤1048576:=by
    obtain⟨b,_,hO⟩:=hK.rep
    have:=hO.ul
    have h2:=List.length_filter_le (fun r=>decide (0<K'.hold r)) (List.range K'.ho.length)
    rw[List.length_range]at h2
    show(List.filter _ _).length≤_
    omega
  have MM:∀r,r∈rts K'↔K'.hold r≠0:=fun r=>by
    unfold rts
    rw[List.mem_filter,List.mem_range,decide_eq_true_iff]
    constructor
    · rintro⟨_,h⟩;omega
    · intro h
      refine⟨Classical.byContradiction fun h2=>h ?_,by omega⟩
      unfold Kd.hold
      rw[List.getD_eq_getElem?_getD,List.getElem?_eq_none (by omega)];rfl
  intro g
  refine Ka (R:=aF _) ?_
  unfold L25
  intro b1 _
  refine ae.aJ (Br.no ?_)
  refine ag.rd (.cons .here) (lG h0) ?_
  rintro w rfl
  refine ae.me (b:=12) (Br.cq (by omega) ?_)
  refine ag.fn (.cons .here) (HS hK) ?_
  rintro vr H ⟨NR,rfl,hR⟩
  have U5:bW .u32 NR vr (iw (rts K')):=hR.ints
  refine hR.aR ?_
  rw[an]
  refine⟨fun vs H=>∃(i:Nat) (s:Value) (L:aj.Fs) (CS N:Hp),vs=[s,.int .i64 (i:Int)]∧i≤(rts K').length∧H=(b1,.cells #[.int .i64 0,.int .i64 0,.int .i64 0,.bool false] 42 (0,0))::(CS++(N++C))∧(∀x∈NR,x∈N)∧fK 57 s (gy K'.n L) CS N∧L.length=i∧(∀t∈L,aj.cB K'.n t)∧∀j t,L[j]? =some t→∃r,(rts K')[j]? =some r∧eL K'.n t=S' r,
    fun vs _=>(rts K').length-bg vs 1,JE.mk ⟨0,_,[],[],NR,rfl,Nat.zero_le _,rfl,fun _ h=>h,fK.nil,rfl,fun t ht=>absurd ht (List.not_mem_nil),fun j t (hj:([]:List (List Nat))[j]? =some t)=>absurd hj (by rw[List.getElem?_nil];exact nofun)⟩,?_⟩
  rintro pn AV H ⟨i,s,L,CS,N,hv,hi,rfl,hN,hT,hLl,Nw,hLr⟩ gs
  simp only[List.cons.injEq,and_true]at hv
  obtain⟨rfl,rfl⟩:=hv
  refine ae.dz (Br.dec (fun hlt=>?_) (fun hge=>?_))
  · refine U5.ld (n:=(((rts K')[i]:Nat):Int)) (cj (List.getElem?_eq_getElem hlt)) (fun x hx=>.tail _ (List.mem_append_right _ (List.mem_append_left _ (hN x hx)))) ?_
    refine ag.fn (args:=#[ptr kp,u32 (rts K')[i]]) (.cons (.app (.app .here))) (Jd hK (by omega) (z5 _ ((MM _).1 (List.getElem_mem hlt)))) ?_
    rintro w H ⟨Nt,t,rfl,rfl,ht⟩
    obtain⟨sw,ws,rfl,hw,hf,he⟩:=BC ht
    refine Ext.mk rfl (Ext.mk rfl ?_)
    intro b29 _
    refine St.whole (r:=[.int .i64 (K'.n:Int),sw]) (by exact .head _) rfl rfl (cW (aD hw)) ?_
    refine az.whole (r:=[.int .i64 (K'.n:Int),sw]) (by exact .head _) rfl ?_
    refine eC fun KF=>?_
    have hT':fK 57 pn (gy K'.n L) CS (N++Nt):=hT.mono fun _ h=>List.mem_append_left _ h
    refine fK.app hT' (A:=[(KF,_),(b29,_),(b1,_)]) (B:=N++(Nt++C)) (t:=⟨(K'.n:Int),ws⟩) (by exact .head _) (hw.mono fun _ h=>List.mem_append_right _ h) (by rw[aW];omega) fun v' CS' Yq=>?_
    refine ae.aH (b:=1) (by simp[aB];omega) ?_
    refine ay.of (.skip .tail) ⟨i+1,v',L++[ws],CS',N++Nt,rfl,hlt,by rw[List.append_assoc];rfl,fun x hx=>List.mem_append_left _ (hN x hx),by unfold gy at Yq⊢;rw[List.map_append];exact Yq,by rw[List.length_append,hLl];rfl,fun t ht=>?_,fun j t hj=>?_⟩ (by simp only[bg];omega)
    · rcases List.mem_append.1 ht with ht|ht
      · exact Nw t ht
      · rw[List.mem_singleton.1 ht];exact hf
    · by_cases UQ:j<L.length
      · rw[List.getElem?_append_left UQ]at hj
        exact hLr j t hj
      · rw[List.getElem?_append_right (by omega)]at hj
        have:j=i:=by
          have:=(List.getElem?_eq_some_iff.1 hj).1
          rw[List.length_singleton]at this;omega
        subst this
        rw[hLl,Nat.sub_self]at hj
        simp at hj
        subst hj
        exact⟨_,List.getElem?_eq_getElem hlt,he⟩
  have hi':i=(rts K').length:=by omega
  subst hi'
  rw[S6]at hT Nw hLr
  have pV:K.held S=FT K.n L:=by
    refine funext fun g=>propext ?_
    rw[←hk.held g]
    constructor
    · rintro⟨r,hr,rfl⟩
      obtain⟨j,hj,e⟩:=List.mem_iff_getElem.1 ((MM r).2 hr)
      obtain⟨r2,nS,he⟩:=hLr j L[j] (List.getElem?_eq_getElem (by omega))
      rw[List.getElem?_eq_getElem hj,e]at nS
      cases nS
      exact⟨L[j],List.getElem_mem _,he.symm⟩
    · rintro⟨t,ht,rfl⟩
      obtain⟨j,hj,e⟩:=List.mem_iff_getElem.1 ht
      obtain⟨r2,nS,he⟩:=hLr j t (by rw[List.getElem?_eq_getElem hj,e])
      exact⟨r2,(MM r2).1 (List.mem_of_getElem? nS),he⟩
  have hlt:=Gl hp
  have hkz:bC K S ord=dW K.n ord L K.n:=by
    unfold bC;rw[pV];exact Gd Nw (by omega) hlt
  have Nx:L.length≤1048576:=by omega
  refine ag.rd (.cons (.app (.app .here))) (cM h0) ?_
  rintro w rfl
  have Yp:cT (CS++N) pn (gy K.n L):=hT.xy (fun _ h=>List.mem_append_left _ h) (fun _ h=>List.mem_append_right _ h)
  rw[←List.append_assoc]
  refine ag.px (.cons .left) (RA Yp (by rw[aW];omega)) ?_
  intro w NB hB
  obtain⟨so,Y,hY,rfl,hI⟩:∃so Y,NB++(CS++N)=Y∧w=.tuple #[.int .i64 ((aj.B K.n (aj.lvl K.n L) 0:Nat):Int),so,.int .i64 0]∧(L≠[]→bW .i64 Y so (iw (aj.ord K.n (aj.lvl K.n L) K.n 0))):=by
    have hO:qe (gy K.n L):=zq Nw
    rcases hB with⟨hno,_⟩|⟨_,n2,L2,e,hz,_,O8,hB⟩
    · exact absurd hO hno
    by_cases hL0:L=[]
    · subst hL0
      have hL2:L2=[]:=by cases L2 with
        |nil=>rfl
        |cons a b=>simp[gy]at e
      subst hL2
      obtain rfl:=hz rfl
      have hB0:aj.B K.n (aj.lvl K.n []) 0=0:=by rw[←qW (by omega) (by simp)];exact s7 _
      rcases hB with⟨h,_⟩|⟨_,s2,C2,N2,rfl,_,_⟩
      · omega
      exact⟨s2,_,rfl,by rw[hB0];rfl,fun h=>absurd rfl h⟩
    · have QL:n2=K.n∧L2=L:=by
        cases L with
        |nil=>exact absurd rfl hL0
        |cons a b=>
          cases L2 with
          |nil=>simp[gy]at e
          |cons a2 b2=>
            simp only[gy,List.map_cons,List.cons.injEq,Tb.mk.injEq]at e
            obtain⟨⟨e1,e2⟩,e3⟩:=e
            have e1:n2=K.n:=by omega
            subst e1
            refine⟨rfl,?_⟩
            rw[e2]
            congr 1
            refine((List.map_inj_right (f:=fun ws=>(⟨(K.n:Int),ws⟩:Tb)) ?_).1 e3).symm
            intro x y hxy
            simpa using hxy
      obtain⟨rfl,rfl⟩:=QL
      rcases hB with⟨h,_⟩|⟨_,s2,C2,N2,rfl,hown,hH⟩
      · omega
      exact⟨s2,_,rfl,rfl,fun _=>by rw[hH];exact hown.ints.mono fun _ h=>List.mem_append_left _ h⟩
  rw[hY]
  clear hB
  refine Ext.mk rfl (Ext.mk rfl (Ext.mk rfl ?_))
  refine ae.gz (Br.dec (fun heq=>?_) (fun hne=>?_))
  · refine Build.mk (cs:=[.int .i64 ((bC K S ord:Nat):Int),.int .i64 ((bC K S ord:Nat):Int),.int .i64 0,.bool true]) (by kernel_rfl) ?_
    refine St.whole (r:=[.int .i64 ((bC K S ord:Nat):Int),.int .i64 ((bC K S ord:Nat):Int),.int .i64 0,.bool true]) (by exact .head _) rfl rfl (by simp[Value.oneCell']) ?_
    refine az.whole (r:=[.int .i64 ((bC K S ord:Nat):Int),.int .i64 ((bC K S ord:Nat):Int),.int .i64 0,.bool true]) (by exact .head _) rfl ?_
    exact aF.mk (.skip .right) ⟨L,Nw,pV,Nx,.inl ⟨heq,rfl,h0⟩⟩
  · have hL0:L≠[]:=fun e=>by
      subst e
      refine hne ?_
      rw[hkz,←qW (by omega) (by simp),s7,s7]
    obtain⟨o,ho⟩:∃o,o=aj.ord K.n (aj.lvl K.n L) K.n 0:=⟨_,rfl⟩
    have hop:o.Perm (List.range K.n):=by rw[ho];exact qX _
    have hIo:=hI hL0
    rw[←ho]at hIo
    refine ag.fn (.cons .here) (L7 h0 hIo hp hop (by omega)) ?_
    rintro w H ⟨C2,rfl,hM⟩
    have O4:=(sq (hop.nodup_iff.2 List.nodup_range) (hp.trans hop.symm)).1
    rcases hM with⟨hc,rfl,hA⟩|⟨hc,rfl,hA⟩
    · rw[O4]at hA
      refine Ext.mk rfl (Ext.mk rfl ?_)
      refine ag.rd (.cons (.app .here)) (cM hA) ?_
      rintro w rfl
      refine ae.jG ?_
      rw[decide_eq_true rfl]
      refine Build.mk (cs:=[.int .i64 ((bC K S ord:Nat):Int),.int .i64 ((bC K S o:Nat):Int),.int .i64 (((path ord o).length:Nat):Int),.bool true]) (by kernel_rfl) ?_
      refine St.whole (r:=[.int .i64 ((bC K S ord:Nat):Int),.int .i64 ((bC K S o:Nat):Int),.int .i64 (((path ord o).length:Nat):Int),.bool true]) (by exact .head _) rfl rfl (by simp[Value.oneCell']) ?_
      refine az.whole (r:=[.int .i64 ((bC K S ord:Nat):Int),.int .i64 ((bC K S o:Nat):Int),.int .i64 (((path ord o).length:Nat):Int),.bool true]) (by exact .head _) rfl ?_
      exact aF.mk (.skip .right) ⟨L,Nw,pV,Nx,.inr ⟨hne,o,_,ho,rfl,.inl ⟨hc,rfl,hA⟩⟩⟩
    · refine Ext.mk rfl (Ext.mk rfl ?_)
      refine ag.rd (.cons (.app .here)) (cM hA) ?_
      rintro w rfl
      refine ae.jG ?_
      rw[decide_eq_false (by decide)]
      refine Build.mk (cs:=[.int .i64 ((bC K S ord:Nat):Int),.int .i64 ((bC K S ord:Nat):Int),.int .i64 ((2*((rm K S).cI 0 (path ord o) ord).length:Nat):Int),.bool false]) (by kernel_rfl) ?_
      refine St.whole (r:=[.int .i64 ((bC K S ord:Nat):Int),.int .i64 ((bC K S ord:Nat):Int),.int .i64 ((2*((rm K S).cI 0 (path ord o) ord).length:Nat):Int),.bool false]) (by exact .head _) rfl rfl (by simp[Value.oneCell']) ?_
      refine az.whole (r:=[.int .i64 ((bC K S ord:Nat):Int),.int .i64 ((bC K S ord:Nat):Int),.int .i64 ((2*((rm K S).cI 0 (path ord o) ord).length:Nat):Int),.bool false]) (by exact .head _) rfl ?_
      exact aF.mk (.skip .right) ⟨L,Nw,pV,Nx,.inr ⟨hne,o,_,ho,rfl,.inr ⟨hc,rfl,hA⟩⟩⟩
end
end Go.Proofs
set_option maxRecDepth 100000
namespace Go.Proofs
open Go Go.Sx
open aZ
section
variable {kp:Nat} {K:Kd} {S:Nat→aZ.Fn} {ord tr:List Nat} {C:Hp}
theorem tj{p q:List Nat}(hq:q.Nodup)(hp:p.Perm q):∀i,i≤q.length→(dg p q i).length≤i*(p.length-1)
 |0,_=>by simp[dg]
 |i+1,hi=>by
  have:=tj hq hp i (by omega)
  obtain⟨_,_,h3⟩:=gT hq hp i (by omega)
  rw[dg,List.length_append,ym,Nat.succ_mul]
  have:=(h3 (by omega)).2
  omega
def aej(kp:Nat)(K:Kd)(S:Nat→aZ.Fn)(ord tr:List Nat)(v:Value)(H:Hp):Prop:=
 ∃o ls,o.Perm (List.range K.n)∧v=.tuple #[.agg #[.int .i64 ((bC K S ord:Nat):Int),.int .i64 ((bC K S o:Nat):Int),.int .i64 ((ls.length:Nat):Int),.bool true],.int .i64 0]∧At kp K S o (tr++ls) H∧(∀p:List Nat,p.Perm (List.range K.n)→bC K S o≤bC K S p)∧ls.length≤K.n*(K.n-1)∧((∀p:List Nat,p.Perm (List.range K.n)→bC K S ord≤bC K S p)→o=ord∧ls=[])
theorem W3{v:Value}{H:Hp}(h:Zf kp K S ord tr v H)(hn:K.n≤12)(hp:ord.Perm (List.range K.n))(hcan:∀ls:List Nat,(∀x∈ls,x+1<K.n)→(rm K S).can ord ls=true):aej kp K S ord tr v H:=by
 obtain⟨L,Nw,pV,Nx,hQ⟩:=h
 have hk:∀p:List Nat,p.Perm (List.range K.n)→bC K S p=dW K.n p L K.n:=fun p hp=>by
  unfold bC;rw[pV];exact Gd Nw (by omega) (Gl hp)
 have hB:∀p:List Nat,p.Perm (List.range K.n)→aj.B K.n (aj.lvl K.n L) 0≤bC K S p:=fun p hp=>by
  rw[hk p hp];exact RB (by omega) Nw hp
 rcases hQ with⟨e,rfl,hA⟩|⟨hne,o,ls,ho,hls,hQ⟩
 ·exact⟨ord,[],hp,rfl,by rw[List.append_nil];exact hA,fun p hp=>by rw[e];exact hB p hp,Nat.zero_le _,fun _=>⟨rfl,rfl⟩⟩
 have hop:o.Perm (List.range K.n):=by rw[ho];exact qX _
 have hoB:bC K S o=aj.B K.n (aj.lvl K.n L) 0:=by rw[hk o hop,ho];exact qW (by omega) Nw
 have XJ:o.Nodup:=hop.nodup_iff.2 List.nodup_range
 have zY:o.length=K.n:=by rw[hop.length_eq,List.length_range]
 have hdl:ord.length=K.n:=by rw[hp.length_eq,List.length_range]
 obtain⟨_,XD⟩:=sq XJ (hp.trans hop.symm)
 have hc:(rm K S).can ord ls=true:=hcan ls fun x hx=>by rw[hls]at hx;have:=XD x hx;omega
 rcases hQ with⟨_,rfl,hA⟩|⟨hc2,_⟩
 ·refine⟨o,ls,hop,rfl,hA,fun p hp=>by rw[hoB];exact hB p hp,?_,fun hl=>?_⟩
  ·have:=tj XJ (hp.trans hop.symm) o.length (Nat.le_refl _)
   rw[hls]
   unfold path
   rw[zY,hdl]at this
   rw[zY];exact this
  ·have h1:=hl o hop
   have h2:=hB ord hp
   exact absurd (by omega) hne
 ·rw[hc]at hc2;cases hc2
end
section
variable {kp:Nat} {K:Kd} {S:Nat→aZ.Fn} {ord tr:List Nat} {C:Hp} {Q:Value→Hp→Prop}
theorem za{w:Nat}(hw:3≤w∧w≤5):Rd Tryz.prog 100 #[.int .u8 (w:Int)] C (· =.int .i64 ((w-1:Nat):Int)):=by
 intro g
 refine FH (R:=aF _) ?_
 unfold L100
 refine ae.bH (b:=3) (by simp[aB];omega) (by omega) ?_
 refine bL.nat (by simp[aB];omega) ?_
 refine ae.aH (b:=2) (by simp[aB];omega) ?_
 refine bO.mk (.refl _) ?_
 rw[show w-3+2=w-1 by omega]
theorem fW(h:At kp K S ord tr C){s gr:Nat}:Rd Tryz.prog 115 #[ptr kp,.int .u8 (s:Int),.int .i64 (gr:Int)] C (· =.int .i64 (if 6<s∨gr<100∨1000<gr then 1 else if s=6∧12<K.n then 6 else 0)):=by
 intro g
 refine uQ (R:=aF _) ?_
 unfold L115
 refine ae.aJ (Br.no ?_)
 refine ae.me (b:=6) ?_
 refine bM.or (a:=decide (6<s)) (decide (gr<100)) (fun _=>ae.dz (b:=100) ⟨rfl,rfl⟩) rfl fun _=>?_
 refine bM.or (a:=decide (6<s)||decide (gr<100)) (decide (1000<gr)) (fun _=>ae.me (b:=1000) ⟨rfl,rfl⟩) rfl fun _=>?_
 rw[←Bool.decide_or,←Bool.decide_or]
 refine Br.dec (fun hb=>?_) (fun hb=>?_)
 ·rw[if_pos (by omega)]
  exact bO.mk (.refl _) rfl
 rw[if_neg (by omega)]
 intro J9 h9
 refine ae.gz (b:=6) ?_
 by_cases hs:s=6
 ·rw[decide_eq_true hs]
  refine Split.go rfl ?_
  refine ag.rd .here (lG h) ?_
  rintro w rfl
  refine ae.me (b:=12) (aA.mk (JE.mk (h9 _ _ fun _=>?_)))
  show Br (.bool (decide (12<K.n))) _ _
  refine Br.dec (fun Vc=>?_) (fun Vc=>?_)
  ·rw[if_pos ⟨hs,Vc⟩];exact bO.mk (.refl _) rfl
  ·rw[if_neg (by omega)];exact bO.mk (.refl _) rfl
 ·rw[decide_eq_false hs]
  refine Split.Ud rfl ?_
  refine aA.mk (JE.mk (h9 _ _ fun _=>Br.no ?_))
  rw[if_neg (by omega)];exact bO.mk (.refl _) rfl
theorem kX(a b c:Int)(d:Bool):∀u∈[Value.int .i64 a,.int .i64 b,.int .i64 c,.bool d],u.oneCell'=true:=fun u hu=>by
 simp only[List.mem_cons,List.not_mem_nil,or_false]at hu
 rcases hu with rfl|rfl|rfl|rfl<;>rfl
abbrev oE(a b c:Int)(d:Bool):Value:=.agg #[.int .i64 a,.int .i64 b,.int .i64 c,.bool d]
theorem sn(h:At kp K S ord tr C){s gr:Nat}(hb:6<s∨gr<100∨1000<gr):Rd Tryz.prog 49 #[ptr kp,.int .u8 (s:Int),.int .i64 (gr:Int)] C (· =.tuple #[oE 0 0 0 false,.int .i64 1]):=by
 intro g
 refine g6 (R:=aF _) ?_
 unfold L49
 intro b1 _
 refine ag.rd (.cons .here) (fW h) ?_
 rintro w rfl
 rw[if_pos hb]
 refine ae.dX (Br.gf (by simp) ?_)
 refine Build.mk (cs:=[.int .i64 0,.int .i64 0,.int .i64 0,.bool false]) (by kernel_rfl) ?_
 refine St.whole (r:=[.int .i64 0,.int .i64 0,.int .i64 0,.bool false]) (by exact .head _) rfl rfl (by simp[Value.oneCell']) ?_
 refine az.whole (r:=[.int .i64 0,.int .i64 0,.int .i64 0,.bool false]) (by exact .head _) rfl ?_
 exact bO.mk .tail rfl
theorem LJ(h:At kp K S ord tr C){gr:Nat}(qL:100≤gr∧gr≤1000)(hn:12<K.n):Rd Tryz.prog 49 #[ptr kp,.int .u8 6,.int .i64 (gr:Int)] C (· =.tuple #[oE 0 0 0 false,.int .i64 6]):=by
 intro g
 refine g6 (R:=aF _) ?_
 unfold L49
 intro b1 _
 refine ag.rd (.cons .here) (fW h (s:=6)) ?_
 rintro w rfl
 rw[if_neg (by omega),if_pos ⟨rfl,hn⟩]
 refine ae.dX (Br.gf (by simp) ?_)
 refine Build.mk (cs:=[.int .i64 0,.int .i64 0,.int .i64 0,.bool false]) (by kernel_rfl) ?_
 refine St.whole (r:=[.int .i64 0,.int .i64 0,.int .i64 0,.bool false]) (by exact .head _) rfl rfl (by simp[Value.oneCell']) ?_
 refine az.whole (r:=[.int .i64 0,.int .i64 0,.int .i64 0,.bool false]) (by exact .head _) rfl ?_
 exact bO.mk .tail rfl
theorem LK(h:At kp K S ord tr C){gr:Nat}(qL:100≤gr∧gr≤1000)(hin:Fc Tryz.prog 47 #[ptr kp,.int .i64 (gr:Int)] C Q)(hQ:∀v H,Q v H→∃(a b c:Int) (d:Bool) (e:Value),v=.tuple #[oE a b c d,e]):
  Fc Tryz.prog 49 #[ptr kp,.int .u8 1,.int .i64 (gr:Int)] C Q:=by
 intro g
 refine g6 (R:=aF _) ?_
 unfold L49
 intro b1 _
 refine ag.rd (.cons .here) (fW h (s:=1)) ?_
 rintro w rfl
 rw[if_neg (by omega),if_neg (by omega)]
 refine ae.dX (Br.cq (by simp) ?_)
 refine ae.gz (a:=1) (b:=1) (Br.yes ?_)
 refine ag.fn (.cons .here) hin ?_
 intro v H hv
 obtain⟨a,b,c,d,e,rfl⟩:=hQ v H hv
 refine Ext.mk rfl (Ext.mk rfl ?_)
 refine St.whole (r:=[.int .i64 a,.int .i64 b,.int .i64 c,.bool d]) (by exact .head _) rfl rfl (kX a b c d) ?_
 refine az.whole (r:=[.int .i64 a,.int .i64 b,.int .i64 c,.bool d]) (by exact .head _) rfl ?_
 exact aF.mk .tail hv
theorem BG(h:At kp K S ord tr C){w gr:Nat}(hw:3≤w∧w≤5)(qL:100≤gr∧gr≤1000)(hin:Fc Tryz.prog 22 #[ptr kp,.int .i64 ((w-1:Nat):Int)] C Q)(hQ:∀v H,Q v H→∃(a b c:Int) (d:Bool) (e:Value),v=.tuple #[oE a b c d,e]):
  Fc Tryz.prog 49 #[ptr kp,.int .u8 (w:Int),.int .i64 (gr:Int)] C Q:=by
 intro g
 refine g6 (R:=aF _) ?_
 unfold L49
 intro b1 _
 refine ag.rd (.cons .here) (fW h (s:=w)) ?_
 rintro w2 rfl
 rw[if_neg (by omega),if_neg (by omega)]
 refine ae.dX (Br.cq (by simp) ?_)
 refine ae.gz (b:=1) (Br.cq (by omega) ?_)
 refine ae.gz (b:=2) (Br.cq (by omega) ?_)
 intro yQ YL
 have good:yQ [.bool true] ((b1,.cells #[.int .i64 0,.int .i64 0,.int .i64 0,.bool false] 42 (0,0))::C):=by
  refine YL _ _ fun _=>Br.yes ?_
  refine ag.rd .here (za hw) ?_
  rintro w3 rfl
  refine ag.fn (.cons .here) hin ?_
  intro v H hv
  obtain⟨a,b,c,d,e,rfl⟩:=hQ v H hv
  refine Ext.mk rfl (Ext.mk rfl ?_)
  refine St.whole (r:=[.int .i64 a,.int .i64 b,.int .i64 c,.bool d]) (by exact .head _) rfl rfl (kX a b c d) ?_
  refine az.whole (r:=[.int .i64 a,.int .i64 b,.int .i64 c,.bool d]) (by exact .head _) rfl ?_
  exact aF.mk .tail hv
 refine ae.gz (b:=3) (Br.dec (fun e=>?_) (fun e=>?_))
 ·rw[decide_eq_true e];exact JE.mk good
 refine ae.gz (b:=4) (Br.dec (fun e=>?_) (fun e=>?_))
 ·rw[decide_eq_true e];exact JE.mk good
 refine ae.gz (b:=5) ?_
 rw[decide_eq_true (by omega)];exact JE.mk good
theorem vV(h:At kp K S ord tr C){gr:Nat}(hn:K.n≤12)(qL:100≤gr∧gr≤1000)(hin:Fc Tryz.prog 25 #[ptr kp] C Q)(hQ:∀v H,Q v H→∃(a b c:Int) (d:Bool) (e:Value),v=.tuple #[oE a b c d,e]):
  Fc Tryz.prog 49 #[ptr kp,.int .u8 6,.int .i64 (gr:Int)] C Q:=by
 intro g
 refine g6 (R:=aF _) ?_
 unfold L49
 intro b1 _
 refine ag.rd (.cons .here) (fW h (s:=6)) ?_
 rintro w2 rfl
 rw[if_neg (by omega),if_neg (by omega)]
 refine ae.dX (Br.cq (by simp) ?_)
 refine ae.gz (a:=6) (b:=1) (Br.no ?_)
 refine ae.gz (a:=6) (b:=2) (Br.no ?_)
 intro yQ YL
 refine ae.gz (a:=6) (b:=3) (Br.no ?_)
 refine ae.gz (a:=6) (b:=4) (Br.no ?_)
 refine ae.gz (a:=6) (b:=5) (JE.mk (YL _ _ fun _=>Br.no ?_))
 refine ae.gz (a:=6) (b:=6) (Br.yes ?_)
 refine ag.fn (.cons .here) hin ?_
 intro v H hv
 obtain⟨a,b,c,d,e,rfl⟩:=hQ v H hv
 refine Ext.mk rfl (Ext.mk rfl ?_)
 refine St.whole (r:=[.int .i64 a,.int .i64 b,.int .i64 c,.bool d]) (by exact .head _) rfl rfl (kX a b c d) ?_
 refine az.whole (r:=[.int .i64 a,.int .i64 b,.int .i64 c,.bool d]) (by exact .head _) rfl ?_
 exact aF.mk .tail hv
theorem LN(h:At kp K S ord tr C){gr:Nat}(qL:100≤gr∧gr≤1000):Rd Tryz.prog 49 #[ptr kp,.int .u8 0,.int .i64 (gr:Int)] C (· =.tuple #[oE (bC K S ord:Nat) (bC K S ord:Nat) 0 false,.int .i64 0]):=by
 intro g
 refine g6 (R:=aF _) ?_
 unfold L49
 intro b1 _
 refine ag.rd (.cons .here) (fW h (s:=0)) ?_
 rintro w2 rfl
 rw[if_neg (by omega),if_neg (by omega)]
 refine ae.dX (Br.cq (by simp) ?_)
 refine ae.gz (a:=0) (b:=1) (Br.no ?_)
 refine ae.gz (a:=0) (b:=2) (Br.no ?_)
 intro yQ YL
 refine ae.gz (a:=0) (b:=3) (Br.no ?_)
 refine ae.gz (a:=0) (b:=4) (Br.no ?_)
 refine ae.gz (a:=0) (b:=5) (JE.mk (YL _ _ fun _=>Br.no ?_))
 refine ae.gz (a:=0) (b:=6) (Br.no ?_)
 refine ag.rd (.cons .here) (cM h) ?_
 rintro w rfl
 refine ag.rd (.cons .here) (cM h) ?_
 rintro w rfl
 refine Build.mk (cs:=[.int .i64 ((bC K S ord:Nat):Int),.int .i64 ((bC K S ord:Nat):Int),.int .i64 0,.bool false]) (by kernel_rfl) ?_
 refine St.whole (r:=[.int .i64 ((bC K S ord:Nat):Int),.int .i64 ((bC K S ord:Nat):Int),.int .i64 0,.bool false]) (by exact .head _) rfl rfl (by simp[Value.oneCell']) ?_
 refine az.whole (r:=[.int .i64 ((bC K S ord:Nat):Int),.int .i64 ((bC K S ord:Nat):Int),.int .i64 0,.bool false]) (by exact .head _) rfl ?_
 exact bO.mk .tail rfl
end
section
variable {A B:Rm} {Q:List Nat→Prop}
theorem wM(h:aZ.Alike A B Q){g p:Nat}{ord:List Nat}(hp:p<A.n)(hq:Q ord)(dn:Bool):∀k j b q,(dn=false→k≤j)→(dn=true→j+k<A.n)→j<A.n→A.u3 g ord p dn k j b q=B.u3 g ord p dn k j b q
 |0,j,b,q,_,_,_=>rfl
 |k+1,j,b,q,h1,h2,h3=>by
  have hQ:∀i,i<A.n→Q (aE ord (road p i)):=fun i hi=>h.aE (fun l hl=>zg hp hi hl) hq
  obtain⟨J,hJ⟩:∃J,J=bif dn then j+1 else j-1:=⟨_,rfl⟩
  have hJn:J<A.n:=by
   cases dn
   ·simp at hJ;omega
   ·have:=h2 rfl;simp at hJ;omega
  have hf:A.fit (aE ord (road p j)) (bif dn then j else j-1)=B.fit (aE ord (road p j)) (bif dn then j else j-1):=h.fit _ _ (hQ j h3) (by
   cases dn
   ·have:=h1 rfl;simp;omega
   ·have:=h2 rfl;simp;omega)
  rw[Rm.u3,Rm.u3,←hJ,hf,h.size _ (hQ J hJn)]
  rw[wM h hp hq dn k J _ _ (fun e=>by subst e;have:=h1 rfl;simp at hJ;omega) (fun e=>by subst e;have:=h2 rfl;simp at hJ;omega) hJn]
theorem Dj(h:aZ.Alike A B Q){g p:Nat}{ord:List Nat}(hp:p<A.n)(hq:Q ord):A.pC g ord p=B.pC g ord p:=by
 have hr:∀dn b q,A.u3 g ord p dn (A.rest dn p) p b q=B.u3 g ord p dn (B.rest dn p) p b q:=fun dn b q=>by
  have e:A.rest dn p=B.rest dn p:=by unfold Rm.rest;rw[h.n]
  rw[←e]
  refine wM h hp hq dn _ _ _ _ (fun e=>?_) (fun e=>?_) hp
  ·subst e;exact Nat.le_refl _
  ·subst e;unfold Rm.rest;simp;omega
 unfold Rm.pC
 simp only[hr,h.n,h.size _ hq]
theorem uy(h:aZ.Alike A B (fun o=>o.Perm (List.range A.n))){g:Nat}:∀{l ord:List Nat},ord.Perm (List.range A.n)→(∀v∈l,v<A.n)→A.cV g ord l=B.cV g ord l
 | [],ord,_,_=>rfl
 |v::l,ord,hp,hl=>by
  have hv:=B9 hp (hl v (by simp))
  have h1:=(A.xC g (ord:=ord) hv).1
  rw[Rm.cV,Rm.cV,←Dj h hv hp]
  rw[uy h (l:=l) (nt hp (Gj (m:=A) hv h1)) (fun x hx=>hl x (by simp[hx]))]
end
theorem P9{l:List Nat}(h:l.Perm (List.range 4)):∃a b c d,l=[a,b,c,d]∧a<4∧b<4∧c<4∧d<4∧[a,b,c,d].Nodup:=by
 have hl:=h.length_eq
 have hn:l.Nodup:=h.nodup_iff.2 List.nodup_range
 have hm:∀x∈l,x<4:=fun x hx=>List.mem_range.1 (h.mem_iff.1 hx)
 match l,hl with
 | [a,b,c,d],_=>exact⟨a,b,c,d,rfl,hm a (by simp),hm b (by simp),hm c (by simp),hm d (by simp),hn⟩
def Gq(o:List Nat):Bool:= !decide o.Nodup||(decide ((vX 4 100 [[63624]]).size (aE [0,2,1,3] ((vX 4 100 [[63624]]).cV 200 [0,2,1,3] o).1)=4) && (decide (4≤(vX 4 100 [[63624]]).size o) && (List.range 3).all fun l=>(vX 4 100 [[63624]]).fit o l))
theorem Ib:((List.range 4).all fun a=>(List.range 4).all fun b=>(List.range 4).all fun c=>(List.range 4).all fun d=>Gq [a,b,c,d])=true:=by decide+kernel
theorem jh{o:List Nat}(h:o.Perm (List.range 4)):(vX 4 100 [[63624]]).size (aE [0,2,1,3] ((vX 4 100 [[63624]]).cV 200 [0,2,1,3] o).1)=4∧4≤(vX 4 100 [[63624]]).size o∧∀l<3,(vX 4 100 [[63624]]).fit o l=true:=by
 obtain⟨a,b,c,d,rfl,h1,h2,h3,h4,h5⟩:=P9 h
 have ha:=Ib
 have hb:=List.all_eq_true.1 (List.all_eq_true.1 (List.all_eq_true.1 (List.all_eq_true.1 ha a (List.mem_range.2 h1)) b (List.mem_range.2 h2)) c (List.mem_range.2 h3)) d (List.mem_range.2 h4)
 unfold Gq at hb
 rw[decide_eq_true h5,Bool.not_true,Bool.false_or,Bool.and_eq_true,Bool.and_eq_true]at hb
 exact⟨of_decide_eq_true hb.1,of_decide_eq_true hb.2.1,fun l hl=>List.all_eq_true.1 hb.2.2 l (List.mem_range.2 hl)⟩
#eval (vX 4 100 [[63624]]).pass 2 [0,2,1,3]
section
variable {C:Hp}
theorem Dl.mk{kd:IntKind}{a b:Int}{k:Value→Prop}(h:k (.int kd (if b>a then b else a))):Dl (.int kd a) (.int kd b) k:=⟨kd,a,b,rfl,rfl,h⟩
def Ap:Nat→Nat
 |0=>1
 |k+1=>(k+1)*Ap k
def swB(n s:Nat):Nat→Nat
 |1=>3*n*(n-1)
 |2=>3*n*(n-1)*(s+1)
 |3=>(n-1)*2
 |4=>(n-2)*10
 |5=>(n-3)*46
 |6=>n*(n-1)
 |_=>0
def Ge(a b:Int)(k:Nat):Bool:=decide (a<1)||decide (64<a)||decide (b<0)||decide (1048576<b)||decide (6<k)
def PT(a b:Int)(k:Nat):Value:=if Ge a b k=true then .tuple #[.int .i64 0,.int .i64 1]else .tuple #[.int .i64 ((swB a.toNat b.toNat k:Nat):Int),.int .i64 0]
theorem jd{a b:Int}{k:Nat}:Rd Tryz.prog 40 #[.int .i64 a,.int .i64 b,.int .u8 (k:Int)] C (· =PT a b k):=by
 intro g
 refine JV (R:=aF _) ?_
 unfold L40
 refine ae.lss ?_
 refine bM.or (a:=decide (a<1)) (decide (64<a)) (fun _=>ae.gtr ⟨rfl,rfl⟩) rfl fun _=>?_
 refine bM.or (a:=decide (a<1)||decide (64<a)) (decide (b<0)) (fun _=>ae.lss ⟨rfl,rfl⟩) rfl fun _=>?_
 refine bM.or (a:=decide (a<1)||decide (64<a)||decide (b<0)) (decide (1048576<b)) (fun _=>ae.gtr ⟨rfl,rfl⟩) rfl fun _=>?_
 refine bM.or (a:=decide (a<1)||decide (64<a)||decide (b<0)||decide (1048576<b)) (decide (6<k)) (fun _=>ae.me (b:=6) ⟨rfl,rfl⟩) rfl fun _=>?_
 unfold PT
 show Br (.bool (Ge a b k)) _ _
 cases QW:Ge a b k
 rotate_left
 ·refine Br.yes ?_
  exact bO.mk (.refl _) rfl
 refine Br.no ?_
 simp only[Ge,Bool.or_eq_false_iff,decide_eq_false_iff_not]at QW
 obtain⟨⟨⟨⟨h1,h2⟩,h3⟩,h4⟩,h5⟩:=QW
 obtain⟨n,rfl⟩:∃n:Nat,a=n:=⟨a.toNat,by omega⟩
 obtain⟨s,rfl⟩:∃s:Nat,b=s:=⟨b.toNat,by omega⟩
 rw[Int.toNat_natCast,Int.toNat_natCast,if_neg (by decide)]
 have h33:3*n*(n-1)≤3*64*64:=Nat.mul_le_mul (by omega) (by omega)
 have h3s:3*n*(n-1)*(s+1)≤(3*64*64)*1048577:=Nat.mul_le_mul h33 (by omega)
 have h3e:n*(n-1)≤64*64:=Nat.mul_le_mul (by omega) (by omega)
 refine ae.gz (b:=1) (Br.dec (fun e=>?_) (fun e1=>?_))
 ·subst e
  refine ae.lg (a:=3) (by simp[aB];omega) ?_
  refine ae.bH (b:=1) (by simp[aB];omega) (by omega) ?_
  refine ae.lg (by simp[aB];omega) ?_
  exact bO.mk (.refl _) rfl
 refine ae.gz (b:=2) (Br.dec (fun e=>?_) (fun e2=>?_))
 ·subst e
  refine ae.lg (a:=3) (by simp[aB];omega) ?_
  refine ae.bH (b:=1) (by simp[aB];omega) (by omega) ?_
  refine ae.lg (by simp[aB];omega) ?_
  refine ae.aH (b:=1) (by simp[aB];omega) ?_
  refine ae.lg (by simp[aB];omega) ?_
  exact bO.mk (.refl _) rfl
 intro Vv h24
 have win:3≤k∧k≤5→Vv [.bool true] C:=fun hk=>by
  refine h24 _ _ fun _=>Br.yes ?_
  refine ag.rd .here (za hk) ?_
  rintro w rfl
  have hf:∀i,i<6→Ap (i-1)≤24:=by decide
  refine⟨fun vs H=>∃i,2≤i∧i≤k∧vs=[.int .i64 ((Ap (i-1):Nat):Int),.int .i64 (i:Int)]∧H=C,fun vs _=>k-bg vs 1,JE.mk ⟨2,by omega,by omega,rfl,rfl⟩,?_⟩
  rintro yE Kr H ⟨i,V8,Cn,hv,rfl⟩ gs
  simp only[List.cons.injEq,and_true]at hv
  obtain⟨rfl,rfl⟩:=hv
  have X5:=hf i (by omega)
  have hm:Ap (i-1)*i≤24*5:=Nat.mul_le_mul X5 (by omega)
  refine ae.zI (Br.dec (fun hlt=>?_) (fun hge=>?_))
  ·refine ae.lg (by simp[aB];omega) ?_
   refine ae.aH (b:=1) (by simp[aB];omega) ?_
   refine ay.mk ⟨i+1,by omega,by omega,?_,rfl⟩ (by simp only[bg];omega)
   congr 3
   rw[show i+1-1=(i-1)+1 by omega,Ap,show i-1+1=i by omega,Nat.mul_comm]
  ·obtain rfl:i=k:=by omega
   refine ae.mq rfl (by omega) ?_
   refine ae.wO rfl (by omega) ?_
   refine Dl.mk ?_
   have e0:(if(n:Int) -((i-1:Nat):Int)+1>0 then(n:Int) -((i-1:Nat):Int)+1 else 0)=((n+2-i:Nat):Int):=by split<;>omega
   rw[e0]
   refine ae.lg (b:=2) (by simp[aB];omega) ?_
   have h1f:1≤Ap (i-1):=by
    obtain rfl|rfl|rfl:i=3∨i=4∨i=5:=by omega
    all_goals decide
   refine ae.bH (b:=1) (by simp[aB];omega) h1f ?_
   have wy:(n+2-i)*2*(Ap (i-1) -1)≤(66*2)*24:=Nat.mul_le_mul (by omega) (by omega)
   refine ae.lg (by simp[aB];omega) ?_
   refine bO.mk (.refl _) ?_
   have:swB n s i=(n+2-i)*2*(Ap (i-1) -1):=by
    obtain rfl|rfl|rfl:i=3∨i=4∨i=5:=by omega
    ·show(n-1)*2=(n+2-3)*2*1;omega
    ·show(n-2)*10=(n+2-4)*2*5;omega
    ·show(n-3)*46=(n+2-5)*2*23;omega
   rw[this]
 have W9:¬(3≤k∧k≤5)→Vv [.bool false] C:=fun hk=>by
  refine h24 _ _ fun _=>Br.no ?_
  refine ae.gz (b:=6) (Br.dec (fun e=>?_) (fun e2=>?_))
  ·subst e
   refine ae.bH (b:=1) (by simp[aB];omega) (by omega) ?_
   refine ae.lg (by simp[aB];omega) ?_
   exact bO.mk (.refl _) rfl
  ·obtain rfl:k=0:=by omega
   exact bO.mk (.refl _) rfl
 refine ae.gz (b:=3) (Br.dec (fun e=>?_) (fun e3=>?_))
 ·rw[decide_eq_true e];exact JE.mk (win (by omega))
 refine ae.gz (b:=4) (Br.dec (fun e=>?_) (fun e4=>?_))
 ·rw[decide_eq_true e];exact JE.mk (win (by omega))
 refine ae.gz (b:=5) ?_
 by_cases e5:k=5
 ·rw[decide_eq_true e5];exact JE.mk (win (by omega))
 ·rw[decide_eq_false e5];exact JE.mk (W9 (by omega))
end
section
variable {kp:Nat} {K:Kd} {S:Nat→aZ.Fn} {tr:List Nat} {C:Hp}
theorem HL(hA:At kp K S [0,2,1,3] [] C)(hn:K.n=4)(ql:aZ.Alike (rm K S) (vX 4 100 [[63624]]) (fun ord=>ord.Perm (List.range 4))){x:Nat}(hx:x=1∨x=3∨x=6):
  Fc Tryz.prog 49 #[ptr kp,.int .u8 (x:Int),.int .i64 ((200:Nat):Int)] C (fun v H=>∃o O0 c,v=.tuple #[oE 6 4 c (decide (x=6)),.int .i64 0]∧At kp K S o O0 H∧bC K S o=4):=by
 have hsz:∀o:List Nat,o.Perm (List.range 4)→bC K S o=(vX 4 100 [[63624]]).size o:=fun o ho=>ql.size o ho
 have h6:bC K S [0,2,1,3]=6:=by rw[hsz _ ez];decide+kernel
 have wx:[0,2,1,3].Perm (List.range K.n):=by rw[hn];exact ez
 obtain rfl|rfl|rfl:=hx
 ·refine LK hA (by decide) ((LI (gr:=200) hA wx (by decide) (by simp)).mono ?_) ?_
  ·rintro v H ⟨l,hl,rfl,nV⟩
   rw[hn]at hl
   have ado:aZ.Alike (rm K S) (vX 4 100 [[63624]]) (fun ord=>ord.Perm (List.range (rm K S).n)):=by
    rw[show(rm K S).n=4 from hn];exact ql
   have e:=uy ado (g:=200) (l:=l) (ord:=[0,2,1,3]) (by rw[show(rm K S).n=4 from hn];exact ez) (fun v hv=>by rw[show(rm K S).n=4 from hn];exact List.mem_range.1 (hl.mem_iff.1 hv))
   have hok:=xB (m:=rm K S) (g:=200) (l:=l) (ord:=[0,2,1,3]) wx (fun v hv=>by show v<K.n;rw[hn];exact List.mem_range.1 (hl.mem_iff.1 hv))
   have nI:(aE [0,2,1,3] ((rm K S).cV 200 [0,2,1,3] l).1).Perm (List.range 4):=by
    have:=nt wx hok.mem
    rw[hn]at this;exact this
   have h4:bC K S (aE [0,2,1,3] ((rm K S).cV 200 [0,2,1,3] l).1)=4:=by
    rw[hsz _ nI,e];exact(jh hl).1
   exact⟨_,_,_,by rw[h6,h4];rfl,nV,h4⟩
  ·rintro v H ⟨o,O0,c,rfl,_⟩
   exact⟨_,_,_,_,_,rfl⟩
 ·refine BG (w:=3) hA (by decide) (by decide) ((Y9 hA ql ez (w:=2) (a:=6) (b:=4) (cnt:=5) (ZY:=[1]) (ord':=[0,1,2,3]) (by decide) (by omega) (by simp) (by decide+kernel) (by decide+kernel) (by decide) (by decide+kernel)).mono ?_) ?_
  ·rintro v H ⟨rfl,nV⟩
   exact⟨_,_,_,rfl,nV,by rw[hsz _ mB];decide+kernel⟩
  ·rintro v H ⟨o,O0,c,rfl,_⟩
   exact⟨_,_,_,_,_,rfl⟩
 ·have hcan:∀ls:List Nat,(∀x∈ls,x+1<K.n)→(rm K S).can [0,2,1,3] ls=true:=fun ls hls=>by
   rw[(ql.can (ls:=ls) (ord:=[0,2,1,3]) hls ez).1]
   refine yl (vX 4 100 [[63624]]) (Q:=fun o=>o.Perm (List.range 4)) (fun o l ho hl=>nt (path:=[l]) ho (fun x hx=>by rw[List.mem_singleton.1 hx];exact hl)) (fun o l ho hl=>(jh ho).2.2 l ?_) ez (fun x hx=>by have:=hls x hx;rw[hn]at this;exact this)
   have:l+1<4:=hl
   omega
  refine vV hA (by omega) (by decide) ((FX hA wx (by omega) (by simp)).mono ?_) ?_
  ·intro v H hQ
   obtain⟨o,ls,hop,rfl,nV,hmin,_,_⟩:=W3 hQ (by omega) wx hcan
   rw[hn]at hop
   have h4:bC K S o=4:=by
    have h1:=hmin [0,1,2,3] (by rw[hn];exact mB)
    have h2:bC K S [0,1,2,3]=4:=by rw[hsz _ mB];decide+kernel
    have h3:=(jh hop).2.1
    rw[←hsz _ hop]at h3
    omega
   exact⟨_,_,_,by rw[h6,h4];rfl,nV,h4⟩
  ·rintro v H ⟨o,O0,c,rfl,_⟩
   exact⟨_,_,_,_,_,rfl⟩
end
theorem HX(B:Hp):Rd Tryz.prog 39 #[] B (· =.bool true):=by
 intro g
 refine JW (R:=aF _) ?_
 unfold L39
 refine av.Xj (e:=5) (kd:=.u8) (x:=1) (y:=3) (z:=6) (by kernel_rfl) (by kernel_rfl) (by kernel_rfl) fun b0=>?_
 have hI:bW .u8 ((b0,Obj.cells (aC .u8 (iw [1,3,6])) 5 (0,0))::B) (.slice (some ⟨b0,0,none⟩) 3 3) (iw [1,3,6]):=bW.block (l:=iw [1,3,6]) (cap:=3) (.head _) (by simp[iw])
 show aG _ _
 refine hI.aR ?_
 rw[show(iw [1,3,6]).length=3 from rfl]
 obtain⟨B2,hB2⟩:∃B2:Hp,B2=(b0,Obj.cells (aC .u8 (iw [1,3,6])) 5 (0,0))::B:=⟨_,rfl⟩
 rw[←hB2]at hI
 refine⟨fun vs H=>∃i:Nat,i≤3∧vs=[.int .i64 (i:Int)]∧H=B2,fun vs _=>3-bg vs 0,JE.mk ⟨0,by omega,rfl,hB2.symm⟩,?_⟩
 rintro w8 H ⟨i,hi,hv,rfl⟩ gs
 simp only[List.cons.injEq,and_true]at hv
 subst hv
 refine ae.dz (b:=3) (Br.dec (fun hlt=>?_) (fun hge=>?_))
 ·obtain⟨x,hxg,hx⟩:∃x:Nat,[1,3,6][i]? =some x∧(x=1∨x=3∨x=6):=by
   obtain rfl|rfl|rfl:i=0∨i=1∨i=2:=by omega
   ·exact⟨1,rfl,by simp⟩
   ·exact⟨3,rfl,by simp⟩
   ·exact⟨6,rfl,by simp⟩
  refine hI.ld (n:=(x:Int)) (cj hxg) (fun _ h=>h) ?_
  refine⟨aC .i64 (iw [0,2,1,3]),3,1,.int .i64 0,by kernel_rfl,by kernel_rfl,by kernel_rfl,by decide,by kernel_rfl,fun bo _=>?_⟩
  refine ag.px (B:=[]) hnew (vW []) ?_
  rintro v N ⟨s,rfl,hw⟩
  rw[List.append_nil]at hw⊢
  refine eC (n:=4) fun bt=>?_
  have eH:(bt,Obj.cells #[.int .i64 (4:Int),s] 57 (0,0))::(N++(bo,Obj.cells (aC .i64 (iw [0,2,1,3])) 3 (0,0))::H)=((bt,Obj.cells #[.int .i64 (4:Int),s] 57 (0,0))::(N++[(bo,Obj.cells (aC .i64 (iw [0,2,1,3])) 3 (0,0))]))++H:=by simp
  rw[eH]
  have hoI:bW .i64 ((bt,Obj.cells #[.int .i64 (4:Int),s] 57 (0,0))::(N++[(bo,Obj.cells (aC .i64 (iw [0,2,1,3])) 3 (0,0))])) (.slice (some ⟨bo,0,none⟩) 4 4) (iw [0,2,1,3]):=bW.block (l:=iw [0,2,1,3]) (cap:=4) (.tail _ (List.mem_append_right _ (.head _))) (by simp[iw])
  have Yp:cT ((bt,Obj.cells #[.int .i64 (4:Int),s] 57 (0,0))::(N++[(bo,Obj.cells (aC .i64 (iw [0,2,1,3])) 3 (0,0))])) (.slice (some ⟨bt,0,none⟩) 1 1) (gy 4 [[63624]]):=cT.one (cap:=0) (t:=⟨4,[63624]⟩) (.head _) (hw.mono fun _ h=>.tail _ (List.mem_append_left _ h))
  refine ag.fn .left (vS hoI Yp) ?_
  rintro v H2 ⟨kp,mp,vr,vt,K,S,M,refs,ts,C,Y',rfl,rfl,hA,hP,hn,ql⟩
  rw[List.append_assoc]
  have ⟨o1,o2⟩:=hP.W7
  refine Ext.mk rfl (Ext.mk rfl (Ext.mk rfl ?_))
  intro mV _
  refine St.whole (r:=[ptr kp,ptr mp,vr,vt]) (by exact .head _) rfl rfl (tq o1 o2) ?_
  refine Un.not (Br.no ?_)
  refine aa.mk (Ld.mk (v:=ptr kp) (by exact .head _) rfl ?_)
  refine ag.fn (args:=#[ptr kp,.int .u8 (x:Int),.int .i64 ((200:Nat):Int)]) (.cons (.app .left)) (HL hA hn ql hx) ?_
  rintro v C1 ⟨o,O0,c,rfl,hA1,h4⟩
  refine Ext.mk rfl (Ext.mk rfl ?_)
  intro KF _
  refine St.whole (r:=[.int .i64 6,.int .i64 4,.int .i64 c,.bool (decide (x=6))]) (by exact .head _) rfl rfl (kX 6 4 c _) ?_
  intro yP h36
  have good:yP [.bool false] H:=by
   refine h36 _ _ fun gs=>Br.no ?_
   refine ae.aH (b:=1) (by simp[aB];omega) ?_
   exact ay.mk ⟨i+1,by omega,rfl,rfl⟩ (by simp only[bg];omega)
  refine ae.dX (Split.go rfl ?_)
  refine aa.mk (Ld.mk (by exact .head _) rfl ?_)
  refine ae.dX (aA.mk (Split.go rfl ?_))
  refine aa.mk (Ld.mk (by exact .head _) rfl ?_)
  refine ae.dX (aA.mk (Split.go rfl ?_))
  refine aa.mk (Ld.mk (v:=ptr kp) (by exact .tail _ (.head _)) rfl ?_)
  refine ag.rd (.cons (.cons (.app .left))) (cM hA1) ?_
  rintro w rfl
  rw[h4]
  refine ae.dX (aA.mk (Split.go rfl ?_))
  refine aa.mk (Ld.mk (by exact .head _) rfl ?_)
  refine ae.gz (b:=6) (ae.ab2 (aA.mk ?_))
  rw[show(!(decide (x=6)==decide (x=6)))=false by simp]
  exact JE.of (.skip (.skip (.bN .right))) good
 ·refine ag.rd .here (jd (a:=4) (b:=10) (k:=2)) ?_
  rintro w rfl
  rw[show PT 4 10 2=.tuple #[.int .i64 396,.int .i64 0]from rfl]
  refine Ext.mk rfl (Ext.mk rfl ?_)
  refine ae.jG ?_
  rw[decide_eq_true rfl]
  refine bM.and (a:=true) true (fun _=>ae.jG ⟨rfl,rfl⟩) rfl fun _=>?_
  rw[hB2]
  exact bO.mk .tail rfl
section
variable {kp:Nat} {K:Kd} {S:Nat→aZ.Fn} {ord tr:List Nat} {C:Hp}
theorem rA(a b:Value)(B:Hp):Rd Tryz.prog 115 #[.pointer none,a,b] B (· =.int .i64 10):=by
 intro g
 refine uQ (R:=aF _) ?_
 unfold L115
 exact ae.bG (Br.yes (bO.mk (.refl _) rfl))
theorem HR(a b:Value)(B:Hp):Rd Tryz.prog 49 #[.pointer none,a,b] B (· =.tuple #[oE 0 0 0 false,.int .i64 10]):=by
 intro g
 refine g6 (R:=aF _) ?_
 unfold L49
 intro b1 _
 refine ag.rd (.cons .here) (rA a b B) ?_
 rintro w rfl
 refine ae.dX (Br.gf (by decide) ?_)
 refine Build.mk (cs:=[.int .i64 0,.int .i64 0,.int .i64 0,.bool false]) (by kernel_rfl) ?_
 refine St.whole (r:=[.int .i64 0,.int .i64 0,.int .i64 0,.bool false]) (by exact .head _) rfl rfl (by simp[Value.oneCell']) ?_
 refine az.whole (r:=[.int .i64 0,.int .i64 0,.int .i64 0,.bool false]) (by exact .head _) rfl ?_
 exact bO.mk .tail rfl
def yh(n gr s:Nat):Nat:=if 6<s∨gr<100∨1000<gr then 1 else if s=6∧12<n then 6 else 0
def lZ(n gr:Nat)(l:List Nat)(e:Nat):Nat:=l.foldl (fun e s=>if yh n gr s≠0∧(e=0∨yh n gr s<e)then yh n gr s else e) e
theorem rB(h:At kp K S ord tr C){s gr:Nat}:Rd Tryz.prog 115 #[ptr kp,.int .u8 (s:Int),.int .i64 (gr:Int)] C (· =.int .i64 ((yh K.n gr s:Nat):Int)):=by
 have e:(.int .i64 (if 6<s∨gr<100∨1000<gr then 1 else if s=6∧12<K.n then 6 else 0):Value)=.int .i64 ((yh K.n gr s:Nat):Int):=by
  unfold yh;split
  ·rfl
  ·split<;>rfl
 rw[←e];exact fW h
theorem Jh{n gr e:Nat}{l:List Nat}{i:Nat}{s:Nat}(h:l[i]? =some s):lZ n gr (l.take (i+1)) e=if yh n gr s≠0∧(lZ n gr (l.take i) e=0∨yh n gr s<lZ n gr (l.take i) e)then yh n gr s else lZ n gr (l.take i) e:=by
 obtain⟨hi,he⟩:=List.getElem?_eq_some_iff.1 h
 unfold lZ
 rw[List.take_succ_eq_append_getElem hi,List.foldl_append,he];rfl
abbrev zi(b:Nat)(x y z:Int)(d:Bool):Nat×Obj:=(b,.cells #[.int .i64 x,.int .i64 y,.int .i64 z,.bool d] 42 (0,0))
theorem Ji(a b:Value)(B:Hp)(hb:∃gr:Int,b=.int .i64 gr):Rd Tryz.prog 50 #[.pointer none,.slice none 0 0,b] B (· =.tuple #[oE 0 0 0 false,.int .i64 10]):=by
 intro g
 refine wY (R:=aF _) ?_
 unfold L50
 intro b1 _
 refine ag.rd (.cons .here) (rA _ b B) ?_
 rintro w rfl
 refine(bW.nil (kd:=.u8) (B:=[])).aR ?_
 refine⟨fun vs H=>vs=[.int .i64 10,.int .i64 0]∧H=zi b1 0 0 0 false::B,fun vs _=>0,JE.mk ⟨rfl,rfl⟩,?_⟩
 rintro eo jy H ⟨hv,rfl⟩ gs
 simp only[List.cons.injEq,and_true]at hv
 obtain⟨rfl,rfl⟩:=hv
 refine ae.dz (a:=0) (b:=0) (Br.no ?_)
 refine ae.dX (Br.gf (by decide) ?_)
 refine Build.mk (cs:=[.int .i64 0,.int .i64 0,.int .i64 0,.bool false]) (by kernel_rfl) ?_
 refine St.whole (r:=[.int .i64 0,.int .i64 0,.int .i64 0,.bool false]) (by exact .head _) rfl rfl (by simp[Value.oneCell']) ?_
 refine az.whole (r:=[.int .i64 0,.int .i64 0,.int .i64 0,.bool false]) (by exact .head _) rfl ?_
 exact bO.mk .tail rfl
theorem uk(h:At kp K S ord tr C){B:Hp}{c:Hp→Hp}(hc:cy C B c){v:Value}{l:List Nat}{gr:Nat}(hl:∀Z,bW .u8 (c Z) v (iw l))(bE:l.length<9223372036854775807)
 (D:Nat→Nat→Nat→Bool→Hp→Prop)(h0:D 0 (bC K S ord) 0 false C)
 (hD:lZ K.n gr l (yh K.n gr 0)=0→∀(i s a z:Nat) (d:Bool) (H:Hp),l[i]? =some s→D i a z d H→Fc Tryz.prog 49 #[ptr kp,.int .u8 (s:Int),.int .i64 (gr:Int)] H (fun w H'=>∃(b0:Int) (a' c':Nat) (d':Bool),w=.tuple #[oE b0 (a':Int) (c':Int) d',.int .i64 0]∧D (i+1) a' (z+c') d' H'∧z+c'<9223372036854775808)):
  Fc Tryz.prog 50 #[ptr kp,v,.int .i64 (gr:Int)] B (fun w H=>
   (lZ K.n gr l (yh K.n gr 0)≠0∧w=.tuple #[oE 0 0 0 false,.int .i64 ((lZ K.n gr l (yh K.n gr 0):Nat):Int)]∧H=B)∨
   (lZ K.n gr l (yh K.n gr 0)=0∧∃a x d C',w=.tuple #[oE (bC K S ord:Nat) (a:Nat) (x:Nat) d,.int .i64 0]∧D l.length a x d C'∧H=c C')):=by
 obtain⟨e0,he0⟩:∃e0,e0=yh K.n gr 0:=⟨_,rfl⟩
 rw[←he0]at hD⊢
 obtain⟨rfl,_⟩:=hc.spec
 have hlen:(iw l).length=l.length:=an l
 intro g
 refine wY (R:=aF _) ?_
 unfold L50
 intro b1 _
 refine ag.rd (.cons hc) (rB h (s:=0)) ?_
 rintro w rfl
 rw[←he0]
 refine(hl []).aR ?_
 rw[hlen]
 refine⟨fun vs H=>∃i:Nat,i≤l.length∧vs=[.int .i64 ((lZ K.n gr (l.take i) e0:Nat):Int),.int .i64 (i:Int)]∧H=zi b1 0 0 0 false::(c C),fun vs _=>l.length-bg vs 1,JE.mk ⟨0,by omega,rfl,rfl⟩,?_⟩
 rintro eo jy H ⟨i,hi,hv,rfl⟩ gs
 simp only[List.cons.injEq,and_true]at hv
 obtain⟨rfl,rfl⟩:=hv
 refine ae.dz (Br.dec (fun hlt=>?_) (fun hge=>?_))
 ·intro uU h13
  have V2:l[i]? =some l[i]:=List.getElem?_eq_getElem hlt
  have QE:=Jh (n:=K.n) (gr:=gr) (e:=e0) V2
  refine(hl C).ld (n:=((l[i]:Nat):Int)) (cj V2) (fun _ h=>.tail _ h) ?_
  refine ag.rd (.cons hc) (rB h) ?_
  rintro w rfl
  have fin:∀e:Nat,e=lZ K.n gr (l.take (i+1)) e0→uU [.int .i64 (e:Int)] (zi b1 0 0 0 false::(c C)):=fun e he=>by
   subst he
   refine h13 _ _ fun gs=>?_
   refine ae.aH (b:=1) (by simp[aB];omega) ?_
   exact ay.mk ⟨i+1,hlt,rfl,rfl⟩ (by simp only[bg];omega)
  refine ae.pH (b:=0) ?_
  refine bM.and (decide (lZ K.n gr (l.take i) e0=0)||decide (yh K.n gr l[i]<lZ K.n gr (l.take i) e0)) (fun _=>?_) rfl fun gs=>?_
  ·refine ae.gz (b:=0) ?_
   exact bM.or (decide (yh K.n gr l[i]<lZ K.n gr (l.take i) e0)) (fun _=>ae.dz ⟨rfl,rfl⟩) rfl fun gs=>⟨rfl,rfl⟩
  ·rw[←Bool.decide_or,←Bool.decide_and]
   refine Br.dec (fun hc=>?_) (fun hc=>?_)
   ·rw[if_pos hc]at QE
    exact JE.mk (fin _ QE.symm)
   ·rw[if_neg hc]at QE
    exact JE.mk (fin _ QE.symm)
 obtain rfl:i=l.length:=by omega
 rw[List.take_length]
 refine ae.pH (b:=0) (Br.dec (fun hne=>?_) (fun heq=>?_))
 ·refine Build.mk (cs:=[.int .i64 0,.int .i64 0,.int .i64 0,.bool false]) (by kernel_rfl) ?_
  refine St.whole (r:=[.int .i64 0,.int .i64 0,.int .i64 0,.bool false]) (by exact .head _) rfl rfl (by simp[Value.oneCell']) ?_
  refine az.whole (r:=[.int .i64 0,.int .i64 0,.int .i64 0,.bool false]) (by exact .head _) rfl ?_
  exact aF.mk .tail (.inl ⟨hne,rfl,rfl⟩)
 have heq:lZ K.n gr l e0=0:=Classical.byContradiction heq
 replace hD:=hD heq
 refine ag.rd (.cons hc) (cM h) ?_
 rintro w rfl
 refine ag.rd (.cons hc) (cM h) ?_
 rintro w rfl
 refine Build.mk (cs:=[.int .i64 ((bC K S ord:Nat):Int),.int .i64 ((bC K S ord:Nat):Int),.int .i64 0,.bool false]) (by kernel_rfl) ?_
 intro Te _
 refine St.whole (r:=[.int .i64 ((bC K S ord:Nat):Int),.int .i64 ((bC K S ord:Nat):Int),.int .i64 0,.bool false]) (by exact .head _) rfl rfl (by simp[Value.oneCell']) ?_
 refine(hl []).aR ?_
 rw[hlen]
 refine⟨fun vs H=>∃(i a x:Nat) (d:Bool) (C':Hp),i≤l.length∧vs=[.int .i64 (i:Int)]∧H=zi Te (bC K S ord:Nat) (a:Nat) (x:Nat) d::zi b1 0 0 0 false::(c C')∧D i a x d C',fun vs _=>l.length-bg vs 0,JE.mk ⟨0,_,0,false,C,by omega,rfl,rfl,h0⟩,?_⟩
 rintro VS H ⟨i,a,x,d,C',hi,hv,rfl,hd⟩ gs
 simp only[List.cons.injEq,and_true]at hv
 subst hv
 refine ae.dz (Br.dec (fun hlt=>?_) (fun hge=>?_))
 ·have V2:l[i]? =some l[i]:=List.getElem?_eq_getElem hlt
  refine(hl C').ld (n:=((l[i]:Nat):Int)) (cj V2) (fun _ h=>.tail _ (.tail _ h)) ?_
  refine ag.fn (.cons (.cons (hc.re _))) (hD i l[i] a x d C' V2 hd) ?_
  rintro w H ⟨b0,a',c',d',rfl,ej,dF⟩
  refine Ext.mk rfl (Ext.mk rfl ?_)
  intro Y3 _
  refine St.whole (r:=[.int .i64 b0,.int .i64 (a':Int),.int .i64 (c':Int),.bool d']) (by exact .head _) rfl rfl (kX b0 a' c' d') ?_
  refine ae.dX (Br.cq (by decide) ?_)
  refine DR.of (.cons .tail) ?_
  refine aa.mk (Ld.mk (v:=.int .i64 (a':Int)) (by exact .head _) rfl ?_)
  refine aa.mk (Ld.mk (v:=.bool d') (by exact .head _) rfl ?_)
  refine aa.mk ?_
  intro F67
  refine St.one (c:=#[.int .i64 ((bC K S ord:Nat):Int),.int .i64 (a:Int),.int .i64 (x:Int),.bool d]) (c':=#[.int .i64 ((bC K S ord:Nat):Int),.int .i64 (a':Int),.int .i64 (x:Int),.bool d]) (by exact .tail (.head _)) rfl (by simp) rfl ?_
  refine⟨.cons .tail,?_⟩
  refine aa.mk ?_
  intro F70
  refine St.one (c:=#[.int .i64 ((bC K S ord:Nat):Int),.int .i64 (a':Int),.int .i64 (x:Int),.bool d]) (c':=#[.int .i64 ((bC K S ord:Nat):Int),.int .i64 (a':Int),.int .i64 (x:Int),.bool d']) (by exact .tail (.head _)) rfl (by simp) rfl ?_
  refine aa.mk (Ld.mk (v:=.int .i64 (x:Int)) (by exact .tail _ (.head _)) rfl ?_)
  refine aa.mk (Ld.mk (v:=.int .i64 (c':Int)) (by exact .head _) rfl ?_)
  refine ae.aH (by simp[aB];omega) ?_
  refine aa.mk ?_
  refine St.one (c:=#[.int .i64 ((bC K S ord:Nat):Int),.int .i64 (a':Int),.int .i64 (x:Int),.bool d']) (c':=#[.int .i64 ((bC K S ord:Nat):Int),.int .i64 (a':Int),.int .i64 ((x+c':Nat):Int),.bool d']) (by exact .tail (.head _)) rfl (by simp) rfl ?_
  refine ae.aH (b:=1) (by simp[aB];omega) ?_
  exact ay.of .tail ⟨i+1,a',x+c',d',_,hlt,rfl,rfl,ej⟩ (by simp only[bg];omega)
 ·obtain rfl:i=l.length:=by omega
  refine az.whole (r:=[.int .i64 ((bC K S ord:Nat):Int),.int .i64 (a:Int),.int .i64 (x:Int),.bool d]) (by exact .head _) rfl ?_
  refine St.whole (r:=[.int .i64 ((bC K S ord:Nat):Int),.int .i64 (a:Int),.int .i64 (x:Int),.bool d]) (by exact .tail (.head _)) rfl rfl (kX _ _ _ _) ?_
  refine az.whole (r:=[.int .i64 ((bC K S ord:Nat):Int),.int .i64 (a:Int),.int .i64 (x:Int),.bool d]) (by exact .tail _ (.head _)) rfl ?_
  exact aF.mk (.skip .tail) (.inr ⟨heq,a,x,d,C',rfl,hd,rfl⟩)
end
end Go.Proofs
