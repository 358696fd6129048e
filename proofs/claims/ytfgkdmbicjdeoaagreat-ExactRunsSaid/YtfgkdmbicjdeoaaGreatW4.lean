import Derived.Test.YtfgkdmbicjdeoaaGreatW3
import Derived.Test.YtfgkdmbicjdeoaaGreatW2
import Derived.Test.YtfgkdmbicjdeoaaGreatW1
import Derived.Deep.Slices
import Derived.SizedLaws
set_option linter.unusedVariables false
set_option linter.unusedSimpArgs false
set_option linter.unusedSectionVars false
set_option maxRecDepth 100000
namespace Go.Proofs
open Go Go.Sx
open aU
theorem bB{ws:List Nat}{i:Nat}(h:i<ws.length):(iw ws)[i]? =some ((ws.getD i 0:Nat):Int):=by
 rw[bR (w:=ws.getD i 0)]
 rw[List.getD_eq_getElem?_getD,List.getElem?_eq_getElem h];rfl
def Qi(n:Nat)(p:List Int):Prop:=p.length=n∧∀v:Nat,v<n→p.count (v:Int)=1
instance (n:Nat)(p:List Int):Decidable (Qi n p):=by unfold Qi;infer_instance
theorem HV{p:List Int}{x:Int}{i:Nat}(h:x∉p.take i)(hi:i<p.length)(he:p[i]=x):p.idxOf x=i:=by
 have e:p=p.take i++p[i]::p.drop (i+1):=by
  conv=>lhs;rw[←List.take_append_drop i p]
  rw[List.drop_eq_getElem_cons hi]
 conv=>lhs;rw[e]
 rw[List.idxOf_append,if_neg h,he,List.idxOf_cons_self,List.length_take];omega
def pP(p:List Int):Prop:=∀v:Nat,v<p.length→(v:Int)∈p
theorem r4{p:List Nat}{n:Nat}(hp:p.Perm (List.range n)):pP (iw p):=fun v hv=>by
 rw[ah,hp.length_eq,List.length_range]at hv
 exact List.mem_map.2 ⟨v,hp.mem_iff.2 (List.mem_range.2 hv),rfl⟩
theorem Nv{B:Hp}{v:Value}{ord:List Nat}{l:Nat}(h:bW .i64 B v (iw ord))(hl:l+1<ord.length)(aV:ord.length≤1099511627776):
  Fc Tryz.prog 189 #[v,.int .i64 (l:Int)] B (fun r H=>∃N,H=N++B∧aK 3 .i64 r (iw (dQ ord l)) N):=by
 refine aW fun g=>Bd ?_
 refine aK.mC (C:=[]) (H:=B) (c:=fun X=>X++B) aK.nil hnew h (by rw[ah];simp;omega) (by rw[ah];simp;omega) fun v' C' ho=>?_
 rw[List.nil_append]at ho
 refine DR.self ?_
 refine aa.inc ?_
 refine aa.inc ?_
 refine ho.ld (x:=((ord.getD (l+1) 0:Nat):Int)) (bB hl) (fun _ h=>List.mem_append_left _ h) ?_
 refine ho.ld (x:=((ord.getD l 0:Nat):Int)) (bB (by omega)) (fun _ h=>List.mem_append_left _ h) ?_
 refine ho.g8 (x:=((ord.getD (l+1) 0:Nat):Int)) .left (by rw[ah];omega) fun C2 jQ=>?_
 refine jQ.g8 (x:=((ord.getD l 0:Nat):Int)) .left (by rw[List.length_set,ah];omega) fun C3 yl=>?_
 refine bN.here ⟨C3,rfl,?_⟩
 have e:((iw ord).set l ((ord.getD (l+1) 0:Nat):Int)).set (l+1) ((ord.getD l 0:Nat):Int)=iw (dQ ord l):=by
  unfold dQ
  rw[eR,eR]
 rw[e]at yl
 exact yl
theorem NL{q:List Nat}{x:Nat}:(x:Int)∈iw q↔x∈q:=by
 unfold iw
 rw[List.mem_map]
 exact⟨fun⟨y,hy,e⟩=>by rw[←Int.ofNat.inj e];exact hy,fun h=>⟨x,h,rfl⟩⟩
theorem mI{B:Hp}{v:Value}{ord:List Nat}{l:Nat}(h:bW .i64 B v (iw ord))(hl:l+1<ord.length)(aV:ord.length≤1099511627776):
  Fc Tryz.prog 166 #[v,.int .i64 (l:Int)] B (fun r H=>∃N,H=N++B∧aK 3 .i64 r (iw (dQ ord l)) N):=by
 refine aW fun g=>Bv ?_
 refine aK.mC (C:=[]) (H:=B) (c:=fun X=>X++B) aK.nil hnew h (by rw[ah];simp;omega) (by rw[ah];simp;omega) fun v' C' ho=>?_
 rw[List.nil_append]at ho
 refine DR.self ?_
 refine aa.inc ?_
 refine aa.inc ?_
 refine ho.ld (x:=((ord.getD (l+1) 0:Nat):Int)) (bB hl) (fun _ h=>List.mem_append_left _ h) ?_
 refine ho.ld (x:=((ord.getD l 0:Nat):Int)) (bB (by omega)) (fun _ h=>List.mem_append_left _ h) ?_
 refine ho.g8 (x:=((ord.getD (l+1) 0:Nat):Int)) .left (by rw[ah];omega) fun C2 jQ=>?_
 refine jQ.g8 (x:=((ord.getD l 0:Nat):Int)) .left (by rw[List.length_set,ah];omega) fun C3 yl=>?_
 refine bN.here ⟨C3,rfl,?_⟩
 have e:((iw ord).set l ((ord.getD (l+1) 0:Nat):Int)).set (l+1) ((ord.getD l 0:Nat):Int)=iw (dQ ord l):=by
  unfold dQ
  rw[eR,eR]
 rw[e]at yl
 exact yl
theorem NV(q:List Nat)(x:Nat):(iw q).idxOf (x:Int)=q.idxOf x:=by
 induction q with
 |nil=>rfl
 |cons y q ih=>
  show(((y:Nat):Int)::iw q).idxOf (x:Int)=_
  rw[List.idxOf_cons,List.idxOf_cons,ih]
  have:(((y:Nat):Int)==(x:Int))=(y==x):=by
   rw[Bool.eq_iff_iff];simp[Int.natCast_inj]
  rw[this]
theorem De(a k:Nat):decide ((a>>>k)%2=1)=a.testBit k:=by
 cases hb:a.testBit k
 ·rw[decide_eq_false];rw[af.jK,hb];simp
 ·rw[decide_eq_true];rw[af.jK,hb]
theorem Kl{B:Hp}{v:Value}{n x:Nat}{ws:List Nat}(ht:iL B v ⟨n,ws⟩)(hf:af.bO n ws)(hx:x<2^n):Rd Tryz.prog 162 #[v,.int .i64 (x:Int)] B (· =.bool (af.bit ws x)):=by
 obtain⟨s,rfl,hw⟩:=ht
 have hn:=hf.jz
 have hp:2^n≤65536:=Nat.pow_le_pow_right (n:=2) (by decide) hn
 have hi:x/64<ws.length:=by rw[hf.len];exact af.nQ hx
 refine aW fun g=>Bz ?_
 intro b1 _
 refine Ld.f ?_
 refine aa.sS (b:=64) (by simp[aY];omega) (by decide) ?_
 have hg:(iw ws)[x/64]? =some ((ws.getD (x/64) 0:Nat):Int):=bB hi
 refine hw.1.ld hg zS ?_
 have hlt:ws.getD (x/64) 0<18446744073709551616:=by
  rw[List.getD_eq_getElem?_getD,List.getElem?_eq_getElem hi];exact hf.lt (List.getElem_mem hi)
 refine aa.wx (b:=64) (by decide) ?_
 refine aa.fD (by simpa[aY]using hlt) ?_
 refine aa.wx (b:=2) (by decide) ?_
 refine aa.iK (b:=1) ?_
 rw[De]
 exact bK.mk .tail rfl
theorem P2{F:Nat→Bool}{W i:Nat}(hi:i<W):((List.range W).map fun k=>if k<i then F k else false).set i (F i)=(List.range W).map fun k=>if k<i+1 then F k else false:=by
 apply List.ext_getElem?
 intro j
 by_cases e:i=j
 ·subst e;simp[hi]
 ·rw[List.getElem?_set_ne e]
  by_cases hj:j<W
  ·simp only[List.getElem?_map,List.getElem?_range hj,Option.map_some]
   by_cases h2:j<i
   ·rw[if_pos h2,if_pos (by omega)]
   ·rw[if_neg h2,if_neg (by omega)]
  ·rw[List.getElem?_eq_none (by simp;omega),List.getElem?_eq_none (by simp;omega)]
theorem Mn{F:Nat→Bool}{W:Nat}:List.replicate W false=(List.range W).map fun k=>if k<0 then F k else false:=by
 apply List.ext_getElem?
 intro j
 by_cases hj:j<W
 ·simp[hj]
 ·rw[List.getElem?_eq_none (by simp;omega),List.getElem?_eq_none (by simp;omega)]
theorem Mp{F:Nat→Bool}{W:Nat}:((List.range W).map fun k=>if k<W then F k else false)=(List.range W).map F:=List.map_congr_left fun k hk=>by rw[if_pos (List.mem_range.1 hk)]
theorem EY(n:Nat)(b:Bool):jI n b=(List.range (2^n)).map fun _=>b:=by
 unfold jI
 apply List.ext_getElem?
 intro j
 by_cases hj:j<2^n
 ·simp[hj]
 ·rw[List.getElem?_eq_none (by simp;omega),List.getElem?_eq_none (by simp;omega)]
theorem xS{n:Nat}{b:Bool}(hn:n≤16)(B:Hp):Px Tryz.prog 236 #[.int .i64 (n:Int),.bool b] B (fun r H=>iL H r ⟨n,bq n b⟩):=by
 intro g
 have hp:2^n≤65536:=Nat.pow_le_pow_right (n:=2) (by decide) hn
 refine AD (R:=bN _) ?_
 unfold L236
 intro b1 _
 refine aa.kf (a:=1) (by simp[IntKind.bits];omega) (by rw[Nat.one_shiftLeft];simp[aY];omega) ?_
 rw[Nat.one_shiftLeft]
 refine br.oe (by omega) fun b2=>?_
 rw[Mn (F:=fun _=>b)]
 refine⟨fun vs H=>∃k:Nat,vs=[.int .i64 (k:Int)]∧k≤2^n∧H=(b1,.cells #[.int .i64 0,.slice none 0 0] 57 (0,0))::(b2,.cells (cz ((List.range (2^n)).map fun j=>if j<k then b else false)) 4 (0,0))::B,
  fun vs _=>2^n-aT vs 0,JE.of .swap ⟨0,rfl,Nat.zero_le _,rfl⟩,?_⟩
 rintro w H ⟨k,⟨⟩,hk,rfl⟩ gs
 refine aA.mk (aa.cZ (Br.dec (fun hlt=>?_) (fun hlt=>?_)))
 ·refine aj.nat hlt ?_
  refine St.oe (l:=(List.range (2^n)).map fun j=>if j<k then b else false) (by exact .tail (.head _)) (by simpa using hlt) ?_
  rw[P2 (F:=fun _=>b) hlt]
  refine aa.inc ?_
  exact aq.mk ⟨k+1,rfl,by omega,rfl⟩ (by simp[aT];omega)
 ·obtain rfl:k=2^n:=by omega
  rw[Mp (F:=fun _=>b),←EY]
  have hlen:(jI n b).length=2^n:=by simp[jI]
  have hB:=kW.block (b:=b2) (cap:=2^n) (l:=jI n b) (T:=4) (fz:=(0,0)) (B:=(b2,.cells (cz (jI n b)) 4 (0,0))::B) (.head _) (by omega)
  rw[hlen]at hB
  refine ae.pq (ve hn hB (by rw[hlen];exact gD) (by rw[hlen];exact gD)) ?_
  rintro r N ⟨s,rfl,hw⟩
  have hone:=ax hw
  refine St.p (by simpa[Value.oneCell']using hone) ?_
  refine av.q ?_
  exact jS.mk (by repeat (first|exact aG.refl _|apply aG.cons|apply aG.app)) ⟨s,rfl,hw.mono zS⟩
theorem q9{B:Hp}{v:Value}{n:Nat}{ws:List Nat}(ht:iL B v ⟨n,ws⟩)(hf:af.bO n ws):Rd Tryz.prog 190 #[v] B (· =.bool (decide (ws=bq n false∨ws=bq n true))):=by
 obtain⟨s,rfl,hw⟩:=ht
 have hn:=hf.jz
 have hl:=dM hf
 refine aW fun g=>Bc ?_
 intro b1 _ J hJ
 refine DR.self ?_
 refine av.q ?_
 refine Ld.f ?_
 intro F1
 refine ae.pq (xS (b:=false) hn _) ?_
 rintro v N h1
 refine⟨.right,?_⟩
 intro F2
 refine ae.eq (gu (v1:=.agg (List.toArray [.int .i64 (n:Int),s])) (a:=⟨n,ws⟩) ⟨s,rfl,hw.mono zS⟩ h1 (by show ws.length<_;omega)) ?_
 refine⟨.right,?_⟩
 refine Br.dec (fun he=>?_) (fun he=>?_)
 ·have he':ws=bq n false:=by injection he
  refine JE.of (.bJ .tail) (hJ _ _ fun gs=>bK.mk (.refl _) ?_)
  rw[decide_eq_true (.inl he')]
 ·have he':ws≠bq n false:=fun e=>he (by rw[e])
  refine av.q ?_
  refine Ld.f ?_
  intro F3
  refine ae.pq (xS (b:=true) hn _) ?_
  rintro v N2 h2
  refine⟨.bJ .right,?_⟩
  intro F4
  refine ae.eq (gu (v1:=.agg (List.toArray [.int .i64 (n:Int),s])) (a:=⟨n,ws⟩) ⟨s,rfl,hw.mono zS⟩ h2 (by show ws.length<_;omega)) ?_
  refine⟨.bJ .right,?_⟩
  refine ay.mk (JE.of (.bJ (.bJ .tail)) (hJ _ _ fun gs=>bK.mk (.refl _) ?_))
  by_cases h3:ws=bq n true
  ·subst h3
   rw[decide_eq_true rfl,decide_eq_true (.inr rfl)];rfl
  ·rw[decide_eq_false (fun e=>h3 (by injection e)),decide_eq_false (fun e=>e.elim he' h3)];rfl
end Go.Proofs
namespace Go.Sx
open Go
section
variable {P:Program} {g:Gh} {H C:Hp} {c:Hp→Hp}
theorem aO.G5{T:TypeId}{k j:Nat}{v x:Value}{rs:List (List Value)}(hs:aO T k v rs C)(hh:bj C H c){i:Nat}{kd:IntKind}{r:List Value}(hr:rs[i]? =some r)(hj:j<k)(h1:x.oneCell'=true){K:Hp→Prop}
 (hk:∀C',aO T k v (rs.set i (r.set j x)) C'→K (c C')):aj k v (.int kd (i:Int)) fun p=>ag j p fun q=>St 1 H q x K:=by
 obtain⟨A,B,e⟩:=hh.split
 have e2:=hh.spec.1
 rw[e]at e2
 subst e2
 have hi:=(List.getElem?_eq_some_iff.1 hr).1
 obtain⟨b',aD,rfl,rfl,aB⟩:=hs.pos (by omega)
 have hg:(rs++aD)[i]? =some r:=by rw[List.getElem?_append_left hi];exact hr
 have ni:=aB r (List.mem_append_left _ (List.mem_of_getElem? hr))
 refine aj.nat hi (ag.mk (St.cell (l:=rs++aD) (((cA.head _).append B).bP A) aB hg hj h1 ?_))
 have e3:(rs++aD).set i (r.set j x)=rs.set i (r.set j x)++aD:=by rw[List.set_append_left _ _ hi]
 rw[e3]
 have:=hk [(b',.cells (rows (rs.set i (r.set j x)++aD)) T (0,0))] (aO.mk' (aD:=aD) (fun y hy=>?_) (by simp) (by simp))
 ·rwa [e]at this
 ·rcases List.mem_append.1 hy with hy|hy
  ·rcases List.mem_or_eq_of_mem_set hy with hy|rfl
   ·exact aB y (List.mem_append_left _ hy)
   ·simpa using ni
  ·exact aB y (List.mem_append_right _ hy)
theorem fR.app{α:Type}{p:List Value→α→Prop}{rs Tx:List (List Value)}{l l2:List α}(h:fR p rs l)(h2:fR p Tx l2):fR p (rs++Tx) (l++l2):=by
 refine⟨by simp[h.1,h2.1],fun i r x a b=>?_⟩
 by_cases e:i<l.length
 ·rw[List.getElem?_append_left e]at b
  rw[List.getElem?_append_left (by rw[h.1];exact e)]at a
  exact h.2 i _ _ a b
 ·rw[List.getElem?_append_right (by omega)]at b
  rw[List.getElem?_append_right (by rw[h.1];omega),h.1]at a
  exact h2.2 _ _ _ a b
theorem fR.set{α:Type}{p:List Value→α→Prop}{rs:List (List Value)}{l:List α}(h:fR p rs l){i:Nat}{r:List Value}{x:α}(hx:p r x):fR p (rs.set i r) (l.set i x):=by
 refine⟨by simp[h.1],fun j r' x' a b=>?_⟩
 by_cases e:i=j
 ·subst e
  rw[List.getElem?_set_self']at a b
  cases h1:rs[i]? with
  |none=>rw[h1]at a;simp at a
  |some y=>
   cases h2:l[i]? with
   |none=>rw[h2]at b;simp at b
   |some z=>
    rw[h1]at a;rw[h2]at b
    simp at a b
    subst a;subst b;exact hx
 ·rw[List.getElem?_set_ne e]at a b
  exact h.2 j _ _ a b
theorem dJ.mC{T:TypeId}{v x:Value}{ts PS:List Tb}{B0:Hp}(h:dJ T v ts C B0)(hh:bj C H c)(hx:bV B0 x PS)(hs:∀y∈B0,y∈H)
 (hl:ts.length+PS.length≤4398046511103){K:Value→Hp→Prop}(hk:∀v' C',dJ T v' (ts++PS) C' B0→K v' (c C')):App P T 2 32 (.agg #[.int .i64 0,.slice Option.none 0 0]) H v x K:=by
 obtain⟨A,B,e⟩:=hh.split
 have e2:=hh.spec.1
 rw[e]at e2
 subst e2
 obtain⟨rs,h1,h2⟩:=h
 obtain⟨Tx,g1,g2⟩:=hx
 obtain⟨a,cap,rfl,hc⟩:=Sl.cells (g1.mono hs)
 have l1:=h2.1
 have l2:=g2.1
 refine aO.apps h1 hc g1.1 (fun r hr u hu=>?_) ⟨[.int .i64 0,.slice Option.none 0 0],rfl,rfl⟩ (by omega) (by omega) fun v' C' ho=>by have:=hk v' C' ⟨_,ho,h2.app g2⟩;rwa [e]at this
 obtain⟨i,hi,he⟩:=List.getElem_of_mem hr
 have hlt:i<PS.length:=by omega
 obtain⟨s,h3,hw⟩:=g2.2 i r PS[i] (by rw[List.getElem?_eq_getElem hi,he]) (List.getElem?_eq_getElem hlt)
 subst h3
 simp only[List.mem_cons,List.not_mem_nil,or_false]at hu
 rcases hu with rfl|rfl
 ·rfl
 ·obtain⟨a,c,rfl,_⟩:=hw.1.shape;rfl
end
end Go.Sx
set_option maxRecDepth 100000
namespace Go.Proofs
open Go Go.Sx
open aU
def PI(n:Nat)(B:Hp)(v:Value)(LL:List af.Fs):Prop:=∃rs,Sl 1 B v rs∧fR (fun r L=>∃x,r=[x]∧bV B x (cY n L)) rs LL
theorem PI.aL{n:Nat}{B:Hp}{v:Value}{LL:List af.Fs}(h:PI n B v LL){K:Value→Prop}(hk:K (.int .i64 LL.length)):aA v K:=by
 obtain⟨rs,h1,h2⟩:=h;refine h1.aL ?_;rw[h2.1];exact hk
theorem PI.ld{n:Nat}{B H:Hp}{v:Value}{LL:List af.Fs}{kd:IntKind}(h:PI n B v LL){i:Nat}{L:af.Fs}(hi:LL[i]? =some L)(hs:∀x∈B,x∈H){K:Value→Prop}(hk:∀x,bV B x (cY n L)→K x):aj 1 v (.int kd (i:Int)) (fun p=>Ld H p K):=by
 obtain⟨rs,h1,h2⟩:=h
 obtain⟨r,hr,x,rfl,hx⟩:=h2.get hi
 exact aj.sl h1 hr fun p hp=>Ld.at hp hs (hk x hx)
section
variable {n:Nat} {ord:List Nat} {L:af.Fs}
theorem Df:∀k,(cur n ord L k).length≤2^k*L.length
 |0=>by rw[cur,Nat.pow_zero,Nat.one_mul];exact oB L
 |k+1=>by
  have h1:=xy n (ord.getD k 0) (cur n ord L k)
  have h2:=Df k
  rw[cur,Nat.pow_succ,Nat.mul_comm (2^k) 2,Nat.mul_assoc]
  omega
theorem xP(hn:n≤16){k:Nat}(hk:k≤n):(cur n ord L k).length≤65536*L.length:=
 Nat.le_trans (Df k) (Nat.mul_le_mul_right _ (Nat.pow_le_pow_right (n:=2) (by decide) (Nat.le_trans hk hn)))
theorem lz(hn:n≤16){k:Nat}(hk:k≤n):(jA n ord L k).length≤65536*L.length:=
 Nat.le_trans (List.length_filter_le _ _) (xP hn hk)
theorem nD(hn:n≤16):∀k,k≤n→bL n ord L k≤k*(65536*L.length)
 |0,_=>by simp[bL]
 |k+1,hk=>by
  have h1:=nD hn k (by omega)
  have h2:=lz (ord:=ord) (L:=L) hn (k:=k) (by omega)
  rw[bL,Nat.succ_mul];omega
def gf(n:Nat)(ord:List Nat)(L:af.Fs)(k:Nat):List af.Fs:=(List.range k).map (jA n ord L)
theorem lq{k m:Nat}(h:m<k):(gf n ord L k)[m]? =some (jA n ord L m):=by unfold gf;rw[List.getElem?_map,List.getElem?_range h];rfl
theorem oK{B:Hp}{v o:Value}(hL:bV B v (cY n L))(ho:bW .i64 B o (iw ord))(hlen:ord.length=n)(hlt:∀i,i<n→ord.getD i 0<n)(hf:∀t∈L,af.bO n t)(hn:n≤16)(aV:L.length≤2097152):
  Px Tryz.prog 227 #[v,o] B (fun r H=>PI n H r (gf n ord L n)):=by
 refine aW fun g=>AM ?_
 refine ae.pq (mO hL hf (by omega)) ?_
 rintro v1 N0 yh
 refine ho.aL ?_
 rw[ah,hlen]
 refine⟨fun vs H=>∃(k:Nat) (w8 w9:Value) (rs:List (List Value)) (C N:Hp),vs=[w8,w9,.int .i64 (k:Int)]∧k≤n∧H=C++(N++B)∧aO 28 1 w8 rs C∧fR (fun r L=>∃x,r=[x]∧bV (N++B) x (cY n L)) rs (gf n ord L k)∧bV (N++B) w9 (cY n (cur n ord L k)),
  fun vs _=>n-aT vs 2,JE.mk ⟨0,_,v1,[],[],N0,rfl,Nat.zero_le _,rfl,aO.nil _ _,fR.nil,yh⟩,?_⟩
 rintro w8 w9 Tq H ⟨k,u8,u9,rs,C,N,⟨⟩,hk,rfl,hC,hE,hc⟩ gs
 refine aa.cZ (Br.dec (fun eC=>?_) (fun eC=>?_))
 rotate_left
 ·obtain rfl:k=n:=by omega
  refine jS.mk (.app (.app (.refl _))) ⟨rs,(Sl.qN hC (by decide)).mono fun _ h=>List.mem_append_left _ h,hE.mono fun r L ⟨x,e,h⟩=>⟨x,e,h.mono fun _ h=>List.mem_append_right _ h⟩⟩
 have jt:=xP (ord:=ord) (L:=L) hn hk
 have MY:=gz (ord:=ord) hf hn k
 refine ho.ld (n:=((ord.getD k 0:Nat):Int)) (bB (by omega)) (fun _ h=>List.mem_append_right _ (List.mem_append_right _ h)) ?_
 refine ae.pq (ti hc MY (hlt k eC) (by omega)) ?_
 rintro v2 N2 MC
 obtain⟨sa,sc,rfl⟩:∃a c,v2=Value.slice a (cY n (jA n ord L k)).length c:=by obtain⟨rs,h1,h2⟩:=MC;obtain⟨a,c,h,_⟩:=h1.shape;have:=h2.1;rw[this]at h;exact⟨a,c,h⟩
 refine an.cell (e:=28) (z:=.slice none 0 0) (by kernel_rfl) (by kernel_rfl) (by kernel_rfl) rfl fun bx=>?_
 have ni:=hE.1
 have sC:(gf n ord L k).length=k:=by simp[gf]
 refine hC.oh (r:=[.slice sa (cY n (jA n ord L k)).length sc]) (.cons .left) (by exact .head _) rfl (by simp[Value.oneCell']) ⟨[.slice none 0 0],rfl,rfl⟩ (by omega) (by omega) fun v' C3 ZC=>?_
 refine ae.pq (B:=N2++(N++B)) (tj (hc.mono fun _ h=>List.mem_append_right _ h) MY hn (hlt k eC) (by omega)) ?_
 rintro v3 N3 Yj
 refine aa.inc ?_
 refine aq.of .tail ⟨k+1,v',v3,_,C3,N3++(N2++N),rfl,by omega,by simp only[List.append_assoc],ZC,?_,?_⟩ (by simp only[aT];omega)
 ·have e:gf n ord L (k+1)=gf n ord L k++[jA n ord L k]:=by unfold gf;rw[List.range_succ,List.map_append];rfl
  rw[e]
  simp only[List.append_assoc]
  exact(hE.mono fun r L ⟨x,e,h⟩=>⟨x,e,h.mono zS⟩).snoc ⟨_,rfl,MC.mono zS⟩
 ·simp only[List.append_assoc];exact Yj
theorem G1{B:Hp}{v o:Value}(hL:bV B v (cY n L))(ho:bW .i64 B o (iw ord))(hlen:ord.length=n)(hlt:∀i,i<n→ord.getD i 0<n)(hf:∀t∈L,af.bO n t)(hn:n≤16)(aV:L.length≤2097152):
  Rd Tryz.prog 229 #[v,o] B (· =.int .i64 ((bL n ord L n:Nat):Int)):=by
 refine aW fun g=>AK ?_
 refine ae.pq (oK hL ho hlen hlt hf hn aV) ?_
 rintro v1 N yh
 refine yh.aL ?_
 rw[show(gf n ord L n).length=n by simp[gf]]
 refine⟨fun vs H=>∃k:Nat,vs=[.int .i64 ((bL n ord L k:Nat):Int),.int .i64 (k:Int)]∧k≤n∧H=N++B,fun vs _=>n-aT vs 1,JE.mk ⟨0,rfl,Nat.zero_le _,rfl⟩,?_⟩
 rintro w8 w9 H ⟨k,⟨⟩,hk,rfl⟩ gs
 refine aa.cZ (Br.dec (fun eC=>?_) (fun eC=>?_))
 ·refine yh.ld (lq eC) (fun _ h=>h) fun x hx=>?_
  refine hx.aL ?_
  rw[aF]
  have h1:=lz (ord:=ord) (L:=L) hn hk
  have h2:=nD (ord:=ord) (L:=L) hn k hk
  have h3:k*(65536*L.length)≤16*(65536*2097152):=Nat.mul_le_mul (by omega) (Nat.mul_le_mul_left _ aV)
  refine aa.dx ?_
  refine aa.inc ?_
  exact aq.of (.refl _) ⟨k+1,by rw[bL],by omega,rfl⟩ (by simp only[aT];omega)
 ·obtain rfl:k=n:=by omega
  exact bK.mk .right rfl
end
structure Md where
 n:Nat
 cap:Nat
 ord:List Nat
 held:List (List Nat×Nat)
 tr:List Nat
def Md.aM(M:Md):af.Fs:=M.held.map Prod.fst
structure Md.gB(M:Md):Prop where
 jz:M.n≤16
 cap:M.cap≤1048576
 len:M.ord.length=M.n
 lt:∀i,i<M.n→M.ord.getD i 0<M.n
 ic:∀t∈M.aM,af.bO M.n t
 Gp:M.held.length≤65536
 cnt:∀e∈M.held,e.2≤65535
 VQ:M.tr.length≤1099511627776
theorem Md.cB(M:Md):M.aM.length=M.held.length:=by simp[Md.aM]
def JD(n:Nat)(B:Hp)(r:List Value)(e:List Nat×Nat):Prop:=∃s,r=[.int .i64 (n:Int),s,.int .i64 ((e.2:Nat):Int)]∧Words B s e.1
theorem JD.mono{n:Nat}{B B':Hp}{r:List Value}{e:List Nat×Nat}(h:JD n B r e)(hs:∀x∈B,x∈B'):JD n B' r e:=let ⟨s,h1,h2⟩:=h;⟨s,h1,h2.mono hs⟩
def cE(M:Md)(vo vh vt:Value):Array Value:=#[.int .i64 (M.n:Int),.int .i64 (M.cap:Int),vo,vh,vt]
structure Z3(mp:Nat)(M:Md)(B:Hp)(vo vh vt:Value)(rs:List (List Value)):Prop where
 ue:(mp,Obj.cells (cE M vo vh vt) 74 (0,0))∈B
 ord:bW .i64 B vo (iw M.ord)
 sl:Sl 3 B vh rs
 each:fR (JD M.n B) rs M.held
 tr:bW .i64 B vt (iw M.tr)
def vx(mp:Nat)(M:Md)(B:Hp):Prop:=∃vo vh vt rs,Z3 mp M B vo vh vt rs
theorem vx.mono{mp:Nat}{M:Md}{B B':Hp}(h:vx mp M B)(hs:∀x∈B,x∈B'):vx mp M B':=by
 obtain⟨vo,vh,vt,rs,h⟩:=h
 exact⟨vo,vh,vt,rs,hs _ h.ue,h.ord.mono hs,h.sl.mono hs,h.each.mono fun _ _ h=>h.mono hs,h.tr.mono hs⟩
structure Z4(mp:Nat)(M:Md)(X:Hp)(vo vh vt:Value)(rs:List (List Value))(CO CH CT:Hp):Prop where
 ord:aK 3 .i64 vo (iw M.ord) CO
 sl:aO 241 3 vh rs CH
 each:fR (JD M.n X) rs M.held
 tr:aK 3 .i64 vt (iw M.tr) CT
def eU(mp:Nat)(M:Md)(X H:Hp):Prop:=∃vo vh vt rs CO CH CT,H=(mp,.cells (cE M vo vh vt) 74 (0,0))::(CO++(CH++(CT++X)))∧Z4 mp M X vo vh vt rs CO CH CT
theorem eU.rd{mp:Nat}{M:Md}{X H:Hp}(h:eU mp M X H):vx mp M H:=by
 obtain⟨vo,vh,vt,rs,CO,CH,CT,rfl,hO⟩:=h
 exact⟨vo,vh,vt,rs,.head _,hO.ord.ints.mono fun _ h=>.tail _ (List.mem_append_left _ h),(Sl.qN hO.sl (by decide)).mono fun _ h=>.tail _ (List.mem_append_right _ (List.mem_append_left _ h)),
  hO.each.mono fun _ _ h=>h.mono fun _ h=>.tail _ (List.mem_append_right _ (List.mem_append_right _ (List.mem_append_right _ h))),hO.tr.ints.mono fun _ h=>.tail _ (List.mem_append_right _ (List.mem_append_right _ (List.mem_append_left _ h)))⟩
theorem eU.sub{mp:Nat}{M:Md}{X H:Hp}(h:eU mp M X H):∀x∈X,x∈H:=by
 obtain⟨vo,vh,vt,rs,CO,CH,CT,rfl,hO⟩:=h
 exact fun _ h=>.tail _ (List.mem_append_right _ (List.mem_append_right _ (List.mem_append_right _ h)))
section
variable {mp:Nat} {M:Md} {B:Hp}
theorem iO(h:vx mp M B)(hM:M.gB):Px Tryz.prog 88 #[ptr mp] B (fun r H=>bV H r (cY M.n M.aM)):=by
 obtain⟨vo,vh,vt,rs,hR⟩:=h
 have zi:=hM.Gp
 have ni:=hR.each.1
 refine aW fun g=>Fm ?_
 refine Ld.v hR.ue ?_
 refine hR.sl.aL ?_
 rw[ni]
 refine⟨fun vs H=>∃(k:Nat) (w:Value) (C:Hp),vs=[w,.int .i64 (k:Int)]∧k≤M.held.length∧H=C++B∧dJ 57 w (cY M.n (M.aM.take k)) C B,fun vs _=>M.held.length-aT vs 1,JE.mk ⟨0,_,[],rfl,Nat.zero_le _,rfl,dJ.nil⟩,?_⟩
 rintro w9 Tq H ⟨k,w,C,⟨⟩,hk,rfl,hC⟩ gs
 refine aa.cZ (Br.dec (fun hlt=>?_) (fun hlt=>?_))
 ·obtain⟨r,hr,s,rfl,hw⟩:=hR.each.get (List.getElem?_eq_getElem hlt)
  have hone:=ax hw
  refine aj.sl hR.sl hr fun p hp=>av.at hp rfl (by decide) (fun _ h=>List.mem_append_right _ h) ?_
  intro Xc _
  refine St.p (by simpa[Value.oneCell']using hone) ?_
  refine ag.mk (av.mk (vs:=#[.int .i64 (M.n:Int),s]) (by exact .head _) (by simp) rfl ?_)
  refine dW fun xb=>?_
  have ht:M.aM[k]'(by rw[M.cB];exact hlt)=M.held[k].1:=by simp[Md.aM]
  refine hC.app (A:=[_,_]) (t:=⟨M.n,M.held[k].1⟩) (s:=s) (by exact .head _) hw (by rw[aF,List.length_take];omega) fun v' C' bE=>?_
  rw[j6]at bE
  refine aa.inc ?_
  refine aq.of (.skip .tail) ⟨k+1,v',C',rfl,hlt,rfl,?_⟩ (by simp only[aT];omega)
  rw[List.take_succ_eq_append_getElem (by rw[M.cB];exact hlt),ht]
  exact bE
 ·obtain rfl:k=M.held.length:=by omega
  rw[←M.cB,List.take_length]at hC
  exact jS.mk (.app (.refl _)) (hC.sF (fun _ h=>List.mem_append_left _ h) (fun _ h=>List.mem_append_right _ h))
theorem wu(h:vx mp M B)(hM:M.gB){v:Value}{L:af.Fs}(hL:bV B v (cY M.n L))(hf:∀t∈L,af.bO M.n t)(aV:L.length≤2097152):Rd Tryz.prog 167 #[ptr mp,v] B (· =.int .i64 ((bL M.n M.ord L M.n:Nat):Int)):=by
 obtain⟨vo,vh,vt,rs,hR⟩:=h
 refine aW fun g=>Bu ?_
 refine Ld.v hR.ue ?_
 refine ae.eq (G1 hL hR.ord hM.len hM.lt hf hM.jz aV) ?_
 exact bK.mk (.refl _) rfl
theorem wy(h:vx mp M B)(hM:M.gB):Rd Tryz.prog 87 #[ptr mp] B (· =.int .i64 ((bL M.n M.ord M.aM M.n:Nat):Int)):=by
 have zi:=hM.Gp
 refine aW fun g=>Fo ?_
 refine ae.pq (iO h hM) ?_
 rintro v N hv
 refine ae.eq (wu (h.mono fun _ h=>List.mem_append_right _ h) hM hv hM.ic (by rw[M.cB];omega)) ?_
 exact bK.mk .right rfl
theorem Hu(h:vx mp M B)(hM:M.gB){v:Value}{L:af.Fs}(hL:bV B v (cY M.n L))(hf:∀t∈L,af.bO M.n t)(aV:L.length≤1048576):Rd Tryz.prog 122 #[ptr mp,v] B (· =.bool (decide (2+bL M.n M.ord (M.aM++L) M.n≤M.cap))):=by
 have zi:=hM.Gp
 have hcap:=hM.cap
 have hn:=hM.jz
 have Qv:=M.cB
 refine aW fun g=>BZ ?_
 refine ae.pq (iO h hM) ?_
 rintro v1 N yh
 refine dJ.mC (C:=[]) (c:=fun X=>X++(N++B)) (B0:=N++B) dJ.nil hnew yh (fun _ h=>h) (by rw[aF];simp;omega) fun v2 C2 jQ=>?_
 refine dJ.mC jQ .left (hL.mono fun _ h=>List.mem_append_right _ h) (fun _ h=>List.mem_append_right _ h) (by rw[List.nil_append,aF,aF];omega) fun v3 C3 yl=>?_
 have e:[]++cY M.n M.aM++cY M.n L=cY M.n (M.aM++L):=by simp[cY]
 rw[e]at yl
 have h':=h.mono (B':=C3++(N++B)) fun _ h=>List.mem_append_right _ (List.mem_append_right _ h)
 have Uz:∀t∈M.aM++L,af.bO M.n t:=fun t ht=>by
  rcases List.mem_append.1 ht with ht|ht
  ·exact hM.ic t ht
  ·exact hf t ht
 refine DR.self ?_
 obtain⟨vo,vh,vt,rs,hR⟩:=h'
 refine Ld.v hR.ue ?_
 refine ae.eq (wu ⟨vo,vh,vt,rs,hR⟩ hM (yl.sF (fun _ h=>List.mem_append_left _ h) (fun _ h=>List.mem_append_right _ h)) Uz (by rw[List.length_append];omega)) ?_
 have h2:=nD (ord:=M.ord) (L:=M.aM++L) hn M.n (Nat.le_refl _)
 rw[List.length_append]at h2
 have h3:M.n*(65536*(M.aM.length+L.length))≤16*(65536*2097152):=Nat.mul_le_mul hn (Nat.mul_le_mul_left _ (by omega))
 refine⟨.refl _,?_⟩
 refine aa.dx (a:=2) ?_
 refine aa.CG ?_
 exact bK.mk (.bJ .right) rfl
end
end Go.Proofs
set_option maxRecDepth 100000
namespace Go.Proofs
open Go Go.Sx
open aU
section
variable {mp:Nat} {M:Md} {B:Hp}
theorem qS(h:vx mp M B)(hM:M.gB):Px Tryz.prog 172 #[ptr mp] B (fun r H=>PI M.n H r (gf M.n M.ord M.aM M.n)):=by
 have zi:=hM.Gp
 refine aW fun g=>Bo ?_
 obtain⟨vo,vh,vt,rs,hR⟩:=h
 refine DR.self ?_
 refine Ld.v hR.ue ?_
 refine ae.pq (iO ⟨vo,vh,vt,rs,hR⟩ hM) ?_
 rintro v N hv
 refine⟨.right,?_⟩
 refine ae.pq (oK hv (hR.ord.mono fun _ h=>List.mem_append_right _ h) hM.len hM.lt hM.ic hM.jz (by rw[M.cB];omega)) ?_
 rintro v2 N2 MC
 exact jS.mk (.app (.app (.refl _))) MC
theorem om{n:Nat}{ord:List Nat}{L:af.Fs}(hn:n≤16)(hL:L.length≤1048576){k:Nat}(hk:k≤n):(gA n ord L k).length≤1099511627776:=by
 rw[kQ]
 have h2:=nD (ord:=ord) (L:=L) hn k hk
 have h3:k*(65536*L.length)≤16*(65536*1048576):=Nat.mul_le_mul (by omega) (Nat.mul_le_mul_left _ hL)
 omega
theorem PR(h:vx mp M B)(hM:M.gB){l:Nat}(hl:l+1<M.n):Rd Tryz.prog 165 #[ptr mp,.int .i64 (l:Int)] B (· =.int .i64 (((kN M.n M.ord l M.aM).length:Nat):Int)):=by
 have zi:=hM.Gp
 have hn:=hM.jz
 have hlen:=hM.len
 have l7:=GP hl hM.len hM.lt
 have Qv:=M.cB
 refine aW fun g=>Bw ?_
 refine ae.pq (qS h hM) ?_
 rintro v1 N yh
 refine yh.aL ?_
 rw[show(gf M.n M.ord M.aM M.n).length=M.n by simp[gf]]
 refine⟨fun vs H=>∃(k:Nat) (w:Value) (C:Hp),vs=[w,.int .i64 (k:Int)]∧k≤M.n∧H=C++(N++B)∧dJ 57 w (cY M.n (gA M.n M.ord M.aM k)) C (N++B),fun vs _=>M.n-aT vs 1,JE.mk ⟨0,_,[],rfl,Nat.zero_le _,rfl,dJ.nil⟩,?_⟩
 rintro w8 w9 H ⟨k,w,C,⟨⟩,hk,rfl,hC⟩ gs
 refine aa.cZ (Br.dec (fun eC=>?_) (fun eC=>?_))
 ·refine yh.ld (lq eC) (fun _ h=>List.mem_append_right _ h) fun x hx=>?_
  have h1:=om (ord:=M.ord) hn (L:=M.aM) (by omega) hk
  have h2:=lz (ord:=M.ord) (L:=M.aM) hn hk
  refine dJ.mC hC .left hx (fun _ h=>List.mem_append_right _ h) (by rw[aF,aF];omega) fun v' C' ho=>?_
  refine aa.inc ?_
  refine aq.of (.refl _) ⟨k+1,v',C',rfl,eC,rfl,?_⟩ (by simp only[aT];omega)
  have e:cY M.n (gA M.n M.ord M.aM k)++cY M.n (jA M.n M.ord M.aM k)=cY M.n (gA M.n M.ord M.aM (k+1)):=by rw[gA];simp[cY]
  rw[←e];exact ho
 ·obtain rfl:k=M.n:=by omega
  have h':=h.mono (B':=N++B) fun _ h=>List.mem_append_right _ h
  refine DR.self ?_
  obtain⟨vo,vh,vt,rs,hR⟩:=h'
  refine Ld.v (List.mem_append_right _ hR.ue) ?_
  refine ae.pq (iO ⟨vo,vh,vt,rs,hR⟩ hM) ?_
  rintro v2 N2 MC
  refine⟨.cv .right _,?_⟩
  refine ae.fq (mI (hR.ord.mono fun _ h=>List.mem_append_right _ h) (by omega) (by omega)) ?_
  rintro v3 H ⟨N3,rfl,yl⟩
  refine⟨.cv (.bJ .right) _,?_⟩
  refine ae.pq (oK (MC.mono fun _ h=>List.mem_append_right _ h) (yl.ints.mono fun _ h=>List.mem_append_left _ h) (by rw[gp];exact hlen) l7 hM.ic hn (by omega)) ?_
  rintro v4 N4 V5
  refine⟨.cv (.bJ (.bJ .right)) _,?_⟩
  refine V5.aL ?_
  rw[show(gf M.n (dQ M.ord l) M.aM M.n).length=M.n by simp[gf]]
  refine⟨fun vs H=>∃(k:Nat) (w:Value) (C:Hp),vs=[w,.int .i64 (k:Int)]∧k≤M.n∧H=C++(N4++(N3++(N2++(N++B))))∧dJ 57 w (cY M.n (gA M.n M.ord M.aM M.n++gA M.n (dQ M.ord l) M.aM k)) C (N4++(N3++(N2++(N++B)))),
   fun vs _=>M.n-aT vs 1,JE.mk ⟨0,w8,C,rfl,Nat.zero_le _,rfl,by rw[gA,List.append_nil];exact hC.mono zS⟩,?_⟩
  rintro w33 Xs H ⟨k,w,C2,⟨⟩,sD,rfl,WR⟩ gs
  have h0:=om (ord:=M.ord) hn (L:=M.aM) (by omega) (Nat.le_refl M.n)
  have h1:=om (ord:=dQ M.ord l) hn (L:=M.aM) (by omega) sD
  refine aa.cZ (Br.dec (fun eC=>?_) (fun eC=>?_))
  ·refine V5.ld (lq eC) (fun _ h=>List.mem_append_right _ h) fun x hx=>?_
   have h2:=lz (ord:=dQ M.ord l) (L:=M.aM) hn sD
   refine dJ.mC WR .left hx (fun _ h=>List.mem_append_right _ h) (by rw[aF,aF,List.length_append];omega) fun v' C' ho=>?_
   refine aa.inc ?_
   refine aq.of (.refl _) ⟨k+1,v',C',rfl,eC,rfl,?_⟩ (by simp only[aT];omega)
   have e:cY M.n (gA M.n M.ord M.aM M.n++gA M.n (dQ M.ord l) M.aM k)++cY M.n (jA M.n (dQ M.ord l) M.aM k)=cY M.n (gA M.n M.ord M.aM M.n++gA M.n (dQ M.ord l) M.aM (k+1)):=by rw[gA];simp[cY]
   rw[←e];exact ho
  ·obtain rfl:k=M.n:=by omega
   have Uz:∀t∈gA M.n M.ord M.aM M.n++gA M.n (dQ M.ord l) M.aM M.n,af.bO M.n t:=fun t ht=>by
    rcases List.mem_append.1 ht with ht|ht
    ·exact ji hM.ic hn _ t ht
    ·exact ji hM.ic hn _ t ht
   refine ae.pq (mO (WR.sF (fun _ h=>List.mem_append_left _ h) (fun _ h=>List.mem_append_right _ h)) Uz (by rw[List.length_append];omega)) ?_
   rintro v5 N5 Yi
   refine Yi.aL ?_
   rw[aF]
   exact bK.mk (.bJ (.bJ (.bJ (.bJ (.bJ .right))))) rfl
theorem xJ(h:vx mp M B)(hM:M.gB){l:Nat}(hl:l+1<M.n)(hno:M.cap<2+(kN M.n M.ord l M.aM).length):Rd Tryz.prog 86 #[ptr mp,.int .i64 (l:Int)] B (· =.int .i64 9):=by
 have hn:=hM.jz
 have M1:(kN M.n M.ord l M.aM).length≤4398046511104:=by
  have h0:=om (ord:=M.ord) hn (L:=M.aM) (by have:=hM.Gp;rw[M.cB];omega) (Nat.le_refl M.n)
  have h1:=om (ord:=dQ M.ord l) hn (L:=M.aM) (by have:=hM.Gp;rw[M.cB];omega) (Nat.le_refl M.n)
  refine Nat.le_trans (oB _) ?_
  rw[List.length_append];omega
 refine aW fun g=>pe ?_
 obtain⟨vo,vh,vt,rs,hR⟩:=h
 refine aa.lss ?_
 rw[decide_eq_false (by omega)]
 refine dO.or false (fun _=>?_) rfl fun gs=>Br.no ?_
 ·refine Ld.v hR.ue ?_
  refine aa.gK (c:=(M.n:Int) -2) rfl (by omega) ?_
  exact aa.gtr ⟨rfl,by rw[decide_eq_false (by omega)]⟩
 refine DR.self ?_
 refine Ld.v hR.ue ?_
 refine ae.eq (PR ⟨vo,vh,vt,rs,hR⟩ hM hl) ?_
 refine⟨.refl _,?_⟩
 refine aa.dx (a:=2) ?_
 exact aa.jb (Br.zF hno (bK.mk (.refl _) rfl))
theorem xI{X H:Hp}(h:eU mp M X H)(hM:M.gB){l:Nat}(hl:l+1<M.n)(hfit:2+(kN M.n M.ord l M.aM).length≤M.cap):Fc Tryz.prog 86 #[ptr mp,.int .i64 (l:Int)] H (fun v H'=>v=.int .i64 0∧eU mp {M with ord:=dQ M.ord l,tr:=M.tr++[l]} X H'):=by
 have hn:=hM.jz
 have hcap:=hM.cap
 have TY:=hM.VQ
 have hlen:=hM.len
 have hrd:=h.rd
 obtain⟨vo,vh,vt,rs,CO,CH,CT,rfl,hO⟩:=h
 refine aW fun g=>pe ?_
 refine aa.lss ?_
 rw[decide_eq_false (by omega)]
 refine dO.or false (fun _=>?_) rfl fun gs=>Br.no ?_
 ·refine Ld.n ?_
  refine aa.gK (c:=(M.n:Int) -2) rfl (by omega) ?_
  exact aa.gtr ⟨rfl,by rw[decide_eq_false (by omega)]⟩
 refine DR.self ?_
 refine Ld.n ?_
 refine ae.eq (PR hrd hM hl) ?_
 refine⟨.refl _,?_⟩
 refine aa.dx (a:=2) ?_
 refine aa.jb (Br.F ?_)
 refine Ld.n ?_
 refine ae.fq (mI hO.ord.ints (by omega) (by omega)) ?_
 rintro v H ⟨N,rfl,ho⟩
 refine Nil.ptr (ag.mk (St.one (c':=cE M v vh vt) (by exact .head _) ho.one (by simp[cE]) rfl ?_))
 refine Ld.n ?_
 refine an.int (e:=3) (by kernel_rfl) (by kernel_rfl) (by kernel_rfl) fun bx=>?_
 refine hO.tr.oh (.cons (.cons (.app (.app .left)))) (by exact .head _) (by rw[ah];omega) (by rw[ah];omega) fun v' JZ bE=>?_
 refine Nil.ptr (ag.mk (St.one (c':=cE M v vh v') (by exact .tail (.head _)) bE.one (by simp[cE]) rfl ?_))
 refine bN.mk (jk:=(mp,.cells (cE M v vh v') 74 (0,0))::(N++(CH++(JZ++X)))) (.skip (.cons ?_)) ⟨rfl,v,vh,v',rs,N,CH,JZ,rfl,ho,hO.sl,hO.each,by rw[cm];exact bE⟩
 exact aJ.assoc.trans (.cv .right _)
theorem wW(h:vx mp M B)(hM:M.gB){v:Value}{t:List Nat}(ht:iL B v ⟨M.n,t⟩)(hf:af.bO M.n t):Rd Tryz.prog 96 #[ptr mp,v] B (fun r=>(∃e∈M.held,e.1=t∧r=.int .i64 ((e.2:Nat):Int))∨(t∉M.aM∧r=.int .i64 0)):=by
 obtain⟨s0,rfl,oO⟩:=ht
 obtain⟨vo,vh,vt,rs,hR⟩:=h
 have zi:=hM.Gp
 have ni:=hR.each.1
 refine aW fun g=>Fe ?_
 intro b1 _
 refine Ld.v (.tail _ hR.ue) ?_
 refine hR.sl.aL ?_
 rw[ni]
 refine⟨fun vs H=>∃k:Nat,vs=[.int .i64 (k:Int)]∧k≤M.held.length∧H=(b1,.cells #[.int .i64 (M.n:Int),s0] 57 (0,0))::B∧t∉M.aM.take k,fun vs _=>M.held.length-aT vs 0,JE.mk ⟨0,rfl,Nat.zero_le _,rfl,by simp⟩,?_⟩
 rintro PK H ⟨k,⟨⟩,hk,rfl,hno⟩ gs
 refine aa.cZ (Br.dec (fun hlt=>?_) (fun hlt=>?_))
 ·obtain⟨r,hr,s,rfl,hw⟩:=hR.each.get (List.getElem?_eq_getElem hlt)
  have hone:=ax hw
  have js:M.aM[k]'(by rw[M.cB];exact hlt)=M.held[k].1:=by simp[Md.aM]
  have gH:af.bO M.n M.held[k].1:=hM.ic _ (by rw[←js];exact List.getElem_mem _)
  refine aj.sl hR.sl hr fun p hp=>av.at hp rfl (by decide) (fun _ h=>.tail _ h) ?_
  intro Gq _
  refine St.p (by simpa[Value.oneCell']using hone) ?_
  refine ag.mk (av.mk (vs:=#[.int .i64 (M.n:Int),s]) (by exact .head _) (by simp) rfl ?_)
  refine av.q ?_
  have Ey:=dM gH
  refine ae.eq (B:=B) (gu (v1:=.agg (List.toArray [.int .i64 (M.n:Int),s])) (v2:=.agg (List.toArray [.int .i64 (M.n:Int),s0])) (a:=⟨M.n,M.held[k].1⟩) (b:=⟨M.n,t⟩) ⟨s,rfl,hw⟩ ⟨s0,rfl,oO⟩ (by show M.held[k].1.length<_;omega)) ?_
  refine Br.dec (fun he=>?_) (fun he=>?_)
  ·have he':M.held[k].1=t:=by injection he
   refine Ld.f ?_
   exact bK.mk (.skip .tail) (.inl ⟨M.held[k],List.getElem_mem hlt,he',rfl⟩)
  ·refine aa.inc ?_
   refine aq.of .tail ⟨k+1,rfl,hlt,rfl,?_⟩ (by simp only[aT];omega)
   rw[List.take_succ_eq_append_getElem (by rw[M.cB];exact hlt),js,List.mem_append,List.mem_singleton]
   rintro(h|h)
   ·exact hno h
   ·exact he (by rw[h])
 ·obtain rfl:k=M.held.length:=by omega
  rw[←M.cB,List.take_length]at hno
  exact bK.mk .tail (.inr ⟨hno,rfl⟩)
theorem wo{n cap:Nat}(hn:n≤64)(hc:cap≤1048576):Fc Tryz.prog 82 #[.int .i64 (n:Int),.int .i64 (cap:Int)] [] (fun v H=>∃mp,v=ptr mp∧eU mp ⟨n,cap,List.range n,[],[]⟩ [] H):=by
 refine aW fun g=>Fu ?_
 refine Build.mk (cs:=[.int .i64 (n:Int),.int .i64 (cap:Int),.slice none 0 0,.slice none 0 0,.slice none 0 0]) (by kernel_rfl) ?_
 intro b2 _
 refine⟨fun vs H=>∃(k:Nat) (vo:Value) (CO:Hp),vs=[.int .i64 (k:Int)]∧k≤n∧H=(b2,.cells #[.int .i64 (n:Int),.int .i64 (cap:Int),vo,.slice none 0 0,.slice none 0 0] 74 (0,0))::CO∧aK 3 .i64 vo (iw (List.range k)) CO,fun vs _=>n-aT vs 0,JE.mk ⟨0,_,[],rfl,Nat.zero_le _,rfl,aK.nil⟩,?_⟩
 rintro w8 H ⟨k,vo,CO,⟨⟩,hk,rfl,hO⟩ gs
 refine aa.cZ (Br.dec (fun hlt=>?_) (fun hlt=>?_))
 ·refine Ld.n ?_
  refine an.int (e:=3) (by kernel_rfl) (by kernel_rfl) (by kernel_rfl) fun bx=>?_
  refine hO.oh (.cons (.cons .here)) (by exact .head _) (by rw[ah];simp;omega) (by rw[ah];simp;omega) fun v' CO' bE=>?_
  refine Nil.ptr (ag.mk (St.one (c':=#[.int .i64 (n:Int),.int .i64 (cap:Int),v',.slice none 0 0,.slice none 0 0]) (by exact .tail (.head _)) bE.one (by simp) rfl ?_))
  refine aa.inc ?_
  exact aq.of .tail ⟨k+1,v',CO',rfl,hlt,rfl,by rw[List.range_succ,cm];exact bE⟩ (by simp only[aT];omega)
 ·obtain rfl:k=n:=by omega
  exact bN.here ⟨b2,rfl,vo,.slice none 0 0,.slice none 0 0,[],CO,[],[],by simp[cE],hO,aO.nil _ _,fR.nil,aK.nil⟩
end
def Cd(held:List (List Nat×Nat))(t:List Nat)(held':List (List Nat×Nat)):Prop:=
 (∃i c,held[i]? =some (t,c)∧t∉(held.map Prod.fst).take i∧held'=held.set i (t,c+1))∨(t∉held.map Prod.fst∧held'=held++[(t,1)])
section
variable {mp:Nat} {M:Md} {B:Hp}
theorem wX{X H:Hp}(hM:M.gB){v:Value}{t:List Nat}(ht:iL H v ⟨M.n,t⟩)(hf:af.bO M.n t)(hc:t=bq M.n false∨t=bq M.n true):Rd Tryz.prog 124 #[ptr mp,v] H (· =.int .i64 0):=by
 obtain⟨s0,rfl,oO⟩:=ht
 refine aW fun g=>sq ?_
 intro b1 _
 refine av.q ?_
 refine ae.eq (q9 (v:=.agg (List.toArray [.int .i64 (M.n:Int),s0])) (n:=M.n) (ws:=t) ⟨s0,rfl,oO⟩ hf) ?_
 exact Br.zF hc (bK.mk .tail rfl)
theorem Ij{X H:Hp}(h:eU mp M X H)(hM:M.gB){v:Value}{t:List Nat}(ht:iL X v ⟨M.n,t⟩)(hf:af.bO M.n t)(hc:¬(t=bq M.n false∨t=bq M.n true))(hlt:∀e∈M.held,e.2<65535):
  Fc Tryz.prog 124 #[ptr mp,v] H (fun r H'=>r=.int .i64 0∧∃held',Cd M.held t held'∧eU mp {M with held:=held'} X H'):=by
 have hsub:=h.sub
 obtain⟨s0,rfl,oO⟩:=ht
 have zi:=hM.Gp
 have Wf:=ax oO
 obtain⟨vo,vh,vt,rs,CO,CH,CT,rfl,hO⟩:=h
 have ni:=hO.each.1
 refine aW fun g=>sq ?_
 intro b1 _
 refine av.q ?_
 refine ae.eq (q9 (v:=.agg (List.toArray [.int .i64 (M.n:Int),s0])) (n:=M.n) (ws:=t) ⟨s0,rfl,oO.mono hsub⟩ hf) ?_
 refine Br.xO hc ?_
 refine⟨fun vs H=>∃k:Nat,vs=[.int .i64 (k:Int)]∧k≤M.held.length∧H=(b1,.cells #[.int .i64 (M.n:Int),s0] 57 (0,0))::(mp,.cells (cE M vo vh vt) 74 (0,0))::(CO++(CH++(CT++X)))∧t∉M.aM.take k,fun vs _=>M.held.length-aT vs 0,JE.mk ⟨0,rfl,Nat.zero_le _,rfl,by simp⟩,?_⟩
 rintro Tq H ⟨k,⟨⟩,hk,rfl,hno⟩ gs
 have NU:∀y∈CH,y∈(b1,Obj.cells #[.int .i64 (M.n:Int),s0] 57 (0,0))::(mp,.cells (cE M vo vh vt) 74 (0,0))::(CO++(CH++(CT++X))):=fun y h=>.tail _ (.tail _ (List.mem_append_right _ (List.mem_append_left _ h)))
 refine Ld.n ?_
 refine hO.sl.aL ?_
 rw[ni]
 refine aa.cZ (Br.dec (fun eC=>?_) (fun eC=>?_))
 ·obtain⟨r,hr,s,rfl,hw⟩:=hO.each.get (List.getElem?_eq_getElem eC)
  have js:M.aM[k]'(by rw[M.cB];exact eC)=M.held[k].1:=by simp[Md.aM]
  have gH:af.bO M.n M.held[k].1:=hM.ic _ (by rw[←js];exact List.getElem_mem _)
  have Ey:=dM gH
  have l9:=hlt _ (List.getElem_mem eC)
  refine DR.self ?_
  refine Ld.n ?_
  refine hO.sl.HD hr ⟨by decide,by decide⟩ NU ?_
  refine av.q ?_
  refine ae.eq (B:=X) (gu (v1:=.agg (List.toArray [.int .i64 (M.n:Int),s])) (v2:=.agg (List.toArray [.int .i64 (M.n:Int),s0])) (a:=⟨M.n,M.held[k].1⟩) (b:=⟨M.n,t⟩) ⟨s,rfl,hw⟩ ⟨s0,rfl,oO⟩ (by show M.held[k].1.length<_;omega)) ?_
  refine⟨.refl _,?_⟩
  refine Br.dec (fun he=>?_) (fun he=>?_)
  ·have he':M.held[k].1=t:=by injection he
   refine Ld.n ?_
   refine hO.sl.yY (j:=2) hr rfl NU ?_
   refine aa.m0 (b:=65535) (Br.F ?_)
   refine Ld.n ?_
   refine hO.sl.yY (j:=2) hr rfl NU ?_
   refine aa.inc ?_
   refine hO.sl.G5 (j:=2) (x:=.int .i64 ((M.held[k].2+1:Nat):Int)) (.cons (.cons (.app .left))) hr (by decide) rfl fun F9 bE=>?_
   refine bN.mk .tail ⟨rfl,M.held.set k (t,M.held[k].2+1),.inl ⟨k,M.held[k].2,?_,hno,rfl⟩,vo,vh,vt,_,CO,F9,CT,rfl,hO.ord,bE,hO.each.set ⟨s,rfl,by rw[←he'];exact hw⟩,hO.tr⟩
   rw[List.getElem?_eq_getElem eC,←he']
  ·refine aa.inc ?_
   refine aq.of (.refl _) ⟨k+1,rfl,eC,rfl,?_⟩ (by simp only[aT];omega)
   rw[List.take_succ_eq_append_getElem (by rw[M.cB];exact eC),js,List.mem_append,List.mem_singleton]
   rintro(h|h)
   ·exact hno h
   ·exact he (by rw[h])
 ·obtain rfl:k=M.held.length:=by omega
  rw[←M.cB,List.take_length]at hno
  refine DR.of (R:=[(b1,.cells #[.int .i64 (M.n:Int),s0] 57 (0,0)),(mp,.cells (cE M vo vh vt) 74 (0,0))]) (.cons (.cons .nil)) ?_
  refine Ld.n ?_
  refine av.q ?_
  obtain⟨sa,sl,sc,rfl⟩:∃a l c,s0=Value.slice a l c:=by obtain⟨a,c,h,_⟩:=oO.1.shape;exact⟨a,_,c,h⟩
  refine Build.mk (cs:=[.int .i64 (M.n:Int),.slice sa sl sc,.int .i64 1]) (by kernel_rfl) ?_
  refine an.one (r:=[.int .i64 (M.n:Int),.slice sa sl sc,.int .i64 1]) (e:=241) (k:=3) (z:=.agg #[.int .i64 0,.slice none 0 0,.int .i64 0]) (by kernel_rfl) (by kernel_rfl) (by kernel_rfl) (by decide) rfl fun bx=>?_
  refine⟨.skip (.cons (.cons .nil)),?_⟩
  refine hO.sl.oh (r:=[.int .i64 (M.n:Int),.slice sa sl sc,.int .i64 1]) (.cons (.cons (.cons (.app .left)))) (by exact .head _) rfl (by simp[Value.oneCell']) ⟨[.int .i64 0,.slice none 0 0,.int .i64 0],rfl,rfl⟩ (by omega) (by omega) fun v' F9 bE=>?_
  refine⟨.skip (.cons (.cons .nil)),?_⟩
  have yh:v'.oneCell'=true:=by obtain⟨a,c,e⟩:=aO.len bE;rw[e];rfl
  refine Nil.ptr (ag.mk (St.one (c':=cE M vo v' vt) (by exact .tail (.tail (.head _))) yh (by simp[cE]) rfl ?_))
  exact bN.mk (.skip .tail) ⟨rfl,_,.inr ⟨hno,rfl⟩,vo,v',vt,_,CO,F9,CT,rfl,hO.ord,bE,hO.each.snoc ⟨_,rfl,oO⟩,hO.tr⟩
end
section
variable {kp:Nat} {K:Kd} {ord ak tr:List Nat} {C:Hp} {S:Nat→aU.Fn}
theorem G2(h:g7 kp K S ord ak tr C):Rd Tryz.prog 70 #[ptr kp] C (fun r=>∃n:Nat,(∀K:Value→Prop,K (.int .i64 (n:Int))→aA r K)∧n=((List.range K.ho.length).filter fun r=>decide (0<K.hold r)).length):=by
 obtain⟨b,hC,hO⟩:=h.rep
 have hcap:=h.ok.mid.cap
 have hle:=h.ir
 have hfit:K.ho.length≤1048576:=by
  have:=hO.ul
  omega
 refine aW fun g=>um ?_
 refine aa.aC (Br.no ?_)
 have H6:∀z∈b.CH,z∈C:=by rw[hC];exact bj.sub (.cons (.app (.app (.app .left))))
 refine Nil.ptr (ag.mk (Ld.u (by rw[hC];exact .head _) ?_))
 refine hO.ho.aL ?_
 rw[ah]
 let rts:Nat→List Nat:=fun k=>(List.range k).filter fun r=>decide (0<K.hold r)
 refine⟨fun vs H=>∃(k:Nat) (w:Value) (N:Hp),vs=[w,.int .i64 (k:Int)]∧k≤K.ho.length∧H=N++C∧aK 77 .u32 w (iw (rts k)) N,fun vs _=>K.ho.length-aT vs 1,JE.mk ⟨0,_,[],rfl,Nat.zero_le _,rfl,aK.nil⟩,?_⟩
 rintro PK PJ H ⟨k,w,N,⟨⟩,hk,rfl,hN⟩ gs
 refine aa.cZ (Br.dec (fun hlt=>?_) (fun hlt=>?_))
 ·intro J hJ
  have fin:∀w' N',aK 77 .u32 w' (iw (rts (k+1))) N'→J [w'] (N'++C):=fun w' N' h'=>hJ _ _ fun gs=>by
   refine aa.inc ?_
   exact aq.of (.refl _) ⟨k+1,w',N',rfl,hlt,rfl,h'⟩ (by simp only[aT];omega)
  have e:rts (k+1)=rts k++if 0<K.hold k then [k]else []:=by
   show(List.range (k+1)).filter _=_
   rw[List.range_succ,List.filter_append]
   congr 1
   by_cases hp:0<K.hold k<;>simp[hp]
  refine hO.ho.ld (x:=((K.hold k:Nat):Int)) (bB hlt) (fun z hz=>List.mem_append_right _ (H6 z hz)) ?_
  refine aa.jb (b:=0) (Br.dec (fun hp=>?_) (fun hp=>?_))
  ·rw[e,if_pos hp]at fin
   refine bf.q ?_
   have ni:(rts k).length≤k:=by
    have:=List.length_filter_le (fun r=>decide (0<K.hold r)) (List.range k)
    rwa [List.length_range]at this
   refine an.int (e:=77) (by kernel_rfl) (by kernel_rfl) (by kernel_rfl) fun bx=>?_
   refine hN.oh (.cons .left) (by exact .head _) (by rw[ah];omega) (by rw[ah];omega) fun v' N' bE=>?_
   rw[cm]at fin
   exact JE.of .tail (fin v' N' bE)
  ·rw[e,if_neg hp,List.append_nil]at fin
   exact JE.mk (fin PK N hN)
 ·obtain rfl:k=K.ho.length:=by omega
  refine bK.mk .right ⟨(rts K.ho.length).length,fun Q hq=>hN.aL ?_,rfl⟩
  rw[ah];exact hq
end
section
variable {kp:Nat} {K:Kd} {ord ak tr:List Nat} {C:Hp} {S:Nat→aU.Fn}
theorem Hi(d:Nd):∀u∈bu d,u.oneCell'=true:=fun u hu=>by
 simp only[bu,List.mem_cons,List.not_mem_nil,or_false]at hu
 rcases hu with rfl|rfl|rfl<;>rfl
end
theorem IX{ord:List Nat}{F G:aU.Fn→Prop}(h:∀g,F g→G g):∀l g,fs ord F l g→fs ord G l g
 |0,g,hg=>h g hg
 |l+1,g,⟨f,hf,b,e⟩=>⟨f,IX h l f hf,b,e⟩
theorem lg{n:Nat}{ord:List Nat}{F G:aU.Fn→Prop}(h:∀g,F g→G g){g:aU.Fn}(hg:bC n ord F g):bC n ord G g:=let ⟨l,a,b,c⟩:=hg;⟨l,a,IX h l g b,c⟩
structure ot(K:Kd)(S:Nat→aU.Fn)(K':Kd)(S':Nat→aU.Fn)(f:aU.Fn)(r:Nat):Prop where
 n:K'.n=K.n
 cap:K'.cap=K.cap
 N:∀s d,K.N s=some d→K'.N s=some d
 fn:∀s,live K.N s→S' s=S s
 live:live K'.N r
 is:S' r=f
 hold:∀s,K'.hold s=K.hold s+if s=r∧2≤r then 1 else 0
theorem iU{N N':fb}(h:∀s d,N s=some d→N' s=some d){s:Nat}(hs:live N s):live N' s:=by
 rcases hs with hs|⟨d,hd⟩
 ·exact .inl hs
 ·exact .inr ⟨d,h s d hd⟩
theorem y4{K K5:Kd}{S S5:Nat→aU.Fn}{ak:Nat→Nat}(hK:Ok K S ak)(Gl:Ok K5 S5 ak)(hold:∀s,K.hold s≠0→K5.hold s≠0)(h3:∀s d d',K.N s=some d→K5.N s=some d'→d'=d):
  ∀(k s:Nat) (d:Nd),K.N s=some d→ak d.v≤k→K5.N s=some d:=by
 intro k
 induction k with
 |zero=>
  intro s d hd hl
  have fin:live K5.N s→K5.N s=some d:=fun hs=>by
   rcases hs with hs|⟨d',dm⟩
   ·have:=(hK.mid.two hd).1;omega
   ·rw[dm,h3 s d d' hd dm]
  rcases hK.reach s d hd with h|⟨p,e,hp,he⟩
  ·exact fin (.inr (Gl.mid.held s (hold s h)))
  ·have h1:=hK.wf.lo hp
   have h2:=hK.wf.hi hp
   rcases he with rfl|rfl
   ·have:=h1.2;rw[aE hd]at this;omega
   ·have:=h2.2;rw[aE hd]at this;omega
 |succ k ih=>
  intro s d hd hl
  have fin:live K5.N s→K5.N s=some d:=fun hs=>by
   rcases hs with hs|⟨d',dm⟩
   ·have:=(hK.mid.two hd).1;omega
   ·rw[dm,h3 s d d' hd dm]
  rcases hK.reach s d hd with h|⟨p,e,hp,he⟩
  ·exact fin (.inr (Gl.mid.held s (hold s h)))
  ·have h1:=hK.wf.lo hp
   have h2:=hK.wf.hi hp
   rcases he with rfl|rfl
   ·have:=h1.2;rw[aE hd]at this
    exact fin (Gl.mid.lo (ih p e hp (by omega)))
   ·have:=h2.2;rw[aE hd]at this
    exact fin (Gl.mid.hi (ih p e hp (by omega)))
theorem ot.held{K K':Kd}{S S':Nat→aU.Fn}{f:aU.Fn}{r:Nat}(h:ot K S K' S' f r)(hm:∀s,K.hold s≠0→aU.live K.N s)(g:aU.Fn)(hg:K'.held S' g):K.held S g∨g=f:=by
 obtain⟨s,hs,rfl⟩:=hg
 by_cases h0:K.hold s=0
 ·right
  have:=h.hold s
  have hs':K'.hold s≠0:=hs
  rw[h0]at this
  by_cases e:s=r∧2≤r
  ·rw[e.1];exact h.is
  ·rw[if_neg e]at this;omega
 ·exact .inl ⟨s,h0,h.fn s (hm s h0)⟩
abbrev Q3:=Nat×Nat×Nat
def l3(q:Q3):List Nat:=[q.1,q.2.1,q.2.2]
def Fits(U:aU.Fn→Prop)(cap:Nat):Prop:=∃ku,ou U ku∧ku+2≤cap
def TA(op:Nat)(a b:Bool):Bool:=op.testBit (2*a.toNat+b.toNat)
section
variable {kp:Nat} {K:Kd} {S:Nat→aU.Fn} {ord ak tr:List Nat} {C:Hp}
theorem p8{n v:Nat}(hv:v<n):2^v<2^n:=Nat.pow_lt_pow_right (by decide) hv
end
theorem Fits.mono{A B:aU.Fn→Prop}{cap:Nat}(h:∀g,A g→B g)(hB:Fits B cap):Fits A cap:=by
 classical
 obtain⟨ku,⟨l,h1,h2,h3⟩,hc⟩:=hB
 refine⟨(l.filter fun g=>decide (A g)).length,⟨l.filter fun g=>decide (A g),h1.filter _,rfl,fun g=>?_⟩,?_⟩
 ·rw[List.mem_filter,decide_eq_true_eq,←h3]
  exact⟨fun x=>⟨h g x,x⟩,fun x=>x.2⟩
 ·have:=List.length_filter_le (fun g=>decide (A g)) l
  omega
end Go.Proofs
namespace Go.Sx
open Go
section
variable {P:Program} {g:Gh} {H B:Hp} {c:Hp→Hp}
theorem ae.top{f:FuncId}{args:Array Value}{Q:Value→Hp→Prop}{K:Value→Hp→Prop}{KP:List PanicEntry→Hp→Prop}(hh:bj B H c)(hc:Fc P f args B (fun r H'=>∃N,H'=N++B∧Q r N))(hk:∀r N,Q r N→K r (N++H)):ae P g f args H K KP:=by
 refine(ae.fn (K:=fun r H'=>∃N,H'=c (N++B)∧Q r N) (KP:=KP) hh hc fun r C' ⟨N,h1,h2⟩=>⟨N,by rw[h1],h2⟩).post ?_
 intro e H' h
 cases e with
 |returned v=>
  obtain⟨N,rfl,hq⟩:=h
  refine⟨N++H,?_,hk v N hq⟩
  obtain⟨h1,F,h2⟩:=hh.spec
  refine .perm ((h2 (N++B)).trans ?_)
  rw[h1,List.append_assoc]
  exact List.Perm.append_left N (h2 B).symm
 |panicked ch=>exact⟨H',.refl _,h⟩
 |outgrown=>exact⟨H',.refl _,h⟩
end
end Go.Sx
set_option maxRecDepth 100000
namespace Go.Proofs
open Go Go.Sx
open aU
section
variable {kp:Nat}
def Mc(kp:Nat)(K:Kd)(S:Nat→aU.Fn)(ord ak:List Nat)(f:aU.Fn)(w:Value)(C:Hp):Prop:=
 (∃r K' S',w=.tuple #[u32 r,.int .i64 0]∧g7 kp K' S' ord ak [] C∧ot K S K' S' f r)∨
 (w=.tuple #[u32 0,.int .i64 9]∧(∃K' S',g7 kp K' S' ord ak [] C∧Kept K S K' S')∧¬Fits (bC K.n ord (fun g=>K.held S g∨g=f)) K.cap)
theorem HL{K K':Kd}{S S':Nat→aU.Fn}(hn:K'.n=K.n)(hc:K'.cap=K.cap)(hh:∀s,K'.hold s=K.hold s)(hf:∀s,K.hold s≠0→S' s=S s):Kept K S K' S':=by
 refine⟨hn,hc,hh,fun g=>?_,hf⟩
 constructor
 ·rintro⟨s,hs,e⟩
  have hs':K.hold s≠0:=by rw[←hh];exact hs
  exact⟨s,hs',by rw[e,hf s hs']⟩
 ·rintro⟨s,hs,e⟩
  have hs':K'.hold s≠0:=by rw[hh];exact hs
  exact⟨s,hs',by rw[e,hf s hs]⟩
theorem GV{n:Nat}(hn:n≤16){ord ak:List Nat}:
  ∀(k l:Nat) (K:Kd) (S:Nat→aU.Fn) (C Y:Hp) (v:Value) (t:List Nat),n-l<k→l≤n→K.n=n→g7 kp K S ord ak [] C→iL Y v ⟨n,t⟩→af.bO n t→
  (∀j,j<l→¬eE (dz n t) (ord.getD j 0))→(∀s,K.hold s+(n-l)+1≤65535)→
  Fc Tryz.prog 83 #[ptr kp,v,.int .i64 (l:Int)] (Y++C) (fun w H=>∃C',H=Y++C'∧Mc kp K S ord ak (dz n t) w C'):=by
 intro k
 induction k with
 |zero=>intro l K S C Y v t hk;omega
 |succ k ih=>
  intro l K S C Y v t hk hl rD hK ht hf Up hB
  obtain⟨s0,rfl,oO⟩:=ht
  have hlen:ord.length=n:=by rw[hK.od.len,rD]
  refine aW fun g=>Ft ?_
  intro b1 _
  refine ae.top (Q:=fun r N=>aK 3 .i64 r (iw ord) N) (.cons (.app .here)) (tH hK.rep) ?_
  intro vo N ym
  obtain⟨Z,hZ⟩:∃Z:Hp,Z=N++(b1,.cells #[.int .i64 (n:Int),s0] 57 (0,0))::Y:=⟨_,rfl⟩
  have eZ:N++(b1,.cells #[.int .i64 (n:Int),s0] 57 (0,0))::(Y++C)=Z++C:=by rw[hZ];simp
  have ho:bW .i64 Z vo (iw ord):=by rw[hZ];exact ym.ints.mono fun _ h=>List.mem_append_left _ h
  have yu:(b1,Obj.cells #[.int .i64 (n:Int),s0] 57 (0,0))∈Z:=by rw[hZ];exact List.mem_append_right _ (.head _)
  have hw:Words Z s0 t:=by rw[hZ];exact oO.mono fun _ h=>List.mem_append_right _ (.tail _ h)
  have hE:∀X,aJ (Z++X) (Y++X):=fun X=>by rw[hZ];exact aJ.frame (.bJ .tail) X
  show∃(I5:Jt) (m6:Mt),JE I5 _ (N++(b1,.cells #[.int .i64 (n:Int),s0] 57 (0,0))::(Y++C))∧_
  rw[eZ]
  clear ym eZ hZ oO
  refine⟨fun vs H=>∃i:Nat,vs=[.int .i64 (i:Int)]∧H=Z++C∧l≤i∧i≤n∧∀j,j<i→¬eE (dz n t) (ord.getD j 0),fun vs _=>n-aT vs 0,JE.mk ⟨l,rfl,rfl,Nat.le_refl _,hl,Up⟩,?_⟩
  rintro w9 H ⟨i,⟨⟩,rfl,Wk,hi,wZ⟩ gs
  intro J10 Th
  have gn:iL Z (.agg (List.toArray [.int .i64 (n:Int),s0])) ⟨n,t⟩:=⟨s0,rfl,hw⟩
  refine DR.self ?_
  refine ho.aL ?_
  rw[ah,hlen]
  refine aa.cZ (Br.dec (fun hin=>?_) (fun hge=>?_))
  rotate_left
  ·-- a constant
   obtain rfl:i=n:=by omega
   refine JE.mk (Th _ _ fun gs=>Br.no ?_)
   refine ho.aL ?_
   rw[ah,hlen]
   refine aa.m0 (Br.T ?_)
   refine av.whole (r:=[.int .i64 (i:Int),s0]) (List.mem_append_left _ yu) rfl ?_
   refine ae.eh (args:=#[.agg (List.toArray [.int .i64 (i:Int),s0]),.int .i64 ((0:Nat):Int)]) .left (Kl (n:=i) (x:=0) (ws:=t) gn hf (Nat.two_pow_pos _)) ?_
   have MT:=I2 (n:=i) (ws:=t) fun v hv hh=>by
    have:=hK.od.of hK.ok.lv (v:=v) (by omega)
    have hlv:=hK.ok.lv.lt v (by omega)
    exact wZ _ (by rw[←rD];exact hlv) (by rw[this];exact hh)
   have mr:=hK.ok.mid.int
   have h0:af.bit t 0=dz i t 0:=Vz
   rw[h0]
   refine Br.mk (fun hb=>?_) (fun hb=>?_)
   ·exact bN.mk (hE C) ⟨C,rfl,.inl ⟨1,K,S,rfl,hK,rfl,rfl,fun _ _ h=>h,fun _ _=>rfl,.inl (by omega),funext fun x=>by rw[mr.one,MT x,hb],fun s=>by simp⟩⟩
   ·exact bN.mk (hE C) ⟨C,rfl,.inl ⟨0,K,S,rfl,hK,rfl,rfl,fun _ _ h=>h,fun _ _=>rfl,.inl (by omega),funext fun x=>by rw[mr.zero,MT x,hb],fun s=>by simp⟩⟩
  have We:=hK.od.aZ i (by omega)
  have fK:ord.getD i 0<n:=by rw[←rD];exact We.1
  have SG:(iw ord)[i]? =some (((ord.getD i 0:Nat)):Int):=bB (by omega)
  refine av.whole (r:=[.int .i64 (n:Int),s0]) (List.mem_append_left _ yu) rfl ?_
  refine ho.ld SG (fun _ h=>List.mem_append_left _ h) ?_
  intro F56
  refine ae.eh .left (rP (v:=.agg (List.toArray [.int .i64 (n:Int),s0])) (n:=n) (ws:=t) gn hf fK) ?_
  refine Un.not (ay.mk ?_)
  by_cases hd:af.dep n t (ord.getD i 0)=true
  rotate_left
  ·have dm:af.dep n t (ord.getD i 0)=false:=by cases h:af.dep n t (ord.getD i 0);rfl;exact absurd h hd
   rw[dm]
   refine JE.mk (Th _ _ fun gs=>Br.yes ?_)
   refine aa.inc ?_
   refine aq.mk ⟨i+1,rfl,rfl,by omega,hin,fun j hj=>?_⟩ (by simp only[aT];omega)
   by_cases e:j=i
   ·subst e;exact fun hh=>hd ((gI hf fK).1 hh)
   ·exact wZ j (by omega)
  rw[hd]
  refine JE.mk (Th _ _ fun gs=>Br.no ?_)
  clear Th
  have MR:eE (dz n t) (ord.getD i 0):=(gI hf fK).2 hd
  refine ho.aL ?_
  rw[ah,hlen]
  refine aa.m0 (Br.F ?_)
  refine ho.ld SG (fun _ h=>List.mem_append_left _ h) ?_
  refine av.whole (r:=[.int .i64 (n:Int),s0]) (List.mem_append_left _ yu) rfl ?_
  refine ae.px (B:=Z) .left (k7 (c:=false) (v:=.agg (List.toArray [.int .i64 (n:Int),s0])) (n:=n) (ws:=t) gn hf fK) ?_
  intro v1 N1 yh
  refine aa.inc ?_
  have YV:=af.cg (v:=ord.getD i 0) (ws:=t) (b:=false) (n:=n) hn
  obtain⟨i1,PX⟩:=tc (n:=n) (c:=dz n (af.dj n t (ord.getD i 0) false)) wZ (iy hf fK false)
  refine ae.fn (C:=(N1++Z)++C) .here (ih (i+1) K S C (N1++Z) v1 _ (by omega) (by omega) rD hK yh YV i1 (fun s=>by have:=hB s;omega)) ?_
  rintro w H ⟨C1,rfl,(⟨r1,K1,S1,rfl,rE,g1⟩|⟨rfl,⟨K1,S1,rE,XU⟩,hno⟩)⟩
  rotate_left
  ·refine Ext.two ?_
   refine aa.fZ (Br.T ?_)
   refine bN.mk (.trans (aJ.frame .right C1) (hE C1)) ⟨C1,rfl,.inr ⟨rfl,⟨K1,S1,rE,XU⟩,fun hfit=>hno (Fits.mono (fun g hg=>?_) hfit)⟩⟩
   rw[rD]at hg⊢
   rcases(dg g).1 hg with h|h
   ·exact(dg g).2 (.inl h)
   ·exact(dg g).2 (.inr (PX g h))
  refine Ext.two ?_
  refine aa.fZ (Br.F ?_)
  refine av.whole (r:=[.int .i64 (n:Int),s0]) (List.mem_append_left _ (List.mem_append_right _ yu)) rfl ?_
  refine ae.px (B:=N1++Z) .left (k7 (c:=true) (v:=.agg (List.toArray [.int .i64 (n:Int),s0])) (n:=n) (ws:=t) ⟨s0,rfl,hw.mono fun _ h=>List.mem_append_right _ h⟩ hf fK) ?_
  intro v2 N2 MC
  refine aa.inc ?_
  have EC:=af.cg (v:=ord.getD i 0) (ws:=t) (b:=true) (n:=n) hn
  obtain⟨i2,PW⟩:=tc (n:=n) (c:=dz n (af.dj n t (ord.getD i 0) true)) wZ (iy hf fK true)
  have Lp:∀s,K.hold s≠0→live K.N s:=fun s hs=>.inr (hK.ok.mid.held s hs)
  have Oq:∀s,K1.hold s≤K.hold s+1:=fun s=>by have:=g1.hold s;split at this<;>omega
  have h32:=rE.ei g1.live
  have Rz:∀g,bC n ord (fun g=>K1.held S1 g∨g=dz n (af.dj n t (ord.getD i 0) true)) g→bC n ord (fun g=>K.held S g∨g=dz n t) g:=fun g hg=>by
   rcases(dg g).1 hg with h|h
   ·rcases(dg g).1 (lg (g1.held Lp) h)with h|h
    ·exact(dg g).2 (.inl h)
    ·exact(dg g).2 (.inr (PX g h))
   ·exact(dg g).2 (.inr (PW g h))
  have Vh:∀X,aJ ((N2++(N1++Z))++X) (Y++X):=fun X=>(aJ.frame (.bJ .right) X).trans (hE X)
  refine ae.fn (C:=(N2++(N1++Z))++C1) .here (ih (i+1) K1 S1 C1 (N2++(N1++Z)) v2 _ (by omega) (by omega) (g1.n.trans rD) rE MC EC i2 (fun s=>by have:=hB s;have:=Oq s;omega)) ?_
  rintro w H ⟨C2,rfl,(⟨r2,K2,S2,rfl,pI,g2⟩|⟨rfl,⟨K2,S2,pI,Qd⟩,hno⟩)⟩
  rotate_left
  ·refine Ext.two ?_
   refine aa.fZ (Br.T ?_)
   refine ae.fn (.app .here) (n9 pI (r:=r1) (by omega) fun h2=>by rw[Qd.hold,g1.hold,if_pos ⟨rfl,h2⟩];omega) ?_
   rintro w C3 ⟨rfl,K3,nY,f3⟩
   refine bN.mk (Vh C3) ⟨C3,rfl,.inr ⟨rfl,⟨K3,S2,nY,HL (by rw[f3.n,Qd.n,g1.n]) (by rw[f3.cap,Qd.cap,g1.cap]) (fun s=>?_) (fun s hs=>?_)⟩,fun hfit=>hno (Fits.mono (fun g hg=>?_) (by rw[g1.cap];exact hfit))⟩⟩
   ·rw[f3.hold,Qd.hold,g1.hold];split<;>omega
   ·rw[Qd.fn s (by rw[g1.hold];omega),g1.fn s (Lp s hs)]
   ·rw[g1.n,rD]at hg
    rw[rD];exact Rz g hg
  refine Ext.two ?_
  refine aa.fZ (Br.F ?_)
  have l1:live K2.N r1:=by
   by_cases h2:r1<2
   ·exact .inl h2
   ·refine .inr (pI.ok.mid.held r1 ?_)
    have a:=g1.hold r1
    have b:=g2.hold r1
    rw[if_pos ⟨rfl,by omega⟩]at a
    omega
  have l2:=g2.live
  have e1:S2 r1=dz n (af.dj n t (ord.getD i 0) false):=(g2.fn r1 g1.live).trans g1.is
  have e2:S2 r2=dz n (af.dj n t (ord.getD i 0) true):=g2.is
  have hne:r1≠r2:=fun e=>by
   subst e
   rw[e1,iy hf fK,iy hf fK]at e2
   obtain⟨x,hx⟩:=MR
   exact hx (congrFun e2 x)
  have n2:K2.n=n:=by rw[g2.n,g1.n,rD]
  have SB:lv ak (ord.getD i 0)=i:=We.2
  have b1':=pI.ok.below pI.od (l:=i+1) l1 (by omega) (by rw[e1];exact i1)
  have b2':=pI.ok.below pI.od (l:=i+1) l2 (by omega) (by rw[e2];exact i2)
  have Q4:ite S2 ⟨ord.getD i 0,r1,r2⟩=dz n t:=by
   funext x
   unfold aU.ite
   rw[e1,e2,iy hf fK,iy hf fK]
   conv=>rhs;rw[←af.iR x (ord.getD i 0)]
   simp only
   cases x.testBit (ord.getD i 0)<;>rfl
  have Q8:∀s,K2.hold s≤K.hold s+1:=fun s=>by
   have a:=g1.hold s
   have b:=g2.hold s
   by_cases c1:s=r1∧2≤r1
   ·rw[if_neg (fun c2=>hne (c1.1.symm.trans c2.1))]at b
    rw[if_pos c1]at a;omega
   ·rw[if_neg c1]at a;split at b<;>omega
  have Uj:∀s,K1.hold s≠0→live K1.N s:=fun s hs=>.inr (rE.ok.mid.held s hs)
  refine ae.fn (.app .here) (KT pI (v:=ord.getD i 0) (by omega) l1 l2 (.inr ⟨by rw[SB];omega,by rw[SB];omega⟩)) ?_
  rintro w C3 (⟨r,K3,S3,rfl,nY,m⟩|⟨r,rfl,rfl,hl,h2,hfull,_⟩|⟨rfl,rfl,OA,_,hT⟩)
  rotate_left
  ·have:=Q8 r;have:=hB r;omega
  ·have T8:=pI.ei l1
   have T7:=pI.ei l2
   refine Ext.two ?_
   refine ae.fn (.app .here) (n9 pI (r:=r1) (by omega) (fun h2=>by have a:=g2.hold r1;rw[if_neg (fun h=>hne h.1)]at a;rw[a,g1.hold,if_pos ⟨rfl,h2⟩];omega)) ?_
   rintro w C4 ⟨rfl,K4,OR,f4⟩
   refine ae.fn (.app .here) (n9 OR (r:=r2) (by omega) (fun h2=>by rw[f4.hold,if_neg (fun h=>hne h.1.symm),g2.hold,if_pos ⟨rfl,h2⟩];omega)) ?_
   rintro w C5 ⟨rfl,K5,Gl,f5⟩
   refine bN.mk (Vh C5) ⟨C5,rfl,.inr ⟨rfl,⟨K5,S2,Gl,HL (by rw[f5.n,f4.n,g2.n,g1.n]) (by rw[f5.cap,f4.cap,g2.cap,g1.cap]) (fun s=>?_) (fun s hs=>?_)⟩,fun⟨ku,hU,hfit⟩=>?_⟩⟩
   ·rw[f5.hold,f4.hold,g2.hold,g1.hold]
    by_cases c1:s=r1∧2≤r1
    ·have c2:¬(s=r2∧2≤r2):=fun c2=>hne (c1.1.symm.trans c2.1)
     rw[if_neg c2,if_pos c1,if_pos c1,if_neg c2];omega
    ·rw[if_neg c1,if_neg c1]
     split<;>omega
   ·rw[g2.fn s (iU g1.N (Lp s hs)),g1.fn s (Lp s hs)]
   ·rw[rD]at hU
    have UU:∀g,bC n ord (K2.held S2) g→bC n ord (fun g=>K.held S g∨g=dz n t) g:=fun g hg=>by
     rcases(dg g).1 (lg (g2.held Uj) hg)with h|h
     ·exact Rz g ((dg g).2 (.inl h))
     ·exact(dg g).2 (.inr (PW g h))
    have:=pI.ok.roomFor pI.od hU (by rw[g2.cap,g1.cap];exact hfit) (by rw[n2];exact UU) (d:=⟨ord.getD i 0,r1,r2⟩) l1 l2 hne (by rw[n2];exact fK) ⟨by show lv ak (ord.getD i 0)<dep K2.n (lv ak) K2.N r1;rw[SB];omega,by show lv ak (ord.getD i 0)<dep K2.n (lv ak) K2.N r2;rw[SB];omega⟩ (by rw[Q4];exact(dg _).2 (.inr (DU wZ hin MR))) hT
    omega
  refine Ext.two ?_
  have T8:=pI.ei l1
  have T7:=pI.ei l2
  have Ii:∀s,K2.hold s=K.hold s+(if s=r1∧2≤r1 then 1 else 0)+(if s=r2∧2≤r2 then 1 else 0):=fun s=>by rw[g2.hold,g1.hold]
  have MJ:∀s,K2.hold s≤K3.hold s:=fun s=>by rw[m.hold];split<;>omega
  refine ae.fn (.app .here) (n9 nY (r:=r1) (by omega) (fun h2=>by have:=MJ r1;have:=Ii r1;rw[if_pos ⟨rfl,h2⟩]at this;omega)) ?_
  rintro w C4 ⟨rfl,K4,OR,f4⟩
  refine ae.fn (.app .here) (n9 OR (r:=r2) (by omega) (fun h2=>by
   have:=MJ r2;have:=Ii r2;have h4:=f4.hold r2
   rw[if_neg (fun h=>hne h.1.symm)]at h4
   rw[if_neg (fun h=>hne h.1.symm),if_pos ⟨rfl,h2⟩]at this;omega)) ?_
  rintro w C5 ⟨rfl,K5,Gl,f5⟩
  have Ih:∀s,K5.hold s=K.hold s+if s=r∧2≤r then 1 else 0:=fun s=>by
   rw[f5.hold,f4.hold,m.hold,Ii]
   by_cases c1:s=r1∧2≤r1
   ·have c2:¬(s=r2∧2≤r2):=fun c2=>hne (c1.1.symm.trans c2.1)
    rw[if_neg c2,if_pos c1,if_neg c2]
    split<;>omega
   ·by_cases c2:s=r2∧2≤r2
    ·rw[if_pos c2,if_neg c1,if_neg c1]
     split<;>omega
    ·rw[if_neg c2,if_neg c1,if_neg c1,if_neg c2]
     split<;>omega
  have l5:live K5.N r:=by
   by_cases h2:r<2
   ·exact .inl h2
   ·refine .inr (Gl.ok.mid.held r ?_)
    rw[Ih,if_pos ⟨rfl,by omega⟩];omega
  refine bN.mk (Vh C5) ⟨C5,rfl,.inl ⟨r,K5,S3,rfl,Gl,by rw[f5.n,f4.n,m.n,g2.n,g1.n],by rw[f5.cap,f4.cap,m.cap,g2.cap,g1.cap],fun s d hs=>y4 hK.ok Gl.ok (fun s h=>by rw[Ih];omega) (fun s d d' h h'=>?_) _ s d hs (Nat.le_refl _),fun s hs=>?_,l5,by rw[m.is,Q4],Ih⟩⟩
  ·have a:=m.N s d (g2.N s d (g1.N s d h))
   have b:=f4.N s d' (f5.N s d' h')
   rw[a]at b;exact(Option.some.inj b).symm
  ·have q1:=iU g1.N hs
   have q2:=iU g2.N q1
   rw[m.fn s q2,g2.fn s q1,g1.fn s hs]
end
end Go.Proofs
set_option maxRecDepth 100000
namespace Go.Proofs
open Go Go.Sx
open aU
section
variable {kp:Nat} {K:Kd} {ord ak tr:List Nat} {C:Hp} {S:Nat→aU.Fn}
theorem Hy(h:g7 kp K S ord ak tr C)(x:Nat):∀(k r:Nat),K.n-dep K.n (lv ak) K.N r≤k→live K.N r→S r (x%2^K.n)=S r x:=by
 have mr:=h.ok.mid.int
 intro k
 induction k with
 |zero=>
  intro r hk hr
  rcases hr with hr|⟨d,hN⟩
  ·obtain rfl|rfl:r=0∨r=1:=by omega
   ·rw[mr.zero,mr.zero]
   ·rw[mr.one,mr.one]
  ·have:=h.ok.lv.lt _ (h.ok.mid.var hN)
   rw[aE hN]at hk;omega
 |succ k ih=>
  intro r hk hr
  rcases hr with hr|⟨d,hN⟩
  ·obtain rfl|rfl:r=0∨r=1:=by omega
   ·rw[mr.zero,mr.zero]
   ·rw[mr.one,mr.one]
  ·have hv:=h.ok.mid.var hN
   have h1:=h.ok.wf.lo hN
   have h2:=h.ok.wf.hi hN
   rw[aE hN]at hk
   rw[mr.node hN,mr.node hN,Nat.testBit_mod_two_pow,decide_eq_true hv,Bool.true_and,ih _ (by omega) h1.1,ih _ (by omega) h2.1]
theorem tg(h:g7 kp K S ord ak tr C)(hn:K.n≤16){r:Nat}(hr:live K.N r)(X:Hp):
  Px Tryz.prog 35 #[ptr kp,.int .i64 (K.n:Int),u32 r] (X++C) (fun v H=>∃s ws,v=.tuple #[s,.bool true]∧iL H s ⟨K.n,ws⟩∧af.bO K.n ws∧dz K.n ws=S r):=by
 have hp:2^K.n≤65536:=Nat.pow_le_pow_right (n:=2) (by decide) hn
 have mr:=h.ok.mid.int
 refine aW fun g=>FO ?_
 intro b1 _
 refine aa.kf (a:=1) (by simp[IntKind.bits];omega) (by rw[Nat.one_shiftLeft];simp[aY];omega) ?_
 rw[Nat.one_shiftLeft]
 refine br.oe (by omega) fun b2=>?_
 rw[Mn (F:=S r)]
 refine aA.mk ?_
 refine⟨fun vs H=>∃k:Nat,vs=[.int .i64 (k:Int)]∧k≤2^K.n∧H=(b1,.cells #[.int .i64 0,.slice none 0 0] 57 (0,0))::(b2,.cells (cz ((List.range (2^K.n)).map fun j=>if j<k then S r j else false)) 4 (0,0))::(X++C),
  fun vs _=>2^K.n-aT vs 0,JE.of .swap ⟨0,rfl,Nat.zero_le _,rfl⟩,?_⟩
 rintro PK H ⟨k,⟨⟩,hk,rfl⟩ gs
 refine aa.cZ (Br.dec (fun hlt=>?_) (fun hlt=>?_))
 ·refine⟨fun vs H=>∃(i q:Nat),vs=[u32 q,.int .i64 (i:Int)]∧H=(b1,.cells #[.int .i64 0,.slice none 0 0] 57 (0,0))::(b2,.cells (cz ((List.range (2^K.n)).map fun j=>if j<k then S r j else false)) 4 (0,0))::(X++C)∧live K.N q∧i≤dep K.n (lv ak) K.N q∧S q k=S r k,fun vs _=>K.n+1-aT vs 1,JE.mk ⟨0,r,rfl,rfl,hr,Nat.zero_le _,rfl⟩,?_⟩
  rintro w17 w18 H ⟨i,q,⟨⟩,rfl,hq,hi,he⟩ gs
  have YY:=h.ok.wf.gX h.ok.lv q
  have Yt:=h.ei hq
  refine aa.l6 (b:=0) ?_
  refine dO.and (decide (q≠1)) (fun _=>aa.l6 (b:=1) ⟨rfl,rfl⟩) rfl fun gs=>?_
  rw[←Bool.decide_and]
  refine Br.dec (fun h2=>?_) (fun h2=>?_)
  ·intro J hJ
   obtain⟨d,hN⟩:∃d,K.N q=some d:=by
    rcases hq with hq|hq
    ·omega
    ·exact hq
   have xe:=h.ok.mid.var hN
   have hlo:=h.ok.wf.lo hN
   have hhi:=h.ok.wf.hi hN
   rw[aE hN]at hi
   refine ae.eh (.cons (.cons (.app .here))) (qZ h.rep (by omega)) ?_
   rw[cu.2 hq,jc hN (by omega)]
   refine Ext.two ?_
   intro Xa _
   refine St.p (Hi d) ?_
   have Wi:=h.ok.lv.lt _ xe
   refine aa.fZ ?_
   refine dO.or false (fun _=>aa.gtr ⟨rfl,by rw[decide_eq_false (by omega)]⟩) rfl fun gs=>?_
   refine dO.or false (fun _=>Ld.f (v:=.int .i64 (d.v:Int)) (aa.lss ⟨rfl,by rw[decide_eq_false (by omega)]⟩)) rfl fun gs=>?_
   refine dO.or false (fun _=>Ld.f (v:=.int .i64 (d.v:Int)) (aa.geq ⟨rfl,by rw[decide_eq_false (by omega)]⟩)) rfl fun gs=>Br.no ?_
   refine Ld.f (v:=u32 d.lo) ?_
   refine Ld.f (v:=.int .i64 (d.v:Int)) ?_
   refine aa.fD (by simp[aY];omega) (aa.wx (b:=2) (by decide) (aa.iK (b:=1) ?_))
   rw[De]
   have MK:=mr.node hN k
   have fin:∀q',live K.N q'→lv ak d.v<dep K.n (lv ak) K.N q'→S q' k=S q k→J [u32 q'] ((Xa,.cells (bu d).toArray 161 (0,0))::(b1,.cells #[.int .i64 0,.slice none 0 0] 57 (0,0))::(b2,.cells (cz ((List.range (2^K.n)).map fun j=>if j<k then S r j else false)) 4 (0,0))::(X++C)):=fun q' hl hd he'=>hJ _ _ fun gs=>by
    refine aa.inc ?_
    exact aq.of .tail ⟨i+1,q',rfl,rfl,hl,by omega,he'.trans he⟩ (by simp only[aT];omega)
   refine Br.mk (fun hb=>?_) (fun hb=>?_)
   ·refine Ld.f (v:=u32 d.hi) ?_
    exact JE.mk (fin d.hi hhi.1 hhi.2 (by rw[MK,hb];rfl))
   ·exact JE.mk (fin d.lo hlo.1 hlo.2 (by rw[MK,hb];rfl))
  ·have PD:q=0∨q=1:=by omega
   refine aa.iK (b:=1) ?_
   have hv:decide (q=1)=S r k:=by
    rw[←he]
    rcases PD with rfl|rfl
    ·rw[mr.zero];rfl
    ·rw[mr.one];rfl
   rw[hv]
   refine aj.nat hlt ?_
   refine St.oe (l:=(List.range (2^K.n)).map fun j=>if j<k then S r j else false) (by exact .tail (.head _)) (by simpa using hlt) ?_
   rw[P2 (F:=S r) hlt]
   refine aa.inc ?_
   exact aq.mk ⟨k+1,rfl,by omega,rfl⟩ (by simp[aT];omega)
 ·obtain rfl:k=2^K.n:=by omega
  rw[Mp (F:=S r)]
  have hlen:((List.range (2^K.n)).map (S r)).length=2^K.n:=by simp
  have hB:=kW.block (b:=b2) (cap:=2^K.n) (l:=(List.range (2^K.n)).map (S r)) (T:=4) (fz:=(0,0)) (B:=(b2,.cells (cz ((List.range (2^K.n)).map (S r))) 4 (0,0))::(X++C)) (.head _) (by omega)
  rw[hlen]at hB
  refine ae.pq (ve hn hB (by rw[hlen];exact gD) (by rw[hlen];exact gD)) ?_
  rintro v N ⟨s,rfl,hw⟩
  have hone:=ax hw
  refine St.p (by simpa[Value.oneCell']using hone) ?_
  refine av.q ?_
  refine jS.mk (by repeat (first|exact aG.refl _|apply aG.cons|apply aG.app)) ⟨_,_,rfl,⟨s,rfl,hw.mono zS⟩,xE hn hlen,?_⟩
  funext x
  have hx:x%2^K.n<2^K.n:=Nat.mod_lt _ (Nat.two_pow_pos _)
  show af.bit _ (x%2^K.n)=_
  rw[xF (x%2^K.n) hx,List.getD_eq_getElem?_getD,List.getElem?_map,List.getElem?_range hx]
  show S r (x%2^K.n)=S r x
  exact Hy h x _ r (Nat.le_refl _) hr
end
end Go.Proofs
namespace aU
open af
structure sb(K:Kd)(S:Nat→Fn)(held:List (List Nat×Nat)):Prop where
 nd:(held.map Prod.fst).Nodup
 ic:∀e∈held,bO K.n e.1
 rt:∀r,K.hold r≠0→∃e∈held,dz K.n e.1=S r∧e.2=K.hold r
 lf:∀e∈held,∃r,2≤r∧K.hold r=e.2∧e.2≠0∧S r=dz K.n e.1
section
variable {K:Kd} {S:Nat→Fn} {ak:Nat→Nat} {ord:List Nat} {held:List (List Nat×Nat)}
theorem sb.iff(h:sb K S held)(g:Fn):K.held S g↔FT K.n (held.map Prod.fst) g:=by
 constructor
 ·rintro⟨r,hr,rfl⟩
  obtain⟨e,he,h1,_⟩:=h.rt r hr
  exact⟨e.1,List.mem_map.2 ⟨e,he,rfl⟩,h1.symm⟩
 ·rintro⟨t,ht,rfl⟩
  obtain⟨e,he,rfl⟩:=List.mem_map.1 ht
  obtain⟨r,_,h1,h2,h3⟩:=h.lf e he
  exact⟨r,fun h0=>h2 (by rw[←h1];exact h0),h3.symm⟩
theorem sb.uW(h:sb K S held):K.held S=FT K.n (held.map Prod.fst):=funext fun g=>propext (h.iff g)
theorem sb.roots(h:sb K S held)(hok:Ok K S ak)(hm:K.ho.length≤1048576):((List.range K.ho.length).filter fun r=>decide (0<K.hold r)).length=held.length:=by
 let rts:=(List.range K.ho.length).filter fun r=>decide (0<K.hold r)
 have hr:∀r,r∈rts↔K.hold r≠0:=fun r=>by
  show r∈List.filter _ _↔_
  rw[List.mem_filter,List.mem_range,decide_eq_true_iff]
  constructor
  ·rintro⟨_,h⟩;omega
  ·intro h
   refine⟨?_,by omega⟩
   obtain⟨d,hd⟩:=hok.mid.held r h
   have:=hok.mid.fit hd
   rw[←hok.mid.len];exact this
 have hl:∀r,K.hold r≠0→live K.N r:=fun r h=>.inr (hok.mid.held r h)
 have n1:(rts.map S).Nodup:=List.pairwise_map.2 ((List.nodup_range.filter _).imp_of_mem fun{a b} ha hb hne heq=>hne (hok.wf.same hok.lv hok.mid.int (hl a ((hr a).1 ha)) (hl b ((hr b).1 hb)) (congrFun heq)))
 have n2:((held.map Prod.fst).map (dz K.n)).Nodup:=List.pairwise_map.2 (h.nd.imp_of_mem fun{a b} ha hb hne heq=>by
  obtain⟨e,he,rfl⟩:=List.mem_map.1 ha
  obtain⟨e',he',rfl⟩:=List.mem_map.1 hb
  exact hne (fm (h.ic e he) (h.ic e' he') heq))
 have s1:=bH n1 (l':=(held.map Prod.fst).map (dz K.n)) fun g hg=>by
  obtain⟨r,hr',rfl⟩:=List.mem_map.1 hg
  obtain⟨e,he,h1,_⟩:=h.rt r ((hr r).1 hr')
  exact List.mem_map.2 ⟨e.1,List.mem_map.2 ⟨e,he,rfl⟩,h1⟩
 have s2:=bH n2 (l':=rts.map S) fun g hg=>by
  obtain⟨t,ht,rfl⟩:=List.mem_map.1 hg
  obtain⟨e,he,rfl⟩:=List.mem_map.1 ht
  obtain⟨r,_,h1,h2,h3⟩:=h.lf e he
  exact List.mem_map.2 ⟨r,(hr r).2 (by rw[h1];exact h2),h3⟩
 simp only[List.length_map]at s1 s2
 show rts.length=held.length
 omega
theorem sb.count(h:sb K S held)(hok:Ok K S ak){r:Nat}{t:List Nat}(hr:live K.N r)(ht:dz K.n t=S r)(hf:bO K.n t):
  (∀e∈held,e.1=t→e.2=K.hold r)∧(t∉held.map Prod.fst→K.hold r=0):=by
 refine⟨fun e he h1=>?_,fun hno=>?_⟩
 ·obtain⟨r',_,h2,h3,h4⟩:=h.lf e he
  have hr':live K.N r':=.inr (hok.mid.held r' (by rw[h2];exact h3))
  have:r'=r:=hok.wf.same hok.lv hok.mid.int hr' hr (congrFun (by rw[h4,h1,ht]))
  rw[←this,h2]
 ·refine Classical.byContradiction fun h0=>?_
  obtain⟨e,he,h1,_⟩:=h.rt r h0
  exact hno (List.mem_map.2 ⟨e,he,fm (h.ic e he) hf (h1.trans ht.symm)⟩)
theorem sb.none(hn:∀r,K.hold r=0):sb K S []:=⟨by simp,by simp,fun r h=>absurd (hn r) h,by simp⟩
theorem sb.same{K':Kd}{S':Nat→Fn}(h:sb K S held)(hn:K'.n=K.n)(hh:∀r,K'.hold r=K.hold r)(hs:∀r,K.hold r≠0→S' r=S r):sb K' S' held:=by
 refine⟨h.nd,by rw[hn];exact h.ic,fun r hr=>?_,fun e he=>?_⟩
 ·rw[hh]at hr
  obtain⟨e,he,h1,h2⟩:=h.rt r hr
  exact⟨e,he,by rw[hn,h1,hs r hr],by rw[h2,hh]⟩
 ·obtain⟨r,h0,h1,h2,h3⟩:=h.lf e he
  exact⟨r,h0,by rw[hh,h1],h2,by rw[hs r (by rw[h1];exact h2),hn,h3]⟩
end
end aU
set_option maxRecDepth 100000
namespace Go.Proofs
open Go Go.Sx
open aU
def xl(n c:Nat)(ord:List Nat):af.Fs→af.Fs→af.Fs
 |A,[]=>A
 |A,t::L=>xl n c ord (if 2+bL n ord (A++[t]) n≤c∧¬(t=bq n false∨t=bq n true)∧t∉A then A++[t]else A) L
theorem mZ{n c:Nat}{ord:List Nat}{t:List Nat}:∀{L A:af.Fs},xl n c ord A (L++[t])=xl n c ord (xl n c ord A L) [t]
 | [],_=>rfl
 |_::L,_=>mZ (L:=L)
theorem eU.frame{mp:Nat}{M:Md}{X H:Hp}(h:eU mp M X H)(Y:Hp):eU mp M (X++Y) (H++Y):=by
 obtain⟨vo,vh,vt,rs,CO,CH,CT,rfl,hO⟩:=h
 exact⟨vo,vh,vt,rs,CO,CH,CT,by simp,hO.ord,hO.sl,hO.each.mono fun _ _ h=>h.mono fun _ h=>List.mem_append_left _ h,hO.tr⟩
theorem sb.Vy{K K':Kd}{S S':Nat→aU.Fn}{ak e8:Nat→Nat}{held held':List (List Nat×Nat)}{t:List Nat}{r:Nat}(h:sb K S held)(hok:Ok K S ak)(ru:Ok K' S' e8)(hg:ot K S K' S' (dz K.n t) r)(hf:af.bO K.n t)(h2:2≤r)(hb:Cd held t held'):sb K' S' held':=by
 have hlv:∀s,K.hold s≠0→live K.N s:=fun s hs=>.inr (hok.mid.held s hs)
 have hn:=hg.n
 have key:∀s,K.hold s≠0→S' s=dz K.n t→s=r:=fun s hs he=>ru.wf.same ru.lv ru.mid.int (iU hg.N (hlv s hs)) hg.live (congrFun (by rw[he,hg.is]))
 have hr:K'.hold r=K.hold r+1:=by rw[hg.hold,if_pos ⟨rfl,h2⟩]
 have ho:∀s,s≠r→K'.hold s=K.hold s:=fun s hs=>by rw[hg.hold,if_neg (fun e=>hs e.1),Nat.add_zero]
 rcases hb with⟨i,c,hi,hno,rfl⟩|⟨hno,rfl⟩
 ·have Ps:(t,c)∈held:=List.mem_of_getElem? hi
  have Lv:=(List.getElem?_eq_some_iff.1 hi).1
  have heq:held[i]=(t,c):=(List.getElem?_eq_some_iff.1 hi).2
  have Ou:(held.set i (t,c+1)).map Prod.fst=held.map Prod.fst:=by
   apply List.ext_getElem?
   intro j
   rw[List.getElem?_map,List.getElem?_map]
   by_cases e:i=j
   ·subst e;rw[List.getElem?_set_self Lv,hi];rfl
   ·rw[List.getElem?_set_ne e]
  obtain⟨r0,Et,h1,u4,h3⟩:=h.lf _ Ps
  have QC:K.hold r0≠0:=by rw[h1];exact u4
  have e0:r0=r:=key r0 QC (by rw[hg.fn r0 (hlv r0 QC),h3])
  subst e0
  have hmem:∀e,e∈held.set i (t,c+1)→e=(t,c+1)∨(e∈held∧e.1≠t):=fun e he=>by
   obtain⟨j,hj,MO⟩:=List.getElem_of_mem he
   have Iv:j<held.length:=by simpa using hj
   by_cases e':i=j
   ·subst e'
    left
    rw[←MO,List.getElem_set_self]
   ·right
    rw[List.getElem_set_ne e']at MO
    refine⟨by rw[←MO];exact List.getElem_mem _,fun h5=>?_⟩
    have fB:=h.nd
    have:=(List.getElem_inj (i:=i) (j:=j) (h₀:=by simpa using Lv) (h₁:=by simpa using Iv) fB).1 (by simp[heq,MO,h5])
    exact e' this
  refine⟨by rw[Ou];exact h.nd,fun e he=>?_,fun s hs=>?_,fun e he=>?_⟩
  ·rw[hn]
   rcases hmem e he with rfl|⟨h5,_⟩
   ·exact hf
   ·exact h.ic e h5
  ·by_cases e5:s=r0
   ·subst e5
    refine⟨(t,c+1),List.mem_iff_getElem?.2 ⟨i,List.getElem?_set_self Lv⟩,by rw[hn,hg.is],?_⟩
    rw[hr,h1]
   ·rw[ho s e5]at hs
    obtain⟨e,he,h6,h7⟩:=h.rt s hs
    obtain⟨j,hj,MO⟩:=List.getElem_of_mem he
    have hij:i≠j:=fun e'=>by
     subst e'
     rw[heq]at MO;subst MO
     exact e5 (key s hs (by rw[hg.fn s (hlv s hs),←h6]))
    refine⟨e,List.mem_iff_getElem?.2 ⟨j,by rw[List.getElem?_set_ne hij,List.getElem?_eq_getElem hj,MO]⟩,by rw[hn,h6,hg.fn s (hlv s hs)],by rw[h7,ho s e5]⟩
  ·rcases hmem e he with rfl|⟨h5,h6⟩
   ·exact⟨r0,Et,by rw[hr,h1],by simp,by rw[hg.is,hn]⟩
   ·obtain⟨s,g1,g2,g3,g4⟩:=h.lf e h5
    have g5:K.hold s≠0:=by rw[g2];exact g3
    have H7:s≠r0:=fun e'=>by
     subst e'
     rw[h3]at g4
     exact h6 (fm (h.ic e h5) hf g4.symm)
    exact⟨s,g1,by rw[ho s H7,g2],g3,by rw[hg.fn s (hlv s g5),hn,g4]⟩
 ·have Et:K.hold r=0:=by
   refine Classical.byContradiction fun h0=>?_
   obtain⟨e,he,h1,_⟩:=h.rt r h0
   apply hno
   refine List.mem_map.2 ⟨e,he,fm (h.ic e he) hf ?_⟩
   rw[h1,←hg.fn r (hlv r h0),hg.is]
  refine⟨by rw[List.map_append];exact List.nodup_append.2 ⟨h.nd,by simp,fun a ha b hb' e=>by simp at hb';subst hb';subst e;exact hno ha⟩,fun e he=>?_,fun s hs=>?_,fun e he=>?_⟩
  ·rw[hn]
   rcases List.mem_append.1 he with he|he
   ·exact h.ic e he
   ·simp at he;subst he;exact hf
  ·by_cases e5:s=r
   ·subst e5
    exact⟨(t,1),by simp,by rw[hn,hg.is],by rw[hr,Et]⟩
   ·rw[ho s e5]at hs
    obtain⟨e,he,h6,h7⟩:=h.rt s hs
    exact⟨e,by simp[he],by rw[hn,h6,hg.fn s (hlv s hs)],by rw[h7,ho s e5]⟩
  ·rcases List.mem_append.1 he with he|he
   ·obtain⟨s,g1,g2,g3,g4⟩:=h.lf e he
    have g5:K.hold s≠0:=by rw[g2];exact g3
    have H7:s≠r:=fun e'=>by subst e';exact g5 Et
    exact⟨s,g1,by rw[ho s H7,g2],g3,by rw[hg.fn s (hlv s g5),hn,g4]⟩
   ·simp at he;subst he
    exact⟨r,h2,by rw[hr,Et],by simp,by rw[hg.is,hn]⟩
theorem lR{held held':List (List Nat×Nat)}{t:List Nat}(hb:Cd held t held'):held'.map Prod.fst=(if t∉held.map Prod.fst then held.map Prod.fst++[t]else held.map Prod.fst)∧held'.length≤held.length+1∧(∀m,(∀e∈held,e.2≤m)→∀e∈held',e.2≤m+1):=by
 rcases hb with⟨i,c,hi,hno,rfl⟩|⟨hno,rfl⟩
 ·have Ps:(t,c)∈held:=List.mem_of_getElem? hi
  have Lv:=(List.getElem?_eq_some_iff.1 hi).1
  refine⟨?_,by simp,fun m hm e he=>?_⟩
  ·rw[if_neg (fun h=>h (List.mem_map.2 ⟨_,Ps,rfl⟩))]
   apply List.ext_getElem?
   intro j
   rw[List.getElem?_map,List.getElem?_map]
   by_cases e:i=j
   ·subst e;rw[List.getElem?_set_self Lv,hi];rfl
   ·rw[List.getElem?_set_ne e]
  ·rcases List.mem_or_eq_of_mem_set he with he|rfl
   ·have:=hm e he;omega
   ·have:=hm _ Ps;simp only at this⊢;omega
 ·refine⟨by rw[if_pos hno];simp,by simp,fun m hm e he=>?_⟩
  rcases List.mem_append.1 he with he|he
  ·have:=hm e he;omega
  ·simp at he;subst he;simp
end Go.Proofs
set_option maxRecDepth 100000
namespace Go.Proofs
open Go Go.Sx
open aU
theorem bT{n:Nat}{p:List Nat}(hp:p.Perm (List.range n)):p.length=n∧∀i,i<n→p.getD i 0<n:=by
 have h1:p.length=n:=by rw[hp.length_eq,List.length_range]
 refine⟨h1,fun i hi=>?_⟩
 have:p.getD i 0∈p:=by rw[List.getD_eq_getElem?_getD,List.getElem?_eq_getElem (show i<p.length by omega)];exact List.getElem_mem _
 exact List.mem_range.1 (hp.mem_iff.1 this)
theorem Eu{mp:Nat}{M:Md}{X H:Hp}(h:eU mp M X H)(hM:M.gB){v:Value}{t:List Nat}(ht:iL X v ⟨M.n,t⟩)(hf:af.bO M.n t)(hlt:∀e∈M.held,e.2<65535):
  Fc Tryz.prog 124 #[ptr mp,v] H (fun r H'=>r=.int .i64 0∧∃held',eU mp {M with held:=held'} X H'∧((t=bq M.n false∨t=bq M.n true)→held'=M.held)∧(¬(t=bq M.n false∨t=bq M.n true)→Cd M.held t held')):=by
 by_cases hc:t=bq M.n false∨t=bq M.n true
 ·refine(wX (X:=X) (mp:=mp) hM (ht.mono h.sub) hf hc).mono ?_
  rintro v H ⟨rfl,rfl⟩
  exact⟨rfl,M.held,h,fun _=>rfl,fun h=>absurd hc h⟩
 ·refine(Ij h hM ht hf hc hlt).mono ?_
  rintro v H ⟨rfl,held',hb,hm⟩
  exact⟨rfl,held',hm,fun h=>absurd h hc,fun _=>hb⟩
structure Me(n c:Nat)(ord ak:List Nat)(L:af.Fs)(Y:Hp)(i kp mp:Nat)(vr vt:Value)(K:Kd)(S:Nat→aU.Fn)(M:Md)(refs:List Nat)(ts:af.Fs)(HM C CR CS:Hp):Prop where
 ks:g7 kp K S ord ak [] C
 kn:K.n=n
 kc:K.cap=c
 md:eU mp M Y HM
 mn:M.n=n
 mc:M.cap=c
 mo:M.ord=ord
 mt:M.tr=[]
 tu:sb K S M.held
 cnt:∀s,K.hold s≤i
 hl:M.held.length≤i
 ec:∀e∈M.held,e.2≤i
 tb:M.aM=xl n c ord [] (L.take i)
 rf:aK 77 .u32 vr (iw refs) CR
 tw:dJ 57 vt (cY n ts) CS Y
 len:refs.length=ts.length
 rl:refs.length≤i
 each:∀(i:Nat) (r:Nat) (t:List Nat),refs[i]? =some r→ts[i]? =some t→af.bO n t∧dz n t=S r∧((r<2∧S r=fun _=>decide (r=1))∨K.hold r≠0)
section
variable {n c:Nat} {ord:List Nat} {L:af.Fs} {Y:Hp}
theorem Me.I3{ak:List Nat}{i kp mp:Nat}{vr vt:Value}{K:Kd}{S:Nat→aU.Fn}{M:Md}{refs:List Nat}{ts:af.Fs}{HM C CR CS:Hp}(h:Me n c ord ak L Y i kp mp vr vt K S M refs ts HM C CR CS)(hn:n≤8)(hc:c≤1048576)(hp:ord.Perm (List.range n))(hi:i≤60000):M.gB:=by
 have ⟨h1,h2⟩:=bT hp
 have a:=h.hl
 refine⟨by rw[h.mn];omega,by rw[h.mc];exact hc,by rw[h.mo,h.mn];exact h1,by rw[h.mo,h.mn];exact h2,fun t ht=>?_,by omega,fun e he=>?_,by rw[h.mt];simp⟩
 ·obtain⟨e,he,rfl⟩:=List.mem_map.1 ht
  rw[h.mn,←h.kn];exact h.tu.ic e he
 ·have:=h.ec e he;omega
end
theorem jr.one{P:Program}{t e k:Nat}{z:Value}{r:List Value}{K:Mk→Prop}(h1:P.underlying t=some (.slice e))(h2:cT P e=some k)(h3:dR P e=some z)(hk:0<k∧k≤16777216)(hr:r.length=k)
 (h:K (.cells r.toArray e (0,0),fun b=>.slice (some ⟨b,0,none⟩) 1 1)):jr P t 1 [(0,.agg r.toArray)] K:=by
 obtain⟨cs,e',n,z',q1,q2,q3,q4,q5,q6⟩:=an.one (P:=P) (H:=[]) (K:=fun _ H'=>∃b,H'=[(b,Obj.cells r.toArray e (0,0))]) h1 h2 h3 hk hr (fun b=>⟨b,rfl⟩)
 refine⟨cs,e',n,z',q1,q2,q3,q4,q5,?_⟩
 obtain⟨b,hb⟩:=q6 0 (by simp)
 simp only[List.cons.injEq,Prod.mk.injEq,Obj.cells.injEq,and_true]at hb
 obtain⟨_,rfl,rfl⟩:=hb
 exact h
theorem E3{s:Value}{n:Int}{K:Mk→Prop}(h:K (.cells #[.int .i64 n,s] 57 (0,0),fun b=>.slice (some ⟨b,0,none⟩) 1 1)):
  jr Tryz.prog 28 1 [(0,.agg #[.int .i64 n,s])] K:=
 jr.one (r:=[.int .i64 n,s]) (e:=57) (k:=2) (z:=.agg #[.int .i64 0,.slice none 0 0]) (by kernel_rfl) (by kernel_rfl) (by kernel_rfl) (by decide) rfl h
section
variable {mp:Nat} {M:Md}
theorem E7{X H:Hp}(h:eU mp M X H)(hM:M.gB){v:Value}{t:List Nat}(ht:iL X v ⟨M.n,t⟩)(hf:af.bO M.n t)(hlt:∀e∈M.held,e.2<65535):
  Fc Tryz.prog 84 #[ptr mp,v] H (fun r H'=>
   (2+bL M.n M.ord (M.aM++[t]) M.n≤M.cap∧r=.int .i64 0∧∃held',eU mp {M with held:=held',tr:=[]} X H'∧((t=bq M.n false∨t=bq M.n true)→held'=M.held)∧(¬(t=bq M.n false∨t=bq M.n true)→Cd M.held t held'))∨
   (¬2+bL M.n M.ord (M.aM++[t]) M.n≤M.cap∧r=.int .i64 9∧H'=H)):=by
 have Yn:=ht
 obtain⟨s,rfl,hw⟩:=ht
 have hone:=ax hw
 refine aW fun g=>Fq ?_
 intro b1 _
 refine av.q ?_
 refine ae.rq (wW (mp:=mp) (M:=M) h.rd hM (v:=.agg (List.toArray [.int .i64 (M.n:Int),s])) (t:=t) ⟨s,rfl,hw.mono h.sub⟩ hf) ?_
 intro v hv
 obtain⟨c,rfl,hc⟩:∃c:Nat,v=.int .i64 (c:Int)∧c<65535:=by
  rcases hv with⟨e,he,_,rfl⟩|⟨_,rfl⟩
  ·exact⟨_,rfl,hlt e he⟩
  ·exact⟨0,rfl,by decide⟩
 refine aa.m0 (b:=65535) (Br.F ?_)
 refine av.q ?_
 refine dW fun b8=>?_
 refine ae.eq (Hu (mp:=mp) (L:=[t]) (h.rd.mono fun _ h=>.tail _ (.tail _ h)) hM (bV.one (cap:=0) (t:=⟨(M.n:Int),t⟩) (.head _) (hw.mono fun _ hx=>.tail _ (.tail _ (h.sub _ hx)))) (fun u hu=>by simp at hu;subst hu;exact hf) (by simp)) ?_
 refine Un.not ?_
 by_cases hfit:2+bL M.n M.ord (M.aM++[t]) M.n≤M.cap
 rotate_left
 ·rw[decide_eq_false hfit]
  exact Br.yes (bN.mk (.skip .tail) (.inr ⟨hfit,rfl,rfl⟩))
 rw[decide_eq_true hfit]
 refine Br.no ?_
 refine av.q ?_
 refine ae.fn (.cons (.cons .here)) (Eu h hM Yn hf hlt) ?_
 rintro w H2 ⟨rfl,held',Zq,h1,h2⟩
 obtain⟨vo,vh,vt,rs,CO,CH,CT,rfl,hO⟩:=Zq
 refine Nil.ptr (ag.mk (St.one (c':=cE {M with held:=held',tr:=[]} vo vh (.slice none 0 0)) (.tail (.tail (.head _))) rfl (by simp[cE]) rfl ?_))
 exact bN.mk (.skip (.skip (.cons (.cv (.cv .right _) _)))) (.inl ⟨hfit,rfl,held',⟨vo,vh,.slice none 0 0,rs,CO,CH,[],rfl,hO.ord,hO.sl,hO.each,aK.nil⟩,h1,h2⟩)
abbrev eW(pp kp mp:Nat)(vr vt:Value):Nat×Obj:=(pp,.cells #[ptr kp,ptr mp,vr,vt] 68 (0,0))
section
variable {pp kp:Nat} {vr vt:Value} {K:Kd} {S:Nat→aU.Fn} {ord ak tr:List Nat} {refs:List Nat} {ts:af.Fs} {Y HM C CR CS:Hp}
set_option maxHeartbeats 1000000 in
theorem Ki(hK:g7 kp K S ord ak tr C)(hn:K.n≤16)(hM:vx mp M HM)(zm:M.n=K.n)(hr:aK 77 .u32 vr (iw refs) CR)(ht:dJ 57 vt (cY K.n ts) CS Y)(hY:∀x∈Y,x∈HM)(hl:refs.length=ts.length)(aV:refs.length<65536)
 (he:∀(i:Nat) (r:Nat) (t:List Nat),refs[i]? =some r→ts[i]? =some t→af.bO K.n t∧dz K.n t=S r∧live K.N r){r:Nat}{t:List Nat}(ni:live K.N r)(hf:af.bO K.n t)(Qz:S r=dz K.n t){tv:Value}(Ym:iL Y tv ⟨K.n,t⟩):
  Fc Tryz.prog 85 #[ptr pp,u32 r,tv] (eW pp kp mp vr vt::(CR++(CS++(HM++C)))) (fun w H=>w=.bool true∧∃GA DJ J4 J0,H=eW pp kp mp GA DJ::(J4++(J0++(HM++C)))∧aK 77 .u32 GA (iw (refs++[r])) J4∧dJ 57 DJ (cY K.n (ts++[t])) J0 Y):=by
 obtain⟨s,rfl,hw⟩:=Ym
 have hone:=ax hw
 obtain⟨B0,pJ⟩:∃B0:Hp,B0=eW pp kp mp vr vt::(CR++(CS++(HM++C))):=⟨_,rfl⟩
 have hc0:eW pp kp mp vr vt∈B0:=by rw[pJ];exact .head _
 have WL:∀x∈HM,x∈B0:=fun x hx=>by rw[pJ];exact .tail _ (List.mem_append_right _ (List.mem_append_right _ (List.mem_append_left _ hx)))
 have UR:∀x∈Y,x∈B0:=fun x hx=>WL _ (hY _ hx)
 have Ys:bW .u32 B0 vr (iw refs):=by rw[pJ];exact hr.ints.mono fun _ h=>.tail _ (List.mem_append_left _ h)
 have CV:bV B0 vt (cY K.n ts):=ht.sF (fun x hx=>by rw[pJ];exact .tail _ (List.mem_append_right _ (List.mem_append_left _ hx))) UR
 obtain⟨vo,vh,DJ,rs,hR⟩:=hM
 refine aW fun g=>Fp ?_
 intro b1 _
 refine DR.self ?_
 refine Ld.v (.tail _ (by rw[←pJ];exact hc0)) ?_
 refine Ld.v (.tail _ (by rw[←pJ];exact hc0)) ?_
 refine Ld.v (c:=cE M vo vh DJ) (v:=.int .i64 (M.n:Int)) (.tail _ (by rw[←pJ];exact WL _ hR.ue)) ?_
 rw[zm]
 intro F13
 rw[←pJ]
 obtain⟨A0,Gm⟩:∃A0:Hp,B0=A0++C:=⟨eW pp kp mp vr vt::(CR++(CS++HM)),by rw[pJ];simp⟩
 refine ae.px (B:=A0++C) (by rw[Gm];exact .cons .here) (tg hK hn ni A0) ?_
 rintro w N ⟨s1,ws,rfl,⟨s1,rfl,gS⟩,Ot,Rc⟩
 obtain rfl:ws=t:=fm Ot hf (Rc.trans Qz)
 rw[←Gm]at gS⊢
 have wV:=ax gS
 refine⟨.cons .right,?_⟩
 refine Ext.two ?_
 intro ZU _ F20
 refine St.p (by simpa[Value.oneCell']using wV) ?_
 refine⟨.skip (.cons .right),?_⟩
 intro J22 RY
 refine Un.not (Split.go rfl ?_)
 refine av.q ?_
 refine av.whole (r:=[.int .i64 (K.n:Int),s]) (by exact .tail _ (.head _)) rfl ?_
 have Ey:=dM hf
 have Qp:Words ((ZU,Obj.cells (List.toArray [.int .i64 (K.n:Int),s1]) 57 (0,0))::(b1,Obj.cells #[.int .i64 (K.n:Int),s] 57 (0,0))::(N++B0)) s1 ws:=gS.mono fun _ h=>.tail _ (.tail _ h)
 refine ae.eq (gu (v1:=.agg (List.toArray [.int .i64 (K.n:Int),s1])) (v2:=.agg (List.toArray [.int .i64 (K.n:Int),s])) (a:=⟨K.n,ws⟩) (b:=⟨K.n,ws⟩) ⟨s1,rfl,Qp⟩ ⟨s,rfl,hw.mono fun _ h=>.tail _ (.tail _ (List.mem_append_right _ (UR _ h)))⟩ (by show ws.length<_;omega)) ?_
 rw[decide_eq_true rfl]
 refine Un.not (ay.mk ?_)
 refine JE.of (H':=(b1,Obj.cells #[.int .i64 (K.n:Int),s] 57 (0,0))::B0) (.skip (.cons .right)) (RY _ _ fun gs=>Br.no ?_)
 clear RY Qp gS
 refine Ld.v (.tail _ hc0) ?_
 refine CV.aL ?_
 rw[aF]
 refine⟨fun vs H=>∃i:Nat,vs=[.int .i64 (i:Int)]∧i≤ts.length∧H=(b1,Obj.cells #[.int .i64 (K.n:Int),s] 57 (0,0))::B0,fun vs _=>ts.length-aT vs 0,JE.mk ⟨0,rfl,Nat.zero_le _,rfl⟩,?_⟩
 rintro Xs H ⟨i,⟨⟩,hi,rfl⟩ gs
 refine aa.cZ (Br.dec (fun hlt=>?_) (fun hge=>?_))
 ·have HY:ts[i]? =some ts[i]:=List.getElem?_eq_getElem hlt
  have rp:refs[i]? =some (refs[i]'(by omega)):=List.getElem?_eq_getElem _
  obtain⟨Ov,Wv,Wk⟩:=he i _ _ rp HY
  generalize ts[i]=u at*
  generalize (refs[i]'(by omega):Nat)=q at*
  refine CV.ld (ig HY) (fun _ h=>.tail _ h) fun s2 lF=>?_
  have wU:=ax lF
  intro b38 _
  refine St.p (by simpa[Value.oneCell']using wU) ?_
  refine DR.self ?_
  refine av.q ?_
  refine av.whole (r:=[.int .i64 (K.n:Int),s]) (by exact .tail _ (.head _)) rfl ?_
  refine Ld.v (.tail _ (.tail _ hc0)) ?_
  refine Ys.ld (n:=((q:Nat):Int)) (bR rp) (fun _ h=>.tail _ (.tail _ h)) ?_
  refine aa.iK ?_
  intro F50
  have YH:=dM Ov
  refine ae.eh .here (gu (v1:=.agg (List.toArray [.int .i64 (K.n:Int),s2])) (v2:=.agg (List.toArray [.int .i64 (K.n:Int),s])) (a:=⟨K.n,u⟩) (b:=⟨K.n,ws⟩) ⟨s2,rfl,lF.mono fun _ h=>.tail _ (.tail _ h)⟩ ⟨s,rfl,hw.mono fun _ h=>.tail _ (.tail _ (UR _ h))⟩ (by show u.length<_;omega)) ?_
  refine⟨.refl _,?_⟩
  have e:decide ((⟨(K.n:Int),u⟩:Tb)=⟨(K.n:Int),ws⟩)=decide (q=r):=by
   refine decide_eq_decide.2 ⟨fun h=>?_,fun h=>?_⟩
   ·have h2:u=ws:=by simpa using h
    subst h2
    exact hK.ok.wf.same hK.ok.lv hK.ok.mid.int Wk ni (congrFun (Wv.symm.trans Qz.symm))
   ·subst h
    rw[fm Ov hf (Wv.trans Qz)]
  rw[e]
  refine aa.KO ?_
  rw[show(!(decide (q=r)==decide (q=r)))=false by simp]
  refine Br.no ?_
  refine aa.inc ?_
  exact aq.of .tail ⟨i+1,rfl,hlt,rfl⟩ (by simp only[aT];omega)
 ·subst pJ
  refine DR.of (R:=[(b1,Obj.cells #[.int .i64 (K.n:Int),s] 57 (0,0)),eW pp kp mp vr vt]) (.cons (.cons aJ.nil)) ?_
  refine Ld.n (Ld.n ?_)
  refine av.whole (r:=[.int .i64 (K.n:Int),s]) (by exact .head _) rfl ?_
  refine E3 ?_
  intro F64
  refine an.int (e:=77) (by kernel_rfl) (by kernel_rfl) (by kernel_rfl) fun yb=>?_
  refine⟨.skip (.cons (.cons aJ.nil)),?_⟩
  intro F67
  refine hr.oh (x:=(r:Int)) (.cons (.cons (.cons .left))) (by exact .head _) (by rw[ah];omega) (by rw[ah];omega) fun Sy Xp iZ=>?_
  refine⟨.skip (.cons (.cons aJ.nil)),?_⟩
  intro ZQ _ F74
  refine dJ.app ht (A:=(ZQ,_)::(yb,_)::(b1,_)::(pp,_)::Xp) (B:=HM++C) (t:=⟨(K.n:Int),ws⟩) (by exact .head _) hw (by rw[aF];omega) fun J6 CS2 Gd=>?_
  have TC:J6.oneCell'=true:=by obtain⟨rs,h1,_⟩:=Gd;obtain⟨a,c,e⟩:=aO.len h1;rw[e];rfl
  refine Nil.ptr (ag.mk ?_)
  intro F81
  refine St.one (c:=#[ptr kp,ptr mp,vr,vt]) (c':=#[ptr kp,ptr mp,Sy,vt]) (.tail (.tail (.tail (.head _)))) iZ.one (by simp) rfl ?_
  refine Nil.ptr (ag.mk ?_)
  intro F85
  refine St.one (c:=#[ptr kp,ptr mp,Sy,vt]) (c':=#[ptr kp,ptr mp,Sy,J6]) (.tail (.tail (.tail (.head _)))) TC (by simp) rfl ?_
  refine bN.mk (.skip (.skip (.skip (.refl _)))) ⟨rfl,Sy,J6,Xp,CS2,rfl,by rw[cm];exact iZ,?_⟩
  unfold cY at Gd⊢
  rw[List.map_append];exact Gd
end
end
section
variable {kp:Nat} {K:Kd} {S:Nat→aU.Fn} {ord tr:List Nat} {C:Hp} {m:Rm} {Q:List Nat→Prop}
theorem r5{held:List (List Nat×Nat)}(h:sb K S held)(hn:K.n≤16):aU.Alike (rm K S) (D4 K.n K.cap (held.map Prod.fst)) (fun ord=>ord.Perm (List.range K.n)):=by
 have hf:∀t∈held.map Prod.fst,af.bO K.n t:=fun t ht=>by
  obtain⟨e,he,rfl⟩:=List.mem_map.1 ht
  exact h.ic e he
 refine⟨rfl,fun ord hp=>?_,fun ord l hp hl=>?_,fun ord l hp hl=>?_⟩
 ·show jZ K S ord=_
  unfold jZ
  rw[h.uW]
  exact GO hf hn (bT hp).2
 ·show decide (jV K S ord l)=decide _
  refine decide_eq_decide.2 ?_
  unfold jV
  rw[h.uW,Nu hf hn (bT hp).2 hl (bT hp).1]
 ·have hl':l+1<K.n:=hl
  exact(qt (by rw[(bT hp).1];exact hl')).trans hp
end
theorem Dy{n c:Nat}(r:Nat):(K0 n c).hold r=0:=by simp[Kd.hold,K0]
section
variable {n c i kp mp:Nat} {ord ak:List Nat} {L:af.Fs} {Y HM C4 CR CS:Hp} {vr J6:Value} {K:Kd} {S:Nat→aU.Fn} {M:Md} {refs:List Nat} {ts:af.Fs}
section
variable {C:Hp} {tr:List Nat}
theorem uD{n:Nat}{ord:List Nat}{f:aU.Fn}(hf:∀v,¬eE f v)(g:aU.Fn):¬bC n ord (fun g=>g=f) g:=by
 rintro⟨l,hl,hg,hh⟩
 rw[qb (l:=n) (fun j _=>hf _) l (by omega) g hg]at hh
 exact hf _ hh
theorem ot.RZ{K':Kd}{S':Nat→aU.Fn}{f:aU.Fn}{x:Nat}{Tw:List Nat}{C':Hp}(h:ot K S K' S' f x)(hK:g7 kp K S ord ak tr C)(rF:g7 kp K' S' ord ak Tw C'):Fits (bC K.n ord (fun g=>K.held S g∨g=f)) K.cap:=by
 have hc:=rF.ok.size rF.od
 have hr:=rF.ok.mid.room
 have h2:=rF.ok.mid.cap
 rw[h.n]at hc
 refine Fits.mono (fun g hg=>?_) ⟨K'.used-2,hc,by rw[←h.cap];omega⟩
 have old:∀g,K.held S g→K'.held S' g:=fun g ⟨s,hs,e⟩=>⟨s,by show K'.hold s≠0;have:K.hold s≠0:=hs;rw[h.hold];omega,by rw[h.fn s (.inr (hK.ok.mid.held s hs)),e]⟩
 by_cases h2:2≤x
 ·refine lg (fun g hg=>?_) hg
  rcases hg with hg|rfl
  ·exact old g hg
  ·exact⟨x,by show K'.hold x≠0;rw[h.hold,if_pos ⟨rfl,h2⟩];omega,h.is.symm⟩
 ·rcases(dg g).1 hg with hg|hg
  ·exact lg old hg
  ·refine absurd hg (uD (fun v=>?_) g)
   rintro⟨y,hy⟩
   rw[←h.is]at hy
   have hi:=rF.ok.mid.int
   obtain rfl|rfl:x=0∨x=1:=by omega
   ·exact hy (by rw[hi.zero,hi.zero])
   ·exact hy (by rw[hi.one,hi.one])
end
theorem Me.add(hY:Me n c ord ak L Y i kp mp vr J6 K S M refs ts HM C4 CR CS)(hn:n≤8){t:List Nat}(js:L.take (i+1)=L.take i++[t])(Gi:af.bO n t){K3:Kd}{S3:Nat→aU.Fn}{C5 Gs J4 J0:Hp}{r:Nat}(nY:g7 kp K3 S3 ord ak [] C5)(hg:ot K S K3 S3 (dz n t) r)(hfit:2+bL n ord (M.aM++[t]) n≤c){held':List (List Nat×Nat)}
 (zn:eU mp {M with held:=held',tr:=[]} Y Gs)(oR:(t=bq n false∨t=bq n true)→held'=M.held)(sP:¬(t=bq n false∨t=bq n true)→Cd M.held t held'){GA DJ:Value}(N9:aK 77 .u32 GA (iw (refs++[r])) J4)(Lh:dJ 57 DJ (cY n (ts++[t])) J0 Y):
  Me n c ord ak L Y (i+1) kp mp GA DJ K3 S3 {M with held:=held',tr:=[]} (refs++[r]) (ts++[t]) Gs C5 J4 J0:=by
 have hlv:∀s,K.hold s≠0→live K.N s:=fun s hs=>.inr (hY.ks.ok.mid.held s hs)
 have hrc:(t=bq n false∨t=bq n true)↔r<2:=by
  have hint:=nY.ok.mid.int
  constructor
  ·intro jR
   have:∃q,q<2∧∀x,S3 r x=S3 q x:=by
    rcases jR with rfl|rfl
    ·exact⟨0,by omega,fun x=>by rw[hint.zero,hg.is,lJ]⟩
    ·exact⟨1,by omega,fun x=>by rw[hint.one,hg.is,lJ]⟩
   obtain⟨q,hq,he⟩:=this
   have:=nY.ok.wf.same nY.ok.lv hint hg.live (.inl hq) he
   omega
  ·intro hr
   have:r=0∨r=1:=by omega
   rcases this with rfl|rfl
   ·exact .inl ((mz (by omega) Gi false).2 (by rw[←hg.is];exact funext hint.zero))
   ·exact .inr ((mz (by omega) Gi true).2 (by rw[←hg.is];exact funext hint.one))
 have YQ:ot K S K3 S3 (dz K.n t) r:=by rw[hY.kn];exact hg
 have QR:sb K3 S3 held':=by
  by_cases iZ:r<2
  ·rw[oR (hrc.2 iZ)]
   exact hY.tu.same hg.n (fun s=>by rw[hg.hold,if_neg (by omega),Nat.add_zero]) (fun s hs=>hg.fn s (hlv s hs))
  ·exact sb.Vy hY.tu hY.ks.ok nY.ok YQ (by rw[hY.kn];exact Gi) (by omega) (sP (fun h=>iZ (hrc.1 h)))
 refine {ks:=nY,kn:=hg.n.trans hY.kn,kc:=hg.cap.trans hY.kc,md:=zn,mn:=hY.mn,mc:=hY.mc,mo:=hY.mo,mt:=rfl,tu:=QR,cnt:=fun s=>?_,hl:=?_,ec:=?_,tb:=?_,rf:=N9,tw:=Lh,len:=by simp[hY.len],rl:=by simp;exact hY.rl,each:=?_}
 ·have:=hY.cnt s
  rw[hg.hold];split<;>omega
 ·by_cases iZ:r<2
  ·rw[show({M with held:=held',tr:=[]}:Md).held=held' from rfl,oR (hrc.2 iZ)];exact Nat.le_succ_of_le hY.hl
  ·have:=(lR (sP (fun h=>iZ (hrc.1 h)))).2.1
   have:=hY.hl
   show held'.length≤i+1
   omega
 ·by_cases iZ:r<2
  ·rw[show({M with held:=held',tr:=[]}:Md).held=held' from rfl,oR (hrc.2 iZ)];exact fun e he=>Nat.le_succ_of_le (hY.ec e he)
  ·exact(lR (sP (fun h=>iZ (hrc.1 h)))).2.2 i hY.ec
 ·rw[js,mZ,←hY.tb]
  show held'.map Prod.fst=if _ then _ else _
  by_cases iZ:r<2
  ·rw[oR (hrc.2 iZ),if_neg (fun h=>h.2.1 (hrc.2 iZ))];rfl
  ·rw[(lR (sP (fun h=>iZ (hrc.1 h)))).1]
   by_cases hin:t∈M.aM
   ·rw[if_neg (fun h=>h hin),if_neg (fun h=>h.2.2 hin)];rfl
   ·rw[if_pos (show t∉M.held.map Prod.fst from hin),if_pos ⟨hfit,fun h=>iZ (hrc.1 h),hin⟩];rfl
 ·intro j q u hq hu
  by_cases e:j<refs.length
  ·rw[List.getElem?_append_left e]at hq
   rw[List.getElem?_append_left (by rw[←hY.len];exact e)]at hu
   obtain⟨q1,q2,q3⟩:=hY.each j q u hq hu
   have QW:live K.N q:=by
    rcases q3 with q3|q3
    ·exact .inl q3.1
    ·exact hlv q q3
   refine⟨q1,by rw[q2,hg.fn q QW],?_⟩
   rcases q3 with q3|q3
   ·exact .inl ⟨q3.1,by rw[hg.fn q QW];exact q3.2⟩
   ·right;rw[hg.hold];omega
  ·rw[List.getElem?_append_right (by omega)]at hq
   rw[List.getElem?_append_right (by rw[←hY.len];omega),←hY.len]at hu
   obtain⟨e1,rfl⟩:j-refs.length=0∧q=r:=by
    cases Wn:j-refs.length with
    |zero=>rw[Wn]at hq;simp at hq;exact⟨rfl,hq.symm⟩
    |succ m=>rw[Wn]at hq;simp at hq
   rw[e1]at hu
   simp at hu
   subst hu
   refine⟨Gi,hg.is.symm,?_⟩
   by_cases iZ:q<2
   ·left
    refine⟨iZ,?_⟩
    have hint:=nY.ok.mid.int
    have:q=0∨q=1:=by omega
    rcases this with rfl|rfl
    ·exact funext hint.zero
    ·exact funext hint.one
   ·right;rw[hg.hold,if_pos ⟨rfl,by omega⟩];omega
theorem Me.skip(hY:Me n c ord ak L Y i kp mp vr J6 K S M refs ts HM C4 CR CS){t:List Nat}(js:L.take (i+1)=L.take i++[t]){K3:Kd}{S3:Nat→aU.Fn}{C5:Hp}(nY:g7 kp K3 S3 ord ak [] C5)(hk:Kept K S K3 S3)(hfit:¬2+bL n ord (M.aM++[t]) n≤c):
  Me n c ord ak L Y (i+1) kp mp vr J6 K3 S3 M refs ts HM C5 CR CS:=by
 refine {hY with ks:=nY,kn:=hk.n.trans hY.kn,kc:=hk.cap.trans hY.kc,tu:=hY.tu.same hk.n hk.hold hk.fn,cnt:=fun s=>by rw[hk.hold];exact Nat.le_succ_of_le (hY.cnt s),hl:=Nat.le_succ_of_le hY.hl,ec:=fun e he=>Nat.le_succ_of_le (hY.ec e he),tb:=?_,rl:=Nat.le_succ_of_le hY.rl,each:=fun j q u hq hu=>?_}
 ·rw[js,mZ,←hY.tb]
  show M.aM=if _ then _ else _
  rw[if_neg (fun h=>hfit h.1)]
 ·obtain⟨q1,q2,q3⟩:=hY.each j q u hq hu
  rcases q3 with⟨q3,q4⟩|q3
  ·have hint:=nY.ok.mid.int
   have e:S3 q=fun _=>decide (q=1):=by
    obtain rfl|rfl:q=0∨q=1:=by omega
    ·exact funext hint.zero
    ·exact funext hint.one
   exact⟨q1,by rw[q2,q4,e],.inl ⟨q3,e⟩⟩
  ·exact⟨q1,by rw[q2,hk.fn q q3],.inr (by rw[hk.hold];exact q3)⟩
theorem OW{n:Nat}{held held':List (List Nat×Nat)}{t:List Nat}{ts:af.Fs}(oR:(t=bq n false∨t=bq n true)→held'=held)(sP:¬(t=bq n false∨t=bq n true)→Cd held t held')(hin:∀e∈held,e.1∈ts):∀e∈held',e.1∈ts++[t]:=fun e he=>by
 by_cases h:t=bq n false∨t=bq n true
 ·rw[oR h]at he;exact List.mem_append_left _ (hin e he)
 ·have hm:e.1∈held'.map Prod.fst:=List.mem_map.2 ⟨e,he,rfl⟩
  rw[(lR (sP h)).1]at hm
  have old:e.1∈held.map Prod.fst→e.1∈ts:=fun h=>by obtain⟨x,hx,ex⟩:=List.mem_map.1 h;rw[←ex];exact hin x hx
  split at hm
  ·rcases List.mem_append.1 hm with h|h
   ·exact List.mem_append_left _ (old h)
   ·exact List.mem_append_right _ h
  ·exact List.mem_append_left _ (old hm)
structure Sc(n c:Nat)(ord tr:List Nat)(Y:Hp)(kp mp:Nat)(vr vt:Value)(K:Kd)(S:Nat→aU.Fn)(M:Md)(refs:List Nat)(ts:af.Fs)(HM CR CS:Hp):Prop where
 kn:K.n=n
 kc:K.cap=c
 md:eU mp M Y HM
 mn:M.n=n
 mc:M.cap=c
 mo:M.ord=ord
 mt:M.tr=tr
 tu:sb K S M.held
 hl:M.held.length≤40
 ec:∀e∈M.held,e.2≤40
 rf:aK 77 .u32 vr (iw refs) CR
 tw:dJ 57 vt (cY n ts) CS Y
 len:refs.length=ts.length
 rl:refs.length≤40
 each:∀(i:Nat) (r:Nat) (t:List Nat),refs[i]? =some r→ts[i]? =some t→af.bO n t∧dz n t=S r∧((r<2∧S r=fun _=>decide (r=1))∨K.hold r≠0)
 hin:∀e∈M.held,e.1∈ts
section
variable {tr:List Nat}
theorem Sc.I3(h:Sc n c ord tr Y kp mp vr J6 K S M refs ts HM CR CS)(hn:n≤8)(hc:c≤1048576)(hp:ord.Perm (List.range n))(lH:tr.length≤1099511627776):M.gB:=by
 have ⟨h1,h2⟩:=bT hp
 have a:=h.hl
 refine⟨by rw[h.mn];omega,by rw[h.mc];exact hc,by rw[h.mo,h.mn];exact h1,by rw[h.mo,h.mn];exact h2,fun t ht=>?_,by omega,fun e he=>?_,by rw[h.mt];exact lH⟩
 ·obtain⟨e,he,rfl⟩:=List.mem_map.1 ht
  rw[h.mn,←h.kn];exact h.tu.ic e he
 ·have:=h.ec e he;omega
theorem Sc.fit(h:Sc n c ord tr Y kp mp vr J6 K S M refs ts HM CR CS)(hn:n≤8)(hp:ord.Perm (List.range n)){l:Nat}(hl:l+1<n):jV K S ord l↔2+(kN M.n M.ord l M.aM).length≤M.cap:=by
 have C7:=r5 h.tu (by rw[h.kn];omega)
 have:=C7.fit ord l (by rw[h.kn];exact hp) (by show l+1<K.n;rw[h.kn];exact hl)
 rw[←yM,this,h.mn,h.mo,h.mc,←h.kn,←h.kc]
 show decide _=true↔_
 rw[decide_eq_true_iff]
 unfold Md.aM
 omega
end
end
theorem EN{B:Hp}{mp:Nat}{M:Md}(h:vx mp M B)(hn:M.n≤16){l:Int}(hl:¬(0≤l∧l+1<M.n)):Rd Tryz.prog 86 #[ptr mp,.int .i64 l] B (· =.int .i64 1):=by
 obtain⟨vo,vh,vt,rs,hR⟩:=h
 refine aW fun g=>pe ?_
 refine aa.lss ?_
 refine dO.or (decide ((M.n:Int) -2<l)) (fun _=>?_) rfl fun gs=>?_
 ·refine Ld.v (c:=cE M vo vh vt) (v:=.int .i64 (M.n:Int)) hR.ue ?_
  exact aa.gK (c:=(M.n:Int) -2) rfl (by omega) (aa.gtr ⟨rfl,rfl⟩)
 ·rw[←Bool.decide_or]
  exact Br.zF (by omega) (bK.mk (.refl _) rfl)
theorem x5{kp:Nat}{K:Kd}{S:Nat→aU.Fn}{ord tr:List Nat}{C:Hp}(h:At kp K S ord tr C){l:Int}(hl:¬(0≤l∧l+1<K.n)):Rd Tryz.prog 17 #[ptr kp,.int .i64 l] C (· =.int .i64 1):=by
 obtain⟨K',S',e8,hK,hk⟩:=h
 exact I4 hK (by rw[hk.n];exact hl)
section
variable {n c:Nat} {L:af.Fs} {Y:Hp} {wC:List Int}
set_option maxHeartbeats 2000000 in
theorem zN{vl vv:Value}(hn:1≤n∧n≤8)(hc:2≤c∧c≤1048576)(hL:bV Y vl (cY n L))(hf:∀t∈L,af.bO n t)(sC:L.length≤40)(hv:bW .i64 Y vv wC)(hvl:wC.length≤200):
  Fc Tryz.prog 31 #[.agg #[.int .i64 (n:Int),.int .i64 (c:Int),vl,vv]] Y (fun w H=>∃pp kp mp vr vt K S ord tr M refs ts HM CR CS C,w=.tuple #[ptr pp,.bool true]∧H=eW pp kp mp vr vt::(CR++(CS++(HM++C)))∧Sc n c ord tr Y kp mp vr vt K S M refs ts HM CR CS∧At kp K S ord tr C∧ord.Perm (List.range n)∧tr.length≤200):=by
 refine aW fun g=>FU ?_
 intro b1 _
 refine Ld.f (Ld.f ?_)
 refine ae.fn (args:=#[.int .i64 (n:Int),.int .i64 (c:Int)]) hnew (NJ (n:=n) (cap:=c) (by omega) hc) ?_
 rintro w C0 ⟨kp,rfl,Zu⟩
 refine Ext.two ?_
 refine aa.fZ ?_
 refine dO.or false (fun _=>aa.aC ⟨rfl,rfl⟩) rfl fun gs=>Br.no ?_
 refine Ld.f (Ld.f ?_)
 refine ae.fn (args:=#[.int .i64 (n:Int),.int .i64 (c:Int)]) hnew (wo (n:=n) (cap:=c) (by omega) hc.2) ?_
 rintro w H0 ⟨mp,rfl,Ng⟩
 refine Build.mk (cs:=[ptr kp,ptr mp,.slice none 0 0,.slice none 0 0]) (by kernel_rfl) ?_
 intro pp _
 refine Ld.f ?_
 refine hL.aL ?_
 rw[aF]
 obtain⟨c1,yu⟩:∃c1:Nat×Obj,c1=(b1,Obj.cells #[.int .i64 (n:Int),.int .i64 (c:Int),vl,vv] 62 (0,0)):=⟨_,rfl⟩
 have hr:=List.Perm.refl (List.range n)
 refine⟨fun vs H=>∃(i:Nat) (vr vt:Value) (K:Kd) (S:Nat→aU.Fn) (M:Md) (refs:List Nat) (ts:af.Fs) (HM C CR CS:Hp),vs=[.int .i64 (i:Int)]∧i≤L.length∧H=c1::eW pp kp mp vr vt::(CR++(CS++(HM++C)))∧Me n c (List.range n) (List.range n) L Y i kp mp vr vt K S M refs ts HM C CR CS∧(∀e∈M.held,e.1∈ts),
  fun vs _=>L.length-aT vs 0,JE.of (H':=c1::eW pp kp mp (.slice none 0 0) (.slice none 0 0)::([]++([]++((H0++Y)++C0)))) ?_ ⟨0,.slice none 0 0,.slice none 0 0,K0 n c,S0,⟨n,c,List.range n,[],[]⟩,[],[],H0++Y,C0,[],[],rfl,Nat.zero_le _,rfl,?_,by simp⟩,?_⟩
 ·subst yu
  refine .trans ?_ (.cons (.cons (.perm (List.Perm.refl _))))
  refine .perm ?_
  refine(List.Perm.cons _ (List.Perm.append_left H0 (List.perm_middle (l₁:=C0)))).trans ?_
  refine(List.Perm.cons _ List.perm_middle).trans ?_
  refine(List.Perm.swap _ _ _).trans (List.Perm.cons _ (List.Perm.cons _ ?_))
  show(H0++(C0++Y)).Perm ((H0++Y)++C0)
  rw[List.append_assoc]
  exact List.Perm.append_left _ List.perm_append_comm
 ·exact {ks:=Zu,kn:=rfl,kc:=rfl,md:=by simpa using Ng.frame Y,mn:=rfl,mc:=rfl,mo:=rfl,mt:=rfl,tu:=sb.none Dy,cnt:=fun s=>by rw[Dy];exact Nat.zero_le _,hl:=Nat.zero_le _,ec:=by simp,tb:=rfl,rf:=aK.nil,tw:=dJ.nil,len:=rfl,rl:=Nat.zero_le _,each:=by simp}
 rintro Xt H ⟨i,vr,vt,K,S,M,refs,ts,HM,C,CR,CS,⟨⟩,hi,rfl,hY,hin⟩ gs
 have tQ:=hY.I3 hn.2 hc.2 hr (by omega)
 refine aa.cZ (Br.dec (fun hlt=>?_) (fun hge=>?_))
 ·have HY:L[i]? =some L[i]:=List.getElem?_eq_getElem hlt
  have Gi:=hf L[i] (List.getElem_mem hlt)
  have js:L.take (i+1)=L.take i++[L[i]]:=List.take_succ_eq_append_getElem hlt
  generalize L[i]=t at*
  have OH:∀x∈Y,x∈c1::eW pp kp mp vr vt::(CR++(CS++(HM++C))):=fun x hx=>.tail _ (.tail _ (List.mem_append_right _ (List.mem_append_right _ (List.mem_append_left _ (hY.md.sub _ hx)))))
  refine hL.ld (ig HY) OH fun s hw=>?_
  have hone:=ax hw
  have TZ:iL Y (.agg (List.toArray [.int .i64 (n:Int),s])) ⟨n,t⟩:=⟨s,rfl,hw⟩
  intro b35 _
  refine St.p (by simpa[Value.oneCell']using hone) ?_
  refine av.q ?_
  refine ae.fn (C:=HM++C) (args:=#[ptr kp,.agg (List.toArray [.int .i64 (n:Int),s]),.int .i64 ((0:Nat):Int)]) (.cons (.cons (.cons (.app (.app .here))))) (GV (by omega) (n+1) 0 K S C HM _ t (by omega) (by omega) hY.kn hY.ks (TZ.mono hY.md.sub) Gi (fun j hj=>absurd hj (Nat.not_lt_zero _)) (fun s=>by have:=hY.cnt s;omega)) ?_
  rintro w H ⟨C5,rfl,hmk⟩
  have MU:Fits (bC K.n (List.range n) (fun g=>K.held S g∨g=dz n t)) K.cap↔2+bL n (List.range n) (M.aM++[t]) n≤c:=by
   have hfr:∀u∈M.aM++[t],af.bO n u:=fun u hu=>by
    rcases List.mem_append.1 hu with hu|hu
    ·have:=tQ.ic u hu;rwa [hY.mn]at this
    ·simp at hu;subst hu;exact Gi
   have hU:=Jd (n:=n) (ord:=List.range n) (L:=M.aM++[t]) hfr (by omega) (bT hr).2
   have e:(fun g=>K.held S g∨g=dz n t)=FT n (M.aM++[t]):=funext fun g=>propext<|by
    rw[hY.tu.iff g,hY.kn]
    constructor
    ·rintro(⟨u,hu,e⟩|rfl)
     ·exact⟨u,List.mem_append_left _ hu,e⟩
     ·exact⟨t,by simp,rfl⟩
    ·rintro⟨u,hu,e⟩
     rcases List.mem_append.1 hu with hu|hu
     ·exact .inl ⟨u,hu,e⟩
     ·rw[List.mem_singleton.1 hu]at e;exact .inr e
   rw[e,hY.kn,hY.kc]
   constructor
   ·rintro⟨ku,h1,h2⟩;rw[hU.uniq h1];omega
   ·intro h2;exact⟨_,hU,by omega⟩
  obtain⟨r,e,K3,S3,rfl,nY,MZ⟩:∃(r e:Nat) (K3:Kd) (S3:Nat→aU.Fn),w=.tuple #[u32 r,.int .i64 (e:Int)]∧g7 kp K3 S3 (List.range n) (List.range n) [] C5∧((e=0∧ot K S K3 S3 (dz n t) r∧2+bL n (List.range n) (M.aM++[t]) n≤c)∨(e=9∧Kept K S K3 S3∧¬2+bL n (List.range n) (M.aM++[t]) n≤c)):=by
   rcases hmk with⟨r,K3,S3,rfl,nY,hg⟩|⟨rfl,⟨K3,S3,nY,hk⟩,hno⟩
   ·exact⟨r,0,K3,S3,rfl,nY,.inl ⟨rfl,hg,MU.1 (hg.RZ hY.ks nY)⟩⟩
   ·exact⟨0,9,K3,S3,rfl,nY,.inr ⟨rfl,hk,fun h=>hno (MU.2 h)⟩⟩
  refine Ext.two ?_
  refine DR.self ?_
  refine Ld.n ?_
  refine av.q ?_
  intro F48
  refine ae.fn (.cons (.cons (.cons (.app (.app .left))))) (E7 hY.md tQ (by rw[hY.mn];exact TZ) (by rw[hY.mn];exact Gi) (fun e he=>by have:=hY.ec e he;omega)) ?_
  rintro w Gs (⟨hfit,rfl,held',zn,oR,sP⟩|⟨hfit,rfl,rfl⟩)
  ·rw[hY.mn,hY.mc,hY.mo]at hfit
   rw[hY.mn]at oR sP
   rcases MZ with⟨rfl,hg,_⟩|⟨_,_,h⟩
   rotate_left
   ·exact absurd hfit h
   refine aa.oW (aa.oW (aa.KO (Br.no ?_)))
   intro Z6 Vo
   refine aa.oW (Split.go rfl ?_)
   refine av.q ?_
   have hlv:∀s,K.hold s≠0→live K.N s:=fun s hs=>.inr (hY.ks.ok.mid.held s hs)
   refine ae.fn (.cons (.cons .here)) (Ki (pp:=pp) (mp:=mp) (M:={M with held:=held',tr:=[]}) (Y:=Y) (HM:=Gs) nY (by rw[hg.n,hY.kn];omega) zn.rd (by rw[hg.n,hY.kn];exact hY.mn) hY.rf (by rw[hg.n,hY.kn];exact hY.tw) zn.sub hY.len (by have:=hY.rl;omega) (fun j q u hq hu=>?_) hg.live (by rw[hg.n,hY.kn];exact Gi) (by rw[hg.n,hY.kn];exact hg.is) (by rw[hg.n,hY.kn];exact TZ)) ?_
   ·obtain⟨q1,q2,q3⟩:=hY.each j q u hq hu
    have QW:live K.N q:=q3.elim (fun q3=>.inl q3.1) (hlv q)
    rw[hg.n,hY.kn]
    exact⟨q1,by rw[q2,hg.fn q QW],iU hg.N QW⟩
   rintro w H ⟨rfl,GA,DJ,J4,J0,rfl,N9,Lh⟩
   rw[hg.n,hY.kn]at Lh
   refine Un.not (ay.mk ?_)
   refine JE.mk (Vo _ _ fun gs=>Br.no ?_)
   refine aa.inc ?_
   exact aq.of (H':=c1::eW pp kp mp GA DJ::(J4++(J0++(Gs++C5)))) .tail ⟨i+1,GA,DJ,K3,S3,_,refs++[r],ts++[t],Gs,C5,J4,J0,rfl,hlt,rfl,hY.add hn.2 js Gi nY hg hfit zn oR sP N9 Lh,OW oR sP hin⟩ (by simp only[aT];omega)
  ·rw[hY.mn,hY.mc,hY.mo]at hfit
   rcases MZ with⟨_,_,h⟩|⟨rfl,hk,_⟩
   ·exact absurd h hfit
   refine aa.oW (aa.oW (aa.KO (Br.no ?_)))
   intro Z6 Vo
   refine aa.oW (Split.KJ rfl (ay.mk ?_))
   refine JE.mk (Vo _ _ fun gs=>Br.no ?_)
   refine aa.inc ?_
   exact aq.of .tail ⟨i+1,vr,vt,K3,S3,M,refs,ts,Gs,C5,CR,CS,rfl,hlt,rfl,hY.skip js nY hk hfit,hin⟩ (by simp only[aT];omega)
 obtain rfl:i=L.length:=by omega
 subst yu
 refine Ld.f ?_
 have hsc:Sc n c (List.range n) [] Y kp mp vr vt K S M refs ts HM CR CS:={kn:=hY.kn,kc:=hY.kc,md:=hY.md,mn:=hY.mn,mc:=hY.mc,mo:=hY.mo,mt:=hY.mt,tu:=hY.tu,hl:=by have:=hY.hl;omega,ec:=fun e he=>by have:=hY.ec e he;omega,rf:=hY.rf,tw:=hY.tw,len:=hY.len,rl:=by have:=hY.rl;omega,each:=hY.each,hin:=hin}
 have Gm:=hY.ks.aZ
 refine hv.aL ?_
 refine⟨fun vs H=>∃(k:Nat) (ord tr:List Nat) (M:Md) (HM C:Hp),vs=[.int .i64 (k:Int)]∧k≤wC.length∧H=(b1,Obj.cells #[.int .i64 (n:Int),.int .i64 (c:Int),vl,vv] 62 (0,0))::eW pp kp mp vr vt::(CR++(CS++(HM++C)))∧Sc n c ord tr Y kp mp vr vt K S M refs ts HM CR CS∧At kp K S ord tr C∧ord.Perm (List.range n)∧tr.length≤k,
  fun vs _=>wC.length-aT vs 0,JE.mk ⟨0,List.range n,[],M,HM,C,rfl,Nat.zero_le _,rfl,hsc,Gm,hr,Nat.le_refl _⟩,?_⟩
 clear hsc Gm hY tQ
 rintro w73 H ⟨k,ord,tr,M,HM,C,⟨⟩,hk,rfl,hsc,hA,hp,lH⟩ gs
 show aa .num .lss (.int .i64 (k:Int)) (.int .i64 ((wC.length:Nat):Int)) _
 refine aa.cZ (Br.dec (fun hlt=>?_) (fun hge=>?_))
 rotate_left
 ·exact bN.mk .tail ⟨pp,kp,mp,vr,vt,K,S,ord,tr,M,refs,ts,HM,CR,CS,C,rfl,rfl,hsc,hA,hp,by omega⟩
 have tQ:=hsc.I3 hn.2 hc.2 hp (by omega)
 have OH:∀x∈Y,x∈(b1,Obj.cells #[.int .i64 (n:Int),.int .i64 (c:Int),vl,vv] 62 (0,0))::eW pp kp mp vr vt::(CR++(CS++(HM++C))):=fun x hx=>.tail _ (.tail _ (List.mem_append_right _ (List.mem_append_right _ (List.mem_append_left _ (hsc.md.sub _ hx)))))
 refine hv.ld (List.getElem?_eq_getElem hlt) OH ?_
 generalize wC[k]=l at*
 refine DR.of (R:=[eW pp kp mp vr vt]) (.skip (.cons aJ.nil)) ?_
 refine Ld.n ?_
 intro F81
 by_cases hin:0≤l∧l+1<n
 ·obtain⟨m,rfl⟩:∃m:Nat,l=m:=⟨l.toNat,by omega⟩
  have hm:m+1<n:=by omega
  have Ov:=hsc.fit hn.2 hp hm
  by_cases EC:jV K S ord m
  ·refine ae.fn (.cons (.cons (.app (.app (.app .here))))) (Dp hA (by rw[hsc.kn];exact hm) (by omega) EC) ?_
   rintro w C2 ⟨rfl,RX⟩
   refine⟨.skip (.cons aJ.nil),?_⟩
   intro VE
   refine ae.fn (.cons (.cons (.app (.app .left)))) (xI hsc.md tQ (by rw[hsc.mn];exact hm) (Ov.1 EC)) ?_
   rintro w Gs ⟨rfl,zn⟩
   refine aa.fZ (Br.F ?_)
   refine aa.inc ?_
   exact aq.mk ⟨k+1,dQ ord m,tr++[m],_,Gs,C2,rfl,hlt,rfl,{hsc with md:=zn,mo:=by show dQ M.ord m=_;rw[hsc.mo],mt:=by show M.tr++[m]=_;rw[hsc.mt]},RX,(qt (by rw[(bT hp).1];exact hm)).trans hp,by simp;omega⟩ (by simp only[aT];omega)
  ·refine ae.eh (.cons (.cons (.app (.app (.app .here))))) (rZ hA (by rw[hsc.kn];exact hm) (by omega) EC) ?_
   refine⟨.skip (.cons aJ.nil),?_⟩
   intro VE
   refine ae.eh (.cons (.cons (.app (.app .left)))) (xJ hsc.md.rd tQ (by rw[hsc.mn];exact hm) (by have:=mt Ov.2 EC;omega)) ?_
   refine aa.fZ (Br.F ?_)
   refine aa.inc ?_
   exact aq.mk ⟨k+1,ord,tr,M,HM,C,rfl,hlt,rfl,hsc,hA,hp,by omega⟩ (by simp only[aT];omega)
 ·refine ae.eh (.cons (.cons (.app (.app (.app .here))))) (x5 hA (by rw[hsc.kn];exact hin)) ?_
  refine⟨.skip (.cons aJ.nil),?_⟩
  intro VE
  refine ae.eh (.cons (.cons (.app (.app .left)))) (EN hsc.md.rd (by rw[hsc.mn];omega) (by rw[hsc.mn];exact hin)) ?_
  refine aa.fZ (Br.F ?_)
  refine aa.inc ?_
  exact aq.mk ⟨k+1,ord,tr,M,HM,C,rfl,hlt,rfl,hsc,hA,hp,by omega⟩ (by simp only[aT];omega)
end
end Go.Proofs
set_option maxRecDepth 100000
namespace Go.Proofs
open Go Go.Sx
theorem vI{n:Nat}(hn:n≤16)(B:Hp):Rd Tryz.prog 254 #[.int .i64 (n:Int)] B (· =.int .i64 ((af.wN n:Nat):Int)):=by
 refine aW fun g=>Aw ?_
 have h1:1<<<n≤65536:=by rw[Nat.one_shiftLeft];exact Nat.pow_le_pow_right (n:=2) (by decide) hn
 refine aa.kf (a:=1) (b:=n) (by simp[IntKind.bits];omega) (by simp[aY];omega) ?_
 refine aa.fD (b:=6) (by simp[aY];omega) ?_
 refine⟨_,_,_,rfl,rfl,?_⟩
 refine bK.mk (.refl _) ?_
 have:1<<<n>>>6=2^n/64:=by rw[Nat.one_shiftLeft,Nat.shiftRight_eq_div_pow]
 rw[this]
 congr 1
 unfold af.wN
 rw[Nat.max_def]
 split<;>split<;>omega
theorem Dc{n:Nat}(hn:n≤16)(B:Hp):Rd Tryz.prog 255 #[.int .i64 (n:Int)] B (· =.int .u64 ((af.bQ n:Nat):Int)):=by
 refine aW fun g=>Av ?_
 refine aa.m0 (a:=n) (b:=6) (Br.dec (fun h=>?_) (fun h=>?_))
 ·exact bK.mk (.refl _) (by unfold af.bQ;rw[if_pos h];rfl)
 ·have h1:2^n≤32:=Nat.pow_le_pow_right (n:=2) (by decide) (by omega:n≤5)
  have h2:2^2^n≤2^32:=Nat.pow_le_pow_right (by decide) h1
  have h3:=Nat.two_pow_pos (2^n)
  refine aa.nF (a:=1) (b:=n) ?_
  rw[Nat.one_shiftLeft,Nat.mod_eq_of_lt (by omega)]
  refine aa.nF (a:=1) ?_
  rw[Nat.one_shiftLeft,Nat.mod_eq_of_lt (by omega)]
  refine aa.bX (b:=1) ?_
  exact bK.mk (.refl _) (by unfold af.bQ;rw[if_neg h])
theorem El{n:Nat}{ws:List Nat}(hn:n≤16)(hl:ws.length=af.wN n)(hw:∀w∈ws,w<18446744073709551616){w:Nat}(hg:ws[ws.length-1]? =some w):
  (jL w (af.bQ n)=0)↔af.bO n ws:=by
 have key:∀w,w<18446744073709551616→(jL w (af.bQ n)=0↔w≤af.bQ n):=by
  intro w hw
  constructor
  ·intro h
   have:w&&&af.bQ n=w:=by
    apply Nat.eq_of_testBit_eq;intro j
    have:=congrArg (fun x=>x.testBit j) h
    simp only[cD,Nat.zero_testBit]at this
    rw[Nat.testBit_and]
    cases h1:w.testBit j<;>cases h2:(af.bQ n).testBit j<;>simp_all
   rw[←this];exact Nat.and_le_right
  ·intro h
   have:=af.kO h
   unfold jL;rw[this,Nat.xor_self]
 constructor
 ·intro h
  refine⟨hn,hl,fun u hu=>?_⟩
  by_cases h6:6≤n
  ·unfold af.bQ;rw[if_pos h6];have:=hw u hu;omega
  ·have h1:ws.length=1:=by rw[hl,af.qk (by omega)]
   obtain⟨x,rfl⟩:=List.length_eq_one_iff.1 h1
   simp at hg hu
   subst hg;subst hu
   exact(key _ (hw _ (by simp))).1 h
 ·intro h
  exact(key w (hw w (List.mem_of_getElem? hg))).2 (h.full w (List.mem_of_getElem? hg))
theorem xz{B:Hp}{v:Value}{t:Tb}(ht:iL B v t):Rd Tryz.prog 232 #[v] B (· =.bool (decide (TF t))):=by
 obtain⟨tn,ws⟩:=t
 obtain⟨s,rfl,hs,hw⟩:=ht
 simp only at hs hw⊢
 refine aW fun g=>AH ?_
 intro b1 _ J hJ
 have hno:¬TF ⟨tn,ws⟩→JE J [.bool true] ((b1,.cells (Value.cells (.agg #[.int .i64 tn,s])) 57 (0,0))::B):=fun h=>
  JE.mk (hJ _ _ fun gs=>Br.yes (bK.mk .tail (by rw[decide_eq_false h])))
 refine DR.self ?_
 refine ag.mk (Ld.mk zM rfl ?_)
 refine aa.lss (Br.dec (fun h0=>hno fun h=>by have:=h.1;simp only at this;omega) (fun h0=>?_))
 obtain⟨n,rfl⟩:∃n:Nat,tn=n:=⟨tn.toNat,by omega⟩
 have OK:TF ⟨(n:Int),ws⟩↔af.bO n ws:=by unfold TF;simp
 refine ag.mk (Ld.mk zM rfl ?_)
 refine aa.jb (b:=16) (ay.mk (Br.dec (fun h1=>hno fun h=>by have:=(OK.1 h).jz;omega) (fun h1=>?_)))
 refine ag.mk (Ld.mk zM rfl ?_)
 refine hs.aL ?_
 refine ag.mk (Ld.mk zM rfl ?_)
 intro F
 refine ae.eq (vI (by omega) B) ?_
 refine⟨(by repeat (first|exact aJ.refl _|apply aJ.cons|apply aJ.skip|apply aJ.cv|apply aJ.bJ)),?_⟩
 rw[ah]
 refine aa.l6 (ay.mk ?_)
 simp only[cond_false]
 by_cases hl:ws.length=af.wN n
 case neg=>rw[show decide (ws.length≠af.wN n)=true by simp[hl]];exact hno fun h=>hl (OK.1 h).len
 rw[show decide (ws.length≠af.wN n)=false by simp[hl]]
 refine JE.mk (hJ _ _ fun gs=>Br.no ?_)
 have hpos:=af.yC n
 obtain⟨w,hg⟩:∃w,ws[ws.length-1]? =some w:=⟨_,List.getElem?_eq_getElem (by omega)⟩
 refine DR.self ?_
 refine ag.mk (Ld.mk zM rfl ?_)
 refine ag.mk (Ld.mk zM rfl ?_)
 refine hs.aL ?_
 rw[ah]
 refine aa.qv (b:=1) (by have:=af.pn (n:=n) (by omega);simp[aY];omega) (by omega) ?_
 refine hs.ld (bR hg) zS ?_
 refine ag.mk (Ld.mk zM rfl ?_)
 refine ae.eq (Dc (by omega) B) ?_
 refine⟨(by repeat (first|exact aJ.refl _|apply aJ.cons|apply aJ.skip|apply aJ.cv|apply aJ.bJ)),?_⟩
 refine aa.x7 (by have:=hw w (List.mem_of_getElem? hg);simpa[aY]using this) (by have:=af.n3 n;simpa[aY]using this) ?_
 refine aa.iK (b:=0) ?_
 refine bK.mk .tail ?_
 congr 1
 exact decide_eq_decide.2 ((El (by omega) hl hw hg).trans OK.symm)
theorem rJ{B:Hp}{v:Value}{ts:List Tb}(ht:bV B v ts)(aV:ts.length<2^62):Rd Tryz.prog 220 #[v] B (· =.bool (decide (∀t∈ts,TF t∧some t.n=ts.head?.map Tb.n))):=by
 refine aW fun g=>AT ?_
 refine ht.aL ?_
 refine⟨fun vs H=>aG B H∧∃k:Nat,vs=[.int .i64 (k:Int)]∧k≤ts.length∧∀i t,i<k→ts[i]? =some t→TF t∧some t.n=ts.head?.map Tb.n,fun vs _=>ts.length-aT vs 0,JE.mk ⟨.refl _,0,rfl,by omega,by omega⟩,?_⟩
 rintro w H ⟨hg,k,⟨⟩,hk,aB⟩ gs
 refine aa.cZ (Br.dec (fun hlt=>?_) (fun hlt=>?_))
 ·obtain⟨t,js⟩:∃t,ts[k]? =some t:=⟨_,List.getElem?_eq_getElem hlt⟩
  obtain⟨t0,wQ⟩:∃t,ts[0]? =some t:=⟨_,List.getElem?_eq_getElem (by omega)⟩
  have hh:ts.head?.map Tb.n=some t0.n:=by rw[List.head?_eq_getElem?,wQ];rfl
  have CV:=ht.mono hg.sub
  refine CV.ld js (fun _ h=>h) fun s hs=>?_
  intro b1 _
  refine St.p ?_ ?_
  ·obtain⟨a,c,rfl,_⟩:=hs.1.shape;simp[Value.oneCell']
  intro J hJ
  have hno:∀H',aG B H'→¬(TF t∧some t.n=ts.head?.map Tb.n)→JE J [.bool true] H':=fun H' IA h=>
   JE.mk (hJ _ _ fun gs=>Br.yes (bK.mk IA.nr (by rw[decide_eq_false];exact fun hh=>h (hh t (List.mem_of_getElem? js)))))
  have yq:aG B ((b1,Obj.cells (List.toArray [.int .i64 t.n,s]) 57 (0,0))::H):=.cons hg
  refine DR.self ?_
  refine av.q ?_
  intro F
  refine ae.eq (B:=H) (xz ⟨s,rfl,hs⟩) ?_
  refine⟨.refl _,Un.not ?_⟩
  by_cases hT:TF t
  case neg=>rw[decide_eq_false hT];exact Br.yes (hno _ yq fun h=>hT h.1)
  rw[decide_eq_true hT]
  refine Br.no ?_
  refine ag.mk (Ld.mk zM rfl ?_)
  refine CV.NO wQ zS ?_
  refine aa.fZ (ay.mk ?_)
  simp only[cond_false]
  by_cases hn:t.n=t0.n
  case neg=>rw[decide_eq_true hn];exact hno _ yq fun h=>hn (by have:=h.2;rw[hh]at this;simpa using this)
  rw[decide_eq_false (by simpa using hn)]
  refine JE.mk (hJ _ _ fun gs=>Br.no ?_)
  refine aa.inc ?_
  refine aq.mk ⟨yq,k+1,rfl,by omega,fun i u hi hu=>?_⟩ (by simp[aT];omega)
  by_cases e:i=k
  ·subst e;rw[js]at hu;cases hu;exact⟨hT,by rw[hh,hn]⟩
  ·exact aB i u (by omega) hu
 ·refine bK.mk hg.nr ?_
  rw[decide_eq_true]
  intro t N6
  obtain⟨i,hi,rfl⟩:=List.mem_iff_getElem.1 N6
  exact aB i _ (by omega) (List.getElem?_eq_getElem hi)
theorem rK{B:Hp}{b:Nat}{t:Tb}{s:Value}{T:TypeId}{fz:Nat×Nat}(hm:(b,Obj.cells #[.int .i64 t.n,s] T fz)∈B)(hw:Words B s t.ws):
  Rd Tryz.prog 220 #[.slice (some ⟨b,0,none⟩) 1 1] B (· =.bool (decide (TF t))):=
 (rJ (bV.one (cap:=0) hm hw) (by simp)).mono fun v H ⟨h1,h2⟩=>⟨h1,by rw[h2];congr 1;simp⟩
theorem P7{B:Hp}{v:Value}{t:Tb}(ht:iL B v t)(u:Int):Rd Tryz.prog 214 #[v,.int .i64 u] B (· =.int .i64 (if TF t then(if 0≤u∧u<t.n then 0 else 2)else 5)):=by
 obtain⟨s,rfl,hw⟩:=ht
 refine aW fun g=>AY ?_
 intro b1 _
 refine av.q ?_
 refine dW fun b2=>?_
 refine ae.rd .here (rK (by exact List.Mem.head _) (hw.mono zS)) ?_
 rintro v rfl
 refine Un.not ?_
 by_cases hT:TF t
 ·rw[decide_eq_true hT,if_pos hT]
  refine Br.no (aa.lss ?_)
  refine dO.or (decide (t.n≤u)) (fun h=>?_) rfl ?_
  ·refine ag.mk (Ld.mk zM rfl ?_)
   exact aa.geq ⟨rfl,rfl⟩
  ·intro gs
   have Yx:(decide (u<0)||decide (t.n≤u))=decide (¬(0≤u∧u<t.n)):=by
    by_cases h1:u<0<;>by_cases h2:t.n≤u<;>simp[h1,h2]<;>omega
   rw[Yx]
   refine Br.dec (fun h=>?_) (fun h=>?_)
   ·exact bK.mk (by repeat (first|exact aJ.refl _|apply aJ.cons|apply aJ.skip|apply aJ.cv|apply aJ.bJ)) (by rw[if_neg h])
   ·exact bK.mk (by repeat (first|exact aJ.refl _|apply aJ.cons|apply aJ.skip|apply aJ.cv|apply aJ.bJ)) (by rw[if_pos (Classical.not_not.1 h)])
 ·rw[decide_eq_false hT,if_neg hT]
  exact Br.yes (bK.mk (by repeat (first|exact aJ.refl _|apply aJ.cons|apply aJ.skip|apply aJ.cv|apply aJ.bJ)) rfl)
theorem ua{u i:Nat}(hu:u<64)(hi:i<18446744073709551616)(mr:i<9223372036854775808)(B:Hp):Rd Tryz.prog 219 #[.int .i64 (u:Int),.int .i64 (i:Int)] B
  (· =.int .u64 ((if 6≤u then(if(i>>>(u-6)).testBit 0 then 18446744073709551615 else 0)else af.mask u:Nat):Int)):=by
 refine aW fun g=>AU ?_
 refine aa.m0 (a:=u) (b:=6) (Br.dec (fun h=>?_) (fun h=>?_))
 ·refine bf.nat (by simpa[aY]using hi) ?_
  refine aa.qv (b:=6) (by simp[aY];omega) h ?_
  refine aa.fD (by simpa[aY]using hi) ?_
  have hs:i>>>(u-6)<18446744073709551616:=Nat.lt_of_le_of_lt (Nat.shiftRight_le _ _) hi
  refine aa.gY (b:=1) (by simpa[aY]using hs) (by decide) ?_
  refine Un.TJ (by rw[af.dY];split<;>decide) ?_
  refine bK.mk (.refl _) ?_
  rw[if_pos h,af.dY]
  split<;>rfl
 ·refine⟨fun vs H=>H=B∧∃j:Nat,vs=[.int .u64 ((af.vj u j:Nat):Int),.int .i64 (j:Int)]∧j≤64,fun vs _=>64-aT vs 1,JE.mk ⟨rfl,0,rfl,by omega⟩,?_⟩
  rintro w1 w2 H ⟨rfl,j,⟨⟩,hj⟩ gs
  refine aa.cZ (b:=64) (Br.dec (fun hlt=>?_) (fun hlt=>?_))
  ·refine aa.fD (by simp[aY];omega) ?_
   have hs:j>>>u<64:=Nat.lt_of_le_of_lt (Nat.shiftRight_le _ _) hlt
   refine aa.gY (b:=1) (by simp[aY];omega) (by decide) ?_
   have h1:j>>>u&&&1≤1:=by rw[af.dY];split<;>decide
   refine bf.q ?_
   refine aa.nF ?_
   have h2:((j>>>u&&&1)<<<j)<18446744073709551616:=by
    rw[Nat.shiftLeft_eq]
    calc _≤1*2^j:=Nat.mul_le_mul_right _ h1
     _<2^64:=by rw[Nat.one_mul];exact Nat.pow_lt_pow_right (by decide) hlt
   rw[Nat.mod_eq_of_lt h2]
   have h3:af.vj u j<18446744073709551616:=Nat.lt_of_lt_of_le (af.vi u j) (Nat.pow_le_pow_right (n:=2) (by decide) hj)
   refine aa.yP (by simpa[aY]using h3) (by simpa[aY]using h2) ?_
   refine aa.inc ?_
   exact aq.mk ⟨rfl,j+1,rfl,by omega⟩ (by simp[aT];omega)
  ·have:j=64:=by omega
   subst this
   exact bK.mk (.refl _) (by rw[if_neg h];rfl)
theorem nT{n:Nat}(hn:n≤16){fv:Value}{f:FuncId}{first cap:Array Value}(Ra:fv=.func (.func f) first cap)(jt:cC Tryz.prog f=true){F:Nat→Nat}(hF:∀i,i<af.wN n→F i<18446744073709551616){B:Hp}
 (hc:∀i:Nat,i<af.wN n→Rd Tryz.prog f (first++ #[.int .i64 (i:Int)]++cap) B (· =.int .u64 ((F i:Nat):Int))):
  Px Tryz.prog 212 #[.int .i64 (n:Int),fv] B (fun v H=>iL H v ⟨n,(List.range (af.wN n)).map fun i=>F i&&&af.bQ n⟩):=by
 intro g
 have NX:=af.pn hn
 refine A1 (R:=bN _) ?_
 unfold L212
 intro b1 _
 refine ae.eq (vI hn B) ?_
 refine br.ints (fu hn).1 (fu hn).2 fun bw=>?_
 refine Build.mk (cs:=[.int .i64 (n:Int),.slice (some ⟨bw,0,none⟩) (af.wN n) (af.wN n)]) (by kernel_rfl) ?_
 intro b8 _
 refine St.q ?_
 refine ag.mk (Ld.mk zM rfl ?_)
 refine aA.mk ?_
 rw[range_zero (G:=fun i=>F i&&&af.bQ n)]
 refine⟨fun vs H=>∃i:Nat,vs=[.int .i64 (i:Int)]∧i≤af.wN n∧H=(b8,.cells (List.toArray [.int .i64 (n:Int),.slice (some ⟨bw,0,none⟩) (af.wN n) (af.wN n)]) 57 (0,0))::
   (bw,.cells (az .u64 (iw ((List.range (af.wN n)).map fun k=>if k<i then F k&&&af.bQ n else 0))) 50 (0,0))::(b1,.cells #[.int .i64 0,.slice none 0 0] 57 (0,0))::B,
  fun vs _=>af.wN n-aT vs 0,JE.mk ⟨0,rfl,by omega,rfl⟩,?_⟩
 rintro w H ⟨i,⟨⟩,hi,rfl⟩ gs
 refine aa.cZ (Br.dec (fun hlt=>?_) (fun hlt=>?_))
 ·refine DR.self ?_
  refine ag.mk (Ld.mk zM rfl ?_)
  refine gk.of Ra jt ?_
  refine ae.eq (hc i hlt) ?_
  refine⟨.refl _,?_⟩
  refine ae.eq (Dc hn B) ?_
  refine⟨.refl _,?_⟩
  refine aa.gY (by simpa[aY]using hF i hlt) (by simpa[aY]using af.n3 n) ?_
  refine aj.nat hlt ?_
  refine St.ints (l:=iw _) (by exact .tail (.head _)) (by simpa using hlt) ?_
  refine aa.inc ?_
  rw[tq hlt]
  exact aq.mk ⟨i+1,rfl,by omega,rfl⟩ (by simp[aT];omega)
 ·have:i=af.wN n:=by omega
  subst this
  rw[qH]
  refine av.q ?_
  refine St.q ?_
  refine av.q ?_
  refine jS.mk (by repeat (first|exact aG.refl _|apply aG.cons|apply aG.app)) ⟨_,rfl,?_⟩
  have:=Words.block (b:=bw) (cap:=af.wN n) (ws:=(List.range (af.wN n)).map fun i=>F i&&&af.bQ n) (T:=50) (fz:=(0,0)) (B:=(b8,.cells (List.toArray [.int .i64 (n:Int),.slice (some ⟨bw,0,none⟩) (af.wN n) (af.wN n)]) 57 (0,0))::
   (bw,.cells (az .u64 (iw ((List.range (af.wN n)).map fun i=>F i&&&af.bQ n))) 50 (0,0))::(b1,.cells (List.toArray [.int .i64 (n:Int),.slice (some ⟨bw,0,none⟩) (af.wN n) (af.wN n)]) 57 (0,0))::B) (by exact .tail _ (.head _)) (by simp) (fun w hw=>by
    obtain⟨k,_,rfl⟩:=List.mem_map.1 hw
    exact Nat.lt_of_le_of_lt Nat.and_le_right (af.n3 n))
  simpa using this
theorem IM{B:Hp}{pv pb pa s:Value}{u n i:Nat}{c:Bool}{ws:List Nat}(hv:Go.Sx.At B pv [.int .i64 (u:Int)])(hb:Go.Sx.At B pb [.bool c])(ha:Go.Sx.At B pa [.int .i64 (n:Int),s])(hw:Words B s ws)(hf:af.bO n ws)(hu:u<n)(hi:i<af.wN n):
  Rd Tryz.prog 256 #[.int .i64 (i:Int),pv,pb,pa] B (· =.int .u64 ((af.cV ws u c i:Nat):Int)):=by
 intro g
 have hn:=hf.jz
 have NX:=af.pn hn
 refine Au (R:=bN _) ?_
 unfold L256
 refine Ld.at hv (fun _ h=>h) ?_
 refine aa.m0 (a:=u) (b:=6) (Br.dec (fun h6=>?_) (fun h6=>?_))
 ·have hp:2^(u-6)≤1024:=Nat.pow_le_pow_right (n:=2) (by decide) (by omega:u-6≤10)
  refine Ld.at hv (fun _ h=>h) ?_
  refine aa.qv (b:=6) (by simp[aY];omega) h6 ?_
  refine aa.kf (a:=1) (by simp[IntKind.bits];omega) (by rw[Nat.one_shiftLeft];simp[aY];omega) ?_
  rw[Nat.one_shiftLeft]
  refine aa.x7 (by simp[aY];omega) (by simp[aY];omega) ?_
  have hand:=iB i (2^(u-6))
  intro J hJ
  have rh:af.au i (u-6) c<af.wN n:=by
   rw[af.ql (by omega)]at hi⊢
   exact af.dc hi (by omega)
  have dH:JE J [.int .i64 ((af.au i (u-6) c:Nat):Int)] B:=by
   refine JE.mk (hJ _ _ fun gs=>?_)
   refine ag.at ha fun q hq=>Ld.at hq (fun _ h=>h) ?_
   have hg:ws[af.au i (u-6) c]? =some (ws.getD (af.au i (u-6) c) 0):=by rw[List.getElem?_eq_getElem (by rw[hf.len];exact rh),List.getD_eq_getElem?_getD,List.getElem?_eq_getElem (by rw[hf.len];exact rh)];rfl
   refine hw.1.ld (bR hg) (fun _ h=>h) ?_
   exact bK.mk (.refl _) (by unfold af.cV;rw[if_pos h6])
  refine Ld.at hb (fun _ h=>h) ?_
  cases c
  ·exact Br.no dH
  ·refine Br.yes ?_
   refine Ld.at hv (fun _ h=>h) ?_
   refine aa.qv (b:=6) (by simp[aY];omega) h6 ?_
   refine aa.kf (a:=1) (by simp[IntKind.bits];omega) (by rw[Nat.one_shiftLeft];simp[aY];omega) ?_
   rw[Nat.one_shiftLeft]
   refine aa.yP (by simp[aY];omega) (by simp[aY];omega) ?_
   have e:jL i (2^(u-6))|||2^(u-6)=af.au i (u-6) true:=by
    apply Nat.eq_of_testBit_eq;intro k
    rw[Nat.testBit_or,cD,af.ai,Nat.testBit_two_pow]
    by_cases e:k=u-6
    ·simp[e]
    ·simp[e,Ne.symm e]
   rw[e];exact dH
 ·have hp:2^u≤32:=Nat.pow_le_pow_right (n:=2) (by decide) (by omega:u≤5)
  have hg:ws[i]? =some (ws.getD i 0):=by rw[List.getElem?_eq_getElem (by rw[hf.len];exact hi),List.getD_eq_getElem?_getD,List.getElem?_eq_getElem (by rw[hf.len];exact hi)];rfl
  have JN:=hw.2 _ (List.mem_of_getElem? hg)
  have hm:=af.p8 u
  refine DR.self ?_
  refine Ld.at hv (fun _ h=>h) (Ld.at hv (fun _ h=>h) ?_)
  refine aa.kf (a:=1) (b:=u) (by simp[IntKind.bits];omega) (by rw[Nat.one_shiftLeft];simp[aY];omega) ?_
  rw[Nat.one_shiftLeft]
  refine ae.eq (ua (u:=u) (i:=0) (by omega) (by omega) (by omega) B) ?_
  rw[if_neg h6]
  refine⟨.refl _,?_⟩
  refine Ld.at hb (fun _ h=>h) ?_
  cases c
  ·refine Br.no ?_
   refine ag.at ha fun q hq=>Ld.at hq (fun _ h=>h) ?_
   refine hw.1.ld (bR hg) (fun _ h=>h) ?_
   refine aa.x7 (by simpa[aY]using JN) (by simpa[aY]using hm) ?_
   refine aa.nF ?_
   have:=iB (ws.getD i 0) (af.mask u)
   refine aa.yP (by simp only[aY];omega) (by simp only[aY];omega) ?_
   exact bK.mk (.refl _) (by unfold af.cV;rw[if_neg h6];rfl)
  ·refine Br.yes ?_
   refine ag.at ha fun q hq=>Ld.at hq (fun _ h=>h) ?_
   refine hw.1.ld (bR hg) (fun _ h=>h) ?_
   refine aa.gY (by simpa[aY]using JN) (by simpa[aY]using hm) ?_
   have h1:ws.getD i 0&&&af.mask u≤ws.getD i 0:=Nat.and_le_left
   refine aa.fD (by simp only[aY];omega) ?_
   have h2:=Nat.shiftRight_le (ws.getD i 0&&&af.mask u) (2^u)
   refine aa.yP (by simp only[aY];omega) (by simp only[aY];omega) ?_
   exact bK.mk (.refl _) (by unfold af.cV;rw[if_neg h6];rfl)
theorem uZ{B:Hp}{v:Value}{n u:Nat}{ws:List Nat}{c:Bool}(ht:iL B v ⟨n,ws⟩)(hf:af.bO n ws)(hu:u<n):
  Px Tryz.prog 215 #[v,.int .i64 (u:Int),.bool c] B (fun v H=>iL H v ⟨n,af.dj n ws u c⟩):=by
 obtain⟨s,rfl,hw⟩:=ht
 refine aW fun g=>AX ?_
 intro b1 _ b3 _ b5 _ b7 _
 refine ag.mk (Ld.mk zM rfl ?_)
 refine ae.px (.cons .here) (nT hf.jz rfl (by kernel_rfl) (F:=fun i=>af.cV ws u c i) (fun i hi=>?_) (fun i hi=>?_)) ?_
 ·unfold af.cV
  split
  ·by_cases h:af.au i (u-6) c<ws.length
   ·rw[List.getD_eq_getElem?_getD,List.getElem?_eq_getElem h];exact hf.lt (List.getElem_mem h)
   ·rw[List.getD_eq_getElem?_getD,List.getElem?_eq_none (by omega)];decide
  ·have hg:ws.getD i 0<2^64:=by rw[List.getD_eq_getElem?_getD,List.getElem?_eq_getElem (by rw[hf.len];exact hi)];exact hf.lt (List.getElem_mem _)
   split
   ·refine Nat.or_lt_two_pow (n:=64) (Nat.lt_of_le_of_lt Nat.and_le_left hg) (Nat.lt_of_le_of_lt (Nat.shiftRight_le _ _) (Nat.lt_of_le_of_lt Nat.and_le_left hg))
   ·exact Nat.or_lt_two_pow (n:=64) (Nat.lt_of_le_of_lt (iB _ _) hg) (Nat.mod_lt _ (by decide))
 ·exact IM (Go.Sx.At.block (l:=[.int .i64 (u:Int)]) zM) (Go.Sx.At.block (l:=[.bool c]) zM) (Go.Sx.At.block (l:=[.int .i64 (n:Int),s]) zM) (hw.mono zS) hf hu hi
 ·rintro v N ⟨s',rfl,cR⟩
  refine St.p ?_ ?_
  ·have:=ax cR;simpa[Value.oneCell']using this
  refine av.q ?_
  exact jS.mk (by repeat (first|exact aG.refl _|apply aG.cons|apply aG.app)) ⟨s',rfl,cR.mono zS⟩
theorem Ck{B:Hp}{v:Value}{n u:Nat}{ws:List Nat}{c:Bool}(ht:iL B v ⟨n,ws⟩)(hf:af.bO n ws)(hu:u<n):
  Px Tryz.prog 148 #[v,.int .i64 (u:Int),.bool c] B (fun r H=>∃v',r=.tuple #[v',.int .i64 0]∧iL H v' ⟨n,af.dj n ws u c⟩):=by
 obtain⟨s,rfl,hw⟩:=ht
 refine aW fun g=>BN ?_
 intro b1 _ b3 _
 refine av.q ?_
 refine ae.eq (P7 (t:=⟨n,ws⟩) ⟨s,rfl,hw.mono zS⟩ (u:Int)) ?_
 rw[if_pos (show TF ⟨(n:Int),ws⟩from⟨by simp,by simpa using hf⟩),if_pos ⟨by omega,by simp only;omega⟩]
 refine aa.fZ (Br.F ?_)
 refine av.q ?_
 refine ae.pq (uZ (v:=.agg (List.toArray [.int .i64 (n:Int),s])) ⟨s,rfl,hw.mono zS⟩ hf hu) ?_
 rintro v N ⟨s',rfl,cR⟩
 refine St.p ?_ ?_
 ·have:=ax cR;simpa[Value.oneCell']using this
 refine av.q ?_
 exact jS.mk (by repeat (first|exact aG.refl _|apply aG.cons|apply aG.app)) ⟨_,rfl,s',rfl,cR.mono zS⟩
theorem xX{w j:Nat}(hj:j<8):((List.range (j+1)).map fun i=>UInt8.ofNat (w>>>(8*i)))=((List.range j).map fun i=>UInt8.ofNat (w>>>(8*i)))++[UInt8.ofNat (w>>>(8*j))]:=by
 rw[List.range_succ,List.map_append];rfl
theorem E4(l:List UInt8)(n:Nat):o6 (l++[UInt8.ofNat n])=o6 l++[[Value.int .u8 ((n%256:Nat):Int)]]:=by
 simp[o6]
theorem y3{B:Hp}{v:Value}{t:Tb}(ht:iL B v t)(hl:t.ws.length≤4294967296):Rd Tryz.prog 234 #[v] B (· =uA (af.fx t.ws)):=by
 obtain⟨s,rfl,hw⟩:=ht
 refine aW fun g=>AE ?_
 intro b1 _
 refine ag.mk (Ld.mk zM rfl ?_)
 refine hw.1.aL ?_
 rw[ah]
 refine⟨fun vs H=>∃(k:Nat) (v:Value) (C:Hp),vs=[v,.int .i64 (k:Int)]∧k≤t.ws.length∧H=C++B∧aO 5 1 v (o6 (af.fx (t.ws.take k))) C,fun vs _=>t.ws.length-aT vs 1,
  JE.of (.tail) ⟨0,_,[],rfl,by omega,rfl,aO.nil _ _⟩,?_⟩
 rintro w6 w7 H ⟨k,v,C,⟨⟩,hk,rfl,ho⟩ gs
 refine aa.cZ (Br.dec (fun hlt=>?_) (fun hlt=>?_))
 ·have hg:t.ws[k]? =some t.ws[k]:=List.getElem?_eq_getElem hlt
  have hwk:=hw.2 _ (List.getElem_mem hlt)
  refine hw.1.ld (bR hg) zS ?_
  have hlen:(o6 (af.fx (t.ws.take k))).length=8*k:=by simp only[o6,List.length_map,af.pF,List.length_take];omega
  refine⟨fun vs H=>∃(j:Nat) (v:Value) (C:Hp),vs=[v,.int .i64 (j:Int)]∧j≤8∧H=C++B∧aO 5 1 v (o6 (af.fx (t.ws.take k)++(List.range j).map fun i=>UInt8.ofNat (t.ws[k]>>>(8*i)))) C,fun vs _=>8-aT vs 1,
   JE.mk ⟨0,_,C,rfl,by omega,rfl,by simpa using ho⟩,?_⟩
  rintro w8 w9 H ⟨j,v,C,⟨⟩,hj,rfl,ho⟩ gs
  refine aa.cZ (b:=8) (Br.dec (fun h8=>?_) (fun h8=>?_))
  ·refine aa.wq (a:=8) ?_
   refine aa.fD (by simpa[aY]using hwk) ?_
   refine bf.Vx ?_
   refine an.int (e:=5) (by kernel_rfl) (by kernel_rfl) (by kernel_rfl) fun xb=>?_
   refine ho.zW (A:=[_]) (r:=[Value.int .u8 (((t.ws[k]>>>(8*j))%256:Nat):Int)]) (by exact .head _) rfl (by simp[Value.oneCell']) ⟨[.int .u8 0],rfl,rfl⟩ (by simp only[o6,List.length_map,List.length_append,List.length_range]at hlen⊢;omega) (by simp only[o6,List.length_map,List.length_append,List.length_range]at hlen⊢;omega) fun v' C' bE=>?_
   refine aa.inc ?_
   refine aq.of .tail ⟨j+1,_,C',rfl,by omega,rfl,?_⟩ (by simp[aT];omega)
   rw[xX h8,←List.append_assoc,E4];exact bE
  ·have:j=8:=by omega
   subst this
   refine aa.inc ?_
   refine aq.mk ⟨k+1,_,C,rfl,by omega,rfl,?_⟩ (by simp[aT];omega)
   rw[List.take_succ_eq_append_getElem hlt,af.fx,List.flatMap_append]
   simpa[af.fx,af.fu]using ho
 ·have:k=t.ws.length:=by omega
  subst this
  rw[List.take_length]at ho
  refine iI.own ho (fun _ h=>List.mem_append_left _ h) ?_
  exact bK.mk .right rfl
theorem OV{B:Hp}{b n:Nat}{es:Array MapEntry}{ck:Nat}{m:List (List UInt8×List Nat)}{v:Value}{ws:List Nat}(hE:e7 n B es ck m)(ht:iL B v ⟨n,ws⟩)(hf:af.bO n ws):
  Fc Tryz.prog 233 #[.map (some b),v] ((b,.map es ck)::B) (fun _ H=>∃es' dw N,H=(b,.map es' dw)::(N++B)∧e7 n (N++B) es' dw (ux m ws)):=by
 obtain⟨s,rfl,hw⟩:=ht
 refine aW fun g=>AG ?_
 intro b1 _
 refine DR.self ?_
 refine av.q ?_
 refine av.q ?_
 refine ae.eq (y3 (t:=⟨n,ws⟩) ⟨s,rfl,hw⟩ (dM hf)) ?_
 refine⟨.refl _,?_⟩
 refine hE.bS (b:=b) ⟨s,rfl,hw⟩ hf fun es' dw rG=>⟨_,.tail (.head _),?_⟩
 exact bN.mk (jk:=(b,.map es' dw)::([]++B)) .tail ⟨es',dw,[],rfl,rG⟩
theorem Eb{B:Hp}{v:Value}{n:Nat}{ts:List Tb}{L:List (List Nat)}(ht:bV B v ts)(hL:ts=L.map fun ws=>⟨n,ws⟩)(hf:∀ws∈L,af.bO n ws)(aV:L.length<4611686018427387904):
  Fc Tryz.prog 176 #[v] B (fun r H=>∃b es ck m N,r=.map (some b)∧H=(b,.map es ck)::(N++B)∧e7 n (N++B) es ck m∧∀x,x∈m.map Prod.snd↔x∈L):=by
 have hlen:ts.length=L.length:=by rw[hL];simp
 refine aW fun g=>Bj ?_
 intro b _
 refine ht.aL ?_
 rw[hlen]
 refine⟨fun vs H=>∃(k:Nat) (es:Array MapEntry) (ck:Nat) (m:List (List UInt8×List Nat)) (N:Hp),vs=[.int .i64 (k:Int)]∧k≤L.length∧H=(b,.map es ck)::(N++B)∧e7 n (N++B) es ck m∧∀x,x∈m.map Prod.snd↔x∈L.take k,
  fun vs _=>L.length-aT vs 0,JE.mk ⟨0,_,_,[],[],rfl,by omega,rfl,e7.empty _ _,by simp⟩,?_⟩
 rintro w H ⟨k,es,ck,m,N,⟨⟩,hk,rfl,hE,hm⟩ gs
 refine aa.cZ (Br.dec (fun hlt=>?_) (fun hlt=>?_))
 ·have hg:ts[k]? =some ⟨n,L[k]⟩:=by rw[hL,List.getElem?_map,List.getElem?_eq_getElem hlt];rfl
  have gH:=hf L[k] (List.getElem_mem hlt)
  refine ht.ld hg zS fun s hw=>?_
  intro b2 _
  refine St.p ?_ ?_
  ·have:=ax hw;simpa[Value.oneCell']using this
  refine av.q ?_
  refine ae.fq (OV hE ⟨s,rfl,hw.mono zS⟩ gH) ?_
  rintro r C' ⟨es',dw,N',rfl,rG⟩
  refine aa.inc ?_
  refine aq.of .tail ⟨k+1,es',dw,ux m L[k],N'++N,rfl,by omega,by rw[List.append_assoc],by rw[List.append_assoc];exact rG,fun x=>?_⟩ (by simp[aT];omega)
  rw[oC hE.2 gH,hm,List.take_succ_eq_append_getElem hlt,List.mem_append,List.mem_singleton]
 ·have:k=L.length:=by omega
  subst this
  rw[List.take_length]at hm
  exact bN.here ⟨b,es,ck,m,N,rfl,rfl,hE,hm⟩
theorem xx{B:Hp}{bm n u:Nat}{es:Array MapEntry}{ck:Nat}{m:List (List UInt8×List Nat)}(hm:(bm,Obj.map es ck)∈B)(hE:e7 n B es ck m)(hu:u<n)(aV:m.length<4611686018427387904):
  Fc Tryz.prog 177 #[.map (some bm),.int .i64 (u:Int)] B (fun r H=>∃b' es' dw m' N,r=.tuple #[.map (some b'),.int .i64 ((af.nodes n (m.map Prod.snd) u).length:Int)]∧H=(b',.map es' dw)::(N++B)∧e7 n (N++B) es' dw m'∧
   ∀x,x∈m'.map Prod.snd↔∃t∈m.map Prod.snd,∃c,x=af.dj n t u c):=by
 refine aW fun g=>Bi ?_
 intro b' _
 refine .inr ⟨bm,es,ck,rfl,.tail _ hm,fun bi _=>?_⟩
 refine⟨fun vs H=>∃(es':Array MapEntry) (dw:Nat) (m':List (List UInt8×List Nat)) (seen:Array Nat) (N:Hp) (D:List (List Nat)),vs=[.int .i64 ((af.nodes n D u).length:Int)]∧
   H=(bi,.mapIter (some bm) ck seen ck)::(b',.map es' dw)::(N++B)∧e7 n (N++B) es' dw m'∧(m.map Prod.snd).Perm (D++(c4 es m seen).map Prod.snd)∧∀x,x∈m'.map Prod.snd↔∃t∈D,∃c,x=af.dj n t u c,
  fun vs H=>match H with|(_,.mapIter _ _ seen _)::_=>(c4 es m seen).length|_=>0,JE.mk ⟨_,_,[],_,[],[],rfl,rfl,e7.empty _ _,?_,by simp⟩,?_⟩
 ·rw[qq hE.1];simp
 rintro w H ⟨es',dw,m',seen,N,D,⟨⟩,rfl,rG,cK,hmem⟩ gs
 have SW:∀{X:Hp},(bm,Obj.map es ck)∈X++B:=List.mem_append_right _ hm
 refine hE.1.next (.tail _ (.tail _ SW)) (.head _) (fun e x seen' he hkey hval hstep xh hfind=>⟨_,.head _,?_⟩) (fun za=>?_)
 ·obtain⟨bs,ws⟩:=x
  simp only at hval hkey
  refine Ext.mk rfl (Br.yes ?_)
  refine⟨bi,bm,ck,seen',e.born,ck,es,e,rfl,.head _,xh,.tail _ (.tail _ SW),hfind,?_⟩
  refine Ext.mk rfl ?_
  have hx:(bs,ws)∈m:=by
   have h:=hstep.mem_iff.2 (List.mem_cons_self (a:=(bs,ws)))
   unfold c4 at h
   obtain⟨p,hp,iJ⟩:=List.mem_map.1 h
   rw[←iJ]
   exact(List.of_mem_zip (List.mem_filter.1 hp).1).2
  obtain⟨Y9,hf⟩:=hE.2 _ hx
  simp only at Y9 hf
  obtain⟨s,Re,hw⟩:=hval
  rw[Re]
  have hone:=ax hw
  intro b1 _
  refine St.p (by simpa[Value.oneCell']using hone) ?_
  refine av.q ?_
  refine ae.pq (B:=N++B) (Ck (n:=n) (ws:=ws) ⟨s,rfl,hw.mono zS⟩ hf hu) ?_
  rintro r N1 ⟨v1,rfl,s1,rfl,gS⟩
  have wV:=ax gS
  refine Ext.two ?_
  intro b2 _
  refine St.p (by simpa[Value.oneCell']using wV) ?_
  refine av.q ?_
  refine ae.pq (B:=N1++(N++B)) (Ck (n:=n) (ws:=ws) ⟨s,rfl,hw.mono zS⟩ hf hu) ?_
  rintro r N2 ⟨v2,rfl,s2,rfl,lF⟩
  have wU:=ax lF
  refine Ext.two ?_
  intro b3 _
  refine St.p (by simpa[Value.oneCell']using wU) ?_
  refine DR.self ?_
  refine av.q ?_
  refine av.q ?_
  have f1:=af.cg (v:=u) (ws:=ws) (b:=false) hf.jz
  have f2:=af.cg (v:=u) (ws:=ws) (b:=true) hf.jz
  refine ae.eq (B:=N2++(N1++(N++B))) (y3 (t:=⟨n,af.dj n ws u false⟩) ⟨s1,rfl,gS.mono zS⟩ (dM f1)) ?_
  refine⟨.refl _,?_⟩
  refine ae.eq (B:=N2++(N1++(N++B))) (y3 (t:=⟨n,af.dj n ws u true⟩) ⟨s2,rfl,lF⟩ (dM f2)) ?_
  refine⟨.refl _,?_⟩
  intro J hJ
  have zj:(af.fx (af.dj n ws u false)≠af.fx (af.dj n ws u true))↔af.dep n ws u=true:=by
   simp only[af.dep,ne_eq,decide_eq_true_eq]
   exact not_congr ⟨fun h=>f1.key_inj f2 h,fun h=>by rw[h]⟩
  have dH:JE J [.int .i64 ((af.nodes n (D++[ws]) u).length:Int)] ((b3,.cells (List.toArray [.int .i64 (n:Int),s2]) 57 (0,0))::(b2,.cells (List.toArray [.int .i64 (n:Int),s1]) 57 (0,0))::
    (b1,.cells (List.toArray [.int .i64 (n:Int),s]) 57 (0,0))::(bi,.mapIter (some bm) ck seen' ck)::(b',.map es' dw)::(N2++(N1++(N++B)))):=by
   refine JE.mk (hJ _ _ fun gs=>?_)
   refine DR.of (R:=(b3,.cells (List.toArray [.int .i64 (n:Int),s2]) 57 (0,0))::(b2,.cells (List.toArray [.int .i64 (n:Int),s1]) 57 (0,0))::[]) ?_ ?_
   ·exact .cons (.cons (fun g w h=>(Own.left (B:=_) (A:=[]) h)))
   refine av.q ?_
   refine av.q ?_
   have zq:=rG.mono (B':=N2++(N1++(N++B))) zS
   refine zq.bS (b:=b') (ws:=af.dj n ws u false) ⟨s1,rfl,gS.mono zS⟩ f1 fun m4 oc WO=>⟨_,.tail (.tail (.tail (.tail (.head _)))),?_⟩
   refine⟨.cons (.cons (fun g w h=>(Own.left (B:=_) (A:=[]) h))),?_⟩
   refine WO.bS (b:=b') (ws:=af.dj n ws u true) ⟨s2,rfl,lF⟩ f2 fun Ni Nk ZA=>⟨_,.tail (.tail (.tail (.tail (.head _)))),?_⟩
   refine aq.of (H':=(bi,.mapIter (some bm) ck seen' ck)::(b',.map Ni Nk)::((N2++(N1++N))++B)) ?_ ⟨Ni,Nk,ux (ux m' (af.dj n ws u false)) (af.dj n ws u true),seen',N2++(N1++N),D++[ws],rfl,rfl,?_,?_,fun x=>?_⟩ ?_
   ·refine .skip (.skip (.skip (.cons (.cons ?_))))
    intro g w h;rw[List.append_assoc,List.append_assoc];exact h
   ·rw[List.append_assoc,List.append_assoc];exact ZA
   ·refine cK.trans ?_
    refine(List.Perm.append_left D (hstep.map Prod.snd)).trans ?_
    simp only[List.map_cons,List.append_assoc,List.cons_append,List.nil_append]
    exact .refl _
   ·rw[oC WO.2 f2,oC zq.2 f1,hmem]
    constructor
    ·rintro((⟨t,ht,c,rfl⟩|rfl)|rfl)
     ·exact⟨t,by simp[ht],c,rfl⟩
     ·exact⟨ws,by simp,_,rfl⟩
     ·exact⟨ws,by simp,_,rfl⟩
    ·rintro⟨t,ht,c,rfl⟩
     rcases List.mem_append.1 ht with ht|ht
     ·exact .inl (.inl ⟨t,ht,c,rfl⟩)
     ·simp at ht;subst ht
      cases c
      ·exact .inl (.inr rfl)
      ·exact .inr rfl
   ·have:=hstep.length_eq
    simp only[List.length_cons]at this⊢
    omega
  refine aa.PY (Br.dec (fun h=>?_) (fun h=>?_))
  ·refine aa.Ma (b:=1) ?_ ?_
   ·have h1:=cK.length_eq
    simp only[List.length_map,List.length_append]at h1
    have h2:(af.nodes n D u).length≤D.length:=List.length_filter_le _ _
    simp[aY];omega
   ·have:(af.nodes n (D++[ws]) u).length=(af.nodes n D u).length+1:=by
     simp[af.nodes,List.filter_append,zj.1 h]
    rw[this]at dH;exact dH
  ·have:(af.nodes n (D++[ws]) u).length=(af.nodes n D u).length:=by
    have hd:af.dep n ws u=false:=by cases hh:af.dep n ws u;rfl;exact absurd (zj.2 hh) h
    simp[af.nodes,List.filter_append,hd]
   rw[this]at dH;exact dH
 ·refine Ext.mk rfl (Br.no ?_)
  rw[za]at cK
  simp only[List.map_nil,List.append_nil]at cK
  refine bN.mk (jk:=(b',.map es' dw)::(N++B)) .tail ⟨b',es',dw,m',N,?_,rfl,rG,fun x=>?_⟩
  ·rw[af.gP cK]
  ·rw[hmem]
   constructor
   ·rintro⟨t,ht,h⟩;exact⟨t,cK.mem_iff.2 ht,h⟩
   ·rintro⟨t,ht,h⟩;exact⟨t,cK.mem_iff.1 ht,h⟩
theorem DY{B:Hp}{v:Value}{ts:List Tb}(ht:bV B v ts)(aV:ts.length<2^62):Rd Tryz.prog 175 #[v] B (· =.bool (decide (∀t∈ts,TF t∧some t.n=ts.head?.map Tb.n))):=by
 intro g
 refine Bk (R:=bN _) ?_
 unfold L175
 refine ht.aL ?_
 refine⟨fun vs H=>aG B H∧∃k:Nat,vs=[.int .i64 (k:Int)]∧k≤ts.length∧∀i t,i<k→ts[i]? =some t→TF t∧some t.n=ts.head?.map Tb.n,fun vs _=>ts.length-aT vs 0,JE.mk ⟨.refl _,0,rfl,by omega,by omega⟩,?_⟩
 rintro w H ⟨hg,k,hv,hk,aB⟩ gs
 simp only[List.cons.injEq,and_true]at hv
 subst hv
 refine aa.cZ (Br.dec (fun hlt=>?_) (fun hlt=>?_))
 ·obtain⟨t,js⟩:∃t,ts[k]? =some t:=⟨_,List.getElem?_eq_getElem hlt⟩
  obtain⟨t0,wQ⟩:∃t,ts[0]? =some t:=⟨_,List.getElem?_eq_getElem (by omega)⟩
  have hh:ts.head?.map Tb.n=some t0.n:=by rw[List.head?_eq_getElem?,wQ];rfl
  have CV:=ht.mono hg.sub
  refine CV.ld js (fun _ h=>h) fun s hs=>?_
  intro b1 _
  refine St.whole (r:=[.int .i64 t.n,s]) (by exact cA.head _) rfl rfl ?_ ?_
  ·obtain⟨a,c,rfl,_⟩:=hs.1.shape;simp[Value.oneCell']
  intro J hJ
  have hno:∀H',aG B H'→¬(TF t∧some t.n=ts.head?.map Tb.n)→JE J [.bool true] H':=fun H' IA h=>
   JE.mk (hJ _ _ fun gs=>Br.yes (bK.mk IA.nr (by rw[decide_eq_false];exact fun hh=>h (hh t (List.mem_of_getElem? js)))))
  have yq:aG B ((b1,Obj.cells (List.toArray [.int .i64 t.n,s]) 57 (0,0))::H):=.cons hg
  refine DR.self ?_
  refine av.whole (r:=[.int .i64 t.n,s]) (by exact List.Mem.head _) rfl ?_
  intro F
  refine ae.rd (B:=H) (.cons .here) (xz ⟨s,rfl,hs⟩) ?_
  rintro v rfl
  refine⟨.refl _,Un.not ?_⟩
  by_cases hT:TF t
  case neg=>rw[decide_eq_false hT];exact Br.yes (hno _ yq fun h=>hT h.1)
  rw[decide_eq_true hT]
  refine Br.no ?_
  refine ag.mk (Ld.mk zM rfl ?_)
  refine CV.NO wQ zS ?_
  refine aa.fZ (ay.mk ?_)
  simp only[cond_false]
  by_cases hn:t.n=t0.n
  case neg=>rw[decide_eq_true hn];exact hno _ yq fun h=>hn (by have:=h.2;rw[hh]at this;simpa using this)
  rw[decide_eq_false (by simpa using hn)]
  refine JE.mk (hJ _ _ fun gs=>Br.no ?_)
  refine aa.Ma (b:=1) (by simp[aY];omega) ?_
  refine aq.mk ⟨yq,k+1,rfl,by omega,fun i u hi hu=>?_⟩ (by simp[aT];omega)
  by_cases e:i=k
  ·subst e;rw[js]at hu;cases hu;exact⟨hT,by rw[hh,hn]⟩
  ·exact aB i u (by omega) hu
 ·refine bK.mk hg.nr ?_
  rw[decide_eq_true]
  intro t N6
  obtain⟨i,hi,rfl⟩:=List.mem_iff_getElem.1 N6
  exact aB i _ (by omega) (List.getElem?_eq_getElem hi)
def fQ(ts:List Tb):Prop:=∀t∈ts,TF t∧some t.n=ts.head?.map Tb.n
instance (ts:List Tb):Decidable (fQ ts):=by unfold fQ;infer_instance
theorem qD{B:Hp}{v:Value}{ts:List Tb}(ht:bV B v ts)(aV:ts.length<2^62):Rd Tryz.prog 175 #[v] B (· =.bool (decide (fQ ts))):=DY ht aV
theorem nN{n:Nat}{L:List (List Nat)}(hf:∀ws∈L,af.bO n ws):fQ (L.map fun ws=>⟨n,ws⟩):=by
 intro t ht
 obtain⟨ws,MA,rfl⟩:=List.mem_map.1 ht
 refine⟨⟨by simp,by simpa using hf ws MA⟩,?_⟩
 cases L with
 |nil=>simp at MA
 |cons a b=>rfl
theorem uI{ts:List Tb}(h:fQ ts)(hne:ts≠[]):∃(n:Nat) (L:List (List Nat)),n≤16∧ts=L.map (fun ws=>⟨n,ws⟩)∧L≠[]∧∀ws∈L,af.bO n ws:=by
 cases ts with
 |nil=>exact absurd rfl hne
 |cons t r=>
  have ht:=(h t (by simp)).1
  have hn:∀u∈t::r,u.n=t.n:=fun u hu=>by have:=(h u hu).2;simpa using this
  refine⟨t.n.toNat,(t::r).map Tb.ws,ht.2.jz,?_,by simp,fun ws MA=>?_⟩
  ·rw[List.map_map]
   conv=>lhs;rw[←List.map_id (t::r)]
   apply List.map_congr_left
   intro u hu
   have h1:=hn u hu
   have h2:=ht.1
   obtain⟨un,uw⟩:=u
   simp only[Function.comp,id]at h1⊢
   congr 1;omega
  ·obtain⟨u,hu,rfl⟩:=List.mem_map.1 MA
   have:=(h u hu).1.2
   rwa [hn u hu]at this
end Go.Proofs
namespace aU
theorem Rm.oT(m:Rm):∀ls ord,m.ct 0 ls ord=ls.take (m.ct 0 ls ord).length
 | [],_=>rfl
 |c::cs,ord=>by
  by_cases hf:m.fit ord (0+c)=true
  ·have:=m.oT cs (dQ ord (0+c))
   rw[ct,if_pos hf,List.length_cons,List.take_succ_cons,←this,Nat.zero_add]
  ·rw[ct,if_neg hf];simp
def Rm.can(m:Rm)(ord ls:List Nat):Bool:=decide ((m.ct 0 ls ord).length=ls.length)
theorem Rm.xu(m:Rm){ord ls:List Nat}{i:Nat}(hi:i<(m.ct 0 ls ord).length){l:Nat}(hl:ls[i]? =some l):m.fit (bc ord (ls.take i)) l=true:=by
 obtain⟨_,c,h1,h2⟩:=m.xq 0 ls ord i hi
 rw[hl]at h1;cases h1
 rw[m.oT,List.take_take,Nat.min_eq_left (Nat.le_of_lt hi),Nat.zero_add]at h2
 exact h2
theorem Rm.tS(m:Rm){ord ls:List Nat}{l:Nat}(hl:ls[(m.ct 0 ls ord).length]? =some l):m.fit (bc ord (ls.take (m.ct 0 ls ord).length)) l=false:=by
 have:=m.xw 0 ls ord l hl
 rw[Nat.zero_add]at this
 rw[←m.oT]
 exact this
theorem Alike.can{A B:Rm}{Q:List Nat→Prop}(h:Alike A B Q){ord ls:List Nat}(hls:∀l∈ls,l+1<A.n)(hq:Q ord):A.can ord ls=B.can ord ls∧(A.ct 0 ls ord).length=(B.ct 0 ls ord).length:=by
 have:=h.ct (p:=0) (cs:=ls) (ord:=ord) (fun c hc=>by have:=hls c hc;omega) hq
 unfold Rm.can;rw[this];exact⟨rfl,rfl⟩
theorem kx{α:Type}[DecidableEq α]:∀{l p:List α},l.Nodup→(∀x∈l,x∈p)→p.length≤l.length→l.Perm p
 | [],p,_,_,h=>by
  have:p=[]:=List.length_eq_zero_iff.1 (by simpa using h)
  subst this;exact .refl _
 |x::t,p,hn,hs,hl=>by
  have hx:=hs x (by simp)
  have hp:=List.perm_cons_erase hx
  have hlen:(p.erase x).length=p.length-1:=List.length_erase_of_mem hx
  have hpos:=List.length_pos_of_mem hx
  refine(List.Perm.cons x (kx (List.nodup_cons.1 hn).2 (fun y hy=>?_) (by simp only[List.length_cons]at hl;omega))).trans hp.symm
  refine(List.mem_erase_of_ne fun e=>?_).2 (hs y (by simp[hy]))
  subst e;exact(List.nodup_cons.1 hn).1 hy
end aU
set_option maxRecDepth 100000
namespace Go.Proofs
open Go Go.Sx
open aU
theorem wL{l:List Nat}(h:l.Nodup):(iw l).Nodup:=List.pairwise_map.2 (h.imp fun hne e=>hne (Int.ofNat.inj e))
theorem o8{p:List Int}:pP p↔p.Perm (iw (List.range p.length)):=by
 constructor
 ·intro h
  refine(kx (wL List.nodup_range) (fun x hx=>?_) (by rw[ah,List.length_range];exact Nat.le_refl _)).symm
  obtain⟨k,hk,rfl⟩:=List.mem_map.1 hx
  exact h k (List.mem_range.1 hk)
 ·intro h v hv
  exact h.mem_iff.2 (List.mem_map.2 ⟨v,List.mem_range.2 hv,rfl⟩)
theorem Js{p:List Int}(hn:p.Nodup)(h:∀x∈p,0≤x∧x<(p.length:Int)):pP p:=by
 refine o8.2 (kx hn (fun x hx=>?_) (by rw[ah,List.length_range];exact Nat.le_refl _))
 obtain⟨h1,h2⟩:=h x hx
 exact List.mem_map.2 ⟨x.toNat,List.mem_range.2 (by omega),by show((x.toNat:Nat):Int)=x;omega⟩
theorem Ju{p:List Int}(h:pP p){x:Int}(hx:x∈p):0≤x∧x<(p.length:Int):=by
 have:=(o8.1 h).mem_iff.1 hx
 obtain⟨k,hk,rfl⟩:=List.mem_map.1 this
 have:=List.mem_range.1 hk
 show(0:Int)≤(k:Int)∧(k:Int)<_
 omega
theorem x8{p:List Int}(h:pP p):p.Nodup:=(o8.1 h).nodup_iff.2 (wL List.nodup_range)
theorem GX{p:List Int}{i n W:Nat}(hi:i<p.length)(hn:p[i]=(n:Int))(hw:n<W):((List.range W).map fun k=>decide (((k:Nat):Int)∈p.take i)).set n true=(List.range W).map fun k=>decide (((k:Nat):Int)∈p.take (i+1)):=by
 apply List.ext_getElem?
 intro j
 rw[List.take_succ_eq_append_getElem hi,hn]
 by_cases hj:j<W
 ·by_cases e:n=j
  ·subst e;rw[List.getElem?_set_self (by simpa using hw)];simp[hw]
  ·rw[List.getElem?_set_ne e]
   simp only[List.getElem?_map,List.getElem?_range hj,Option.map_some,List.mem_append,List.mem_singleton]
   congr 1
   have:¬((j:Nat):Int)=(n:Int):=by omega
   simp[this]
 ·rw[List.getElem?_eq_none (by simp;omega),List.getElem?_eq_none (by simp;omega)]
theorem DV{p:List Int}{W:Nat}:List.replicate W false=(List.range W).map fun k=>decide (((k:Nat):Int)∈p.take 0):=by
 apply List.ext_getElem?
 intro j
 by_cases hj:j<W
 ·simp[hj]
 ·rw[List.getElem?_eq_none (by simp;omega),List.getElem?_eq_none (by simp;omega)]
theorem oF{B:Hp}{v:Value}{p:List Int}(h:bW .i64 B v p)(aV:p.length≤70368744177664):Rd Tryz.prog 101 #[v] B (fun r=>(r=.int .i64 0∧pP p∧p.length≤64)∨(r=.int .i64 13∧pP p∧64<p.length)∨(r=.int .i64 4∧¬pP p)):=by
 refine aW fun g=>B9 ?_
 refine h.aL (br.oe (by omega) fun b=>h.aL ?_)
 rw[DV (p:=p)]
 refine⟨fun vs H=>∃i:Nat,vs=[.int .i64 (i:Int)]∧H=(b,.cells (cz ((List.range p.length).map fun k=>decide (((k:Nat):Int)∈p.take i))) 4 (0,0))::B∧i≤p.length∧(p.take i).Nodup∧∀x∈p.take i,0≤x∧x<(p.length:Int),fun vs _=>p.length-aT vs 0,
  JE.mk ⟨0,rfl,rfl,Nat.zero_le _,by simp,by simp⟩,?_⟩
 rintro w H ⟨i,⟨⟩,rfl,hi,fB,hin⟩ gs
 refine aa.cZ (Br.dec (fun hlt=>?_) (fun hlt=>?_))
 ·refine h.ld (List.getElem?_eq_getElem hlt) (fun _ h=>.tail _ h) ?_
  obtain⟨x,hx⟩:∃x,p[i]=x:=⟨_,rfl⟩
  have X6:x∈p:=by rw[←hx];exact List.getElem_mem hlt
  rw[hx]
  have hB:=kW.block (b:=b) (cap:=p.length) (l:=(List.range p.length).map fun k=>decide (((k:Nat):Int)∈p.take i)) (T:=4) (fz:=(0,0)) (B:=(b,.cells (cz ((List.range p.length).map fun k=>decide (((k:Nat):Int)∈p.take i))) 4 (0,0))::B) (.head _) (by simp)
  rw[List.length_map,List.length_range]at hB
  refine aa.lss ?_
  refine dO.or (decide ((p.length:Int)≤x)) (fun _=>h.aL (aa.geq ⟨rfl,rfl⟩)) (by simp) fun gs=>?_
  rw[←Bool.decide_or]
  refine dO.or (decide (x∈p.take i)) (fun hno=>?_) (by simp) fun gs=>?_
  ·have Ev:=of_decide_eq_false hno
   obtain⟨n,rfl⟩:∃n:Nat,x=n:=⟨x.toNat,by omega⟩
   refine hB.ld (b:=decide (((n:Nat):Int)∈p.take i)) ?_ (fun _ h=>h) ⟨rfl,rfl⟩
   rw[List.getElem?_map,List.getElem?_range (by omega)];rfl
  rw[←Bool.decide_or]
  refine Br.dec (fun UK=>bK.mk .tail (.inr (.inr ⟨rfl,fun ha=>?_⟩))) (fun Q9=>?_)
  ·have h1:=Ju ha X6
   rcases UK with hb|hb
   ·omega
   ·have h2:=x8 ha
    rw[←List.take_append_drop i p,List.nodup_append]at h2
    refine h2.2.2 x hb x ?_ rfl
    rw[List.drop_eq_getElem_cons hlt,hx];exact .head _
  ·obtain⟨n,rfl⟩:∃n:Nat,x=n:=⟨x.toNat,by omega⟩
   refine aj.nat (by omega) ?_
   refine St.oe (l:=(List.range p.length).map fun k=>decide (((k:Nat):Int)∈p.take i)) (.head _) (by simp;omega) ?_
   rw[GX hlt hx (by omega)]
   refine aa.inc ?_
   refine aq.mk ⟨i+1,rfl,rfl,hlt,?_,fun x Mz=>?_⟩ (by simp only[aT];omega)
   ·rw[List.take_succ_eq_append_getElem hlt,hx,List.nodup_append]
    exact⟨fB,by simp,fun a ha b hb e=>by simp at hb;subst hb;subst e;exact Q9 (.inr ha)⟩
   ·rw[List.take_succ_eq_append_getElem hlt,hx,List.mem_append,List.mem_singleton]at Mz
    rcases Mz with Mz|rfl
    ·exact hin x Mz
    ·omega
 ·obtain rfl:i=p.length:=by omega
  rw[List.take_length]at fB hin
  have aB:=Js fB hin
  refine h.aL (aa.jb (b:=64) (Br.dec (fun hg=>bK.mk .tail (.inr (.inl ⟨rfl,aB,hg⟩))) (fun hg=>bK.mk .tail (.inl ⟨rfl,aB,by omega⟩))))
theorem DS{B:Hp}{v:Value}{p:List Int}{x:Int}(h:bW .i64 B v p)(aV:p.length<4611686018427387904):Rd Tryz.prog 179 #[v,.int .i64 x] B (· =.int .i64 (if x∈p then((p.idxOf x:Nat):Int)else-1)):=by
 refine aW fun g=>Bg ?_
 refine h.aL ?_
 refine⟨fun vs H=>∃i:Nat,vs=[.int .i64 (i:Int)]∧H=B∧i≤p.length∧x∉p.take i,fun vs _=>p.length-aT vs 0,JE.mk ⟨0,rfl,rfl,Nat.zero_le _,by simp⟩,?_⟩
 rintro w H ⟨i,⟨⟩,rfl,hi,hq⟩ gs
 refine aa.cZ (Br.dec (fun hlt=>?_) (fun hlt=>?_))
 ·refine h.ld (List.getElem?_eq_getElem hlt) (fun _ h=>h) ?_
  refine aa.oW (Br.dec (fun he=>bK.mk (.refl _) ?_) (fun he=>?_))
  ·rw[if_pos (by rw[he];exact List.getElem_mem hlt),HV hq hlt he.symm]
  ·refine aa.inc ?_
   refine aq.of (.refl _) ⟨i+1,rfl,rfl,hlt,?_⟩ (by simp only[aT];omega)
   rw[List.take_succ_eq_append_getElem hlt,List.mem_append,List.mem_singleton]
   rintro(h|h)
   ·exact hq h
   ·exact he h
 ·refine bK.mk (.refl _) ?_
  rw[List.take_of_length_le (by omega)]at hq
  rw[if_neg hq]
theorem L1{B:Hp}{v1 v2:Value}{p q:List Nat}{n:Nat}(h1:bW .i64 B v1 (iw p))(h2:bW .i64 B v2 (iw q))(hp:p.Perm (List.range n))(hq:q.Perm (List.range n))(hn:n≤64):Rd Tryz.prog 178 #[v1,v2] B (· =.int .i64 0):=by
 have e1:p.length=n:=by rw[hp.length_eq,List.length_range]
 have e2:q.length=n:=by rw[hq.length_eq,List.length_range]
 refine aW fun g=>Bh ?_
 refine ae.rq (oF h1 (by rw[ah];omega)) ?_
 rintro v (⟨rfl,_,_⟩|⟨_,_,hl⟩|⟨_,hno⟩)
 rotate_left
 ·rw[ah]at hl;omega
 ·exact absurd (r4 hp) hno
 refine ae.rq (oF h2 (by rw[ah];omega)) ?_
 rintro v (⟨rfl,_,_⟩|⟨_,_,hl⟩|⟨_,hno⟩)
 rotate_left
 ·rw[ah]at hl;omega
 ·exact absurd (r4 hq) hno
 refine aa.oW ?_
 refine dO.or false (fun _=>aa.oW ⟨rfl,rfl⟩) rfl fun gs=>?_
 refine dO.or false (fun _=>?_) rfl fun gs=>Br.no ?_
 ·refine h1.aL (h2.aL (aa.l6 ⟨rfl,?_⟩))
  rw[ah,ah,decide_eq_false (by omega)]
 ·exact⟨.i64,0,0,rfl,rfl,bK.mk (.refl _) rfl⟩
end Go.Proofs
namespace Go.Sx
open Go
section
variable {P:Program} {g:Gh} {H:Hp}
theorem an.NI{t e:TypeId}{z:Value}{a b c d:Value}{K:Value→Hp→Prop}(h1:P.underlying t=some (.slice e))(h2:cT P e=some 2)(h3:dR P e=some z)
 (h:∀x,K (.slice (some ⟨x,0,Option.none⟩) 2 2) ((x,.cells (rows [[a,b],[c,d]]) e (0,0))::H)):an P t 2 [(0,.agg #[a,b]),(1,.agg #[c,d])] H K:=by
 refine⟨rows [[a,b],[c,d]],e,2,z,h1,h2,h3,by decide,?_,fun b _=>h b⟩
 have e1:Array.range (2*2)=#[0,1,2,3]:=rfl
 simp[Instr.fill,Value.cells,rows,e1]
theorem an.NH{t e:TypeId}{z:Value}{a b c d x y:Value}{K:Value→Hp→Prop}(h1:P.underlying t=some (.slice e))(h2:cT P e=some 2)(h3:dR P e=some z)
 (h:∀u,K (.slice (some ⟨u,0,Option.none⟩) 3 3) ((u,.cells (rows [[a,b],[c,d],[x,y]]) e (0,0))::H)):an P t 3 [(0,.agg #[a,b]),(1,.agg #[c,d]),(2,.agg #[x,y])] H K:=by
 refine⟨rows [[a,b],[c,d],[x,y]],e,2,z,h1,h2,h3,by decide,?_,fun b _=>h b⟩
 have e1:Array.range (3*2)=#[0,1,2,3,4,5]:=rfl
 simp[Instr.fill,Value.cells,rows,e1]
theorem an.Qk{t e:TypeId}{kd:IntKind}{x y z u:Int}{K:Value→Hp→Prop}(h1:P.underlying t=some (.slice e))(h2:cT P e=some 1)(h3:dR P e=some (.int kd 0))
 (h:∀b,K (.slice (some ⟨b,0,Option.none⟩) 4 4) ((b,.cells (az kd [x,y,z,u]) e (0,0))::H)):an P t 4 [(0,.int kd x),(1,.int kd y),(2,.int kd z),(3,.int kd u)] H K:=by
 refine⟨az kd [x,y,z,u],e,1,_,h1,h2,h3,by decide,?_,fun b _=>h b⟩
 have e1:Array.range (4*1)=#[0,1,2,3]:=rfl
 simp[Instr.fill,Value.cells,az,e1]
theorem aO.made{T:TypeId}{k b:Nat}(rs:List (List Value))(h:∀r∈rs,r.length=k):aO T k (.slice (some ⟨b,0,none⟩) rs.length rs.length) rs [(b,.cells (rows rs) T (0,0))]:=
 .inr ⟨b,[],by simp,by simp,by simpa using h⟩
end
end Go.Sx
namespace aU
open af
variable {n:Nat} {F:Nat→Nat} {ws us rs:List Nat}
def tG(n:Nat)(F:Nat→Nat):List Nat:=(List.range (wN n)).map fun i=>F i&&&bQ n
theorem lB(hn:n≤16):bO n (tG n F):=by
 refine⟨hn,by simp[tG],fun w hw=>?_⟩
 obtain⟨i,_,rfl⟩:=List.mem_map.1 hw
 exact Nat.and_le_right
theorem Em{x:Nat}(hx:x<2^n):bit (tG n F) x=(F (x/64)).testBit (x%64):=by
 have hi:=nQ hx
 unfold bit
 have fG:(tG n F).getD (x/64) 0=F (x/64) &&&bQ n:=by simp[tG,hi]
 rw[fG,Nat.testBit_and,ed]
 have Rb:decide (x%64<if 6≤n then 64 else 2^n)=true:=by
  rw[decide_eq_true_eq]
  split
  ·exact Nat.mod_lt _ (by decide)
  ·have h1:2^n≤32:=Nat.pow_le_pow_right (n:=2) (by decide) (by omega:n≤5)
   omega
 rw[Rb,Bool.and_true]
theorem n6{f:Fn}(h:∀x,x<2^n→(F (x/64)).testBit (x%64)=f x)(hf:∀x,f (x%2^n)=f x):dz n (tG n F)=f:=by
 funext x
 unfold dz
 have hx:x%2^n<2^n:=Nat.mod_lt _ (Nat.two_pow_pos n)
 rw[Em hx,h _ hx,hf]
theorem n5(x:Nat):dz n ws (x%2^n)=dz n ws x:=by unfold dz;rw[Nat.mod_mod]
theorem j3{x:Nat}(hx:x<2^n):(ws.getD (x/64) 0).testBit (x%64)=dz n ws x:=by
 unfold dz bit;rw[Nat.mod_eq_of_lt hx]
theorem we{j:Nat}(hj:j<64):(18446744073709551615:Nat).testBit j=true:=by
 have:(18446744073709551615:Nat)=2^64-1:=by decide
 rw[this,Nat.testBit_two_pow_sub_one];simpa using hj
theorem uJ{w j:Nat}(hw:w<18446744073709551616)(hj:j<64):(18446744073709551615-w).testBit j= !w.testBit j:=by
 have e:(18446744073709551615-w)=2^64-(w+1):=by
  have:(2:Nat)^64=18446744073709551616:=by decide
  omega
 rw[e,Nat.testBit_two_pow_sub_succ (by
  have:(2:Nat)^64=18446744073709551616:=by decide
  omega)]
 simp[hj]
end aU
set_option maxRecDepth 100000
namespace Go.Proofs
open Go Go.Sx
open aU
section
variable {B:Hp}
def fW(B:Hp)(v:Value)(n:Nat)(f:aU.Fn):Prop:=∃ws,iL B v ⟨n,ws⟩∧af.bO n ws∧dz n ws=f
theorem fW.mono{B B':Hp}{v:Value}{n:Nat}{f:aU.Fn}(h:fW B v n f)(hs:∀x∈B,x∈B'):fW B' v n f:=let ⟨ws,h1,h2,h3⟩:=h;⟨ws,h1.mono hs,h2,h3⟩
theorem xR{n:Nat}(hn:n≤16)(B:Hp):Rd Tryz.prog 211 #[.int .i64 (n:Int)] B (· =.int .i64 0):=by
 refine aW fun g=>A2 ?_
 exact aa.lss (Br.F (aa.jb (b:=16) (Br.F (bK.mk (.refl _) rfl))))
theorem yI{b:Bool}{p:Value}{i:Int}(hb:Go.Sx.At B p [.bool b]):Rd Tryz.prog 213 #[.int .i64 i,p] B (· =.int .u64 (((if b then 18446744073709551615 else 0:Nat)):Int)):=by
 refine aW fun g=>AZ ?_
 refine Ld.at hb (fun _ h=>h) ?_
 cases b
 ·exact Br.no (bK.mk (.refl _) rfl)
 ·exact Br.yes (bK.mk (.refl _) rfl)
theorem s9{n:Nat}(hn:n≤16)(b:Bool)(B:Hp):Px Tryz.prog 147 #[.int .i64 (n:Int),.bool b] B (fun r H=>∃v,r=.tuple #[v,.int .i64 0]∧fW H v n (fun _=>b)):=by
 refine aW fun g=>BO ?_
 intro b1 _ b3 _
 refine ae.eq (xR hn _) ?_
 refine aa.fZ (Br.F ?_)
 refine ae.pq (nT hn rfl (by kernel_rfl) (F:=fun _=>if b then 18446744073709551615 else 0) (fun i _=>by cases b<;>decide) (B:=(b1,.cells #[.bool b] 4 (0,0))::B) fun i _=>yI (Go.Sx.At.block (l:=[.bool b]) zM)) ?_
 rintro v N ⟨s,rfl,hw⟩
 refine St.p ?_ ?_
 ·have:=ax hw;simpa[Value.oneCell']using this
 refine av.q ?_
 refine jS.mk (by repeat (first|exact aG.refl _|apply aG.cons|apply aG.app)) ⟨_,rfl,_,⟨s,rfl,hw.mono zS⟩,lB hn,n6 (fun x hx=>?_) (fun x=>rfl)⟩
 cases b
 ·exact Nat.zero_testBit _
 ·exact we (Nat.mod_lt _ (by decide))
theorem GI{v i:Nat}{p:Value}(hv:v<64)(hi:i<9223372036854775808)(hb:Go.Sx.At B p [.int .i64 (v:Int)]):Rd Tryz.prog 218 #[.int .i64 (i:Int),p] B (· =.int .u64 ((if 6≤v then(if(i>>>(v-6)).testBit 0 then 18446744073709551615 else 0)else af.mask v:Nat):Int)):=by
 refine aW fun g=>AV ?_
 refine Ld.at hb (fun _ h=>h) ?_
 refine ae.eq (ua hv (by omega) hi B) ?_
 exact bK.mk (.refl _) rfl
theorem Kg{n v:Nat}(hn:n≤16)(hv:v<n)(B:Hp):Px Tryz.prog 153 #[.int .i64 (n:Int),.int .i64 (v:Int)] B (fun r H=>∃t,r=.tuple #[t,.int .i64 0]∧fW H t n (fun x=>x.testBit v)):=by
 refine aW fun g=>BI ?_
 intro b1 _ b3 _
 refine ae.eq (xR hn _) ?_
 refine aa.fZ (Br.F ?_)
 refine Ld.q ?_
 refine aa.lss ?_
 rw[decide_eq_false (by omega)]
 refine dO.or (a:=false) false (fun _=>?_) rfl fun gs=>Br.no ?_
 ·refine Ld.q ?_
  exact aa.m0 ⟨rfl,by rw[decide_eq_false (by omega)]⟩
 have NX:=af.pn hn
 refine ae.pq (nT hn rfl (by kernel_rfl) (F:=fun i=>if 6≤v then(if(i>>>(v-6)).testBit 0 then 18446744073709551615 else 0)else af.mask v) (fun i _=>by
  have:=af.p8 v
  split
  ·split<;>decide
  ·exact this) (B:=(b1,.cells #[.int .i64 (v:Int)] 3 (0,0))::B) fun i hi=>GI (by omega) (by omega) (Go.Sx.At.block (l:=[.int .i64 (v:Int)]) zM)) ?_
 rintro w N ⟨s,rfl,hw⟩
 refine St.p ?_ ?_
 ·have:=ax hw;simpa[Value.oneCell']using this
 refine av.q ?_
 refine jS.mk (by repeat (first|exact aG.refl _|apply aG.cons|apply aG.app)) ⟨_,rfl,_,⟨s,rfl,hw.mono zS⟩,lB hn,n6 (fun x hx=>?_) (fun x=>?_)⟩
 ·have hj:x%64<64:=Nat.mod_lt _ (by decide)
  have X9:x=64*(x/64)+x%64:=by omega
  by_cases h6:6≤v
  ·rw[if_pos h6]
   have e:x.testBit v=((x/64)>>>(v-6)).testBit 0:=by
    rw[Nat.testBit_shiftRight,Nat.add_zero]
    have:=Nat.testBit_div_two_pow (n:=6) x (v-6)
    rw[show(2:Nat)^6=64 from rfl]at this
    rw[this];congr 1;omega
   rw[e]
   cases ((x/64)>>>(v-6)).testBit 0
   ·exact Nat.zero_testBit _
   ·exact we hj
  ·rw[if_neg h6,af.cS]
   have:=Nat.testBit_mod_two_pow x 6 v
   rw[show(2:Nat)^6=64 from rfl]at this
   rw[this]
   simp[hj];omega
 ·rw[Nat.testBit_mod_two_pow];simp[hv]
end
end Go.Proofs
set_option maxRecDepth 100000
namespace Go.Proofs
open Go Go.Sx
open aU
section
variable {B:Hp}
theorem eM{n i:Nat}{ws:List Nat}(hf:af.bO n ws):ws.getD i 0<18446744073709551616:=by
 by_cases h:i<ws.length
 ·rw[List.getD_eq_getElem?_getD,List.getElem?_eq_getElem h];exact hf.lt (List.getElem_mem h)
 ·rw[List.getD_eq_getElem?_getD,List.getElem?_eq_none (by omega)];decide
theorem jd{n i:Nat}{ws:List Nat}(hf:af.bO n ws)(hi:i<af.wN n):ws[i]? =some (ws.getD i 0):=by
 rw[List.getD_eq_getElem?_getD,List.getElem?_eq_getElem (by rw[hf.len];exact hi)];rfl
def rY(op w u:Nat):Nat→Nat
 |0=>0
 |k+1=>if op.testBit k then rY op w u k|||([(18446744073709551615-w) &&& (18446744073709551615-u),(18446744073709551615-w) &&&u,w&&& (18446744073709551615-u),w&&&u].getD k 0)else rY op w u k
theorem Cw{w u k:Nat}(hw:w<18446744073709551616)(hu:u<18446744073709551616):[(18446744073709551615-w) &&& (18446744073709551615-u),(18446744073709551615-w) &&&u,w&&& (18446744073709551615-u),w&&&u].getD k 0<18446744073709551616:=by
 have h1:∀a b:Nat,a<18446744073709551616→a&&&b<18446744073709551616:=fun a b h=>Nat.lt_of_le_of_lt Nat.and_le_left h
 match k with
 |0=>exact h1 _ _ (by omega)
 |1=>exact h1 _ _ (by omega)
 |2=>exact h1 _ _ hw
 |3=>exact h1 _ _ hw
 |k+4=>exact(by decide:(0:Nat)<18446744073709551616)
theorem qg{op w u:Nat}(hw:w<18446744073709551616)(hu:u<18446744073709551616):∀k,rY op w u k<18446744073709551616
 |0=>by show(0:Nat)<18446744073709551616;decide
 |k+1=>by
  unfold rY
  split
  ·exact Nat.or_lt_two_pow (n:=64) (qg hw hu k) (Cw hw hu)
  ·exact qg hw hu k
theorem Jl{op w u j:Nat}(hw:w<18446744073709551616)(hu:u<18446744073709551616)(hj:j<64):(rY op w u 4).testBit j=TA op (w.testBit j) (u.testBit j):=by
 have nw:=uJ hw hj
 have nu:=uJ hu hj
 simp only[rY,List.getD_cons_zero,List.getD_cons_succ]
 unfold TA
 cases h0:op.testBit 0<;>cases h1:op.testBit 1<;>cases h2:op.testBit 2<;>cases h3:op.testBit 3<;>
  simp only[if_true,Bool.false_eq_true,if_false,Nat.testBit_or,Nat.testBit_and,nw,nu,Nat.zero_testBit]<;>
  cases w.testBit j<;>cases u.testBit j<;>simp[h0,h1,h2,h3]
theorem GM{p1 p2 p3 s1 s2:Value}{n i op:Nat}{ws us:List Nat}(h1:Go.Sx.At B p1 [.int .i64 (n:Int),s1])(h2:Go.Sx.At B p2 [.int .i64 (n:Int),s2])(h3:Go.Sx.At B p3 [.int .u8 (op:Int)])(hw:Words B s1 ws)(hu:Words B s2 us)(hf:af.bO n ws)(hg:af.bO n us)(hop:op<16)(hi:i<af.wN n):
  Rd Tryz.prog 239 #[.int .i64 (i:Int),p1,p2,p3] B (· =.int .u64 ((rY op (ws.getD i 0) (us.getD i 0) 4:Nat):Int)):=by
 have lw:=eM (i:=i) hf
 have lu:=eM (i:=i) hg
 refine aW fun g=>AB ?_
 refine ag.at h1 fun q hq=>Ld.at hq (fun _ h=>h) ?_
 refine hw.1.ld (bR (jd hf hi)) (fun _ h=>h) ?_
 refine ag.at h2 fun q hq=>Ld.at hq (fun _ h=>h) ?_
 refine hu.1.ld (bR (jd hg hi)) (fun _ h=>h) ?_
 generalize ws.getD i 0=w at*
 generalize us.getD i 0=u at*
 refine Un.Gv lw (Un.Gv lu ?_)
 refine aa.gY (by simp only[aY];omega) (by simp only[aY];omega) ?_
 refine Un.Gv lw ?_
 refine aa.gY (by simp only[aY];omega) (by simp only[aY];omega) ?_
 refine Un.Gv lu ?_
 refine aa.gY (by simp only[aY];omega) (by simp only[aY];omega) ?_
 refine aa.gY (by simp only[aY];omega) (by simp only[aY];omega) ?_
 refine an.Qk (e:=50) (by kernel_rfl) (by kernel_rfl) (by kernel_rfl) fun bx=>?_
 obtain⟨ps,hps⟩:∃ps,ps=[(18446744073709551615-w) &&& (18446744073709551615-u),(18446744073709551615-w) &&&u,w&&& (18446744073709551615-u),w&&&u]:=⟨_,rfl⟩
 have hI:bW .u64 [(bx,Obj.cells (az .u64 (iw ps)) 50 (0,0))] (.slice (some ⟨bx,0,none⟩) 4 4) (iw ps):=by
  have:=(aK.made (T:=50) (kd:=.u64) (b:=bx) (iw ps)).ints
  have hl:(iw ps).length=4:=by rw[hps];rfl
  rw[hl]at this;exact this
 have nj:ps.length=4:=by rw[hps];rfl
 have hH:(bx,Obj.cells (az .u64 [((((18446744073709551615-w) &&& (18446744073709551615-u):Nat)):Int),((((18446744073709551615-w) &&&u:Nat)):Int),(((w&&& (18446744073709551615-u):Nat)):Int),((w&&&u:Nat):Int)]) 50 (0,0))=(bx,Obj.cells (az .u64 (iw ps)) 50 (0,0)):=by rw[hps];rfl
 rw[hH]
 refine aA.mk ?_
 refine⟨fun vs H=>∃k:Nat,vs=[.int .u64 ((rY op w u k:Nat):Int),.int .i64 (k:Int)]∧k≤4∧H=(bx,Obj.cells (az .u64 (iw ps)) 50 (0,0))::B,fun vs _=>4-aT vs 1,JE.mk ⟨0,rfl,by omega,rfl⟩,?_⟩
 rintro Xy Sw H ⟨k,⟨⟩,hk,rfl⟩ gs
 refine aa.cZ (b:=4) (Br.dec (fun hlt=>?_) (fun hlt=>?_))
 ·intro J hJ
  refine hI.ld (n:=((ps.getD k 0:Nat):Int)) (bB (by omega)) (fun _ h=>by simp at h;rw[h];exact .head _) ?_
  refine Ld.at h3 (fun _ h=>.tail _ h) ?_
  refine aa.fD (by simp only[aY];omega) ?_
  refine aa.gY (b:=1) (by have:=Nat.shiftRight_le op k;simp only[aY];omega) (by decide) ?_
  have rB:(op>>>k) &&&1=(op.testBit k).toNat:=by
   rw[af.dY,Nat.testBit_shiftRight,Nat.add_zero]
   cases op.testBit k<;>rfl
  rw[rB]
  refine aa.iK (b:=1) ?_
  have Uc:ps.getD k 0<18446744073709551616:=by rw[hps];exact Cw lw lu
  cases hb:op.testBit k with
  |true=>
   refine Br.T ?_
   refine aa.yP (by simpa only[aY]using qg lw lu k) (by simpa only[aY]using Uc) ?_
   refine JE.mk (hJ _ _ fun gs=>?_)
   refine aa.inc ?_
   exact aq.mk ⟨k+1,by rw[rY,if_pos hb,hps],by omega,rfl⟩ (by simp only[aT];omega)
  |false=>
   refine Br.F ?_
   refine JE.mk (hJ _ _ fun gs=>?_)
   refine aa.inc ?_
   exact aq.mk ⟨k+1,by rw[rY,if_neg (by rw[hb];decide)],by omega,rfl⟩ (by simp only[aT];omega)
 ·obtain rfl:k=4:=by omega
  exact bK.mk .tail rfl
theorem PU{bx n:Nat}{s1 s2:Value}{ws us:List Nat}(h1:Words B s1 ws)(h2:Words B s2 us):bV ((bx,.cells (rows [[.int .i64 (n:Int),s1],[.int .i64 (n:Int),s2]]) 57 (0,0))::B) (.slice (some ⟨bx,0,none⟩) 2 2) [⟨n,ws⟩,⟨n,us⟩]:=by
 refine⟨[[.int .i64 (n:Int),s1],[.int .i64 (n:Int),s2]],(Sl.qN (aO.made (T:=57) (k:=2) (b:=bx) _ (by simp)) (by decide)).mono fun _ h=>by simp at h;rw[h];exact .head _,rfl,fun i r x hr hx=>?_⟩
 match i with
 |0=>simp at hr hx;subst hr;subst hx;exact⟨s1,rfl,h1.mono fun _ h=>.tail _ h⟩
 |1=>simp at hr hx;subst hr;subst hx;exact⟨s2,rfl,h2.mono fun _ h=>.tail _ h⟩
 |i+2=>simp at hr
theorem SA{v1 v2:Value}{n op:Nat}{f1 f2:aU.Fn}(hop:op<16)(h1:fW B v1 n f1)(h2:fW B v2 n f2):Px Tryz.prog 194 #[.int .u8 (op:Int),v1,v2] B (fun r H=>∃t,r=.tuple #[t,.int .i64 0]∧fW H t n (fun x=>TA op (f1 x) (f2 x))):=by
 obtain⟨ws,⟨s1,rfl,hw⟩,hf,rfl⟩:=h1
 obtain⟨us,⟨s2,rfl,hu⟩,hg,rfl⟩:=h2
 refine aW fun g=>Bb ?_
 intro b1 _ b3 _ b5 _ b7 _
 refine Ld.q ?_
 refine aa.jb (b:=15) (Br.F ?_)
 refine av.q ?_
 refine av.q ?_
 refine an.NI (e:=57) (z:=.agg #[.int .i64 0,.slice none 0 0]) (by kernel_rfl) (by kernel_rfl) (by kernel_rfl) fun bx=>?_
 refine ae.rd .here (rJ (PU (n:=n) (hw.mono zS) (hu.mono zS)) (by show 2<2^62;decide)) ?_
 rintro w rfl
 rw[decide_eq_true (by
  intro t ht
  simp only[List.mem_cons,List.not_mem_nil,or_false]at ht
  rcases ht with rfl|rfl
  ·exact⟨⟨by simp,by simpa using hf⟩,rfl⟩
  ·exact⟨⟨by simp,by simpa using hg⟩,rfl⟩)]
 refine Un.not (Br.no ?_)
 refine Ld.f ?_
 refine ae.pre (H':=(b7,.cells #[.int .i64 0,.slice none 0 0] 57 (0,0))::(b5,.cells #[.int .i64 (n:Int),s2] 57 (0,0))::(b3,.cells #[.int .i64 (n:Int),s1] 57 (0,0))::(b1,.cells #[.int .u8 (op:Int)] 5 (0,0))::B) .tail ?_
 refine ae.pq (nT hf.jz rfl (by kernel_rfl) (F:=fun i=>rY op (ws.getD i 0) (us.getD i 0) 4) (fun i _=>qg (eM hf) (eM hg) 4) (B:=(b5,.cells #[.int .i64 (n:Int),s2] 57 (0,0))::(b3,.cells #[.int .i64 (n:Int),s1] 57 (0,0))::(b1,.cells #[.int .u8 (op:Int)] 5 (0,0))::B)
  fun i hi=>GM (Go.Sx.At.block (l:=[.int .i64 (n:Int),s1]) zM) (Go.Sx.At.block (l:=[.int .i64 (n:Int),s2]) zM) (Go.Sx.At.block (l:=[.int .u8 (op:Int)]) zM) (hw.mono zS) (hu.mono zS) hf hg hop hi) ?_
 rintro w N ⟨s',rfl,cR⟩
 refine St.p ?_ ?_
 ·have:=ax cR;simpa[Value.oneCell']using this
 refine av.q ?_
 refine jS.mk (by repeat (first|exact aG.refl _|apply aG.cons|apply aG.app)) ⟨_,rfl,_,⟨s',rfl,cR.mono zS⟩,lB hf.jz,n6 (fun x hx=>?_) (fun x=>by rw[n5,n5])⟩
 rw[Jl (eM hf) (eM hg) (Nat.mod_lt _ (by decide)),j3 hx,j3 hx]
theorem GL{p1 p2 p3 s1 s2 s3:Value}{n i:Nat}{ws us rs:List Nat}(h1:Go.Sx.At B p1 [.int .i64 (n:Int),s1])(h2:Go.Sx.At B p2 [.int .i64 (n:Int),s2])(h3:Go.Sx.At B p3 [.int .i64 (n:Int),s3])(hw:Words B s1 ws)(hu:Words B s2 us)(hr:Words B s3 rs)(hf:af.bO n ws)(hg:af.bO n us)(hh:af.bO n rs)(hi:i<af.wN n):
  Rd Tryz.prog 221 #[.int .i64 (i:Int),p1,p2,p3] B (· =.int .u64 (((ws.getD i 0&&&us.getD i 0)|||((18446744073709551615-ws.getD i 0) &&&rs.getD i 0):Nat):Int)):=by
 have lw:=eM (i:=i) hf
 have lu:=eM (i:=i) hg
 have lr:=eM (i:=i) hh
 refine aW fun g=>AS ?_
 refine ag.at h1 fun q hq=>Ld.at hq (fun _ h=>h) ?_
 refine hw.1.ld (bR (jd hf hi)) (fun _ h=>h) ?_
 refine ag.at h2 fun q hq=>Ld.at hq (fun _ h=>h) ?_
 refine hu.1.ld (bR (jd hg hi)) (fun _ h=>h) ?_
 refine aa.gY (by simpa only[aY]using lw) (by simpa only[aY]using lu) ?_
 refine ag.at h1 fun q hq=>Ld.at hq (fun _ h=>h) ?_
 refine hw.1.ld (bR (jd hf hi)) (fun _ h=>h) ?_
 refine Un.Gv lw ?_
 refine ag.at h3 fun q hq=>Ld.at hq (fun _ h=>h) ?_
 refine hr.1.ld (bR (jd hh hi)) (fun _ h=>h) ?_
 refine aa.gY (by simp only[aY];omega) (by simpa only[aY]using lr) ?_
 refine aa.yP (Nat.lt_of_le_of_lt Nat.and_le_left (by simpa only[aY]using lw)) (Nat.lt_of_le_of_lt Nat.and_le_left (by simp only[aY];omega)) ?_
 exact bK.mk (.refl _) rfl
theorem PT{bx n:Nat}{s1 s2 s3:Value}{ws us rs:List Nat}(h1:Words B s1 ws)(h2:Words B s2 us)(h3:Words B s3 rs):bV ((bx,.cells (rows [[.int .i64 (n:Int),s1],[.int .i64 (n:Int),s2],[.int .i64 (n:Int),s3]]) 57 (0,0))::B) (.slice (some ⟨bx,0,none⟩) 3 3) [⟨n,ws⟩,⟨n,us⟩,⟨n,rs⟩]:=by
 refine⟨[[.int .i64 (n:Int),s1],[.int .i64 (n:Int),s2],[.int .i64 (n:Int),s3]],(Sl.qN (aO.made (T:=57) (k:=2) (b:=bx) _ (by simp)) (by decide)).mono fun _ h=>by simp at h;rw[h];exact .head _,rfl,fun i r x hr hx=>?_⟩
 match i with
 |0=>simp at hr hx;subst hr;subst hx;exact⟨s1,rfl,h1.mono fun _ h=>.tail _ h⟩
 |1=>simp at hr hx;subst hr;subst hx;exact⟨s2,rfl,h2.mono fun _ h=>.tail _ h⟩
 |2=>simp at hr hx;subst hr;subst hx;exact⟨s3,rfl,h3.mono fun _ h=>.tail _ h⟩
 |i+3=>simp at hr
theorem Kj{v1 v2 v3:Value}{n:Nat}{f1 f2 f3:aU.Fn}(h1:fW B v1 n f1)(h2:fW B v2 n f2)(h3:fW B v3 n f3):Px Tryz.prog 154 #[v1,v2,v3] B (fun r H=>∃t,r=.tuple #[t,.int .i64 0]∧fW H t n (fun x=>if f1 x then f2 x else f3 x)):=by
 obtain⟨ws,⟨s1,rfl,hw⟩,hf,rfl⟩:=h1
 obtain⟨us,⟨s2,rfl,hu⟩,hg,rfl⟩:=h2
 obtain⟨rs,⟨s3,rfl,hr⟩,hh,rfl⟩:=h3
 refine aW fun g=>BH ?_
 intro b1 _ b3 _ b5 _ b7 _
 refine av.q ?_
 refine av.q ?_
 refine av.q ?_
 refine an.NH (e:=57) (z:=.agg #[.int .i64 0,.slice none 0 0]) (by kernel_rfl) (by kernel_rfl) (by kernel_rfl) fun bx=>?_
 refine ae.rd .here (rJ (PT (n:=n) (hw.mono zS) (hu.mono zS) (hr.mono zS)) (by show 3<2^62;decide)) ?_
 rintro w rfl
 rw[decide_eq_true (by
  intro t ht
  simp only[List.mem_cons,List.not_mem_nil,or_false]at ht
  rcases ht with rfl|rfl|rfl
  ·exact⟨⟨by simp,by simpa using hf⟩,rfl⟩
  ·exact⟨⟨by simp,by simpa using hg⟩,rfl⟩
  ·exact⟨⟨by simp,by simpa using hh⟩,rfl⟩)]
 refine Un.not (Br.no ?_)
 refine Ld.f ?_
 refine ae.pre (H':=(b7,.cells #[.int .i64 0,.slice none 0 0] 57 (0,0))::(b5,.cells #[.int .i64 (n:Int),s3] 57 (0,0))::(b3,.cells #[.int .i64 (n:Int),s2] 57 (0,0))::(b1,.cells #[.int .i64 (n:Int),s1] 57 (0,0))::B) .tail ?_
 have ol:∀i,(ws.getD i 0&&&us.getD i 0)|||((18446744073709551615-ws.getD i 0) &&&rs.getD i 0)<18446744073709551616:=fun i=>
  Nat.or_lt_two_pow (n:=64) (Nat.lt_of_le_of_lt Nat.and_le_left (eM hf)) (Nat.lt_of_le_of_lt Nat.and_le_right (eM hh))
 refine ae.pq (nT hf.jz rfl (by kernel_rfl) (F:=fun i=>(ws.getD i 0&&&us.getD i 0)|||((18446744073709551615-ws.getD i 0) &&&rs.getD i 0)) (fun i _=>ol i) (B:=(b5,.cells #[.int .i64 (n:Int),s3] 57 (0,0))::(b3,.cells #[.int .i64 (n:Int),s2] 57 (0,0))::(b1,.cells #[.int .i64 (n:Int),s1] 57 (0,0))::B)
  fun i hi=>GL (Go.Sx.At.block (l:=[.int .i64 (n:Int),s1]) zM) (Go.Sx.At.block (l:=[.int .i64 (n:Int),s2]) zM) (Go.Sx.At.block (l:=[.int .i64 (n:Int),s3]) zM) (hw.mono zS) (hu.mono zS) (hr.mono zS) hf hg hh hi) ?_
 rintro w N ⟨s',rfl,cR⟩
 refine St.p ?_ ?_
 ·have:=ax cR;simpa[Value.oneCell']using this
 refine av.q ?_
 refine jS.mk (by repeat (first|exact aG.refl _|apply aG.cons|apply aG.app)) ⟨_,rfl,_,⟨s',rfl,cR.mono zS⟩,lB hf.jz,n6 (fun x hx=>?_) (fun x=>by rw[n5,n5,n5])⟩
 rw[Nat.testBit_or,Nat.testBit_and,Nat.testBit_and,uJ (eM hf) (Nat.mod_lt _ (by decide)),j3 hx,j3 hx,j3 hx]
 cases dz n ws x<;>cases dz n us x<;>cases dz n rs x<;>rfl
end
end Go.Proofs
namespace Go.Sx
open Go
section
variable {P:Program} {g:Gh} {H C:Hp} {c:Hp→Hp}
theorem aa.NC{kd:IntKind}{a b:Nat}{k:Value→Prop}(hb:b≠0)(h:k (.int kd ((a%b:Nat):Int))):aa .num .rem (.int kd a) (.int kd b) k:=
 aa.Mo (by omega) rfl (by have:((a:Int)).tmod (b:Int)=((a%b:Nat):Int):=rfl;rw[this];exact h)
end
end Go.Sx
set_option maxRecDepth 100000
namespace Go.Proofs
open Go Go.Sx
open aU
theorem G7{B:Hp}{v1 v2:Value}{p q:List Nat}{n:Nat}(h1:bW .i64 B v1 (iw p))(h2:bW .i64 B v2 (iw q))(hp:p.Perm (List.range n))(hq:q.Perm (List.range n))(hn:n≤64):
  Fc Tryz.prog 102 #[v1,v2] B (fun r H=>∃s C,r=.tuple #[s,.int .i64 0]∧H=C++B∧aK 3 .i64 s (iw (path p q)) C):=by
 have e1:p.length=n:=by rw[hp.length_eq,List.length_range]
 have e2:q.length=n:=by rw[hq.length_eq,List.length_range]
 have fB:q.Nodup:=hq.nodup_iff.2 List.nodup_range
 have hpq:=hp.trans hq.symm
 refine aW fun g=>B8 ?_
 refine ae.eq (L1 h1 h2 hp hq hn) ?_
 refine aa.fZ (Br.F ?_)
 refine ae.fq (rU h1 (by rw[ah];omega)) ?_
 rintro va H ⟨CA,rfl,hA⟩
 refine h2.aL ?_
 rw[ah]
 refine⟨fun vs H=>∃(i:Nat) (w9:Value) (C N:Hp),vs=[w9,.int .i64 (i:Int)]∧i≤n∧H=C++(N++B)∧aK 3 .i64 w9 (iw (aS p q i)) C∧aK 3 .i64 va (iw (bc p (aS p q i))) N,fun vs _=>n-aT vs 1,
  JE.mk ⟨0,_,[],CA,rfl,Nat.zero_le _,rfl,aK.nil,hA⟩,?_⟩
 rintro w9 Tq H ⟨i,u9,C,N,⟨⟩,hi,rfl,ho,hw⟩ gs
 refine aa.cZ (Br.dec (fun hlt=>?_) (fun hlt=>?_))
 rotate_left
 ·obtain rfl:i=q.length:=by omega
  exact bN.mk (.cv .right _) ⟨w9,C,rfl,rfl,ho⟩
 have spec:=fE fB hpq i (by omega)
 obtain⟨s1,s2,s3⟩:=spec
 obtain⟨s4,s5⟩:=s3 hlt
 have Wl:=oG fB hpq (i+1) (by omega)
 have vD:(i+1)*p.length≤64*64:=Nat.mul_le_mul (by omega) (by omega)
 refine h2.ld (n:=((q.getD i 0:Nat):Int)) (bB hlt) (fun _ h=>List.mem_append_right _ (List.mem_append_right _ h)) ?_
 have hmem:q.getD i 0∈bc p (aS p q i):=by
  have:q.getD i 0∈q:=by rw[List.getD_eq_getElem?_getD,List.getElem?_eq_getElem hlt];exact List.getElem_mem _
  exact((gC s1).trans hpq).mem_iff.2 this
 refine ae.eq (DS hw.ints (by rw[ah,fe];omega)) ?_
 rw[if_pos (NL.2 hmem),NV]
 refine⟨fun vs H=>∃(j:Nat) (u9:Value) (P:List Nat) (C N:Hp),vs=[u9,.int .i64 (j:Int)]∧i≤j∧j<n∧P++iG i j=aS p q (i+1)∧H=C++(N++B)∧aK 3 .i64 u9 (iw P) C∧aK 3 .i64 va (iw (bc p P)) N,fun vs _=>aT vs 1,
  JE.mk ⟨Gb (bc p (aS p q i)) (q.getD i 0),w9,aS p q i,C,N,rfl,s4,by omega,rfl,rfl,ho,hw⟩,?_⟩
 rintro VJ VI H ⟨j,u9,P,C2,N2,⟨⟩,hij,Pq,hP,rfl,jQ,lF⟩ gs
 refine aa.jb (Br.dec (fun hgt=>?_) (fun hgt=>?_))
 ·obtain⟨j,rfl⟩:∃k,j=k+1:=⟨j-1,by omega⟩
  have hPl:P.length≤4096:=by
   have:=congrArg List.length hP
   rw[List.length_append]at this;omega
  have hlen:(bc p P).length=n:=by rw[fe,e1]
  refine DR.self ?_
  refine aa.bX (b:=1) ?_
  rw[Nat.add_sub_cancel]
  refine lF.ld (x:=(((bc p P).getD (j+1) 0:Nat):Int)) (bB (by omega)) (fun _ h=>List.mem_append_right _ (List.mem_append_left _ h)) ?_
  refine aa.bX (b:=1) ?_
  rw[Nat.add_sub_cancel]
  refine lF.ld (x:=(((bc p P).getD j 0:Nat):Int)) (bB (by omega)) (fun _ h=>List.mem_append_right _ (List.mem_append_left _ h)) ?_
  refine lF.g8 (x:=(((bc p P).getD (j+1) 0:Nat):Int)) (.app .left) (by rw[ah];omega) fun N3 Pd=>?_
  refine Pd.g8 (x:=(((bc p P).getD j 0:Nat):Int)) (.app .left) (by rw[List.length_set,ah];omega) fun N4 V1=>?_
  have e:((iw (bc p P)).set j (((bc p P).getD (j+1) 0:Nat):Int)).set (j+1) (((bc p P).getD j 0:Nat):Int)=iw (bc p (P++[j])):=by
   rw[iP];unfold dQ;rw[eR,eR]
  rw[e]at V1
  refine aa.bX (b:=1) ?_
  rw[Nat.add_sub_cancel]
  refine an.int (e:=3) (by kernel_rfl) (by kernel_rfl) (by kernel_rfl) fun bx=>?_
  refine jQ.oh (.cons .left) (by exact .head _) (by rw[ah];omega) (by rw[ah];omega) fun v' C3 yl=>?_
  refine aa.bX (b:=1) ?_
  rw[Nat.add_sub_cancel]
  refine aq.of .tail ⟨j,v',P++[j],C3,N4,rfl,by omega,by omega,?_,rfl,by rw[cm];exact yl,V1⟩ ?_
  ·rw[←hP,fP (show i≤j by omega),List.append_assoc];rfl
  ·simp only[aT];omega
 ·obtain rfl:j=i:=by omega
  rw[jJ (Nat.le_refl _),List.append_nil]at hP
  subst hP
  refine aa.inc ?_
  exact aq.of (.refl _) ⟨j+1,VJ,C2,N2,rfl,by omega,rfl,jQ,lF⟩ (by simp only[aT];omega)
end Go.Proofs
set_option maxRecDepth 100000
namespace Go.Proofs
open Go Go.Sx
open aU
def wk(b kp f d:Nat)(ok:Bool):Nat×Obj:=(b,.cells #[ptr kp,.int .i64 (f:Int),.int .i64 (d:Int),.bool ok] 260 (0,0))
section
variable {kp b f d:Nat} {K:Kd} {S:Nat→aU.Fn} {ord tr:List Nat} {C:Hp}
theorem DI(h:At kp K S ord tr C):Fc Tryz.prog 104 #[ptr kp] C (fun r H=>∃b,r=ptr b∧H=wk b kp tr.length 0 false::C):=by
 refine aW fun g=>B6 ?_
 refine ae.eq (og h) ?_
 refine Build.mk (cs:=[ptr kp,.int .i64 ((tr.length:Nat):Int),.int .i64 0,.bool false]) (by kernel_rfl) ?_
 intro b _
 exact bN.here ⟨b,rfl,rfl⟩
theorem Gx(h:At kp K S ord tr C){l:Nat}(hl:l+1<K.n)(lH:tr.length<1099511627776)(hf:jV K S ord l)(hd:d<4611686018427387904):
  Fc Tryz.prog 107 #[ptr b,.int .i64 (l:Int)] (wk b kp f d false::C) (fun r H=>r=.int .i64 0∧∃C',H=wk b kp f (d+1) false::C'∧At kp K S (dQ ord l) (tr++[l]) C'):=by
 refine aW fun g=>su ?_
 refine Ld.n ?_
 refine ae.fq (Dp h hl lH hf) ?_
 rintro v C' ⟨rfl,h'⟩
 intro J hJ
 refine aa.oW (Br.T ?_)
 refine Ld.n ?_
 refine aa.inc ?_
 refine Nil.ptr (ag.mk (St.one (by exact .head _) rfl (by simp) rfl ?_))
 exact JE.mk (hJ _ fun gs=>bN.here ⟨rfl,C',rfl,h'⟩)
theorem Gy(h:At kp K S ord tr C){l:Nat}(hl:l+1<K.n)(lH:tr.length<1099511627776)(hf:¬jV K S ord l):
  Rd Tryz.prog 107 #[ptr b,.int .i64 (l:Int)] (wk b kp f d false::C) (· =.int .i64 9):=by
 refine aW fun g=>su ?_
 refine Ld.n ?_
 refine ae.eq (rZ h hl lH hf) ?_
 intro J hJ
 refine aa.oW (Br.F ?_)
 exact JE.mk (hJ _ fun gs=>bK.mk (.refl _) rfl)
theorem Gz{ok:Bool}{path:List Nat}(h:At kp K S (bc ord path) (tr++path) C)(hp:∀l∈path,l+1<K.n)(lH:(tr++path).length<1099511627776)(hd:d<4611686018427387904):
  Fc Tryz.prog 108 #[ptr b] (wk b kp tr.length d ok::C) (fun r H=>r=.tuple #[]∧∃C',H=wk b kp tr.length (d+path.length) ok::C'∧At kp K S ord tr C'):=by
 have nj:path.length<1099511627776:=by rw[List.length_append]at lH;omega
 refine aW fun g=>B5 ?_
 refine DR.of (R:=[wk b kp tr.length d ok]) (aJ.left (A:=[_]) (B:=C)) ?_
 refine Ld.n ?_
 refine Ld.n ?_
 refine ae.fq (args:=#[ptr kp,.int .i64 ((tr.length+0:Nat):Int)]) (L4 h hp (Nat.zero_le _) lH) ?_
 rintro v C' ⟨rfl,h'⟩
 rw[List.take_zero,List.append_nil]at h'
 refine⟨aJ.left (A:=[_]) (B:=C'),?_⟩
 refine Ext.two ?_
 refine Ld.n ?_
 refine aa.dx ?_
 refine Nil.ptr (ag.mk (St.one (by exact .head _) rfl (by simp) rfl ?_))
 exact bN.here ⟨rfl,C',rfl,h'⟩
theorem DG:Rd Tryz.prog 105 #[ptr b] (wk b kp f d true::C) (· =.tuple #[]):=by
 refine aW fun g=>sA ?_
 refine Ld.n ?_
 exact Un.not (Br.no (bK.mk (.refl _) rfl))
theorem DH{path:List Nat}(h:At kp K S (bc ord path) (tr++path) C)(hp:∀l∈path,l+1<K.n)(lH:(tr++path).length<1099511627776)(hd:d<4611686018427387904):
  Fc Tryz.prog 105 #[ptr b] (wk b kp tr.length d false::C) (fun r H=>r=.tuple #[]∧∃C',H=wk b kp tr.length (d+path.length) false::C'∧At kp K S ord tr C'):=by
 refine aW fun g=>sA ?_
 refine Ld.n ?_
 refine Un.not (Br.yes ?_)
 refine ae.fq (Gz h hp lH hd) ?_
 rintro v H ⟨rfl,C',rfl,h'⟩
 exact bN.here ⟨rfl,C',rfl,h'⟩
def Dv(kp:Nat)(K:Kd)(S:Nat→aU.Fn)(ord tr ls:List Nat)(r:Value)(C:Hp):Prop:=
 ((rm K S).can ord ls=true∧r=.tuple #[.int .i64 ((ls.length:Nat):Int),.int .i64 0]∧At kp K S (bc ord ls) (tr++ls) C)∨
 ((rm K S).can ord ls=false∧r=.tuple #[.int .i64 ((2*((rm K S).ct 0 ls ord).length:Nat):Int),.int .i64 9]∧At kp K S ord tr C)
theorem KS{Y:Hp}{v:Value}{ls:List Nat}(h:At kp K S ord tr C)(hI:bW .i64 Y v (iw ls))(hp:∀l∈ls,l+1<K.n)(lH:tr.length+ls.length<1099511627776):
  Fc Tryz.prog 103 #[ptr kp,v] (Y++C) (fun r H=>∃C',H=Y++C'∧Dv kp K S ord tr ls r C'):=by
 let m:=rm K S
 have Uw:=m.nZ 0 ls ord
 have Yv:∀i,∀l∈ls.take i,l+1<K.n:=fun i l hl=>hp l (List.mem_of_mem_take hl)
 refine aW fun g=>B7 ?_
 intro b1 _
 refine ae.fq (DI h) ?_
 rintro v3 H ⟨b,rfl,rfl⟩
 intro b5 _
 refine St.one (by exact .head _) rfl (by simp) rfl ?_
 refine hI.aL ?_
 rw[ah]
 refine⟨fun vs H=>∃i C2,i≤(m.ct 0 ls ord).length∧vs=[.int .i64 (i:Int)]∧H=(b5,.cells #[ptr b] 169 (0,0))::(b1,.cells #[.int .i64 0] 3 (0,0))::(Y++(wk b kp tr.length i false::C2))∧At kp K S (bc ord (ls.take i)) (tr++ls.take i) C2,
  fun vs _=>ls.length-aT vs 0,JE.mk ⟨0,C,Nat.zero_le _,rfl,rfl,by simpa[bc]using h⟩,?_⟩
 rintro w13 H ⟨i,C2,hi,⟨⟩,rfl,h2⟩ gs
 have Iu:(tr++ls.take i).length<1099511627776:=by rw[List.length_append,List.length_take];omega
 refine aa.cZ (Br.dec (fun hlt=>?_) (fun hlt=>?_))
 ·refine hI.ld (n:=((ls.getD i 0:Nat):Int)) (bB hlt) (fun _ h=>.tail _ (.tail _ (List.mem_append_left _ h))) ?_
  have eg:ls.getD i 0=ls[i]:=by rw[List.getD_eq_getElem?_getD,List.getElem?_eq_getElem hlt];rfl
  have zc:ls.getD i 0+1<K.n:=by rw[eg];exact hp _ (List.getElem_mem hlt)
  have eq:ls[i]? =some (ls.getD i 0):=by rw[eg];exact List.getElem?_eq_getElem hlt
  refine Ld.q ?_
  by_cases hg:i<(m.ct 0 ls ord).length
  ·have hf:jV K S (bc ord (ls.take i)) (ls.getD i 0):=yM.1 (m.xu hg eq)
   refine ae.fn (.cons (.cons (.app .here))) (Gx h2 zc Iu hf (by omega)) ?_
   rintro r H ⟨rfl,C3,rfl,h3⟩
   refine aa.fZ (Br.F ?_)
   refine aa.inc ?_
   refine aq.mk ⟨i+1,C3,hg,rfl,rfl,?_⟩ (by simp only[aT];omega)
   have e:ls.take (i+1)=ls.take i++[ls.getD i 0]:=by rw[List.take_add_one,eq];rfl
   rw[e,iP,←List.append_assoc];exact h3
  ·obtain rfl:i=(m.ct 0 ls ord).length:=by omega
   have hf:¬jV K S (bc ord (ls.take (m.ct 0 ls ord).length)) (ls.getD (m.ct 0 ls ord).length 0):=fun hf=>by
    have h8:=m.tS eq
    have h9:=yM.2 hf
    rw[show(rm K S).fit _ _=false from h8]at h9;cases h9
   refine ae.eq (Gy h2 zc Iu hf) ?_
   refine aa.fZ (Br.T ?_)
   refine St.one (by exact .tail (.head _)) rfl (by simp) rfl ?_
   refine pR (R:=_) ?_
   unfold L180
   refine Ld.q ?_
   refine ae.fn (.cons (.cons (.app .here))) (DH h2 (Yv _) Iu (by omega)) ?_
   rintro r H ⟨rfl,C3,rfl,h3⟩
   refine Ld.q ?_
   have eD:(m.ct 0 ls ord).length+(ls.take (m.ct 0 ls ord).length).length=2*(m.ct 0 ls ord).length:=by rw[List.length_take];omega
   rw[eD]
   refine Ld.n ?_
   refine St.one (by exact .tail (.head _)) rfl (by simp) rfl ?_
   refine⟨⟨_,rfl⟩,?_⟩
   refine Ld.q ?_
   refine bN.mk (.skip (.skip (.cv .tail _))) ⟨C3,rfl,.inr ⟨decide_eq_false (show¬(m.ct 0 ls ord).length=ls.length by omega),rfl,h3⟩⟩
 ·have Lv:i=ls.length:=by omega
  subst Lv
  rw[List.take_length]at h2
  have hcan:(rm K S).can ord ls=true:=decide_eq_true (show(m.ct 0 ls ord).length=ls.length by omega)
  refine Ld.q ?_
  refine Nil.ptr (ag.mk (St.one (cA.tail (cA.tail (cA.bP (.head _) _))) rfl (by simp) rfl ?_))
  refine St.one (by exact .tail (.head _)) rfl (by simp) rfl ?_
  refine pR (R:=_) ?_
  unfold L180
  refine Ld.q ?_
  refine ae.eq (B:=wk b kp tr.length ls.length true::C2) DG ?_
  refine Ld.q ?_
  refine Ld.n ?_
  refine St.one (by exact .tail (.head _)) rfl (by simp) rfl ?_
  refine⟨⟨_,rfl⟩,?_⟩
  refine Ld.q ?_
  refine bN.mk (.skip (.skip (.cv .tail _))) ⟨C2,rfl,.inl ⟨hcan,rfl,h2⟩⟩
end
section
variable {kp b f d:Nat} {K:Kd} {S:Nat→aU.Fn} {ord tr:List Nat} {C:Hp}
theorem Dv.XI{ls:List Nat}{r:Value}(h:Dv kp K S ord tr ls r C):∃x y,r=.tuple #[x,y]:=by
 rcases h with⟨_,rfl,_⟩|⟨_,rfl,_⟩<;>exact⟨_,_,rfl⟩
theorem Hh{Y:Hp}{v:Value}{q:List Nat}(h:At kp K S ord tr C)(hI:bW .i64 Y v (iw q))(y8:ord.Perm (List.range K.n))(hpq:q.Perm (List.range K.n))(lH:tr.length<549755813888):
  Fc Tryz.prog 42 #[ptr kp,v] (Y++C) (fun r H=>∃C',H=Y++C'∧Dv kp K S ord tr (path ord q) r C'):=by
 have hn:=h.Hs
 have CW:ord.length=K.n:=by rw[y8.length_eq,List.length_range]
 have Yt:q.length=K.n:=by rw[hpq.length_eq,List.length_range]
 have fB:q.Nodup:=hpq.nodup_iff.2 List.nodup_range
 refine aW fun g=>FL ?_
 refine aa.aC (Br.no ?_)
 intro J2 yx
 refine ae.rq (oF hI (by rw[ah];omega)) ?_
 rintro r (⟨rfl,ha,hl⟩|⟨_,_,hl⟩|⟨_,hno⟩)
 rotate_left
 ·rw[ah]at hl;omega
 ·exact absurd (r4 hpq) hno
 refine aa.fZ (Split.go (by decide) ?_)
 refine hI.aL ?_
 refine ae.eq (Dm h) ?_
 refine aa.l6 ?_
 rw[decide_eq_false (by rw[ah];omega)]
 refine ay.mk (JE.mk (yx _ _ fun gs=>Br.no ?_))
 refine ae.fq (x4 h) ?_
 rintro vo H ⟨N,rfl,ho⟩
 refine ae.pre (H':=(N++Y)++C) (.perm (by rw[List.append_assoc,←List.append_assoc,←List.append_assoc];exact List.perm_append_comm.append_right C)) ?_
 refine ae.fq (G7 (ho.ints.mono fun _ h=>List.mem_append_left _ h) (hI.mono fun _ h=>List.mem_append_right _ h) y8 hpq hn) ?_
 rintro r H ⟨s,CP,rfl,rfl,hP⟩
 refine Ext.mk rfl (Ext.mk rfl (aa.fZ (Br.F ?_)))
 obtain⟨_,nj⟩:=nJ fB (y8.trans hpq.symm)
 have Wd:(path ord q).length≤4096:=by
  have:=oG fB (y8.trans hpq.symm) q.length (Nat.le_refl _)
  have h2:q.length*ord.length≤64*64:=Nat.mul_le_mul (by omega) (by omega)
  unfold path;omega
 refine ae.fq (KS h (hP.ints.mono fun _ h=>List.mem_append_left _ h) (fun x hx=>by have:=nj x hx;omega) (by omega)) ?_
 rintro r H ⟨C',rfl,hM⟩
 obtain⟨x,y,rfl⟩:=hM.XI
 refine Ext.two ?_
 refine bN.mk ?_ ⟨C',rfl,hM⟩
 rw[List.append_assoc,List.append_assoc]
 exact aJ.right.trans .right
def KX(p:Nat):Nat→Nat→Nat
 |0,_=>p
 |_,k=>p-k
def EA(n p:Nat):Nat→Nat→Nat
 |0,k=>p+k
 |_,_=>n-1
end
section
variable {kp gb n:Nat} {vr vf:Value} {refs:List Nat} {fs:List (List Nat)} {K:Kd} {S:Nat→aU.Fn} {ord tr:List Nat} {C Z:Hp}
theorem KF{ord:List Nat}(hp:ord.Perm (List.range n)):∀i,i<n→ord.getD i 0<n:=fun i hi=>by
 have CW:ord.length=n:=by rw[hp.length_eq,List.length_range]
 have:ord.getD i 0∈ord:=by rw[List.getD_eq_getElem?_getD,List.getElem?_eq_getElem (by omega)];exact List.getElem_mem _
 exact List.mem_range.1 (hp.mem_iff.1 this)
end
end Go.Proofs
namespace Go.Sx
open Go
theorem aJ.sub{H Y:Hp}(hn:(Y.map Prod.fst).Nodup)(hs:∀x∈Y,x∈H):aJ H Y:=by
 intro g w h
 refine⟨h.os,h.out,h.tape,?_,fun x hx=>h.sR x ?_⟩
 ·have h1:=h.nd
  rw[List.map_append,List.nodup_append]at h1⊢
  refine⟨hn,h1.2.1,fun a ha b hb=>h1.2.2 a ?_ b hb⟩
  obtain⟨x,hx,rfl⟩:=List.mem_map.1 ha
  exact List.mem_map_of_mem (hs x hx)
 ·rcases List.mem_append.1 hx with hx|hx
  ·exact List.mem_append_left _ (hs x hx)
  ·exact List.mem_append_right _ hx
end Go.Sx
namespace Go.Sx
open Go Go.ChangeShapes Go.WideShapes Go.Deep
section
variable {H:Type} {enc:TypeId×Value→H} {P:Program} {W:World} {base:Nat} {spare:Nat→Bool} {held:Bool}
theorem pc(a:Addr)(n:Nat):(a.add n).block=a.block:=by unfold Addr.add;split<;>rfl
theorem vq(a:Addr)(n:Nat):(a.add n).off=a.off+n:=by unfold Addr.add;split<;>simp_all
theorem iA{b:Nat}{a:Addr}{k:Nat}{cs:List Value}(hk:0<k)(h:W.cells? b a k=some cs):
  a.spot=none∧∃c T fz,W.heap[a.block]? =some (.cells c T fz)∧a.off+k≤c.size∧c.extract a.off (a.off+k)=cs.toArray:=by
 obtain⟨_,hl,hg⟩:=World.cells?_some h
 have h0:=hg 0 hk
 have hc0:W.cell? a=some (cs[0]'(by omega)):=by
  have:a.add 0=a:=by simp[Addr.add]
  rw[this]at h0;rw[h0];exact List.getElem?_eq_getElem (by omega)
 unfold World.cell? at hc0
 split at hc0
 ·rename_i c T fz hb
  cases hs:a.spot with
  |some s=>rw[hs]at hc0;simp at hc0
  |none=>
   have hcell:∀i,i<k→c[a.off+i]? =cs[i]? :=fun i hi=>by
    have:=hg i hi
    unfold World.cell? at this
    rw[pc,hb]at this
    simp only[vq]at this
    have hsp:(a.add i).spot.isSome=false:=by unfold Addr.add;split<;>simp[hs]
    rw[hsp]at this
    simpa using this
   have hsz:a.off+k≤c.size:=by
    have:=hcell (k-1) (by omega)
    rw[List.getElem?_eq_getElem (by omega)]at this
    have:=(Array.getElem?_eq_some_iff.1 this).1
    omega
   refine⟨rfl,c,T,fz,hb,hsz,?_⟩
   apply Array.ext_getElem?
   intro i
   rw[Array.getElem?_extract]
   by_cases hi:i<k
   ·rw[if_pos (by omega),hcell i hi];simp
   ·rw[if_neg (by omega)];simp;omega
 ·simp at hc0
theorem Pb{t e:TypeId}{v:Value}{d:DataW H}{ps:List MemPlace}{r:Reach}{b0 k:Nat}(ht:P.underlying t=some (.slice e))(hk:P.cellsOf e=k)(Om:0<k)(hv:Value.okWide P W r b0 t v)(h:DataW.Trod enc P W base spare held t v d ps):
  (v=.slice none 0 0∧d=.nil)∨∃(a:Addr) (n cap:Nat) (es sp:List (DataW H)),v=.slice (some a) n cap∧d=.slice es sp∧es.length=n∧n≤cap∧
   ∀i,i<n→∃c T fz cs,a.spot=none∧(a.block,Obj.cells c T fz)∈whole W∧a.off+i*k+k≤c.size∧c.extract (a.off+i*k) (a.off+i*k+k)=cs.toArray∧∃fuel y,DataW.trod enc P W base spare held fuel e cs=some y∧cs.length=k:=by
 obtain⟨a0,n0,c0,rfl⟩:=okWide_slice ht hv
 obtain⟨fuel,hf⟩:=h
 rcases open_slice ht hf with⟨h1,h2⟩|⟨a,len,cap,m,n,D,Pl,hcs,hb,hl,hm,Lo,hx,hi⟩
 ·left
  simp only[Value.cells,List.cons.injEq,and_true]at h1
  simp only[Prod.mk.injEq]at h2
  exact⟨by simpa using h1,h2.1⟩
 ·right
  simp only[Prod.mk.injEq]at hx
  have wP:Value.slice a0 n0 c0=.slice (some a) len cap:=by simpa[Value.cells]using hcs
  have YI:len≤m:=by rw[Lo];split<;>omega
  refine⟨a,len,cap,_,_,wP,hx.1,by simp,hl,fun i hin=>?_⟩
  have hkk:=hk
  have wR:a.spot=none:=by
   obtain⟨WZ,hc0,_⟩:=hi 0 (by omega)
   rw[hk]at hc0
   rw[show a.add (0*k)=a by simp[Addr.add]]at hc0
   exact(iA Om hc0).1
  obtain⟨cs,hc,hd⟩:=hi i (by omega)
  rw[hk]at hc
  obtain⟨_,hlen,_⟩:=World.cells?_some hc
  obtain⟨_,c,T,fz,h1,h2,h3⟩:=iA Om hc
  rw[pc]at h1
  rw[vq]at h2 h3
  exact⟨c,T,fz,cs,wR,tA h1,h2,h3,n,_,hd,hlen⟩
theorem oD{t e:TypeId}{cs:List Value}{x:DataW H×List MemPlace}{fuel k:Nat}(ht:P.underlying t=some (.slice e))(hk:P.cellsOf e=k)(Om:0<k)(h:DataW.trod enc P W base spare held fuel t cs=some x):
  ∃(v:Value) (rs:List (List Value)),cs=[v]∧Sl k (whole W) v rs∧((rs=[]∧x.1=.nil)∨∃es sp,x.1=.slice es sp∧es.length=rs.length)∧
   ∀(i:Nat) (r:List Value),rs[i]? =some r→∃(fuel:Nat) (y:DataW H×List MemPlace) (es sp:List (DataW H)),DataW.trod enc P W base spare held fuel e r=some y∧x.1=.slice es sp∧es[i]? =some y.1:=by
 rcases open_slice ht h with⟨h1,h2⟩|⟨a,len,cap,m,n,D,Pl,hcs,hb,hl,hm,Lo,hx,hi⟩
 ·exact⟨_,[],h1,Sl.nil _ _,.inl ⟨rfl,by rw[h2]⟩,fun i r hr=>by simp at hr⟩
 ·have YI:len≤m:=by rw[Lo];split<;>omega
  have hex:∃rs:List (List Value),rs.length=len∧∀i r,rs[i]? =some r→W.cells? base (a.add (i*k)) k=some r∧DataW.trod enc P W base spare held n e r=some (D i,Pl i):=by
   clear hcs hx hl Lo
   induction len with
   |zero=>exact⟨[],rfl,fun i r hr=>by simp at hr⟩
   |succ len ih=>
    obtain⟨rs,h1,h2⟩:=ih (by omega)
    obtain⟨r,h3,h4⟩:=hi len (by omega)
    rw[hk]at h3
    refine⟨rs++[r],by simp[h1],fun i r' hr=>?_⟩
    by_cases hlt:i<rs.length
    ·rw[List.getElem?_append_left hlt]at hr;exact h2 i r' hr
    ·rw[List.getElem?_append_right (by omega)]at hr
     have EB:i-rs.length=0:=by
      by_cases e:i-rs.length=0
      ·exact e
      ·rw[List.getElem?_eq_none (by simp;omega)]at hr;cases hr
     rw[EB]at hr
     simp only[List.getElem?_cons_zero,Option.some.injEq]at hr
     subst hr
     obtain rfl:i=len:=by omega
     exact⟨h3,h4⟩
  obtain⟨rs,ni,SI⟩:=hex
  have aB:∀r∈rs,r.length=k:=fun r hr=>by
   obtain⟨i,hi,e⟩:=List.mem_iff_getElem.1 hr
   obtain⟨hc,_⟩:=SI i r (by rw[List.getElem?_eq_getElem hi,e])
   exact(World.cells?_some hc).2.1
  refine⟨.slice (some a) len cap,rs,hcs,⟨aB,?_⟩,.inr ⟨_,_,by rw[hx],by simp[ni]⟩,fun i r hr=>?_⟩
  ·cases rs with
   |nil=>exact .inl ⟨some a,cap,by rw[←ni];rfl,rfl⟩
   |cons r0 rest=>
    right
    obtain⟨hc0,_⟩:=SI 0 r0 rfl
    obtain⟨wR,c,T,fz,hb0,_,_⟩:=iA Om hc0
    rw[show a.add (0*k)=a by simp[Addr.add]]at wR hb0
    obtain⟨ab,ao,asp⟩:=a
    simp only at wR hb0
    subst wR
    have Rp:∀i r,(r0::rest)[i]? =some r→ao+i*k+k≤c.size∧c.extract (ao+i*k) (ao+i*k+k)=r.toArray:=fun i r hr=>by
     obtain⟨hc,_⟩:=SI i r hr
     obtain⟨_,c',T',fz',h1,h2,h3⟩:=iA Om hc
     rw[pc]at h1
     rw[vq]at h2 h3
     simp only at h1 h2 h3
     rw[hb0]at h1
     simp only[Option.some.injEq,Obj.cells.injEq]at h1
     obtain⟨rfl,_,_⟩:=h1
     exact⟨h2,h3⟩
    refine⟨ab,ao,cap,c,T,fz,by rw[ni],by omega,tA hb0,?_,fun i r hr j v hj=>?_⟩
    ·have CX:=Rp (rest.length) ((r0::rest)[rest.length]'(by simp)) (List.getElem?_eq_getElem (by simp))
     have:=CX.1
     simp only[List.length_cons,Nat.succ_mul];omega
    ·obtain⟨h1,h2⟩:=Rp i r hr
     have Ls:j<k:=by
      have:=(List.getElem?_eq_some_iff.1 hj).1
      rw[aB r (List.mem_of_getElem? hr)]at this;exact this
     have h3:=congrArg (fun z:Array Value=>z[j]?) h2
     simp only[Array.getElem?_extract,List.getElem?_toArray]at h3
     rw[hj]at h3
     rw[←h3,if_pos (by omega)]
  ·obtain⟨_,hd⟩:=SI i r hr
   have Lv:i<len:=by rw[←ni];exact(List.getElem?_eq_some_iff.1 hr).1
   exact⟨n,_,_,_,hd,by rw[hx],by simp[Lv]⟩
theorem s8{t e:TypeId}{q:IntKind}{cs:List Value}{x:DataW H×List MemPlace}{fuel:Nat}(ht:P.underlying t=some (.slice e))(he:P.underlying e=some (.int q))(hk:P.cellsOf e=1)(h:DataW.trod enc P W base spare held fuel t cs=some x):
  ∃(v:Value) (l:List Int),cs=[v]∧bW q (whole W) v l∧(∀n∈l,(Lit.int q n).wf=true)∧((l=[]∧x.1=.nil)∨∃es sp,x.1=.slice es sp∧es.length=l.length):=by
 obtain⟨v,rs,hcs,Ge,hx,hr⟩:=oD ht hk (by decide) h
 have hone:∀r∈rs,∃n,r=[.int q n]∧(Lit.int q n).wf=true:=fun r hm=>by
  obtain⟨i,hi,e⟩:=List.mem_iff_getElem.1 hm
  obtain⟨f,y,_,_,hy,_⟩:=hr i r (by rw[List.getElem?_eq_getElem hi,e])
  obtain⟨n,h1,_,h2⟩:=DataW.trod_int he hy
  exact⟨n,h1,h2⟩
 have hex:∃l:List Int,rs=l.map (fun n=>[Value.int q n])∧∀n∈l,(Lit.int q n).wf=true:=by
  clear Ge hx hr hcs
  induction rs with
  |nil=>exact⟨[],rfl,by simp⟩
  |cons r rest ih=>
   obtain⟨l,h1,h2⟩:=ih fun r hm=>hone r (by simp[hm])
   obtain⟨n,h3,h4⟩:=hone r (by simp)
   exact⟨n::l,by simp[h1,h3],fun m hm=>by rcases List.mem_cons.1 hm with rfl|hm;exact h4;exact h2 m hm⟩
 obtain⟨l,rfl,hwf⟩:=hex
 refine⟨v,l,hcs,Ge,hwf,?_⟩
 rcases hx with⟨h1,h2⟩|⟨es,sp,h1,h2⟩
 ·exact .inl ⟨by simpa using h1,h2⟩
 ·exact .inr ⟨es,sp,h1,by simpa using h2⟩
end
end Go.Sx
set_option maxRecDepth 100000
namespace Go.Proofs
open Go Go.Sx
section
open Go.ChangeShapes Go.WideShapes Go.Deep
variable {H:Type} {enc:TypeId×Value→H} {W:World} {base:Nat} {spare:Nat→Bool} {held:Bool}
theorem K7{f:FuncId}{args:Array Value}{W:World}(h:Rd Tryz.prog f args (whole W) (· =.bool true)):
  Calls Tryz.prog f args W fun e W'=>e=.returned (.bool true)∧Go.RowKit.Below W.heap.size W W':=
 NP (h.mono fun _ _ ⟨h1,h2⟩=>⟨by rw[h1];exact .refl _,h2⟩)
theorem vJ(W:World):((whole W).map Prod.fst).Nodup:=by
 have:=(tt W).nd
 rwa [List.append_nil]at this
end
end Go.Proofs
namespace aU
def dst(x y:Nat):Nat:=(x-y)+(y-x)
end aU
set_option maxRecDepth 100000
namespace Go.Proofs
open Go Go.Sx
theorem D7{B:Hp}{v:Value}{ts:List Tb}{n0:Int}(ht:bV B v ts)(aV:ts.length<2^62):
  Rd Tryz.prog 261 #[v,.int .i64 n0] B (· =.tuple (if fQ ts then#[.int .i64 ((ts.head?.map Tb.n).getD n0),.int .i64 0]else#[.int .i64 0,.int .i64 5])):=by
 refine aW fun g=>Ao ?_
 refine ht.aL ?_
 refine⟨fun vs H=>aG B H∧∃k:Nat,vs=[.int .i64 (if k=0 then n0 else(ts.head?.map Tb.n).getD n0),.int .i64 (k:Int)]∧k≤ts.length∧∀i t,i<k→ts[i]? =some t→TF t∧some t.n=ts.head?.map Tb.n,fun vs _=>ts.length-aT vs 1,JE.mk ⟨.refl _,0,rfl,by omega,by omega⟩,?_⟩
 rintro w6 w7 H ⟨hg,k,⟨⟩,hk,aB⟩ gs
 refine aa.cZ (Br.dec (fun hlt=>?_) (fun hlt=>?_))
 ·obtain⟨t,js⟩:∃t,ts[k]? =some t:=⟨_,List.getElem?_eq_getElem hlt⟩
  obtain⟨t0,wQ⟩:∃t,ts[0]? =some t:=⟨_,List.getElem?_eq_getElem (by omega)⟩
  have hh:ts.head?.map Tb.n=some t0.n:=by rw[List.head?_eq_getElem?,wQ];rfl
  have CV:=ht.mono hg.sub
  refine CV.ld js (fun _ h=>h) fun s hs=>?_
  intro b1 _
  refine St.p ?_ ?_
  ·obtain⟨a,c,rfl,_⟩:=hs.1.shape;simp[Value.oneCell']
  intro J hJ
  have hno:∀H',aG B H'→¬(TF t∧some t.n=ts.head?.map Tb.n)→JE J [.bool true] H':=fun H' IA h=>
   JE.mk (hJ _ _ fun gs=>Br.yes (bK.mk IA.nr (by rw[if_neg];exact fun hh=>h (hh t (List.mem_of_getElem? js)))))
  have yq:aG B ((b1,Obj.cells (List.toArray [.int .i64 t.n,s]) 57 (0,0))::H):=.cons hg
  refine DR.self ?_
  refine av.q ?_
  intro F
  refine ae.eq (B:=H) (qE ⟨s,rfl,hs⟩) ?_
  refine⟨.refl _,Un.not ?_⟩
  by_cases hT:TF t
  case neg=>rw[decide_eq_false hT];exact Br.yes (hno _ yq fun h=>hT h.1)
  rw[decide_eq_true hT]
  refine Br.no ?_
  refine ag.mk (Ld.mk zM rfl ?_)
  refine CV.NO wQ zS ?_
  refine aa.fZ (ay.mk ?_)
  simp only[cond_false]
  by_cases hn:t.n=t0.n
  case neg=>rw[decide_eq_true hn];exact hno _ yq fun h=>hn (by have:=h.2;rw[hh]at this;simpa using this)
  rw[decide_eq_false (by simpa using hn)]
  refine JE.mk (hJ _ _ fun gs=>Br.no ?_)
  refine ag.mk (Ld.mk zM rfl ?_)
  refine aa.inc ?_
  refine aq.mk ⟨yq,k+1,?_,by omega,fun i u hi hu=>?_⟩ (by simp[aT];omega)
  ·rw[if_neg (by omega),hh,hn];rfl
  by_cases e:i=k
  ·subst e;rw[js]at hu;cases hu;exact⟨hT,by rw[hh,hn]⟩
  ·exact aB i u (by omega) hu
 ·refine bK.mk hg.nr ?_
  have hk':k=ts.length:=by omega
  have hO:fQ ts:=fun t N6=>by
   obtain⟨i,hi,rfl⟩:=List.mem_iff_getElem.1 N6
   exact aB i _ (by omega) (List.getElem?_eq_getElem hi)
  rw[if_pos hO]
  by_cases h0:k=0
  ·rw[if_pos h0]
   have:ts=[]:=List.length_eq_zero_iff.1 (by omega)
   subst this;rfl
  ·rw[if_neg h0]
theorem vP{n A:Nat}{L:List (List Nat)}(hn:n≤16)(hl:L.length<33554432){k:Nat}(hk:k≤n):(af.st n L A k).length<2199023255551:=by
 have h2:=af.oE n L A k
 have h3:2^k≤2^16:=Nat.pow_le_pow_right (by decide) (by omega)
 have h4:2^k*L.length≤2^16*L.length:=Nat.mul_le_mul_right _ h3
 omega
theorem D5{B:Hp}{v:Value}{n u A:Nat}{L:List (List Nat)}(ht:bV B v (cY n L))(hf:∀ws∈L,af.bO n ws)(hne:L≠[])(aV:L.length<33554432)(hA:A<2^n)(hu:u<n)(Vk:A.testBit u=false):
  Rd Tryz.prog 230 #[v,.int .u64 (A:Int),.int .i64 (u:Int)] B (· =.tuple #[.int .i64 ((af.lvl n L A u:Nat):Int),.int .i64 0]):=by
 obtain⟨w0,oO⟩:∃w0,L[0]? =some w0:=⟨_,List.getElem?_eq_getElem (List.length_pos_iff.2 hne)⟩
 have fU:n≤16:=(hf w0 (List.mem_of_getElem? oO)).jz
 have Vm:A<65536:=Nat.lt_of_lt_of_le hA (Nat.pow_le_pow_right (n:=2) (by decide) fU)
 have Q7:((cY n L).head?.map Tb.n).getD 16=n:=by cases L with|nil=>exact absurd rfl hne|cons a b=>rfl
 refine aW fun g=>AJ ?_
 refine ae.eq (D7 ht (by rw[aF];omega)) ?_
 rw[if_pos (show fQ (cY n L)from nN hf),Q7]
 refine Ext.mk rfl (Ext.mk rfl (aa.fZ (Br.F ?_)))
 refine aa.lss (dO.or (decide (n≤u)) (fun _=>?_) rfl fun gs=>?_)
 ·exact aa.m0 ⟨rfl,rfl⟩
 rw[show(decide ((u:Int)<0)||decide (n≤u))=false by simp;omega]
 refine dO.or (decide (0<A>>>n)) (fun _=>?_) rfl fun gs=>?_
 ·refine aa.fD (by simp[aY];omega) ?_
  exact aa.jb (b:=0) ⟨rfl,rfl⟩
 rw[show(false||decide (0<A>>>n))=false by rw[Nat.shiftRight_eq_div_pow,Nat.div_eq_of_lt hA];rfl]
 refine Br.no ?_
 have N8:∀k,A>>>k<18446744073709551616:=fun k=>Nat.lt_of_le_of_lt (Nat.shiftRight_le _ _) (by omega)
 refine aa.fD (by simp[aY];omega) (aa.wx (b:=2) (by decide) (aa.iK (b:=1) ?_))
 refine Br.xO (by rw[af.jK,Vk];simp) ?_
 refine ae.pq (mO ht hf (by omega)) ?_
 rintro r N hr
 refine⟨fun vs H=>∃(k:Nat) (v:Value) (N:Hp),vs=[v,.int .i64 (k:Int)]∧k≤n∧H=N++B∧bV (N++B) v (cY n (af.st n L A k)),
  fun vs _=>n-aT vs 1,JE.mk ⟨0,_,N,rfl,by omega,rfl,hr⟩,?_⟩
 clear hr
 rintro VI Xy H ⟨k,v,N,⟨⟩,hk,rfl,hr⟩ gs
 have gH:=af.uB (A:=A) hf fU k
 have JP:=vP (A:=A) (L:=L) fU (by omega) hk
 refine aa.cZ (Br.dec (fun hlt=>?_) (fun hlt=>?_))
 ·intro J hJ
  refine aa.fD (by simp[aY];omega) (aa.wx (b:=2) (by decide) (aa.iK (b:=1) ?_))
  refine Br.dec (fun h=>?_) (fun h=>?_)
  ·have hb:=(af.jK A k).1 h
   refine ae.pq (tj hr gH fU hlt JP) ?_
   rintro r N' hr'
   refine JE.mk (hJ _ _ fun gs=>?_)
   refine aa.inc ?_
   refine aq.mk ⟨k+1,_,N'++N,rfl,by omega,by rw[List.append_assoc],?_⟩ (by simp[aT];omega)
   rw[List.append_assoc,af.st,if_pos hb];exact hr'
  ·have hb:A.testBit k=false:=by cases hh:A.testBit k;rfl;exact absurd ((af.jK A k).2 hh) h
   refine JE.mk (hJ _ _ fun gs=>?_)
   refine aa.inc ?_
   refine aq.mk ⟨k+1,_,N,rfl,by omega,rfl,?_⟩ (by simp[aT];omega)
   rw[af.st,hb];simpa using hr
 ·have:k=n:=by omega
  subst this
  refine ae.pq (ti hr gH hu (by omega)) ?_
  rintro r N' hr'
  refine hr'.aL ?_
  rw[aF]
  exact bK.mk (.bJ .right) rfl
end Go.Proofs
set_option maxRecDepth 100000
namespace Go.Proofs
open Go Go.Sx
theorem I7{B:Hp}{v1 v2:Value}{a b:List Nat}(h1:Words B v1 a)(h2:Words B v2 b)(aV:a.length<2^62):Rd Tryz.prog 222 #[v1,v2] B (· =.bool (decide (a=b))):=by
 refine aW fun g=>AR ?_
 refine h1.1.aL (h2.1.aL ?_)
 simp only[ah]
 refine aa.l6 (Br.dec (fun h=>?_) (fun h=>?_))
 ·exact bK.mk (.refl _) (by rw[decide_eq_false (fun e=>h (by rw[e]))])
 ·refine h1.1.aL ?_
  simp only[ah]
  have hlen:a.length=b.length:=by omega
  refine⟨fun vs H=>H=B∧∃j:Nat,vs=[.int .i64 (j:Int)]∧j≤a.length∧∀i,i<j→a[i]? =b[i]?,fun vs _=>a.length-aT vs 0,JE.mk ⟨rfl,0,rfl,by omega,by omega⟩,?_⟩
  rintro w H ⟨rfl,j,⟨⟩,hj,aB⟩ gs
  refine aa.cZ (Br.dec (fun hlt=>?_) (fun hlt=>?_))
  ·have ga:a[j]? =some a[j]:=List.getElem?_eq_getElem hlt
   have gb:b[j]? =some b[j]:=List.getElem?_eq_getElem (by omega)
   refine h1.1.ld (bR ga) (fun _ h=>h) ?_
   refine h2.1.ld (bR gb) (fun _ h=>h) ?_
   refine aa.l6 (Br.dec (fun hne=>?_) (fun hne=>?_))
   ·exact bK.mk (.refl _) (by rw[decide_eq_false];rintro rfl;exact hne rfl)
   ·refine aa.inc ?_
    refine aq.mk ⟨rfl,j+1,rfl,by omega,fun i hi=>?_⟩ (by simp[aT];omega)
    by_cases e:i=j
    ·subst e;rw[ga,gb];simp;omega
    ·exact aB i (by omega)
  ·refine bK.mk (.refl _) ?_
   rw[decide_eq_true]
   apply List.ext_getElem? 
   intro i
   by_cases hi:i<a.length
   ·exact aB i (by omega)
   ·rw[List.getElem?_eq_none (by omega),List.getElem?_eq_none (by omega)]
theorem HA{B:Hp}{v:Value}{n u A:Nat}{L:List (List Nat)}(ht:bV B v (L.map fun ws=>⟨n,ws⟩))(hf:∀ws∈L,af.bO n ws)(hne:L≠[])(aV:L.length<4398046511104)(hA:A<2^n)(hu:u<n)(Vk:A.testBit u=false):
  Rd Tryz.prog 157 #[v,.int .u64 (A:Int),.int .i64 (u:Int)] B (· =.tuple #[.int .i64 ((af.lvl n L A u:Nat):Int),.int .i64 0]):=by
 obtain⟨w0,oO⟩:∃w0,L[0]? =some w0:=⟨_,List.getElem?_eq_getElem (List.length_pos_iff.2 hne)⟩
 have fU:n≤16:=(hf w0 (List.mem_of_getElem? oO)).jz
 have Vm:A<65536:=Nat.lt_of_lt_of_le hA (Nat.pow_le_pow_right (n:=2) (by decide) fU)
 refine aW fun g=>BE ?_
 refine ae.eq (qD ht (by simp;omega)) ?_
 rw[decide_eq_true (nN hf)]
 refine Un.not (Br.no ?_)
 intro J hJ
 refine ht.aL ?_
 rw[List.length_map]
 have hpos:0<L.length:=List.length_pos_iff.2 hne
 refine aa.jb (b:=0) (Br.zF hpos ?_)
 refine ht.NO (i:=0) (t:=⟨n,w0⟩) (by rw[List.getElem?_map,oO];rfl) (fun _ h=>h) ?_
 refine JE.mk (hJ _ _ fun gs=>?_)
 simp only
 refine aa.lss (dO.or (decide (n≤u)) (fun _=>?_) rfl fun gs=>?_)
 ·exact aa.m0 ⟨by trivial,rfl⟩
 rw[show(decide ((u:Int)<0)||decide (n≤u))=false by simp;omega]
 refine dO.or (decide (A>>>n≠0)) (fun _=>?_) rfl fun gs=>?_
 ·refine aa.fD (by simp[aY];omega) ?_
  exact aa.l6 (b:=0) ⟨by trivial,rfl⟩
 rw[show(false||decide (A>>>n≠0))=false by rw[Nat.shiftRight_eq_div_pow,Nat.div_eq_of_lt hA];rfl]
 refine Br.no ?_
 have N8:∀k,A>>>k<18446744073709551616:=fun k=>Nat.lt_of_le_of_lt (Nat.shiftRight_le _ _) (by omega)
 refine aa.fD (by simp[aY];omega) (aa.gY (b:=1) (by simpa[aY]using N8 u) (by decide) (aa.iK (b:=1) ?_))
 refine Br.xO (by rw[af.qe,Vk];simp) ?_
 refine ae.fq (Eb ht rfl hf (by omega)) ?_
 rintro r H ⟨b,es,ck,m,N,rfl,rfl,hE,hm⟩
 have hbound:∀k,k≤n→∀m:List (List UInt8×List Nat),(m.map Prod.snd).Nodup→(∀x,x∈m.map Prod.snd↔x∈af.st n L A k)→m.length<4611686018427387904:=by
  intro k hk m fB hmem
  have h1:=(af.fh fB (af.j8 n L A k) hmem).length_eq
  have h2:=af.oE n L A k
  have h3:2^k≤2^16:=Nat.pow_le_pow_right (by decide) (by omega)
  have h4:2^k*L.length≤2^16*L.length:=Nat.mul_le_mul_right _ h3
  rw[List.length_map]at h1
  omega
 refine⟨fun vs H=>∃(k:Nat) (b:Nat) (es:Array MapEntry) (ck:Nat) (m:List (List UInt8×List Nat)) (N:Hp),vs=[.map (some b),.int .i64 (k:Int)]∧k≤n∧H=(b,.map es ck)::(N++B)∧e7 n (N++B) es ck m∧∀x,x∈m.map Prod.snd↔x∈af.st n L A k,
  fun vs _=>n-aT vs 1,JE.mk ⟨0,b,es,ck,m,N,rfl,by omega,rfl,hE,fun x=>by rw[hm];exact af.bY.symm⟩,?_⟩
 clear hm hE
 rintro Sw Xx H ⟨k,b,es,ck,m,N,⟨⟩,hk,rfl,hE,hm⟩ gs
 have zq:=hE.mono (B':=(b,Obj.map es ck)::(N++B)) zS
 refine aa.cZ (Br.dec (fun hlt=>?_) (fun hlt=>?_))
 ·intro J hJ
  refine aa.fD (by simp[aY];omega) (aa.gY (b:=1) (by simpa[aY]using N8 k) (by decide) (aa.iK (b:=1) ?_))
  refine Br.dec (fun h=>?_) (fun h=>?_)
  ·have hb:=(af.qe A k).1 h
   refine ae.fq (xx (.head _) zq hlt (hbound k hk m hE.nodup hm)) ?_
   rintro r H ⟨b',es',dw,m',N',rfl,rfl,rG,hm'⟩
   refine Ext.mk rfl (Ext.mk rfl (JE.mk (hJ _ _ fun gs=>?_)))
   refine aa.inc ?_
   refine aq.mk ⟨k+1,b',es',dw,m',N'++(b,.map es ck)::N,rfl,by omega,by rw[List.append_assoc];rfl,by rw[List.append_assoc];exact rG,fun x=>?_⟩ (by simp[aT];omega)
   rw[hm',af.st,if_pos hb,af.bt]
   constructor
   ·rintro⟨t,h1,h2⟩;exact⟨t,(hm t).1 h1,h2⟩
   ·rintro⟨t,h1,h2⟩;exact⟨t,(hm t).2 h1,h2⟩
  ·have hb:A.testBit k=false:=by cases hh:A.testBit k;rfl;exact absurd ((af.qe A k).2 hh) h
   refine JE.mk (hJ _ _ fun gs=>?_)
   refine aa.inc ?_
   refine aq.mk ⟨k+1,b,es,ck,m,N,rfl,by omega,rfl,hE,fun x=>?_⟩ (by simp[aT];omega)
   rw[hm,af.st,hb];simp
 ·have:k=n:=by omega
  subst this
  refine ae.fq (xx (.head _) zq hu (hbound k hk m hE.nodup hm)) ?_
  rintro r H ⟨b',es',dw,m',N',rfl,rfl,rG,hm'⟩
  refine Ext.mk rfl (Ext.mk rfl ?_)
  refine bK.mk ?_ ?_
  ·exact .skip (.bJ (.skip .right))
  ·have:=af.gP (n:=k) (v:=u) (af.fh hE.nodup (af.j8 k L A k) hm)
   unfold af.lvl;rw[←this];rfl
theorem qu{B:Hp}{v:Value}{t:Tb}(ht:iL B v t):Rd Tryz.prog 156 #[v] B (· =.tuple (if TF t then#[.int .u64 ((af.mJ t.n.toNat t.ws:Nat):Int),.int .i64 0]else#[.int .u64 0,.int .i64 5])):=by
 obtain⟨tn,ws⟩:=t
 obtain⟨s,rfl,hw⟩:=ht
 simp only at hw⊢
 refine aW fun g=>BF ?_
 intro b1 _
 refine av.q ?_
 refine dW fun b2=>?_
 refine ae.rd .here (rK (t:=⟨tn,ws⟩) (by exact .head _) (hw.mono zS)) ?_
 rintro v rfl
 refine Un.not ?_
 by_cases hT:TF ⟨tn,ws⟩
 case neg=>
  rw[decide_eq_false hT,if_neg hT]
  exact Br.yes (bK.mk (by repeat (first|exact aJ.refl _|apply aJ.cons|apply aJ.skip|apply aJ.cv|apply aJ.bJ)) rfl)
 rw[decide_eq_true hT,if_pos hT]
 refine Br.no ?_
 obtain⟨n,rfl⟩:∃n:Nat,tn=n:=⟨tn.toNat,by have:=hT.1;simp only at this;omega⟩
 have hf:af.bO n ws:=by have:=hT.2;simpa using this
 refine ag.mk (Ld.mk zM rfl ?_)
 refine⟨fun vs H=>∃(k:Nat) (N:Hp),vs=[.int .u64 ((af.iQ n ws k:Nat):Int),.int .i64 (k:Int)]∧k≤n∧H=(b1,.cells (Value.cells (.agg #[.int .i64 (n:Int),s])) 57 (0,0))::(N++B),
  fun vs _=>n-aT vs 1,JE.of .tail ⟨0,[],rfl,by omega,rfl⟩,?_⟩
 rintro To w16 H ⟨k,N,⟨⟩,hk,rfl⟩ gs
 have fU:=hf.jz
 have Ge:=af.j7 n ws k
 have Yq:af.iQ n ws k<65536:=Nat.lt_of_lt_of_le Ge (Nat.pow_le_pow_right (n:=2) (by decide) (by omega:k≤16))
 refine aa.cZ (Br.dec (fun hlt=>?_) (fun hlt=>?_))
 ·intro J hJ
  refine DR.self ?_
  refine av.q (av.q ?_)
  refine ae.pq (B:=N++B) (uZ (v:=.agg (List.toArray [.int .i64 (n:Int),s])) ⟨s,rfl,hw.mono zS⟩ hf hlt) ?_
  rintro v N1 ⟨s1,rfl,gS⟩
  refine⟨.cons .right,yA.mk rfl ?_⟩
  refine ae.pq (B:=N1++(N++B)) (uZ (v:=.agg (List.toArray [.int .i64 (n:Int),s])) ⟨s,rfl,hw.mono zS⟩ hf hlt) ?_
  rintro v N2 ⟨s2,rfl,lF⟩
  refine⟨.cons (.bJ .right),yA.mk rfl ?_⟩
  refine ae.eq (B:=N2++(N1++(N++B))) (I7 (gS.mono zS) lF (by have:=dM (af.cg (v:=k) (ws:=ws) (b:=false) hf.jz);simp only;omega)) ?_
  refine⟨.cons (.bJ .right),Un.not ?_⟩
  have dH:JE J [.int .u64 ((af.iQ n ws (k+1):Nat):Int)] ((b1,.cells (Value.cells (.agg #[.int .i64 (n:Int),s])) 57 (0,0))::(N2++(N1++(N++B)))):=by
   refine JE.mk (hJ _ _ fun gs=>?_)
   refine aa.inc ?_
   exact aq.mk ⟨k+1,N2++(N1++N),rfl,by omega,by rw[List.append_assoc,List.append_assoc]⟩ (by simp[aT];omega)
  rw[af.iQ]at dH
  by_cases hd:af.dep n ws k=true
  ·rw[if_pos hd]at dH
   have:af.dj n ws k false≠af.dj n ws k true:=by simpa[af.dep]using hd
   rw[decide_eq_false this]
   refine Br.yes ?_
   refine aa.nF (a:=1) ?_
   have h2:2^k<65536:=Nat.lt_of_lt_of_le (Nat.pow_lt_pow_right (n:=16) (by decide) (by omega)) (by decide)
   rw[Nat.one_shiftLeft,Nat.mod_eq_of_lt (by omega)]
   exact aa.yP (by simp[aY];omega) (by simp[aY];omega) dH
  ·rw[if_neg hd]at dH
   have:af.dj n ws k false=af.dj n ws k true:=by simpa[af.dep]using hd
   rw[decide_eq_true this]
   exact Br.no dH
 ·have:k=n:=by omega
  subst this
  refine bK.mk (.skip .right) ?_
  simp[af.mJ]
theorem Hf{B:Hp}{v:Value}{ts:List Tb}(ht:bV B v ts)(aV:ts.length<4398046511104):Px Tryz.prog 155 #[v] B (fun r _=>∃s,r=.tuple #[s,.int .i64 (if fQ ts then 0 else 5)]):=by
 refine aW fun g=>BG ?_
 refine ae.eq (qD ht (by omega)) ?_
 refine Un.not ?_
 by_cases hO:fQ ts
 case neg=>rw[decide_eq_false hO,if_neg hO];exact Br.yes (jS.mk (.refl _) ⟨_,rfl⟩)
 rw[decide_eq_true hO,if_pos hO]
 refine Br.no (ht.aL (aa.iK (b:=0) (Br.dec (fun h0=>jS.mk (.refl _) ⟨_,rfl⟩) (fun h0=>?_))))
 obtain⟨n,L,fU,rfl,hne,hf⟩:=uI hO (by intro e;rw[e]at h0;exact h0 rfl)
 rw[List.length_map]at aV
 obtain⟨w0,oO⟩:∃w0,L[0]? =some w0:=⟨_,List.getElem?_eq_getElem (List.length_pos_iff.2 hne)⟩
 refine ht.NO (i:=0) (t:=⟨n,w0⟩) (by rw[List.getElem?_map,oO];rfl) (fun _ h=>h) ?_
 simp only
 refine br.ints (by omega) (by omega) fun bw=>?_
 refine ht.aL ?_
 refine⟨fun vs H=>∃(k:Nat) (l:List Nat),vs=[.int .i64 (k:Int)]∧k≤L.length∧H=(bw,.cells (az .u64 (iw l)) 50 (0,0))::B∧l.length=n∧∀w∈l,w<18446744073709551616,
  fun vs _=>L.length-aT vs 0,JE.mk ⟨0,List.replicate n 0,rfl,by omega,by simp[iw],by simp,fun w hw=>by rw[List.eq_of_mem_replicate hw];decide⟩,?_⟩
 rintro w H ⟨k,l,⟨⟩,hk,rfl,hl,MN⟩ gs
 rw[List.length_map]
 refine aa.cZ (Br.dec (fun hlt=>?_) (fun hlt=>?_))
 ·have hg:(L.map fun ws=>(⟨n,ws⟩:Tb))[k]? =some ⟨n,L[k]⟩:=by rw[List.getElem?_map,List.getElem?_eq_getElem hlt];rfl
  have gH:=hf L[k] (List.getElem_mem hlt)
  refine ht.ld hg zS fun s hw=>?_
  intro b2 _
  refine St.p ?_ ?_
  ·have:=ax hw;simpa[Value.oneCell']using this
  refine av.q ?_
  refine ae.eq (B:=B) (qu (v:=.agg (List.toArray [.int .i64 (n:Int),s])) (t:=⟨n,L[k]⟩) ⟨s,rfl,hw⟩) ?_
  rw[if_pos (show TF ⟨(n:Int),L[k]⟩from⟨by simp,by simpa using gH⟩)]
  refine Ext.mk rfl (Ext.mk rfl (aA.mk ?_))
  simp only[Int.toNat_natCast]
  have Qw:af.mJ n L[k]<65536:=Nat.lt_of_lt_of_le (af.j7 n L[k] n) (Nat.pow_le_pow_right (n:=2) (by decide) fU)
  refine⟨fun vs H=>∃(j:Nat) (l:List Nat),vs=[.int .i64 (j:Int)]∧j≤n∧H=(bw,.cells (az .u64 (iw l)) 50 (0,0))::B∧l.length=n∧∀w∈l,w<18446744073709551616,
   fun vs _=>n-aT vs 0,JE.of .tail ⟨0,l,rfl,by omega,rfl,hl,MN⟩,?_⟩
  rintro w H ⟨j,l,⟨⟩,hj,rfl,hl,MN⟩ gs
  refine aa.cZ (Br.dec (fun MP=>?_) (fun MP=>?_))
  ·intro J hJ
   have dH:∀l:List Nat,l.length=n→(∀w∈l,w<18446744073709551616)→JE J [] ((bw,.cells (az .u64 (iw l)) 50 (0,0))::B):=fun l hl MN=>by
    refine JE.mk (hJ _ fun gs=>?_)
    refine aa.inc ?_
    exact aq.mk ⟨j+1,l,rfl,by omega,rfl,hl,MN⟩ (by simp[aT];omega)
   have hsh:af.mJ n L[k]>>>j<65536:=Nat.lt_of_le_of_lt (Nat.shiftRight_le _ _) Qw
   refine aa.fD (by simp[aY];omega) (aa.gY (b:=1) (by simp[aY];omega) (by decide) (aa.iK (b:=1) ?_))
   refine Br.dec (fun h=>?_) (fun h=>dH l hl MN)
   refine DR.self ?_
   have Ux:l[j]? =some l[j]:=List.getElem?_eq_getElem (by omega)
   have Wj:=MN _ (List.getElem_mem (show j<l.length by omega))
   refine aj.nat MP ?_
   refine Ld.mk (v:=.int .u64 (l[j]:Int)) (by exact .head _) (by simp[az,iw,Ux]) ?_
   refine aa.nF (a:=1) ?_
   have h2:2^j<65536:=Nat.lt_of_lt_of_le (Nat.pow_lt_pow_right (n:=16) (by decide) (by omega)) (by decide)
   rw[Nat.one_shiftLeft,Nat.mod_eq_of_lt (by omega)]
   refine aa.x7 (by simp[aY];omega) (by simp[aY];omega) ?_
   have h3:=iB (af.mJ n L[k]) (2^j)
   refine aa.yP (by simp only[aY];exact Wj) (by simp only[aY];omega) ?_
   refine aj.nat MP ?_
   refine St.ints (l:=iw l) (by exact .head _) (by simp;omega) ?_
   have e:(iw l).set j ((l[j]|||jL (af.mJ n L[k]) (2^j):Nat):Int)=iw (l.set j (l[j]|||jL (af.mJ n L[k]) (2^j))):=by simp[iw,List.map_set]
   rw[e]
   refine dH _ (by simp[hl]) fun w hw=>?_
   rcases List.mem_or_eq_of_mem_set hw with hw|rfl
   ·exact MN w hw
   ·exact Nat.or_lt_two_pow (n:=64) Wj (by omega)
  ·refine aa.inc ?_
   exact aq.mk ⟨k+1,l,rfl,by omega,rfl,hl,MN⟩ (by simp[aT];omega)
 ·exact jS.mk (by repeat (first|exact aG.refl _|apply aG.cons|apply aG.app)) ⟨_,rfl⟩
end Go.Proofs
namespace af
open Go.Sx
def c8:List Nat→Nat
 | []=>0
 |x::r=>r.foldl min x
theorem n4:∀(r:List Nat) (x:Nat),r.foldl min x≤x∧∀y∈r,r.foldl min x≤y
 | [],x=>⟨Nat.le_refl _,by simp⟩
 |z::r,x=>by
  obtain⟨h1,h2⟩:=n4 r (min x z)
  refine⟨by rw[List.foldl_cons];omega,fun y hy=>?_⟩
  rw[List.foldl_cons]
  rcases List.mem_cons.1 hy with rfl|hy
  ·omega
  ·exact h2 y hy
theorem my:∀(r:List Nat) (x:Nat),r.foldl min x=x∨r.foldl min x∈r
 | [],x=>.inl rfl
 |z::r,x=>by
  rw[List.foldl_cons]
  rcases my r (min x z)with h|h
  ·rw[h]
   rcases Nat.le_total x z with h'|h'
   ·left;omega
   ·right;rw[Nat.min_eq_right h'];simp
  ·right;exact List.mem_cons_of_mem _ h
theorem qV{l:List Nat}{y:Nat}(h:y∈l):c8 l≤y:=by
 cases l with
 |nil=>simp at h
 |cons x r=>
  obtain⟨h1,h2⟩:=n4 r x
  rcases List.mem_cons.1 h with rfl|h
  ·exact h1
  ·exact h2 y h
theorem gE{l:List Nat}(h:l≠[]):c8 l∈l:=by
 cases l with
 |nil=>exact absurd rfl h
 |cons x r=>
  rcases my r x with h|h
  ·show r.foldl min x∈_;rw[h];simp
  ·exact List.mem_cons_of_mem _ h
theorem wA{l:List Nat}{m:Nat}(h1:m∈l)(h2:∀y∈l,m≤y):c8 l=m:=
 Nat.le_antisymm (qV h1) (h2 _ (gE (by intro e;rw[e]at h1;simp at h1)))
theorem qU(l:List Nat)(x:Nat):c8 (l++[x])=if l=[]then x else min (c8 l) x:=by
 cases l with
 |nil=>rfl
 |cons y r=>simp[c8,List.foldl_append]
def bg(n a:Nat):List Nat:=(List.range n).filter fun v=> !a.testBit v
def has(n a:Nat):List Nat:=(List.range n).filter fun v=>a.testBit v
theorem bI{n a v:Nat}:v∈bg n a↔v<n∧a.testBit v=false:=by simp[bg]
theorem de{n a v:Nat}:v∈has n a↔v<n∧a.testBit v=true:=by simp[has]
theorem iz{α:Type}(p q:α→Bool)(x:α):∀(l:List α),l.Nodup→x∈l→p x=true→q x=false→(∀y∈l,y≠x→q y=p y)→(l.filter q).length+1=(l.filter p).length
 | [],_,h,_,_,_=>by simp at h
 |y::l,nd,h,hp,hq,aB=>by
  rw[List.nodup_cons]at nd
  by_cases e:y=x
  ·subst e
   have hsame:l.filter q=l.filter p:=by
    apply List.filter_congr
    intro z hz
    exact aB z (by simp[hz]) (fun e=>nd.1 (e▸hz))
   rw[List.filter_cons,List.filter_cons,hp,hq,hsame];simp
  ·have X7:x∈l:=by rcases List.mem_cons.1 h with h|h;exact absurd h.symm e;exact h
   have ih:=iz p q x l nd.2 X7 hp hq fun z hz hne=>aB z (by simp[hz]) hne
   have hy:=aB y (by simp) e
   rw[List.filter_cons,List.filter_cons,hy]
   cases p y
   ·simpa using ih
   ·simp only[if_true,List.length_cons];omega
theorem nG{a u v:Nat}(h:v≠u):(au a u true).testBit v=a.testBit v:=by rw[ai,if_neg h]
theorem eB{n a v:Nat}(h:v∈bg n a):(bg n (au a v true)).length+1=(bg n a).length:=by
 obtain⟨h1,h2⟩:=bI.1 h
 refine iz _ _ v (List.range n) List.nodup_range (List.mem_range.2 h1) (by simp[h2]) (by simp[ai]) fun y hy hne=>?_
 rw[nG hne]
theorem uY{n a v:Nat}(h:v∈has n a):(has n (au a v false)).length+1=(has n a).length:=by
 obtain⟨h1,h2⟩:=de.1 h
 refine iz _ _ v (List.range n) List.nodup_range (List.mem_range.2 h1) (by simp[h2]) (by simp[ai]) fun y hy hne=>?_
 rw[ai,if_neg hne]
theorem vR{a v:Nat}(h:a.testBit v=false):au a v true=a+2^v:=by
 have h1:=(qz a v).2
 have h2:=(qz a v).1
 have h3:au a v false=a:=by have:=iR a v;rwa [h]at this
 rw[h3]at h2
 rw[←h1,h2]
def Jn(n:Nat)(c:Nat→Nat→Nat):Nat→Nat→Nat
 |0,_=>0
 |f+1,a=>c8 ((bg n a).map fun v=>c a v+Jn n c f (au a v true))
def par(n:Nat)(c:Nat→Nat→Nat):Nat→Nat→Nat
 |0,_=>0
 |f+1,s=>c8 ((has n s).map fun v=>c (au s v false) v+par n c f (au s v false))
theorem xY{n:Nat}{c:Nat→Nat→Nat}:∀(f:Nat) (a:Nat),(bg n a).length≤f→Jn n c (f+1) a=Jn n c f a
 |0,a,h=>by
  have:bg n a=[]:=List.length_eq_zero_iff.1 (by omega)
  simp[Jn,this,c8]
 |f+1,a,h=>by
  rw[Jn,Jn]
  congr 1
  apply List.map_congr_left
  intro v hv
  rw[xY f _ (by have:=eB hv;omega)]
theorem v7{n:Nat}{c:Nat→Nat→Nat}:∀(f:Nat) (a:Nat),(has n a).length≤f→par n c (f+1) a=par n c f a
 |0,a,h=>by
  have:has n a=[]:=List.length_eq_zero_iff.1 (by omega)
  simp[par,this,c8]
 |f+1,a,h=>by
  rw[par,par]
  congr 1
  apply List.map_congr_left
  intro v hv
  rw[v7 f _ (by have:=uY hv;omega)]
theorem KR(n a:Nat):(bg n a).length≤n:=by have:=List.length_filter_le (fun v=> !a.testBit v) (List.range n);simpa[bg]using this
theorem OF(n a:Nat):(has n a).length≤n:=by have:=List.length_filter_le (fun v=>a.testBit v) (List.range n);simpa[has]using this
def B(n:Nat)(c:Nat→Nat→Nat)(a:Nat):Nat:=Jn n c n a
def W(n:Nat)(c:Nat→Nat→Nat)(s:Nat):Nat:=par n c n s
theorem vz(n:Nat)(c:Nat→Nat→Nat)(a:Nat):B n c a=c8 ((bg n a).map fun v=>c a v+B n c (au a v true)):=by
 unfold B
 rw[←xY n a (KR n a)]
 rfl
theorem zZ(n:Nat)(c:Nat→Nat→Nat)(s:Nat):W n c s=c8 ((has n s).map fun v=>c (au s v false) v+W n c (au s v false)):=by
 unfold W
 rw[←v7 n s (OF n s)]
 rfl
theorem Su{n:Nat}{c:Nat→Nat→Nat}{a v:Nat}(hv:v∈bg n a):B n c a≤c a v+B n c (au a v true):=by
 rw[vz n c a];exact qV (List.mem_map.2 ⟨v,hv,rfl⟩)
theorem Sv{n:Nat}{c:Nat→Nat→Nat}{a:Nat}(h:bg n a≠[]):∃v∈bg n a,B n c a=c a v+B n c (au a v true):=by
 have:=gE (l:=(bg n a).map fun v=>c a v+B n c (au a v true)) (by simpa using h)
 rw[←vz]at this
 obtain⟨v,hv,e⟩:=List.mem_map.1 this
 exact⟨v,hv,e.symm⟩
theorem ya{n:Nat}{c:Nat→Nat→Nat}{a:Nat}(h:bg n a=[]):B n c a=0:=by rw[vz,h];rfl
theorem Mb{n:Nat}{c:Nat→Nat→Nat}{s v:Nat}(hv:v∈has n s):W n c s≤c (au s v false) v+W n c (au s v false):=by
 rw[zZ n c s];exact qV (List.mem_map.2 ⟨v,hv,rfl⟩)
theorem OY{n:Nat}{c:Nat→Nat→Nat}{s:Nat}(h:has n s≠[]):∃v∈has n s,W n c s=c (au s v false) v+W n c (au s v false):=by
 have:=gE (l:=(has n s).map fun v=>c (au s v false) v+W n c (au s v false)) (by simpa using h)
 rw[←zZ]at this
 obtain⟨v,hv,e⟩:=List.mem_map.1 this
 exact⟨v,hv,e.symm⟩
theorem x9{n:Nat}{c:Nat→Nat→Nat}{s:Nat}(h:has n s=[]):W n c s=0:=by rw[zZ,h];rfl
structure Used(n:Nat)(c:Nat→Nat→Nat)(U:Nat):Prop where
 zero:∀a v,v<n→a.testBit v=false→U.testBit v=false→c a v=0
 mask:∀a v,v<n→a.testBit v=false→c a v=c (a&&&U) v
theorem jh{a U v:Nat}{b:Bool}:(au a v b) &&&U=if U.testBit v then au (a&&&U) v b else a&&&U:=by
 apply Nat.eq_of_testBit_eq;intro k
 by_cases hU:U.testBit v=true
 ·rw[if_pos hU,Nat.testBit_and,ai,ai,Nat.testBit_and]
  by_cases e:k=v
  ·subst e;simp[hU]
  ·simp[e]
 ·rw[if_neg hU,Nat.testBit_and,ai,Nat.testBit_and]
  by_cases e:k=v
  ·subst e;simp[hU]
  ·simp[e]
def cQ(n U a:Nat):List Nat:=(bg n a).filter fun v=>U.testBit v
theorem ef{n U a v:Nat}:v∈cQ n U a↔v<n∧a.testBit v=false∧U.testBit v=true:=by simp[cQ,bI,and_assoc]
theorem iT(n U a:Nat):cQ n U (a&&&U)=cQ n U a:=by
 unfold cQ bg
 rw[List.filter_filter,List.filter_filter]
 apply List.filter_congr
 intro v _
 rw[Nat.testBit_and]
 cases a.testBit v<;>cases U.testBit v<;>rfl
theorem Cg{n U:Nat}{c:Nat→Nat→Nat}(hU:Used n c U):∀(d a:Nat),(bg n a).length=d→B n c a=c8 ((cQ n U a).map fun v=>c (a&&&U) v+B n c (au a v true))∧∀a',(bg n a').length≤d→a'&&&U=a&&&U→B n c a'=B n c a:=by
 intro d
 induction d using Nat.strongRecOn with
 |_ d ih=>
  have key:∀a,(bg n a).length=d→B n c a=c8 ((cQ n U a).map fun v=>c (a&&&U) v+B n c (au a v true)):=by
   intro a hd
   by_cases hm:bg n a=[]
   ·have h1:cQ n U a=[]:=by unfold cQ;rw[hm];rfl
    rw[h1,ya hm];rfl
   ·have hle:∀v∈cQ n U a,B n c a≤c (a&&&U) v+B n c (au a v true):=fun v hv=>by
     obtain⟨h1,h2,h3⟩:=ef.1 hv
     rw[←hU.mask a v h1 h2];exact Su (bI.2 ⟨h1,h2⟩)
    obtain⟨v,hv,he⟩:=Sv (c:=c) hm
    obtain⟨h1,h2⟩:=bI.1 hv
    by_cases hu:U.testBit v=true
    ·symm
     refine wA (List.mem_map.2 ⟨v,ef.2 ⟨h1,h2,hu⟩,by rw[←hU.mask a v h1 h2];exact he.symm⟩) fun y hy=>?_
     obtain⟨w,hw,rfl⟩:=List.mem_map.1 hy
     exact hle w hw
    ·have uQ:U.testBit v=false:=by simpa using hu
     rw[hU.zero a v h1 h2 uQ,Nat.zero_add]at he
     have hlt:(bg n (au a v true)).length<d:=by have:=eB hv;omega
     have hand:au a v true&&&U=a&&&U:=by rw[jh,if_neg hu]
     obtain⟨k1,k2⟩:=ih _ hlt (au a v true) rfl
     have Ex:cQ n U (au a v true)=cQ n U a:=by rw[←iT,hand,iT]
     by_cases za:cQ n U a=[]
     ·rw[Ex,za]at k1
      rw[he,k1,za];rfl
     ·symm
      rw[Ex,hand]at k1
      have hmem:=gE (l:=(cQ n U a).map fun w=>c (a&&&U) w+B n c (au (au a v true) w true)) (by simpa using za)
      rw[←k1]at hmem
      obtain⟨w,hw,Yd⟩:=List.mem_map.1 hmem
      obtain⟨w1,w2,w3⟩:=ef.1 hw
      have Yb:w≠v:=fun e=>by rw[e]at w3;rw[uQ]at w3;cases w3
      have MX:au (au a v true) w true=au (au a w true) v true:=by
       apply Nat.eq_of_testBit_eq;intro k
       rw[ai,ai,ai,ai]
       by_cases e1:k=w<;>by_cases e2:k=v<;>simp[e1,e2]
      have YC:w∈bg n a:=bI.2 ⟨w1,w2⟩
      have hsub:B n c (au (au a v true) w true)=B n c (au a w true):=by
       have eC:(bg n (au a w true)).length<d:=by have:=eB YC;omega
       refine(ih _ eC (au a w true) rfl).2 _ ?_ ?_
       ·have Yg:v∈bg n (au a w true):=bI.2 ⟨h1,by rw[ai,if_neg (Ne.symm Yb)];exact h2⟩
        have:=eB Yg
        rw[MX];omega
       ·rw[MX,jh,if_neg hu]
      have hval:c (a&&&U) w+B n c (au a w true)=B n c a:=by rw[he,←Yd,hsub]
      refine wA (List.mem_map.2 ⟨w,hw,hval⟩) fun y hy=>?_
      obtain⟨z,hz,rfl⟩:=List.mem_map.1 hy
      exact hle z hz
  intro a hd
  refine⟨key a hd,fun a' dm hand=>?_⟩
  have Ex:cQ n U a'=cQ n U a:=by rw[←iT,hand,iT]
  have h':B n c a'=c8 ((cQ n U a').map fun v=>c (a'&&&U) v+B n c (au a' v true)):=by
   rcases Nat.lt_or_ge (bg n a').length d with h|h
   ·exact(ih _ h a' rfl).1
   ·exact key a' (by omega)
  rw[h',key a hd,Ex,hand]
  congr 1
  apply List.map_congr_left
  intro v hv
  congr 1
  obtain⟨v1,v2,v3⟩:=ef.1 hv
  have hma:v∈bg n a:=bI.2 ⟨v1,v2⟩
  have Uh:v∈bg n a':=by
   rw[←Ex]at hv
   exact bI.2 ⟨v1,(ef.1 hv).2.1⟩
  have hlt:(bg n (au a v true)).length<d:=by have:=eB hma;omega
  refine(ih _ hlt (au a v true) rfl).2 _ ?_ ?_
  ·have:=eB Uh;have:=eB hma;omega
  ·rw[jh,jh,hand]
theorem JJ{n U:Nat}{c:Nat→Nat→Nat}(hU:Used n c U)(a:Nat):B n c (a&&&U)=B n c a:=by
 have e:(a&&&U) &&&U=a&&&U:=by rw[Nat.and_assoc,Nat.and_self]
 rcases Nat.le_total (bg n (a&&&U)).length (bg n a).length with h|h
 ·exact(Cg hU _ a rfl).2 _ h e
 ·exact((Cg hU _ (a&&&U) rfl).2 a h e.symm).symm
theorem Ss{n U:Nat}{c:Nat→Nat→Nat}(hU:Used n c U)(a:Nat):B n c a=c8 ((cQ n U a).map fun v=>c (a&&&U) v+B n c (au (a&&&U) v true)):=by
 rw[(Cg hU _ a rfl).1]
 congr 1
 apply List.map_congr_left
 intro v hv
 obtain⟨v1,v2,v3⟩:=ef.1 hv
 congr 1
 rw[←JJ hU (au a v true),jh,if_pos v3]
theorem OX{n U:Nat}{c:Nat→Nat→Nat}(hU:Used n c U):∀(d s:Nat),(has n s).length=d→W n c s=W n c (s&&&U):=by
 intro d
 induction d using Nat.strongRecOn with
 |_ d ih=>
  intro s hd
  by_cases hm:has n s=[]
  ·have h1:has n (s&&&U)=[]:=by
    unfold has at hm⊢
    rw[List.filter_eq_nil_iff]at hm⊢
    intro v hv
    have:=hm v hv
    rw[Nat.testBit_and];simp only[Bool.not_eq_true]at this;simp[this]
   rw[x9 hm,x9 h1]
  ·have Rg:∀v,v∈has n s→(has n (au s v false)).length<d:=fun v hv=>by have:=uY hv;omega
   have hfree:∀v,v∈has n s→c (au s v false) v+W n c (au s v false)=if U.testBit v then c (au (s&&&U) v false) v+W n c (au (s&&&U) v false)else W n c (s&&&U):=fun v hv=>by
    obtain⟨h1,h2⟩:=de.1 hv
    have hb:(au s v false).testBit v=false:=by rw[ai,if_pos rfl]
    rw[ih _ (Rg v hv) _ rfl]
    have:=jh (a:=s) (U:=U) (v:=v) (b:=false)
    split
    ·rename_i hu
     rw[if_pos hu]at this
     rw[hU.mask _ v h1 hb,this]
    ·rename_i hu
     rw[if_neg hu]at this
     rw[hU.zero _ v h1 hb (by simpa using hu),this,Nat.zero_add]
   apply Nat.le_antisymm
   ·by_cases Ex:has n (s&&&U)=[]
    ·rw[x9 Ex]
     obtain⟨v,hv⟩:=List.exists_mem_of_ne_nil _ hm
     obtain⟨h1,h2⟩:=de.1 hv
     have hu:¬U.testBit v=true:=fun hu=>by
      have:v∈has n (s&&&U):=de.2 ⟨h1,by rw[Nat.testBit_and,h2,hu];rfl⟩
      rw[Ex]at this;simp at this
     have h3:=hfree v hv
     rw[if_neg hu,x9 Ex]at h3
     rw[←h3];exact Mb hv
    ·obtain⟨v,hv,he⟩:=OY (c:=c) Ex
     obtain⟨h1,h2⟩:=de.1 hv
     rw[Nat.testBit_and,Bool.and_eq_true]at h2
     have hvs:v∈has n s:=de.2 ⟨h1,h2.1⟩
     have h3:=hfree v hvs
     rw[if_pos h2.2]at h3
     rw[he,←h3];exact Mb hvs
   ·obtain⟨v,hv,he⟩:=OY (c:=c) hm
    rw[he,hfree v hv]
    obtain⟨h1,h2⟩:=de.1 hv
    split
    ·rename_i hu
     exact Mb (de.2 ⟨h1,by rw[Nat.testBit_and,h2,hu];rfl⟩)
    ·exact Nat.le_refl _
theorem Sd{n U:Nat}{c:Nat→Nat→Nat}(hU:Used n c U)(s:Nat):W n c (s&&&U)=W n c s:=(OX hU _ s rfl).symm
def ord(n:Nat)(c:Nat→Nat→Nat):Nat→Nat→List Nat
 |0,_=>[]
 |f+1,a=>match(bg n a).find? fun v=>c a v+B n c (au a v true)==B n c a with
  |some v=>v::ord n c f (au a v true)
  |none=>[]
theorem nM{n:Nat}{c:Nat→Nat→Nat}{f a:Nat}(h:bg n a≠[]):∃v,v∈bg n a∧c a v+B n c (au a v true)=B n c a∧(∀u∈bg n a,u<v→c a u+B n c (au a u true)≠B n c a)∧ord n c (f+1) a=v::ord n c f (au a v true):=by
 obtain⟨w,hw,he⟩:=Sv (c:=c) h
 cases hf:(bg n a).find? fun v=>c a v+B n c (au a v true)==B n c a with
 |none=>
  rw[List.find?_eq_none]at hf
  exact absurd (by simpa using he.symm) (hf w hw)
 |some v=>
  have h1:=List.find?_some hf
  refine⟨v,List.mem_of_find?_eq_some hf,by simpa using h1,fun u hu huv=>?_,by rw[ord,hf]⟩
  rw[List.find?_eq_some_iff_append]at hf
  obtain⟨_,as1,bs,hab,hno⟩:=hf
  have hs:(bg n a).Pairwise (· < ·):=List.Pairwise.filter _ List.pairwise_lt_range
  rw[hab]at hs hu
  rcases List.mem_append.1 hu with hu|hu
  ·have:=hno u hu;simpa using this
  ·rw[List.pairwise_append]at hs
   have h2:=hs.2.1
   rw[List.pairwise_cons]at h2
   rcases List.mem_cons.1 hu with rfl|hu
   ·omega
   ·have:=h2.1 u hu;omega
end af
namespace af
open Go.Sx
theorem dF{x u v:Nat}{b c:Bool}(h:u≠v):au (au x u b) v c=au (au x v c) u b:=by
 apply Nat.eq_of_testBit_eq;intro k
 rw[ai,ai,ai,ai]
 by_cases e1:k=u<;>by_cases e2:k=v
 ·exact absurd (e1.symm.trans e2) h
 ·simp[e1,h]
 ·simp[e2,Ne.symm h]
 ·simp[e1,e2]
theorem LZ{n u v:Nat}{ws:List Nat}{b:Bool}(hf:bO n ws)(hu:u<n)(hv:v<n)(h:dep n ws v=false):dep n (dj n ws u b) v=false:=by
 by_cases e:u=v
 ·subst e
  cases hd:dep n (dj n ws u b) u
  ·rfl
  ·obtain⟨x,hx,hne⟩:=(qd (cg hf.jz) hu).1 hd
   rw[dN hf hu (dc hx hu),dN hf hu (dc hx hu)]at hne
   refine absurd ?_ hne
   congr 1
   apply Nat.eq_of_testBit_eq;intro k
   rw[ai,ai,ai,ai]
   by_cases e:k=u<;>simp[e]
 ·cases hd:dep n (dj n ws u b) v
  ·rfl
  ·obtain⟨x,hx,hne⟩:=(qd (cg hf.jz) hv).1 hd
   rw[dN hf hu (dc hx hv),dN hf hu (dc hx hv),dF (Ne.symm e),dF (Ne.symm e)]at hne
   have:=(qd hf hv).2 ⟨au x u b,dc hx hu,hne⟩
   rw[h]at this;cases this
theorem uC{n:Nat}{L:Fs}{A:Nat}(hL:∀t∈L,bO n t)(hn:n≤16){v:Nat}(hv:v<n)(h:∀t∈L,dep n t v=false):∀k,k≤n→∀t∈st n L A k,dep n t v=false
 |0,_,t,ht=>h t (bY.1 ht)
 |k+1,hk,t,ht=>by
  rw[st]at ht
  split at ht
  ·obtain⟨u,hu,b,rfl⟩:=bt.1 ht
   exact LZ (uB hL hn k u hu) (by omega) hv (uC hL hn hv h k (by omega) u hu)
  ·exact uC hL hn hv h k (by omega) t ht
def aN(n:Nat)(L:Fs):Nat:=L.foldl (fun u t=>u|||mJ n t) 0
theorem mj(n v:Nat):∀(L:Fs) (u:Nat),(L.foldl (fun u t=>u|||mJ n t) u).testBit v=(u.testBit v||L.any fun t=>(mJ n t).testBit v)
 | [],u=>by simp
 |t::L,u=>by rw[List.foldl_cons,mj n v L,Nat.testBit_or,List.any_cons,Bool.or_assoc]
theorem uy{n v:Nat}{L:Fs}:(aN n L).testBit v=L.any fun t=>(mJ n t).testBit v:=by
 unfold aN;rw[mj];simp
theorem qm{n v:Nat}{L:Fs}(hv:v<n)(h:(aN n L).testBit v=false):∀t∈L,dep n t v=false:=by
 rw[uy,List.any_eq_false]at h
 intro t ht
 have:=h t ht
 rw[mJ,fJ]at this
 simpa[hv]using this
theorem xA(n:Nat):∀(L:Fs) (u:Nat),u<2^n→L.foldl (fun u t=>u|||mJ n t) u<2^n
 | [],u,h=>h
 |t::L,u,h=>xA n L _ (Nat.or_lt_two_pow h (j7 n t n))
theorem nx(n:Nat)(L:Fs):aN n L<2^n:=xA n L 0 (Nat.two_pow_pos n)
theorem Cr{n:Nat}{L:Fs}{A:Nat}(hL:∀t∈L,bO n t)(hn:n≤16):∀k,k≤n→∀x,x∈st n L A k↔x∈st n L (A&&&aN n L) k
 |0,_,x=>Iff.rfl
 |k+1,hk,x=>by
  have ih:=Cr (A:=A) hL hn k (by omega)
  rw[st,st,Nat.testBit_and]
  cases hA:A.testBit k
  ·simpa using ih x
  ·cases hU:(aN n L).testBit k
   ·simp only[if_true,Bool.and_false,Bool.false_eq_true,if_false]
    rw[bt,←ih x]
    have hd:=uC (A:=A) hL hn (v:=k) (by omega) (qm (by omega) hU) k (by omega)
    have hf:=uB (A:=A) hL hn k
    constructor
    ·rintro⟨t,ht,b,rfl⟩
     rw[kK (hf t ht) (by omega) (hd t ht)];exact ht
    ·intro hx
     exact⟨x,hx,false,(kK (hf x hx) (by omega) (hd x hx)).symm⟩
   ·simp only[Bool.and_true,if_true]
    rw[bt,bt]
    constructor
    ·rintro⟨t,ht,h⟩;exact⟨t,(ih t).1 ht,h⟩
    ·rintro⟨t,ht,h⟩;exact⟨t,(ih t).2 ht,h⟩
theorem uu{n:Nat}{L:Fs}(hL:∀t∈L,bO n t)(hn:n≤16):Used n (lvl n L) (aN n L):=by
 refine⟨fun a v hv _ hU=>?_,fun a v hv _=>?_⟩
 ·unfold lvl nodes
  rw[List.length_eq_zero_iff,List.filter_eq_nil_iff]
  intro t ht
  rw[uC hL hn hv (qm hv hU) n (Nat.le_refl _) t ht];simp
 ·exact gP (fh (j8 n L a n) (j8 n L _ n) (Cr hL hn n (Nat.le_refl _)))
end af
set_option maxRecDepth 100000
namespace Go.Proofs
open Go Go.Sx
theorem vX{B:Hp}{v:Value}{ts:List Tb} (ht:bV B v ts)(aV:ts.length<2^62):
  Rd Tryz.prog 168 #[v] B (· =.tuple (if fQ ts then#[.int .i64 ((ts.head?.map Tb.n).getD 0),.int .i64 0]else#[.int .i64 0,.int .i64 5])):=by
 refine aW fun g=>Bt ?_
 refine ht.aL ?_
 refine⟨fun vs H=>aG B H∧∃k:Nat,vs=[.int .i64 (if k=0 then 0 else(ts.head?.map Tb.n).getD 0),.int .i64 (k:Int)]∧k≤ts.length∧∀i t,i<k→ts[i]? =some t→TF t∧some t.n=ts.head?.map Tb.n,fun vs _=>ts.length-aT vs 1,JE.mk ⟨.refl _,0,rfl,by omega,by omega⟩,?_⟩
 rintro w6 w7 H ⟨hg,k,⟨⟩,hk,aB⟩ gs
 refine aa.cZ (Br.dec (fun hlt=>?_) (fun hlt=>?_))
 ·obtain⟨t,js⟩:∃t,ts[k]? =some t:=⟨_,List.getElem?_eq_getElem hlt⟩
  obtain⟨t0,wQ⟩:∃t,ts[0]? =some t:=⟨_,List.getElem?_eq_getElem (by omega)⟩
  have hh:ts.head?.map Tb.n=some t0.n:=by rw[List.head?_eq_getElem?,wQ];rfl
  have CV:=ht.mono hg.sub
  refine CV.ld js (fun _ h=>h) fun s hs=>?_
  intro b1 _
  refine St.p ?_ ?_
  ·obtain⟨a,c,rfl,_⟩:=hs.1.shape;simp[Value.oneCell']
  intro J hJ
  have hno:∀H',aG B H'→¬(TF t∧some t.n=ts.head?.map Tb.n)→JE J [.bool true] H':=fun H' IA h=>
   JE.mk (hJ _ _ fun gs=>Br.yes (bK.mk IA.nr (by rw[if_neg];exact fun hh=>h (hh t (List.mem_of_getElem? js)))))
  have yq:aG B ((b1,Obj.cells (List.toArray [.int .i64 t.n,s]) 57 (0,0))::H):=.cons hg
  refine DR.self ?_
  refine av.q ?_
  intro F
  refine ae.eq (B:=H) (qE ⟨s,rfl,hs⟩) ?_
  refine⟨.refl _,Un.not ?_⟩
  by_cases hT:TF t
  case neg=>rw[decide_eq_false hT];exact Br.yes (hno _ yq fun h=>hT h.1)
  rw[decide_eq_true hT]
  refine Br.no ?_
  refine ag.mk (Ld.mk zM rfl ?_)
  refine CV.NO wQ zS ?_
  refine aa.fZ (ay.mk ?_)
  simp only[cond_false]
  by_cases hn:t.n=t0.n
  case neg=>rw[decide_eq_true hn];exact hno _ yq fun h=>hn (by have:=h.2;rw[hh]at this;simpa using this)
  rw[decide_eq_false (by simpa using hn)]
  refine JE.mk (hJ _ _ fun gs=>Br.no ?_)
  refine ag.mk (Ld.mk zM rfl ?_)
  refine aa.inc ?_
  refine aq.mk ⟨yq,k+1,?_,by omega,fun i u hi hu=>?_⟩ (by simp[aT];omega)
  ·rw[if_neg (by omega),hh,hn];rfl
  by_cases e:i=k
  ·subst e;rw[js]at hu;cases hu;exact⟨hT,by rw[hh,hn]⟩
  ·exact aB i u (by omega) hu
 ·refine bK.mk hg.nr ?_
  have hk':k=ts.length:=by omega
  have hO:fQ ts:=fun t N6=>by
   obtain⟨i,hi,rfl⟩:=List.mem_iff_getElem.1 N6
   exact aB i _ (by omega) (List.getElem?_eq_getElem hi)
  rw[if_pos hO]
  by_cases h0:k=0
  ·rw[if_pos h0]
   have:ts=[]:=List.length_eq_zero_iff.1 (by omega)
   subst this;rfl
  ·rw[if_neg h0]
def kp(x:Nat×Nat):Value:=.agg (az .i64 [(x.1:Int),(x.2:Int)])
def ki(x:Nat):Value:=.int .i64 (x:Int)
theorem oM(a b:Nat):Instr.sameNow (.int .i64) (ki a) (ki b)=some (decide (a=b)):=by
 simp only[Instr.sameNow,ki,if_true,Option.some.injEq]
 rw[Bool.eq_iff_iff];simp;omega
theorem CK(a:Nat):Instr.sameBits 10000 (ki a) (ki a)=true:=by simp[Instr.sameBits,ki]
theorem HG(a b:Nat×Nat):Ca Tryz.prog 226 (kp a) (kp b) (decide (a=b)):=by
 have:=Ca.array (P:=Tryz.prog) (t:=226) (e:=3) (q:=.i64) (n:=2) (by kernel_rfl) (by kernel_rfl) (by kernel_rfl) [(a.1:Int),(a.2:Int)] [(b.1:Int),(b.2:Int)] rfl rfl
 have e:decide ([(a.1:Int),(a.2:Int)]=[(b.1:Int),(b.2:Int)])=decide (a=b):=by
  rw[decide_eq_decide]
  obtain⟨a1,a2⟩:=a;obtain⟨b1,b2⟩:=b
  simp;omega
 rw[e]at this;exact this
theorem yZ(a:Nat×Nat):mh Tryz.prog 226 (kp a):=mh.array (P:=Tryz.prog) (t:=226) (e:=3) (q:=.i64) (n:=2) (by kernel_rfl) (by kernel_rfl) (by kernel_rfl) _ rfl
theorem sG(n:Nat)(q:IntKind)(l:List Int):Instr.sameBits (n+1+1) (.agg (az q l)) (.agg (az q l))=true:=by
 simp only[Instr.sameBits,az,beq_self_eq_true,Bool.true_and,List.all_eq_true]
 intro x hx
 obtain⟨a,b⟩:=x
 have h:=List.of_mem_zip hx
 have e:a=b:=by
  rw[List.zip_eq_zip_take_min]at hx
  obtain⟨i,hi,he⟩:=List.mem_iff_getElem.1 hx
  simp at he
  exact he.1.symm.trans he.2
 subst e
 have:=h.1
 simp only[List.toList_toArray,List.mem_map]at this
 obtain⟨y,_,rfl⟩:=this
 simp[Instr.sameBits]
theorem K8(a:Nat×Nat):Instr.sameBits 10000 (kp a) (kp a)=true:=sG 9998 _ _
abbrev Mi(v:Value)(x:Nat):Prop:=v=.int .i64 (x:Int)
structure Du(n:Nat)(L:List (List Nat))(n7:Array MapEntry)(mB:Nat)(m4:Array MapEntry)(oc:Nat):Prop where
 ak:∃m,aX kp Mi n7 mB m∧∀x∈m,x.2=af.lvl n L x.1.1 x.1.2
 dow:∃m,aX ki Mi m4 oc m∧∀x∈m,x.2=af.B n (af.lvl n L) x.1
def gZ(bp bl bd:Nat)(ow:Value)(n:Nat)(L:List (List Nat))(U:Nat)(B H:Hp):Prop:=
 ∃n7 mB m4 oc,H=(bp,.cells #[ow,.int .i64 (n:Int),.int .i64 (U:Int),.map (some bl),.map (some bd)] 137 (0,0))::(bl,.map n7 mB)::(bd,.map m4 oc)::B∧Du n L n7 mB m4 oc
theorem wv{κ:Type}[DecidableEq κ]{f:κ→Nat}{m:List (κ×Nat)}{k:κ}(h:∀x∈m,x.2=f x.1):∀x∈fi m k (f k),x.2=f x.1:=by
 intro x hx
 unfold fi at hx
 split at hx
 ·obtain⟨y,hy,rfl⟩:=List.mem_map.1 hx
  split
  ·rfl
  ·exact h y hy
 ·rcases List.mem_append.1 hx with hx|hx
  ·exact h x hx
  ·simp at hx;subst hx;rfl
theorem wB{κ:Type}[DecidableEq κ]{f:κ→Nat}{m:List (κ×Nat)}{k:κ}{x:Nat}(h:∀x∈m,x.2=f x.1)(hk:dn m k=some x):x=f k:=by
 unfold dn at hk
 obtain⟨y,hy,rfl⟩:=Option.map_eq_some_iff.1 hk
 have h1:=List.find?_some hy
 have h2:=h y (List.mem_of_find?_eq_some hy)
 simp only[decide_eq_true_eq]at h1
 rw[h2,h1]
structure jM(ow:Value)(n:Nat)(L:List (List Nat))(B:Hp):Prop where
 tb:bV B ow (cY n L)
 ic:∀ws∈L,af.bO n ws
 ne:L≠[]
 small:L.length<33554432
 P8:n≤12
theorem mY{ow:Value}{n:Nat}{L:List (List Nat)}{B:Hp}(h:jM ow n L B)(a v:Nat):af.lvl n L a v<2199023255551:=by
 have h1:af.lvl n L a v≤(af.st n L a n).length:=List.length_filter_le _ _
 have h2:=vP (n:=n) (A:=a) (L:=L) (by have:=h.P8;omega) h.small (Nat.le_refl n)
 omega
theorem qP{ow:Value}{n:Nat}{L:List (List Nat)}{B:Hp}(h:jM ow n L B){bp bl bd a v:Nat}{H:Hp}(hp:gZ bp bl bd ow n L (af.aN n L) B H)(ha:a<2^n)(hv:v<n)(UO:a.testBit v=false):
  Fc Tryz.prog 73 #[.pointer (some ⟨bp,0,none⟩),.int .i64 (a:Int),.int .i64 (v:Int)] H (fun r H'=>r=.int .i64 ((af.lvl n L a v:Nat):Int)∧gZ bp bl bd ow n L (af.aN n L) B H'):=by
 obtain⟨n7,mB,m4,oc,rfl,hM⟩:=hp
 have hU:=af.nx n L
 have ia:=h.P8
 have iJ:2^n≤2^12:=Nat.pow_le_pow_right (by decide) ia
 have pH:=af.uu h.ic (by omega)
 have hsU:af.aN n L>>>v≤af.aN n L:=Nat.shiftRight_le _ _
 refine aW fun g=>FB ?_
 refine Nil.ptr ?_
 refine ag.mk (Ld.mk zM rfl ?_)
 refine aa.fD (by simp[aY];omega) (aa.gY (b:=1) (by simp[aY];omega) (by decide) (aa.iK (b:=0) ?_))
 have rB:af.aN n L>>>v&&&1=0↔(af.aN n L).testBit v=false:=by
  rw[af.dY,Nat.testBit_shiftRight,Nat.add_zero];cases (af.aN n L).testBit v<;>simp
 refine Br.dec (fun h0=>?_) (fun h0=>?_)
 ·refine bN.here ⟨?_,n7,mB,m4,oc,rfl,hM⟩
  rw[pH.zero a v hv UO (rB.1 h0)];rfl
 have hUv:(af.aN n L).testBit v=true:=by cases hh:(af.aN n L).testBit v;exact absurd (rB.2 hh) h0;rfl
 refine Nil.ptr ?_
 refine ag.mk (Ld.mk zM rfl ?_)
 refine aa.gY (by simp[aY];omega) (by simp[aY];omega) ?_
 have hlv:af.lvl n L a v=af.lvl n L (a&&&af.aN n L) v:=pH.mask a v hv UO
 have M4:(a&&&af.aN n L).testBit v=false:=by rw[Nat.testBit_and,UO];rfl
 have Pz:a&&&af.aN n L<2^n:=Nat.lt_of_le_of_lt Nat.and_le_left ha
 rw[hlv]
 obtain⟨a',dy⟩:∃a',a'=a&&&af.aN n L:=⟨_,rfl⟩
 rw[←dy]at M4 Pz⊢
 refine Build.two (q:=.i64) (e:=3) (by kernel_rfl) (by kernel_rfl) (by kernel_rfl) ?_
 rw[show az .i64 [(a':Int),(v:Int)]=List.toArray [.int .i64 (a':Int),.int .i64 (v:Int)]from rfl]
 intro VC _
 refine St.q ?_
 refine Nil.ptr ?_
 refine ag.mk (Ld.mk zM rfl ?_)
 refine av.q ?_
 obtain⟨⟨m1,Nh,yo⟩,Rh⟩:=hM
 have QA:∀J:List Value→Hp→Prop,(∀Sw:Value,∀Xk:Hp,(∀ZF:Fr,bN (fun r H'=>r=.int .i64 ((af.lvl n L a' v:Nat):Int)∧gZ bp bl bd ow n L (af.aN n L) B H') (.returned Sw) Xk)→J [Sw] Xk)→
   ∀LX L0,Du n L LX L0 m4 oc→J [.int .i64 ((af.lvl n L a' v:Nat):Int)] ((bp,.cells #[ow,.int .i64 (n:Int),.int .i64 ((af.aN n L:Nat):Int),.map (some bl),.map (some bd)] 137 (0,0))::(bl,.map LX L0)::(bd,.map m4 oc)::B):=
  fun J hJ LX L0 hM=>hJ _ _ fun gs=>bN.here ⟨rfl,LX,L0,m4,oc,rfl,hM⟩
 cases hg:dn m1 (a',v)with
 |some x=>
  have hx:=wB (f:=fun k=>af.lvl n L k.1 k.2) yo hg
  simp only at hx
  refine aX.Lu (ke:=kp) (k:=(a',v)) HG yZ Nh (by exact .tail _ (.tail _ (.head _))) hg fun y hy=>?_
  subst hy
  refine Ext.two ?_
  intro J hJ
  refine Un.not (Br.no (JE.of .tail ?_))
  rw[hx]
  exact QA J hJ _ _ ⟨⟨m1,Nh,yo⟩,Rh⟩
 |none=>
  refine aX.CE (ke:=kp) (k:=(a',v)) HG yZ Nh (by exact .tail _ (.tail _ (.head _))) hg ?_
  refine Ext.two ?_
  intro J hJ
  refine Un.not (Br.yes ?_)
  refine DR.self ?_
  refine Nil.ptr ?_
  refine ag.mk (Ld.mk zM rfl ?_)
  refine⟨VC,0,.i64,0,rfl,rfl,by decide,by decide,?_⟩
  refine Ld.q ?_
  refine bf.q ?_
  refine ae.eq (B:=B) (HA (n:=n) (L:=L) h.tb h.ic h.ne (by have:=h.small;omega) Pz hv M4) ?_
  refine⟨.refl _,Ext.mk rfl (Ext.mk rfl ?_)⟩
  refine DR.of (R:=(VC,.cells (List.toArray [.int .i64 (a':Int),.int .i64 (v:Int)]) 226 (0,0))::(bp,.cells #[ow,.int .i64 (n:Int),.int .i64 ((af.aN n L:Nat):Int),.map (some bl),.map (some bd)] 137 (0,0))::[]) (.cons (.cons (fun g w h=>(Own.left (B:=_) (A:=[]) h)))) ?_
  refine Nil.ptr ?_
  refine ag.mk (Ld.mk zM rfl ?_)
  refine av.q ?_
  refine aX.PN (ke:=kp) (vr:=Mi) (b:=bl) (val:=.int .i64 ((af.lvl n L a' v:Nat):Int)) (k:=(a',v)) (x:=af.lvl n L a' v) HG yZ K8 Nh rfl fun es' dw rG=>⟨_,.tail (.tail (.head _)),?_⟩
  have Ip:∀x∈fi m1 (a',v) (af.lvl n L a' v),x.2=af.lvl n L x.1.1 x.1.2:=wv (f:=fun k:Nat×Nat=>af.lvl n L k.1 k.2) (k:=(a',v)) yo
  have Tc:Du n L es' dw m4 oc:=⟨⟨fi m1 (a',v) (af.lvl n L a' v),rG,Ip⟩,Rh⟩
  exact JE.of .tail (QA J hJ es' dw Tc)
end Go.Proofs
namespace Go.Sx
open Go
theorem qO(n:Int):BitVec.ofInt 64 (IntKind.i64.wrap n)=BitVec.ofInt 64 n:=by
 apply BitVec.eq_of_toNat_eq
 simp only[BitVec.toNat_ofInt,IntKind.wrap,IntKind.bits,IntKind.signed,Bool.true_and,decide_eq_true_eq]
 congr 1
 split<;>omega
theorem wrap_toInt(x:BitVec 64):IntKind.i64.wrap (x.toNat:Int)=x.toInt:=by
 rw[BitVec.toInt_eq_toNat_cond]
 have:=x.isLt
 have e:(2:Int)^(64-1)=9223372036854775808:=rfl
 simp only[IntKind.wrap,IntKind.bits,IntKind.signed,Bool.true_and,decide_eq_true_eq,e]
 split<;>split<;>omega
theorem mW(op:BinOp)(x y:Int):BitVec.ofInt 64 (bits op .i64 x y)=(match op with
  | .and=>BitVec.ofInt 64 x&&&BitVec.ofInt 64 y
  | .or=>BitVec.ofInt 64 x|||BitVec.ofInt 64 y
  | .xor=>BitVec.ofInt 64 x^^^BitVec.ofInt 64 y
  |_=>BitVec.ofInt 64 x&&& ~~~BitVec.ofInt 64 y):=by
 unfold bits
 simp only[qO]
 rw[BitVec.ofInt_natCast]
 simp only[IntKind.bits]
 rw[BitVec.ofNat_toNat,BitVec.setWidth_eq]
 cases op<;>rfl
theorem rX(op:BinOp)(x y:Int):bits op .i64 x y=(BitVec.ofInt 64 (bits op .i64 x y)).toInt:=by
 unfold bits
 simp only[qO]
 rw[BitVec.ofInt_natCast]
 simp only[IntKind.bits]
 rw[BitVec.ofNat_toNat,BitVec.setWidth_eq]
 exact wrap_toInt _
theorem Ea{a U v:Nat}(ha:a<4611686018427387904)(hU:U<4611686018427387904)(hv:v<62):
  bits .and .i64 ((bits .or .i64 a (bits .xor .i64 (-1) U)).fdiv (2^(min (v:Int).toNat IntKind.i64.bits))) 1=if a.testBit v=true∨U.testBit v=false then 1 else 0:=by
 have hX:=mW .or (a:Int) (bits .xor .i64 (-1) U)
 simp only at hX
 have hN:=mW .xor (-1) (U:Int)
 simp only at hN
 rw[hN]at hX
 generalize hx:bits .or .i64 a (bits .xor .i64 (-1) U)=x at hX
 have SG:x=(BitVec.ofInt 64 x).toInt:=by rw[←hx];exact rX _ _ _
 have hm:min (v:Int).toNat IntKind.i64.bits=v:=by simp[IntKind.bits];omega
 rw[hm]
 have hs:x.fdiv (2^v)=((BitVec.ofInt 64 x).sshiftRight v).toInt:=by
  rw[BitVec.toInt_sshiftRight,←SG,Int.shiftRight_eq_div_pow,Int.fdiv_eq_ediv_of_nonneg _ (Int.le_of_lt (Int.pow_pos (by decide)))]
  push_cast;rfl
 rw[hs,rX,mW]
 simp only[BitVec.ofInt_toInt]
 rw[hX]
 have h1:BitVec.ofInt 64 (1:Int)=1#64:=rfl
 have h2:BitVec.ofInt 64 (-1:Int)=BitVec.allOnes 64:=by decide
 rw[h1,h2]
 have rB:((BitVec.ofInt 64 (a:Int)|||BitVec.allOnes 64^^^BitVec.ofInt 64 (U:Int)).sshiftRight v).getLsbD 0=(a.testBit v|| !U.testBit v):=by
  rw[BitVec.getLsbD_sshiftRight]
  have e1:v+0<64:=by omega
  simp only[Nat.add_zero,show¬(64≤0)from by decide,decide_false,Bool.not_false,Bool.true_and,show v<64 by omega,if_true]
  rw[BitVec.getLsbD_or,BitVec.getLsbD_xor,BitVec.getLsbD_allOnes,BitVec.ofInt_natCast,BitVec.ofInt_natCast,BitVec.getLsbD_ofNat,BitVec.getLsbD_ofNat]
  simp[show v<64 by omega]
 have dH:∀y:BitVec 64,(y&&&1#64).toInt=if y.getLsbD 0 then 1 else 0:=by
  intro y
  have:y&&&1#64=if y.getLsbD 0 then 1#64 else 0#64:=by
   apply BitVec.eq_of_getLsbD_eq
   intro i hi
   rw[BitVec.getLsbD_and]
   by_cases h0:i=0
   ·subst h0;cases hb:y.getLsbD 0<;>simp[hb]
   ·have:(1#64).getLsbD i=false:=by simp[BitVec.getLsbD_one,h0]
    rw[this]
    cases y.getLsbD 0<;>simp[this]
  rw[this]
  cases y.getLsbD 0<;>decide
 rw[dH,rB]
 cases a.testBit v<;>cases U.testBit v<;>simp
theorem P5{a U v:Nat}(ha:a<4611686018427387904)(hU:U<4611686018427387904)(hv:v<62){k:Value→Prop}(h:k (.bool (decide (a.testBit v=true∨U.testBit v=false)))):
  Un .xor (.int .i64 (U:Int)) fun XG=>aa .num .or (.int .i64 (a:Int)) XG fun XF=>aa .num .shr XF (.int .i64 (v:Int)) fun XE=>aa .num .and XE (.int .i64 1) fun XD=>aa .num .eql XD (.int .i64 1) k:=by
 refine⟨_,rfl,_,rfl,?_⟩
 have h0:¬((v:Int)<0):=by omega
 refine⟨_,by simp only[eS,h0,if_false];rfl,_,rfl,?_⟩
 refine aa.oW ?_
 have hs:(if IntKind.i64.signed=true then(-1:Int)else IntKind.i64.max)= -1:=rfl
 rw[hs,Ea ha hU hv]
 by_cases hc:a.testBit v=true∨U.testBit v=false
 ·rw[if_pos hc];rw[decide_eq_true hc]at h;exact h
 ·rw[if_neg hc];rw[decide_eq_false hc]at h;exact h
end Go.Sx
set_option maxRecDepth 100000
namespace Go.Proofs
open Go Go.Sx
theorem bU(x:Value)(r:List Value)(i:Nat):aT (x::r) (i+1)=aT r i:=by cases x<;>rfl
def gM(n:Nat)(L:List (List Nat))(U a k:Nat):List Nat:=((List.range k).filter fun v=> !a.testBit v&&U.testBit v).map fun v=>af.lvl n L a v+af.B n (af.lvl n L) (af.au a v true)
theorem DW{n:Nat}{L:List (List Nat)}{U a:Nat}:gM n L U a n=(af.cQ n U a).map fun v=>af.lvl n L a v+af.B n (af.lvl n L) (af.au a v true):=by
 unfold gM af.cQ af.bg
 rw[List.filter_filter]
 congr 1
 apply List.filter_congr
 intro v _
 cases a.testBit v<;>cases U.testBit v<;>rfl
theorem qB{n:Nat}{L:List (List Nat)}{U a k:Nat}:gM n L U a (k+1)=if a.testBit k=true∨U.testBit k=false then gM n L U a k else gM n L U a k++[af.lvl n L a k+af.B n (af.lvl n L) (af.au a k true)]:=by
 unfold gM
 rw[List.range_succ,List.filter_append,List.map_append]
 cases h1:a.testBit k<;>cases h2:U.testBit k<;>simp[h1,h2]
def gj(l:List Nat):Value:=if l=[]then .int .i64 (-1)else .int .i64 ((af.c8 l:Nat):Int)
theorem Jm(n:Nat)(c:Nat→Nat→Nat)(M:Nat)(hc:∀a v,c a v≤M):∀f a,af.Jn n c f a≤f*M
 |0,a=>by simp[af.Jn]
 |f+1,a=>by
  rw[af.Jn,Nat.succ_mul]
  by_cases h:af.bg n a=[]
  ·rw[h];simp[af.c8]
  ·have:=af.gE (l:=(af.bg n a).map fun v=>c a v+af.Jn n c f (af.au a v true)) (by simpa using h)
   obtain⟨v,_,e⟩:=List.mem_map.1 this
   rw[←e]
   have h1:=hc a v
   have h2:=Jm n c M hc f (af.au a v true)
   omega
theorem ov{ow:Value}{n:Nat}{L:List (List Nat)}{B:Hp}(h:jM ow n L B)(a:Nat):af.B n (af.lvl n L) a<35184372088832:=by
 have h1:=Jm n (af.lvl n L) 2199023255551 (fun a v=>Nat.le_of_lt (mY h a v)) n a
 have h2:n*2199023255551≤12*2199023255551:=Nat.mul_le_mul_right _ h.P8
 unfold af.B;omega
theorem vp{a U n:Nat}(hU:U<2^n)(h:∀v,v<n→¬(a.testBit v=false∧U.testBit v=true)):a&&&U=U:=by
 apply Nat.eq_of_testBit_eq;intro k
 rw[Nat.testBit_and]
 by_cases hk:k<n
 ·have:=h k hk
  cases h1:a.testBit k<;>cases h2:U.testBit k<;>simp_all
 ·have:U.testBit k=false:=Nat.testBit_lt_two_pow (Nat.lt_of_lt_of_le hU (Nat.pow_le_pow_right (by decide) (by omega)))
  rw[this];simp
theorem kY{ow:Value}{n:Nat}{L:List (List Nat)}{B:Hp}(h:jM ow n L B){bp bl bd:Nat}:∀(d a:Nat),(af.cQ n (af.aN n L) a).length≤d→a<2^n→∀H,gZ bp bl bd ow n L (af.aN n L) B H→
  Fc Tryz.prog 74 #[.pointer (some ⟨bp,0,none⟩),.int .i64 (a:Int)] H (fun r H'=>r=.int .i64 ((af.B n (af.lvl n L) a:Nat):Int)∧gZ bp bl bd ow n L (af.aN n L) B H'):=by
 have hU:=af.nx n L
 have ia:=h.P8
 have iJ:2^n≤2^12:=Nat.pow_le_pow_right (by decide) ia
 have pH:=af.uu h.ic (by omega)
 intro d
 induction d using Nat.strongRecOn with
 |_ d ih=>
  intro a hd ha H hp
  obtain⟨n7,mB,m4,oc,rfl,hM⟩:=hp
  refine aW fun g=>uk ?_
  refine Nil.ptr ?_
  refine ag.mk (Ld.mk zM rfl ?_)
  refine aa.gY (by simp[aY];omega) (by simp[aY];omega) ?_
  refine Nil.ptr ?_
  refine ag.mk (Ld.mk zM rfl ?_)
  have WS:af.B n (af.lvl n L) a=af.B n (af.lvl n L) (a&&&af.aN n L):=(af.JJ pH a).symm
  have Ex:af.cQ n (af.aN n L) (a&&&af.aN n L)=af.cQ n (af.aN n L) a:=af.iT _ _ _
  have Pz:a&&&af.aN n L<2^n:=Nat.lt_of_le_of_lt Nat.and_le_left ha
  have kF:(a&&&af.aN n L) &&&af.aN n L=a&&&af.aN n L:=by rw[Nat.and_assoc,Nat.and_self]
  rw[WS]
  rw[←Ex]at hd
  obtain⟨a',dy⟩:∃a',a'=a&&&af.aN n L:=⟨_,rfl⟩
  rw[←dy]at Pz hd kF⊢
  clear WS Ex ha dy
  have aB:=DW (n:=n) (L:=L) (U:=af.aN n L) (a:=a')
  have QB:af.B n (af.lvl n L) a'=af.c8 (gM n L (af.aN n L) a' n):=by
   rw[aB]
   have:=af.Ss pH a'
   rw[kF]at this
   exact this
  refine aa.iK (Br.dec (fun h0=>?_) (fun h0=>?_))
  ·refine bN.here ⟨?_,n7,mB,m4,oc,rfl,hM⟩
   have:af.cQ n (af.aN n L) a'=[]:=by
    rw[List.eq_nil_iff_forall_not_mem]
    intro v hv
    obtain⟨_,h2,h3⟩:=af.ef.1 hv
    rw[h0,h3]at h2;cases h2
   rw[QB,aB,this];rfl
  have hne:gM n L (af.aN n L) a' n≠[]:=by
   rw[aB]
   intro e
   apply h0
   rw[←kF]
   refine vp hU fun v hv hh=>?_
   have:v∈af.cQ n (af.aN n L) a':=af.ef.2 ⟨hv,hh.1,hh.2⟩
   rw[List.map_eq_nil_iff.1 e]at this;simp at this
  refine Nil.ptr ?_
  refine ag.mk (Ld.mk zM rfl ?_)
  obtain⟨l8,m2,zq,uU⟩:=hM
  cases hg:dn m2 a' with
  |some x=>
   have hx:=wB (f:=af.B n (af.lvl n L)) uU hg
   refine aX.hit (ke:=ki) (k:=a') oM zq (by exact .tail _ (.tail _ (.head _))) hg fun y hy=>?_
   subst hy
   refine Ext.mk rfl (Ext.mk rfl (Br.yes (bN.here ⟨?_,n7,mB,m4,oc,rfl,l8,m2,zq,uU⟩)))
   rw[hx];rfl
  |none=>
   refine aX.bg (ke:=ki) (k:=a') oM zq (by exact .tail _ (.tail _ (.head _))) hg ?_
   refine Ext.mk rfl (Ext.mk rfl (Br.no (Nil.ptr ?_)))
   refine ag.mk (Ld.mk zM rfl ?_)
   refine⟨fun vs H=>∃k:Nat,vs=[gj (gM n L (af.aN n L) a' k),.int .i64 (k:Int)]∧k≤n∧gZ bp bl bd ow n L (af.aN n L) B H,fun vs _=>n-aT vs 1,
    JE.mk ⟨0,rfl,Nat.zero_le _,n7,mB,m4,oc,rfl,l8,m2,zq,uU⟩,?_⟩
   clear zq uU hg l8 n7 mB m4 oc m2
   rintro VJ VI H ⟨k,⟨⟩,hk,hp⟩ gs
   refine aa.cZ (Br.dec (fun hlt=>?_) (fun hlt=>?_))
   ·intro J hJ
    have p9:=hp
    obtain⟨n7,mB,m4,oc,rfl,hM⟩:=hp
    refine Nil.ptr ?_
    refine ag.mk (Ld.mk zM rfl ?_)
    refine P5 (by omega) (by omega) (by omega) ?_
    have pG:∀l H,l=gM n L (af.aN n L) a' (k+1)→gZ bp bl bd ow n L (af.aN n L) B H→J [gj l] H:=fun l H hl hp=>hJ _ _ fun gs=>by
     refine aa.inc ?_
     exact aq.mk ⟨k+1,by rw[hl],by omega,hp⟩ (by rw[bU,bU];show n-(((k:Int)+1).toNat)<n-((k:Int).toNat);omega)
    by_cases hc:a'.testBit k=true∨(af.aN n L).testBit k=false
    ·rw[decide_eq_true hc]
     refine Br.yes (JE.mk (pG _ _ ?_ p9))
     rw[qB,if_pos hc]
    ·rw[decide_eq_false hc]
     have SV:a'.testBit k=false∧(af.aN n L).testBit k=true:=by
      cases h1:a'.testBit k<;>cases h2:(af.aN n L).testBit k<;>simp_all
     have hmem:k∈af.cQ n (af.aN n L) a':=af.ef.2 ⟨hlt,SV.1,SV.2⟩
     refine Br.no (DR.self ?_)
     have hpk:2^k≤2^12:=Nat.pow_le_pow_right (by decide) (by omega)
     refine aa.kf (a:=1) (by simp[IntKind.bits];omega) (by rw[Nat.one_shiftLeft];simp[aY];omega) ?_
     rw[Nat.one_shiftLeft]
     refine aa.yP (by simp[aY];omega) (by simp[aY];omega) ?_
     have EP:a'|||2^k=af.au a' k true:=rfl
     rw[EP]
     refine ae.fq (qP h p9 Pz hlt SV.1) ?_
     rintro r H1 ⟨rfl,sM⟩
     have hlen:(af.cQ n (af.aN n L) (af.au a' k true)).length<d:=by
      have h1:(af.cQ n (af.aN n L) (af.au a' k true)).length+1=(af.cQ n (af.aN n L) a').length:=by
       unfold af.cQ af.bg
       rw[List.filter_filter,List.filter_filter]
       refine af.iz _ _ k (List.range n) List.nodup_range (List.mem_range.2 hlt) (by simp[SV]) (by simp[af.ai]) fun y hy hne=>?_
       rw[af.nG hne]
      omega
     refine ae.fq (ih _ hlen (af.au a' k true) (Nat.le_refl _) (af.dc Pz hlt) H1 sM) ?_
     rintro r H2 ⟨rfl,iJ⟩
     have OD:=mY h a' k
     have OC:=ov h (af.au a' k true)
     refine aa.dx ?_
     have hstep:=qB (n:=n) (L:=L) (U:=af.aN n L) (a:=a') (k:=k)
     rw[if_neg hc]at hstep
     generalize af.lvl n L a' k+af.B n (af.lvl n L) (af.au a' k true)=x at hstep
     unfold gj
     by_cases hl:gM n L (af.aN n L) a' k=[]
     ·rw[if_pos hl]
      refine aa.lss (dO.mk true (fun e=>by simp at e) (fun _=>rfl) fun gs=>Br.yes (JE.mk ?_))
      have:=pG [x] _ (by rw[hstep,hl];rfl) iJ
      simpa[gj,af.c8]using this
     ·rw[if_neg hl]
      have MM:=af.qU (gM n L (af.aN n L) a' k) x
      rw[if_neg hl,←hstep]at MM
      have Il:gM n L (af.aN n L) a' (k+1)≠[]:=by rw[hstep];simp
      have uS:=pG _ H2 rfl iJ
      unfold gj at uS
      rw[if_neg Il,MM]at uS
      have hneg:decide (((af.c8 (gM n L (af.aN n L) a' k):Nat):Int)<0)=false:=decide_eq_false (by omega)
      by_cases hx:x<af.c8 (gM n L (af.aN n L) a' k)
      ·rw[Nat.min_eq_right (by omega)]at uS
       refine aa.lss ?_
       rw[hneg]
       exact dO.mk true (fun _=>aa.cZ ⟨rfl,by rw[decide_eq_true hx]⟩) (fun e=>by simp at e) fun gs=>Br.yes (JE.mk uS)
      ·rw[Nat.min_eq_left (by omega)]at uS
       refine aa.lss ?_
       rw[hneg]
       exact dO.mk false (fun _=>aa.cZ ⟨rfl,by rw[decide_eq_false hx]⟩) (fun e=>by simp at e) fun gs=>Br.no (JE.mk uS)
   ·have:k=n:=by omega
    subst this
    obtain⟨n7,mB,m4,oc,rfl,l8,m2,zq,uU⟩:=hp
    refine Nil.ptr ?_
    refine ag.mk (Ld.mk zM rfl ?_)
    unfold gj
    rw[if_neg hne,←QB]
    refine aX.bS (ke:=ki) (vr:=Mi) (b:=bd) (val:=.int .i64 ((af.B k (af.lvl k L) a':Nat):Int)) (k:=a') (x:=af.B k (af.lvl k L) a') oM CK zq rfl fun es' dw rG=>⟨_,.tail (.tail (.head _)),?_⟩
    have Ui:∀x∈fi m2 a' (af.B k (af.lvl k L) a'),x.2=af.B k (af.lvl k L) x.1:=wv (f:=af.B k (af.lvl k L)) uU
    exact bN.here ⟨rfl,n7,mB,es',dw,rfl,l8,_,rG,Ui⟩
end Go.Proofs
set_option maxRecDepth 100000
namespace Go.Proofs
open Go Go.Sx
def VG(v:Value)(ts:List Tb)(B:Hp)(r:Value)(H:Hp):Prop:=
 (fQ ts∧∃(bp bl bd n:Nat) (L:List (List Nat)) (N:Hp),ts=cY n L∧(L=[]→n=0)∧n≤16∧(∀ws∈L,af.bO n ws)∧r=.tuple #[.pointer (some ⟨bp,0,none⟩),.int .i64 0]∧gZ bp bl bd v n L (af.aN n L) (N++B) H)
 ∨(¬fQ ts∧r=.tuple #[.pointer none,.int .i64 5])
theorem pz(n:Nat)(L:List (List Nat)):Du n L #[] 0 #[] 0:=⟨⟨[],aX.empty,by simp⟩,⟨[],aX.empty,by simp⟩⟩
theorem yF{n:Nat}{L:List (List Nat)}{k:Nat}(h:k<L.length):af.aN n (L.take (k+1))=af.aN n (L.take k)|||af.mJ n L[k]:=by
 unfold af.aN
 rw[List.take_add_one,List.getElem?_eq_getElem h,Option.toList_some,List.foldl_append];rfl
theorem tX{B:Hp}{v:Value}{ts:List Tb}(ht:bV B v ts)(aV:ts.length<4398046511104):Px Tryz.prog 72 #[v] B (VG v ts B):=by
 obtain⟨va,vc,vl,rfl⟩:∃a c l,v=.slice a l c:=by
  obtain⟨rs,h1,_⟩:=ht
  obtain⟨a,c,e,_⟩:=h1.shape
  exact⟨a,c,_,e⟩
 refine aW fun g=>FC ?_
 intro b1 _ b2 _
 refine Build.mk (cs:=[.slice va vl vc,.int .i64 0,.int .i64 0,.map (some b1),.map (some b2)]) (by kernel_rfl) ?_
 intro bp _
 generalize hvs:Value.slice va vl vc=vv at ht⊢
 refine ht.aL (aa.iK (b:=0) (Br.dec (fun h0=>?_) (fun h0=>?_)))
 ·have za:ts=[]:=List.eq_nil_of_length_eq_zero h0
  subst za
  refine⟨_,_,rfl,aJ.cons aJ.swap,(by repeat (first|exact aG.refl _|apply aG.cons|apply aG.app)),Or.inl ⟨by simp[fQ],bp,b1,b2,0,[],[],rfl,fun _=>rfl,by omega,by simp,rfl,_,_,_,_,?_,pz _ _⟩⟩
  subst hvs;rfl
 refine ae.pq (B:=B) (Hf ht aV) ?_
 rintro r N ⟨s,rfl⟩
 refine Ext.two ?_
 by_cases hO:fQ ts
 case neg=>
  rw[if_neg hO]
  exact aa.l6 (a:=5) (b:=0) (Br.dec (fun _=>jS.mk (by repeat (first|exact aG.refl _|apply aG.cons|apply aG.app)) (.inr ⟨hO,rfl⟩)) (fun h=>absurd (by decide) h))
 rw[if_pos hO]
 refine aa.l6 (a:=0) (b:=0) (Br.dec (fun h=>absurd rfl h) (fun _=>?_))
 obtain⟨n,L,fU,rfl,hne,hf⟩:=uI hO (by intro e;rw[e]at h0;exact h0 rfl)
 rw[List.length_map]at aV h0
 obtain⟨w0,oO⟩:∃w0,L[0]? =some w0:=⟨_,List.getElem?_eq_getElem (List.length_pos_iff.2 hne)⟩
 refine ht.NO (i:=0) (t:=⟨n,w0⟩) (by rw[List.getElem?_map,oO];rfl) zS ?_
 simp only
 refine Nil.ptr (ag.mk ?_)
 refine St.one (c:=#[vv,.int .i64 0,.int .i64 0,.map (some b1),.map (some b2)]) (c':=#[vv,.int .i64 (n:Int),.int .i64 0,.map (some b1),.map (some b2)]) (H':=(bp,.cells #[vv,.int .i64 (n:Int),.int .i64 0,.map (some b1),.map (some b2)] 137 (0,0))::(b2,.map #[] 0)::(b1,.map #[] 0)::(N++B)) (by subst hvs;exact .head _) rfl (by simp) rfl ?_
 refine ht.aL ?_
 rw[List.length_map]
 refine⟨fun vs H=>∃(k:Nat) (N:Hp),vs=[.int .i64 (k:Int)]∧k≤L.length∧H=(bp,.cells #[vv,.int .i64 (n:Int),.int .i64 ((af.aN n (L.take k):Nat):Int),.map (some b1),.map (some b2)] 137 (0,0))::(b2,.map #[] 0)::(b1,.map #[] 0)::(N++B),
  fun vs _=>L.length-aT vs 0,JE.mk ⟨0,N,rfl,by omega,rfl⟩,?_⟩
 clear N
 rintro w H ⟨k,N,⟨⟩,hk,rfl⟩ gs
 refine aa.cZ (Br.dec (fun hlt=>?_) (fun hlt=>?_))
 ·have hg:(L.map fun ws=>(⟨n,ws⟩:Tb))[k]? =some ⟨n,L[k]⟩:=by rw[List.getElem?_map,List.getElem?_eq_getElem hlt];rfl
  have gH:=hf L[k] (List.getElem_mem hlt)
  refine ht.ld hg zS fun s hw=>?_
  intro b3 _
  refine St.p ?_ ?_
  ·have:=ax hw;simpa[Value.oneCell']using this
  refine av.q ?_
  refine ae.eq (B:=B) (qu (v:=.agg (List.toArray [.int .i64 (n:Int),s])) (t:=⟨n,L[k]⟩) ⟨s,rfl,hw⟩) ?_
  rw[if_pos (show TF ⟨(n:Int),L[k]⟩from⟨by simp,by simpa using gH⟩)]
  refine Ext.two ?_
  simp only[Int.toNat_natCast]
  have Yw:2^n≤2^16:=Nat.pow_le_pow_right (n:=2) (by decide) fU
  have Qw:af.mJ n L[k]<2^n:=af.j7 n L[k] n
  have hus:=af.nx n (L.take k)
  refine Nil.ptr ?_
  refine ag.mk (Ld.mk zM rfl ?_)
  refine bf.q ?_
  refine aa.yP (by simp[aY];omega) (by simp[aY];omega) ?_
  rw[←yF hlt]
  refine Nil.ptr (ag.mk ?_)
  refine St.one (c:=#[vv,.int .i64 (n:Int),.int .i64 ((af.aN n (L.take k):Nat):Int),.map (some b1),.map (some b2)]) (c':=#[vv,.int .i64 (n:Int),.int .i64 ((af.aN n (L.take (k+1)):Nat):Int),.map (some b1),.map (some b2)]) (by repeat (first|exact cA.head _|apply cA.tail|apply cA.bP)) rfl (by simp) rfl ?_
  refine aa.inc ?_
  exact aq.of .tail ⟨k+1,N,rfl,by omega,rfl⟩ (by simp[aT];omega)
 ·have:k=L.length:=by omega
  subst this
  rw[List.take_length]
  refine⟨_,_,rfl,aJ.cons aJ.swap,(by repeat (first|exact aG.refl _|apply aG.cons|apply aG.app)),Or.inl ⟨hO,bp,b1,b2,n,L,N,rfl,fun e=>absurd e hne,fU,hf,rfl,_,_,_,_,rfl,pz _ _⟩⟩
theorem v9{n:Nat}{c:Nat→Nat→Nat}{f a v:Nat}(hv:v∈af.bg n a)(he:c a v+af.B n c (af.au a v true)=af.B n c a)(hm:∀u∈af.bg n a,u<v→c a u+af.B n c (af.au a u true)≠af.B n c a):
    af.ord n c (f+1) a=v::af.ord n c f (af.au a v true):=by
  obtain⟨u,h1,h2,h3,h4⟩:=af.nM (c:=c) (f:=f) (List.ne_nil_of_mem hv)
  rcases Nat.lt_trichotomy u v with h|h|h
  · exact absurd h2 (hm u h1 h)
  · rw[h4,h]
  · exact absurd he (h3 v hv h)
theorem uf{ow:Value}{n:Nat}{L:List (List Nat)}{B:Hp}{bp bl bd a:Nat}(ha:a<4611686018427387904){H:Hp}(hp:gZ bp bl bd ow n L 0 B H):
    Fc Tryz.prog 74 #[.pointer (some ⟨bp,0,none⟩),.int .i64 (a:Int)] H (fun r H'=>r=.int .i64 0∧H'=H):=by
  obtain⟨n7,mB,m4,oc,rfl,hM⟩:=hp
  refine aW fun g=>uk ?_
  refine Nil.ptr ?_
  refine ag.mk (Ld.mk zM rfl ?_)
  refine aa.gY (b:=0) (by simp[aY];omega) (by simp[aY]) ?_
  refine Nil.ptr ?_
  refine ag.mk (Ld.mk zM rfl ?_)
  exact aa.iK (b:=0) (Br.T (bN.here ⟨rfl,rfl⟩))
def JI(ts:List Tb)(B:Hp)(r:Value)(H:Hp):Prop:=
  (¬fQ ts∧r=.tuple #[.int .i64 0,.slice none 0 0,.int .i64 5])∨
  (fQ ts∧∃(n:Nat) (L:List (List Nat)),ts=cY n L∧(L=[]→n=0)∧n≤16∧(∀ws∈L,af.bO n ws)∧
    ((12<n∧r=.tuple #[.int .i64 0,.slice none 0 0,.int .i64 6])∨
     (n≤12∧∃(s:Value) (C N:Hp),r=.tuple #[.int .i64 ((af.B n (af.lvl n L) 0:Nat):Int),s,.int .i64 0]∧aK 3 .i64 s (iw (af.ord n (af.lvl n L) n 0)) C∧H=C++(N++B))))
structure Xr(n:Nat)(c:Nat→Nat→Nat)(s:Value)(a:Nat)(l:List Nat)(C:Hp):Prop where
  own:aK 3 .i64 s (iw l) C
  lt:a<2^n
  len:(af.bg n a).length+l.length=n
  pre:l++af.ord n c (n-l.length) a=af.ord n c n 0
theorem qf{a v:Nat}:(a>>>v&&&1=0)↔a.testBit v=false:=by
  have:=Nat.testBit_eq_decide_div_mod_eq (x:=a) (i:=v)
  rw[this,Nat.and_one_is_mod,Nat.shiftRight_eq_div_pow]
  simp
theorem Dk{B:Hp}{v:Value}{ts:List Tb}(ht:bV B v ts)(aV:ts.length<33554432):Px Tryz.prog 26 #[v] B (JI ts B):=by
  refine aW fun g=>FY ?_
  refine ae.pq (tX ht (by omega)) ?_
  rintro r N0 (⟨hO,bp,bl,bd,n,L,N,rfl,uT,fU,hf,rfl,hp⟩|⟨hO,rfl⟩)
  case inr=>exact Ext.mk rfl (Ext.mk rfl (aa.l6 (a:=5) (b:=0) (Br.dec (fun _=>jS.mk (by repeat (first|exact aG.refl _|apply aG.cons|apply aG.app)) (.inl ⟨hO,rfl⟩)) (fun h=>absurd (by decide) h))))
  generalize N0++B=H2 at hp⊢
  clear N0
  rw[aF]at aV
  have p9:=hp
  obtain⟨n7,mB,m4,oc,rfl,hM⟩:=hp
  refine Ext.mk rfl (Ext.mk rfl (aa.l6 (a:=0) (b:=0) (Br.dec (fun h=>absurd rfl h) (fun _=>?_))))
  refine Nil.ptr ?_
  refine ag.mk (Ld.mk zM rfl ?_)
  refine aa.jb (b:=12) (Br.dec (fun Gn=>jS.mk (by repeat (first|exact aG.refl _|apply aG.cons|apply aG.app)) (.inr ⟨hO,n,L,rfl,uT,fU,hf,.inl ⟨Gn,rfl⟩⟩)) (fun Gn=>?_))
  clear hM
  have ia:n≤12:=by omega
  have IQ:L≠[]→jM v n L (N++B):=fun hne=>⟨ht.mono zS,hf,hne,aV,ia⟩
  have iJ:2^n≤2^12:=Nat.pow_le_pow_right (by decide) ia
  have hm0:(af.bg n 0).length=n:=by
    have:af.bg n 0=List.range n:=by unfold af.bg;rw[List.filter_eq_self];simp
    rw[this,List.length_range]
  refine⟨fun vs H=>∃(s:Value) (a:Nat) (l:List Nat) (C H1:Hp),vs=[s,.int .i64 (a:Int)]∧Xr n (af.lvl n L) s a l C∧gZ bp bl bd v n L (af.aN n L) (N++B) H1∧H=C++H1,
    fun vs _=>(af.bg n (aT vs 1)).length,JE.mk ⟨_,0,[],[],_,rfl,⟨aK.nil,Nat.two_pow_pos n,by rw[hm0];rfl,by simp⟩,p9,rfl⟩,?_⟩
  clear p9 n7 mB m4 oc
  rintro Tp To H ⟨s,a,l,C,H1,⟨⟩,hb,hp,rfl⟩ gs
  have p9:=hp
  obtain⟨n7,mB,m4,oc,rfl,hM⟩:=hp
  refine hb.own.aL ?_
  rw[ah]
  refine Nil.ptr ?_
  refine ag.mk (Ld.mk zM rfl ?_)
  have xg:=hb.len
  refine aa.cZ (Br.dec (fun hlt=>?_) (fun hlt=>?_))
  · have Ew:af.bg n a≠[]:=by intro e;rw[e]at xg;simp at xg;omega
    have hne:L≠[]:=fun e=>by have:=uT e;omega
    have nj:=IQ hne
    have Pm:n-l.length=n-l.length-1+1:=by omega
    refine Nil.ptr ?_
    refine ag.mk (Ld.mk zM rfl ?_)
    refine⟨fun vs H=>∃(k:Nat) (H1:Hp),vs=[Tp,.int .i64 (a:Int),.int .i64 (k:Int)]∧k≤n∧(∀u∈af.bg n a,u<k→af.lvl n L a u+af.B n (af.lvl n L) (af.au a u true)≠af.B n (af.lvl n L) a)∧gZ bp bl bd v n L (af.aN n L) (N++B) H1∧H=C++H1,
      fun vs _=>n-aT vs 2,JE.mk ⟨0,_,rfl,by omega,fun u _ h=>by omega,p9,rfl⟩,?_⟩
    clear hM p9
    rintro Xw Xv Xu H ⟨k,H1,⟨⟩,hk,hmin,hp,rfl⟩ gs
    refine aa.cZ (Br.dec (fun hlk=>?_) (fun hlk=>?_))
    · intro J hJ
      have hpk:2^k≤2^12:=Nat.pow_le_pow_right (by decide) (by omega)
      have hno:∀H1,¬(a.testBit k=false∧af.lvl n L a k+af.B n (af.lvl n L) (af.au a k true)=af.B n (af.lvl n L) a)→gZ bp bl bd v n L (af.aN n L) (N++B) H1→J [.bool false] (C++H1):=fun H1 hx hp=>hJ _ _ fun gs=>by
        refine Br.no (aa.inc ?_)
        refine aq.mk ⟨k+1,H1,rfl,by omega,fun u hu YE=>?_,hp,rfl⟩ (by rw[bU,bU,bU,bU];show n-(((k:Int)+1).toNat)<n-((k:Int).toNat);omega)
        by_cases e:u=k
        · subst e;exact fun h=>hx ⟨(af.bI.1 hu).2,h⟩
        · exact hmin u hu (by omega)
      refine DR.self ?_
      have Zd:a<4611686018427387904:=by have:=hb.lt;omega
      refine aa.fD (by simp[aY];omega) (aa.gY (b:=1) (by simp[aY];exact Nat.lt_of_le_of_lt (Nat.shiftRight_le _ _) (by omega)) (by decide) (aa.iK (b:=0) ?_))
      refine Br.dec (fun h0=>?_) (fun h0=>JE.mk (hno H1 (fun h=>h0 (qf.2 h.1)) hp))
      have yw:=qf.1 h0
      refine aa.kf (a:=1) (by simp[IntKind.bits];omega) (by rw[Nat.one_shiftLeft];simp[aY];omega) ?_
      rw[Nat.one_shiftLeft]
      refine aa.yP (by simp[aY];omega) (by simp[aY];omega) ?_
      have EP:a|||2^k=af.au a k true:=rfl
      rw[EP]
      intro F
      refine ae.fq (qP nj hp hb.lt hlk yw) ?_
      rintro r H2 ⟨rfl,iJ⟩
      intro F
      refine ae.fq (kY nj _ (af.au a k true) (Nat.le_refl _) (af.dc hb.lt hlk) H2 iJ) ?_
      rintro r H3 ⟨rfl,MI⟩
      have OD:=mY nj a k
      have OC:=ov nj (af.au a k true)
      refine aa.dx ?_
      intro F
      refine ae.fq (kY nj _ a (Nat.le_refl _) hb.lt H3 MI) ?_
      rintro r H4 ⟨rfl,Ph⟩
      refine aa.iK ?_
      by_cases he:af.lvl n L a k+af.B n (af.lvl n L) (af.au a k true)=af.B n (af.lvl n L) a
      · rw[decide_eq_true he]
        have hmem:k∈af.bg n a:=af.bI.2 ⟨hlk,yw⟩
        have Ik:=v9 (f:=n-l.length-1) hmem he hmin
        have hml:=af.eB hmem
        refine ay.mk (JE.mk (hJ _ _ fun gs=>Br.yes ?_))
        refine an.int (e:=3) (by kernel_rfl) (by kernel_rfl) (by kernel_rfl) fun xb=>?_
        refine aK.app (A:=[_]) hb.own (by exact .head _) (by simp;omega) (by simp;omega) fun v' C' ho=>?_
        refine aa.kf (a:=1) (by simp[IntKind.bits];omega) (by rw[Nat.one_shiftLeft];simp[aY];omega) ?_
        rw[Nat.one_shiftLeft]
        refine aa.yP (by simp[aY];omega) (by simp[aY];omega) ?_
        rw[EP]
        refine aq.of .right ⟨v',af.au a k true,l++[k],C',H4,rfl,⟨by simpa[iw]using ho,af.dc hb.lt hlk,by simp;omega,?_⟩,Ph,rfl⟩ (by rw[bU,bU];show(af.bg n (af.au a k true)).length<(af.bg n a).length;omega)
        have:=hb.pre
        rw[Pm,Ik]at this
        rw[List.length_append,List.length_singleton,Nat.sub_add_eq,List.append_assoc]
        exact this
      · rw[decide_eq_false he]
        exact ay.mk (JE.mk (hno H4 (fun h=>he h.2) Ph))
    · obtain⟨u,h1,h2,_⟩:=af.nM (c:=af.lvl n L) (f:=0) Ew
      exact absurd h2 (hmin u h1 (by have:=(af.bI.1 h1).1;omega))
  · have sC:l.length=n:=by omega
    have hl:l=af.ord n (af.lvl n L) n 0:=by
      have:=hb.pre
      rw[sC,Nat.sub_self]at this
      simpa[af.ord]using this
    have hown:=hb.own
    rw[hl]at hown
    by_cases hne:L=[]
    · have hn:=uT hne
      subst hne
      subst hn
      refine ae.fq (uf (a:=0) (by omega) p9) ?_
      rintro r H3 ⟨rfl,rfl⟩
      exact⟨_,_,rfl,.refl _,(by repeat (first|exact aG.refl _|apply aG.cons|apply aG.app)),.inr ⟨hO,0,[],rfl,uT,fU,hf,.inr ⟨ia,_,C,(_::_::_::N),rfl,hown,rfl⟩⟩⟩
    · refine ae.fq (kY (IQ hne) _ 0 (Nat.le_refl _) (Nat.two_pow_pos n) _ p9) ?_
      rintro r H3 ⟨rfl,Ni,Nk,WX,W0,rfl,Tc⟩
      exact⟨_,_,rfl,.refl _,(by repeat (first|exact aG.refl _|apply aG.cons|apply aG.app)),.inr ⟨hO,n,L,rfl,uT,fU,hf,.inr ⟨ia,_,C,(_::_::_::N),rfl,hown,rfl⟩⟩⟩
end Go.Proofs
namespace Gr
abbrev It:=Int×Int
def prec(a b:It):Bool:=decide (a.2<b.2)||(a.2==b.2&&decide (a.1<b.1))
theorem qI{a b:It}:prec a b=true↔a.2<b.2∨a.2=b.2∧a.1<b.1:=by simp[prec]
theorem gN{a b:It}:prec a b=false↔¬(a.2<b.2∨a.2=b.2∧a.1<b.1):=by rw[←qI];simp
theorem kq(a:It):prec a a=false:=by rw[gN];omega
theorem mR{a b:It}(h:prec a b=true):prec b a=false:=by rw[qI]at h;rw[gN];omega
theorem le_trans{a b c:It}(h1:prec b a=false)(h2:prec c b=false):prec c a=false:=by rw[gN]at*;omega
theorem yX{a b c:It}(h1:prec a b=true)(h2:prec c b=false):prec c a=false:=by rw[qI]at h1;rw[gN]at*;omega
def e9(V:Nat→It)(i:Nat)(b:It):Nat→It:=fun j=>if j=i then b else V j
def E(V:Nat→It)(j:Nat):Prop:=prec (V j) (V ((j-1) /2))=false
def r8(n:Nat)(V:Nat→It)(i:Nat):Prop:=
 (∀j,0<j→j<n→j≠i→(j-1) /2≠i→E V j)∧(∀j,0<j→j<n→(j-1) /2=i→0<i→prec (V j) (V ((i-1) /2))=false)
def lY(n:Nat)(V:Nat→It)(i:Nat):Prop:=∀j,0<j→j<n→(j-1) /2=i→E V j
def Mg(n:Nat)(V:Nat→It)(i:Nat):Prop:=
 (∀j,0<j→j<n→(j-1) /2≠i→E V j)∧(∀j,0<j→j<n→(j-1) /2=i→0<i→prec (V j) (V ((i-1) /2))=false)
def Ord(n:Nat)(V:Nat→It):Prop:=∀j,0<j→j<n→E V j
theorem Kb{n i:Nat}{V:Nat→It}(hi:0<i)(hn:i<n)(h:r8 n V i)(ha:prec (V i) (V ((i-1) /2))=true):
  r8 n (e9 (e9 V i (V ((i-1) /2))) ((i-1) /2) (V i)) ((i-1) /2)∧lY n (e9 (e9 V i (V ((i-1) /2))) ((i-1) /2) (V i)) ((i-1) /2):=by
 obtain⟨h1,h2⟩:=h
 have hq:(i-1) /2≠i:=by omega
 generalize Yu:(i-1) /2=q at*
 have hqi:q<i:=by omega
 refine⟨⟨?_,?_⟩,?_⟩
 ·intro j j0 jn jq jp
  unfold E e9
  rw[if_neg jq,if_neg jp]
  by_cases e1:j=i
  ·exact absurd (by rw[e1,Yu]) jp
  ·rw[if_neg e1]
   by_cases e2:(j-1) /2=i
   ·rw[if_pos e2];exact h2 j j0 jn e2 hi
   ·rw[if_neg e2];exact h1 j j0 jn e1 e2
 ·intro j j0 jn jp q0
  unfold e9
  have Ua:(q-1) /2≠q:=by omega
  have T9:(q-1) /2≠i:=by omega
  rw[if_neg Ua,if_neg T9]
  have Pp:j≠q:=by omega
  rw[if_neg Pp]
  have Ib:E V q:=h1 q q0 (by omega) hq (by omega)
  by_cases e1:j=i
  ·rw[if_pos e1];exact Ib
  ·rw[if_neg e1]
   have:=h1 j j0 jn e1 (by omega)
   unfold E at this Ib
   rw[jp]at this
   exact le_trans Ib this
 ·intro j j0 jn jp
  unfold E e9
  rw[jp,if_pos rfl]
  have Pp:j≠q:=by omega
  rw[if_neg Pp]
  by_cases e1:j=i
  ·rw[if_pos e1];exact mR ha
  ·rw[if_neg e1]
   have:=h1 j j0 jn e1 (by omega)
   unfold E at this
   rw[jp]at this
   exact yX ha this
theorem Kc{n i:Nat}{V:Nat→It}(h:r8 n V i)(ha:i=0∨prec (V i) (V ((i-1) /2))=false):Mg n V i:=by
 refine⟨fun j j0 jn jp=>?_,h.2⟩
 by_cases e:j=i
 ·subst e;rcases ha with ha|ha
  ·omega
  ·exact ha
 ·exact h.1 j j0 jn e jp
theorem tV{n i:Nat}{V:Nat→It}(h:Mg n V i)(hc:lY n V i):Ord n V:=fun j j0 jn=>by
 by_cases e:(j-1) /2=i
 ·exact hc j j0 jn e
 ·exact h.1 j j0 jn e
def tK(n:Nat)(V:Nat→It)(i:Nat):Nat:=if(decide (2*i+1+1<n) &&prec (V (2*i+1+1)) (V (2*i+1)))=true then 2*i+1+1 else 2*i+1
theorem oL(n:Nat)(V:Nat→It)(i:Nat):tK n V i=2*i+1∨tK n V i=2*i+2∧2*i+2<n:=by
 unfold tK;split
 ·rename_i h;simp only[Bool.and_eq_true,decide_eq_true_eq]at h;right;omega
 ·left;rfl
theorem tJ{n i j:Nat}{V:Nat→It}(j0:0<j)(jn:j<n)(jp:(j-1) /2=i):prec (V j) (V (tK n V i))=false:=by
 unfold tK
 split
 ·rename_i h
  simp only[Bool.and_eq_true,decide_eq_true_eq]at h
  rcases(show j=2*i+1∨j=2*i+1+1 by omega)with rfl|rfl
  ·exact mR h.2
  ·exact kq _
 ·rename_i h
  rcases(show j=2*i+1∨j=2*i+1+1 by omega)with rfl|rfl
  ·exact kq _
  ·cases hh:prec (V (2*i+1+1)) (V (2*i+1))
   ·rfl
   ·exact absurd (by simp[hh,jn]) h
theorem ET{n i:Nat}{V:Nat→It}(h:Mg n V i)(hk:tK n V i<n)(ha:prec (V (tK n V i)) (V i)=true):
  Mg n (e9 (e9 V i (V (tK n V i))) (tK n V i) (V i)) (tK n V i):=by
 have hl:∀j,0<j→j<n→(j-1) /2=i→prec (V j) (V (tK n V i))=false:=fun j=>tJ
 have hkc:=oL n V i
 generalize tK n V i=c at*
 obtain⟨h1,h2⟩:=h
 have UG:(c-1) /2=i:=by omega
 have hc0:0<c:=by omega
 have oA:c≠i:=by omega
 refine⟨?_,?_⟩
 ·intro j j0 jn jp
  unfold E e9
  rw[if_neg jp]
  by_cases e1:j=c
  ·rw[if_pos e1,if_pos (by rw[e1];exact UG)];exact mR ha
  ·rw[if_neg e1]
   by_cases e2:j=i
   ·rw[if_pos e2]
    have:(j-1) /2≠i:=by omega
    rw[if_neg this,e2];exact h2 c hc0 hk UG (by omega)
   ·rw[if_neg e2]
    by_cases e3:(j-1) /2=i
    ·rw[if_pos e3];exact hl j j0 jn e3
    ·rw[if_neg e3];exact h1 j j0 jn e3
 ·intro j j0 jn jp _
  unfold e9
  rw[UG]
  have:j≠c:=by omega
  have e2:j≠i:=by omega
  rw[if_neg this,if_neg e2,if_neg (fun e=>oA e.symm),if_pos rfl]
  have:=h1 j j0 jn (by omega)
  unfold E at this
  rwa [jp]at this
theorem EU{n i:Nat}{V:Nat→It}(h:Mg n V i)(ha:n≤tK n V i∨prec (V (tK n V i)) (V i)=false):Ord n V:=by
 refine tV h fun j j0 jn jp=>?_
 have hl:=tJ (V:=V) j0 jn jp
 rcases ha with ha|ha
 ·rcases oL n V i with h|h<;>omega
 ·unfold E;rw[jp];exact le_trans ha hl
theorem KL{n:Nat}{V:Nat→It}(h:Ord n V):∀j,j<n→prec (V j) (V 0)=false:=by
 intro j
 induction j using Nat.strongRecOn with
 |_ j ih=>
  intro jn
  by_cases j0:j=0
  ·subst j0;exact kq _
  ·exact le_trans (ih ((j-1) /2) (by omega) (by omega)) (h j (by omega) jn)
def aZ(l:List It)(j:Nat):It:=l.getD j (0,0)
theorem Dn{l:List It}{j:Nat}(h:j<l.length):l[j]? =some (aZ l j):=by simp[aZ,List.getD,h]
theorem eu{l:List It}{i:Nat}(b:It)(h:i<l.length):aZ (l.set i b)=e9 (aZ l) i b:=by
 funext j
 unfold aZ e9
 simp only[List.getD,List.getElem?_set]
 by_cases e:i=j
 ·subst e;simp[h]
 ·rw[if_neg e,if_neg (fun x=>e x.symm)]
theorem mN{l:List It}{i:Nat}(h:i<l.length):l.set i (aZ l i)=l:=by
 apply List.ext_getElem?;intro j;rw[List.getElem?_set];by_cases e:i=j
 ·subst e;simp[h,aZ,List.getD]
 ·simp[e]
theorem swap_perm{l:List It}{i q:Nat}(hi:i<l.length)(hq:q<l.length)(hne:q≠i):((l.set i (aZ l q)).set q (aZ l i)).Perm l:=by
 rw[List.perm_iff_count]
 intro x
 have g1:l[i]=aZ l i:=by simp[aZ,List.getD,hi]
 have g2:l[q]=aZ l q:=by simp[aZ,List.getD,hq]
 have g3:(l.set i (aZ l q))[q]'(by simp[hq])=aZ l q:=by rw[List.getElem_set_ne (fun e=>hne e.symm)];exact g2
 rw[List.count_set (by simp[hq]),List.count_set hi,g1,g3]
 have hc:aZ l i=x→0<l.count x:=fun e=>by rw[List.count_pos_iff,←e,←g1];exact List.getElem_mem hi
 by_cases e1:aZ l i=x
 ·have:=hc e1
  by_cases e2:aZ l q=x<;>simp[e1,e2]<;>omega
 ·by_cases e2:aZ l q=x<;>simp[e1,e2]
def eH(l:List It):Prop:=(l.map Prod.fst).Nodup
theorem eH.perm{l l':List It}(h:eH l)(p:l'.Perm l):eH l':=(p.map _).nodup_iff.2 h
theorem eH.inj{l:List It}(h:eH l){i j:Nat}(hi:i<l.length)(hj:j<l.length)(e:(aZ l i).1=(aZ l j).1):i=j:=by
 unfold eH at h
 have hp:=List.pairwise_iff_getElem.1 h
 have g:∀k (hk:k<l.length),(l.map Prod.fst)[k]'(by simpa using hk)=(aZ l k).1:=fun k hk=>by simp[aZ,List.getD,hk]
 rcases Nat.lt_trichotomy i j with hlt|rfl|hlt
 ·have:=hp i j (by simpa using hi) (by simpa using hj) hlt
  rw[g i hi,g j hj]at this;exact absurd e this
 ·rfl
 ·have:=hp j i (by simpa using hj) (by simpa using hi) hlt
  rw[g i hi,g j hj]at this;exact absurd e.symm this
theorem fF{l:List It}{x:Int}:x∈l.map Prod.fst↔∃j,j<l.length∧(aZ l j).1=x:=by
 rw[List.mem_iff_getElem]
 constructor
 ·rintro⟨j,hj,e⟩
  have hj':j<l.length:=by simpa using hj
  exact⟨j,hj',by simpa[aZ,List.getD,hj']using e⟩
 ·rintro⟨j,hj,e⟩
  exact⟨j,by simpa using hj,by simpa[aZ,List.getD,hj]using e⟩
def yf(f:Int→Option Nat)(x:Int)(p:Option Nat):Int→Option Nat:=fun y=>if y=x then p else f y
def iC(l:List It)(f:Int→Option Nat)(i:Nat):Prop:=(∀j,j<l.length→j≠i→f (aZ l j).1=some j)∧∀x,x∉l.map Prod.fst→f x=none
def Cons(l:List It)(f:Int→Option Nat):Prop:=(∀j,j<l.length→f (aZ l j).1=some j)∧∀x,x∉l.map Prod.fst→f x=none
theorem Cons.x{l:List It}{f:Int→Option Nat}(h:Cons l f)(i:Nat):iC l f i:=⟨fun j hj _=>h.1 j hj,h.2⟩
theorem iC.done{l:List It}{f:Int→Option Nat}{i:Nat}(h:iC l f i)(ho:eH l)(hi:i<l.length):Cons l (yf f (aZ l i).1 (some i)):=by
 refine⟨fun j hj=>?_,fun x hx=>?_⟩
 ·unfold yf
  by_cases e:(aZ l j).1=(aZ l i).1
  ·rw[if_pos e,ho.inj hj hi e]
  ·rw[if_neg e];exact h.1 j hj (fun e2=>e (by rw[e2]))
 ·unfold yf
  rw[if_neg (fun e=>hx (fF.2 ⟨i,hi,e.symm⟩))]
  exact h.2 x hx
theorem iC.step{l:List It}{f:Int→Option Nat}{i q:Nat}(h:iC l f i)(ho:eH l)(hi:i<l.length)(hq:q<l.length)(hne:q≠i):
  iC ((l.set i (aZ l q)).set q (aZ l i)) (yf f (aZ l q).1 (some i)) q:=by
 have nm:∀j,aZ ((l.set i (aZ l q)).set q (aZ l i)) j=e9 (e9 (aZ l) i (aZ l q)) q (aZ l i) j:=fun j=>by rw[eu _ (by simpa using hq),eu _ hi]
 refine⟨fun j hj Pp=>?_,fun x hx=>?_⟩
 ·rw[nm]
  simp only[List.length_set]at hj
  unfold e9 yf
  rw[if_neg Pp]
  by_cases e:j=i
  ·rw[if_pos e,if_pos rfl,e]
  ·rw[if_neg e]
   rw[if_neg (fun e2=>Pp (ho.inj hj hq e2))]
   exact h.1 j hj e
 ·have hx':x∉l.map Prod.fst:=fun hm=>hx (by
   have:=(swap_perm hi hq hne).map Prod.fst
   exact this.mem_iff.2 hm)
  unfold yf
  rw[if_neg (fun e=>hx' (fF.2 ⟨q,hq,e.symm⟩))]
  exact h.2 x hx'
end Gr
namespace Gr
open Go Go.Sx
def enc(kd:IntKind)(a:It):List Value:=[.int kd a.1,.int .i64 a.2]
def c9(kd:IntKind)(l:List It):List (List Value):=l.map (enc kd)
theorem cH(kd:IntKind)(l:List It):(c9 kd l).length=l.length:=by simp[c9]
theorem ES(kd:IntKind)(l:List It):∀r∈c9 kd l,r.length=2:=fun r hr=>by
 obtain⟨a,_,rfl⟩:=List.mem_map.1 hr;rfl
theorem dB{kd:IntKind}{l:List It}{i:Nat}(h:i<l.length)(aD:List (List Value)):(c9 kd l++aD)[i]? =some (enc kd (aZ l i)):=by
 rw[List.getElem?_append_left (by rw[cH];exact h),c9,List.getElem?_map,Dn h];rfl
theorem xK{kd:IntKind}{l:List It}{i:Nat}(h:i<l.length)(a:It)(aD:List (List Value)):(c9 kd l++aD).set i (enc kd a)=c9 kd (l.set i a)++aD:=by
 rw[List.set_append_left _ _ (by rw[cH];exact h),c9,c9,List.map_set]
def idx(i:Nat):Value:=.int .i64 (i:Int)
def HO(kd:IntKind)(TI TH:TypeId)(h:Value)(l:List It)(f:Int→Option Nat)(C:Hp):Prop:=
 ∃bh sv mv Cs Cm,h=.pointer (some ⟨bh,0,none⟩)∧C=(bh,Obj.cells #[sv,mv] TH (0,0))::(Cs++Cm)∧aO TI 2 sv (c9 kd l) Cs∧iH kd idx mv f Cm∧(mv=.map none→l=[])
theorem HO.open{kd:IntKind}{TI TH:TypeId}{h:Value}{l:List It}{f:Int→Option Nat}{C:Hp}(H:HO kd TI TH h l f C)(hp:0<l.length):
  ∃bh la mb aD Cm,h=.pointer (some ⟨bh,0,none⟩)∧
   C=(bh,Obj.cells #[.slice (some ⟨la,0,none⟩) l.length (l.length+aD.length),.map (some mb)] TH (0,0))::(la,.cells (rows (c9 kd l++aD)) TI (0,0))::Cm∧
   (∀r∈c9 kd l++aD,r.length=2)∧iH kd idx (.map (some mb)) f Cm:=by
 obtain⟨bh,sv,mv,Cs,Cm,rfl,rfl,hs,hm,hne⟩:=H
 obtain⟨la,aD,rfl,rfl,aB⟩:=hs.pos (by rw[cH];exact hp)
 rw[cH]
 rcases hm with⟨rfl,_⟩|⟨mb,m,ck,rfl,h2⟩
 ·rw[hne rfl]at hp;simp at hp
 ·exact⟨bh,la,mb,aD,Cm,rfl,rfl,aB,.inr ⟨mb,m,ck,rfl,h2⟩⟩
theorem HO.shut{kd:IntKind}{TI TH:TypeId}{bh la mb n c:Nat}{aD:List (List Value)}{Cm:Hp}{l:List It}{f:Int→Option Nat}(aB:∀r∈c9 kd l++aD,r.length=2)(hn:n=l.length)(hc:c=l.length+aD.length)
 (hm:iH kd idx (.map (some mb)) f Cm):
  HO kd TI TH (.pointer (some ⟨bh,0,none⟩)) l f ((bh,Obj.cells #[.slice (some ⟨la,0,none⟩) n c,.map (some mb)] TH (0,0))::(la,.cells (rows (c9 kd l++aD)) TI (0,0))::Cm):=
 ⟨bh,_,_,[_],Cm,rfl,rfl,aO.mk' aB (by rw[cH];exact hn) (by rw[cH];exact hc),hm,fun h=>by simp at h⟩
theorem vV{l aD:List (List Value)}(h:∀r∈l++aD,r.length=2)(kd:IntKind)(l':List It):∀r∈c9 kd l'++aD,r.length=2:=fun r hr=>by
 rcases List.mem_append.1 hr with hr|hr
 ·exact ES kd l' r hr
 ·exact h r (by simp[hr])
theorem lP(kd:IntKind)(a:It):∀v∈enc kd a,v.oneCell'=true:=by simp[enc,Value.oneCell']
end Gr
namespace Gr
open Go Go.Sx
theorem ND(j:Nat)(h:0<j):((j-1:Nat):Int).tdiv 2=(((j-1) /2:Nat):Int):=by
 rw[Int.tdiv_eq_ediv_of_nonneg (by omega)];omega
theorem qA{l:List It}{i q:Nat}(a:It)(hi:i<l.length)(hq:q<l.length)(hne:q≠i):((l.set i a).set i (aZ (l.set i a) q)).set q (aZ (l.set i a) i)=(l.set i (aZ l q)).set q a:=by
 rw[eu a hi,List.set_set]
 simp[e9,hne]
def HI(kd:IntKind)(TI TH:TypeId)(h:Value)(l:List It)(C:Hp):Prop:=∃f,HO kd TI TH h l f C∧Cons l f∧Ord l.length (aZ l)∧eH l
theorem zV{l:List It}{a:It}{j:Nat}(h:j<l.length):aZ (l++[a]) j=aZ l j:=by simp[aZ,List.getD,List.getElem?_append_left h]
theorem G6{l:List It}{f:Int→Option Nat}{a:It}(hc:Cons l f)(ho:Ord l.length (aZ l))(h1:eH l)(hx:a.1∉l.map Prod.fst):
  r8 (l++[a]).length (aZ (l++[a])) l.length∧iC (l++[a]) f l.length∧eH (l++[a])∧lY (l++[a]).length (aZ (l++[a])) l.length:=by
 simp only[List.length_append,List.length_cons,List.length_nil,Nat.zero_add]
 refine⟨⟨fun j j0 jn Qg jp=>?_,fun j j0 jn jp=>by omega⟩,⟨fun j jn Qg=>?_,fun x hx'=>?_⟩,?_,fun j j0 jn jp=>by omega⟩
 ·unfold E;rw[zV (by omega),zV (by omega)];exact ho j j0 (by omega)
 ·simp only[List.length_append,List.length_cons,List.length_nil]at jn
  rw[zV (by omega)];exact hc.1 j (by omega)
 ·exact hc.2 x (fun h=>hx' (by rw[List.map_append,List.mem_append];exact .inl h))
 ·unfold eH at*;rw[List.map_append,List.nodup_append];exact⟨h1,by simp,fun a' dy b hb=>by simp at hb;subst hb;intro e;subst e;exact hx dy⟩
theorem rS{l:List It}{f:Int→Option Nat}(hc:Cons l f){x:Int}:(x∉l.map Prod.fst∧f x=none)∨∃i,i<l.length∧(aZ l i).1=x∧f x=some i:=by
 by_cases h:x∈l.map Prod.fst
 ·obtain⟨j,hj,e⟩:=fF.1 h
  exact .inr ⟨j,hj,e,by rw[←e];exact hc.1 j hj⟩
 ·exact .inl ⟨h,hc.2 x h⟩
theorem KB{l:List It}{f:Int→Option Nat}(hc:Cons l f)(ho:Ord l.length (aZ l))(h1:eH l){n:Nat}(hn:l.length=n+1):
  let l':=l.take n
  ((0<n→(aZ l n)::(l'.set 0 (aZ l n)).tail=l'.set 0 (aZ l n)∧(aZ l 0::l'.set 0 (aZ l n)).Perm l∧Mg n (aZ (l'.set 0 (aZ l n))) 0∧eH (l'.set 0 (aZ l n))∧
   iC (l'.set 0 (aZ l n)) (yf f (aZ l 0).1 none) 0)):=by
 intro l' uT
 have hl':l'.length=n:=by simp[l',hn]
 have cK:(aZ l 0::l'.set 0 (aZ l n)).Perm l:=by
  rw[List.perm_iff_count]
  intro x
  have e:l=l'++[aZ l n]:=by
   have:l=l.take n++l.drop n:=(List.take_append_drop n l).symm
   have h2:l.drop n=[aZ l n]:=by
    rw[List.drop_eq_getElem_cons (by omega),List.drop_eq_nil_of_le (by omega)]
    simp[hn,aZ,List.getD]
   rw[h2]at this;exact this
  have g0:l'[0]'(by omega)=aZ l 0:=by simp[l',aZ,List.getD,hn]
  conv=>rhs;rw[e]
  rw[List.count_cons,List.count_set (by omega),g0,List.count_append]
  have hc0:aZ l 0=x→0<l'.count x:=fun e=>by rw[List.count_pos_iff,←e,←g0];exact List.getElem_mem _
  by_cases e1:aZ l 0=x
  ·have:=hc0 e1
   by_cases e2:aZ l n=x<;>simp[e1,e2]<;>omega
  ·by_cases e2:aZ l n=x<;>simp[e1,e2]
 have nm:∀j,j<n→j≠0→aZ (l'.set 0 (aZ l n)) j=aZ l j:=fun j hj h0=>by
  rw[eu _ (by omega)];simp[e9,h0,l',aZ,List.getD,hj]
 have hO:eH (l'.set 0 (aZ l n)):=by
  have:=(h1.perm cK:eH _)
  unfold eH at this⊢
  simp only[List.map_cons,List.nodup_cons]at this
  exact this.2
 refine⟨?_,cK,⟨fun j j0 jn jp=>?_,fun j j0 jn jp h=>by omega⟩,hO,fun j hj Lt=>?_,fun x hx=>?_⟩
 ·cases hh:l' with
  |nil=>rw[hh]at hl';simp at hl';omega
  |cons a r=>simp
 ·unfold E;rw[nm j jn (by omega),nm _ (by omega) jp];exact ho j j0 (by omega)
 ·simp only[List.length_set,hl']at hj
  rw[nm j hj Lt]
  unfold yf
  rw[if_neg (fun e=>Lt (h1.inj (by omega) (by omega) e))]
  exact hc.1 j (by omega)
 ·unfold yf
  by_cases e:x=(aZ l 0).1
  ·rw[if_pos e]
  ·rw[if_neg e]
   refine hc.2 x fun hm=>hx ?_
   have:=(cK.map Prod.fst).mem_iff.2 hm
   simp only[List.map_cons,List.mem_cons]at this
   rcases this with h|h
   ·exact absurd h e
   ·exact h
theorem Ht{l:List It}{f:Int→Option Nat}(hc:Cons l f)(ho:Ord l.length (aZ l))(h1:eH l){i:Nat}(hi:i<l.length)(key:Int):
  r8 (l.set i ((aZ l i).1,key)).length (aZ (l.set i ((aZ l i).1,key))) i∧iC (l.set i ((aZ l i).1,key)) f i∧eH (l.set i ((aZ l i).1,key)):=by
 have V9:(l.set i ((aZ l i).1,key)).map Prod.fst=l.map Prod.fst:=by
  rw[List.map_set]
  apply List.ext_getElem?
  intro j
  rw[List.getElem?_set]
  by_cases e:i=j
  ·subst e;simp[hi,aZ,List.getD]
  ·simp[e]
 have nm:∀j,j≠i→aZ (l.set i ((aZ l i).1,key)) j=aZ l j:=fun j h=>by rw[eu _ hi];simp[e9,h]
 refine⟨⟨fun j j0 jn Qg jp=>?_,fun j j0 jn jp i0=>?_⟩,⟨fun j jn Qg=>?_,fun x hx=>hc.2 x (by rwa [V9]at hx)⟩,by unfold eH;rw[V9];exact h1⟩
 ·simp only[List.length_set]at jn
  unfold E;rw[nm j Qg,nm _ jp];exact ho j j0 jn
 ·simp only[List.length_set]at jn
  rw[nm j (by omega),nm _ (by omega)]
  have a1:=ho j j0 jn
  have a2:=ho i i0 hi
  unfold E at a1 a2
  rw[jp]at a1
  exact le_trans a2 a1
 ·simp only[List.length_set]at jn
  rw[nm j Qg];exact hc.1 j jn
theorem KH{l:List It}{i:Nat}(hi:i<l.length)(a:It):∃r,l.Perm (aZ l i::r)∧(l.set i a).Perm (a::r):=by
 refine⟨l.take i++l.drop (i+1),?_,?_⟩
 ·have:l=l.take i++aZ l i::l.drop (i+1):=by
   have h2:aZ l i=l[i]:=by simp[aZ,List.getD,hi]
   rw[h2,←List.drop_eq_getElem_cons hi,List.take_append_drop]
  conv=>lhs;rw[this]
  exact List.perm_middle
 ·rw[List.set_eq_take_append_cons_drop,if_pos hi]
  exact List.perm_middle
end Gr
set_option maxRecDepth 100000
namespace Go.Proofs
open Go Go.Sx
open Gr
abbrev JF:=HO .i64 233 231
abbrev Gt:=HI .i64 233 231
theorem r6(a b:It)(B:Hp):Rd Tryz.prog 223 #[.agg #[.int .i64 a.1,.int .i64 a.2],.agg #[.int .i64 b.1,.int .i64 b.2]] B (· =.bool (prec a b)):=by
 refine aW fun g=>AQ ?_
 intro b1 _ b2 _
 (repeat (first|refine Nil.ptr ?_|refine ag.mk ?_|refine Ld.mk zM rfl ?_|refine aA.mk ?_|refine aa.eql ?_|refine aa.neq ?_|refine aa.lss ?_|refine aa.leq ?_|refine aa.gtr ?_|refine aa.geq ?_|refine Un.not ?_|refine Ext.mk rfl ?_|refine ay.mk ?_|refine aa.aC ?_|refine aa.aR ?_|refine aa.aQ ?_|refine Br.yes ?_|refine Br.no ?_))
 refine dO.or (a.2==b.2&&decide (a.1<b.1)) (fun _=>?_) rfl fun _=>bK.mk (.skip .tail) rfl
 (repeat (first|refine Nil.ptr ?_|refine ag.mk ?_|refine Ld.mk zM rfl ?_|refine aA.mk ?_|refine aa.eql ?_|refine aa.neq ?_|refine aa.lss ?_|refine aa.leq ?_|refine aa.gtr ?_|refine aa.geq ?_|refine Un.not ?_|refine Ext.mk rfl ?_|refine ay.mk ?_|refine aa.aC ?_|refine aa.aR ?_|refine aa.aQ ?_|refine Br.yes ?_|refine Br.no ?_))
 refine dO.and (decide (a.1<b.1)) (fun _=>?_) rfl fun _=>⟨rfl,rfl⟩
 (repeat (first|refine Nil.ptr ?_|refine ag.mk ?_|refine Ld.mk zM rfl ?_|refine aA.mk ?_|refine aa.eql ?_|refine aa.neq ?_|refine aa.lss ?_|refine aa.leq ?_|refine aa.gtr ?_|refine aa.geq ?_|refine Un.not ?_|refine Ext.mk rfl ?_|refine ay.mk ?_|refine aa.aC ?_|refine aa.aR ?_|refine aa.aQ ?_|refine Br.yes ?_|refine Br.no ?_))
 exact⟨rfl,rfl⟩
theorem nW{h:Value}{l:List It}{f:Int→Option Nat}{C:Hp}(ho:JF h l f C){i:Nat}(hi:i<l.length)(a:It):
  Fc Tryz.prog 159 #[h,.int .i64 (i:Int),.agg #[.int .i64 a.1,.int .i64 a.2]] C (fun v C'=>v=.tuple #[]∧JF h (l.set i a) (yf f a.1 (some i)) C'):=by
 obtain⟨bh,la,mb,aD,Cm,rfl,rfl,aB,hm⟩:=ho.open (by omega)
 refine aW fun g=>BC ?_
 intro b1 _
 refine DR.self ?_
 (repeat (first|refine Nil.ptr ?_|refine ag.mk ?_|refine Ld.mk zM rfl ?_|refine aA.mk ?_|refine aa.eql ?_|refine aa.neq ?_|refine aa.lss ?_|refine aa.leq ?_|refine aa.gtr ?_|refine aa.geq ?_|refine Un.not ?_|refine Ext.mk rfl ?_|refine ay.mk ?_|refine aa.aC ?_|refine aa.aR ?_|refine aa.aQ ?_|refine Br.yes ?_|refine Br.no ?_))
 refine av.whole (r:=enc .i64 a) zM rfl ?_
 refine aj.nat hi ?_
 refine St.row (l:=c9 .i64 l++aD) (by repeat (first|exact cA.head _|apply cA.tail|apply cA.bP)) aB (by rw[List.length_append,cH];omega) rfl (lP _ _) ?_
 refine DR.self ?_
 (repeat (first|refine Nil.ptr ?_|refine ag.mk ?_|refine Ld.mk zM rfl ?_|refine aA.mk ?_|refine aa.eql ?_|refine aa.neq ?_|refine aa.lss ?_|refine aa.leq ?_|refine aa.gtr ?_|refine aa.geq ?_|refine Un.not ?_|refine Ext.mk rfl ?_|refine ay.mk ?_|refine aa.aC ?_|refine aa.aR ?_|refine aa.aQ ?_|refine Br.yes ?_|refine Br.no ?_))
 rw[←List.append_nil Cm]
 refine iH.bS (p:=i) (A:=[_,_,_]) (B:=[]) hm fun C' hm'=>?_
 refine⟨_,_,rfl,.tail,rfl,?_⟩
 rw[xK hi,List.append_nil]
 exact .shut (vV aB _ _) (by simp) (by simp) hm'
theorem HX{h:Value}{l:List It}{f:Int→Option Nat}{C:Hp}(ho:JF h l f C){i:Nat}(hi:i<l.length)(aV:l.length<4611686018427387904)(hu:r8 l.length (aZ l) i)(hc:iC l f i)(hO:eH l):
  Fc Tryz.prog 158 #[h,.int .i64 (i:Int)] C (fun v C'=>v=.tuple #[]∧∃l' f' p,JF h l' f' C'∧l'.Perm l∧Cons l' f'∧Mg l'.length (aZ l') p∧p<l'.length∧aZ l' p=aZ l i∧
   (lY l.length (aZ l) i→Ord l'.length (aZ l'))):=by
 obtain⟨bh,la,mb,aD,Cm,rfl,rfl,aB,hm⟩:=ho.open (by omega)
 obtain⟨n,hn⟩:∃n,n=l.length:=⟨_,rfl⟩
 obtain⟨a,ha⟩:∃a,a=aZ l i:=⟨_,rfl⟩
 refine aW fun g=>BD ?_
 (repeat (first|refine Nil.ptr ?_|refine ag.mk ?_|refine Ld.mk zM rfl ?_|refine aA.mk ?_|refine aa.eql ?_|refine aa.neq ?_|refine aa.lss ?_|refine aa.leq ?_|refine aa.gtr ?_|refine aa.geq ?_|refine Un.not ?_|refine Ext.mk rfl ?_|refine ay.mk ?_|refine aa.aC ?_|refine aa.aR ?_|refine aa.aQ ?_|refine Br.yes ?_|refine Br.no ?_))
 refine aj.nat hi ?_
 refine av.row (l:=c9 .i64 l++aD) zM aB (dB hi aD) ?_
 intro b6 _
 refine St.p (lP _ _) ?_
 rw[←ha]
 refine⟨fun vs H=>∃(j:Nat) (L:List It) (f:Int→Option Nat) (C:Hp),vs=[.int .i64 (j:Int)]∧H=(b6,Obj.cells (enc .i64 a).toArray 233 (0,0))::C∧JF (.pointer (some ⟨bh,0,none⟩)) L f C∧L.length=n∧j<n∧
   (L.set j a).Perm l∧r8 n (aZ (L.set j a)) j∧iC (L.set j a) f j∧(lY n (aZ l) i→lY n (aZ (L.set j a)) j),
  fun vs _=>aT vs 0,.mk ⟨i,l,f,_,rfl,rfl,ho,hn.symm,by omega,?_,?_,?_,?_⟩,?_⟩
 ·exact(by rw[ha,mN hi])
 ·rw[ha,mN hi,hn];exact hu
 ·rw[ha,mN hi];exact hc
 ·rw[ha,mN hi];exact id
 rintro w H ⟨j,L,f,C,hw,rfl,ho,RL,hj,hp,hu,hc,jF⟩ gs
 simp only[List.cons.injEq,and_true]at hw
 subst hw
 have Pk:=ho
 obtain⟨W6,la,mb,aD,Cm,M3,rfl,aB,hm⟩:=ho.open (by omega)
 simp only[Value.pointer.injEq,Option.some.injEq,Addr.mk.injEq,and_true]at M3
 subst M3
 have RI:eH (L.set j a):=hO.perm hp
 have Pn:(L.set j a).length=n:=by simp[RL]
 have M9:aZ (L.set j a) j=a:=by rw[eu a (by omega)];simp[e9]
 have UT:0<j→aZ (L.set j a) ((j-1) /2)=aZ L ((j-1) /2):=fun h0=>by rw[eu a (by omega)];simp[e9,show¬((j-1) /2=j)from by omega]
 intro J hJ
 have hend:¬(0<j∧prec a (aZ L ((j-1) /2))=true)→J [.bool false] ((b6,Obj.cells (enc .i64 a).toArray 233 (0,0))::(bh,Obj.cells #[.slice (some ⟨la,0,none⟩) L.length (L.length+aD.length),.map (some mb)] 231 (0,0))::(la,.cells (rows (c9 .i64 L++aD)) 233 (0,0))::Cm):=fun hno=>hJ _ _ fun gs=>by
  refine Br.no ?_
  refine av.q ?_
  refine ae.fq (nW Pk (i:=j) (by omega) a) ?_
  rintro v C' ⟨rfl,bE⟩
  have hd:=hc.done RI (by omega)
  rw[M9]at hd
  have hex:=Kc hu (by
   by_cases h0:j=0
   ·exact .inl h0
   ·right
    rw[M9,UT (by omega)]
    cases h:prec a (aZ L ((j-1) /2))
    ·rfl
    ·exact absurd ⟨by omega,h⟩ hno)
  rw[←Pn]at hex
  exact⟨_,_,rfl,.tail,rfl,_,_,j,bE,hp,hd,hex,by omega,by rw[M9,ha],fun hk=>tV hex (by rw[Pn];exact jF (by rw[hn];exact hk))⟩
 refine DR.self ?_
 refine aa.gtr (Br.dec (fun h0=>?_) (fun h0=>JE.mk (hend (fun h=>h0 (by omega)))))
 have h0:0<j:=by omega
 refine av.q ?_
 (repeat (first|refine Nil.ptr ?_|refine ag.mk ?_|refine Ld.mk zM rfl ?_|refine aA.mk ?_|refine aa.eql ?_|refine aa.neq ?_|refine aa.lss ?_|refine aa.leq ?_|refine aa.gtr ?_|refine aa.geq ?_|refine Un.not ?_|refine Ext.mk rfl ?_|refine ay.mk ?_|refine aa.aC ?_|refine aa.aR ?_|refine aa.aQ ?_|refine Br.yes ?_|refine Br.no ?_))
 refine aa.gK (c:=((j-1:Nat):Int)) (by omega) (by omega) ?_
 refine aa.G3 (by decide) (ND j h0) (by omega) ?_
 refine aj.nat (by omega) ?_
 refine av.row (l:=c9 .i64 L++aD) zM aB (dB (by omega) aD) ?_
 intro F
 refine ae.eq (r6 a _ _) ?_
 refine⟨.refl _,?_⟩
 cases MH:prec a (aZ L ((j-1) /2))with
 |false=>exact ay.mk (JE.mk (hend (fun h=>by rw[MH]at h;exact absurd h.2 (by decide))))
 |true=>
 refine ay.mk (JE.mk (hJ _ _ fun gs=>Br.yes ?_))
 (repeat (first|refine Nil.ptr ?_|refine ag.mk ?_|refine Ld.mk zM rfl ?_|refine aA.mk ?_|refine aa.eql ?_|refine aa.neq ?_|refine aa.lss ?_|refine aa.leq ?_|refine aa.gtr ?_|refine aa.geq ?_|refine Un.not ?_|refine Ext.mk rfl ?_|refine ay.mk ?_|refine aa.aC ?_|refine aa.aR ?_|refine aa.aQ ?_|refine Br.yes ?_|refine Br.no ?_))
 refine aa.gK (c:=((j-1:Nat):Int)) (by omega) (by omega) ?_
 refine aa.G3 (by decide) (ND j h0) (by omega) ?_
 refine aj.nat (by omega) ?_
 refine av.row (l:=c9 .i64 L++aD) zM aB (dB (by omega) aD) ?_
 refine ae.fq (nW Pk (i:=j) (by omega) (aZ L ((j-1) /2))) ?_
 rintro v C' ⟨rfl,bE⟩
 refine aa.gK (c:=((j-1:Nat):Int)) (by omega) (by omega) ?_
 refine aa.G3 (by decide) (ND j h0) (by omega) ?_
 have hst:=Kb h0 (by rw[←Pn]at hj;rw[Pn]at hj;exact hj) hu (by rw[M9,UT h0];exact MH)
 have hcs:=hc.step RI (i:=j) (q:=(j-1) /2) (by omega) (by omega) (by omega)
 have Ic:=(swap_perm (l:=L.set j a) (i:=j) (q:=(j-1) /2) (by omega) (by omega) (by omega)).trans hp
 have OI:(L.set j (aZ L ((j-1) /2))).set ((j-1) /2) a=((L.set j a).set j (aZ (L.set j a) ((j-1) /2))).set ((j-1) /2) (aZ (L.set j a) j):=(qA a (by omega) (by omega) (by omega)).symm
 have nm:aZ ((L.set j (aZ L ((j-1) /2))).set ((j-1) /2) a)=e9 (e9 (aZ (L.set j a)) j (aZ (L.set j a) ((j-1) /2))) ((j-1) /2) (aZ (L.set j a) j):=by
  rw[OI,eu _ (by simp;omega),eu _ (by omega)]
 refine aq.mk ⟨(j-1) /2,_,_,C',rfl,rfl,bE,by simp[RL],by omega,?_,?_,?_,fun _=>?_⟩ ?_
 ·rw[OI];exact Ic
 ·rw[nm];exact hst.1
 ·rw[OI];rw[UT h0]at hcs⊢;exact hcs
 ·rw[nm];exact hst.2
 ·simp only[aT,Int.toNat_natCast];omega
end Go.Proofs
