import Derived.Test.YtfgkdmbicjdeoaaGreatU3
import Derived.Test.YtfgkdmbicjdeoaaGreatU2
import Derived.Test.YtfgkdmbicjdeoaaGreatU1
import Derived.Deep.Slices
import Derived.SizedLaws
set_option linter.unusedVariables false
set_option linter.unusedSimpArgs false
set_option linter.unusedSectionVars false
set_option maxRecDepth 100000
namespace Go.Proofs
open Go Go.Sx
open aT
theorem bf{ws:List Nat}{i:Nat}(h:i<ws.length):(iw ws)[i]? =some ((ws.getD i 0:Nat):Int):=by
 rw[bT (w:=ws.getD i 0)]
 rw[List.getD_eq_getElem?_getD,List.getElem?_eq_getElem h];rfl
def O7(n:Nat)(p:List Int):Prop:=p.length=n∧∀v:Nat,v<n→p.count (v:Int)=1
instance (n:Nat)(p:List Int):Decidable (O7 n p):=by unfold O7;infer_instance
theorem GB{p:List Int}{x:Int}{i:Nat}(h:x∉p.take i)(hi:i<p.length)(he:p[i]=x):p.idxOf x=i:=by
 have e:p=p.take i++p[i]::p.drop (i+1):=by
  conv=>lhs;rw[←List.take_append_drop i p]
  rw[List.drop_eq_getElem_cons hi]
 conv=>lhs;rw[e]
 rw[List.idxOf_append,if_neg h,he,List.idxOf_cons_self,List.length_take];omega
def g6(p:List Int):Prop:=∀v:Nat,v<p.length→(v:Int)∈p
theorem rD{p:List Nat}{n:Nat}(hp:p.Perm (List.range n)):g6 (iw p):=fun v hv=>by
 rw[ah,hp.length_eq,List.length_range]at hv
 exact List.mem_map.2 ⟨v,hp.mem_iff.2 (List.mem_range.2 hv),rfl⟩
theorem Mh{B:Hp}{v:Value}{ord:List Nat}{l:Nat}(h:bL .i64 B v (iw ord))(hl:l+1<ord.length)(aU:ord.length≤1099511627776):
  Fc Tryz.prog 189 #[v,.int .i64 (l:Int)] B (fun r H=>∃N,H=N++B∧aK 3 .i64 r (iw (ew ord l)) N):=by
 refine aX fun g=>Ar ?_
 refine aK.l8 (C:=[]) (H:=B) (c:=fun X=>X++B) aK.nil hnew h (by rw[ah];simp;omega) (by rw[ah];simp;omega) fun v' C' ho=>?_
 rw[List.nil_append]at ho
 refine DR.self ?_
 refine aa.inc ?_
 refine aa.inc ?_
 refine ho.ld (x:=((ord.getD (l+1) 0:Nat):Int)) (bf hl) (fun _ h=>List.mem_append_left _ h) ?_
 refine ho.ld (x:=((ord.getD l 0:Nat):Int)) (bf (by omega)) (fun _ h=>List.mem_append_left _ h) ?_
 refine ho.gO (x:=((ord.getD (l+1) 0:Nat):Int)) .left (by rw[ah];omega) fun C2 lg=>?_
 refine lg.gO (x:=((ord.getD l 0:Nat):Int)) .left (by rw[List.length_set,ah];omega) fun C3 xq=>?_
 refine bN.here ⟨C3,rfl,?_⟩
 have e:((iw ord).set l ((ord.getD (l+1) 0:Nat):Int)).set (l+1) ((ord.getD l 0:Nat):Int)=iw (ew ord l):=by
  unfold ew
  rw[eR,eR]
 rw[e]at xq
 exact xq
theorem Mx{q:List Nat}{x:Nat}:(x:Int)∈iw q↔x∈q:=by
 unfold iw
 rw[List.mem_map]
 exact⟨fun⟨y,hy,e⟩=>by rw[←Int.ofNat.inj e];exact hy,fun h=>⟨x,h,rfl⟩⟩
theorem p6{B:Hp}{v:Value}{ord:List Nat}{l:Nat}(h:bL .i64 B v (iw ord))(hl:l+1<ord.length)(aU:ord.length≤1099511627776):
  Fc Tryz.prog 166 #[v,.int .i64 (l:Int)] B (fun r H=>∃N,H=N++B∧aK 3 .i64 r (iw (ew ord l)) N):=by
 refine aX fun g=>AG ?_
 refine aK.l8 (C:=[]) (H:=B) (c:=fun X=>X++B) aK.nil hnew h (by rw[ah];simp;omega) (by rw[ah];simp;omega) fun v' C' ho=>?_
 rw[List.nil_append]at ho
 refine DR.self ?_
 refine aa.inc ?_
 refine aa.inc ?_
 refine ho.ld (x:=((ord.getD (l+1) 0:Nat):Int)) (bf hl) (fun _ h=>List.mem_append_left _ h) ?_
 refine ho.ld (x:=((ord.getD l 0:Nat):Int)) (bf (by omega)) (fun _ h=>List.mem_append_left _ h) ?_
 refine ho.gO (x:=((ord.getD (l+1) 0:Nat):Int)) .left (by rw[ah];omega) fun C2 lg=>?_
 refine lg.gO (x:=((ord.getD l 0:Nat):Int)) .left (by rw[List.length_set,ah];omega) fun C3 xq=>?_
 refine bN.here ⟨C3,rfl,?_⟩
 have e:((iw ord).set l ((ord.getD (l+1) 0:Nat):Int)).set (l+1) ((ord.getD l 0:Nat):Int)=iw (ew ord l):=by
  unfold ew
  rw[eR,eR]
 rw[e]at xq
 exact xq
theorem MI(q:List Nat)(x:Nat):(iw q).idxOf (x:Int)=q.idxOf x:=by
 induction q with
 |nil=>rfl
 |cons y q ih=>
  show(((y:Nat):Int)::iw q).idxOf (x:Int)=_
  rw[List.idxOf_cons,List.idxOf_cons,ih]
  have:(((y:Nat):Int)==(x:Int))=(y==x):=by
   rw[Bool.eq_iff_iff];simp[Int.natCast_inj]
  rw[this]
theorem B9(a k:Nat):decide ((a>>>k)%2=1)=a.testBit k:=by
 cases hb:a.testBit k
 ·rw[decide_eq_false];rw[af.pQ,hb];simp
 ·rw[decide_eq_true];rw[af.pQ,hb]
theorem I1{B:Hp}{v:Value}{n x:Nat}{ws:List Nat}(ht:ig B v ⟨n,ws⟩)(hf:af.bJ n ws)(hx:x<2^n):Rd Tryz.prog 162 #[v,.int .i64 (x:Int)] B (· =.bool (af.bit ws x)):=by
 obtain⟨s,rfl,hw⟩:=ht
 have hn:=hf.jR
 have hp:2^n≤65536:=Nat.pow_le_pow_right (n:=2) (by decide) hn
 have hi:x/64<ws.length:=by rw[hf.len];exact af.nh hx
 refine aX fun g=>AK ?_
 intro b1 _
 refine Ld.f ?_
 refine aa.sn (b:=64) (by simp[aW];omega) (by decide) ?_
 have hg:(iw ws)[x/64]? =some ((ws.getD (x/64) 0:Nat):Int):=bf hi
 refine hw.1.ld hg zS ?_
 have hlt:ws.getD (x/64) 0<18446744073709551616:=by
  rw[List.getD_eq_getElem?_getD,List.getElem?_eq_getElem hi];exact hf.lt (List.getElem_mem hi)
 refine aa.Dj (b:=64) (by decide) ?_
 refine aa.gN (by simpa[aW]using hlt) ?_
 refine aa.Dj (b:=2) (by decide) ?_
 refine aa.jC (b:=1) ?_
 rw[B9]
 exact bO.mk .tail rfl
theorem OP{F:Nat→Bool}{W i:Nat}(hi:i<W):((List.range W).map fun k=>if k<i then F k else false).set i (F i)=(List.range W).map fun k=>if k<i+1 then F k else false:=by
 apply List.ext_getElem?
 intro j
 by_cases e:i=j
 ·subst e;simp[hi]
 ·rw[List.getElem?_set_ne e]
  by_cases hj:j<W
  ·simp only[List.getElem?_map,List.getElem?_range hj,Option.map_some]
   by_cases h2:j<i
   ·rw[if_pos h2,if_pos (by omega)]
   ·rw[if_neg h2,if_neg (by omega)]
  ·rw[List.getElem?_eq_none (by simp;omega),List.getElem?_eq_none (by simp;omega)]
theorem K6{F:Nat→Bool}{W:Nat}:List.replicate W false=(List.range W).map fun k=>if k<0 then F k else false:=by
 apply List.ext_getElem?
 intro j
 by_cases hj:j<W
 ·simp[hj]
 ·rw[List.getElem?_eq_none (by simp;omega),List.getElem?_eq_none (by simp;omega)]
theorem K8{F:Nat→Bool}{W:Nat}:((List.range W).map fun k=>if k<W then F k else false)=(List.range W).map F:=List.map_congr_left fun k hk=>by rw[if_pos (List.mem_range.1 hk)]
theorem D4(n:Nat)(b:Bool):jh n b=(List.range (2^n)).map fun _=>b:=by
 unfold jh
 apply List.ext_getElem?
 intro j
 by_cases hj:j<2^n
 ·simp[hj]
 ·rw[List.getElem?_eq_none (by simp;omega),List.getElem?_eq_none (by simp;omega)]
theorem wQ{n:Nat}{b:Bool}(hn:n≤16)(B:Hp):Px Tryz.prog 236 #[.int .i64 (n:Int),.bool b] B (fun r H=>ig H r ⟨n,bc n b⟩):=by
 intro g
 have hp:2^n≤65536:=Nat.pow_le_pow_right (n:=2) (by decide) hn
 refine zN (R:=bN _) ?_
 unfold L236
 intro b1 _
 refine aa.n7 (a:=1) (by simp[IntKind.bits];omega) (by rw[Nat.one_shiftLeft];simp[aW];omega) ?_
 rw[Nat.one_shiftLeft]
 refine bD.nM (by omega) fun b2=>?_
 rw[K6 (F:=fun _=>b)]
 refine⟨fun vs H=>∃k:Nat,vs=[.int .i64 (k:Int)]∧k≤2^n∧H=(b1,.cells #[.int .i64 0,.slice none 0 0] 57 (0,0))::(b2,.cells (cr ((List.range (2^n)).map fun j=>if j<k then b else false)) 4 (0,0))::B,
  fun vs _=>2^n-aV vs 0,JE.of .swap ⟨0,rfl,Nat.zero_le _,rfl⟩,?_⟩
 rintro w H ⟨k,⟨⟩,hk,rfl⟩ gs
 refine az.mk (aa.dn (Br.dec (fun hlt=>?_) (fun hlt=>?_)))
 ·refine aj.nat hlt ?_
  refine St.nM (l:=(List.range (2^n)).map fun j=>if j<k then b else false) (by exact .tail (.head _)) (by simpa using hlt) ?_
  rw[OP (F:=fun _=>b) hlt]
  refine aa.inc ?_
  exact aq.mk ⟨k+1,rfl,by omega,rfl⟩ (by simp[aV];omega)
 ·obtain rfl:k=2^n:=by omega
  rw[K8 (F:=fun _=>b),←D4]
  have hlen:(jh n b).length=2^n:=by simp[jh]
  have hB:=kB.block (b:=b2) (cap:=2^n) (l:=jh n b) (T:=4) (fz:=(0,0)) (B:=(b2,.cells (cr (jh n b)) 4 (0,0))::B) (.head _) (by omega)
  rw[hlen]at hB
  refine ae.pq (uC hn hB (by rw[hlen];exact gk) (by rw[hlen];exact gk)) ?_
  rintro r N ⟨s,rfl,hw⟩
  have hone:=av hw
  refine St.p (by simpa[Value.oneCell']using hone) ?_
  refine ax.q ?_
  exact js.mk (by repeat (first|exact aH.refl _|apply aH.cons|apply aH.app)) ⟨s,rfl,hw.mono zS⟩
theorem qE{B:Hp}{v:Value}{n:Nat}{ws:List Nat}(ht:ig B v ⟨n,ws⟩)(hf:af.bJ n ws):Rd Tryz.prog 190 #[v] B (· =.bool (decide (ws=bc n false∨ws=bc n true))):=by
 obtain⟨s,rfl,hw⟩:=ht
 have hn:=hf.jR
 have hl:=df hf
 refine aX fun g=>Aq ?_
 intro b1 _ J hJ
 refine DR.self ?_
 refine ax.q ?_
 refine Ld.f ?_
 intro F1
 refine ae.pq (wQ (b:=false) hn _) ?_
 rintro v N h1
 refine⟨.right,?_⟩
 intro F2
 refine ae.eq (fY (v1:=.agg (List.toArray [.int .i64 (n:Int),s])) (a:=⟨n,ws⟩) ⟨s,rfl,hw.mono zS⟩ h1 (by show ws.length<_;omega)) ?_
 refine⟨.right,?_⟩
 refine Br.dec (fun he=>?_) (fun he=>?_)
 ·have he':ws=bc n false:=by injection he
  refine JE.of (.bE .tail) (hJ _ _ fun gs=>bO.mk (.refl _) ?_)
  rw[decide_eq_true (.inl he')]
 ·have he':ws≠bc n false:=fun e=>he (by rw[e])
  refine ax.q ?_
  refine Ld.f ?_
  intro F3
  refine ae.pq (wQ (b:=true) hn _) ?_
  rintro v N2 h2
  refine⟨.bE .right,?_⟩
  intro F4
  refine ae.eq (fY (v1:=.agg (List.toArray [.int .i64 (n:Int),s])) (a:=⟨n,ws⟩) ⟨s,rfl,hw.mono zS⟩ h2 (by show ws.length<_;omega)) ?_
  refine⟨.bE .right,?_⟩
  refine ay.mk (JE.of (.bE (.bE .tail)) (hJ _ _ fun gs=>bO.mk (.refl _) ?_))
  by_cases h3:ws=bc n true
  ·subst h3
   rw[decide_eq_true rfl,decide_eq_true (.inr rfl)];rfl
  ·rw[decide_eq_false (fun e=>h3 (by injection e)),decide_eq_false (fun e=>e.elim he' h3)];rfl
end Go.Proofs
namespace Go.Sx
open Go
section
variable {P:Program} {g:Gh} {H C:Hp} {c:Hp→Hp}
theorem aN.FU{T:TypeId}{k j:Nat}{v x:Value}{rs:List (List Value)}(hs:aN T k v rs C)(hh:aZ C H c){i:Nat}{kd:IntKind}{r:List Value}(hr:rs[i]? =some r)(hj:j<k)(h1:x.oneCell'=true){K:Hp→Prop}
 (hk:∀C',aN T k v (rs.set i (r.set j x)) C'→K (c C')):aj k v (.int kd (i:Int)) fun p=>ag j p fun q=>St 1 H q x K:=by
 obtain⟨A,B,e⟩:=hh.split
 have e2:=hh.spec.1
 rw[e]at e2
 subst e2
 have hi:=(List.getElem?_eq_some_iff.1 hr).1
 obtain⟨b',aD,rfl,rfl,aA⟩:=hs.pos (by omega)
 have hg:(rs++aD)[i]? =some r:=by rw[List.getElem?_append_left hi];exact hr
 have rT:=aA r (List.mem_append_left _ (List.mem_of_getElem? hr))
 refine aj.nat hi (ag.mk (St.cell (l:=rs++aD) (((cA.head _).append B).bU A) aA hg hj h1 ?_))
 have e3:(rs++aD).set i (r.set j x)=rs.set i (r.set j x)++aD:=by rw[List.set_append_left _ _ hi]
 rw[e3]
 have:=hk [(b',.cells (rows (rs.set i (r.set j x)++aD)) T (0,0))] (aN.mk' (aD:=aD) (fun y hy=>?_) (by simp) (by simp))
 ·rwa [e]at this
 ·rcases List.mem_append.1 hy with hy|hy
  ·rcases List.mem_or_eq_of_mem_set hy with hy|rfl
   ·exact aA y (List.mem_append_left _ hy)
   ·simpa using rT
  ·exact aA y (List.mem_append_right _ hy)
theorem fH.app{α:Type}{p:List Value→α→Prop}{rs Sn:List (List Value)}{l l2:List α}(h:fH p rs l)(h2:fH p Sn l2):fH p (rs++Sn) (l++l2):=by
 refine⟨by simp[h.1,h2.1],fun i r x a b=>?_⟩
 by_cases e:i<l.length
 ·rw[List.getElem?_append_left e]at b
  rw[List.getElem?_append_left (by rw[h.1];exact e)]at a
  exact h.2 i _ _ a b
 ·rw[List.getElem?_append_right (by omega)]at b
  rw[List.getElem?_append_right (by rw[h.1];omega),h.1]at a
  exact h2.2 _ _ _ a b
theorem fH.set{α:Type}{p:List Value→α→Prop}{rs:List (List Value)}{l:List α}(h:fH p rs l){i:Nat}{r:List Value}{x:α}(hx:p r x):fH p (rs.set i r) (l.set i x):=by
 refine⟨by simp[h.1],fun j r' x' a b=>?_⟩
 by_cases e:i=j
 ·subst e
  rw[List.getElem?_set_self']at a b
  cases h1:rs[i]? with
  |none=>rw[h1]at a;simp at a
  |some y=>
   cases h2:l[i]? with
   |none=>rw[h2]at b;simp at b
   |some z=>
    rw[h1]at a;rw[h2]at b
    simp at a b
    subst a;subst b;exact hx
 ·rw[List.getElem?_set_ne e]at a b
  exact h.2 j _ _ a b
theorem c9.l8{T:TypeId}{v x:Value}{ts OF:List Tb}{B0:Hp}(h:c9 T v ts C B0)(hh:aZ C H c)(hx:bH B0 x OF)(hs:∀y∈B0,y∈H)
 (hl:ts.length+OF.length≤4398046511103){K:Value→Hp→Prop}(hk:∀v' C',c9 T v' (ts++OF) C' B0→K v' (c C')):App P T 2 32 (.agg #[.int .i64 0,.slice Option.none 0 0]) H v x K:=by
 obtain⟨A,B,e⟩:=hh.split
 have e2:=hh.spec.1
 rw[e]at e2
 subst e2
 obtain⟨rs,h1,h2⟩:=h
 obtain⟨Sn,g1,g2⟩:=hx
 obtain⟨a,cap,rfl,hc⟩:=Sl.cells (g1.mono hs)
 have l1:=h2.1
 have l2:=g2.1
 refine aN.apps h1 hc g1.1 (fun r hr u hu=>?_) ⟨[.int .i64 0,.slice Option.none 0 0],rfl,rfl⟩ (by omega) (by omega) fun v' C' ho=>by have:=hk v' C' ⟨_,ho,h2.app g2⟩;rwa [e]at this
 obtain⟨i,hi,he⟩:=List.getElem_of_mem hr
 have hlt:i<OF.length:=by omega
 obtain⟨s,h3,hw⟩:=g2.2 i r OF[i] (by rw[List.getElem?_eq_getElem hi,he]) (List.getElem?_eq_getElem hlt)
 subst h3
 simp only[List.mem_cons,List.not_mem_nil,or_false]at hu
 rcases hu with rfl|rfl
 ·rfl
 ·obtain⟨a,c,rfl,_⟩:=hw.1.shape;rfl
end
end Go.Sx
set_option maxRecDepth 100000
namespace Go.Proofs
open Go Go.Sx
open aT
def Ox(n:Nat)(B:Hp)(v:Value)(LL:List af.Fs):Prop:=∃rs,Sl 1 B v rs∧fH (fun r L=>∃x,r=[x]∧bH B x (cU n L)) rs LL
theorem Ox.aM{n:Nat}{B:Hp}{v:Value}{LL:List af.Fs}(h:Ox n B v LL){K:Value→Prop}(hk:K (.int .i64 LL.length)):az v K:=by
 obtain⟨rs,h1,h2⟩:=h;refine h1.aM ?_;rw[h2.1];exact hk
theorem Ox.ld{n:Nat}{B H:Hp}{v:Value}{LL:List af.Fs}{kd:IntKind}(h:Ox n B v LL){i:Nat}{L:af.Fs}(hi:LL[i]? =some L)(hs:∀x∈B,x∈H){K:Value→Prop}(hk:∀x,bH B x (cU n L)→K x):aj 1 v (.int kd (i:Int)) (fun p=>Ld H p K):=by
 obtain⟨rs,h1,h2⟩:=h
 obtain⟨r,hr,x,rfl,hx⟩:=h2.get hi
 exact aj.sl h1 hr fun p hp=>Ld.at hp hs (hk x hx)
section
variable {n:Nat} {ord:List Nat} {L:af.Fs}
theorem pO:∀k,(cur n ord L k).length≤2^k*L.length
 |0=>by rw[cur,Nat.pow_zero,Nat.one_mul];exact nX L
 |k+1=>by
  have h1:=wy n (ord.getD k 0) (cur n ord L k)
  have h2:=pO k
  rw[cur,Nat.pow_succ,Nat.mul_comm (2^k) 2,Nat.mul_assoc]
  omega
theorem wM(hn:n≤16){k:Nat}(hk:k≤n):(cur n ord L k).length≤65536*L.length:=
 Nat.le_trans (pO k) (Nat.mul_le_mul_right _ (Nat.pow_le_pow_right (n:=2) (by decide) (Nat.le_trans hk hn)))
theorem kP(hn:n≤16){k:Nat}(hk:k≤n):(fK n ord L k).length≤65536*L.length:=
 Nat.le_trans (List.length_filter_le _ _) (wM hn hk)
theorem mZ(hn:n≤16):∀k,k≤n→bF n ord L k≤k*(65536*L.length)
 |0,_=>by simp[bF]
 |k+1,hk=>by
  have h1:=mZ hn k (by omega)
  have h2:=kP (ord:=ord) (L:=L) hn (k:=k) (by omega)
  rw[bF,Nat.succ_mul];omega
def fP(n:Nat)(ord:List Nat)(L:af.Fs)(k:Nat):List af.Fs:=(List.range k).map (fK n ord L)
theorem oc{k m:Nat}(h:m<k):(fP n ord L k)[m]? =some (fK n ord L m):=by unfold fP;rw[List.getElem?_map,List.getElem?_range h];rfl
theorem oe{B:Hp}{v o:Value}(hL:bH B v (cU n L))(ho:bL .i64 B o (iw ord))(hlen:ord.length=n)(hlt:∀i,i<n→ord.getD i 0<n)(hf:∀t∈L,af.bJ n t)(hn:n≤16)(aU:L.length≤2097152):
  Px Tryz.prog 227 #[v,o] B (fun r H=>Ox n H r (fP n ord L n)):=by
 refine aX fun g=>zX ?_
 refine ae.pq (qh hL hf (by omega)) ?_
 rintro v1 N0 xp
 refine ho.aM ?_
 rw[ah,hlen]
 refine⟨fun vs H=>∃(k:Nat) (w8 w9:Value) (rs:List (List Value)) (C N:Hp),vs=[w8,w9,.int .i64 (k:Int)]∧k≤n∧H=C++(N++B)∧aN 28 1 w8 rs C∧fH (fun r L=>∃x,r=[x]∧bH (N++B) x (cU n L)) rs (fP n ord L k)∧bH (N++B) w9 (cU n (cur n ord L k)),
  fun vs _=>n-aV vs 2,JE.mk ⟨0,_,v1,[],[],N0,rfl,Nat.zero_le _,rfl,aN.nil _ _,fH.nil,xp⟩,?_⟩
 rintro w8 w9 OA H ⟨k,u8,u9,rs,C,N,⟨⟩,hk,rfl,hC,hE,hc⟩ gs
 refine aa.dn (Br.dec (fun ei=>?_) (fun ei=>?_))
 rotate_left
 ·obtain rfl:k=n:=by omega
  refine js.mk (.app (.app (.refl _))) ⟨rs,(Sl.qs hC (by decide)).mono fun _ h=>List.mem_append_left _ h,hE.mono fun r L ⟨x,e,h⟩=>⟨x,e,h.mono fun _ h=>List.mem_append_right _ h⟩⟩
 have iQ:=wM (ord:=ord) (L:=L) hn hk
 have LG:=kZ (ord:=ord) hf hn k
 refine ho.ld (n:=((ord.getD k 0:Nat):Int)) (bf (by omega)) (fun _ h=>List.mem_append_right _ (List.mem_append_right _ h)) ?_
 refine ae.pq (Dc hc LG (hlt k ei) (by omega)) ?_
 rintro v2 N2 Li
 obtain⟨sa,sc,rfl⟩:∃a c,v2=Value.slice a (cU n (fK n ord L k)).length c:=by obtain⟨rs,h1,h2⟩:=Li;obtain⟨a,c,h,_⟩:=h1.shape;have:=h2.1;rw[this]at h;exact⟨a,c,h⟩
 refine an.cell (e:=28) (z:=.slice none 0 0) (by kernel_rfl) (by kernel_rfl) (by kernel_rfl) rfl fun bx=>?_
 have rT:=hE.1
 have BV:(fP n ord L k).length=k:=by simp[fP]
 refine hC.nO (r:=[.slice sa (cU n (fK n ord L k)).length sc]) (.cons .left) (by exact .head _) rfl (by simp[Value.oneCell']) ⟨[.slice none 0 0],rfl,rfl⟩ (by omega) (by omega) fun v' C3 Ym=>?_
 refine ae.pq (B:=N2++(N++B)) (Dd (hc.mono fun _ h=>List.mem_append_right _ h) LG hn (hlt k ei) (by omega)) ?_
 rintro v3 N3 Xb
 refine aa.inc ?_
 refine aq.of .tail ⟨k+1,v',v3,_,C3,N3++(N2++N),rfl,by omega,by simp only[List.append_assoc],Ym,?_,?_⟩ (by simp only[aV];omega)
 ·have e:fP n ord L (k+1)=fP n ord L k++[fK n ord L k]:=by unfold fP;rw[List.range_succ,List.map_append];rfl
  rw[e]
  simp only[List.append_assoc]
  exact(hE.mono fun r L ⟨x,e,h⟩=>⟨x,e,h.mono zS⟩).snoc ⟨_,rfl,Li.mono zS⟩
 ·simp only[List.append_assoc];exact Xb
theorem FO{B:Hp}{v o:Value}(hL:bH B v (cU n L))(ho:bL .i64 B o (iw ord))(hlen:ord.length=n)(hlt:∀i,i<n→ord.getD i 0<n)(hf:∀t∈L,af.bJ n t)(hn:n≤16)(aU:L.length≤2097152):
  Rd Tryz.prog 229 #[v,o] B (· =.int .i64 ((bF n ord L n:Nat):Int)):=by
 refine aX fun g=>zV ?_
 refine ae.pq (oe hL ho hlen hlt hf hn aU) ?_
 rintro v1 N xp
 refine xp.aM ?_
 rw[show(fP n ord L n).length=n by simp[fP]]
 refine⟨fun vs H=>∃k:Nat,vs=[.int .i64 ((bF n ord L k:Nat):Int),.int .i64 (k:Int)]∧k≤n∧H=N++B,fun vs _=>n-aV vs 1,JE.mk ⟨0,rfl,Nat.zero_le _,rfl⟩,?_⟩
 rintro w8 w9 H ⟨k,⟨⟩,hk,rfl⟩ gs
 refine aa.dn (Br.dec (fun ei=>?_) (fun ei=>?_))
 ·refine xp.ld (oc ei) (fun _ h=>h) fun x hx=>?_
  refine hx.aM ?_
  rw[aI]
  have h1:=kP (ord:=ord) (L:=L) hn hk
  have h2:=mZ (ord:=ord) (L:=L) hn k hk
  have h3:k*(65536*L.length)≤16*(65536*2097152):=Nat.mul_le_mul (by omega) (Nat.mul_le_mul_left _ aU)
  refine aa.ef ?_
  refine aa.inc ?_
  exact aq.of (.refl _) ⟨k+1,by rw[bF],by omega,rfl⟩ (by simp only[aV];omega)
 ·obtain rfl:k=n:=by omega
  exact bO.mk .right rfl
end
structure Md where
 n:Nat
 cap:Nat
 ord:List Nat
 held:List (List Nat×Nat)
 tr:List Nat
def Md.bK(M:Md):af.Fs:=M.held.map Prod.fst
structure Md.nT(M:Md):Prop where
 jR:M.n≤16
 cap:M.cap≤1048576
 len:M.ord.length=M.n
 lt:∀i,i<M.n→M.ord.getD i 0<M.n
 jy:∀t∈M.bK,af.bJ M.n t
 L0:M.held.length≤65536
 cnt:∀e∈M.held,e.2≤65535
 Wx:M.tr.length≤1099511627776
theorem Md.cM(M:Md):M.bK.length=M.held.length:=by simp[Md.bK]
def Io(n:Nat)(B:Hp)(r:List Value)(e:List Nat×Nat):Prop:=∃s,r=[.int .i64 (n:Int),s,.int .i64 ((e.2:Nat):Int)]∧Words B s e.1
theorem Io.mono{n:Nat}{B B':Hp}{r:List Value}{e:List Nat×Nat}(h:Io n B r e)(hs:∀x∈B,x∈B'):Io n B' r e:=let ⟨s,h1,h2⟩:=h;⟨s,h1,h2.mono hs⟩
def dQ(M:Md)(vo vh vt:Value):Array Value:=#[.int .i64 (M.n:Int),.int .i64 (M.cap:Int),vo,vh,vt]
structure YQ(mp:Nat)(M:Md)(B:Hp)(vo vh vt:Value)(rs:List (List Value)):Prop where
 HS:(mp,Obj.cells (dQ M vo vh vt) 74 (0,0))∈B
 ord:bL .i64 B vo (iw M.ord)
 sl:Sl 3 B vh rs
 each:fH (Io M.n B) rs M.held
 tr:bL .i64 B vt (iw M.tr)
def Ec(mp:Nat)(M:Md)(B:Hp):Prop:=∃vo vh vt rs,YQ mp M B vo vh vt rs
theorem Ec.mono{mp:Nat}{M:Md}{B B':Hp}(h:Ec mp M B)(hs:∀x∈B,x∈B'):Ec mp M B':=by
 obtain⟨vo,vh,vt,rs,h⟩:=h
 exact⟨vo,vh,vt,rs,hs _ h.HS,h.ord.mono hs,h.sl.mono hs,h.each.mono fun _ _ h=>h.mono hs,h.tr.mono hs⟩
structure YR(mp:Nat)(M:Md)(X:Hp)(vo vh vt:Value)(rs:List (List Value))(CO CH CT:Hp):Prop where
 ord:aK 3 .i64 vo (iw M.ord) CO
 sl:aN 241 3 vh rs CH
 each:fH (Io M.n X) rs M.held
 tr:aK 3 .i64 vt (iw M.tr) CT
def jk(mp:Nat)(M:Md)(X H:Hp):Prop:=∃vo vh vt rs CO CH CT,H=(mp,.cells (dQ M vo vh vt) 74 (0,0))::(CO++(CH++(CT++X)))∧YR mp M X vo vh vt rs CO CH CT
theorem jk.rd{mp:Nat}{M:Md}{X H:Hp}(h:jk mp M X H):Ec mp M H:=by
 obtain⟨vo,vh,vt,rs,CO,CH,CT,rfl,hO⟩:=h
 exact⟨vo,vh,vt,rs,.head _,hO.ord.ints.mono fun _ h=>.tail _ (List.mem_append_left _ h),(Sl.qs hO.sl (by decide)).mono fun _ h=>.tail _ (List.mem_append_right _ (List.mem_append_left _ h)),
  hO.each.mono fun _ _ h=>h.mono fun _ h=>.tail _ (List.mem_append_right _ (List.mem_append_right _ (List.mem_append_right _ h))),hO.tr.ints.mono fun _ h=>.tail _ (List.mem_append_right _ (List.mem_append_right _ (List.mem_append_left _ h)))⟩
theorem jk.sub{mp:Nat}{M:Md}{X H:Hp}(h:jk mp M X H):∀x∈X,x∈H:=by
 obtain⟨vo,vh,vt,rs,CO,CH,CT,rfl,hO⟩:=h
 exact fun _ h=>.tail _ (List.mem_append_right _ (List.mem_append_right _ (List.mem_append_right _ h)))
section
variable {mp:Nat} {M:Md} {B:Hp}
theorem n4(h:Ec mp M B)(hM:M.nT):Px Tryz.prog 88 #[ptr mp] B (fun r H=>bH H r (cU M.n M.bK)):=by
 obtain⟨vo,vh,vt,rs,hR⟩:=h
 have G4:=hM.L0
 have rT:=hR.each.1
 refine aX fun g=>Ei ?_
 refine Ld.v hR.HS ?_
 refine hR.sl.aM ?_
 rw[rT]
 refine⟨fun vs H=>∃(k:Nat) (w:Value) (C:Hp),vs=[w,.int .i64 (k:Int)]∧k≤M.held.length∧H=C++B∧c9 57 w (cU M.n (M.bK.take k)) C B,fun vs _=>M.held.length-aV vs 1,JE.mk ⟨0,_,[],rfl,Nat.zero_le _,rfl,c9.nil⟩,?_⟩
 rintro w9 OA H ⟨k,w,C,⟨⟩,hk,rfl,hC⟩ gs
 refine aa.dn (Br.dec (fun hlt=>?_) (fun hlt=>?_))
 ·obtain⟨r,hr,s,rfl,hw⟩:=hR.each.get (List.getElem?_eq_getElem hlt)
  have hone:=av hw
  refine aj.sl hR.sl hr fun p hp=>ax.at hp rfl (by decide) (fun _ h=>List.mem_append_right _ h) ?_
  intro V2 _
  refine St.p (by simpa[Value.oneCell']using hone) ?_
  refine ag.mk (ax.mk (vs:=#[.int .i64 (M.n:Int),s]) (by exact .head _) (by simp) rfl ?_)
  refine dw fun xb=>?_
  have ht:M.bK[k]'(by rw[M.cM];exact hlt)=M.held[k].1:=by simp[Md.bK]
  refine hC.app (A:=[_,_]) (t:=⟨M.n,M.held[k].1⟩) (s:=s) (by exact .head _) hw (by rw[aI,List.length_take];omega) fun v' C' br=>?_
  rw[jH]at br
  refine aa.inc ?_
  refine aq.of (.skip .tail) ⟨k+1,v',C',rfl,hlt,rfl,?_⟩ (by simp only[aV];omega)
  rw[List.take_succ_eq_append_getElem (by rw[M.cM];exact hlt),ht]
  exact br
 ·obtain rfl:k=M.held.length:=by omega
  rw[←M.cM,List.take_length]at hC
  exact js.mk (.app (.refl _)) (hC.p7 (fun _ h=>List.mem_append_left _ h) (fun _ h=>List.mem_append_right _ h))
theorem Gf(h:Ec mp M B)(hM:M.nT){v:Value}{L:af.Fs}(hL:bH B v (cU M.n L))(hf:∀t∈L,af.bJ M.n t)(aU:L.length≤2097152):Rd Tryz.prog 167 #[ptr mp,v] B (· =.int .i64 ((bF M.n M.ord L M.n:Nat):Int)):=by
 obtain⟨vo,vh,vt,rs,hR⟩:=h
 refine aX fun g=>AE ?_
 refine Ld.v hR.HS ?_
 refine ae.eq (FO hL hR.ord hM.len hM.lt hf hM.jR aU) ?_
 exact bO.mk (.refl _) rfl
theorem Gi(h:Ec mp M B)(hM:M.nT){v:Value}{L:af.Fs}(hL:bH B v (cU M.n L))(hf:∀t∈L,af.bJ M.n t)(aU:L.length≤1048576):Rd Tryz.prog 122 #[ptr mp,v] B (· =.bool (decide (2+bF M.n M.ord (M.bK++L) M.n≤M.cap))):=by
 have G4:=hM.L0
 have hcap:=hM.cap
 have hn:=hM.jR
 have SO:=M.cM
 refine aX fun g=>Ba ?_
 refine ae.pq (n4 h hM) ?_
 rintro v1 N xp
 refine c9.l8 (C:=[]) (c:=fun X=>X++(N++B)) (B0:=N++B) c9.nil hnew xp (fun _ h=>h) (by rw[aI];simp;omega) fun v2 C2 lg=>?_
 refine c9.l8 lg .left (hL.mono fun _ h=>List.mem_append_right _ h) (fun _ h=>List.mem_append_right _ h) (by rw[List.nil_append,aI,aI];omega) fun v3 C3 xq=>?_
 have e:[]++cU M.n M.bK++cU M.n L=cU M.n (M.bK++L):=by simp[cU]
 rw[e]at xq
 have h':=h.mono (B':=C3++(N++B)) fun _ h=>List.mem_append_right _ (List.mem_append_right _ h)
 have TA:∀t∈M.bK++L,af.bJ M.n t:=fun t ht=>by
  rcases List.mem_append.1 ht with ht|ht
  ·exact hM.jy t ht
  ·exact hf t ht
 refine DR.self ?_
 obtain⟨vo,vh,vt,rs,hR⟩:=h'
 refine Ld.v hR.HS ?_
 refine ae.eq (Gf ⟨vo,vh,vt,rs,hR⟩ hM (xq.p7 (fun _ h=>List.mem_append_left _ h) (fun _ h=>List.mem_append_right _ h)) TA (by rw[List.length_append];omega)) ?_
 have h2:=mZ (ord:=M.ord) (L:=M.bK++L) hn M.n (Nat.le_refl _)
 rw[List.length_append]at h2
 have h3:M.n*(65536*(M.bK.length+L.length))≤16*(65536*2097152):=Nat.mul_le_mul hn (Nat.mul_le_mul_left _ (by omega))
 refine⟨.refl _,?_⟩
 refine aa.ef (a:=2) ?_
 refine aa.BP ?_
 exact bO.mk (.bE .right) rfl
end
end Go.Proofs
set_option maxRecDepth 100000
namespace Go.Proofs
open Go Go.Sx
open aT
section
variable {mp:Nat} {M:Md} {B:Hp}
theorem x4(h:Ec mp M B)(hM:M.nT):Px Tryz.prog 172 #[ptr mp] B (fun r H=>Ox M.n H r (fP M.n M.ord M.bK M.n)):=by
 have G4:=hM.L0
 refine aX fun g=>AD ?_
 obtain⟨vo,vh,vt,rs,hR⟩:=h
 refine DR.self ?_
 refine Ld.v hR.HS ?_
 refine ae.pq (n4 ⟨vo,vh,vt,rs,hR⟩ hM) ?_
 rintro v N hv
 refine⟨.right,?_⟩
 refine ae.pq (oe hv (hR.ord.mono fun _ h=>List.mem_append_right _ h) hM.len hM.lt hM.jy hM.jR (by rw[M.cM];omega)) ?_
 rintro v2 N2 Li
 exact js.mk (.app (.app (.refl _))) Li
theorem nP{n:Nat}{ord:List Nat}{L:af.Fs}(hn:n≤16)(hL:L.length≤1048576){k:Nat}(hk:k≤n):(gi n ord L k).length≤1099511627776:=by
 rw[kq]
 have h2:=mZ (ord:=ord) (L:=L) hn k hk
 have h3:k*(65536*L.length)≤16*(65536*1048576):=Nat.mul_le_mul (by omega) (Nat.mul_le_mul_left _ hL)
 omega
theorem OE(h:Ec mp M B)(hM:M.nT){l:Nat}(hl:l+1<M.n):Rd Tryz.prog 165 #[ptr mp,.int .i64 (l:Int)] B (· =.int .i64 (((o9 M.n M.ord l M.bK).length:Nat):Int)):=by
 have G4:=hM.L0
 have hn:=hM.jR
 have hlen:=hM.len
 have lj:=FB hl hM.len hM.lt
 have SO:=M.cM
 refine aX fun g=>AH ?_
 refine ae.pq (x4 h hM) ?_
 rintro v1 N xp
 refine xp.aM ?_
 rw[show(fP M.n M.ord M.bK M.n).length=M.n by simp[fP]]
 refine⟨fun vs H=>∃(k:Nat) (w:Value) (C:Hp),vs=[w,.int .i64 (k:Int)]∧k≤M.n∧H=C++(N++B)∧c9 57 w (cU M.n (gi M.n M.ord M.bK k)) C (N++B),fun vs _=>M.n-aV vs 1,JE.mk ⟨0,_,[],rfl,Nat.zero_le _,rfl,c9.nil⟩,?_⟩
 rintro w8 w9 H ⟨k,w,C,⟨⟩,hk,rfl,hC⟩ gs
 refine aa.dn (Br.dec (fun ei=>?_) (fun ei=>?_))
 ·refine xp.ld (oc ei) (fun _ h=>List.mem_append_right _ h) fun x hx=>?_
  have h1:=nP (ord:=M.ord) hn (L:=M.bK) (by omega) hk
  have h2:=kP (ord:=M.ord) (L:=M.bK) hn hk
  refine c9.l8 hC .left hx (fun _ h=>List.mem_append_right _ h) (by rw[aI,aI];omega) fun v' C' ho=>?_
  refine aa.inc ?_
  refine aq.of (.refl _) ⟨k+1,v',C',rfl,ei,rfl,?_⟩ (by simp only[aV];omega)
  have e:cU M.n (gi M.n M.ord M.bK k)++cU M.n (fK M.n M.ord M.bK k)=cU M.n (gi M.n M.ord M.bK (k+1)):=by rw[gi];simp[cU]
  rw[←e];exact ho
 ·obtain rfl:k=M.n:=by omega
  have h':=h.mono (B':=N++B) fun _ h=>List.mem_append_right _ h
  refine DR.self ?_
  obtain⟨vo,vh,vt,rs,hR⟩:=h'
  refine Ld.v (List.mem_append_right _ hR.HS) ?_
  refine ae.pq (n4 ⟨vo,vh,vt,rs,hR⟩ hM) ?_
  rintro v2 N2 Li
  refine⟨.cV .right _,?_⟩
  refine ae.fq (p6 (hR.ord.mono fun _ h=>List.mem_append_right _ h) (by omega) (by omega)) ?_
  rintro v3 H ⟨N3,rfl,xq⟩
  refine⟨.cV (.bE .right) _,?_⟩
  refine ae.pq (oe (Li.mono fun _ h=>List.mem_append_right _ h) (xq.ints.mono fun _ h=>List.mem_append_left _ h) (by rw[gS];exact hlen) lj hM.jy hn (by omega)) ?_
  rintro v4 N4 U0
  refine⟨.cV (.bE (.bE .right)) _,?_⟩
  refine U0.aM ?_
  rw[show(fP M.n (ew M.ord l) M.bK M.n).length=M.n by simp[fP]]
  refine⟨fun vs H=>∃(k:Nat) (w:Value) (C:Hp),vs=[w,.int .i64 (k:Int)]∧k≤M.n∧H=C++(N4++(N3++(N2++(N++B))))∧c9 57 w (cU M.n (gi M.n M.ord M.bK M.n++gi M.n (ew M.ord l) M.bK k)) C (N4++(N3++(N2++(N++B)))),
   fun vs _=>M.n-aV vs 1,JE.mk ⟨0,w8,C,rfl,Nat.zero_le _,rfl,by rw[gi,List.append_nil];exact hC.mono zS⟩,?_⟩
  rintro Zj Wh H ⟨k,w,C2,⟨⟩,rU,rfl,VK⟩ gs
  have h0:=nP (ord:=M.ord) hn (L:=M.bK) (by omega) (Nat.le_refl M.n)
  have h1:=nP (ord:=ew M.ord l) hn (L:=M.bK) (by omega) rU
  refine aa.dn (Br.dec (fun ei=>?_) (fun ei=>?_))
  ·refine U0.ld (oc ei) (fun _ h=>List.mem_append_right _ h) fun x hx=>?_
   have h2:=kP (ord:=ew M.ord l) (L:=M.bK) hn rU
   refine c9.l8 VK .left hx (fun _ h=>List.mem_append_right _ h) (by rw[aI,aI,List.length_append];omega) fun v' C' ho=>?_
   refine aa.inc ?_
   refine aq.of (.refl _) ⟨k+1,v',C',rfl,ei,rfl,?_⟩ (by simp only[aV];omega)
   have e:cU M.n (gi M.n M.ord M.bK M.n++gi M.n (ew M.ord l) M.bK k)++cU M.n (fK M.n (ew M.ord l) M.bK k)=cU M.n (gi M.n M.ord M.bK M.n++gi M.n (ew M.ord l) M.bK (k+1)):=by rw[gi];simp[cU]
   rw[←e];exact ho
  ·obtain rfl:k=M.n:=by omega
   have TA:∀t∈gi M.n M.ord M.bK M.n++gi M.n (ew M.ord l) M.bK M.n,af.bJ M.n t:=fun t ht=>by
    rcases List.mem_append.1 ht with ht|ht
    ·exact iJ hM.jy hn _ t ht
    ·exact iJ hM.jy hn _ t ht
   refine ae.pq (qh (VK.p7 (fun _ h=>List.mem_append_left _ h) (fun _ h=>List.mem_append_right _ h)) TA (by rw[List.length_append];omega)) ?_
   rintro v5 N5 Xa
   refine Xa.aM ?_
   rw[aI]
   exact bO.mk (.bE (.bE (.bE (.bE (.bE .right))))) rfl
theorem HF(h:Ec mp M B)(hM:M.nT){l:Nat}(hl:l+1<M.n)(hno:M.cap<2+(o9 M.n M.ord l M.bK).length):Rd Tryz.prog 86 #[ptr mp,.int .i64 (l:Int)] B (· =.int .i64 9):=by
 have hn:=hM.jR
 have LK:(o9 M.n M.ord l M.bK).length≤4398046511104:=by
  have h0:=nP (ord:=M.ord) hn (L:=M.bK) (by have:=hM.L0;rw[M.cM];omega) (Nat.le_refl M.n)
  have h1:=nP (ord:=ew M.ord l) hn (L:=M.bK) (by have:=hM.L0;rw[M.cM];omega) (Nat.le_refl M.n)
  refine Nat.le_trans (nX _) ?_
  rw[List.length_append];omega
 refine aX fun g=>oG ?_
 obtain⟨vo,vh,vt,rs,hR⟩:=h
 refine aa.lss ?_
 rw[decide_eq_false (by omega)]
 refine dI.or false (fun _=>?_) rfl fun gs=>Br.no ?_
 ·refine Ld.v hR.HS ?_
  refine aa.jm (c:=(M.n:Int) -2) rfl (by omega) ?_
  exact aa.gtr ⟨rfl,by rw[decide_eq_false (by omega)]⟩
 refine DR.self ?_
 refine Ld.v hR.HS ?_
 refine ae.eq (OE ⟨vo,vh,vt,rs,hR⟩ hM hl) ?_
 refine⟨.refl _,?_⟩
 refine aa.ef (a:=2) ?_
 exact aa.iR (Br.yR hno (bO.mk (.refl _) rfl))
theorem HE{X H:Hp}(h:jk mp M X H)(hM:M.nT){l:Nat}(hl:l+1<M.n)(hfit:2+(o9 M.n M.ord l M.bK).length≤M.cap):Fc Tryz.prog 86 #[ptr mp,.int .i64 (l:Int)] H (fun v H'=>v=.int .i64 0∧jk mp {M with ord:=ew M.ord l,tr:=M.tr++[l]} X H'):=by
 have hn:=hM.jR
 have hcap:=hM.cap
 have Xg:=hM.Wx
 have hlen:=hM.len
 have hrd:=h.rd
 obtain⟨vo,vh,vt,rs,CO,CH,CT,rfl,hO⟩:=h
 refine aX fun g=>oG ?_
 refine aa.lss ?_
 rw[decide_eq_false (by omega)]
 refine dI.or false (fun _=>?_) rfl fun gs=>Br.no ?_
 ·refine Ld.n ?_
  refine aa.jm (c:=(M.n:Int) -2) rfl (by omega) ?_
  exact aa.gtr ⟨rfl,by rw[decide_eq_false (by omega)]⟩
 refine DR.self ?_
 refine Ld.n ?_
 refine ae.eq (OE hrd hM hl) ?_
 refine⟨.refl _,?_⟩
 refine aa.ef (a:=2) ?_
 refine aa.iR (Br.F ?_)
 refine Ld.n ?_
 refine ae.fq (p6 hO.ord.ints (by omega) (by omega)) ?_
 rintro v H ⟨N,rfl,ho⟩
 refine Nil.ptr (ag.mk (St.one (c':=dQ M v vh vt) (by exact .head _) ho.one (by simp[dQ]) rfl ?_))
 refine Ld.n ?_
 refine an.int (e:=3) (by kernel_rfl) (by kernel_rfl) (by kernel_rfl) fun bx=>?_
 refine hO.tr.nO (.cons (.cons (.app (.app .left)))) (by exact .head _) (by rw[ah];omega) (by rw[ah];omega) fun v' IL br=>?_
 refine Nil.ptr (ag.mk (St.one (c':=dQ M v vh v') (by exact .tail (.head _)) br.one (by simp[dQ]) rfl ?_))
 refine bN.mk (jD:=(mp,.cells (dQ M v vh v') 74 (0,0))::(N++(CH++(IL++X)))) (.skip (.cons ?_)) ⟨rfl,v,vh,v',rs,N,CH,IL,rfl,ho,hO.sl,hO.each,by rw[bY];exact br⟩
 exact aJ.assoc.trans (.cV .right _)
theorem GN(h:Ec mp M B)(hM:M.nT){v:Value}{t:List Nat}(ht:ig B v ⟨M.n,t⟩)(hf:af.bJ M.n t):Rd Tryz.prog 96 #[ptr mp,v] B (fun r=>(∃e∈M.held,e.1=t∧r=.int .i64 ((e.2:Nat):Int))∨(t∉M.bK∧r=.int .i64 0)):=by
 obtain⟨s0,rfl,nr⟩:=ht
 obtain⟨vo,vh,vt,rs,hR⟩:=h
 have G4:=hM.L0
 have rT:=hR.each.1
 refine aX fun g=>Eg ?_
 intro b1 _
 refine Ld.v (.tail _ hR.HS) ?_
 refine hR.sl.aM ?_
 rw[rT]
 refine⟨fun vs H=>∃k:Nat,vs=[.int .i64 (k:Int)]∧k≤M.held.length∧H=(b1,.cells #[.int .i64 (M.n:Int),s0] 57 (0,0))::B∧t∉M.bK.take k,fun vs _=>M.held.length-aV vs 0,JE.mk ⟨0,rfl,Nat.zero_le _,rfl,by simp⟩,?_⟩
 rintro Oz H ⟨k,⟨⟩,hk,rfl,hno⟩ gs
 refine aa.dn (Br.dec (fun hlt=>?_) (fun hlt=>?_))
 ·obtain⟨r,hr,s,rfl,hw⟩:=hR.each.get (List.getElem?_eq_getElem hlt)
  have hone:=av hw
  have lP:M.bK[k]'(by rw[M.cM];exact hlt)=M.held[k].1:=by simp[Md.bK]
  have gQ:af.bJ M.n M.held[k].1:=hM.jy _ (by rw[←lP];exact List.getElem_mem _)
  refine aj.sl hR.sl hr fun p hp=>ax.at hp rfl (by decide) (fun _ h=>.tail _ h) ?_
  intro E9 _
  refine St.p (by simpa[Value.oneCell']using hone) ?_
  refine ag.mk (ax.mk (vs:=#[.int .i64 (M.n:Int),s]) (by exact .head _) (by simp) rfl ?_)
  refine ax.q ?_
  have yp:=df gQ
  refine ae.eq (B:=B) (fY (v1:=.agg (List.toArray [.int .i64 (M.n:Int),s])) (v2:=.agg (List.toArray [.int .i64 (M.n:Int),s0])) (a:=⟨M.n,M.held[k].1⟩) (b:=⟨M.n,t⟩) ⟨s,rfl,hw⟩ ⟨s0,rfl,nr⟩ (by show M.held[k].1.length<_;omega)) ?_
  refine Br.dec (fun he=>?_) (fun he=>?_)
  ·have he':M.held[k].1=t:=by injection he
   refine Ld.f ?_
   exact bO.mk (.skip .tail) (.inl ⟨M.held[k],List.getElem_mem hlt,he',rfl⟩)
  ·refine aa.inc ?_
   refine aq.of .tail ⟨k+1,rfl,hlt,rfl,?_⟩ (by simp only[aV];omega)
   rw[List.take_succ_eq_append_getElem (by rw[M.cM];exact hlt),lP,List.mem_append,List.mem_singleton]
   rintro(h|h)
   ·exact hno h
   ·exact he (by rw[h])
 ·obtain rfl:k=M.held.length:=by omega
  rw[←M.cM,List.take_length]at hno
  exact bO.mk .tail (.inr ⟨hno,rfl⟩)
theorem vz{n cap:Nat}(hn:n≤64)(hc:cap≤1048576):Fc Tryz.prog 82 #[.int .i64 (n:Int),.int .i64 (cap:Int)] [] (fun v H=>∃mp,v=ptr mp∧jk mp ⟨n,cap,List.range n,[],[]⟩ [] H):=by
 refine aX fun g=>Em ?_
 refine Build.mk (cs:=[.int .i64 (n:Int),.int .i64 (cap:Int),.slice none 0 0,.slice none 0 0,.slice none 0 0]) (by kernel_rfl) ?_
 intro b2 _
 refine⟨fun vs H=>∃(k:Nat) (vo:Value) (CO:Hp),vs=[.int .i64 (k:Int)]∧k≤n∧H=(b2,.cells #[.int .i64 (n:Int),.int .i64 (cap:Int),vo,.slice none 0 0,.slice none 0 0] 74 (0,0))::CO∧aK 3 .i64 vo (iw (List.range k)) CO,fun vs _=>n-aV vs 0,JE.mk ⟨0,_,[],rfl,Nat.zero_le _,rfl,aK.nil⟩,?_⟩
 rintro w8 H ⟨k,vo,CO,⟨⟩,hk,rfl,hO⟩ gs
 refine aa.dn (Br.dec (fun hlt=>?_) (fun hlt=>?_))
 ·refine Ld.n ?_
  refine an.int (e:=3) (by kernel_rfl) (by kernel_rfl) (by kernel_rfl) fun bx=>?_
  refine hO.nO (.cons (.cons .here)) (by exact .head _) (by rw[ah];simp;omega) (by rw[ah];simp;omega) fun v' Zd br=>?_
  refine Nil.ptr (ag.mk (St.one (c':=#[.int .i64 (n:Int),.int .i64 (cap:Int),v',.slice none 0 0,.slice none 0 0]) (by exact .tail (.head _)) br.one (by simp) rfl ?_))
  refine aa.inc ?_
  exact aq.of .tail ⟨k+1,v',Zd,rfl,hlt,rfl,by rw[List.range_succ,bY];exact br⟩ (by simp only[aV];omega)
 ·obtain rfl:k=n:=by omega
  exact bN.here ⟨b2,rfl,vo,.slice none 0 0,.slice none 0 0,[],CO,[],[],by simp[dQ],hO,aN.nil _ _,fH.nil,aK.nil⟩
end
def Bn(held:List (List Nat×Nat))(t:List Nat)(held':List (List Nat×Nat)):Prop:=
 (∃i c,held[i]? =some (t,c)∧t∉(held.map Prod.fst).take i∧held'=held.set i (t,c+1))∨(t∉held.map Prod.fst∧held'=held++[(t,1)])
section
variable {mp:Nat} {M:Md} {B:Hp}
theorem vZ{X H:Hp}(hM:M.nT){v:Value}{t:List Nat}(ht:ig H v ⟨M.n,t⟩)(hf:af.bJ M.n t)(hc:t=bc M.n false∨t=bc M.n true):Rd Tryz.prog 124 #[ptr mp,v] H (· =.int .i64 0):=by
 obtain⟨s0,rfl,nr⟩:=ht
 refine aX fun g=>rO ?_
 intro b1 _
 refine ax.q ?_
 refine ae.eq (qE (v:=.agg (List.toArray [.int .i64 (M.n:Int),s0])) (n:=M.n) (ws:=t) ⟨s0,rfl,nr⟩ hf) ?_
 exact Br.yR hc (bO.mk .tail rfl)
theorem GQ{X H:Hp}(h:jk mp M X H)(hM:M.nT){v:Value}{t:List Nat}(ht:ig X v ⟨M.n,t⟩)(hf:af.bJ M.n t)(hc:¬(t=bc M.n false∨t=bc M.n true))(hlt:∀e∈M.held,e.2<65535):
  Fc Tryz.prog 124 #[ptr mp,v] H (fun r H'=>r=.int .i64 0∧∃held',Bn M.held t held'∧jk mp {M with held:=held'} X H'):=by
 have hsub:=h.sub
 obtain⟨s0,rfl,nr⟩:=ht
 have G4:=hM.L0
 have U9:=av nr
 obtain⟨vo,vh,vt,rs,CO,CH,CT,rfl,hO⟩:=h
 have rT:=hO.each.1
 refine aX fun g=>rO ?_
 intro b1 _
 refine ax.q ?_
 refine ae.eq (qE (v:=.agg (List.toArray [.int .i64 (M.n:Int),s0])) (n:=M.n) (ws:=t) ⟨s0,rfl,nr.mono hsub⟩ hf) ?_
 refine Br.yS hc ?_
 refine⟨fun vs H=>∃k:Nat,vs=[.int .i64 (k:Int)]∧k≤M.held.length∧H=(b1,.cells #[.int .i64 (M.n:Int),s0] 57 (0,0))::(mp,.cells (dQ M vo vh vt) 74 (0,0))::(CO++(CH++(CT++X)))∧t∉M.bK.take k,fun vs _=>M.held.length-aV vs 0,JE.mk ⟨0,rfl,Nat.zero_le _,rfl,by simp⟩,?_⟩
 rintro OA H ⟨k,⟨⟩,hk,rfl,hno⟩ gs
 have MH:∀y∈CH,y∈(b1,Obj.cells #[.int .i64 (M.n:Int),s0] 57 (0,0))::(mp,.cells (dQ M vo vh vt) 74 (0,0))::(CO++(CH++(CT++X))):=fun y h=>.tail _ (.tail _ (List.mem_append_right _ (List.mem_append_left _ h)))
 refine Ld.n ?_
 refine hO.sl.aM ?_
 rw[rT]
 refine aa.dn (Br.dec (fun ei=>?_) (fun ei=>?_))
 ·obtain⟨r,hr,s,rfl,hw⟩:=hO.each.get (List.getElem?_eq_getElem ei)
  have lP:M.bK[k]'(by rw[M.cM];exact ei)=M.held[k].1:=by simp[Md.bK]
  have gQ:af.bJ M.n M.held[k].1:=hM.jy _ (by rw[←lP];exact List.getElem_mem _)
  have yp:=df gQ
  have lp:=hlt _ (List.getElem_mem ei)
  refine DR.self ?_
  refine Ld.n ?_
  refine hO.sl.Gp hr ⟨by decide,by decide⟩ MH ?_
  refine ax.q ?_
  refine ae.eq (B:=X) (fY (v1:=.agg (List.toArray [.int .i64 (M.n:Int),s])) (v2:=.agg (List.toArray [.int .i64 (M.n:Int),s0])) (a:=⟨M.n,M.held[k].1⟩) (b:=⟨M.n,t⟩) ⟨s,rfl,hw⟩ ⟨s0,rfl,nr⟩ (by show M.held[k].1.length<_;omega)) ?_
  refine⟨.refl _,?_⟩
  refine Br.dec (fun he=>?_) (fun he=>?_)
  ·have he':M.held[k].1=t:=by injection he
   refine Ld.n ?_
   refine hO.sl.yd (j:=2) hr rfl MH ?_
   refine aa.mS (b:=65535) (Br.F ?_)
   refine Ld.n ?_
   refine hO.sl.yd (j:=2) hr rfl MH ?_
   refine aa.inc ?_
   refine hO.sl.FU (j:=2) (x:=.int .i64 ((M.held[k].2+1:Nat):Int)) (.cons (.cons (.app .left))) hr (by decide) rfl fun EV br=>?_
   refine bN.mk .tail ⟨rfl,M.held.set k (t,M.held[k].2+1),.inl ⟨k,M.held[k].2,?_,hno,rfl⟩,vo,vh,vt,_,CO,EV,CT,rfl,hO.ord,br,hO.each.set ⟨s,rfl,by rw[←he'];exact hw⟩,hO.tr⟩
   rw[List.getElem?_eq_getElem ei,←he']
  ·refine aa.inc ?_
   refine aq.of (.refl _) ⟨k+1,rfl,ei,rfl,?_⟩ (by simp only[aV];omega)
   rw[List.take_succ_eq_append_getElem (by rw[M.cM];exact ei),lP,List.mem_append,List.mem_singleton]
   rintro(h|h)
   ·exact hno h
   ·exact he (by rw[h])
 ·obtain rfl:k=M.held.length:=by omega
  rw[←M.cM,List.take_length]at hno
  refine DR.of (R:=[(b1,.cells #[.int .i64 (M.n:Int),s0] 57 (0,0)),(mp,.cells (dQ M vo vh vt) 74 (0,0))]) (.cons (.cons .nil)) ?_
  refine Ld.n ?_
  refine ax.q ?_
  obtain⟨sa,sl,sc,rfl⟩:∃a l c,s0=Value.slice a l c:=by obtain⟨a,c,h,_⟩:=nr.1.shape;exact⟨a,_,c,h⟩
  refine Build.mk (cs:=[.int .i64 (M.n:Int),.slice sa sl sc,.int .i64 1]) (by kernel_rfl) ?_
  refine an.one (r:=[.int .i64 (M.n:Int),.slice sa sl sc,.int .i64 1]) (e:=241) (k:=3) (z:=.agg #[.int .i64 0,.slice none 0 0,.int .i64 0]) (by kernel_rfl) (by kernel_rfl) (by kernel_rfl) (by decide) rfl fun bx=>?_
  refine⟨.skip (.cons (.cons .nil)),?_⟩
  refine hO.sl.nO (r:=[.int .i64 (M.n:Int),.slice sa sl sc,.int .i64 1]) (.cons (.cons (.cons (.app .left)))) (by exact .head _) rfl (by simp[Value.oneCell']) ⟨[.int .i64 0,.slice none 0 0,.int .i64 0],rfl,rfl⟩ (by omega) (by omega) fun v' EV br=>?_
  refine⟨.skip (.cons (.cons .nil)),?_⟩
  have xp:v'.oneCell'=true:=by obtain⟨a,c,e⟩:=aN.len br;rw[e];rfl
  refine Nil.ptr (ag.mk (St.one (c':=dQ M vo v' vt) (by exact .tail (.tail (.head _))) xp (by simp[dQ]) rfl ?_))
  exact bN.mk (.skip .tail) ⟨rfl,_,.inr ⟨hno,rfl⟩,vo,v',vt,_,CO,EV,CT,rfl,hO.ord,br,hO.each.snoc ⟨_,rfl,nr⟩,hO.tr⟩
end
section
variable {kp:Nat} {K:Kd} {ord ak tr:List Nat} {C:Hp} {S:Nat→aT.Fn}
theorem F9(d:Nd):∀u∈bg d,u.oneCell'=true:=fun u hu=>by
 simp only[bg,List.mem_cons,List.not_mem_nil,or_false]at hu
 rcases hu with rfl|rfl|rfl<;>rfl
end
theorem Hx{ord:List Nat}{F G:aT.Fn→Prop}(h:∀g,F g→G g):∀l g,fs ord F l g→fs ord G l g
 |0,g,hg=>h g hg
 |l+1,g,⟨f,hf,b,e⟩=>⟨f,Hx h l f hf,b,e⟩
theorem kM{n:Nat}{ord:List Nat}{F G:aT.Fn→Prop}(h:∀g,F g→G g){g:aT.Fn}(hg:bq n ord F g):bq n ord G g:=let ⟨l,a,b,c⟩:=hg;⟨l,a,Hx h l g b,c⟩
structure nS(K:Kd)(S:Nat→aT.Fn)(K':Kd)(S':Nat→aT.Fn)(f:aT.Fn)(r:Nat):Prop where
 n:K'.n=K.n
 cap:K'.cap=K.cap
 N:∀s d,K.N s=some d→K'.N s=some d
 fn:∀s,live K.N s→S' s=S s
 live:live K'.N r
 is:S' r=f
 hold:∀s,K'.hold s=K.hold s+if s=r∧2≤r then 1 else 0
theorem iy{N N':fj}(h:∀s d,N s=some d→N' s=some d){s:Nat}(hs:live N s):live N' s:=by
 rcases hs with hs|⟨d,hd⟩
 ·exact .inl hs
 ·exact .inr ⟨d,h s d hd⟩
theorem yh{K K5:Kd}{S S5:Nat→aT.Fn}{ak:Nat→Nat}(hK:Ok K S ak)(E8:Ok K5 S5 ak)(hold:∀s,K.hold s≠0→K5.hold s≠0)(h3:∀s d d',K.N s=some d→K5.N s=some d'→d'=d):
  ∀(k s:Nat) (d:Nd),K.N s=some d→ak d.v≤k→K5.N s=some d:=by
 intro k
 induction k with
 |zero=>
  intro s d hd hl
  have fin:live K5.N s→K5.N s=some d:=fun hs=>by
   rcases hs with hs|⟨d',dh⟩
   ·have:=(hK.mid.two hd).1;omega
   ·rw[dh,h3 s d d' hd dh]
  rcases hK.reach s d hd with h|⟨p,e,hp,he⟩
  ·exact fin (.inr (E8.mid.held s (hold s h)))
  ·have h1:=hK.wf.lo hp
   have h2:=hK.wf.hi hp
   rcases he with rfl|rfl
   ·have:=h1.2;rw[aE hd]at this;omega
   ·have:=h2.2;rw[aE hd]at this;omega
 |succ k ih=>
  intro s d hd hl
  have fin:live K5.N s→K5.N s=some d:=fun hs=>by
   rcases hs with hs|⟨d',dh⟩
   ·have:=(hK.mid.two hd).1;omega
   ·rw[dh,h3 s d d' hd dh]
  rcases hK.reach s d hd with h|⟨p,e,hp,he⟩
  ·exact fin (.inr (E8.mid.held s (hold s h)))
  ·have h1:=hK.wf.lo hp
   have h2:=hK.wf.hi hp
   rcases he with rfl|rfl
   ·have:=h1.2;rw[aE hd]at this
    exact fin (E8.mid.lo (ih p e hp (by omega)))
   ·have:=h2.2;rw[aE hd]at this
    exact fin (E8.mid.hi (ih p e hp (by omega)))
theorem nS.held{K K':Kd}{S S':Nat→aT.Fn}{f:aT.Fn}{r:Nat}(h:nS K S K' S' f r)(hm:∀s,K.hold s≠0→aT.live K.N s)(g:aT.Fn)(hg:K'.held S' g):K.held S g∨g=f:=by
 obtain⟨s,hs,rfl⟩:=hg
 by_cases h0:K.hold s=0
 ·right
  have:=h.hold s
  have hs':K'.hold s≠0:=hs
  rw[h0]at this
  by_cases e:s=r∧2≤r
  ·rw[e.1];exact h.is
  ·rw[if_neg e]at this;omega
 ·exact .inl ⟨s,h0,h.fn s (hm s h0)⟩
abbrev Q3:=Nat×Nat×Nat
def l3(q:Q3):List Nat:=[q.1,q.2.1,q.2.2]
def Fits(U:aT.Fn→Prop)(cap:Nat):Prop:=∃ku,oH U ku∧ku+2≤cap
def Sq(op:Nat)(a b:Bool):Bool:=op.testBit (2*a.toNat+b.toNat)
section
variable {kp:Nat} {K:Kd} {S:Nat→aT.Fn} {ord ak tr:List Nat} {C:Hp}
theorem pH{n v:Nat}(hv:v<n):2^v<2^n:=Nat.pow_lt_pow_right (by decide) hv
end
theorem Fits.mono{A B:aT.Fn→Prop}{cap:Nat}(h:∀g,A g→B g)(hB:Fits B cap):Fits A cap:=by
 classical
 obtain⟨ku,⟨l,h1,h2,h3⟩,hc⟩:=hB
 refine⟨(l.filter fun g=>decide (A g)).length,⟨l.filter fun g=>decide (A g),h1.filter _,rfl,fun g=>?_⟩,?_⟩
 ·rw[List.mem_filter,decide_eq_true_eq,←h3]
  exact⟨fun x=>⟨h g x,x⟩,fun x=>x.2⟩
 ·have:=List.length_filter_le (fun g=>decide (A g)) l
  omega
end Go.Proofs
namespace Go.Sx
open Go
section
variable {P:Program} {g:Gh} {H B:Hp} {c:Hp→Hp}
theorem ae.top{f:FuncId}{args:Array Value}{Q:Value→Hp→Prop}{K:Value→Hp→Prop}{KP:List PanicEntry→Hp→Prop}(hh:aZ B H c)(hc:Fc P f args B (fun r H'=>∃N,H'=N++B∧Q r N))(hk:∀r N,Q r N→K r (N++H)):ae P g f args H K KP:=by
 refine(ae.fn (K:=fun r H'=>∃N,H'=c (N++B)∧Q r N) (KP:=KP) hh hc fun r C' ⟨N,h1,h2⟩=>⟨N,by rw[h1],h2⟩).post ?_
 intro e H' h
 cases e with
 |returned v=>
  obtain⟨N,rfl,hq⟩:=h
  refine⟨N++H,?_,hk v N hq⟩
  obtain⟨h1,F,h2⟩:=hh.spec
  refine .perm ((h2 (N++B)).trans ?_)
  rw[h1,List.append_assoc]
  exact List.Perm.append_left N (h2 B).symm
 |panicked ch=>exact⟨H',.refl _,h⟩
 |outgrown=>exact⟨H',.refl _,h⟩
end
end Go.Sx
set_option maxRecDepth 100000
namespace Go.Proofs
open Go Go.Sx
open aT
section
variable {kp:Nat}
def KO(kp:Nat)(K:Kd)(S:Nat→aT.Fn)(ord ak:List Nat)(f:aT.Fn)(w:Value)(C:Hp):Prop:=
 (∃r K' S',w=.tuple #[u32 r,.int .i64 0]∧gM kp K' S' ord ak [] C∧nS K S K' S' f r)∨
 (w=.tuple #[u32 0,.int .i64 9]∧(∃K' S',gM kp K' S' ord ak [] C∧Kept K S K' S')∧¬Fits (bq K.n ord (fun g=>K.held S g∨g=f)) K.cap)
theorem Gt{K K':Kd}{S S':Nat→aT.Fn}(hn:K'.n=K.n)(hc:K'.cap=K.cap)(hh:∀s,K'.hold s=K.hold s)(hf:∀s,K.hold s≠0→S' s=S s):Kept K S K' S':=by
 refine⟨hn,hc,hh,fun g=>?_,hf⟩
 constructor
 ·rintro⟨s,hs,e⟩
  have hs':K.hold s≠0:=by rw[←hh];exact hs
  exact⟨s,hs',by rw[e,hf s hs']⟩
 ·rintro⟨s,hs,e⟩
  have hs':K'.hold s≠0:=by rw[hh];exact hs
  exact⟨s,hs',by rw[e,hf s hs]⟩
theorem FI{n:Nat}(hn:n≤16){ord ak:List Nat}:
  ∀(k l:Nat) (K:Kd) (S:Nat→aT.Fn) (C Y:Hp) (v:Value) (t:List Nat),n-l<k→l≤n→K.n=n→gM kp K S ord ak [] C→ig Y v ⟨n,t⟩→af.bJ n t→
  (∀j,j<l→¬fc (dK n t) (ord.getD j 0))→(∀s,K.hold s+(n-l)+1≤65535)→
  Fc Tryz.prog 83 #[ptr kp,v,.int .i64 (l:Int)] (Y++C) (fun w H=>∃C',H=Y++C'∧KO kp K S ord ak (dK n t) w C'):=by
 intro k
 induction k with
 |zero=>intro l K S C Y v t hk;omega
 |succ k ih=>
  intro l K S C Y v t hk hl wj hK ht hf Tr hB
  obtain⟨s0,rfl,nr⟩:=ht
  have hlen:ord.length=n:=by rw[hK.od.len,wj]
  refine aX fun g=>El ?_
  intro b1 _
  refine ae.top (Q:=fun r N=>aK 3 .i64 r (iw ord) N) (.cons (.app .here)) (sZ hK.rep) ?_
  intro vo N xu
  obtain⟨Z,hZ⟩:∃Z:Hp,Z=N++(b1,.cells #[.int .i64 (n:Int),s0] 57 (0,0))::Y:=⟨_,rfl⟩
  have eZ:N++(b1,.cells #[.int .i64 (n:Int),s0] 57 (0,0))::(Y++C)=Z++C:=by rw[hZ];simp
  have ho:bL .i64 Z vo (iw ord):=by rw[hZ];exact xu.ints.mono fun _ h=>List.mem_append_left _ h
  have yC:(b1,Obj.cells #[.int .i64 (n:Int),s0] 57 (0,0))∈Z:=by rw[hZ];exact List.mem_append_right _ (.head _)
  have hw:Words Z s0 t:=by rw[hZ];exact nr.mono fun _ h=>List.mem_append_right _ (.tail _ h)
  have hE:∀X,aJ (Z++X) (Y++X):=fun X=>by rw[hZ];exact aJ.frame (.bE .tail) X
  show∃(I5:Jt) (m6:Mt),JE I5 _ (N++(b1,.cells #[.int .i64 (n:Int),s0] 57 (0,0))::(Y++C))∧_
  rw[eZ]
  clear xu eZ hZ nr
  refine⟨fun vs H=>∃i:Nat,vs=[.int .i64 (i:Int)]∧H=Z++C∧l≤i∧i≤n∧∀j,j<i→¬fc (dK n t) (ord.getD j 0),fun vs _=>n-aV vs 0,JE.mk ⟨l,rfl,rfl,Nat.le_refl _,hl,Tr⟩,?_⟩
  rintro w9 H ⟨i,⟨⟩,rfl,Vg,hi,v8⟩ gs
  intro J10 R4
  have gj:ig Z (.agg (List.toArray [.int .i64 (n:Int),s0])) ⟨n,t⟩:=⟨s0,rfl,hw⟩
  refine DR.self ?_
  refine ho.aM ?_
  rw[ah,hlen]
  refine aa.dn (Br.dec (fun hin=>?_) (fun hge=>?_))
  rotate_left
  ·-- a constant
   obtain rfl:i=n:=by omega
   refine JE.mk (R4 _ _ fun gs=>Br.no ?_)
   refine ho.aM ?_
   rw[ah,hlen]
   refine aa.mS (Br.T ?_)
   refine ax.whole (r:=[.int .i64 (i:Int),s0]) (List.mem_append_left _ yC) rfl ?_
   refine ae.eh (args:=#[.agg (List.toArray [.int .i64 (i:Int),s0]),.int .i64 ((0:Nat):Int)]) .left (I1 (n:=i) (x:=0) (ws:=t) gj hf (Nat.two_pow_pos _)) ?_
   have LA:=HC (n:=i) (ws:=t) fun v hv hh=>by
    have:=hK.od.of hK.ok.lv (v:=v) (by omega)
    have hlv:=hK.ok.lv.lt v (by omega)
    exact v8 _ (by rw[←wj];exact hlv) (by rw[this];exact hh)
   have kT:=hK.ok.mid.int
   have h0:af.bit t 0=dK i t 0:=Uw
   rw[h0]
   refine Br.mk (fun hb=>?_) (fun hb=>?_)
   ·exact bN.mk (hE C) ⟨C,rfl,.inl ⟨1,K,S,rfl,hK,rfl,rfl,fun _ _ h=>h,fun _ _=>rfl,.inl (by omega),funext fun x=>by rw[kT.one,LA x,hb],fun s=>by simp⟩⟩
   ·exact bN.mk (hE C) ⟨C,rfl,.inl ⟨0,K,S,rfl,hK,rfl,rfl,fun _ _ h=>h,fun _ _=>rfl,.inl (by omega),funext fun x=>by rw[kT.zero,LA x,hb],fun s=>by simp⟩⟩
  have U8:=hK.od.aS i (by omega)
  have gL:ord.getD i 0<n:=by rw[←wj];exact U8.1
  have Rs:(iw ord)[i]? =some (((ord.getD i 0:Nat)):Int):=bf (by omega)
  refine ax.whole (r:=[.int .i64 (n:Int),s0]) (List.mem_append_left _ yC) rfl ?_
  refine ho.ld Rs (fun _ h=>List.mem_append_left _ h) ?_
  intro F56
  refine ae.eh .left (q7 (v:=.agg (List.toArray [.int .i64 (n:Int),s0])) (n:=n) (ws:=t) gj hf gL) ?_
  refine Un.not (ay.mk ?_)
  by_cases hd:af.dep n t (ord.getD i 0)=true
  rotate_left
  ·have dh:af.dep n t (ord.getD i 0)=false:=by cases h:af.dep n t (ord.getD i 0);rfl;exact absurd h hd
   rw[dh]
   refine JE.mk (R4 _ _ fun gs=>Br.yes ?_)
   refine aa.inc ?_
   refine aq.mk ⟨i+1,rfl,rfl,by omega,hin,fun j hj=>?_⟩ (by simp only[aV];omega)
   by_cases e:j=i
   ·subst e;exact fun hh=>hd ((kU hf gL).1 hh)
   ·exact v8 j (by omega)
  rw[hd]
  refine JE.mk (R4 _ _ fun gs=>Br.no ?_)
  clear R4
  have Ly:fc (dK n t) (ord.getD i 0):=(kU hf gL).2 hd
  refine ho.aM ?_
  rw[ah,hlen]
  refine aa.mS (Br.F ?_)
  refine ho.ld Rs (fun _ h=>List.mem_append_left _ h) ?_
  refine ax.whole (r:=[.int .i64 (n:Int),s0]) (List.mem_append_left _ yC) rfl ?_
  refine ae.px (B:=Z) .left (kJ (c:=false) (v:=.agg (List.toArray [.int .i64 (n:Int),s0])) (n:=n) (ws:=t) gj hf gL) ?_
  intro v1 N1 xp
  refine aa.inc ?_
  have XM:=af.bV (v:=ord.getD i 0) (ws:=t) (b:=false) (n:=n) hn
  obtain⟨i1,OK⟩:=sG (n:=n) (c:=dK n (af.c6 n t (ord.getD i 0) false)) v8 (gW hf gL false)
  refine ae.fn (C:=(N1++Z)++C) .here (ih (i+1) K S C (N1++Z) v1 _ (by omega) (by omega) wj hK xp XM i1 (fun s=>by have:=hB s;omega)) ?_
  rintro w H ⟨C1,rfl,(⟨r1,K1,S1,rfl,qO,g1⟩|⟨rfl,⟨K1,S1,qO,WJ⟩,hno⟩)⟩
  rotate_left
  ·refine Ext.two ?_
   refine aa.gA (Br.T ?_)
   refine bN.mk (.trans (aJ.frame .right C1) (hE C1)) ⟨C1,rfl,.inr ⟨rfl,⟨K1,S1,qO,WJ⟩,fun hfit=>hno (Fits.mono (fun g hg=>?_) hfit)⟩⟩
   rw[wj]at hg⊢
   rcases(cZ g).1 hg with h|h
   ·exact(cZ g).2 (.inl h)
   ·exact(cZ g).2 (.inr (OK g h))
  refine Ext.two ?_
  refine aa.gA (Br.F ?_)
  refine ax.whole (r:=[.int .i64 (n:Int),s0]) (List.mem_append_left _ (List.mem_append_right _ yC)) rfl ?_
  refine ae.px (B:=N1++Z) .left (kJ (c:=true) (v:=.agg (List.toArray [.int .i64 (n:Int),s0])) (n:=n) (ws:=t) ⟨s0,rfl,hw.mono fun _ h=>List.mem_append_right _ h⟩ hf gL) ?_
  intro v2 N2 Li
  refine aa.inc ?_
  have DG:=af.bV (v:=ord.getD i 0) (ws:=t) (b:=true) (n:=n) hn
  obtain⟨i2,OJ⟩:=sG (n:=n) (c:=dK n (af.c6 n t (ord.getD i 0) true)) v8 (gW hf gL true)
  have JX:∀s,K.hold s≠0→live K.N s:=fun s hs=>.inr (hK.ok.mid.held s hs)
  have M6:∀s,K1.hold s≤K.hold s+1:=fun s=>by have:=g1.hold s;split at this<;>omega
  have ZY:=qO.eI g1.live
  have Qp:∀g,bq n ord (fun g=>K1.held S1 g∨g=dK n (af.c6 n t (ord.getD i 0) true)) g→bq n ord (fun g=>K.held S g∨g=dK n t) g:=fun g hg=>by
   rcases(cZ g).1 hg with h|h
   ·rcases(cZ g).1 (kM (g1.held JX) h)with h|h
    ·exact(cZ g).2 (.inl h)
    ·exact(cZ g).2 (.inr (OK g h))
   ·exact(cZ g).2 (.inr (OJ g h))
  have Ug:∀X,aJ ((N2++(N1++Z))++X) (Y++X):=fun X=>(aJ.frame (.bE .right) X).trans (hE X)
  refine ae.fn (C:=(N2++(N1++Z))++C1) .here (ih (i+1) K1 S1 C1 (N2++(N1++Z)) v2 _ (by omega) (by omega) (g1.n.trans wj) qO Li DG i2 (fun s=>by have:=hB s;have:=M6 s;omega)) ?_
  rintro w H ⟨C2,rfl,(⟨r2,K2,S2,rfl,oY,g2⟩|⟨rfl,⟨K2,S2,oY,O2⟩,hno⟩)⟩
  rotate_left
  ·refine Ext.two ?_
   refine aa.gA (Br.T ?_)
   refine ae.fn (.app .here) (nG oY (r:=r1) (by omega) fun h2=>by rw[O2.hold,g1.hold,if_pos ⟨rfl,h2⟩];omega) ?_
   rintro w C3 ⟨rfl,K3,ny,f3⟩
   refine bN.mk (Ug C3) ⟨C3,rfl,.inr ⟨rfl,⟨K3,S2,ny,Gt (by rw[f3.n,O2.n,g1.n]) (by rw[f3.cap,O2.cap,g1.cap]) (fun s=>?_) (fun s hs=>?_)⟩,fun hfit=>hno (Fits.mono (fun g hg=>?_) (by rw[g1.cap];exact hfit))⟩⟩
   ·rw[f3.hold,O2.hold,g1.hold];split<;>omega
   ·rw[O2.fn s (by rw[g1.hold];omega),g1.fn s (JX s hs)]
   ·rw[g1.n,wj]at hg
    rw[wj];exact Qp g hg
  refine Ext.two ?_
  refine aa.gA (Br.F ?_)
  have l1:live K2.N r1:=by
   by_cases h2:r1<2
   ·exact .inl h2
   ·refine .inr (oY.ok.mid.held r1 ?_)
    have a:=g1.hold r1
    have b:=g2.hold r1
    rw[if_pos ⟨rfl,by omega⟩]at a
    omega
  have l2:=g2.live
  have e1:S2 r1=dK n (af.c6 n t (ord.getD i 0) false):=(g2.fn r1 g1.live).trans g1.is
  have e2:S2 r2=dK n (af.c6 n t (ord.getD i 0) true):=g2.is
  have hne:r1≠r2:=fun e=>by
   subst e
   rw[e1,gW hf gL,gW hf gL]at e2
   obtain⟨x,hx⟩:=Ly
   exact hx (congrFun e2 x)
  have n2:K2.n=n:=by rw[g2.n,g1.n,wj]
  have Rn:lv ak (ord.getD i 0)=i:=U8.2
  have b1':=oY.ok.below oY.od (l:=i+1) l1 (by omega) (by rw[e1];exact i1)
  have b2':=oY.ok.below oY.od (l:=i+1) l2 (by omega) (by rw[e2];exact i2)
  have PV:ite S2 ⟨ord.getD i 0,r1,r2⟩=dK n t:=by
   funext x
   unfold aT.ite
   rw[e1,e2,gW hf gL,gW hf gL]
   conv=>rhs;rw[←af.kH x (ord.getD i 0)]
   simp only
   cases x.testBit (ord.getD i 0)<;>rfl
  have PY:∀s,K2.hold s≤K.hold s+1:=fun s=>by
   have a:=g1.hold s
   have b:=g2.hold s
   by_cases c1:s=r1∧2≤r1
   ·rw[if_neg (fun c2=>hne (c1.1.symm.trans c2.1))]at b
    rw[if_pos c1]at a;omega
   ·rw[if_neg c1]at a;split at b<;>omega
  have Tn:∀s,K1.hold s≠0→live K1.N s:=fun s hs=>.inr (qO.ok.mid.held s hs)
  refine ae.fn (.app .here) (Jv oY (v:=ord.getD i 0) (by omega) l1 l2 (.inr ⟨by rw[Rn];omega,by rw[Rn];omega⟩)) ?_
  rintro w C3 (⟨r,K3,S3,rfl,ny,m⟩|⟨r,rfl,rfl,hl,h2,hfull,_⟩|⟨rfl,rfl,Ni,_,hT⟩)
  rotate_left
  ·have:=PY r;have:=hB r;omega
  ·have S8:=oY.eI l1
   have S7:=oY.eI l2
   refine Ext.two ?_
   refine ae.fn (.app .here) (nG oY (r:=r1) (by omega) (fun h2=>by have a:=g2.hold r1;rw[if_neg (fun h=>hne h.1)]at a;rw[a,g1.hold,if_pos ⟨rfl,h2⟩];omega)) ?_
   rintro w C4 ⟨rfl,K4,NA,f4⟩
   refine ae.fn (.app .here) (nG NA (r:=r2) (by omega) (fun h2=>by rw[f4.hold,if_neg (fun h=>hne h.1.symm),g2.hold,if_pos ⟨rfl,h2⟩];omega)) ?_
   rintro w C5 ⟨rfl,K5,E8,f5⟩
   refine bN.mk (Ug C5) ⟨C5,rfl,.inr ⟨rfl,⟨K5,S2,E8,Gt (by rw[f5.n,f4.n,g2.n,g1.n]) (by rw[f5.cap,f4.cap,g2.cap,g1.cap]) (fun s=>?_) (fun s hs=>?_)⟩,fun⟨ku,hU,hfit⟩=>?_⟩⟩
   ·rw[f5.hold,f4.hold,g2.hold,g1.hold]
    by_cases c1:s=r1∧2≤r1
    ·have c2:¬(s=r2∧2≤r2):=fun c2=>hne (c1.1.symm.trans c2.1)
     rw[if_neg c2,if_pos c1,if_pos c1,if_neg c2];omega
    ·rw[if_neg c1,if_neg c1]
     split<;>omega
   ·rw[g2.fn s (iy g1.N (JX s hs)),g1.fn s (JX s hs)]
   ·rw[wj]at hU
    have TV:∀g,bq n ord (K2.held S2) g→bq n ord (fun g=>K.held S g∨g=dK n t) g:=fun g hg=>by
     rcases(cZ g).1 (kM (g2.held Tn) hg)with h|h
     ·exact Qp g ((cZ g).2 (.inl h))
     ·exact(cZ g).2 (.inr (OJ g h))
    have:=oY.ok.roomFor oY.od hU (by rw[g2.cap,g1.cap];exact hfit) (by rw[n2];exact TV) (d:=⟨ord.getD i 0,r1,r2⟩) l1 l2 hne (by rw[n2];exact gL) ⟨by show lv ak (ord.getD i 0)<dep K2.n (lv ak) K2.N r1;rw[Rn];omega,by show lv ak (ord.getD i 0)<dep K2.n (lv ak) K2.N r2;rw[Rn];omega⟩ (by rw[PV];exact(cZ _).2 (.inr (CX v8 hin Ly))) hT
    omega
  refine Ext.two ?_
  have S8:=oY.eI l1
  have S7:=oY.eI l2
  have GP:∀s,K2.hold s=K.hold s+(if s=r1∧2≤r1 then 1 else 0)+(if s=r2∧2≤r2 then 1 else 0):=fun s=>by rw[g2.hold,g1.hold]
  have Lq:∀s,K2.hold s≤K3.hold s:=fun s=>by rw[m.hold];split<;>omega
  refine ae.fn (.app .here) (nG ny (r:=r1) (by omega) (fun h2=>by have:=Lq r1;have:=GP r1;rw[if_pos ⟨rfl,h2⟩]at this;omega)) ?_
  rintro w C4 ⟨rfl,K4,NA,f4⟩
  refine ae.fn (.app .here) (nG NA (r:=r2) (by omega) (fun h2=>by
   have:=Lq r2;have:=GP r2;have h4:=f4.hold r2
   rw[if_neg (fun h=>hne h.1.symm)]at h4
   rw[if_neg (fun h=>hne h.1.symm),if_pos ⟨rfl,h2⟩]at this;omega)) ?_
  rintro w C5 ⟨rfl,K5,E8,f5⟩
  have GO:∀s,K5.hold s=K.hold s+if s=r∧2≤r then 1 else 0:=fun s=>by
   rw[f5.hold,f4.hold,m.hold,GP]
   by_cases c1:s=r1∧2≤r1
   ·have c2:¬(s=r2∧2≤r2):=fun c2=>hne (c1.1.symm.trans c2.1)
    rw[if_neg c2,if_pos c1,if_neg c2]
    split<;>omega
   ·by_cases c2:s=r2∧2≤r2
    ·rw[if_pos c2,if_neg c1,if_neg c1]
     split<;>omega
    ·rw[if_neg c2,if_neg c1,if_neg c1,if_neg c2]
     split<;>omega
  have l5:live K5.N r:=by
   by_cases h2:r<2
   ·exact .inl h2
   ·refine .inr (E8.ok.mid.held r ?_)
    rw[GO,if_pos ⟨rfl,by omega⟩];omega
  refine bN.mk (Ug C5) ⟨C5,rfl,.inl ⟨r,K5,S3,rfl,E8,by rw[f5.n,f4.n,m.n,g2.n,g1.n],by rw[f5.cap,f4.cap,m.cap,g2.cap,g1.cap],fun s d hs=>yh hK.ok E8.ok (fun s h=>by rw[GO];omega) (fun s d d' h h'=>?_) _ s d hs (Nat.le_refl _),fun s hs=>?_,l5,by rw[m.is,PV],GO⟩⟩
  ·have a:=m.N s d (g2.N s d (g1.N s d h))
   have b:=f4.N s d' (f5.N s d' h')
   rw[a]at b;exact(Option.some.inj b).symm
  ·have q1:=iy g1.N hs
   have q2:=iy g2.N q1
   rw[m.fn s q2,g2.fn s q1,g1.fn s hs]
end
end Go.Proofs
set_option maxRecDepth 100000
namespace Go.Proofs
open Go Go.Sx
open aT
section
variable {kp:Nat} {K:Kd} {ord ak tr:List Nat} {C:Hp} {S:Nat→aT.Fn}
theorem Gl(h:gM kp K S ord ak tr C)(x:Nat):∀(k r:Nat),K.n-dep K.n (lv ak) K.N r≤k→live K.N r→S r (x%2^K.n)=S r x:=by
 have kT:=h.ok.mid.int
 intro k
 induction k with
 |zero=>
  intro r hk hr
  rcases hr with hr|⟨d,hN⟩
  ·obtain rfl|rfl:r=0∨r=1:=by omega
   ·rw[kT.zero,kT.zero]
   ·rw[kT.one,kT.one]
  ·have:=h.ok.lv.lt _ (h.ok.mid.var hN)
   rw[aE hN]at hk;omega
 |succ k ih=>
  intro r hk hr
  rcases hr with hr|⟨d,hN⟩
  ·obtain rfl|rfl:r=0∨r=1:=by omega
   ·rw[kT.zero,kT.zero]
   ·rw[kT.one,kT.one]
  ·have hv:=h.ok.mid.var hN
   have h1:=h.ok.wf.lo hN
   have h2:=h.ok.wf.hi hN
   rw[aE hN]at hk
   rw[kT.node hN,kT.node hN,Nat.testBit_mod_two_pow,decide_eq_true hv,Bool.true_and,ih _ (by omega) h1.1,ih _ (by omega) h2.1]
theorem sJ(h:gM kp K S ord ak tr C)(hn:K.n≤16){r:Nat}(hr:live K.N r)(X:Hp):
  Px Tryz.prog 35 #[ptr kp,.int .i64 (K.n:Int),u32 r] (X++C) (fun v H=>∃s ws,v=.tuple #[s,.bool true]∧ig H s ⟨K.n,ws⟩∧af.bJ K.n ws∧dK K.n ws=S r):=by
 have hp:2^K.n≤65536:=Nat.pow_le_pow_right (n:=2) (by decide) hn
 have kT:=h.ok.mid.int
 refine aX fun g=>EH ?_
 intro b1 _
 refine aa.n7 (a:=1) (by simp[IntKind.bits];omega) (by rw[Nat.one_shiftLeft];simp[aW];omega) ?_
 rw[Nat.one_shiftLeft]
 refine bD.nM (by omega) fun b2=>?_
 rw[K6 (F:=S r)]
 refine az.mk ?_
 refine⟨fun vs H=>∃k:Nat,vs=[.int .i64 (k:Int)]∧k≤2^K.n∧H=(b1,.cells #[.int .i64 0,.slice none 0 0] 57 (0,0))::(b2,.cells (cr ((List.range (2^K.n)).map fun j=>if j<k then S r j else false)) 4 (0,0))::(X++C),
  fun vs _=>2^K.n-aV vs 0,JE.of .swap ⟨0,rfl,Nat.zero_le _,rfl⟩,?_⟩
 rintro Oz H ⟨k,⟨⟩,hk,rfl⟩ gs
 refine aa.dn (Br.dec (fun hlt=>?_) (fun hlt=>?_))
 ·refine⟨fun vs H=>∃(i q:Nat),vs=[u32 q,.int .i64 (i:Int)]∧H=(b1,.cells #[.int .i64 0,.slice none 0 0] 57 (0,0))::(b2,.cells (cr ((List.range (2^K.n)).map fun j=>if j<k then S r j else false)) 4 (0,0))::(X++C)∧live K.N q∧i≤dep K.n (lv ak) K.N q∧S q k=S r k,fun vs _=>K.n+1-aV vs 1,JE.mk ⟨0,r,rfl,rfl,hr,Nat.zero_le _,rfl⟩,?_⟩
  rintro Wk Wj H ⟨i,q,⟨⟩,rfl,hq,hi,he⟩ gs
  have XP:=h.ok.wf.gH h.ok.lv q
  have Xl:=h.eI hq
  refine aa.nU (b:=0) ?_
  refine dI.and (decide (q≠1)) (fun _=>aa.nU (b:=1) ⟨rfl,rfl⟩) rfl fun gs=>?_
  rw[←Bool.decide_and]
  refine Br.dec (fun h2=>?_) (fun h2=>?_)
  ·intro J hJ
   obtain⟨d,hN⟩:∃d,K.N q=some d:=by
    rcases hq with hq|hq
    ·omega
    ·exact hq
   have BY:=h.ok.mid.var hN
   have hlo:=h.ok.wf.lo hN
   have hhi:=h.ok.wf.hi hN
   rw[aE hN]at hi
   refine ae.eh (.cons (.cons (.app .here))) (qB h.rep (by omega)) ?_
   rw[cm.2 hq,iD hN (by omega)]
   refine Ext.two ?_
   intro V0 _
   refine St.p (F9 d) ?_
   have Ve:=h.ok.lv.lt _ BY
   refine aa.gA ?_
   refine dI.or false (fun _=>aa.gtr ⟨rfl,by rw[decide_eq_false (by omega)]⟩) rfl fun gs=>?_
   refine dI.or false (fun _=>Ld.f (v:=.int .i64 (d.v:Int)) (aa.lss ⟨rfl,by rw[decide_eq_false (by omega)]⟩)) rfl fun gs=>?_
   refine dI.or false (fun _=>Ld.f (v:=.int .i64 (d.v:Int)) (aa.geq ⟨rfl,by rw[decide_eq_false (by omega)]⟩)) rfl fun gs=>Br.no ?_
   refine Ld.f (v:=u32 d.lo) ?_
   refine Ld.f (v:=.int .i64 (d.v:Int)) ?_
   refine aa.gN (by simp[aW];omega) (aa.Dj (b:=2) (by decide) (aa.jC (b:=1) ?_))
   rw[B9]
   have Lr:=kT.node hN k
   have fin:∀q',live K.N q'→lv ak d.v<dep K.n (lv ak) K.N q'→S q' k=S q k→J [u32 q'] ((V0,.cells (bg d).toArray 161 (0,0))::(b1,.cells #[.int .i64 0,.slice none 0 0] 57 (0,0))::(b2,.cells (cr ((List.range (2^K.n)).map fun j=>if j<k then S r j else false)) 4 (0,0))::(X++C)):=fun q' hl hd he'=>hJ _ _ fun gs=>by
    refine aa.inc ?_
    exact aq.of .tail ⟨i+1,q',rfl,rfl,hl,by omega,he'.trans he⟩ (by simp only[aV];omega)
   refine Br.mk (fun hb=>?_) (fun hb=>?_)
   ·refine Ld.f (v:=u32 d.hi) ?_
    exact JE.mk (fin d.hi hhi.1 hhi.2 (by rw[Lr,hb];rfl))
   ·exact JE.mk (fin d.lo hlo.1 hlo.2 (by rw[Lr,hb];rfl))
  ·have Ou:q=0∨q=1:=by omega
   refine aa.jC (b:=1) ?_
   have hv:decide (q=1)=S r k:=by
    rw[←he]
    rcases Ou with rfl|rfl
    ·rw[kT.zero];rfl
    ·rw[kT.one];rfl
   rw[hv]
   refine aj.nat hlt ?_
   refine St.nM (l:=(List.range (2^K.n)).map fun j=>if j<k then S r j else false) (by exact .tail (.head _)) (by simpa using hlt) ?_
   rw[OP (F:=S r) hlt]
   refine aa.inc ?_
   exact aq.mk ⟨k+1,rfl,by omega,rfl⟩ (by simp[aV];omega)
 ·obtain rfl:k=2^K.n:=by omega
  rw[K8 (F:=S r)]
  have hlen:((List.range (2^K.n)).map (S r)).length=2^K.n:=by simp
  have hB:=kB.block (b:=b2) (cap:=2^K.n) (l:=(List.range (2^K.n)).map (S r)) (T:=4) (fz:=(0,0)) (B:=(b2,.cells (cr ((List.range (2^K.n)).map (S r))) 4 (0,0))::(X++C)) (.head _) (by omega)
  rw[hlen]at hB
  refine ae.pq (uC hn hB (by rw[hlen];exact gk) (by rw[hlen];exact gk)) ?_
  rintro v N ⟨s,rfl,hw⟩
  have hone:=av hw
  refine St.p (by simpa[Value.oneCell']using hone) ?_
  refine ax.q ?_
  refine js.mk (by repeat (first|exact aH.refl _|apply aH.cons|apply aH.app)) ⟨_,_,rfl,⟨s,rfl,hw.mono zS⟩,wE hn hlen,?_⟩
  funext x
  have hx:x%2^K.n<2^K.n:=Nat.mod_lt _ (Nat.two_pow_pos _)
  show af.bit _ (x%2^K.n)=_
  rw[wF (x%2^K.n) hx,List.getD_eq_getElem?_getD,List.getElem?_map,List.getElem?_range hx]
  show S r (x%2^K.n)=S r x
  exact Gl h x _ r (Nat.le_refl _) hr
end
end Go.Proofs
namespace aT
open af
structure uT(K:Kd)(S:Nat→Fn)(held:List (List Nat×Nat)):Prop where
 nd:(held.map Prod.fst).Nodup
 jy:∀e∈held,bJ K.n e.1
 rt:∀r,K.hold r≠0→∃e∈held,dK K.n e.1=S r∧e.2=K.hold r
 lf:∀e∈held,∃r,2≤r∧K.hold r=e.2∧e.2≠0∧S r=dK K.n e.1
section
variable {K:Kd} {S:Nat→Fn} {ak:Nat→Nat} {ord:List Nat} {held:List (List Nat×Nat)}
theorem uT.iff(h:uT K S held)(g:Fn):K.held S g↔FT K.n (held.map Prod.fst) g:=by
 constructor
 ·rintro⟨r,hr,rfl⟩
  obtain⟨e,he,h1,_⟩:=h.rt r hr
  exact⟨e.1,List.mem_map.2 ⟨e,he,rfl⟩,h1.symm⟩
 ·rintro⟨t,ht,rfl⟩
  obtain⟨e,he,rfl⟩:=List.mem_map.1 ht
  obtain⟨r,_,h1,h2,h3⟩:=h.lf e he
  exact⟨r,fun h0=>h2 (by rw[←h1];exact h0),h3.symm⟩
theorem uT.yA(h:uT K S held):K.held S=FT K.n (held.map Prod.fst):=funext fun g=>propext (h.iff g)
theorem uT.none(hn:∀r,K.hold r=0):uT K S []:=⟨by simp,by simp,fun r h=>absurd (hn r) h,by simp⟩
theorem uT.same{K':Kd}{S':Nat→Fn}(h:uT K S held)(hn:K'.n=K.n)(hh:∀r,K'.hold r=K.hold r)(hs:∀r,K.hold r≠0→S' r=S r):uT K' S' held:=by
 refine⟨h.nd,by rw[hn];exact h.jy,fun r hr=>?_,fun e he=>?_⟩
 ·rw[hh]at hr
  obtain⟨e,he,h1,h2⟩:=h.rt r hr
  exact⟨e,he,by rw[hn,h1,hs r hr],by rw[h2,hh]⟩
 ·obtain⟨r,h0,h1,h2,h3⟩:=h.lf e he
  exact⟨r,h0,by rw[hh,h1],h2,by rw[hs r (by rw[h1];exact h2),hn,h3]⟩
end
end aT
set_option maxRecDepth 100000
namespace Go.Proofs
open Go Go.Sx
open aT
def wo(n c:Nat)(ord:List Nat):af.Fs→af.Fs→af.Fs
 |A,[]=>A
 |A,t::L=>wo n c ord (if 2+bF n ord (A++[t]) n≤c∧¬(t=bc n false∨t=bc n true)∧t∉A then A++[t]else A) L
theorem mH{n c:Nat}{ord:List Nat}{t:List Nat}:∀{L A:af.Fs},wo n c ord A (L++[t])=wo n c ord (wo n c ord A L) [t]
 | [],_=>rfl
 |_::L,_=>mH (L:=L)
theorem jk.frame{mp:Nat}{M:Md}{X H:Hp}(h:jk mp M X H)(Y:Hp):jk mp M (X++Y) (H++Y):=by
 obtain⟨vo,vh,vt,rs,CO,CH,CT,rfl,hO⟩:=h
 exact⟨vo,vh,vt,rs,CO,CH,CT,by simp,hO.ord,hO.sl,hO.each.mono fun _ _ h=>h.mono fun _ h=>List.mem_append_left _ h,hO.tr⟩
theorem uT.Uv{K K':Kd}{S S':Nat→aT.Fn}{ak eP:Nat→Nat}{held held':List (List Nat×Nat)}{t:List Nat}{r:Nat}(h:uT K S held)(hok:Ok K S ak)(qI:Ok K' S' eP)(hg:nS K S K' S' (dK K.n t) r)(hf:af.bJ K.n t)(h2:2≤r)(hb:Bn held t held'):uT K' S' held':=by
 have hlv:∀s,K.hold s≠0→live K.N s:=fun s hs=>.inr (hok.mid.held s hs)
 have hn:=hg.n
 have key:∀s,K.hold s≠0→S' s=dK K.n t→s=r:=fun s hs he=>qI.wf.same qI.lv qI.mid.int (iy hg.N (hlv s hs)) hg.live (congrFun (by rw[he,hg.is]))
 have hr:K'.hold r=K.hold r+1:=by rw[hg.hold,if_pos ⟨rfl,h2⟩]
 have ho:∀s,s≠r→K'.hold s=K.hold s:=fun s hs=>by rw[hg.hold,if_neg (fun e=>hs e.1),Nat.add_zero]
 rcases hb with⟨i,c,hi,hno,rfl⟩|⟨hno,rfl⟩
 ·have Oi:(t,c)∈held:=List.mem_of_getElem? hi
  have J4:=(List.getElem?_eq_some_iff.1 hi).1
  have heq:held[i]=(t,c):=(List.getElem?_eq_some_iff.1 hi).2
  have M8:(held.set i (t,c+1)).map Prod.fst=held.map Prod.fst:=by
   apply List.ext_getElem?
   intro j
   rw[List.getElem?_map,List.getElem?_map]
   by_cases e:i=j
   ·subst e;rw[List.getElem?_set_self J4,hi];rfl
   ·rw[List.getElem?_set_ne e]
  obtain⟨r0,Dy,h1,rV,h3⟩:=h.lf _ Oi
  have Pt:K.hold r0≠0:=by rw[h1];exact rV
  have e0:r0=r:=key r0 Pt (by rw[hg.fn r0 (hlv r0 Pt),h3])
  subst e0
  have hmem:∀e,e∈held.set i (t,c+1)→e=(t,c+1)∨(e∈held∧e.1≠t):=fun e he=>by
   obtain⟨j,hj,Lw⟩:=List.getElem_of_mem he
   have Lv:j<held.length:=by simpa using hj
   by_cases e':i=j
   ·subst e'
    left
    rw[←Lw,List.getElem_set_self]
   ·right
    rw[List.getElem_set_ne e']at Lw
    refine⟨by rw[←Lw];exact List.getElem_mem _,fun h5=>?_⟩
    have fT:=h.nd
    have:=(List.getElem_inj (i:=i) (j:=j) (h₀:=by simpa using J4) (h₁:=by simpa using Lv) fT).1 (by simp[heq,Lw,h5])
    exact e' this
  refine⟨by rw[M8];exact h.nd,fun e he=>?_,fun s hs=>?_,fun e he=>?_⟩
  ·rw[hn]
   rcases hmem e he with rfl|⟨h5,_⟩
   ·exact hf
   ·exact h.jy e h5
  ·by_cases e5:s=r0
   ·subst e5
    refine⟨(t,c+1),List.mem_iff_getElem?.2 ⟨i,List.getElem?_set_self J4⟩,by rw[hn,hg.is],?_⟩
    rw[hr,h1]
   ·rw[ho s e5]at hs
    obtain⟨e,he,h6,h7⟩:=h.rt s hs
    obtain⟨j,hj,Lw⟩:=List.getElem_of_mem he
    have hij:i≠j:=fun e'=>by
     subst e'
     rw[heq]at Lw;subst Lw
     exact e5 (key s hs (by rw[hg.fn s (hlv s hs),←h6]))
    refine⟨e,List.mem_iff_getElem?.2 ⟨j,by rw[List.getElem?_set_ne hij,List.getElem?_eq_getElem hj,Lw]⟩,by rw[hn,h6,hg.fn s (hlv s hs)],by rw[h7,ho s e5]⟩
  ·rcases hmem e he with rfl|⟨h5,h6⟩
   ·exact⟨r0,Dy,by rw[hr,h1],by simp,by rw[hg.is,hn]⟩
   ·obtain⟨s,g1,g2,g3,g4⟩:=h.lf e h5
    have g5:K.hold s≠0:=by rw[g2];exact g3
    have GG:s≠r0:=fun e'=>by
     subst e'
     rw[h3]at g4
     exact h6 (je (h.jy e h5) hf g4.symm)
    exact⟨s,g1,by rw[ho s GG,g2],g3,by rw[hg.fn s (hlv s g5),hn,g4]⟩
 ·have Dy:K.hold r=0:=by
   refine Classical.byContradiction fun h0=>?_
   obtain⟨e,he,h1,_⟩:=h.rt r h0
   apply hno
   refine List.mem_map.2 ⟨e,he,je (h.jy e he) hf ?_⟩
   rw[h1,←hg.fn r (hlv r h0),hg.is]
  refine⟨by rw[List.map_append];exact List.nodup_append.2 ⟨h.nd,by simp,fun a ha b hb' e=>by simp at hb';subst hb';subst e;exact hno ha⟩,fun e he=>?_,fun s hs=>?_,fun e he=>?_⟩
  ·rw[hn]
   rcases List.mem_append.1 he with he|he
   ·exact h.jy e he
   ·simp at he;subst he;exact hf
  ·by_cases e5:s=r
   ·subst e5
    exact⟨(t,1),by simp,by rw[hn,hg.is],by rw[hr,Dy]⟩
   ·rw[ho s e5]at hs
    obtain⟨e,he,h6,h7⟩:=h.rt s hs
    exact⟨e,by simp[he],by rw[hn,h6,hg.fn s (hlv s hs)],by rw[h7,ho s e5]⟩
  ·rcases List.mem_append.1 he with he|he
   ·obtain⟨s,g1,g2,g3,g4⟩:=h.lf e he
    have g5:K.hold s≠0:=by rw[g2];exact g3
    have GG:s≠r:=fun e'=>by subst e';exact g5 Dy
    exact⟨s,g1,by rw[ho s GG,g2],g3,by rw[hg.fn s (hlv s g5),hn,g4]⟩
   ·simp at he;subst he
    exact⟨r,h2,by rw[hr,Dy],by simp,by rw[hg.is,hn]⟩
theorem k6{held held':List (List Nat×Nat)}{t:List Nat}(hb:Bn held t held'):held'.map Prod.fst=(if t∉held.map Prod.fst then held.map Prod.fst++[t]else held.map Prod.fst)∧held'.length≤held.length+1∧(∀m,(∀e∈held,e.2≤m)→∀e∈held',e.2≤m+1):=by
 rcases hb with⟨i,c,hi,hno,rfl⟩|⟨hno,rfl⟩
 ·have Oi:(t,c)∈held:=List.mem_of_getElem? hi
  have J4:=(List.getElem?_eq_some_iff.1 hi).1
  refine⟨?_,by simp,fun m hm e he=>?_⟩
  ·rw[if_neg (fun h=>h (List.mem_map.2 ⟨_,Oi,rfl⟩))]
   apply List.ext_getElem?
   intro j
   rw[List.getElem?_map,List.getElem?_map]
   by_cases e:i=j
   ·subst e;rw[List.getElem?_set_self J4,hi];rfl
   ·rw[List.getElem?_set_ne e]
  ·rcases List.mem_or_eq_of_mem_set he with he|rfl
   ·have:=hm e he;omega
   ·have:=hm _ Oi;simp only at this⊢;omega
 ·refine⟨by rw[if_pos hno];simp,by simp,fun m hm e he=>?_⟩
  rcases List.mem_append.1 he with he|he
  ·have:=hm e he;omega
  ·simp at he;subst he;simp
end Go.Proofs
set_option maxRecDepth 100000
namespace Go.Proofs
open Go Go.Sx
open aT
theorem dj{n:Nat}{p:List Nat}(hp:p.Perm (List.range n)):p.length=n∧∀i,i<n→p.getD i 0<n:=by
 have h1:p.length=n:=by rw[hp.length_eq,List.length_range]
 refine⟨h1,fun i hi=>?_⟩
 have:p.getD i 0∈p:=by rw[List.getD_eq_getElem?_getD,List.getElem?_eq_getElem (show i<p.length by omega)];exact List.getElem_mem _
 exact List.mem_range.1 (hp.mem_iff.1 this)
theorem DA{mp:Nat}{M:Md}{X H:Hp}(h:jk mp M X H)(hM:M.nT){v:Value}{t:List Nat}(ht:ig X v ⟨M.n,t⟩)(hf:af.bJ M.n t)(hlt:∀e∈M.held,e.2<65535):
  Fc Tryz.prog 124 #[ptr mp,v] H (fun r H'=>r=.int .i64 0∧∃held',jk mp {M with held:=held'} X H'∧((t=bc M.n false∨t=bc M.n true)→held'=M.held)∧(¬(t=bc M.n false∨t=bc M.n true)→Bn M.held t held')):=by
 by_cases hc:t=bc M.n false∨t=bc M.n true
 ·refine(vZ (X:=X) (mp:=mp) hM (ht.mono h.sub) hf hc).mono ?_
  rintro v H ⟨rfl,rfl⟩
  exact⟨rfl,M.held,h,fun _=>rfl,fun h=>absurd hc h⟩
 ·refine(GQ h hM ht hf hc hlt).mono ?_
  rintro v H ⟨rfl,held',hb,hm⟩
  exact⟨rfl,held',hm,fun h=>absurd h hc,fun _=>hb⟩
structure KQ(n c:Nat)(ord ak:List Nat)(L:af.Fs)(Y:Hp)(i kp mp:Nat)(vr vt:Value)(K:Kd)(S:Nat→aT.Fn)(M:Md)(refs:List Nat)(ts:af.Fs)(HM C CR CS:Hp):Prop where
 ks:gM kp K S ord ak [] C
 kn:K.n=n
 kc:K.cap=c
 md:jk mp M Y HM
 mn:M.n=n
 mc:M.cap=c
 mo:M.ord=ord
 mt:M.tr=[]
 x5:uT K S M.held
 cnt:∀s,K.hold s≤i
 hl:M.held.length≤i
 ec:∀e∈M.held,e.2≤i
 tb:M.bK=wo n c ord [] (L.take i)
 rf:aK 77 .u32 vr (iw refs) CR
 tw:c9 57 vt (cU n ts) CS Y
 len:refs.length=ts.length
 rl:refs.length≤i
 each:∀(i:Nat) (r:Nat) (t:List Nat),refs[i]? =some r→ts[i]? =some t→af.bJ n t∧dK n t=S r∧((r<2∧S r=fun _=>decide (r=1))∨K.hold r≠0)
section
variable {n c:Nat} {ord:List Nat} {L:af.Fs} {Y:Hp}
theorem KQ.NG{ak:List Nat}{i kp mp:Nat}{vr vt:Value}{K:Kd}{S:Nat→aT.Fn}{M:Md}{refs:List Nat}{ts:af.Fs}{HM C CR CS:Hp}(h:KQ n c ord ak L Y i kp mp vr vt K S M refs ts HM C CR CS)(hn:n≤8)(hc:c≤1048576)(hp:ord.Perm (List.range n))(hi:i≤60000):M.nT:=by
 have ⟨h1,h2⟩:=dj hp
 have a:=h.hl
 refine⟨by rw[h.mn];omega,by rw[h.mc];exact hc,by rw[h.mo,h.mn];exact h1,by rw[h.mo,h.mn];exact h2,fun t ht=>?_,by omega,fun e he=>?_,by rw[h.mt];simp⟩
 ·obtain⟨e,he,rfl⟩:=List.mem_map.1 ht
  rw[h.mn,←h.kn];exact h.x5.jy e he
 ·have:=h.ec e he;omega
end
theorem iO.one{P:Program}{t e k:Nat}{z:Value}{r:List Value}{K:Mk→Prop}(h1:P.underlying t=some (.slice e))(h2:cN P e=some k)(h3:dM P e=some z)(hk:0<k∧k≤16777216)(hr:r.length=k)
 (h:K (.cells r.toArray e (0,0),fun b=>.slice (some ⟨b,0,none⟩) 1 1)):iO P t 1 [(0,.agg r.toArray)] K:=by
 obtain⟨cs,e',n,z',q1,q2,q3,q4,q5,q6⟩:=an.one (P:=P) (H:=[]) (K:=fun _ H'=>∃b,H'=[(b,Obj.cells r.toArray e (0,0))]) h1 h2 h3 hk hr (fun b=>⟨b,rfl⟩)
 refine⟨cs,e',n,z',q1,q2,q3,q4,q5,?_⟩
 obtain⟨b,hb⟩:=q6 0 (by simp)
 simp only[List.cons.injEq,Prod.mk.injEq,Obj.cells.injEq,and_true]at hb
 obtain⟨_,rfl,rfl⟩:=hb
 exact h
theorem D6{s:Value}{n:Int}{K:Mk→Prop}(h:K (.cells #[.int .i64 n,s] 57 (0,0),fun b=>.slice (some ⟨b,0,none⟩) 1 1)):
  iO Tryz.prog 28 1 [(0,.agg #[.int .i64 n,s])] K:=
 iO.one (r:=[.int .i64 n,s]) (e:=57) (k:=2) (z:=.agg #[.int .i64 0,.slice none 0 0]) (by kernel_rfl) (by kernel_rfl) (by kernel_rfl) (by decide) rfl h
section
variable {mp:Nat} {M:Md}
theorem D9{X H:Hp}(h:jk mp M X H)(hM:M.nT){v:Value}{t:List Nat}(ht:ig X v ⟨M.n,t⟩)(hf:af.bJ M.n t)(hlt:∀e∈M.held,e.2<65535):
  Fc Tryz.prog 84 #[ptr mp,v] H (fun r H'=>
   (2+bF M.n M.ord (M.bK++[t]) M.n≤M.cap∧r=.int .i64 0∧∃held',jk mp {M with held:=held',tr:=[]} X H'∧((t=bc M.n false∨t=bc M.n true)→held'=M.held)∧(¬(t=bc M.n false∨t=bc M.n true)→Bn M.held t held'))∨
   (¬2+bF M.n M.ord (M.bK++[t]) M.n≤M.cap∧r=.int .i64 9∧H'=H)):=by
 have Xh:=ht
 obtain⟨s,rfl,hw⟩:=ht
 have hone:=av hw
 refine aX fun g=>Ek ?_
 intro b1 _
 refine ax.q ?_
 refine ae.rq (GN (mp:=mp) (M:=M) h.rd hM (v:=.agg (List.toArray [.int .i64 (M.n:Int),s])) (t:=t) ⟨s,rfl,hw.mono h.sub⟩ hf) ?_
 intro v hv
 obtain⟨c,rfl,hc⟩:∃c:Nat,v=.int .i64 (c:Int)∧c<65535:=by
  rcases hv with⟨e,he,_,rfl⟩|⟨_,rfl⟩
  ·exact⟨_,rfl,hlt e he⟩
  ·exact⟨0,rfl,by decide⟩
 refine aa.mS (b:=65535) (Br.F ?_)
 refine ax.q ?_
 refine dw fun b8=>?_
 refine ae.eq (Gi (mp:=mp) (L:=[t]) (h.rd.mono fun _ h=>.tail _ (.tail _ h)) hM (bH.one (cap:=0) (t:=⟨(M.n:Int),t⟩) (.head _) (hw.mono fun _ hx=>.tail _ (.tail _ (h.sub _ hx)))) (fun u hu=>by simp at hu;subst hu;exact hf) (by simp)) ?_
 refine Un.not ?_
 by_cases hfit:2+bF M.n M.ord (M.bK++[t]) M.n≤M.cap
 rotate_left
 ·rw[decide_eq_false hfit]
  exact Br.yes (bN.mk (.skip .tail) (.inr ⟨hfit,rfl,rfl⟩))
 rw[decide_eq_true hfit]
 refine Br.no ?_
 refine ax.q ?_
 refine ae.fn (.cons (.cons .here)) (DA h hM Xh hf hlt) ?_
 rintro w H2 ⟨rfl,held',Yc,h1,h2⟩
 obtain⟨vo,vh,vt,rs,CO,CH,CT,rfl,hO⟩:=Yc
 refine Nil.ptr (ag.mk (St.one (c':=dQ {M with held:=held',tr:=[]} vo vh (.slice none 0 0)) (.tail (.tail (.head _))) rfl (by simp[dQ]) rfl ?_))
 exact bN.mk (.skip (.skip (.cons (.cV (.cV .right _) _)))) (.inl ⟨hfit,rfl,held',⟨vo,vh,.slice none 0 0,rs,CO,CH,[],rfl,hO.ord,hO.sl,hO.each,aK.nil⟩,h1,h2⟩)
abbrev fp(pp kp mp:Nat)(vr vt:Value):Nat×Obj:=(pp,.cells #[ptr kp,ptr mp,vr,vt] 68 (0,0))
section
variable {pp kp:Nat} {vr vt:Value} {K:Kd} {S:Nat→aT.Fn} {ord ak tr:List Nat} {refs:List Nat} {ts:af.Fs} {Y HM C CR CS:Hp}
set_option maxHeartbeats 1000000 in
theorem IY(hK:gM kp K S ord ak tr C)(hn:K.n≤16)(hM:Ec mp M HM)(Yb:M.n=K.n)(hr:aK 77 .u32 vr (iw refs) CR)(ht:c9 57 vt (cU K.n ts) CS Y)(hY:∀x∈Y,x∈HM)(hl:refs.length=ts.length)(aU:refs.length<65536)
 (he:∀(i:Nat) (r:Nat) (t:List Nat),refs[i]? =some r→ts[i]? =some t→af.bJ K.n t∧dK K.n t=S r∧live K.N r){r:Nat}{t:List Nat}(rT:live K.N r)(hf:af.bJ K.n t)(Pp:S r=dK K.n t){tv:Value}(Xf:ig Y tv ⟨K.n,t⟩):
  Fc Tryz.prog 85 #[ptr pp,u32 r,tv] (fp pp kp mp vr vt::(CR++(CS++(HM++C)))) (fun w H=>w=.bool true∧∃Fk Iu IM Fe,H=fp pp kp mp Fk Iu::(IM++(Fe++(HM++C)))∧aK 77 .u32 Fk (iw (refs++[r])) IM∧c9 57 Iu (cU K.n (ts++[t])) Fe Y):=by
 obtain⟨s,rfl,hw⟩:=Xf
 have hone:=av hw
 obtain⟨B0,B4⟩:∃B0:Hp,B0=fp pp kp mp vr vt::(CR++(CS++(HM++C))):=⟨_,rfl⟩
 have hc0:fp pp kp mp vr vt∈B0:=by rw[B4];exact .head _
 have VE:∀x∈HM,x∈B0:=fun x hx=>by rw[B4];exact .tail _ (List.mem_append_right _ (List.mem_append_right _ (List.mem_append_left _ hx)))
 have TS:∀x∈Y,x∈B0:=fun x hx=>VE _ (hY _ hx)
 have Xk:bL .u32 B0 vr (iw refs):=by rw[B4];exact hr.ints.mono fun _ h=>.tail _ (List.mem_append_left _ h)
 have Lj:bH B0 vt (cU K.n ts):=ht.p7 (fun x hx=>by rw[B4];exact .tail _ (List.mem_append_right _ (List.mem_append_left _ hx))) TS
 obtain⟨vo,vh,Iu,rs,hR⟩:=hM
 refine aX fun g=>Ej ?_
 intro b1 _
 refine DR.self ?_
 refine Ld.v (.tail _ (by rw[←B4];exact hc0)) ?_
 refine Ld.v (.tail _ (by rw[←B4];exact hc0)) ?_
 refine Ld.v (c:=dQ M vo vh Iu) (v:=.int .i64 (M.n:Int)) (.tail _ (by rw[←B4];exact VE _ hR.HS)) ?_
 rw[Yb]
 intro F13
 rw[←B4]
 obtain⟨A0,LY⟩:∃A0:Hp,B0=A0++C:=⟨fp pp kp mp vr vt::(CR++(CS++HM)),by rw[B4];simp⟩
 refine ae.px (B:=A0++C) (by rw[LY];exact .cons .here) (sJ hK hn rT A0) ?_
 rintro w N ⟨s1,ws,rfl,⟨s1,rfl,gC⟩,PZ,RI⟩
 obtain rfl:ws=t:=je PZ hf (RI.trans Pp)
 rw[←LY]at gC⊢
 have vY:=av gC
 refine⟨.cons .right,?_⟩
 refine Ext.two ?_
 intro YI _ F20
 refine St.p (by simpa[Value.oneCell']using vY) ?_
 refine⟨.skip (.cons .right),?_⟩
 intro J22 QL
 refine Un.not (Split.go rfl ?_)
 refine ax.q ?_
 refine ax.whole (r:=[.int .i64 (K.n:Int),s]) (by exact .tail _ (.head _)) rfl ?_
 have yp:=df hf
 have Pe:Words ((YI,Obj.cells (List.toArray [.int .i64 (K.n:Int),s1]) 57 (0,0))::(b1,Obj.cells #[.int .i64 (K.n:Int),s] 57 (0,0))::(N++B0)) s1 ws:=gC.mono fun _ h=>.tail _ (.tail _ h)
 refine ae.eq (fY (v1:=.agg (List.toArray [.int .i64 (K.n:Int),s1])) (v2:=.agg (List.toArray [.int .i64 (K.n:Int),s])) (a:=⟨K.n,ws⟩) (b:=⟨K.n,ws⟩) ⟨s1,rfl,Pe⟩ ⟨s,rfl,hw.mono fun _ h=>.tail _ (.tail _ (List.mem_append_right _ (TS _ h)))⟩ (by show ws.length<_;omega)) ?_
 rw[decide_eq_true rfl]
 refine Un.not (ay.mk ?_)
 refine JE.of (H':=(b1,Obj.cells #[.int .i64 (K.n:Int),s] 57 (0,0))::B0) (.skip (.cons .right)) (QL _ _ fun gs=>Br.no ?_)
 clear QL Pe gC
 refine Ld.v (.tail _ hc0) ?_
 refine Lj.aM ?_
 rw[aI]
 refine⟨fun vs H=>∃i:Nat,vs=[.int .i64 (i:Int)]∧i≤ts.length∧H=(b1,Obj.cells #[.int .i64 (K.n:Int),s] 57 (0,0))::B0,fun vs _=>ts.length-aV vs 0,JE.mk ⟨0,rfl,Nat.zero_le _,rfl⟩,?_⟩
 rintro Wh H ⟨i,⟨⟩,hi,rfl⟩ gs
 refine aa.dn (Br.dec (fun hlt=>?_) (fun hge=>?_))
 ·have IA:ts[i]? =some ts[i]:=List.getElem?_eq_getElem hlt
  have qH:refs[i]? =some (refs[i]'(by omega)):=List.getElem?_eq_getElem _
  obtain⟨M9,Vo,Vg⟩:=he i _ _ qH IA
  generalize ts[i]=u at*
  generalize (refs[i]'(by omega):Nat)=q at*
  refine Lj.ld (iT IA) (fun _ h=>.tail _ h) fun s2 kR=>?_
  have vX:=av kR
  intro b38 _
  refine St.p (by simpa[Value.oneCell']using vX) ?_
  refine DR.self ?_
  refine ax.q ?_
  refine ax.whole (r:=[.int .i64 (K.n:Int),s]) (by exact .tail _ (.head _)) rfl ?_
  refine Ld.v (.tail _ (.tail _ hc0)) ?_
  refine Xk.ld (n:=((q:Nat):Int)) (bT qH) (fun _ h=>.tail _ (.tail _ h)) ?_
  refine aa.jC ?_
  intro F50
  have Xx:=df M9
  refine ae.eh .here (fY (v1:=.agg (List.toArray [.int .i64 (K.n:Int),s2])) (v2:=.agg (List.toArray [.int .i64 (K.n:Int),s])) (a:=⟨K.n,u⟩) (b:=⟨K.n,ws⟩) ⟨s2,rfl,kR.mono fun _ h=>.tail _ (.tail _ h)⟩ ⟨s,rfl,hw.mono fun _ h=>.tail _ (.tail _ (TS _ h))⟩ (by show u.length<_;omega)) ?_
  refine⟨.refl _,?_⟩
  have e:decide ((⟨(K.n:Int),u⟩:Tb)=⟨(K.n:Int),ws⟩)=decide (q=r):=by
   refine decide_eq_decide.2 ⟨fun h=>?_,fun h=>?_⟩
   ·have h2:u=ws:=by simpa using h
    subst h2
    exact hK.ok.wf.same hK.ok.lv hK.ok.mid.int Vg rT (congrFun (Vo.symm.trans Pp.symm))
   ·subst h
    rw[je M9 hf (Vo.trans Pp)]
  rw[e]
  refine aa.Mv ?_
  rw[show(!(decide (q=r)==decide (q=r)))=false by simp]
  refine Br.no ?_
  refine aa.inc ?_
  exact aq.of .tail ⟨i+1,rfl,hlt,rfl⟩ (by simp only[aV];omega)
 ·subst B4
  refine DR.of (R:=[(b1,Obj.cells #[.int .i64 (K.n:Int),s] 57 (0,0)),fp pp kp mp vr vt]) (.cons (.cons aJ.nil)) ?_
  refine Ld.n (Ld.n ?_)
  refine ax.whole (r:=[.int .i64 (K.n:Int),s]) (by exact .head _) rfl ?_
  refine D6 ?_
  intro Y9
  refine an.int (e:=77) (by kernel_rfl) (by kernel_rfl) (by kernel_rfl) fun yb=>?_
  refine⟨.skip (.cons (.cons aJ.nil)),?_⟩
  intro F67
  refine hr.nO (x:=(r:Int)) (.cons (.cons (.cons .left))) (by exact .head _) (by rw[ah];omega) (by rw[ah];omega) fun Rj Wg jY=>?_
  refine⟨.skip (.cons (.cons aJ.nil)),?_⟩
  intro YC _ F74
  refine c9.app ht (A:=(YC,_)::(yb,_)::(b1,_)::(pp,_)::Wg) (B:=HM++C) (t:=⟨(K.n:Int),ws⟩) (by exact .head _) hw (by rw[aI];omega) fun IN Zb EY=>?_
  have Sr:IN.oneCell'=true:=by obtain⟨rs,h1,_⟩:=EY;obtain⟨a,c,e⟩:=aN.len h1;rw[e];rfl
  refine Nil.ptr (ag.mk ?_)
  intro Y8
  refine St.one (c:=#[ptr kp,ptr mp,vr,vt]) (c':=#[ptr kp,ptr mp,Rj,vt]) (.tail (.tail (.tail (.head _)))) jY.one (by simp) rfl ?_
  refine Nil.ptr (ag.mk ?_)
  intro F85
  refine St.one (c:=#[ptr kp,ptr mp,Rj,vt]) (c':=#[ptr kp,ptr mp,Rj,IN]) (.tail (.tail (.tail (.head _)))) Sr (by simp) rfl ?_
  refine bN.mk (.skip (.skip (.skip (.refl _)))) ⟨rfl,Rj,IN,Wg,Zb,rfl,by rw[bY];exact jY,?_⟩
  unfold cU at EY⊢
  rw[List.map_append];exact EY
end
end
section
variable {kp:Nat} {K:Kd} {S:Nat→aT.Fn} {ord tr:List Nat} {C:Hp} {m:Rm} {Q:List Nat→Prop}
theorem Ic{held:List (List Nat×Nat)}(h:uT K S held)(hn:K.n≤16):aT.Alike (rm K S) (WC K.n K.cap (held.map Prod.fst)) (fun ord=>ord.Perm (List.range K.n)):=by
 have hf:∀t∈held.map Prod.fst,af.bJ K.n t:=fun t ht=>by
  obtain⟨e,he,rfl⟩:=List.mem_map.1 ht
  exact h.jy e he
 refine⟨rfl,fun ord hp=>?_,fun ord l hp hl=>?_,fun ord l hp hl=>?_⟩
 ·show fQ K S ord=_
  unfold fQ
  rw[h.yA]
  exact Bz hf hn (dj hp).2
 ·show decide (jw K S ord l)=decide _
  refine decide_eq_decide.2 ?_
  unfold jw
  rw[h.yA,Mg hf hn (dj hp).2 hl (dj hp).1]
 ·have hl':l+1<K.n:=hl
  exact(p8 (by rw[(dj hp).1];exact hl')).trans hp
end
theorem Cu{n c:Nat}(r:Nat):(K0 n c).hold r=0:=by simp[Kd.hold,K0]
section
variable {n c i kp mp:Nat} {ord ak:List Nat} {L:af.Fs} {Y HM C4 CR CS:Hp} {vr IN:Value} {K:Kd} {S:Nat→aT.Fn} {M:Md} {refs:List Nat} {ts:af.Fs}
section
variable {C:Hp} {tr:List Nat}
theorem tW{n:Nat}{ord:List Nat}{f:aT.Fn}(hf:∀v,¬fc f v)(g:aT.Fn):¬bq n ord (fun g=>g=f) g:=by
 rintro⟨l,hl,hg,hh⟩
 rw[pL (l:=n) (fun j _=>hf _) l (by omega) g hg]at hh
 exact hf _ hh
theorem nS.QO{K':Kd}{S':Nat→aT.Fn}{f:aT.Fn}{x:Nat}{KX:List Nat}{C':Hp}(h:nS K S K' S' f x)(hK:gM kp K S ord ak tr C)(qP:gM kp K' S' ord ak KX C'):Fits (bq K.n ord (fun g=>K.held S g∨g=f)) K.cap:=by
 have hc:=qP.ok.size qP.od
 have hr:=qP.ok.mid.room
 have h2:=qP.ok.mid.cap
 rw[h.n]at hc
 refine Fits.mono (fun g hg=>?_) ⟨K'.used-2,hc,by rw[←h.cap];omega⟩
 have old:∀g,K.held S g→K'.held S' g:=fun g ⟨s,hs,e⟩=>⟨s,by show K'.hold s≠0;have:K.hold s≠0:=hs;rw[h.hold];omega,by rw[h.fn s (.inr (hK.ok.mid.held s hs)),e]⟩
 by_cases h2:2≤x
 ·refine kM (fun g hg=>?_) hg
  rcases hg with hg|rfl
  ·exact old g hg
  ·exact⟨x,by show K'.hold x≠0;rw[h.hold,if_pos ⟨rfl,h2⟩];omega,h.is.symm⟩
 ·rcases(cZ g).1 hg with hg|hg
  ·exact kM old hg
  ·refine absurd hg (tW (fun v=>?_) g)
   rintro⟨y,hy⟩
   rw[←h.is]at hy
   have hi:=qP.ok.mid.int
   obtain rfl|rfl:x=0∨x=1:=by omega
   ·exact hy (by rw[hi.zero,hi.zero])
   ·exact hy (by rw[hi.one,hi.one])
end
theorem KQ.add(hY:KQ n c ord ak L Y i kp mp vr IN K S M refs ts HM C4 CR CS)(hn:n≤8){t:List Nat}(lP:L.take (i+1)=L.take i++[t])(E5:af.bJ n t){K3:Kd}{S3:Nat→aT.Fn}{C5 KR IM Fe:Hp}{r:Nat}(ny:gM kp K3 S3 ord ak [] C5)(hg:nS K S K3 S3 (dK n t) r)(hfit:2+bF n ord (M.bK++[t]) n≤c){held':List (List Nat×Nat)}
 (yF:jk mp {M with held:=held',tr:=[]} Y KR)(oq:(t=bc n false∨t=bc n true)→held'=M.held)(sj:¬(t=bc n false∨t=bc n true)→Bn M.held t held'){Fk Iu:Value}(MP:aK 77 .u32 Fk (iw (refs++[r])) IM)(JP:c9 57 Iu (cU n (ts++[t])) Fe Y):
  KQ n c ord ak L Y (i+1) kp mp Fk Iu K3 S3 {M with held:=held',tr:=[]} (refs++[r]) (ts++[t]) KR C5 IM Fe:=by
 have hlv:∀s,K.hold s≠0→live K.N s:=fun s hs=>.inr (hY.ks.ok.mid.held s hs)
 have hrc:(t=bc n false∨t=bc n true)↔r<2:=by
  have hint:=ny.ok.mid.int
  constructor
  ·intro jB
   have:∃q,q<2∧∀x,S3 r x=S3 q x:=by
    rcases jB with rfl|rfl
    ·exact⟨0,by omega,fun x=>by rw[hint.zero,hg.is,kV]⟩
    ·exact⟨1,by omega,fun x=>by rw[hint.one,hg.is,kV]⟩
   obtain⟨q,hq,he⟩:=this
   have:=ny.ok.wf.same ny.ok.lv hint hg.live (.inl hq) he
   omega
  ·intro hr
   have:r=0∨r=1:=by omega
   rcases this with rfl|rfl
   ·exact .inl ((lZ (by omega) E5 false).2 (by rw[←hg.is];exact funext hint.zero))
   ·exact .inr ((lZ (by omega) E5 true).2 (by rw[←hg.is];exact funext hint.one))
 have XI:nS K S K3 S3 (dK K.n t) r:=by rw[hY.kn];exact hg
 have PJ:uT K3 S3 held':=by
  by_cases jY:r<2
  ·rw[oq (hrc.2 jY)]
   exact hY.x5.same hg.n (fun s=>by rw[hg.hold,if_neg (by omega),Nat.add_zero]) (fun s hs=>hg.fn s (hlv s hs))
  ·exact uT.Uv hY.x5 hY.ks.ok ny.ok XI (by rw[hY.kn];exact E5) (by omega) (sj (fun h=>jY (hrc.1 h)))
 refine {ks:=ny,kn:=hg.n.trans hY.kn,kc:=hg.cap.trans hY.kc,md:=yF,mn:=hY.mn,mc:=hY.mc,mo:=hY.mo,mt:=rfl,x5:=PJ,cnt:=fun s=>?_,hl:=?_,ec:=?_,tb:=?_,rf:=MP,tw:=JP,len:=by simp[hY.len],rl:=by simp;exact hY.rl,each:=?_}
 ·have:=hY.cnt s
  rw[hg.hold];split<;>omega
 ·by_cases jY:r<2
  ·rw[show({M with held:=held',tr:=[]}:Md).held=held' from rfl,oq (hrc.2 jY)];exact Nat.le_succ_of_le hY.hl
  ·have:=(k6 (sj (fun h=>jY (hrc.1 h)))).2.1
   have:=hY.hl
   show held'.length≤i+1
   omega
 ·by_cases jY:r<2
  ·rw[show({M with held:=held',tr:=[]}:Md).held=held' from rfl,oq (hrc.2 jY)];exact fun e he=>Nat.le_succ_of_le (hY.ec e he)
  ·exact(k6 (sj (fun h=>jY (hrc.1 h)))).2.2 i hY.ec
 ·rw[lP,mH,←hY.tb]
  show held'.map Prod.fst=if _ then _ else _
  by_cases jY:r<2
  ·rw[oq (hrc.2 jY),if_neg (fun h=>h.2.1 (hrc.2 jY))];rfl
  ·rw[(k6 (sj (fun h=>jY (hrc.1 h)))).1]
   by_cases hin:t∈M.bK
   ·rw[if_neg (fun h=>h hin),if_neg (fun h=>h.2.2 hin)];rfl
   ·rw[if_pos (show t∉M.held.map Prod.fst from hin),if_pos ⟨hfit,fun h=>jY (hrc.1 h),hin⟩];rfl
 ·intro j q u hq hu
  by_cases e:j<refs.length
  ·rw[List.getElem?_append_left e]at hq
   rw[List.getElem?_append_left (by rw[←hY.len];exact e)]at hu
   obtain⟨q1,q2,q3⟩:=hY.each j q u hq hu
   have PN:live K.N q:=by
    rcases q3 with q3|q3
    ·exact .inl q3.1
    ·exact hlv q q3
   refine⟨q1,by rw[q2,hg.fn q PN],?_⟩
   rcases q3 with q3|q3
   ·exact .inl ⟨q3.1,by rw[hg.fn q PN];exact q3.2⟩
   ·right;rw[hg.hold];omega
  ·rw[List.getElem?_append_right (by omega)]at hq
   rw[List.getElem?_append_right (by rw[←hY.len];omega),←hY.len]at hu
   obtain⟨e1,rfl⟩:j-refs.length=0∧q=r:=by
    cases Vj:j-refs.length with
    |zero=>rw[Vj]at hq;simp at hq;exact⟨rfl,hq.symm⟩
    |succ m=>rw[Vj]at hq;simp at hq
   rw[e1]at hu
   simp at hu
   subst hu
   refine⟨E5,hg.is.symm,?_⟩
   by_cases jY:q<2
   ·left
    refine⟨jY,?_⟩
    have hint:=ny.ok.mid.int
    have:q=0∨q=1:=by omega
    rcases this with rfl|rfl
    ·exact funext hint.zero
    ·exact funext hint.one
   ·right;rw[hg.hold,if_pos ⟨rfl,by omega⟩];omega
theorem KQ.skip(hY:KQ n c ord ak L Y i kp mp vr IN K S M refs ts HM C4 CR CS){t:List Nat}(lP:L.take (i+1)=L.take i++[t]){K3:Kd}{S3:Nat→aT.Fn}{C5:Hp}(ny:gM kp K3 S3 ord ak [] C5)(hk:Kept K S K3 S3)(hfit:¬2+bF n ord (M.bK++[t]) n≤c):
  KQ n c ord ak L Y (i+1) kp mp vr IN K3 S3 M refs ts HM C5 CR CS:=by
 refine {hY with ks:=ny,kn:=hk.n.trans hY.kn,kc:=hk.cap.trans hY.kc,x5:=hY.x5.same hk.n hk.hold hk.fn,cnt:=fun s=>by rw[hk.hold];exact Nat.le_succ_of_le (hY.cnt s),hl:=Nat.le_succ_of_le hY.hl,ec:=fun e he=>Nat.le_succ_of_le (hY.ec e he),tb:=?_,rl:=Nat.le_succ_of_le hY.rl,each:=fun j q u hq hu=>?_}
 ·rw[lP,mH,←hY.tb]
  show M.bK=if _ then _ else _
  rw[if_neg (fun h=>hfit h.1)]
 ·obtain⟨q1,q2,q3⟩:=hY.each j q u hq hu
  rcases q3 with⟨q3,q4⟩|q3
  ·have hint:=ny.ok.mid.int
   have e:S3 q=fun _=>decide (q=1):=by
    obtain rfl|rfl:q=0∨q=1:=by omega
    ·exact funext hint.zero
    ·exact funext hint.one
   exact⟨q1,by rw[q2,q4,e],.inl ⟨q3,e⟩⟩
  ·exact⟨q1,by rw[q2,hk.fn q q3],.inr (by rw[hk.hold];exact q3)⟩
theorem NJ{n:Nat}{held held':List (List Nat×Nat)}{t:List Nat}{ts:af.Fs}(oq:(t=bc n false∨t=bc n true)→held'=held)(sj:¬(t=bc n false∨t=bc n true)→Bn held t held')(hin:∀e∈held,e.1∈ts):∀e∈held',e.1∈ts++[t]:=fun e he=>by
 by_cases h:t=bc n false∨t=bc n true
 ·rw[oq h]at he;exact List.mem_append_left _ (hin e he)
 ·have hm:e.1∈held'.map Prod.fst:=List.mem_map.2 ⟨e,he,rfl⟩
  rw[(k6 (sj h)).1]at hm
  have old:e.1∈held.map Prod.fst→e.1∈ts:=fun h=>by obtain⟨x,hx,ex⟩:=List.mem_map.1 h;rw[←ex];exact hin x hx
  split at hm
  ·rcases List.mem_append.1 hm with h|h
   ·exact List.mem_append_left _ (old h)
   ·exact List.mem_append_right _ h
  ·exact List.mem_append_left _ (old hm)
structure Sc(n c:Nat)(ord tr:List Nat)(Y:Hp)(kp mp:Nat)(vr vt:Value)(K:Kd)(S:Nat→aT.Fn)(M:Md)(refs:List Nat)(ts:af.Fs)(HM CR CS:Hp):Prop where
 kn:K.n=n
 kc:K.cap=c
 md:jk mp M Y HM
 mn:M.n=n
 mc:M.cap=c
 mo:M.ord=ord
 mt:M.tr=tr
 x5:uT K S M.held
 hl:M.held.length≤40
 ec:∀e∈M.held,e.2≤40
 rf:aK 77 .u32 vr (iw refs) CR
 tw:c9 57 vt (cU n ts) CS Y
 len:refs.length=ts.length
 rl:refs.length≤40
 each:∀(i:Nat) (r:Nat) (t:List Nat),refs[i]? =some r→ts[i]? =some t→af.bJ n t∧dK n t=S r∧((r<2∧S r=fun _=>decide (r=1))∨K.hold r≠0)
 hin:∀e∈M.held,e.1∈ts
section
variable {tr:List Nat}
theorem Sc.NG(h:Sc n c ord tr Y kp mp vr IN K S M refs ts HM CR CS)(hn:n≤8)(hc:c≤1048576)(hp:ord.Perm (List.range n))(pz:tr.length≤1099511627776):M.nT:=by
 have ⟨h1,h2⟩:=dj hp
 have a:=h.hl
 refine⟨by rw[h.mn];omega,by rw[h.mc];exact hc,by rw[h.mo,h.mn];exact h1,by rw[h.mo,h.mn];exact h2,fun t ht=>?_,by omega,fun e he=>?_,by rw[h.mt];exact pz⟩
 ·obtain⟨e,he,rfl⟩:=List.mem_map.1 ht
  rw[h.mn,←h.kn];exact h.x5.jy e he
 ·have:=h.ec e he;omega
theorem Sc.fit(h:Sc n c ord tr Y kp mp vr IN K S M refs ts HM CR CS)(hn:n≤8)(hp:ord.Perm (List.range n)){l:Nat}(hl:l+1<n):jw K S ord l↔2+(o9 M.n M.ord l M.bK).length≤M.cap:=by
 have IE:=Ic h.x5 (by rw[h.kn];omega)
 have:=IE.fit ord l (by rw[h.kn];exact hp) (by show l+1<K.n;rw[h.kn];exact hl)
 rw[←xO,this,h.mn,h.mo,h.mc,←h.kn,←h.kc]
 show decide _=true↔_
 rw[decide_eq_true_iff]
 unfold Md.bK
 omega
end
end
theorem DU{B:Hp}{mp:Nat}{M:Md}(h:Ec mp M B)(hn:M.n≤16){l:Int}(hl:¬(0≤l∧l+1<M.n)):Rd Tryz.prog 86 #[ptr mp,.int .i64 l] B (· =.int .i64 1):=by
 obtain⟨vo,vh,vt,rs,hR⟩:=h
 refine aX fun g=>oG ?_
 refine aa.lss ?_
 refine dI.or (decide ((M.n:Int) -2<l)) (fun _=>?_) rfl fun gs=>?_
 ·refine Ld.v (c:=dQ M vo vh vt) (v:=.int .i64 (M.n:Int)) hR.HS ?_
  exact aa.jm (c:=(M.n:Int) -2) rfl (by omega) (aa.gtr ⟨rfl,rfl⟩)
 ·rw[←Bool.decide_or]
  exact Br.yR (by omega) (bO.mk (.refl _) rfl)
theorem wY{kp:Nat}{K:Kd}{S:Nat→aT.Fn}{ord tr:List Nat}{C:Hp}(h:At kp K S ord tr C){l:Int}(hl:¬(0≤l∧l+1<K.n)):Rd Tryz.prog 17 #[ptr kp,.int .i64 l] C (· =.int .i64 1):=by
 obtain⟨K',S',eP,hK,hk⟩:=h
 exact HD hK (by rw[hk.n];exact hl)
section
variable {n c:Nat} {L:af.Fs} {Y:Hp} {vD:List Int}
set_option maxHeartbeats 2000000 in
theorem yZ{vl vv:Value}(hn:1≤n∧n≤8)(hc:2≤c∧c≤1048576)(hL:bH Y vl (cU n L))(hf:∀t∈L,af.bJ n t)(BV:L.length≤40)(hv:bL .i64 Y vv vD)(hvl:vD.length≤200):
  Fc Tryz.prog 31 #[.agg #[.int .i64 (n:Int),.int .i64 (c:Int),vl,vv]] Y (fun w H=>∃pp kp mp vr vt K S ord tr M refs ts HM CR CS C,w=.tuple #[ptr pp,.bool true]∧H=fp pp kp mp vr vt::(CR++(CS++(HM++C)))∧Sc n c ord tr Y kp mp vr vt K S M refs ts HM CR CS∧At kp K S ord tr C∧ord.Perm (List.range n)∧tr.length≤200):=by
 refine aX fun g=>EJ ?_
 intro b1 _
 refine Ld.f (Ld.f ?_)
 refine ae.fn (args:=#[.int .i64 (n:Int),.int .i64 (c:Int)]) hnew (Mu (n:=n) (cap:=c) (by omega) hc) ?_
 rintro w C0 ⟨kp,rfl,Yg⟩
 refine Ext.two ?_
 refine aa.gA ?_
 refine dI.or false (fun _=>aa.aB ⟨rfl,rfl⟩) rfl fun gs=>Br.no ?_
 refine Ld.f (Ld.f ?_)
 refine ae.fn (args:=#[.int .i64 (n:Int),.int .i64 (c:Int)]) hnew (vz (n:=n) (cap:=c) (by omega) hc.2) ?_
 rintro w H0 ⟨mp,rfl,LV⟩
 refine Build.mk (cs:=[ptr kp,ptr mp,.slice none 0 0,.slice none 0 0]) (by kernel_rfl) ?_
 intro pp _
 refine Ld.f ?_
 refine hL.aM ?_
 rw[aI]
 obtain⟨c1,yC⟩:∃c1:Nat×Obj,c1=(b1,Obj.cells #[.int .i64 (n:Int),.int .i64 (c:Int),vl,vv] 62 (0,0)):=⟨_,rfl⟩
 have hr:=List.Perm.refl (List.range n)
 refine⟨fun vs H=>∃(i:Nat) (vr vt:Value) (K:Kd) (S:Nat→aT.Fn) (M:Md) (refs:List Nat) (ts:af.Fs) (HM C CR CS:Hp),vs=[.int .i64 (i:Int)]∧i≤L.length∧H=c1::fp pp kp mp vr vt::(CR++(CS++(HM++C)))∧KQ n c (List.range n) (List.range n) L Y i kp mp vr vt K S M refs ts HM C CR CS∧(∀e∈M.held,e.1∈ts),
  fun vs _=>L.length-aV vs 0,JE.of (H':=c1::fp pp kp mp (.slice none 0 0) (.slice none 0 0)::([]++([]++((H0++Y)++C0)))) ?_ ⟨0,.slice none 0 0,.slice none 0 0,K0 n c,S0,⟨n,c,List.range n,[],[]⟩,[],[],H0++Y,C0,[],[],rfl,Nat.zero_le _,rfl,?_,by simp⟩,?_⟩
 ·subst yC
  refine .trans ?_ (.cons (.cons (.perm (List.Perm.refl _))))
  refine .perm ?_
  refine(List.Perm.cons _ (List.Perm.append_left H0 (List.perm_middle (l₁:=C0)))).trans ?_
  refine(List.Perm.cons _ List.perm_middle).trans ?_
  refine(List.Perm.swap _ _ _).trans (List.Perm.cons _ (List.Perm.cons _ ?_))
  show(H0++(C0++Y)).Perm ((H0++Y)++C0)
  rw[List.append_assoc]
  exact List.Perm.append_left _ List.perm_append_comm
 ·exact {ks:=Yg,kn:=rfl,kc:=rfl,md:=by simpa using LV.frame Y,mn:=rfl,mc:=rfl,mo:=rfl,mt:=rfl,x5:=uT.none Cu,cnt:=fun s=>by rw[Cu];exact Nat.zero_le _,hl:=Nat.zero_le _,ec:=by simp,tb:=rfl,rf:=aK.nil,tw:=c9.nil,len:=rfl,rl:=Nat.zero_le _,each:=by simp}
 rintro Zk H ⟨i,vr,vt,K,S,M,refs,ts,HM,C,CR,CS,⟨⟩,hi,rfl,hY,hin⟩ gs
 have tf:=hY.NG hn.2 hc.2 hr (by omega)
 refine aa.dn (Br.dec (fun hlt=>?_) (fun hge=>?_))
 ·have IA:L[i]? =some L[i]:=List.getElem?_eq_getElem hlt
  have E5:=hf L[i] (List.getElem_mem hlt)
  have lP:L.take (i+1)=L.take i++[L[i]]:=List.take_succ_eq_append_getElem hlt
  generalize L[i]=t at*
  have No:∀x∈Y,x∈c1::fp pp kp mp vr vt::(CR++(CS++(HM++C))):=fun x hx=>.tail _ (.tail _ (List.mem_append_right _ (List.mem_append_right _ (List.mem_append_left _ (hY.md.sub _ hx)))))
  refine hL.ld (iT IA) No fun s hw=>?_
  have hone:=av hw
  have SP:ig Y (.agg (List.toArray [.int .i64 (n:Int),s])) ⟨n,t⟩:=⟨s,rfl,hw⟩
  intro b35 _
  refine St.p (by simpa[Value.oneCell']using hone) ?_
  refine ax.q ?_
  refine ae.fn (C:=HM++C) (args:=#[ptr kp,.agg (List.toArray [.int .i64 (n:Int),s]),.int .i64 ((0:Nat):Int)]) (.cons (.cons (.cons (.app (.app .here))))) (FI (by omega) (n+1) 0 K S C HM _ t (by omega) (by omega) hY.kn hY.ks (SP.mono hY.md.sub) E5 (fun j hj=>absurd hj (Nat.not_lt_zero _)) (fun s=>by have:=hY.cnt s;omega)) ?_
  rintro w H ⟨C5,rfl,hmk⟩
  have LB:Fits (bq K.n (List.range n) (fun g=>K.held S g∨g=dK n t)) K.cap↔2+bF n (List.range n) (M.bK++[t]) n≤c:=by
   have hfr:∀u∈M.bK++[t],af.bJ n u:=fun u hu=>by
    rcases List.mem_append.1 hu with hu|hu
    ·have:=tf.jy u hu;rwa [hY.mn]at this
    ·simp at hu;subst hu;exact E5
   have hU:=uG (n:=n) (ord:=List.range n) (L:=M.bK++[t]) hfr (by omega) (dj hr).2
   have e:(fun g=>K.held S g∨g=dK n t)=FT n (M.bK++[t]):=funext fun g=>propext<|by
    rw[hY.x5.iff g,hY.kn]
    constructor
    ·rintro(⟨u,hu,e⟩|rfl)
     ·exact⟨u,List.mem_append_left _ hu,e⟩
     ·exact⟨t,by simp,rfl⟩
    ·rintro⟨u,hu,e⟩
     rcases List.mem_append.1 hu with hu|hu
     ·exact .inl ⟨u,hu,e⟩
     ·rw[List.mem_singleton.1 hu]at e;exact .inr e
   rw[e,hY.kn,hY.kc]
   constructor
   ·rintro⟨ku,h1,h2⟩;rw[hU.uniq h1];omega
   ·intro h2;exact⟨_,hU,by omega⟩
  obtain⟨r,e,K3,S3,rfl,ny,LH⟩:∃(r e:Nat) (K3:Kd) (S3:Nat→aT.Fn),w=.tuple #[u32 r,.int .i64 (e:Int)]∧gM kp K3 S3 (List.range n) (List.range n) [] C5∧((e=0∧nS K S K3 S3 (dK n t) r∧2+bF n (List.range n) (M.bK++[t]) n≤c)∨(e=9∧Kept K S K3 S3∧¬2+bF n (List.range n) (M.bK++[t]) n≤c)):=by
   rcases hmk with⟨r,K3,S3,rfl,ny,hg⟩|⟨rfl,⟨K3,S3,ny,hk⟩,hno⟩
   ·exact⟨r,0,K3,S3,rfl,ny,.inl ⟨rfl,hg,LB.1 (hg.QO hY.ks ny)⟩⟩
   ·exact⟨0,9,K3,S3,rfl,ny,.inr ⟨rfl,hk,fun h=>hno (LB.2 h)⟩⟩
  refine Ext.two ?_
  refine DR.self ?_
  refine Ld.n ?_
  refine ax.q ?_
  intro F48
  refine ae.fn (.cons (.cons (.cons (.app (.app .left))))) (D9 hY.md tf (by rw[hY.mn];exact SP) (by rw[hY.mn];exact E5) (fun e he=>by have:=hY.ec e he;omega)) ?_
  rintro w KR (⟨hfit,rfl,held',yF,oq,sj⟩|⟨hfit,rfl,rfl⟩)
  ·rw[hY.mn,hY.mc,hY.mo]at hfit
   rw[hY.mn]at oq sj
   rcases LH with⟨rfl,hg,_⟩|⟨_,_,h⟩
   rotate_left
   ·exact absurd hfit h
   refine aa.j5 (aa.j5 (aa.Mv (Br.no ?_)))
   intro YT Uj
   refine aa.j5 (Split.go rfl ?_)
   refine ax.q ?_
   have hlv:∀s,K.hold s≠0→live K.N s:=fun s hs=>.inr (hY.ks.ok.mid.held s hs)
   refine ae.fn (.cons (.cons .here)) (IY (pp:=pp) (mp:=mp) (M:={M with held:=held',tr:=[]}) (Y:=Y) (HM:=KR) ny (by rw[hg.n,hY.kn];omega) yF.rd (by rw[hg.n,hY.kn];exact hY.mn) hY.rf (by rw[hg.n,hY.kn];exact hY.tw) yF.sub hY.len (by have:=hY.rl;omega) (fun j q u hq hu=>?_) hg.live (by rw[hg.n,hY.kn];exact E5) (by rw[hg.n,hY.kn];exact hg.is) (by rw[hg.n,hY.kn];exact SP)) ?_
   ·obtain⟨q1,q2,q3⟩:=hY.each j q u hq hu
    have PN:live K.N q:=q3.elim (fun q3=>.inl q3.1) (hlv q)
    rw[hg.n,hY.kn]
    exact⟨q1,by rw[q2,hg.fn q PN],iy hg.N PN⟩
   rintro w H ⟨rfl,Fk,Iu,IM,Fe,rfl,MP,JP⟩
   rw[hg.n,hY.kn]at JP
   refine Un.not (ay.mk ?_)
   refine JE.mk (Uj _ _ fun gs=>Br.no ?_)
   refine aa.inc ?_
   exact aq.of (H':=c1::fp pp kp mp Fk Iu::(IM++(Fe++(KR++C5)))) .tail ⟨i+1,Fk,Iu,K3,S3,_,refs++[r],ts++[t],KR,C5,IM,Fe,rfl,hlt,rfl,hY.add hn.2 lP E5 ny hg hfit yF oq sj MP JP,NJ oq sj hin⟩ (by simp only[aV];omega)
  ·rw[hY.mn,hY.mc,hY.mo]at hfit
   rcases LH with⟨_,_,h⟩|⟨rfl,hk,_⟩
   ·exact absurd h hfit
   refine aa.j5 (aa.j5 (aa.Mv (Br.no ?_)))
   intro YT Uj
   refine aa.j5 (Split.xU rfl (ay.mk ?_))
   refine JE.mk (Uj _ _ fun gs=>Br.no ?_)
   refine aa.inc ?_
   exact aq.of .tail ⟨i+1,vr,vt,K3,S3,M,refs,ts,KR,C5,CR,CS,rfl,hlt,rfl,hY.skip lP ny hk hfit,hin⟩ (by simp only[aV];omega)
 obtain rfl:i=L.length:=by omega
 subst yC
 refine Ld.f ?_
 have hsc:Sc n c (List.range n) [] Y kp mp vr vt K S M refs ts HM CR CS:={kn:=hY.kn,kc:=hY.kc,md:=hY.md,mn:=hY.mn,mc:=hY.mc,mo:=hY.mo,mt:=hY.mt,x5:=hY.x5,hl:=by have:=hY.hl;omega,ec:=fun e he=>by have:=hY.ec e he;omega,rf:=hY.rf,tw:=hY.tw,len:=hY.len,rl:=by have:=hY.rl;omega,each:=hY.each,hin:=hin}
 have LY:=hY.ks.aS
 refine hv.aM ?_
 refine⟨fun vs H=>∃(k:Nat) (ord tr:List Nat) (M:Md) (HM C:Hp),vs=[.int .i64 (k:Int)]∧k≤vD.length∧H=(b1,Obj.cells #[.int .i64 (n:Int),.int .i64 (c:Int),vl,vv] 62 (0,0))::fp pp kp mp vr vt::(CR++(CS++(HM++C)))∧Sc n c ord tr Y kp mp vr vt K S M refs ts HM CR CS∧At kp K S ord tr C∧ord.Perm (List.range n)∧tr.length≤k,
  fun vs _=>vD.length-aV vs 0,JE.mk ⟨0,List.range n,[],M,HM,C,rfl,Nat.zero_le _,rfl,hsc,LY,hr,Nat.le_refl _⟩,?_⟩
 clear hsc LY hY tf
 rintro Zg H ⟨k,ord,tr,M,HM,C,⟨⟩,hk,rfl,hsc,hA,hp,pz⟩ gs
 show aa .num .lss (.int .i64 (k:Int)) (.int .i64 ((vD.length:Nat):Int)) _
 refine aa.dn (Br.dec (fun hlt=>?_) (fun hge=>?_))
 rotate_left
 ·exact bN.mk .tail ⟨pp,kp,mp,vr,vt,K,S,ord,tr,M,refs,ts,HM,CR,CS,C,rfl,rfl,hsc,hA,hp,by omega⟩
 have tf:=hsc.NG hn.2 hc.2 hp (by omega)
 have No:∀x∈Y,x∈(b1,Obj.cells #[.int .i64 (n:Int),.int .i64 (c:Int),vl,vv] 62 (0,0))::fp pp kp mp vr vt::(CR++(CS++(HM++C))):=fun x hx=>.tail _ (.tail _ (List.mem_append_right _ (List.mem_append_right _ (List.mem_append_left _ (hsc.md.sub _ hx)))))
 refine hv.ld (List.getElem?_eq_getElem hlt) No ?_
 generalize vD[k]=l at*
 refine DR.of (R:=[fp pp kp mp vr vt]) (.skip (.cons aJ.nil)) ?_
 refine Ld.n ?_
 intro Y8
 by_cases hin:0≤l∧l+1<n
 ·obtain⟨m,rfl⟩:∃m:Nat,l=m:=⟨l.toNat,by omega⟩
  have hm:m+1<n:=by omega
  have M9:=hsc.fit hn.2 hp hm
  by_cases DG:jw K S ord m
  ·refine ae.fn (.cons (.cons (.app (.app (.app .here))))) (Cj hA (by rw[hsc.kn];exact hm) (by omega) DG) ?_
   rintro w C2 ⟨rfl,LX⟩
   refine⟨.skip (.cons aJ.nil),?_⟩
   intro Wd
   refine ae.fn (.cons (.cons (.app (.app .left)))) (HE hsc.md tf (by rw[hsc.mn];exact hm) (M9.1 DG)) ?_
   rintro w KR ⟨rfl,yF⟩
   refine aa.gA (Br.F ?_)
   refine aa.inc ?_
   exact aq.mk ⟨k+1,ew ord m,tr++[m],_,KR,C2,rfl,hlt,rfl,{hsc with md:=yF,mo:=by show ew M.ord m=_;rw[hsc.mo],mt:=by show M.tr++[m]=_;rw[hsc.mt]},LX,(p8 (by rw[(dj hp).1];exact hm)).trans hp,by simp;omega⟩ (by simp only[aV];omega)
  ·refine ae.eh (.cons (.cons (.app (.app (.app .here))))) (rB hA (by rw[hsc.kn];exact hm) (by omega) DG) ?_
   refine⟨.skip (.cons aJ.nil),?_⟩
   intro Wd
   refine ae.eh (.cons (.cons (.app (.app .left)))) (HF hsc.md.rd tf (by rw[hsc.mn];exact hm) (by have:=mt M9.2 DG;omega)) ?_
   refine aa.gA (Br.F ?_)
   refine aa.inc ?_
   exact aq.mk ⟨k+1,ord,tr,M,HM,C,rfl,hlt,rfl,hsc,hA,hp,by omega⟩ (by simp only[aV];omega)
 ·refine ae.eh (.cons (.cons (.app (.app (.app .here))))) (wY hA (by rw[hsc.kn];exact hin)) ?_
  refine⟨.skip (.cons aJ.nil),?_⟩
  intro Wd
  refine ae.eh (.cons (.cons (.app (.app .left)))) (DU hsc.md.rd (by rw[hsc.mn];omega) (by rw[hsc.mn];exact hin)) ?_
  refine aa.gA (Br.F ?_)
  refine aa.inc ?_
  exact aq.mk ⟨k+1,ord,tr,M,HM,C,rfl,hlt,rfl,hsc,hA,hp,by omega⟩ (by simp only[aV];omega)
end
end Go.Proofs
set_option maxRecDepth 100000
namespace Go.Proofs
open Go Go.Sx
theorem uV{n:Nat}(hn:n≤16)(B:Hp):Rd Tryz.prog 254 #[.int .i64 (n:Int)] B (· =.int .i64 ((af.wN n:Nat):Int)):=by
 refine aX fun g=>zF ?_
 have h1:1<<<n≤65536:=by rw[Nat.one_shiftLeft];exact Nat.pow_le_pow_right (n:=2) (by decide) hn
 refine aa.n7 (a:=1) (b:=n) (by simp[IntKind.bits];omega) (by simp[aW];omega) ?_
 refine aa.gN (b:=6) (by simp[aW];omega) ?_
 refine⟨_,_,_,rfl,rfl,?_⟩
 refine bO.mk (.refl _) ?_
 have:1<<<n>>>6=2^n/64:=by rw[Nat.one_shiftLeft,Nat.shiftRight_eq_div_pow]
 rw[this]
 congr 1
 unfold af.wN
 rw[Nat.max_def]
 split<;>split<;>omega
theorem B6{n:Nat}(hn:n≤16)(B:Hp):Rd Tryz.prog 255 #[.int .i64 (n:Int)] B (· =.int .u64 ((af.bI n:Nat):Int)):=by
 refine aX fun g=>zE ?_
 refine aa.mS (a:=n) (b:=6) (Br.dec (fun h=>?_) (fun h=>?_))
 ·exact bO.mk (.refl _) (by unfold af.bI;rw[if_pos h];rfl)
 ·have h1:2^n≤32:=Nat.pow_le_pow_right (n:=2) (by decide) (by omega:n≤5)
  have h2:2^2^n≤2^32:=Nat.pow_le_pow_right (by decide) h1
  have h3:=Nat.two_pow_pos (2^n)
  refine aa.m0 (a:=1) (b:=n) ?_
  rw[Nat.one_shiftLeft,Nat.mod_eq_of_lt (by omega)]
  refine aa.m0 (a:=1) ?_
  rw[Nat.one_shiftLeft,Nat.mod_eq_of_lt (by omega)]
  refine aa.bS (b:=1) ?_
  exact bO.mk (.refl _) (by unfold af.bI;rw[if_neg h])
theorem Dr{n:Nat}{ws:List Nat}(hn:n≤16)(hl:ws.length=af.wN n)(hw:∀w∈ws,w<18446744073709551616){w:Nat}(hg:ws[ws.length-1]? =some w):
  (ji w (af.bI n)=0)↔af.bJ n ws:=by
 have key:∀w,w<18446744073709551616→(ji w (af.bI n)=0↔w≤af.bI n):=by
  intro w hw
  constructor
  ·intro h
   have:w&&&af.bI n=w:=by
    apply Nat.eq_of_testBit_eq;intro j
    have:=congrArg (fun x=>x.testBit j) h
    simp only[cu,Nat.zero_testBit]at this
    rw[Nat.testBit_and]
    cases h1:w.testBit j<;>cases h2:(af.bI n).testBit j<;>simp_all
   rw[←this];exact Nat.and_le_right
  ·intro h
   have:=af.kg h
   unfold ji;rw[this,Nat.xor_self]
 constructor
 ·intro h
  refine⟨hn,hl,fun u hu=>?_⟩
  by_cases h6:6≤n
  ·unfold af.bI;rw[if_pos h6];have:=hw u hu;omega
  ·have h1:ws.length=1:=by rw[hl,af.pU (by omega)]
   obtain⟨x,rfl⟩:=List.length_eq_one_iff.1 h1
   simp at hg hu
   subst hg;subst hu
   exact(key _ (hw _ (by simp))).1 h
 ·intro h
  exact(key w (hw w (List.mem_of_getElem? hg))).2 (h.full w (List.mem_of_getElem? hg))
theorem wz{B:Hp}{v:Value}{t:Tb}(ht:ig B v t):Rd Tryz.prog 232 #[v] B (· =.bool (decide (TF t))):=by
 obtain⟨tn,ws⟩:=t
 obtain⟨s,rfl,hs,hw⟩:=ht
 simp only at hs hw⊢
 refine aX fun g=>zQ ?_
 intro b1 _ J hJ
 have hno:¬TF ⟨tn,ws⟩→JE J [.bool true] ((b1,.cells (Value.cells (.agg #[.int .i64 tn,s])) 57 (0,0))::B):=fun h=>
  JE.mk (hJ _ _ fun gs=>Br.yes (bO.mk .tail (by rw[decide_eq_false h])))
 refine DR.self ?_
 refine ag.mk (Ld.mk zM rfl ?_)
 refine aa.lss (Br.dec (fun h0=>hno fun h=>by have:=h.1;simp only at this;omega) (fun h0=>?_))
 obtain⟨n,rfl⟩:∃n:Nat,tn=n:=⟨tn.toNat,by omega⟩
 have Ns:TF ⟨(n:Int),ws⟩↔af.bJ n ws:=by unfold TF;simp
 refine ag.mk (Ld.mk zM rfl ?_)
 refine aa.iR (b:=16) (ay.mk (Br.dec (fun h1=>hno fun h=>by have:=(Ns.1 h).jR;omega) (fun h1=>?_)))
 refine ag.mk (Ld.mk zM rfl ?_)
 refine hs.aM ?_
 refine ag.mk (Ld.mk zM rfl ?_)
 intro F
 refine ae.eq (uV (by omega) B) ?_
 refine⟨(by repeat (first|exact aJ.refl _|apply aJ.cons|apply aJ.skip|apply aJ.cV|apply aJ.bE)),?_⟩
 rw[ah]
 refine aa.nU (ay.mk ?_)
 simp only[cond_false]
 by_cases hl:ws.length=af.wN n
 case neg=>rw[show decide (ws.length≠af.wN n)=true by simp[hl]];exact hno fun h=>hl (Ns.1 h).len
 rw[show decide (ws.length≠af.wN n)=false by simp[hl]]
 refine JE.mk (hJ _ _ fun gs=>Br.no ?_)
 have hpos:=af.xC n
 obtain⟨w,hg⟩:∃w,ws[ws.length-1]? =some w:=⟨_,List.getElem?_eq_getElem (by omega)⟩
 refine DR.self ?_
 refine ag.mk (Ld.mk zM rfl ?_)
 refine ag.mk (Ld.mk zM rfl ?_)
 refine hs.aM ?_
 rw[ah]
 refine aa.qa (b:=1) (by have:=af.oK (n:=n) (by omega);simp[aW];omega) (by omega) ?_
 refine hs.ld (bT hg) zS ?_
 refine ag.mk (Ld.mk zM rfl ?_)
 refine ae.eq (B6 (by omega) B) ?_
 refine⟨(by repeat (first|exact aJ.refl _|apply aJ.cons|apply aJ.skip|apply aJ.cV|apply aJ.bE)),?_⟩
 refine aa.xd (by have:=hw w (List.mem_of_getElem? hg);simpa[aW]using this) (by have:=af.nA n;simpa[aW]using this) ?_
 refine aa.jC (b:=0) ?_
 refine bO.mk .tail ?_
 congr 1
 exact decide_eq_decide.2 ((Dr (by omega) hl hw hg).trans Ns.symm)
theorem qU{B:Hp}{v:Value}{ts:List Tb}(ht:bH B v ts)(aU:ts.length<2^62):Rd Tryz.prog 220 #[v] B (· =.bool (decide (∀t∈ts,TF t∧some t.n=ts.head?.map Tb.n))):=by
 refine aX fun g=>z8 ?_
 refine ht.aM ?_
 refine⟨fun vs H=>aH B H∧∃k:Nat,vs=[.int .i64 (k:Int)]∧k≤ts.length∧∀i t,i<k→ts[i]? =some t→TF t∧some t.n=ts.head?.map Tb.n,fun vs _=>ts.length-aV vs 0,JE.mk ⟨.refl _,0,rfl,by omega,by omega⟩,?_⟩
 rintro w H ⟨hg,k,⟨⟩,hk,aA⟩ gs
 refine aa.dn (Br.dec (fun hlt=>?_) (fun hlt=>?_))
 ·obtain⟨t,lP⟩:∃t,ts[k]? =some t:=⟨_,List.getElem?_eq_getElem hlt⟩
  obtain⟨t0,EZ⟩:∃t,ts[0]? =some t:=⟨_,List.getElem?_eq_getElem (by omega)⟩
  have hh:ts.head?.map Tb.n=some t0.n:=by rw[List.head?_eq_getElem?,EZ];rfl
  have Lj:=ht.mono hg.sub
  refine Lj.ld lP (fun _ h=>h) fun s hs=>?_
  intro b1 _
  refine St.p ?_ ?_
  ·obtain⟨a,c,rfl,_⟩:=hs.1.shape;simp[Value.oneCell']
  intro J hJ
  have hno:∀H',aH B H'→¬(TF t∧some t.n=ts.head?.map Tb.n)→JE J [.bool true] H':=fun H' M7 h=>
   JE.mk (hJ _ _ fun gs=>Br.yes (bO.mk M7.pC (by rw[decide_eq_false];exact fun hh=>h (hh t (List.mem_of_getElem? lP)))))
  have Lz:aH B ((b1,Obj.cells (List.toArray [.int .i64 t.n,s]) 57 (0,0))::H):=.cons hg
  refine DR.self ?_
  refine ax.q ?_
  intro F
  refine ae.eq (B:=H) (wz ⟨s,rfl,hs⟩) ?_
  refine⟨.refl _,Un.not ?_⟩
  by_cases hT:TF t
  case neg=>rw[decide_eq_false hT];exact Br.yes (hno _ Lz fun h=>hT h.1)
  rw[decide_eq_true hT]
  refine Br.no ?_
  refine ag.mk (Ld.mk zM rfl ?_)
  refine Lj.MB EZ zS ?_
  refine aa.gA (ay.mk ?_)
  simp only[cond_false]
  by_cases hn:t.n=t0.n
  case neg=>rw[decide_eq_true hn];exact hno _ Lz fun h=>hn (by have:=h.2;rw[hh]at this;simpa using this)
  rw[decide_eq_false (by simpa using hn)]
  refine JE.mk (hJ _ _ fun gs=>Br.no ?_)
  refine aa.inc ?_
  refine aq.mk ⟨Lz,k+1,rfl,by omega,fun i u hi hu=>?_⟩ (by simp[aV];omega)
  by_cases e:i=k
  ·subst e;rw[lP]at hu;cases hu;exact⟨hT,by rw[hh,hn]⟩
  ·exact aA i u (by omega) hu
 ·refine bO.mk hg.pC ?_
  rw[decide_eq_true]
  intro t SN
  obtain⟨i,hi,rfl⟩:=List.mem_iff_getElem.1 SN
  exact aA i _ (by omega) (List.getElem?_eq_getElem hi)
theorem qV{B:Hp}{b:Nat}{t:Tb}{s:Value}{T:TypeId}{fz:Nat×Nat}(hm:(b,Obj.cells #[.int .i64 t.n,s] T fz)∈B)(hw:Words B s t.ws):
  Rd Tryz.prog 220 #[.slice (some ⟨b,0,none⟩) 1 1] B (· =.bool (decide (TF t))):=
 (qU (bH.one (cap:=0) hm hw) (by simp)).mono fun v H ⟨h1,h2⟩=>⟨h1,by rw[h2];congr 1;simp⟩
theorem OV{B:Hp}{v:Value}{t:Tb}(ht:ig B v t)(u:Int):Rd Tryz.prog 214 #[v,.int .i64 u] B (· =.int .i64 (if TF t then(if 0≤u∧u<t.n then 0 else 2)else 5)):=by
 obtain⟨s,rfl,hw⟩:=ht
 refine aX fun g=>Ad ?_
 intro b1 _
 refine ax.q ?_
 refine dw fun b2=>?_
 refine ae.rd .here (qV (by exact List.Mem.head _) (hw.mono zS)) ?_
 rintro v rfl
 refine Un.not ?_
 by_cases hT:TF t
 ·rw[decide_eq_true hT,if_pos hT]
  refine Br.no (aa.lss ?_)
  refine dI.or (decide (t.n≤u)) (fun h=>?_) rfl ?_
  ·refine ag.mk (Ld.mk zM rfl ?_)
   exact aa.geq ⟨rfl,rfl⟩
  ·intro gs
   have Xp:(decide (u<0)||decide (t.n≤u))=decide (¬(0≤u∧u<t.n)):=by
    by_cases h1:u<0<;>by_cases h2:t.n≤u<;>simp[h1,h2]<;>omega
   rw[Xp]
   refine Br.dec (fun h=>?_) (fun h=>?_)
   ·exact bO.mk (by repeat (first|exact aJ.refl _|apply aJ.cons|apply aJ.skip|apply aJ.cV|apply aJ.bE)) (by rw[if_neg h])
   ·exact bO.mk (by repeat (first|exact aJ.refl _|apply aJ.cons|apply aJ.skip|apply aJ.cV|apply aJ.bE)) (by rw[if_pos (Classical.not_not.1 h)])
 ·rw[decide_eq_false hT,if_neg hT]
  exact Br.yes (bO.mk (by repeat (first|exact aJ.refl _|apply aJ.cons|apply aJ.skip|apply aJ.cV|apply aJ.bE)) rfl)
theorem tx{u i:Nat}(hu:u<64)(hi:i<18446744073709551616)(kT:i<9223372036854775808)(B:Hp):Rd Tryz.prog 219 #[.int .i64 (u:Int),.int .i64 (i:Int)] B
  (· =.int .u64 ((if 6≤u then(if(i>>>(u-6)).testBit 0 then 18446744073709551615 else 0)else af.mask u:Nat):Int)):=by
 refine aX fun g=>z9 ?_
 refine aa.mS (a:=u) (b:=6) (Br.dec (fun h=>?_) (fun h=>?_))
 ·refine aY.nat (by simpa[aW]using hi) ?_
  refine aa.qa (b:=6) (by simp[aW];omega) h ?_
  refine aa.gN (by simpa[aW]using hi) ?_
  have hs:i>>>(u-6)<18446744073709551616:=Nat.lt_of_le_of_lt (Nat.shiftRight_le _ _) hi
  refine aa.gI (b:=1) (by simpa[aW]using hs) (by decide) ?_
  refine Un.Sw (by rw[af.dU];split<;>decide) ?_
  refine bO.mk (.refl _) ?_
  rw[if_pos h,af.dU]
  split<;>rfl
 ·refine⟨fun vs H=>H=B∧∃j:Nat,vs=[.int .u64 ((af.uF u j:Nat):Int),.int .i64 (j:Int)]∧j≤64,fun vs _=>64-aV vs 1,JE.mk ⟨rfl,0,rfl,by omega⟩,?_⟩
  rintro w1 w2 H ⟨rfl,j,⟨⟩,hj⟩ gs
  refine aa.dn (b:=64) (Br.dec (fun hlt=>?_) (fun hlt=>?_))
  ·refine aa.gN (by simp[aW];omega) ?_
   have hs:j>>>u<64:=Nat.lt_of_le_of_lt (Nat.shiftRight_le _ _) hlt
   refine aa.gI (b:=1) (by simp[aW];omega) (by decide) ?_
   have h1:j>>>u&&&1≤1:=by rw[af.dU];split<;>decide
   refine aY.q ?_
   refine aa.m0 ?_
   have h2:((j>>>u&&&1)<<<j)<18446744073709551616:=by
    rw[Nat.shiftLeft_eq]
    calc _≤1*2^j:=Nat.mul_le_mul_right _ h1
     _<2^64:=by rw[Nat.one_mul];exact Nat.pow_lt_pow_right (by decide) hlt
   rw[Nat.mod_eq_of_lt h2]
   have h3:af.uF u j<18446744073709551616:=Nat.lt_of_lt_of_le (af.uE u j) (Nat.pow_le_pow_right (n:=2) (by decide) hj)
   refine aa.xW (by simpa[aW]using h3) (by simpa[aW]using h2) ?_
   refine aa.inc ?_
   exact aq.mk ⟨rfl,j+1,rfl,by omega⟩ (by simp[aV];omega)
  ·have:j=64:=by omega
   subst this
   exact bO.mk (.refl _) (by rw[if_neg h];rfl)
theorem nk{n:Nat}(hn:n≤16){fv:Value}{f:FuncId}{first cap:Array Value}(P1:fv=.func (.func f) first cap)(iQ:ct Tryz.prog f=true){F:Nat→Nat}(hF:∀i,i<af.wN n→F i<18446744073709551616){B:Hp}
 (hc:∀i:Nat,i<af.wN n→Rd Tryz.prog f (first++ #[.int .i64 (i:Int)]++cap) B (· =.int .u64 ((F i:Nat):Int))):
  Px Tryz.prog 212 #[.int .i64 (n:Int),fv] B (fun v H=>ig H v ⟨n,(List.range (af.wN n)).map fun i=>F i&&&af.bI n⟩):=by
 intro g
 have MK:=af.oK hn
 refine Af (R:=bN _) ?_
 unfold L212
 intro b1 _
 refine ae.eq (uV hn B) ?_
 refine bD.ints (fi hn).1 (fi hn).2 fun bw=>?_
 refine Build.mk (cs:=[.int .i64 (n:Int),.slice (some ⟨bw,0,none⟩) (af.wN n) (af.wN n)]) (by kernel_rfl) ?_
 intro b8 _
 refine St.q ?_
 refine ag.mk (Ld.mk zM rfl ?_)
 refine az.mk ?_
 rw[range_zero (G:=fun i=>F i&&&af.bI n)]
 refine⟨fun vs H=>∃i:Nat,vs=[.int .i64 (i:Int)]∧i≤af.wN n∧H=(b8,.cells (List.toArray [.int .i64 (n:Int),.slice (some ⟨bw,0,none⟩) (af.wN n) (af.wN n)]) 57 (0,0))::
   (bw,.cells (aC .u64 (iw ((List.range (af.wN n)).map fun k=>if k<i then F k&&&af.bI n else 0))) 50 (0,0))::(b1,.cells #[.int .i64 0,.slice none 0 0] 57 (0,0))::B,
  fun vs _=>af.wN n-aV vs 0,JE.mk ⟨0,rfl,by omega,rfl⟩,?_⟩
 rintro w H ⟨i,⟨⟩,hi,rfl⟩ gs
 refine aa.dn (Br.dec (fun hlt=>?_) (fun hlt=>?_))
 ·refine DR.self ?_
  refine ag.mk (Ld.mk zM rfl ?_)
  refine fV.of P1 iQ ?_
  refine ae.eq (hc i hlt) ?_
  refine⟨.refl _,?_⟩
  refine ae.eq (B6 hn B) ?_
  refine⟨.refl _,?_⟩
  refine aa.gI (by simpa[aW]using hF i hlt) (by simpa[aW]using af.nA n) ?_
  refine aj.nat hlt ?_
  refine St.ints (l:=iw _) (by exact .tail (.head _)) (by simpa using hlt) ?_
  refine aa.inc ?_
  rw[sN hlt]
  exact aq.mk ⟨i+1,rfl,by omega,rfl⟩ (by simp[aV];omega)
 ·have:i=af.wN n:=by omega
  subst this
  rw[qk]
  refine ax.q ?_
  refine St.q ?_
  refine ax.q ?_
  refine js.mk (by repeat (first|exact aH.refl _|apply aH.cons|apply aH.app)) ⟨_,rfl,?_⟩
  have:=Words.block (b:=bw) (cap:=af.wN n) (ws:=(List.range (af.wN n)).map fun i=>F i&&&af.bI n) (T:=50) (fz:=(0,0)) (B:=(b8,.cells (List.toArray [.int .i64 (n:Int),.slice (some ⟨bw,0,none⟩) (af.wN n) (af.wN n)]) 57 (0,0))::
   (bw,.cells (aC .u64 (iw ((List.range (af.wN n)).map fun i=>F i&&&af.bI n))) 50 (0,0))::(b1,.cells (List.toArray [.int .i64 (n:Int),.slice (some ⟨bw,0,none⟩) (af.wN n) (af.wN n)]) 57 (0,0))::B) (by exact .tail _ (.head _)) (by simp) (fun w hw=>by
    obtain⟨k,_,rfl⟩:=List.mem_map.1 hw
    exact Nat.lt_of_le_of_lt Nat.and_le_right (af.nA n))
  simpa using this
theorem Hl{B:Hp}{pv pb pa s:Value}{u n i:Nat}{c:Bool}{ws:List Nat}(hv:Go.Sx.At B pv [.int .i64 (u:Int)])(hb:Go.Sx.At B pb [.bool c])(ha:Go.Sx.At B pa [.int .i64 (n:Int),s])(hw:Words B s ws)(hf:af.bJ n ws)(hu:u<n)(hi:i<af.wN n):
  Rd Tryz.prog 256 #[.int .i64 (i:Int),pv,pb,pa] B (· =.int .u64 ((af.cP ws u c i:Nat):Int)):=by
 intro g
 have hn:=hf.jR
 have MK:=af.oK hn
 refine zD (R:=bN _) ?_
 unfold L256
 refine Ld.at hv (fun _ h=>h) ?_
 refine aa.mS (a:=u) (b:=6) (Br.dec (fun h6=>?_) (fun h6=>?_))
 ·have hp:2^(u-6)≤1024:=Nat.pow_le_pow_right (n:=2) (by decide) (by omega:u-6≤10)
  refine Ld.at hv (fun _ h=>h) ?_
  refine aa.qa (b:=6) (by simp[aW];omega) h6 ?_
  refine aa.n7 (a:=1) (by simp[IntKind.bits];omega) (by rw[Nat.one_shiftLeft];simp[aW];omega) ?_
  rw[Nat.one_shiftLeft]
  refine aa.xd (by simp[aW];omega) (by simp[aW];omega) ?_
  have hand:=gZ i (2^(u-6))
  intro J hJ
  have Dx:af.au i (u-6) c<af.wN n:=by
   rw[af.pV (by omega)]at hi⊢
   exact af.dF hi (by omega)
  have dA:JE J [.int .i64 ((af.au i (u-6) c:Nat):Int)] B:=by
   refine JE.mk (hJ _ _ fun gs=>?_)
   refine ag.at ha fun q hq=>Ld.at hq (fun _ h=>h) ?_
   have hg:ws[af.au i (u-6) c]? =some (ws.getD (af.au i (u-6) c) 0):=by rw[List.getElem?_eq_getElem (by rw[hf.len];exact Dx),List.getD_eq_getElem?_getD,List.getElem?_eq_getElem (by rw[hf.len];exact Dx)];rfl
   refine hw.1.ld (bT hg) (fun _ h=>h) ?_
   exact bO.mk (.refl _) (by unfold af.cP;rw[if_pos h6])
  refine Ld.at hb (fun _ h=>h) ?_
  cases c
  ·exact Br.no dA
  ·refine Br.yes ?_
   refine Ld.at hv (fun _ h=>h) ?_
   refine aa.qa (b:=6) (by simp[aW];omega) h6 ?_
   refine aa.n7 (a:=1) (by simp[IntKind.bits];omega) (by rw[Nat.one_shiftLeft];simp[aW];omega) ?_
   rw[Nat.one_shiftLeft]
   refine aa.xW (by simp[aW];omega) (by simp[aW];omega) ?_
   have e:ji i (2^(u-6))|||2^(u-6)=af.au i (u-6) true:=by
    apply Nat.eq_of_testBit_eq;intro k
    rw[Nat.testBit_or,cu,af.ai,Nat.testBit_two_pow]
    by_cases e:k=u-6
    ·simp[e]
    ·simp[e,Ne.symm e]
   rw[e];exact dA
 ·have hp:2^u≤32:=Nat.pow_le_pow_right (n:=2) (by decide) (by omega:u≤5)
  have hg:ws[i]? =some (ws.getD i 0):=by rw[List.getElem?_eq_getElem (by rw[hf.len];exact hi),List.getD_eq_getElem?_getD,List.getElem?_eq_getElem (by rw[hf.len];exact hi)];rfl
  have Iy:=hw.2 _ (List.mem_of_getElem? hg)
  have hm:=af.pH u
  refine DR.self ?_
  refine Ld.at hv (fun _ h=>h) (Ld.at hv (fun _ h=>h) ?_)
  refine aa.n7 (a:=1) (b:=u) (by simp[IntKind.bits];omega) (by rw[Nat.one_shiftLeft];simp[aW];omega) ?_
  rw[Nat.one_shiftLeft]
  refine ae.eq (tx (u:=u) (i:=0) (by omega) (by omega) (by omega) B) ?_
  rw[if_neg h6]
  refine⟨.refl _,?_⟩
  refine Ld.at hb (fun _ h=>h) ?_
  cases c
  ·refine Br.no ?_
   refine ag.at ha fun q hq=>Ld.at hq (fun _ h=>h) ?_
   refine hw.1.ld (bT hg) (fun _ h=>h) ?_
   refine aa.xd (by simpa[aW]using Iy) (by simpa[aW]using hm) ?_
   refine aa.m0 ?_
   have:=gZ (ws.getD i 0) (af.mask u)
   refine aa.xW (by simp only[aW];omega) (by simp only[aW];omega) ?_
   exact bO.mk (.refl _) (by unfold af.cP;rw[if_neg h6];rfl)
  ·refine Br.yes ?_
   refine ag.at ha fun q hq=>Ld.at hq (fun _ h=>h) ?_
   refine hw.1.ld (bT hg) (fun _ h=>h) ?_
   refine aa.gI (by simpa[aW]using Iy) (by simpa[aW]using hm) ?_
   have h1:ws.getD i 0&&&af.mask u≤ws.getD i 0:=Nat.and_le_left
   refine aa.gN (by simp only[aW];omega) ?_
   have h2:=Nat.shiftRight_le (ws.getD i 0&&&af.mask u) (2^u)
   refine aa.xW (by simp only[aW];omega) (by simp only[aW];omega) ?_
   exact bO.mk (.refl _) (by unfold af.cP;rw[if_neg h6];rfl)
theorem ux{B:Hp}{v:Value}{n u:Nat}{ws:List Nat}{c:Bool}(ht:ig B v ⟨n,ws⟩)(hf:af.bJ n ws)(hu:u<n):
  Px Tryz.prog 215 #[v,.int .i64 (u:Int),.bool c] B (fun v H=>ig H v ⟨n,af.c6 n ws u c⟩):=by
 obtain⟨s,rfl,hw⟩:=ht
 refine aX fun g=>Ac ?_
 intro b1 _ b3 _ b5 _ b7 _
 refine ag.mk (Ld.mk zM rfl ?_)
 refine ae.px (.cons .here) (nk hf.jR rfl (by kernel_rfl) (F:=fun i=>af.cP ws u c i) (fun i hi=>?_) (fun i hi=>?_)) ?_
 ·unfold af.cP
  split
  ·by_cases h:af.au i (u-6) c<ws.length
   ·rw[List.getD_eq_getElem?_getD,List.getElem?_eq_getElem h];exact hf.lt (List.getElem_mem h)
   ·rw[List.getD_eq_getElem?_getD,List.getElem?_eq_none (by omega)];decide
  ·have hg:ws.getD i 0<2^64:=by rw[List.getD_eq_getElem?_getD,List.getElem?_eq_getElem (by rw[hf.len];exact hi)];exact hf.lt (List.getElem_mem _)
   split
   ·refine Nat.or_lt_two_pow (n:=64) (Nat.lt_of_le_of_lt Nat.and_le_left hg) (Nat.lt_of_le_of_lt (Nat.shiftRight_le _ _) (Nat.lt_of_le_of_lt Nat.and_le_left hg))
   ·exact Nat.or_lt_two_pow (n:=64) (Nat.lt_of_le_of_lt (gZ _ _) hg) (Nat.mod_lt _ (by decide))
 ·exact Hl (Go.Sx.At.block (l:=[.int .i64 (u:Int)]) zM) (Go.Sx.At.block (l:=[.bool c]) zM) (Go.Sx.At.block (l:=[.int .i64 (n:Int),s]) zM) (hw.mono zS) hf hu hi
 ·rintro v N ⟨s',rfl,cI⟩
  refine St.p ?_ ?_
  ·have:=av cI;simpa[Value.oneCell']using this
  refine ax.q ?_
  exact js.mk (by repeat (first|exact aH.refl _|apply aH.cons|apply aH.app)) ⟨s',rfl,cI.mono zS⟩
theorem Bw{B:Hp}{v:Value}{n u:Nat}{ws:List Nat}{c:Bool}(ht:ig B v ⟨n,ws⟩)(hf:af.bJ n ws)(hu:u<n):
  Px Tryz.prog 148 #[v,.int .i64 (u:Int),.bool c] B (fun r H=>∃v',r=.tuple #[v',.int .i64 0]∧ig H v' ⟨n,af.c6 n ws u c⟩):=by
 obtain⟨s,rfl,hw⟩:=ht
 refine aX fun g=>AX ?_
 intro b1 _ b3 _
 refine ax.q ?_
 refine ae.eq (OV (t:=⟨n,ws⟩) ⟨s,rfl,hw.mono zS⟩ (u:Int)) ?_
 rw[if_pos (show TF ⟨(n:Int),ws⟩from⟨by simp,by simpa using hf⟩),if_pos ⟨by omega,by simp only;omega⟩]
 refine aa.gA (Br.F ?_)
 refine ax.q ?_
 refine ae.pq (ux (v:=.agg (List.toArray [.int .i64 (n:Int),s])) ⟨s,rfl,hw.mono zS⟩ hf hu) ?_
 rintro v N ⟨s',rfl,cI⟩
 refine St.p ?_ ?_
 ·have:=av cI;simpa[Value.oneCell']using this
 refine ax.q ?_
 exact js.mk (by repeat (first|exact aH.refl _|apply aH.cons|apply aH.app)) ⟨_,rfl,s',rfl,cI.mono zS⟩
theorem wV{w j:Nat}(hj:j<8):((List.range (j+1)).map fun i=>UInt8.ofNat (w>>>(8*i)))=((List.range j).map fun i=>UInt8.ofNat (w>>>(8*i)))++[UInt8.ofNat (w>>>(8*j))]:=by
 rw[List.range_succ,List.map_append];rfl
theorem D7(l:List UInt8)(n:Nat):oB (l++[UInt8.ofNat n])=oB l++[[Value.int .u8 ((n%256:Nat):Int)]]:=by
 simp[oB]
theorem yg{B:Hp}{v:Value}{t:Tb}(ht:ig B v t)(hl:t.ws.length≤4294967296):Rd Tryz.prog 234 #[v] B (· =tU (af.fm t.ws)):=by
 obtain⟨s,rfl,hw⟩:=ht
 refine aX fun g=>zO ?_
 intro b1 _
 refine ag.mk (Ld.mk zM rfl ?_)
 refine hw.1.aM ?_
 rw[ah]
 refine⟨fun vs H=>∃(k:Nat) (v:Value) (C:Hp),vs=[v,.int .i64 (k:Int)]∧k≤t.ws.length∧H=C++B∧aN 5 1 v (oB (af.fm (t.ws.take k))) C,fun vs _=>t.ws.length-aV vs 1,
  JE.of (.tail) ⟨0,_,[],rfl,by omega,rfl,aN.nil _ _⟩,?_⟩
 rintro w6 w7 H ⟨k,v,C,⟨⟩,hk,rfl,ho⟩ gs
 refine aa.dn (Br.dec (fun hlt=>?_) (fun hlt=>?_))
 ·have hg:t.ws[k]? =some t.ws[k]:=List.getElem?_eq_getElem hlt
  have hwk:=hw.2 _ (List.getElem_mem hlt)
  refine hw.1.ld (bT hg) zS ?_
  have hlen:(oB (af.fm (t.ws.take k))).length=8*k:=by simp only[oB,List.length_map,af.oT,List.length_take];omega
  refine⟨fun vs H=>∃(j:Nat) (v:Value) (C:Hp),vs=[v,.int .i64 (j:Int)]∧j≤8∧H=C++B∧aN 5 1 v (oB (af.fm (t.ws.take k)++(List.range j).map fun i=>UInt8.ofNat (t.ws[k]>>>(8*i)))) C,fun vs _=>8-aV vs 1,
   JE.mk ⟨0,_,C,rfl,by omega,rfl,by simpa using ho⟩,?_⟩
  rintro w8 w9 H ⟨j,v,C,⟨⟩,hj,rfl,ho⟩ gs
  refine aa.dn (b:=8) (Br.dec (fun h8=>?_) (fun h8=>?_))
  ·refine aa.ud (a:=8) ?_
   refine aa.gN (by simpa[aW]using hwk) ?_
   refine aY.Uu ?_
   refine an.int (e:=5) (by kernel_rfl) (by kernel_rfl) (by kernel_rfl) fun xb=>?_
   refine ho.y6 (A:=[_]) (r:=[Value.int .u8 (((t.ws[k]>>>(8*j))%256:Nat):Int)]) (by exact .head _) rfl (by simp[Value.oneCell']) ⟨[.int .u8 0],rfl,rfl⟩ (by simp only[oB,List.length_map,List.length_append,List.length_range]at hlen⊢;omega) (by simp only[oB,List.length_map,List.length_append,List.length_range]at hlen⊢;omega) fun v' C' br=>?_
   refine aa.inc ?_
   refine aq.of .tail ⟨j+1,_,C',rfl,by omega,rfl,?_⟩ (by simp[aV];omega)
   rw[wV h8,←List.append_assoc,D7];exact br
  ·have:j=8:=by omega
   subst this
   refine aa.inc ?_
   refine aq.mk ⟨k+1,_,C,rfl,by omega,rfl,?_⟩ (by simp[aV];omega)
   rw[List.take_succ_eq_append_getElem hlt,af.fm,List.flatMap_append]
   simpa[af.fm,af.fi]using ho
 ·have:k=t.ws.length:=by omega
  subst this
  rw[List.take_length]at ho
  refine ie.own ho (fun _ h=>List.mem_append_left _ h) ?_
  exact bO.mk .right rfl
theorem NI{B:Hp}{b n:Nat}{es:Array MapEntry}{ck:Nat}{m:List (List UInt8×List Nat)}{v:Value}{ws:List Nat}(hE:eE n B es ck m)(ht:ig B v ⟨n,ws⟩)(hf:af.bJ n ws):
  Fc Tryz.prog 233 #[.map (some b),v] ((b,.map es ck)::B) (fun _ H=>∃es' c8 N,H=(b,.map es' c8)::(N++B)∧eE n (N++B) es' c8 (tQ m ws)):=by
 obtain⟨s,rfl,hw⟩:=ht
 refine aX fun g=>zP ?_
 intro b1 _
 refine DR.self ?_
 refine ax.q ?_
 refine ax.q ?_
 refine ae.eq (yg (t:=⟨n,ws⟩) ⟨s,rfl,hw⟩ (df hf)) ?_
 refine⟨.refl _,?_⟩
 refine hE.bM (b:=b) ⟨s,rfl,hw⟩ hf fun es' c8 pB=>⟨_,.tail (.head _),?_⟩
 exact bN.mk (jD:=(b,.map es' c8)::([]++B)) .tail ⟨es',c8,[],rfl,pB⟩
theorem sP{B:Hp}{v:Value}{n:Nat}{ts:List Tb}{L:List (List Nat)}(ht:bH B v ts)(hL:ts=L.map fun ws=>⟨n,ws⟩)(hf:∀ws∈L,af.bJ n ws)(aU:L.length<4611686018427387904):
  Fc Tryz.prog 176 #[v] B (fun r H=>∃b es ck m N,r=.map (some b)∧H=(b,.map es ck)::(N++B)∧eE n (N++B) es ck m∧∀x,x∈m.map Prod.snd↔x∈L):=by
 have hlen:ts.length=L.length:=by rw[hL];simp
 refine aX fun g=>Ay ?_
 intro b _
 refine ht.aM ?_
 rw[hlen]
 refine⟨fun vs H=>∃(k:Nat) (es:Array MapEntry) (ck:Nat) (m:List (List UInt8×List Nat)) (N:Hp),vs=[.int .i64 (k:Int)]∧k≤L.length∧H=(b,.map es ck)::(N++B)∧eE n (N++B) es ck m∧∀x,x∈m.map Prod.snd↔x∈L.take k,
  fun vs _=>L.length-aV vs 0,JE.mk ⟨0,_,_,[],[],rfl,by omega,rfl,eE.empty _ _,by simp⟩,?_⟩
 rintro w H ⟨k,es,ck,m,N,⟨⟩,hk,rfl,hE,hm⟩ gs
 refine aa.dn (Br.dec (fun hlt=>?_) (fun hlt=>?_))
 ·have hg:ts[k]? =some ⟨n,L[k]⟩:=by rw[hL,List.getElem?_map,List.getElem?_eq_getElem hlt];rfl
  have gQ:=hf L[k] (List.getElem_mem hlt)
  refine ht.ld hg zS fun s hw=>?_
  intro b2 _
  refine St.p ?_ ?_
  ·have:=av hw;simpa[Value.oneCell']using this
  refine ax.q ?_
  refine ae.fq (NI hE ⟨s,rfl,hw.mono zS⟩ gQ) ?_
  rintro r C' ⟨es',c8,N',rfl,pB⟩
  refine aa.inc ?_
  refine aq.of .tail ⟨k+1,es',c8,tQ m L[k],N'++N,rfl,by omega,by rw[List.append_assoc],by rw[List.append_assoc];exact pB,fun x=>?_⟩ (by simp[aV];omega)
  rw[nY hE.2 gQ,hm,List.take_succ_eq_append_getElem hlt,List.mem_append,List.mem_singleton]
 ·have:k=L.length:=by omega
  subst this
  rw[List.take_length]at hm
  exact bN.here ⟨b,es,ck,m,N,rfl,rfl,hE,hm⟩
theorem qR{B:Hp}{bm n u:Nat}{es:Array MapEntry}{ck:Nat}{m:List (List UInt8×List Nat)}(hm:(bm,Obj.map es ck)∈B)(hE:eE n B es ck m)(hu:u<n)(aU:m.length<4611686018427387904):
  Fc Tryz.prog 177 #[.map (some bm),.int .i64 (u:Int)] B (fun r H=>∃b' es' c8 m' N,r=.tuple #[.map (some b'),.int .i64 ((af.nodes n (m.map Prod.snd) u).length:Int)]∧H=(b',.map es' c8)::(N++B)∧eE n (N++B) es' c8 m'∧
   ∀x,x∈m'.map Prod.snd↔∃t∈m.map Prod.snd,∃c,x=af.c6 n t u c):=by
 refine aX fun g=>Ax ?_
 intro b' _
 refine .inr ⟨bm,es,ck,rfl,.tail _ hm,fun bi _=>?_⟩
 refine⟨fun vs H=>∃(es':Array MapEntry) (c8:Nat) (m':List (List UInt8×List Nat)) (seen:Array Nat) (N:Hp) (D:List (List Nat)),vs=[.int .i64 ((af.nodes n D u).length:Int)]∧
   H=(bi,.mapIter (some bm) ck seen ck)::(b',.map es' c8)::(N++B)∧eE n (N++B) es' c8 m'∧(m.map Prod.snd).Perm (D++(cS es m seen).map Prod.snd)∧∀x,x∈m'.map Prod.snd↔∃t∈D,∃c,x=af.c6 n t u c,
  fun vs H=>match H with|(_,.mapIter _ _ seen _)::_=>(cS es m seen).length|_=>0,JE.mk ⟨_,_,[],_,[],[],rfl,rfl,eE.empty _ _,?_,by simp⟩,?_⟩
 ·rw[p5 hE.1];simp
 rintro w H ⟨es',c8,m',seen,N,D,⟨⟩,rfl,pB,cD,hmem⟩ gs
 have RO:∀{X:Hp},(bm,Obj.map es ck)∈X++B:=List.mem_append_right _ hm
 refine hE.1.next (.tail _ (.tail _ RO)) (.head _) (fun e x seen' he hkey hval hstep we hfind=>⟨_,.head _,?_⟩) (fun yo=>?_)
 ·obtain⟨bs,ws⟩:=x
  simp only at hval hkey
  refine Ext.mk rfl (Br.yes ?_)
  refine⟨bi,bm,ck,seen',e.born,ck,es,e,rfl,.head _,we,.tail _ (.tail _ RO),hfind,?_⟩
  refine Ext.mk rfl ?_
  have hx:(bs,ws)∈m:=by
   have h:=hstep.mem_iff.2 (List.mem_cons_self (a:=(bs,ws)))
   unfold cS at h
   obtain⟨p,hp,iP⟩:=List.mem_map.1 h
   rw[←iP]
   exact(List.of_mem_zip (List.mem_filter.1 hp).1).2
  obtain⟨XU,hf⟩:=hE.2 _ hx
  simp only at XU hf
  obtain⟨s,P4,hw⟩:=hval
  rw[P4]
  have hone:=av hw
  intro b1 _
  refine St.p (by simpa[Value.oneCell']using hone) ?_
  refine ax.q ?_
  refine ae.pq (B:=N++B) (Bw (n:=n) (ws:=ws) ⟨s,rfl,hw.mono zS⟩ hf hu) ?_
  rintro r N1 ⟨v1,rfl,s1,rfl,gC⟩
  have vY:=av gC
  refine Ext.two ?_
  intro b2 _
  refine St.p (by simpa[Value.oneCell']using vY) ?_
  refine ax.q ?_
  refine ae.pq (B:=N1++(N++B)) (Bw (n:=n) (ws:=ws) ⟨s,rfl,hw.mono zS⟩ hf hu) ?_
  rintro r N2 ⟨v2,rfl,s2,rfl,kR⟩
  have vX:=av kR
  refine Ext.two ?_
  intro b3 _
  refine St.p (by simpa[Value.oneCell']using vX) ?_
  refine DR.self ?_
  refine ax.q ?_
  refine ax.q ?_
  have f1:=af.bV (v:=u) (ws:=ws) (b:=false) hf.jR
  have f2:=af.bV (v:=u) (ws:=ws) (b:=true) hf.jR
  refine ae.eq (B:=N2++(N1++(N++B))) (yg (t:=⟨n,af.c6 n ws u false⟩) ⟨s1,rfl,gC.mono zS⟩ (df f1)) ?_
  refine⟨.refl _,?_⟩
  refine ae.eq (B:=N2++(N1++(N++B))) (yg (t:=⟨n,af.c6 n ws u true⟩) ⟨s2,rfl,kR⟩ (df f2)) ?_
  refine⟨.refl _,?_⟩
  intro J hJ
  have yB:(af.fm (af.c6 n ws u false)≠af.fm (af.c6 n ws u true))↔af.dep n ws u=true:=by
   simp only[af.dep,ne_eq,decide_eq_true_eq]
   exact not_congr ⟨fun h=>f1.key_inj f2 h,fun h=>by rw[h]⟩
  have dA:JE J [.int .i64 ((af.nodes n (D++[ws]) u).length:Int)] ((b3,.cells (List.toArray [.int .i64 (n:Int),s2]) 57 (0,0))::(b2,.cells (List.toArray [.int .i64 (n:Int),s1]) 57 (0,0))::
    (b1,.cells (List.toArray [.int .i64 (n:Int),s]) 57 (0,0))::(bi,.mapIter (some bm) ck seen' ck)::(b',.map es' c8)::(N2++(N1++(N++B)))):=by
   refine JE.mk (hJ _ _ fun gs=>?_)
   refine DR.of (R:=(b3,.cells (List.toArray [.int .i64 (n:Int),s2]) 57 (0,0))::(b2,.cells (List.toArray [.int .i64 (n:Int),s1]) 57 (0,0))::[]) ?_ ?_
   ·exact .cons (.cons (fun g w h=>(Own.left (B:=_) (A:=[]) h)))
   refine ax.q ?_
   refine ax.q ?_
   have wm:=pB.mono (B':=N2++(N1++(N++B))) zS
   refine wm.bM (b:=b') (ws:=af.c6 n ws u false) ⟨s1,rfl,gC.mono zS⟩ f1 fun mI nJ VI=>⟨_,.tail (.tail (.tail (.tail (.head _)))),?_⟩
   refine⟨.cons (.cons (fun g w h=>(Own.left (B:=_) (A:=[]) h))),?_⟩
   refine VI.bM (b:=b') (ws:=af.c6 n ws u true) ⟨s2,rfl,kR⟩ f2 fun L1 L4 Yk=>⟨_,.tail (.tail (.tail (.tail (.head _)))),?_⟩
   refine aq.of (H':=(bi,.mapIter (some bm) ck seen' ck)::(b',.map L1 L4)::((N2++(N1++N))++B)) ?_ ⟨L1,L4,tQ (tQ m' (af.c6 n ws u false)) (af.c6 n ws u true),seen',N2++(N1++N),D++[ws],rfl,rfl,?_,?_,fun x=>?_⟩ ?_
   ·refine .skip (.skip (.skip (.cons (.cons ?_))))
    intro g w h;rw[List.append_assoc,List.append_assoc];exact h
   ·rw[List.append_assoc,List.append_assoc];exact Yk
   ·refine cD.trans ?_
    refine(List.Perm.append_left D (hstep.map Prod.snd)).trans ?_
    simp only[List.map_cons,List.append_assoc,List.cons_append,List.nil_append]
    exact .refl _
   ·rw[nY VI.2 f2,nY wm.2 f1,hmem]
    constructor
    ·rintro((⟨t,ht,c,rfl⟩|rfl)|rfl)
     ·exact⟨t,by simp[ht],c,rfl⟩
     ·exact⟨ws,by simp,_,rfl⟩
     ·exact⟨ws,by simp,_,rfl⟩
    ·rintro⟨t,ht,c,rfl⟩
     rcases List.mem_append.1 ht with ht|ht
     ·exact .inl (.inl ⟨t,ht,c,rfl⟩)
     ·simp at ht;subst ht
      cases c
      ·exact .inl (.inr rfl)
      ·exact .inr rfl
   ·have:=hstep.length_eq
    simp only[List.length_cons]at this⊢
    omega
  refine aa.OL (Br.dec (fun h=>?_) (fun h=>?_))
  ·refine aa.KL (b:=1) ?_ ?_
   ·have h1:=cD.length_eq
    simp only[List.length_map,List.length_append]at h1
    have h2:(af.nodes n D u).length≤D.length:=List.length_filter_le _ _
    simp[aW];omega
   ·have:(af.nodes n (D++[ws]) u).length=(af.nodes n D u).length+1:=by
     simp[af.nodes,List.filter_append,yB.1 h]
    rw[this]at dA;exact dA
  ·have:(af.nodes n (D++[ws]) u).length=(af.nodes n D u).length:=by
    have hd:af.dep n ws u=false:=by cases hh:af.dep n ws u;rfl;exact absurd (yB.2 hh) h
    simp[af.nodes,List.filter_append,hd]
   rw[this]at dA;exact dA
 ·refine Ext.mk rfl (Br.no ?_)
  rw[yo]at cD
  simp only[List.map_nil,List.append_nil]at cD
  refine bN.mk (jD:=(b',.map es' c8)::(N++B)) .tail ⟨b',es',c8,m',N,?_,rfl,pB,fun x=>?_⟩
  ·rw[af.gz cD]
  ·rw[hmem]
   constructor
   ·rintro⟨t,ht,h⟩;exact⟨t,cD.mem_iff.2 ht,h⟩
   ·rintro⟨t,ht,h⟩;exact⟨t,cD.mem_iff.1 ht,h⟩
theorem C6{B:Hp}{v:Value}{ts:List Tb}(ht:bH B v ts)(aU:ts.length<2^62):Rd Tryz.prog 175 #[v] B (· =.bool (decide (∀t∈ts,TF t∧some t.n=ts.head?.map Tb.n))):=by
 intro g
 refine Az (R:=bN _) ?_
 unfold L175
 refine ht.aM ?_
 refine⟨fun vs H=>aH B H∧∃k:Nat,vs=[.int .i64 (k:Int)]∧k≤ts.length∧∀i t,i<k→ts[i]? =some t→TF t∧some t.n=ts.head?.map Tb.n,fun vs _=>ts.length-aV vs 0,JE.mk ⟨.refl _,0,rfl,by omega,by omega⟩,?_⟩
 rintro w H ⟨hg,k,hv,hk,aA⟩ gs
 simp only[List.cons.injEq,and_true]at hv
 subst hv
 refine aa.dn (Br.dec (fun hlt=>?_) (fun hlt=>?_))
 ·obtain⟨t,lP⟩:∃t,ts[k]? =some t:=⟨_,List.getElem?_eq_getElem hlt⟩
  obtain⟨t0,EZ⟩:∃t,ts[0]? =some t:=⟨_,List.getElem?_eq_getElem (by omega)⟩
  have hh:ts.head?.map Tb.n=some t0.n:=by rw[List.head?_eq_getElem?,EZ];rfl
  have Lj:=ht.mono hg.sub
  refine Lj.ld lP (fun _ h=>h) fun s hs=>?_
  intro b1 _
  refine St.whole (r:=[.int .i64 t.n,s]) (by exact cA.head _) rfl rfl ?_ ?_
  ·obtain⟨a,c,rfl,_⟩:=hs.1.shape;simp[Value.oneCell']
  intro J hJ
  have hno:∀H',aH B H'→¬(TF t∧some t.n=ts.head?.map Tb.n)→JE J [.bool true] H':=fun H' M7 h=>
   JE.mk (hJ _ _ fun gs=>Br.yes (bO.mk M7.pC (by rw[decide_eq_false];exact fun hh=>h (hh t (List.mem_of_getElem? lP)))))
  have Lz:aH B ((b1,Obj.cells (List.toArray [.int .i64 t.n,s]) 57 (0,0))::H):=.cons hg
  refine DR.self ?_
  refine ax.whole (r:=[.int .i64 t.n,s]) (by exact List.Mem.head _) rfl ?_
  intro F
  refine ae.rd (B:=H) (.cons .here) (wz ⟨s,rfl,hs⟩) ?_
  rintro v rfl
  refine⟨.refl _,Un.not ?_⟩
  by_cases hT:TF t
  case neg=>rw[decide_eq_false hT];exact Br.yes (hno _ Lz fun h=>hT h.1)
  rw[decide_eq_true hT]
  refine Br.no ?_
  refine ag.mk (Ld.mk zM rfl ?_)
  refine Lj.MB EZ zS ?_
  refine aa.gA (ay.mk ?_)
  simp only[cond_false]
  by_cases hn:t.n=t0.n
  case neg=>rw[decide_eq_true hn];exact hno _ Lz fun h=>hn (by have:=h.2;rw[hh]at this;simpa using this)
  rw[decide_eq_false (by simpa using hn)]
  refine JE.mk (hJ _ _ fun gs=>Br.no ?_)
  refine aa.KL (b:=1) (by simp[aW];omega) ?_
  refine aq.mk ⟨Lz,k+1,rfl,by omega,fun i u hi hu=>?_⟩ (by simp[aV];omega)
  by_cases e:i=k
  ·subst e;rw[lP]at hu;cases hu;exact⟨hT,by rw[hh,hn]⟩
  ·exact aA i u (by omega) hu
 ·refine bO.mk hg.pC ?_
  rw[decide_eq_true]
  intro t SN
  obtain⟨i,hi,rfl⟩:=List.mem_iff_getElem.1 SN
  exact aA i _ (by omega) (List.getElem?_eq_getElem hi)
def jj(ts:List Tb):Prop:=∀t∈ts,TF t∧some t.n=ts.head?.map Tb.n
instance (ts:List Tb):Decidable (jj ts):=by unfold jj;infer_instance
theorem iU{B:Hp}{v:Value}{ts:List Tb}(ht:bH B v ts)(aU:ts.length<2^62):Rd Tryz.prog 175 #[v] B (· =.bool (decide (jj ts))):=C6 ht aU
theorem m9{n:Nat}{L:List (List Nat)}(hf:∀ws∈L,af.bJ n ws):jj (L.map fun ws=>⟨n,ws⟩):=by
 intro t ht
 obtain⟨ws,Ix,rfl⟩:=List.mem_map.1 ht
 refine⟨⟨by simp,by simpa using hf ws Ix⟩,?_⟩
 cases L with
 |nil=>simp at Ix
 |cons a b=>rfl
theorem BJ{ts:List Tb}(h:jj ts)(hne:ts≠[]):∃(n:Nat) (L:List (List Nat)),n≤16∧ts=L.map (fun ws=>⟨n,ws⟩)∧L≠[]∧∀ws∈L,af.bJ n ws:=by
 cases ts with
 |nil=>exact absurd rfl hne
 |cons t r=>
  have ht:=(h t (by simp)).1
  have hn:∀u∈t::r,u.n=t.n:=fun u hu=>by have:=(h u hu).2;simpa using this
  refine⟨t.n.toNat,(t::r).map Tb.ws,ht.2.jR,?_,by simp,fun ws Ix=>?_⟩
  ·rw[List.map_map]
   conv=>lhs;rw[←List.map_id (t::r)]
   apply List.map_congr_left
   intro u hu
   have h1:=hn u hu
   have h2:=ht.1
   obtain⟨un,uw⟩:=u
   simp only[Function.comp,id]at h1⊢
   congr 1;omega
  ·obtain⟨u,hu,rfl⟩:=List.mem_map.1 Ix
   have:=(h u hu).1.2
   rwa [hn u hu]at this
end Go.Proofs
namespace aT
theorem Rm.ou(m:Rm):∀ls ord,m.dJ 0 ls ord=ls.take (m.dJ 0 ls ord).length
 | [],_=>rfl
 |c::cs,ord=>by
  by_cases hf:m.fit ord (0+c)=true
  ·have:=m.ou cs (ew ord (0+c))
   rw[dJ,if_pos hf,List.length_cons,List.take_succ_cons,←this,Nat.zero_add]
  ·rw[dJ,if_neg hf];simp
def Rm.can(m:Rm)(ord ls:List Nat):Bool:=decide ((m.dJ 0 ls ord).length=ls.length)
theorem Rm.Ht(m:Rm){ord ls:List Nat}{i:Nat}(hi:i<(m.dJ 0 ls ord).length){l:Nat}(hl:ls[i]? =some l):m.fit (cj ord (ls.take i)) l=true:=by
 obtain⟨_,c,h1,h2⟩:=m.wv 0 ls ord i hi
 rw[hl]at h1;cases h1
 rw[m.ou,List.take_take,Nat.min_eq_left (Nat.le_of_lt hi),Nat.zero_add]at h2
 exact h2
theorem Rm.DP(m:Rm){ord ls:List Nat}{l:Nat}(hl:ls[(m.dJ 0 ls ord).length]? =some l):m.fit (cj ord (ls.take (m.dJ 0 ls ord).length)) l=false:=by
 have:=m.wx 0 ls ord l hl
 rw[Nat.zero_add]at this
 rw[←m.ou]
 exact this
theorem jP{α:Type}[DecidableEq α]:∀{l p:List α},l.Nodup→(∀x∈l,x∈p)→p.length≤l.length→l.Perm p
 | [],p,_,_,h=>by
  have:p=[]:=List.length_eq_zero_iff.1 (by simpa using h)
  subst this;exact .refl _
 |x::t,p,hn,hs,hl=>by
  have hx:=hs x (by simp)
  have hp:=List.perm_cons_erase hx
  have hlen:(p.erase x).length=p.length-1:=List.length_erase_of_mem hx
  have hpos:=List.length_pos_of_mem hx
  refine(List.Perm.cons x (jP (List.nodup_cons.1 hn).2 (fun y hy=>?_) (by simp only[List.length_cons]at hl;omega))).trans hp.symm
  refine(List.mem_erase_of_ne fun e=>?_).2 (hs y (by simp[hy]))
  subst e;exact(List.nodup_cons.1 hn).1 hy
end aT
set_option maxRecDepth 100000
namespace Go.Proofs
open Go Go.Sx
open aT
theorem vQ{l:List Nat}(h:l.Nodup):(iw l).Nodup:=List.pairwise_map.2 (h.imp fun hne e=>hne (Int.ofNat.inj e))
theorem k7{p:List Int}:g6 p↔p.Perm (iw (List.range p.length)):=by
 constructor
 ·intro h
  refine(jP (vQ List.nodup_range) (fun x hx=>?_) (by rw[ah,List.length_range];exact Nat.le_refl _)).symm
  obtain⟨k,hk,rfl⟩:=List.mem_map.1 hx
  exact h k (List.mem_range.1 hk)
 ·intro h v hv
  exact h.mem_iff.2 (List.mem_map.2 ⟨v,List.mem_range.2 hv,rfl⟩)
theorem Ia{p:List Int}(hn:p.Nodup)(h:∀x∈p,0≤x∧x<(p.length:Int)):g6 p:=by
 refine k7.2 (jP hn (fun x hx=>?_) (by rw[ah,List.length_range];exact Nat.le_refl _))
 obtain⟨h1,h2⟩:=h x hx
 exact List.mem_map.2 ⟨x.toNat,List.mem_range.2 (by omega),by show((x.toNat:Nat):Int)=x;omega⟩
theorem rE{p:List Int}(h:g6 p){x:Int}(hx:x∈p):0≤x∧x<(p.length:Int):=by
 have:=(k7.1 h).mem_iff.1 hx
 obtain⟨k,hk,rfl⟩:=List.mem_map.1 this
 have:=List.mem_range.1 hk
 show(0:Int)≤(k:Int)∧(k:Int)<_
 omega
theorem xe{p:List Int}(h:g6 p):p.Nodup:=(k7.1 h).nodup_iff.2 (vQ List.nodup_range)
theorem Eb{p:List Int}(h:g6 p):∃q:List Nat,p=iw q∧q.Perm (List.range p.length):=by
 have e:iw (p.map Int.toNat)=p:=by
  unfold iw
  rw[List.map_map]
  conv=>rhs;rw[←List.map_id p]
  apply List.map_congr_left
  intro x hx
  have:=rE h hx
  show((x.toNat:Nat):Int)=x
  omega
 refine⟨p.map Int.toNat,e.symm,?_⟩
 have:=(k7.1 h).map Int.toNat
 have e2:(iw (List.range p.length)).map Int.toNat=List.range p.length:=by
  unfold iw;rw[List.map_map]
  conv=>rhs;rw[←List.map_id (List.range p.length)]
  exact List.map_congr_left fun x _=>rfl
 rw[e2]at this;exact this
theorem FM{p:List Int}{i n W:Nat}(hi:i<p.length)(hn:p[i]=(n:Int))(hw:n<W):((List.range W).map fun k=>decide (((k:Nat):Int)∈p.take i)).set n true=(List.range W).map fun k=>decide (((k:Nat):Int)∈p.take (i+1)):=by
 apply List.ext_getElem?
 intro j
 rw[List.take_succ_eq_append_getElem hi,hn]
 by_cases hj:j<W
 ·by_cases e:n=j
  ·subst e;rw[List.getElem?_set_self (by simpa using hw)];simp[hw]
  ·rw[List.getElem?_set_ne e]
   simp only[List.getElem?_map,List.getElem?_range hj,Option.map_some,List.mem_append,List.mem_singleton]
   congr 1
   have:¬((j:Nat):Int)=(n:Int):=by omega
   simp[this]
 ·rw[List.getElem?_eq_none (by simp;omega),List.getElem?_eq_none (by simp;omega)]
theorem CY{p:List Int}{W:Nat}:List.replicate W false=(List.range W).map fun k=>decide (((k:Nat):Int)∈p.take 0):=by
 apply List.ext_getElem?
 intro j
 by_cases hj:j<W
 ·simp[hj]
 ·rw[List.getElem?_eq_none (by simp;omega),List.getElem?_eq_none (by simp;omega)]
theorem fw{B:Hp}{v:Value}{p:List Int}(h:bL .i64 B v p)(aU:p.length≤70368744177664):Rd Tryz.prog 101 #[v] B (fun r=>(r=.int .i64 0∧g6 p∧p.length≤64)∨(r=.int .i64 13∧g6 p∧64<p.length)∨(r=.int .i64 4∧¬g6 p)):=by
 refine aX fun g=>Bj ?_
 refine h.aM (bD.nM (by omega) fun b=>h.aM ?_)
 rw[CY (p:=p)]
 refine⟨fun vs H=>∃i:Nat,vs=[.int .i64 (i:Int)]∧H=(b,.cells (cr ((List.range p.length).map fun k=>decide (((k:Nat):Int)∈p.take i))) 4 (0,0))::B∧i≤p.length∧(p.take i).Nodup∧∀x∈p.take i,0≤x∧x<(p.length:Int),fun vs _=>p.length-aV vs 0,
  JE.mk ⟨0,rfl,rfl,Nat.zero_le _,by simp,by simp⟩,?_⟩
 rintro w H ⟨i,⟨⟩,rfl,hi,fT,hin⟩ gs
 refine aa.dn (Br.dec (fun hlt=>?_) (fun hlt=>?_))
 ·refine h.ld (List.getElem?_eq_getElem hlt) (fun _ h=>.tail _ h) ?_
  obtain⟨x,hx⟩:∃x,p[i]=x:=⟨_,rfl⟩
  have WW:x∈p:=by rw[←hx];exact List.getElem_mem hlt
  rw[hx]
  have hB:=kB.block (b:=b) (cap:=p.length) (l:=(List.range p.length).map fun k=>decide (((k:Nat):Int)∈p.take i)) (T:=4) (fz:=(0,0)) (B:=(b,.cells (cr ((List.range p.length).map fun k=>decide (((k:Nat):Int)∈p.take i))) 4 (0,0))::B) (.head _) (by simp)
  rw[List.length_map,List.length_range]at hB
  refine aa.lss ?_
  refine dI.or (decide ((p.length:Int)≤x)) (fun _=>h.aM (aa.geq ⟨rfl,rfl⟩)) (by simp) fun gs=>?_
  rw[←Bool.decide_or]
  refine dI.or (decide (x∈p.take i)) (fun hno=>?_) (by simp) fun gs=>?_
  ·have DB:=of_decide_eq_false hno
   obtain⟨n,rfl⟩:∃n:Nat,x=n:=⟨x.toNat,by omega⟩
   refine hB.ld (b:=decide (((n:Nat):Int)∈p.take i)) ?_ (fun _ h=>h) ⟨rfl,rfl⟩
   rw[List.getElem?_map,List.getElem?_range (by omega)];rfl
  rw[←Bool.decide_or]
  refine Br.dec (fun Ka=>bO.mk .tail (.inr (.inr ⟨rfl,fun ha=>?_⟩))) (fun v9=>?_)
  ·have h1:=rE ha WW
   rcases Ka with hb|hb
   ·omega
   ·have h2:=xe ha
    rw[←List.take_append_drop i p,List.nodup_append]at h2
    refine h2.2.2 x hb x ?_ rfl
    rw[List.drop_eq_getElem_cons hlt,hx];exact .head _
  ·obtain⟨n,rfl⟩:∃n:Nat,x=n:=⟨x.toNat,by omega⟩
   refine aj.nat (by omega) ?_
   refine St.nM (l:=(List.range p.length).map fun k=>decide (((k:Nat):Int)∈p.take i)) (.head _) (by simp;omega) ?_
   rw[FM hlt hx (by omega)]
   refine aa.inc ?_
   refine aq.mk ⟨i+1,rfl,rfl,hlt,?_,fun x Lg=>?_⟩ (by simp only[aV];omega)
   ·rw[List.take_succ_eq_append_getElem hlt,hx,List.nodup_append]
    exact⟨fT,by simp,fun a ha b hb e=>by simp at hb;subst hb;subst e;exact v9 (.inr ha)⟩
   ·rw[List.take_succ_eq_append_getElem hlt,hx,List.mem_append,List.mem_singleton]at Lg
    rcases Lg with Lg|rfl
    ·exact hin x Lg
    ·omega
 ·obtain rfl:i=p.length:=by omega
  rw[List.take_length]at fT hin
  have aA:=Ia fT hin
  refine h.aM (aa.iR (b:=64) (Br.dec (fun hg=>bO.mk .tail (.inr (.inl ⟨rfl,aA,hg⟩))) (fun hg=>bO.mk .tail (.inl ⟨rfl,aA,by omega⟩))))
theorem CW{B:Hp}{v:Value}{p:List Int}{x:Int}(h:bL .i64 B v p)(aU:p.length<4611686018427387904):Rd Tryz.prog 179 #[v,.int .i64 x] B (· =.int .i64 (if x∈p then((p.idxOf x:Nat):Int)else-1)):=by
 refine aX fun g=>Av ?_
 refine h.aM ?_
 refine⟨fun vs H=>∃i:Nat,vs=[.int .i64 (i:Int)]∧H=B∧i≤p.length∧x∉p.take i,fun vs _=>p.length-aV vs 0,JE.mk ⟨0,rfl,rfl,Nat.zero_le _,by simp⟩,?_⟩
 rintro w H ⟨i,⟨⟩,rfl,hi,hq⟩ gs
 refine aa.dn (Br.dec (fun hlt=>?_) (fun hlt=>?_))
 ·refine h.ld (List.getElem?_eq_getElem hlt) (fun _ h=>h) ?_
  refine aa.j5 (Br.dec (fun he=>bO.mk (.refl _) ?_) (fun he=>?_))
  ·rw[if_pos (by rw[he];exact List.getElem_mem hlt),GB hq hlt he.symm]
  ·refine aa.inc ?_
   refine aq.of (.refl _) ⟨i+1,rfl,rfl,hlt,?_⟩ (by simp only[aV];omega)
   rw[List.take_succ_eq_append_getElem hlt,List.mem_append,List.mem_singleton]
   rintro(h|h)
   ·exact hq h
   ·exact he h
 ·refine bO.mk (.refl _) ?_
  rw[List.take_of_length_le (by omega)]at hq
  rw[if_neg hq]
theorem KD{B:Hp}{v1 v2:Value}{p q:List Nat}{n:Nat}(h1:bL .i64 B v1 (iw p))(h2:bL .i64 B v2 (iw q))(hp:p.Perm (List.range n))(hq:q.Perm (List.range n))(hn:n≤64):Rd Tryz.prog 178 #[v1,v2] B (· =.int .i64 0):=by
 have e1:p.length=n:=by rw[hp.length_eq,List.length_range]
 have e2:q.length=n:=by rw[hq.length_eq,List.length_range]
 refine aX fun g=>Aw ?_
 refine ae.rq (fw h1 (by rw[ah];omega)) ?_
 rintro v (⟨rfl,_,_⟩|⟨_,_,hl⟩|⟨_,hno⟩)
 rotate_left
 ·rw[ah]at hl;omega
 ·exact absurd (rD hp) hno
 refine ae.rq (fw h2 (by rw[ah];omega)) ?_
 rintro v (⟨rfl,_,_⟩|⟨_,_,hl⟩|⟨_,hno⟩)
 rotate_left
 ·rw[ah]at hl;omega
 ·exact absurd (rD hq) hno
 refine aa.j5 ?_
 refine dI.or false (fun _=>aa.j5 ⟨rfl,rfl⟩) rfl fun gs=>?_
 refine dI.or false (fun _=>?_) rfl fun gs=>Br.no ?_
 ·refine h1.aM (h2.aM (aa.nU ⟨rfl,?_⟩))
  rw[ah,ah,decide_eq_false (by omega)]
 ·exact⟨.i64,0,0,rfl,rfl,bO.mk (.refl _) rfl⟩
end Go.Proofs
set_option maxRecDepth 100000
namespace Go.Proofs
open Go Go.Sx
open aT
theorem vG(n:Nat)(ord:List Nat)(L:af.Fs)(k:Nat):(fK n ord L k).length≤2^k*L.length:=Nat.le_trans (List.length_filter_le _ _) (pO k)
theorem sK(n:Nat)(ord:List Nat)(L:af.Fs):∀m,bF n ord L m+L.length≤2^m*L.length
 |0=>by show 0+L.length≤1*L.length;omega
 |m+1=>by
  have ih:=sK n ord L m
  have h:=vG n ord L m
  show bF n ord L m+(fK n ord L m).length+L.length≤_
  rw[Nat.pow_succ]
  have:2^m*2*L.length=2*(2^m*L.length):=by rw[Nat.mul_comm (2^m) 2,Nat.mul_assoc]
  omega
def jN(n:Nat)(ord:List Nat)(L:af.Fs)(m:Nat):List Nat:=(List.range m).map fun k=>(fK n ord L k).length
theorem xQ(n:Nat)(ord:List Nat)(L:af.Fs)(m:Nat):jN n ord L (m+1)=jN n ord L m++[(fK n ord L m).length]:=by
 unfold jN;rw[List.range_succ,List.map_append];rfl
theorem xP{B:Hp}{v o:Value}{n:Nat}{L:List (List Nat)}{ord:List Nat}(ht:bH B v (L.map fun ws=>⟨n,ws⟩))(hf:∀ws∈L,af.bJ n ws)(jb:n≤16)(aU:L.length<1048576)(ho:bL .i64 B o (iw ord))(sg:ord.length=n)(hA:g6 (iw ord)):
  Px Tryz.prog 99 #[v,o] B (fun r H=>∃s,r=.tuple #[s,.int .i64 0]∧bL .i64 H s (iw (jN n ord L n))):=by
 refine aX fun g=>tG ?_
 refine ae.eq (iU ht (by simp;omega)) ?_
 rw[decide_eq_true (m9 hf)]
 refine Un.not (Br.no ?_)
 intro J hJ
 have fin:J [.bool false] B:=by
  refine hJ _ _ fun gs=>Br.no ?_
  clear hJ
  refine ho.aM ?_
  rw[ah,sg]
  refine aa.iR (b:=16) (Br.F ?_)
  refine ae.fq (sP ht rfl hf (by omega)) ?_
  rintro r H ⟨b,es,ck,m,N,rfl,rfl,hE,hm⟩
  refine ho.aM ?_
  rw[ah,sg]
  have hbound:∀k,k≤n→∀m:List (List UInt8×List Nat),(m.map Prod.snd).Nodup→(∀x,x∈m.map Prod.snd↔x∈cur n ord L k)→m.length<4611686018427387904:=by
   intro k hk m fT hmem
   have h1:=(af.dX fT (kY k) hmem).length_eq
   have h2:=pO (n:=n) (ord:=ord) (L:=L) k
   have h3:2^k≤2^16:=Nat.pow_le_pow_right (by decide) (by omega)
   have h4:2^k*L.length≤2^16*L.length:=Nat.mul_le_mul_right _ h3
   rw[List.length_map]at h1
   omega
  refine⟨fun vs H=>∃(k:Nat) (s:Value) (b:Nat) (es:Array MapEntry) (ck:Nat) (m:List (List UInt8×List Nat)) (CS N:Hp),vs=[s,.map (some b),.int .i64 (k:Int)]∧k≤n∧H=CS++((b,.map es ck)::(N++B))∧aK 3 .i64 s (iw (jN n ord L k)) CS∧eE n (N++B) es ck m∧∀x,x∈m.map Prod.snd↔x∈cur n ord L k,
   fun vs _=>n-aV vs 2,JE.mk ⟨0,_,b,es,ck,m,[],N,rfl,by omega,rfl,aK.nil,hE,fun x=>by rw[hm];exact af.bW.symm⟩,?_⟩
  clear hm hE
  rintro Wk Wj Zr H ⟨k,s,b,es,ck,m,CS,N,⟨⟩,hk,rfl,hs,hE,hm⟩ gs
  have wm:=hE.mono (B':=(b,Obj.map es ck)::(N++B)) zS
  refine aa.dn (Br.dec (fun hlt=>?_) (fun hlt=>?_))
  ·refine ho.ld (n:=((ord.getD k 0:Nat):Int)) (bf (by omega)) (fun _ h=>List.mem_append_right _ (.tail _ (List.mem_append_right _ h))) ?_
   have ei:ord.getD k 0<n:=by
    have hmem:((ord.getD k 0:Nat):Int)∈iw ord:=List.mem_of_getElem? (bf (by omega))
    have:=rE hA hmem
    rw[ah,sg]at this;omega
   refine ae.fq (qR (.head _) wm ei (hbound k hk m hE.nodup hm)) ?_
   rintro r H ⟨b',es',c8,m',N',rfl,rfl,pB,hm'⟩
   refine Ext.two ?_
   have Nj:(af.nodes n (m.map Prod.snd) (ord.getD k 0)).length=(fK n ord L k).length:=af.gz (af.dX hE.nodup (kY k) hm)
   have hle:(fK n ord L k).length≤65536*1048576:=Nat.le_trans (vG n ord L k) (Nat.mul_le_mul (Nat.le_trans (Nat.pow_le_pow_right (by decide) (show k≤16 by omega)) (by decide)) (by omega))
   rw[Nj]
   refine an.int (e:=3) (by kernel_rfl) (by kernel_rfl) (by kernel_rfl) fun bx=>?_
   have oU:(jN n ord L k).length=k:=by simp[jN]
   refine hs.nO (x:=(((fK n ord L k).length:Nat):Int)) (.cons .left) (by exact .head _) (by rw[ah,oU];omega) (by rw[ah,oU];omega) fun s' Fe hs'=>?_
   refine aa.inc ?_
   refine aq.of .tail ⟨k+1,s',b',es',c8,m',Fe,N'++(b,.map es ck)::N,rfl,by omega,by rw[List.append_assoc];rfl,?_,by rw[List.append_assoc];exact pB,fun x=>?_⟩ (by simp only[aV];omega)
   ·rw[xQ,bY];exact hs'
   ·rw[hm']
    show _↔x∈af.given n (cur n ord L k) (ord.getD k 0)
    rw[af.bu]
    constructor
    ·rintro⟨t,h1,h2⟩;exact⟨t,(hm t).1 h1,h2⟩
    ·rintro⟨t,h1,h2⟩;exact⟨t,(hm t).2 h1,h2⟩
  ·obtain rfl:k=n:=by omega
   refine js.mk (.app (.cons (.app (.refl _)))) ⟨_,rfl,hs.ints.mono fun _ h=>List.mem_append_left _ h⟩
 refine ht.aM ?_
 rw[List.length_map]
 refine aa.iR (b:=0) ?_
 by_cases hne:L=[]
 ·subst hne
  refine Split.xU rfl (ay.mk ?_)
  refine ae.rq (fw ho (by rw[ah,sg];omega)) ?_
  rintro w (⟨rfl,_,_⟩|⟨rfl,_,hl⟩|⟨rfl,hno⟩)
  rotate_left
  ·rw[ah]at hl;omega
  ·exact absurd hA hno
  exact aa.j5 (ay.mk (JE.mk fin))
 have hpos:0<L.length:=List.length_pos_iff.2 hne
 obtain⟨w0,nr⟩:∃w0,L[0]? =some w0:=⟨_,List.getElem?_eq_getElem hpos⟩
 rw[decide_eq_true hpos]
 refine Split.go rfl ?_
 refine ho.aM ?_
 rw[ah,sg]
 refine ht.MB (i:=0) (t:=⟨n,w0⟩) (by rw[List.getElem?_map,nr];rfl) (fun _ h=>h) ?_
 refine aa.gA (ay.mk ?_)
 rw[decide_eq_false (by simp)]
 refine Split.go rfl ?_
 refine ae.rq (fw ho (by rw[ah,sg];omega)) ?_
 rintro w (⟨rfl,_,_⟩|⟨rfl,_,hl⟩|⟨rfl,hno⟩)
 rotate_left
 ·rw[ah]at hl;omega
 ·exact absurd hA hno
 exact aa.j5 (ay.mk (JE.mk fin))
theorem I9{B:Hp}{v o:Value}{n:Nat}{L:List (List Nat)}{ord:List Nat}(ht:bH B v (L.map fun ws=>⟨n,ws⟩))(hf:∀ws∈L,af.bJ n ws)(jb:n≤16)(aU:L.length<1048576)(ho:bL .i64 B o (iw ord))(sg:ord.length=n)(hA:g6 (iw ord)):
  Px Tryz.prog 38 #[v,o] B (fun r H=>r=.tuple #[.int .i64 ((bF n ord L n:Nat):Int),.int .i64 0]):=by
 refine aX fun g=>tJ ?_
 refine ae.pq (xP ht hf jb aU ho sg hA) ?_
 rintro w N ⟨s,rfl,hs⟩
 refine Ext.two ?_
 refine hs.aM ?_
 have oU:∀k,(jN n ord L k).length=k:=fun k=>by simp[jN]
 rw[ah,oU]
 refine⟨fun vs H=>∃k:Nat,vs=[.int .i64 ((bF n ord L k:Nat):Int),.int .i64 (k:Int)]∧k≤n∧H=N++B,fun vs _=>n-aV vs 1,JE.mk ⟨0,rfl,by omega,rfl⟩,?_⟩
 rintro OA Oz H ⟨k,⟨⟩,hk,rfl⟩ gs
 refine aa.dn (Br.dec (fun hlt=>?_) (fun hlt=>?_))
 ·have hg:(jN n ord L n)[k]? =some (fK n ord L k).length:=by
   unfold jN
   rw[List.getElem?_map,List.getElem?_range hlt];rfl
  refine hs.ld (n:=(((fK n ord L k).length:Nat):Int)) (bT hg) (fun _ h=>h) ?_
  have hsz:∀m,m≤16→bF n ord L m≤65536*1048576:=fun m hm=>by
   have:=sK n ord L m
   have h2:2^m*L.length≤65536*1048576:=Nat.mul_le_mul (Nat.le_trans (Nat.pow_le_pow_right (by decide) hm) (by decide)) (by omega)
   omega
  have h1:=hsz (k+1) (by omega)
  have e1:bF n ord L (k+1)=bF n ord L k+(fK n ord L k).length:=rfl
  refine aa.ef ?_
  refine aa.inc ?_
  exact aq.mk ⟨k+1,rfl,by omega,rfl⟩ (by simp only[aV];omega)
 ·obtain rfl:k=n:=by omega
  exact js.mk (.app (.refl _)) rfl
end Go.Proofs
namespace Go.Sx
open Go
section
variable {P:Program} {g:Gh} {H:Hp}
theorem an.Ms{t e:TypeId}{z:Value}{a b c d:Value}{K:Value→Hp→Prop}(h1:P.underlying t=some (.slice e))(h2:cN P e=some 2)(h3:dM P e=some z)
 (h:∀x,K (.slice (some ⟨x,0,Option.none⟩) 2 2) ((x,.cells (rows [[a,b],[c,d]]) e (0,0))::H)):an P t 2 [(0,.agg #[a,b]),(1,.agg #[c,d])] H K:=by
 refine⟨rows [[a,b],[c,d]],e,2,z,h1,h2,h3,by decide,?_,fun b _=>h b⟩
 have e1:Array.range (2*2)=#[0,1,2,3]:=rfl
 simp[Instr.fill,Value.cells,rows,e1]
theorem an.Mr{t e:TypeId}{z:Value}{a b c d x y:Value}{K:Value→Hp→Prop}(h1:P.underlying t=some (.slice e))(h2:cN P e=some 2)(h3:dM P e=some z)
 (h:∀u,K (.slice (some ⟨u,0,Option.none⟩) 3 3) ((u,.cells (rows [[a,b],[c,d],[x,y]]) e (0,0))::H)):an P t 3 [(0,.agg #[a,b]),(1,.agg #[c,d]),(2,.agg #[x,y])] H K:=by
 refine⟨rows [[a,b],[c,d],[x,y]],e,2,z,h1,h2,h3,by decide,?_,fun b _=>h b⟩
 have e1:Array.range (3*2)=#[0,1,2,3,4,5]:=rfl
 simp[Instr.fill,Value.cells,rows,e1]
theorem an.O9{t e:TypeId}{kd:IntKind}{x y z u:Int}{K:Value→Hp→Prop}(h1:P.underlying t=some (.slice e))(h2:cN P e=some 1)(h3:dM P e=some (.int kd 0))
 (h:∀b,K (.slice (some ⟨b,0,Option.none⟩) 4 4) ((b,.cells (aC kd [x,y,z,u]) e (0,0))::H)):an P t 4 [(0,.int kd x),(1,.int kd y),(2,.int kd z),(3,.int kd u)] H K:=by
 refine⟨aC kd [x,y,z,u],e,1,_,h1,h2,h3,by decide,?_,fun b _=>h b⟩
 have e1:Array.range (4*1)=#[0,1,2,3]:=rfl
 simp[Instr.fill,Value.cells,aC,e1]
theorem aN.made{T:TypeId}{k b:Nat}(rs:List (List Value))(h:∀r∈rs,r.length=k):aN T k (.slice (some ⟨b,0,none⟩) rs.length rs.length) rs [(b,.cells (rows rs) T (0,0))]:=
 .inr ⟨b,[],by simp,by simp,by simpa using h⟩
end
end Go.Sx
namespace aT
open af
variable {n:Nat} {F:Nat→Nat} {ws us rs:List Nat}
def sY(n:Nat)(F:Nat→Nat):List Nat:=(List.range (wN n)).map fun i=>F i&&&bI n
theorem kQ(hn:n≤16):bJ n (sY n F):=by
 refine⟨hn,by simp[sY],fun w hw=>?_⟩
 obtain⟨i,_,rfl⟩:=List.mem_map.1 hw
 exact Nat.and_le_right
theorem Ds{x:Nat}(hx:x<2^n):bit (sY n F) x=(F (x/64)).testBit (x%64):=by
 have hi:=nh hx
 unfold bit
 have fy:(sY n F).getD (x/64) 0=F (x/64) &&&bI n:=by simp[sY,hi]
 rw[fy,Nat.testBit_and,dW]
 have P3:decide (x%64<if 6≤n then 64 else 2^n)=true:=by
  rw[decide_eq_true_eq]
  split
  ·exact Nat.mod_lt _ (by decide)
  ·have h1:2^n≤32:=Nat.pow_le_pow_right (n:=2) (by decide) (by omega:n≤5)
   omega
 rw[P3,Bool.and_true]
theorem nD{f:Fn}(h:∀x,x<2^n→(F (x/64)).testBit (x%64)=f x)(hf:∀x,f (x%2^n)=f x):dK n (sY n F)=f:=by
 funext x
 unfold dK
 have hx:x%2^n<2^n:=Nat.mod_lt _ (Nat.two_pow_pos n)
 rw[Ds hx,h _ hx,hf]
theorem nC(x:Nat):dK n ws (x%2^n)=dK n ws x:=by unfold dK;rw[Nat.mod_mod]
theorem jE{x:Nat}(hx:x<2^n):(ws.getD (x/64) 0).testBit (x%64)=dK n ws x:=by
 unfold dK bit;rw[Nat.mod_eq_of_lt hx]
theorem vp{j:Nat}(hj:j<64):(18446744073709551615:Nat).testBit j=true:=by
 have:(18446744073709551615:Nat)=2^64-1:=by decide
 rw[this,Nat.testBit_two_pow_sub_one];simpa using hj
theorem ua{w j:Nat}(hw:w<18446744073709551616)(hj:j<64):(18446744073709551615-w).testBit j= !w.testBit j:=by
 have e:(18446744073709551615-w)=2^64-(w+1):=by
  have:(2:Nat)^64=18446744073709551616:=by decide
  omega
 rw[e,Nat.testBit_two_pow_sub_succ (by
  have:(2:Nat)^64=18446744073709551616:=by decide
  omega)]
 simp[hj]
end aT
set_option maxRecDepth 100000
namespace Go.Proofs
open Go Go.Sx
open aT
section
variable {B:Hp}
def fM(B:Hp)(v:Value)(n:Nat)(f:aT.Fn):Prop:=∃ws,ig B v ⟨n,ws⟩∧af.bJ n ws∧dK n ws=f
theorem fM.mono{B B':Hp}{v:Value}{n:Nat}{f:aT.Fn}(h:fM B v n f)(hs:∀x∈B,x∈B'):fM B' v n f:=let ⟨ws,h1,h2,h3⟩:=h;⟨ws,h1.mono hs,h2,h3⟩
theorem wP{n:Nat}(hn:n≤16)(B:Hp):Rd Tryz.prog 211 #[.int .i64 (n:Int)] B (· =.int .i64 0):=by
 refine aX fun g=>Ag ?_
 exact aa.lss (Br.F (aa.iR (b:=16) (Br.F (bO.mk (.refl _) rfl))))
theorem xI{b:Bool}{p:Value}{i:Int}(hb:Go.Sx.At B p [.bool b]):Rd Tryz.prog 213 #[.int .i64 i,p] B (· =.int .u64 (((if b then 18446744073709551615 else 0:Nat)):Int)):=by
 refine aX fun g=>Ae ?_
 refine Ld.at hb (fun _ h=>h) ?_
 cases b
 ·exact Br.no (bO.mk (.refl _) rfl)
 ·exact Br.yes (bO.mk (.refl _) rfl)
theorem sF{n:Nat}(hn:n≤16)(b:Bool)(B:Hp):Px Tryz.prog 147 #[.int .i64 (n:Int),.bool b] B (fun r H=>∃v,r=.tuple #[v,.int .i64 0]∧fM H v n (fun _=>b)):=by
 refine aX fun g=>AY ?_
 intro b1 _ b3 _
 refine ae.eq (wP hn _) ?_
 refine aa.gA (Br.F ?_)
 refine ae.pq (nk hn rfl (by kernel_rfl) (F:=fun _=>if b then 18446744073709551615 else 0) (fun i _=>by cases b<;>decide) (B:=(b1,.cells #[.bool b] 4 (0,0))::B) fun i _=>xI (Go.Sx.At.block (l:=[.bool b]) zM)) ?_
 rintro v N ⟨s,rfl,hw⟩
 refine St.p ?_ ?_
 ·have:=av hw;simpa[Value.oneCell']using this
 refine ax.q ?_
 refine js.mk (by repeat (first|exact aH.refl _|apply aH.cons|apply aH.app)) ⟨_,rfl,_,⟨s,rfl,hw.mono zS⟩,kQ hn,nD (fun x hx=>?_) (fun x=>rfl)⟩
 cases b
 ·exact Nat.zero_testBit _
 ·exact vp (Nat.mod_lt _ (by decide))
theorem Fu{v i:Nat}{p:Value}(hv:v<64)(hi:i<9223372036854775808)(hb:Go.Sx.At B p [.int .i64 (v:Int)]):Rd Tryz.prog 218 #[.int .i64 (i:Int),p] B (· =.int .u64 ((if 6≤v then(if(i>>>(v-6)).testBit 0 then 18446744073709551615 else 0)else af.mask v:Nat):Int)):=by
 refine aX fun g=>Aa ?_
 refine Ld.at hb (fun _ h=>h) ?_
 refine ae.eq (tx hv (by omega) hi B) ?_
 exact bO.mk (.refl _) rfl
theorem IW{n v:Nat}(hn:n≤16)(hv:v<n)(B:Hp):Px Tryz.prog 153 #[.int .i64 (n:Int),.int .i64 (v:Int)] B (fun r H=>∃t,r=.tuple #[t,.int .i64 0]∧fM H t n (fun x=>x.testBit v)):=by
 refine aX fun g=>AT ?_
 intro b1 _ b3 _
 refine ae.eq (wP hn _) ?_
 refine aa.gA (Br.F ?_)
 refine Ld.q ?_
 refine aa.lss ?_
 rw[decide_eq_false (by omega)]
 refine dI.or (a:=false) false (fun _=>?_) rfl fun gs=>Br.no ?_
 ·refine Ld.q ?_
  exact aa.mS ⟨rfl,by rw[decide_eq_false (by omega)]⟩
 have MK:=af.oK hn
 refine ae.pq (nk hn rfl (by kernel_rfl) (F:=fun i=>if 6≤v then(if(i>>>(v-6)).testBit 0 then 18446744073709551615 else 0)else af.mask v) (fun i _=>by
  have:=af.pH v
  split
  ·split<;>decide
  ·exact this) (B:=(b1,.cells #[.int .i64 (v:Int)] 3 (0,0))::B) fun i hi=>Fu (by omega) (by omega) (Go.Sx.At.block (l:=[.int .i64 (v:Int)]) zM)) ?_
 rintro w N ⟨s,rfl,hw⟩
 refine St.p ?_ ?_
 ·have:=av hw;simpa[Value.oneCell']using this
 refine ax.q ?_
 refine js.mk (by repeat (first|exact aH.refl _|apply aH.cons|apply aH.app)) ⟨_,rfl,_,⟨s,rfl,hw.mono zS⟩,kQ hn,nD (fun x hx=>?_) (fun x=>?_)⟩
 ·have hj:x%64<64:=Nat.mod_lt _ (by decide)
  have WZ:x=64*(x/64)+x%64:=by omega
  by_cases h6:6≤v
  ·rw[if_pos h6]
   have e:x.testBit v=((x/64)>>>(v-6)).testBit 0:=by
    rw[Nat.testBit_shiftRight,Nat.add_zero]
    have:=Nat.testBit_div_two_pow (n:=6) x (v-6)
    rw[show(2:Nat)^6=64 from rfl]at this
    rw[this];congr 1;omega
   rw[e]
   cases ((x/64)>>>(v-6)).testBit 0
   ·exact Nat.zero_testBit _
   ·exact vp hj
  ·rw[if_neg h6,af.cL]
   have:=Nat.testBit_mod_two_pow x 6 v
   rw[show(2:Nat)^6=64 from rfl]at this
   rw[this]
   simp[hj];omega
 ·rw[Nat.testBit_mod_two_pow];simp[hv]
end
end Go.Proofs
set_option maxRecDepth 100000
namespace Go.Proofs
open Go Go.Sx
open aT
section
variable {B:Hp}
theorem eL{n i:Nat}{ws:List Nat}(hf:af.bJ n ws):ws.getD i 0<18446744073709551616:=by
 by_cases h:i<ws.length
 ·rw[List.getD_eq_getElem?_getD,List.getElem?_eq_getElem h];exact hf.lt (List.getElem_mem h)
 ·rw[List.getD_eq_getElem?_getD,List.getElem?_eq_none (by omega)];decide
theorem iE{n i:Nat}{ws:List Nat}(hf:af.bJ n ws)(hi:i<af.wN n):ws[i]? =some (ws.getD i 0):=by
 rw[List.getD_eq_getElem?_getD,List.getElem?_eq_getElem (by rw[hf.len];exact hi)];rfl
def ru(op w u:Nat):Nat→Nat
 |0=>0
 |k+1=>if op.testBit k then ru op w u k|||([(18446744073709551615-w) &&& (18446744073709551615-u),(18446744073709551615-w) &&&u,w&&& (18446744073709551615-u),w&&&u].getD k 0)else ru op w u k
theorem BH{w u k:Nat}(hw:w<18446744073709551616)(hu:u<18446744073709551616):[(18446744073709551615-w) &&& (18446744073709551615-u),(18446744073709551615-w) &&&u,w&&& (18446744073709551615-u),w&&&u].getD k 0<18446744073709551616:=by
 have h1:∀a b:Nat,a<18446744073709551616→a&&&b<18446744073709551616:=fun a b h=>Nat.lt_of_le_of_lt Nat.and_le_left h
 match k with
 |0=>exact h1 _ _ (by omega)
 |1=>exact h1 _ _ (by omega)
 |2=>exact h1 _ _ hw
 |3=>exact h1 _ _ hw
 |k+4=>exact(by decide:(0:Nat)<18446744073709551616)
theorem pS{op w u:Nat}(hw:w<18446744073709551616)(hu:u<18446744073709551616):∀k,ru op w u k<18446744073709551616
 |0=>by show(0:Nat)<18446744073709551616;decide
 |k+1=>by
  unfold ru
  split
  ·exact Nat.or_lt_two_pow (n:=64) (pS hw hu k) (BH hw hu)
  ·exact pS hw hu k
theorem HX{op w u j:Nat}(hw:w<18446744073709551616)(hu:u<18446744073709551616)(hj:j<64):(ru op w u 4).testBit j=Sq op (w.testBit j) (u.testBit j):=by
 have nw:=ua hw hj
 have nu:=ua hu hj
 simp only[ru,List.getD_cons_zero,List.getD_cons_succ]
 unfold Sq
 cases h0:op.testBit 0<;>cases h1:op.testBit 1<;>cases h2:op.testBit 2<;>cases h3:op.testBit 3<;>
  simp only[if_true,Bool.false_eq_true,if_false,Nat.testBit_or,Nat.testBit_and,nw,nu,Nat.zero_testBit]<;>
  cases w.testBit j<;>cases u.testBit j<;>simp[h0,h1,h2,h3]
theorem Fy{p1 p2 p3 s1 s2:Value}{n i op:Nat}{ws us:List Nat}(h1:Go.Sx.At B p1 [.int .i64 (n:Int),s1])(h2:Go.Sx.At B p2 [.int .i64 (n:Int),s2])(h3:Go.Sx.At B p3 [.int .u8 (op:Int)])(hw:Words B s1 ws)(hu:Words B s2 us)(hf:af.bJ n ws)(hg:af.bJ n us)(hop:op<16)(hi:i<af.wN n):
  Rd Tryz.prog 239 #[.int .i64 (i:Int),p1,p2,p3] B (· =.int .u64 ((ru op (ws.getD i 0) (us.getD i 0) 4:Nat):Int)):=by
 have lw:=eL (i:=i) hf
 have lu:=eL (i:=i) hg
 refine aX fun g=>zL ?_
 refine ag.at h1 fun q hq=>Ld.at hq (fun _ h=>h) ?_
 refine hw.1.ld (bT (iE hf hi)) (fun _ h=>h) ?_
 refine ag.at h2 fun q hq=>Ld.at hq (fun _ h=>h) ?_
 refine hu.1.ld (bT (iE hg hi)) (fun _ h=>h) ?_
 generalize ws.getD i 0=w at*
 generalize us.getD i 0=u at*
 refine Un.Ff lw (Un.Ff lu ?_)
 refine aa.gI (by simp only[aW];omega) (by simp only[aW];omega) ?_
 refine Un.Ff lw ?_
 refine aa.gI (by simp only[aW];omega) (by simp only[aW];omega) ?_
 refine Un.Ff lu ?_
 refine aa.gI (by simp only[aW];omega) (by simp only[aW];omega) ?_
 refine aa.gI (by simp only[aW];omega) (by simp only[aW];omega) ?_
 refine an.O9 (e:=50) (by kernel_rfl) (by kernel_rfl) (by kernel_rfl) fun bx=>?_
 obtain⟨ps,hps⟩:∃ps,ps=[(18446744073709551615-w) &&& (18446744073709551615-u),(18446744073709551615-w) &&&u,w&&& (18446744073709551615-u),w&&&u]:=⟨_,rfl⟩
 have hI:bL .u64 [(bx,Obj.cells (aC .u64 (iw ps)) 50 (0,0))] (.slice (some ⟨bx,0,none⟩) 4 4) (iw ps):=by
  have:=(aK.made (T:=50) (kd:=.u64) (b:=bx) (iw ps)).ints
  have hl:(iw ps).length=4:=by rw[hps];rfl
  rw[hl]at this;exact this
 have oU:ps.length=4:=by rw[hps];rfl
 have hH:(bx,Obj.cells (aC .u64 [((((18446744073709551615-w) &&& (18446744073709551615-u):Nat)):Int),((((18446744073709551615-w) &&&u:Nat)):Int),(((w&&& (18446744073709551615-u):Nat)):Int),((w&&&u:Nat):Int)]) 50 (0,0))=(bx,Obj.cells (aC .u64 (iw ps)) 50 (0,0)):=by rw[hps];rfl
 rw[hH]
 refine az.mk ?_
 refine⟨fun vs H=>∃k:Nat,vs=[.int .u64 ((ru op w u k:Nat):Int),.int .i64 (k:Int)]∧k≤4∧H=(bx,Obj.cells (aC .u64 (iw ps)) 50 (0,0))::B,fun vs _=>4-aV vs 1,JE.mk ⟨0,rfl,by omega,rfl⟩,?_⟩
 rintro Zp Rh H ⟨k,⟨⟩,hk,rfl⟩ gs
 refine aa.dn (b:=4) (Br.dec (fun hlt=>?_) (fun hlt=>?_))
 ·intro J hJ
  refine hI.ld (n:=((ps.getD k 0:Nat):Int)) (bf (by omega)) (fun _ h=>by simp at h;rw[h];exact .head _) ?_
  refine Ld.at h3 (fun _ h=>.tail _ h) ?_
  refine aa.gN (by simp only[aW];omega) ?_
  refine aa.gI (b:=1) (by have:=Nat.shiftRight_le op k;simp only[aW];omega) (by decide) ?_
  have qM:(op>>>k) &&&1=(op.testBit k).toNat:=by
   rw[af.dU,Nat.testBit_shiftRight,Nat.add_zero]
   cases op.testBit k<;>rfl
  rw[qM]
  refine aa.jC (b:=1) ?_
  have Te:ps.getD k 0<18446744073709551616:=by rw[hps];exact BH lw lu
  cases hb:op.testBit k with
  |true=>
   refine Br.T ?_
   refine aa.xW (by simpa only[aW]using pS lw lu k) (by simpa only[aW]using Te) ?_
   refine JE.mk (hJ _ _ fun gs=>?_)
   refine aa.inc ?_
   exact aq.mk ⟨k+1,by rw[ru,if_pos hb,hps],by omega,rfl⟩ (by simp only[aV];omega)
  |false=>
   refine Br.F ?_
   refine JE.mk (hJ _ _ fun gs=>?_)
   refine aa.inc ?_
   exact aq.mk ⟨k+1,by rw[ru,if_neg (by rw[hb];decide)],by omega,rfl⟩ (by simp only[aV];omega)
 ·obtain rfl:k=4:=by omega
  exact bO.mk .tail rfl
theorem OH{bx n:Nat}{s1 s2:Value}{ws us:List Nat}(h1:Words B s1 ws)(h2:Words B s2 us):bH ((bx,.cells (rows [[.int .i64 (n:Int),s1],[.int .i64 (n:Int),s2]]) 57 (0,0))::B) (.slice (some ⟨bx,0,none⟩) 2 2) [⟨n,ws⟩,⟨n,us⟩]:=by
 refine⟨[[.int .i64 (n:Int),s1],[.int .i64 (n:Int),s2]],(Sl.qs (aN.made (T:=57) (k:=2) (b:=bx) _ (by simp)) (by decide)).mono fun _ h=>by simp at h;rw[h];exact .head _,rfl,fun i r x hr hx=>?_⟩
 match i with
 |0=>simp at hr hx;subst hr;subst hx;exact⟨s1,rfl,h1.mono fun _ h=>.tail _ h⟩
 |1=>simp at hr hx;subst hr;subst hx;exact⟨s2,rfl,h2.mono fun _ h=>.tail _ h⟩
 |i+2=>simp at hr
theorem Rl{v1 v2:Value}{n op:Nat}{f1 f2:aT.Fn}(hop:op<16)(h1:fM B v1 n f1)(h2:fM B v2 n f2):Px Tryz.prog 194 #[.int .u8 (op:Int),v1,v2] B (fun r H=>∃t,r=.tuple #[t,.int .i64 0]∧fM H t n (fun x=>Sq op (f1 x) (f2 x))):=by
 obtain⟨ws,⟨s1,rfl,hw⟩,hf,rfl⟩:=h1
 obtain⟨us,⟨s2,rfl,hu⟩,hg,rfl⟩:=h2
 refine aX fun g=>Ap ?_
 intro b1 _ b3 _ b5 _ b7 _
 refine Ld.q ?_
 refine aa.iR (b:=15) (Br.F ?_)
 refine ax.q ?_
 refine ax.q ?_
 refine an.Ms (e:=57) (z:=.agg #[.int .i64 0,.slice none 0 0]) (by kernel_rfl) (by kernel_rfl) (by kernel_rfl) fun bx=>?_
 refine ae.rd .here (qU (OH (n:=n) (hw.mono zS) (hu.mono zS)) (by show 2<2^62;decide)) ?_
 rintro w rfl
 rw[decide_eq_true (by
  intro t ht
  simp only[List.mem_cons,List.not_mem_nil,or_false]at ht
  rcases ht with rfl|rfl
  ·exact⟨⟨by simp,by simpa using hf⟩,rfl⟩
  ·exact⟨⟨by simp,by simpa using hg⟩,rfl⟩)]
 refine Un.not (Br.no ?_)
 refine Ld.f ?_
 refine ae.pre (H':=(b7,.cells #[.int .i64 0,.slice none 0 0] 57 (0,0))::(b5,.cells #[.int .i64 (n:Int),s2] 57 (0,0))::(b3,.cells #[.int .i64 (n:Int),s1] 57 (0,0))::(b1,.cells #[.int .u8 (op:Int)] 5 (0,0))::B) .tail ?_
 refine ae.pq (nk hf.jR rfl (by kernel_rfl) (F:=fun i=>ru op (ws.getD i 0) (us.getD i 0) 4) (fun i _=>pS (eL hf) (eL hg) 4) (B:=(b5,.cells #[.int .i64 (n:Int),s2] 57 (0,0))::(b3,.cells #[.int .i64 (n:Int),s1] 57 (0,0))::(b1,.cells #[.int .u8 (op:Int)] 5 (0,0))::B)
  fun i hi=>Fy (Go.Sx.At.block (l:=[.int .i64 (n:Int),s1]) zM) (Go.Sx.At.block (l:=[.int .i64 (n:Int),s2]) zM) (Go.Sx.At.block (l:=[.int .u8 (op:Int)]) zM) (hw.mono zS) (hu.mono zS) hf hg hop hi) ?_
 rintro w N ⟨s',rfl,cI⟩
 refine St.p ?_ ?_
 ·have:=av cI;simpa[Value.oneCell']using this
 refine ax.q ?_
 refine js.mk (by repeat (first|exact aH.refl _|apply aH.cons|apply aH.app)) ⟨_,rfl,_,⟨s',rfl,cI.mono zS⟩,kQ hf.jR,nD (fun x hx=>?_) (fun x=>by rw[nC,nC])⟩
 rw[HX (eL hf) (eL hg) (Nat.mod_lt _ (by decide)),jE hx,jE hx]
theorem Fx{p1 p2 p3 s1 s2 s3:Value}{n i:Nat}{ws us rs:List Nat}(h1:Go.Sx.At B p1 [.int .i64 (n:Int),s1])(h2:Go.Sx.At B p2 [.int .i64 (n:Int),s2])(h3:Go.Sx.At B p3 [.int .i64 (n:Int),s3])(hw:Words B s1 ws)(hu:Words B s2 us)(hr:Words B s3 rs)(hf:af.bJ n ws)(hg:af.bJ n us)(hh:af.bJ n rs)(hi:i<af.wN n):
  Rd Tryz.prog 221 #[.int .i64 (i:Int),p1,p2,p3] B (· =.int .u64 (((ws.getD i 0&&&us.getD i 0)|||((18446744073709551615-ws.getD i 0) &&&rs.getD i 0):Nat):Int)):=by
 have lw:=eL (i:=i) hf
 have lu:=eL (i:=i) hg
 have lr:=eL (i:=i) hh
 refine aX fun g=>z7 ?_
 refine ag.at h1 fun q hq=>Ld.at hq (fun _ h=>h) ?_
 refine hw.1.ld (bT (iE hf hi)) (fun _ h=>h) ?_
 refine ag.at h2 fun q hq=>Ld.at hq (fun _ h=>h) ?_
 refine hu.1.ld (bT (iE hg hi)) (fun _ h=>h) ?_
 refine aa.gI (by simpa only[aW]using lw) (by simpa only[aW]using lu) ?_
 refine ag.at h1 fun q hq=>Ld.at hq (fun _ h=>h) ?_
 refine hw.1.ld (bT (iE hf hi)) (fun _ h=>h) ?_
 refine Un.Ff lw ?_
 refine ag.at h3 fun q hq=>Ld.at hq (fun _ h=>h) ?_
 refine hr.1.ld (bT (iE hh hi)) (fun _ h=>h) ?_
 refine aa.gI (by simp only[aW];omega) (by simpa only[aW]using lr) ?_
 refine aa.xW (Nat.lt_of_le_of_lt Nat.and_le_left (by simpa only[aW]using lw)) (Nat.lt_of_le_of_lt Nat.and_le_left (by simp only[aW];omega)) ?_
 exact bO.mk (.refl _) rfl
theorem OG{bx n:Nat}{s1 s2 s3:Value}{ws us rs:List Nat}(h1:Words B s1 ws)(h2:Words B s2 us)(h3:Words B s3 rs):bH ((bx,.cells (rows [[.int .i64 (n:Int),s1],[.int .i64 (n:Int),s2],[.int .i64 (n:Int),s3]]) 57 (0,0))::B) (.slice (some ⟨bx,0,none⟩) 3 3) [⟨n,ws⟩,⟨n,us⟩,⟨n,rs⟩]:=by
 refine⟨[[.int .i64 (n:Int),s1],[.int .i64 (n:Int),s2],[.int .i64 (n:Int),s3]],(Sl.qs (aN.made (T:=57) (k:=2) (b:=bx) _ (by simp)) (by decide)).mono fun _ h=>by simp at h;rw[h];exact .head _,rfl,fun i r x hr hx=>?_⟩
 match i with
 |0=>simp at hr hx;subst hr;subst hx;exact⟨s1,rfl,h1.mono fun _ h=>.tail _ h⟩
 |1=>simp at hr hx;subst hr;subst hx;exact⟨s2,rfl,h2.mono fun _ h=>.tail _ h⟩
 |2=>simp at hr hx;subst hr;subst hx;exact⟨s3,rfl,h3.mono fun _ h=>.tail _ h⟩
 |i+3=>simp at hr
theorem IZ{v1 v2 v3:Value}{n:Nat}{f1 f2 f3:aT.Fn}(h1:fM B v1 n f1)(h2:fM B v2 n f2)(h3:fM B v3 n f3):Px Tryz.prog 154 #[v1,v2,v3] B (fun r H=>∃t,r=.tuple #[t,.int .i64 0]∧fM H t n (fun x=>if f1 x then f2 x else f3 x)):=by
 obtain⟨ws,⟨s1,rfl,hw⟩,hf,rfl⟩:=h1
 obtain⟨us,⟨s2,rfl,hu⟩,hg,rfl⟩:=h2
 obtain⟨rs,⟨s3,rfl,hr⟩,hh,rfl⟩:=h3
 refine aX fun g=>AS ?_
 intro b1 _ b3 _ b5 _ b7 _
 refine ax.q ?_
 refine ax.q ?_
 refine ax.q ?_
 refine an.Mr (e:=57) (z:=.agg #[.int .i64 0,.slice none 0 0]) (by kernel_rfl) (by kernel_rfl) (by kernel_rfl) fun bx=>?_
 refine ae.rd .here (qU (OG (n:=n) (hw.mono zS) (hu.mono zS) (hr.mono zS)) (by show 3<2^62;decide)) ?_
 rintro w rfl
 rw[decide_eq_true (by
  intro t ht
  simp only[List.mem_cons,List.not_mem_nil,or_false]at ht
  rcases ht with rfl|rfl|rfl
  ·exact⟨⟨by simp,by simpa using hf⟩,rfl⟩
  ·exact⟨⟨by simp,by simpa using hg⟩,rfl⟩
  ·exact⟨⟨by simp,by simpa using hh⟩,rfl⟩)]
 refine Un.not (Br.no ?_)
 refine Ld.f ?_
 refine ae.pre (H':=(b7,.cells #[.int .i64 0,.slice none 0 0] 57 (0,0))::(b5,.cells #[.int .i64 (n:Int),s3] 57 (0,0))::(b3,.cells #[.int .i64 (n:Int),s2] 57 (0,0))::(b1,.cells #[.int .i64 (n:Int),s1] 57 (0,0))::B) .tail ?_
 have ol:∀i,(ws.getD i 0&&&us.getD i 0)|||((18446744073709551615-ws.getD i 0) &&&rs.getD i 0)<18446744073709551616:=fun i=>
  Nat.or_lt_two_pow (n:=64) (Nat.lt_of_le_of_lt Nat.and_le_left (eL hf)) (Nat.lt_of_le_of_lt Nat.and_le_right (eL hh))
 refine ae.pq (nk hf.jR rfl (by kernel_rfl) (F:=fun i=>(ws.getD i 0&&&us.getD i 0)|||((18446744073709551615-ws.getD i 0) &&&rs.getD i 0)) (fun i _=>ol i) (B:=(b5,.cells #[.int .i64 (n:Int),s3] 57 (0,0))::(b3,.cells #[.int .i64 (n:Int),s2] 57 (0,0))::(b1,.cells #[.int .i64 (n:Int),s1] 57 (0,0))::B)
  fun i hi=>Fx (Go.Sx.At.block (l:=[.int .i64 (n:Int),s1]) zM) (Go.Sx.At.block (l:=[.int .i64 (n:Int),s2]) zM) (Go.Sx.At.block (l:=[.int .i64 (n:Int),s3]) zM) (hw.mono zS) (hu.mono zS) (hr.mono zS) hf hg hh hi) ?_
 rintro w N ⟨s',rfl,cI⟩
 refine St.p ?_ ?_
 ·have:=av cI;simpa[Value.oneCell']using this
 refine ax.q ?_
 refine js.mk (by repeat (first|exact aH.refl _|apply aH.cons|apply aH.app)) ⟨_,rfl,_,⟨s',rfl,cI.mono zS⟩,kQ hf.jR,nD (fun x hx=>?_) (fun x=>by rw[nC,nC,nC])⟩
 rw[Nat.testBit_or,Nat.testBit_and,Nat.testBit_and,ua (eL hf) (Nat.mod_lt _ (by decide)),jE hx,jE hx,jE hx]
 cases dK n ws x<;>cases dK n us x<;>cases dK n rs x<;>rfl
end
end Go.Proofs
namespace Go.Sx
open Go
section
variable {P:Program} {g:Gh} {H C:Hp} {c:Hp→Hp}
theorem aa.OS{kd:IntKind}{a b:Nat}{k:Value→Prop}(hb:b≠0)(h:k (.int kd ((a%b:Nat):Int))):aa .num .rem (.int kd a) (.int kd b) k:=
 aa.K7 (by omega) rfl (by have:((a:Int)).tmod (b:Int)=((a%b:Nat):Int):=rfl;rw[this];exact h)
end
end Go.Sx
set_option maxRecDepth 100000
namespace Go.Proofs
open Go Go.Sx
open aT
theorem FW{B:Hp}{v1 v2:Value}{p q:List Nat}{n:Nat}(h1:bL .i64 B v1 (iw p))(h2:bL .i64 B v2 (iw q))(hp:p.Perm (List.range n))(hq:q.Perm (List.range n))(hn:n≤64):
  Fc Tryz.prog 102 #[v1,v2] B (fun r H=>∃s C,r=.tuple #[s,.int .i64 0]∧H=C++B∧aK 3 .i64 s (iw (path p q)) C):=by
 have e1:p.length=n:=by rw[hp.length_eq,List.length_range]
 have e2:q.length=n:=by rw[hq.length_eq,List.length_range]
 have fT:q.Nodup:=hq.nodup_iff.2 List.nodup_range
 have hpq:=hp.trans hq.symm
 refine aX fun g=>Bi ?_
 refine ae.eq (KD h1 h2 hp hq hn) ?_
 refine aa.gA (Br.F ?_)
 refine ae.fq (ri h1 (by rw[ah];omega)) ?_
 rintro va H ⟨CA,rfl,hA⟩
 refine h2.aM ?_
 rw[ah]
 refine⟨fun vs H=>∃(i:Nat) (w9:Value) (C N:Hp),vs=[w9,.int .i64 (i:Int)]∧i≤n∧H=C++(N++B)∧aK 3 .i64 w9 (iw (de p q i)) C∧aK 3 .i64 va (iw (cj p (de p q i))) N,fun vs _=>n-aV vs 1,
  JE.mk ⟨0,_,[],CA,rfl,Nat.zero_le _,rfl,aK.nil,hA⟩,?_⟩
 rintro w9 OA H ⟨i,u9,C,N,⟨⟩,hi,rfl,ho,hw⟩ gs
 refine aa.dn (Br.dec (fun hlt=>?_) (fun hlt=>?_))
 rotate_left
 ·obtain rfl:i=q.length:=by omega
  exact bN.mk (.cV .right _) ⟨w9,C,rfl,rfl,ho⟩
 have spec:=gx fT hpq i (by omega)
 obtain⟨s1,s2,s3⟩:=spec
 obtain⟨s4,s5⟩:=s3 hlt
 have Vh:=n8 fT hpq (i+1) (by omega)
 have uQ:(i+1)*p.length≤64*64:=Nat.mul_le_mul (by omega) (by omega)
 refine h2.ld (n:=((q.getD i 0:Nat):Int)) (bf hlt) (fun _ h=>List.mem_append_right _ (List.mem_append_right _ h)) ?_
 have hmem:q.getD i 0∈cj p (de p q i):=by
  have:q.getD i 0∈q:=by rw[List.getD_eq_getElem?_getD,List.getElem?_eq_getElem hlt];exact List.getElem_mem _
  exact((kF s1).trans hpq).mem_iff.2 this
 refine ae.eq (CW hw.ints (by rw[ah,fD];omega)) ?_
 rw[if_pos (Mx.2 hmem),MI]
 refine⟨fun vs H=>∃(j:Nat) (u9:Value) (P:List Nat) (C N:Hp),vs=[u9,.int .i64 (j:Int)]∧i≤j∧j<n∧P++yX i j=de p q (i+1)∧H=C++(N++B)∧aK 3 .i64 u9 (iw P) C∧aK 3 .i64 va (iw (cj p P)) N,fun vs _=>aV vs 1,
  JE.mk ⟨NY (cj p (de p q i)) (q.getD i 0),w9,de p q i,C,N,rfl,s4,by omega,rfl,rfl,ho,hw⟩,?_⟩
 rintro UF Wi H ⟨j,u9,P,C2,N2,⟨⟩,hij,Og,hP,rfl,lg,kR⟩ gs
 refine aa.iR (Br.dec (fun hgt=>?_) (fun hgt=>?_))
 ·obtain⟨j,rfl⟩:∃k,j=k+1:=⟨j-1,by omega⟩
  have ZV:P.length≤4096:=by
   have:=congrArg List.length hP
   rw[List.length_append]at this;omega
  have hlen:(cj p P).length=n:=by rw[fD,e1]
  refine DR.self ?_
  refine aa.bS (b:=1) ?_
  rw[Nat.add_sub_cancel]
  refine kR.ld (x:=(((cj p P).getD (j+1) 0:Nat):Int)) (bf (by omega)) (fun _ h=>List.mem_append_right _ (List.mem_append_left _ h)) ?_
  refine aa.bS (b:=1) ?_
  rw[Nat.add_sub_cancel]
  refine kR.ld (x:=(((cj p P).getD j 0:Nat):Int)) (bf (by omega)) (fun _ h=>List.mem_append_right _ (List.mem_append_left _ h)) ?_
  refine kR.gO (x:=(((cj p P).getD (j+1) 0:Nat):Int)) (.app .left) (by rw[ah];omega) fun N3 Ru=>?_
  refine Ru.gO (x:=(((cj p P).getD j 0:Nat):Int)) (.app .left) (by rw[List.length_set,ah];omega) fun N4 UX=>?_
  have e:((iw (cj p P)).set j (((cj p P).getD (j+1) 0:Nat):Int)).set (j+1) (((cj p P).getD j 0:Nat):Int)=iw (cj p (P++[j])):=by
   rw[n5];unfold ew;rw[eR,eR]
  rw[e]at UX
  refine aa.bS (b:=1) ?_
  rw[Nat.add_sub_cancel]
  refine an.int (e:=3) (by kernel_rfl) (by kernel_rfl) (by kernel_rfl) fun bx=>?_
  refine lg.nO (.cons .left) (by exact .head _) (by rw[ah];omega) (by rw[ah];omega) fun v' C3 xq=>?_
  refine aa.bS (b:=1) ?_
  rw[Nat.add_sub_cancel]
  refine aq.of .tail ⟨j,v',P++[j],C3,N4,rfl,by omega,by omega,?_,rfl,by rw[bY];exact xq,UX⟩ ?_
  ·rw[←hP,nL (show i≤j by omega),List.append_assoc];rfl
  ·simp only[aV];omega
 ·obtain rfl:j=i:=by omega
  rw[uI (Nat.le_refl _),List.append_nil]at hP
  subst hP
  refine aa.inc ?_
  exact aq.of (.refl _) ⟨j+1,UF,C2,N2,rfl,by omega,rfl,lg,kR⟩ (by simp only[aV];omega)
end Go.Proofs
set_option maxRecDepth 100000
namespace Go.Proofs
open Go Go.Sx
open aT
def wk(b kp f d:Nat)(ok:Bool):Nat×Obj:=(b,.cells #[ptr kp,.int .i64 (f:Int),.int .i64 (d:Int),.bool ok] 260 (0,0))
section
variable {kp b f d:Nat} {K:Kd} {S:Nat→aT.Fn} {ord tr:List Nat} {C:Hp}
theorem CI(h:At kp K S ord tr C):Fc Tryz.prog 104 #[ptr kp] C (fun r H=>∃b,r=ptr b∧H=wk b kp tr.length 0 false::C):=by
 refine aX fun g=>Bg ?_
 refine ae.eq (ry h) ?_
 refine Build.mk (cs:=[ptr kp,.int .i64 ((tr.length:Nat):Int),.int .i64 0,.bool false]) (by kernel_rfl) ?_
 intro b _
 exact bN.here ⟨b,rfl,rfl⟩
theorem Fh(h:At kp K S ord tr C){l:Nat}(hl:l+1<K.n)(pz:tr.length<1099511627776)(hf:jw K S ord l)(hd:d<4611686018427387904):
  Fc Tryz.prog 107 #[ptr b,.int .i64 (l:Int)] (wk b kp f d false::C) (fun r H=>r=.int .i64 0∧∃C',H=wk b kp f (d+1) false::C'∧At kp K S (ew ord l) (tr++[l]) C'):=by
 refine aX fun g=>rQ ?_
 refine Ld.n ?_
 refine ae.fq (Cj h hl pz hf) ?_
 rintro v C' ⟨rfl,h'⟩
 intro J hJ
 refine aa.j5 (Br.T ?_)
 refine Ld.n ?_
 refine aa.inc ?_
 refine Nil.ptr (ag.mk (St.one (by exact .head _) rfl (by simp) rfl ?_))
 exact JE.mk (hJ _ fun gs=>bN.here ⟨rfl,C',rfl,h'⟩)
theorem Fi(h:At kp K S ord tr C){l:Nat}(hl:l+1<K.n)(pz:tr.length<1099511627776)(hf:¬jw K S ord l):
  Rd Tryz.prog 107 #[ptr b,.int .i64 (l:Int)] (wk b kp f d false::C) (· =.int .i64 9):=by
 refine aX fun g=>rQ ?_
 refine Ld.n ?_
 refine ae.eq (rB h hl pz hf) ?_
 intro J hJ
 refine aa.j5 (Br.F ?_)
 exact JE.mk (hJ _ fun gs=>bO.mk (.refl _) rfl)
theorem Fj{ok:Bool}{path:List Nat}(h:At kp K S (cj ord path) (tr++path) C)(hp:∀l∈path,l+1<K.n)(pz:(tr++path).length<1099511627776)(hd:d<4611686018427387904):
  Fc Tryz.prog 108 #[ptr b] (wk b kp tr.length d ok::C) (fun r H=>r=.tuple #[]∧∃C',H=wk b kp tr.length (d+path.length) ok::C'∧At kp K S ord tr C'):=by
 have oU:path.length<1099511627776:=by rw[List.length_append]at pz;omega
 refine aX fun g=>Bf ?_
 refine DR.of (R:=[wk b kp tr.length d ok]) (aJ.left (A:=[_]) (B:=C)) ?_
 refine Ld.n ?_
 refine Ld.n ?_
 refine ae.fq (args:=#[ptr kp,.int .i64 ((tr.length+0:Nat):Int)]) (KG h hp (Nat.zero_le _) pz) ?_
 rintro v C' ⟨rfl,h'⟩
 rw[List.take_zero,List.append_nil]at h'
 refine⟨aJ.left (A:=[_]) (B:=C'),?_⟩
 refine Ext.two ?_
 refine Ld.n ?_
 refine aa.ef ?_
 refine Nil.ptr (ag.mk (St.one (by exact .head _) rfl (by simp) rfl ?_))
 exact bN.here ⟨rfl,C',rfl,h'⟩
theorem CE:Rd Tryz.prog 105 #[ptr b] (wk b kp f d true::C) (· =.tuple #[]):=by
 refine aX fun g=>rR ?_
 refine Ld.n ?_
 exact Un.not (Br.no (bO.mk (.refl _) rfl))
theorem CG{path:List Nat}(h:At kp K S (cj ord path) (tr++path) C)(hp:∀l∈path,l+1<K.n)(pz:(tr++path).length<1099511627776)(hd:d<4611686018427387904):
  Fc Tryz.prog 105 #[ptr b] (wk b kp tr.length d false::C) (fun r H=>r=.tuple #[]∧∃C',H=wk b kp tr.length (d+path.length) false::C'∧At kp K S ord tr C'):=by
 refine aX fun g=>rR ?_
 refine Ld.n ?_
 refine Un.not (Br.yes ?_)
 refine ae.fq (Fj h hp pz hd) ?_
 rintro v H ⟨rfl,C',rfl,h'⟩
 exact bN.here ⟨rfl,C',rfl,h'⟩
def Cp(kp:Nat)(K:Kd)(S:Nat→aT.Fn)(ord tr ls:List Nat)(r:Value)(C:Hp):Prop:=
 ((rm K S).can ord ls=true∧r=.tuple #[.int .i64 ((ls.length:Nat):Int),.int .i64 0]∧At kp K S (cj ord ls) (tr++ls) C)∨
 ((rm K S).can ord ls=false∧r=.tuple #[.int .i64 ((2*((rm K S).dJ 0 ls ord).length:Nat):Int),.int .i64 9]∧At kp K S ord tr C)
theorem Ju{Y:Hp}{v:Value}{ls:List Nat}(h:At kp K S ord tr C)(hI:bL .i64 Y v (iw ls))(hp:∀l∈ls,l+1<K.n)(pz:tr.length+ls.length<1099511627776):
  Fc Tryz.prog 103 #[ptr kp,v] (Y++C) (fun r H=>∃C',H=Y++C'∧Cp kp K S ord tr ls r C'):=by
 let m:=rm K S
 have Vm:=m.qQ 0 ls ord
 have Xn:∀i,∀l∈ls.take i,l+1<K.n:=fun i l hl=>hp l (List.mem_of_mem_take hl)
 refine aX fun g=>Bh ?_
 intro b1 _
 refine ae.fq (CI h) ?_
 rintro v3 H ⟨b,rfl,rfl⟩
 intro b5 _
 refine St.one (by exact .head _) rfl (by simp) rfl ?_
 refine hI.aM ?_
 rw[ah]
 refine⟨fun vs H=>∃i C2,i≤(m.dJ 0 ls ord).length∧vs=[.int .i64 (i:Int)]∧H=(b5,.cells #[ptr b] 169 (0,0))::(b1,.cells #[.int .i64 0] 3 (0,0))::(Y++(wk b kp tr.length i false::C2))∧At kp K S (cj ord (ls.take i)) (tr++ls.take i) C2,
  fun vs _=>ls.length-aV vs 0,JE.mk ⟨0,C,Nat.zero_le _,rfl,rfl,by simpa[cj]using h⟩,?_⟩
 rintro Zt H ⟨i,C2,hi,⟨⟩,rfl,h2⟩ gs
 have GZ:(tr++ls.take i).length<1099511627776:=by rw[List.length_append,List.length_take];omega
 refine aa.dn (Br.dec (fun hlt=>?_) (fun hlt=>?_))
 ·refine hI.ld (n:=((ls.getD i 0:Nat):Int)) (bf hlt) (fun _ h=>.tail _ (.tail _ (List.mem_append_left _ h))) ?_
  have eg:ls.getD i 0=ls[i]:=by rw[List.getD_eq_getElem?_getD,List.getElem?_eq_getElem hlt];rfl
  have yq:ls.getD i 0+1<K.n:=by rw[eg];exact hp _ (List.getElem_mem hlt)
  have eq:ls[i]? =some (ls.getD i 0):=by rw[eg];exact List.getElem?_eq_getElem hlt
  refine Ld.q ?_
  by_cases hg:i<(m.dJ 0 ls ord).length
  ·have hf:jw K S (cj ord (ls.take i)) (ls.getD i 0):=xO.1 (m.Ht hg eq)
   refine ae.fn (.cons (.cons (.app .here))) (Fh h2 yq GZ hf (by omega)) ?_
   rintro r H ⟨rfl,C3,rfl,h3⟩
   refine aa.gA (Br.F ?_)
   refine aa.inc ?_
   refine aq.mk ⟨i+1,C3,hg,rfl,rfl,?_⟩ (by simp only[aV];omega)
   have e:ls.take (i+1)=ls.take i++[ls.getD i 0]:=by rw[List.take_add_one,eq];rfl
   rw[e,n5,←List.append_assoc];exact h3
  ·obtain rfl:i=(m.dJ 0 ls ord).length:=by omega
   have hf:¬jw K S (cj ord (ls.take (m.dJ 0 ls ord).length)) (ls.getD (m.dJ 0 ls ord).length 0):=fun hf=>by
    have h8:=m.DP eq
    have h9:=xO.2 hf
    rw[show(rm K S).fit _ _=false from h8]at h9;cases h9
   refine ae.eq (Fi h2 yq GZ hf) ?_
   refine aa.gA (Br.T ?_)
   refine St.one (by exact .tail (.head _)) rfl (by simp) rfl ?_
   refine pe (R:=_) ?_
   unfold L180
   refine Ld.q ?_
   refine ae.fn (.cons (.cons (.app .here))) (CG h2 (Xn _) GZ (by omega)) ?_
   rintro r H ⟨rfl,C3,rfl,h3⟩
   refine Ld.q ?_
   have eD:(m.dJ 0 ls ord).length+(ls.take (m.dJ 0 ls ord).length).length=2*(m.dJ 0 ls ord).length:=by rw[List.length_take];omega
   rw[eD]
   refine Ld.n ?_
   refine St.one (by exact .tail (.head _)) rfl (by simp) rfl ?_
   refine⟨⟨_,rfl⟩,?_⟩
   refine Ld.q ?_
   refine bN.mk (.skip (.skip (.cV .tail _))) ⟨C3,rfl,.inr ⟨decide_eq_false (show¬(m.dJ 0 ls ord).length=ls.length by omega),rfl,h3⟩⟩
 ·have J4:i=ls.length:=by omega
  subst J4
  rw[List.take_length]at h2
  have hcan:(rm K S).can ord ls=true:=decide_eq_true (show(m.dJ 0 ls ord).length=ls.length by omega)
  refine Ld.q ?_
  refine Nil.ptr (ag.mk (St.one (cA.tail (cA.tail (cA.bU (.head _) _))) rfl (by simp) rfl ?_))
  refine St.one (by exact .tail (.head _)) rfl (by simp) rfl ?_
  refine pe (R:=_) ?_
  unfold L180
  refine Ld.q ?_
  refine ae.eq (B:=wk b kp tr.length ls.length true::C2) CE ?_
  refine Ld.q ?_
  refine Ld.n ?_
  refine St.one (by exact .tail (.head _)) rfl (by simp) rfl ?_
  refine⟨⟨_,rfl⟩,?_⟩
  refine Ld.q ?_
  refine bN.mk (.skip (.skip (.cV .tail _))) ⟨C2,rfl,.inl ⟨hcan,rfl,h2⟩⟩
end
section
variable {kp b f d:Nat} {K:Kd} {S:Nat→aT.Fn} {ord tr:List Nat} {C:Hp}
theorem Cp.Ww{ls:List Nat}{r:Value}(h:Cp kp K S ord tr ls r C):∃x y,r=.tuple #[x,y]:=by
 rcases h with⟨_,rfl,_⟩|⟨_,rfl,_⟩<;>exact⟨_,_,rfl⟩
theorem F6{Y:Hp}{v:Value}{q:List Nat}(h:At kp K S ord tr C)(hI:bL .i64 Y v (iw q))(IB:ord.Perm (List.range K.n))(hpq:q.Perm (List.range K.n))(pz:tr.length<549755813888):
  Fc Tryz.prog 42 #[ptr kp,v] (Y++C) (fun r H=>∃C',H=Y++C'∧Cp kp K S ord tr (path ord q) r C'):=by
 have hn:=h.Ge
 have sg:ord.length=K.n:=by rw[IB.length_eq,List.length_range]
 have Xl:q.length=K.n:=by rw[hpq.length_eq,List.length_range]
 have fT:q.Nodup:=hpq.nodup_iff.2 List.nodup_range
 refine aX fun g=>EE ?_
 refine aa.aB (Br.no ?_)
 intro J2 xy
 refine ae.rq (fw hI (by rw[ah];omega)) ?_
 rintro r (⟨rfl,ha,hl⟩|⟨_,_,hl⟩|⟨_,hno⟩)
 rotate_left
 ·rw[ah]at hl;omega
 ·exact absurd (rD hpq) hno
 refine aa.gA (Split.go (by decide) ?_)
 refine hI.aM ?_
 refine ae.eq (Ch h) ?_
 refine aa.nU ?_
 rw[decide_eq_false (by rw[ah];omega)]
 refine ay.mk (JE.mk (xy _ _ fun gs=>Br.no ?_))
 refine ae.fq (rA h) ?_
 rintro vo H ⟨N,rfl,ho⟩
 refine ae.pre (H':=(N++Y)++C) (.perm (by rw[List.append_assoc,←List.append_assoc,←List.append_assoc];exact List.perm_append_comm.append_right C)) ?_
 refine ae.fq (FW (ho.ints.mono fun _ h=>List.mem_append_left _ h) (hI.mono fun _ h=>List.mem_append_right _ h) IB hpq hn) ?_
 rintro r H ⟨s,CP,rfl,rfl,hP⟩
 refine Ext.mk rfl (Ext.mk rfl (aa.gA (Br.F ?_)))
 obtain⟨_,oU⟩:=BG fT (IB.trans hpq.symm)
 have U6:(path ord q).length≤4096:=by
  have:=n8 fT (IB.trans hpq.symm) q.length (Nat.le_refl _)
  have h2:q.length*ord.length≤64*64:=Nat.mul_le_mul (by omega) (by omega)
  unfold path;omega
 refine ae.fq (Ju h (hP.ints.mono fun _ h=>List.mem_append_left _ h) (fun x hx=>by have:=oU x hx;omega) (by omega)) ?_
 rintro r H ⟨C',rfl,hM⟩
 obtain⟨x,y,rfl⟩:=hM.Ww
 refine Ext.two ?_
 refine bN.mk ?_ ⟨C',rfl,hM⟩
 rw[List.append_assoc,List.append_assoc]
 exact aJ.right.trans .right
def Jz(p:Nat):Nat→Nat→Nat
 |0,_=>p
 |_,k=>p-k
def DE(n p:Nat):Nat→Nat→Nat
 |0,k=>p+k
 |_,_=>n-1
end
section
variable {kp gb n:Nat} {vr vf:Value} {refs:List Nat} {fs:List (List Nat)} {K:Kd} {S:Nat→aT.Fn} {ord tr:List Nat} {C Z:Hp}
theorem Jk{ord:List Nat}(hp:ord.Perm (List.range n)):∀i,i<n→ord.getD i 0<n:=fun i hi=>by
 have sg:ord.length=n:=by rw[hp.length_eq,List.length_range]
 have:ord.getD i 0∈ord:=by rw[List.getD_eq_getElem?_getD,List.getElem?_eq_getElem (by omega)];exact List.getElem_mem _
 exact List.mem_range.1 (hp.mem_iff.1 this)
end
end Go.Proofs
namespace Go.Sx
open Go
theorem aJ.sub{H Y:Hp}(hn:(Y.map Prod.fst).Nodup)(hs:∀x∈Y,x∈H):aJ H Y:=by
 intro g w h
 refine⟨h.os,h.out,h.tape,?_,fun x hx=>h.sk x ?_⟩
 ·have h1:=h.nd
  rw[List.map_append,List.nodup_append]at h1⊢
  refine⟨hn,h1.2.1,fun a ha b hb=>h1.2.2 a ?_ b hb⟩
  obtain⟨x,hx,rfl⟩:=List.mem_map.1 ha
  exact List.mem_map_of_mem (hs x hx)
 ·rcases List.mem_append.1 hx with hx|hx
  ·exact List.mem_append_left _ (hs x hx)
  ·exact List.mem_append_right _ hx
end Go.Sx
namespace Go.Sx
open Go Go.ChangeShapes Go.WideShapes Go.Deep
section
variable {H:Type} {enc:TypeId×Value→H} {P:Program} {W:World} {base:Nat} {spare:Nat→Bool} {held:Bool}
theorem oF(a:Addr)(n:Nat):(a.add n).block=a.block:=by unfold Addr.add;split<;>rfl
theorem uL(a:Addr)(n:Nat):(a.add n).off=a.off+n:=by unfold Addr.add;split<;>simp_all
theorem gY{b:Nat}{a:Addr}{k:Nat}{cs:List Value}(hk:0<k)(h:W.cells? b a k=some cs):
  a.spot=none∧∃c T fz,W.heap[a.block]? =some (.cells c T fz)∧a.off+k≤c.size∧c.extract a.off (a.off+k)=cs.toArray:=by
 obtain⟨_,hl,hg⟩:=World.cells?_some h
 have h0:=hg 0 hk
 have hc0:W.cell? a=some (cs[0]'(by omega)):=by
  have:a.add 0=a:=by simp[Addr.add]
  rw[this]at h0;rw[h0];exact List.getElem?_eq_getElem (by omega)
 unfold World.cell? at hc0
 split at hc0
 ·rename_i c T fz hb
  cases hs:a.spot with
  |some s=>rw[hs]at hc0;simp at hc0
  |none=>
   have hcell:∀i,i<k→c[a.off+i]? =cs[i]? :=fun i hi=>by
    have:=hg i hi
    unfold World.cell? at this
    rw[oF,hb]at this
    simp only[uL]at this
    have hsp:(a.add i).spot.isSome=false:=by unfold Addr.add;split<;>simp[hs]
    rw[hsp]at this
    simpa using this
   have hsz:a.off+k≤c.size:=by
    have:=hcell (k-1) (by omega)
    rw[List.getElem?_eq_getElem (by omega)]at this
    have:=(Array.getElem?_eq_some_iff.1 this).1
    omega
   refine⟨rfl,c,T,fz,hb,hsz,?_⟩
   apply Array.ext_getElem?
   intro i
   rw[Array.getElem?_extract]
   by_cases hi:i<k
   ·rw[if_pos (by omega),hcell i hi];simp
   ·rw[if_neg (by omega)];simp;omega
 ·simp at hc0
theorem NZ{t e:TypeId}{v:Value}{d:DataW H}{ps:List MemPlace}{r:Reach}{b0 k:Nat}(ht:P.underlying t=some (.slice e))(hk:P.cellsOf e=k)(M3:0<k)(hv:Value.okWide P W r b0 t v)(h:DataW.Trod enc P W base spare held t v d ps):
  (v=.slice none 0 0∧d=.nil)∨∃(a:Addr) (n cap:Nat) (es sp:List (DataW H)),v=.slice (some a) n cap∧d=.slice es sp∧es.length=n∧n≤cap∧
   ∀i,i<n→∃c T fz cs,a.spot=none∧(a.block,Obj.cells c T fz)∈whole W∧a.off+i*k+k≤c.size∧c.extract (a.off+i*k) (a.off+i*k+k)=cs.toArray∧∃fuel y,DataW.trod enc P W base spare held fuel e cs=some y∧cs.length=k:=by
 obtain⟨a0,n0,c0,rfl⟩:=okWide_slice ht hv
 obtain⟨fuel,hf⟩:=h
 rcases open_slice ht hf with⟨h1,h2⟩|⟨a,len,cap,m,n,D,Pl,hcs,hb,hl,hm,IC,hx,hi⟩
 ·left
  simp only[Value.cells,List.cons.injEq,and_true]at h1
  simp only[Prod.mk.injEq]at h2
  exact⟨by simpa using h1,h2.1⟩
 ·right
  simp only[Prod.mk.injEq]at hx
  have BT:Value.slice a0 n0 c0=.slice (some a) len cap:=by simpa[Value.cells]using hcs
  have Xy:len≤m:=by rw[IC];split<;>omega
  refine⟨a,len,cap,_,_,BT,hx.1,by simp,hl,fun i hin=>?_⟩
  have hkk:=hk
  have vV:a.spot=none:=by
   obtain⟨VS,hc0,_⟩:=hi 0 (by omega)
   rw[hk]at hc0
   rw[show a.add (0*k)=a by simp[Addr.add]]at hc0
   exact(gY M3 hc0).1
  obtain⟨cs,hc,hd⟩:=hi i (by omega)
  rw[hk]at hc
  obtain⟨_,hlen,_⟩:=World.cells?_some hc
  obtain⟨_,c,T,fz,h1,h2,h3⟩:=gY M3 hc
  rw[oF]at h1
  rw[uL]at h2 h3
  exact⟨c,T,fz,cs,vV,sR h1,h2,h3,n,_,hd,hlen⟩
theorem nZ{t e:TypeId}{cs:List Value}{x:DataW H×List MemPlace}{fuel k:Nat}(ht:P.underlying t=some (.slice e))(hk:P.cellsOf e=k)(M3:0<k)(h:DataW.trod enc P W base spare held fuel t cs=some x):
  ∃(v:Value) (rs:List (List Value)),cs=[v]∧Sl k (whole W) v rs∧((rs=[]∧x.1=.nil)∨∃es sp,x.1=.slice es sp∧es.length=rs.length)∧
   ∀(i:Nat) (r:List Value),rs[i]? =some r→∃(fuel:Nat) (y:DataW H×List MemPlace) (es sp:List (DataW H)),DataW.trod enc P W base spare held fuel e r=some y∧x.1=.slice es sp∧es[i]? =some y.1:=by
 rcases open_slice ht h with⟨h1,h2⟩|⟨a,len,cap,m,n,D,Pl,hcs,hb,hl,hm,IC,hx,hi⟩
 ·exact⟨_,[],h1,Sl.nil _ _,.inl ⟨rfl,by rw[h2]⟩,fun i r hr=>by simp at hr⟩
 ·have Xy:len≤m:=by rw[IC];split<;>omega
  have hex:∃rs:List (List Value),rs.length=len∧∀i r,rs[i]? =some r→W.cells? base (a.add (i*k)) k=some r∧DataW.trod enc P W base spare held n e r=some (D i,Pl i):=by
   clear hcs hx hl IC
   induction len with
   |zero=>exact⟨[],rfl,fun i r hr=>by simp at hr⟩
   |succ len ih=>
    obtain⟨rs,h1,h2⟩:=ih (by omega)
    obtain⟨r,h3,h4⟩:=hi len (by omega)
    rw[hk]at h3
    refine⟨rs++[r],by simp[h1],fun i r' hr=>?_⟩
    by_cases hlt:i<rs.length
    ·rw[List.getElem?_append_left hlt]at hr;exact h2 i r' hr
    ·rw[List.getElem?_append_right (by omega)]at hr
     have DF:i-rs.length=0:=by
      by_cases e:i-rs.length=0
      ·exact e
      ·rw[List.getElem?_eq_none (by simp;omega)]at hr;cases hr
     rw[DF]at hr
     simp only[List.getElem?_cons_zero,Option.some.injEq]at hr
     subst hr
     obtain rfl:i=len:=by omega
     exact⟨h3,h4⟩
  obtain⟨rs,rT,Rx⟩:=hex
  have aA:∀r∈rs,r.length=k:=fun r hr=>by
   obtain⟨i,hi,e⟩:=List.mem_iff_getElem.1 hr
   obtain⟨hc,_⟩:=Rx i r (by rw[List.getElem?_eq_getElem hi,e])
   exact(World.cells?_some hc).2.1
  refine⟨.slice (some a) len cap,rs,hcs,⟨aA,?_⟩,.inr ⟨_,_,by rw[hx],by simp[rT]⟩,fun i r hr=>?_⟩
  ·cases rs with
   |nil=>exact .inl ⟨some a,cap,by rw[←rT];rfl,rfl⟩
   |cons r0 rest=>
    right
    obtain⟨hc0,_⟩:=Rx 0 r0 rfl
    obtain⟨vV,c,T,fz,hb0,_,_⟩:=gY M3 hc0
    rw[show a.add (0*k)=a by simp[Addr.add]]at vV hb0
    obtain⟨ab,ao,asp⟩:=a
    simp only at vV hb0
    subst vV
    have Qf:∀i r,(r0::rest)[i]? =some r→ao+i*k+k≤c.size∧c.extract (ao+i*k) (ao+i*k+k)=r.toArray:=fun i r hr=>by
     obtain⟨hc,_⟩:=Rx i r hr
     obtain⟨_,c',T',Z2,h1,h2,h3⟩:=gY M3 hc
     rw[oF]at h1
     rw[uL]at h2 h3
     simp only at h1 h2 h3
     rw[hb0]at h1
     simp only[Option.some.injEq,Obj.cells.injEq]at h1
     obtain⟨rfl,_,_⟩:=h1
     exact⟨h2,h3⟩
    refine⟨ab,ao,cap,c,T,fz,by rw[rT],by omega,sR hb0,?_,fun i r hr j v hj=>?_⟩
    ·have BW:=Qf (rest.length) ((r0::rest)[rest.length]'(by simp)) (List.getElem?_eq_getElem (by simp))
     have:=BW.1
     simp only[List.length_cons,Nat.succ_mul];omega
    ·obtain⟨h1,h2⟩:=Qf i r hr
     have JZ:j<k:=by
      have:=(List.getElem?_eq_some_iff.1 hj).1
      rw[aA r (List.mem_of_getElem? hr)]at this;exact this
     have h3:=congrArg (fun z:Array Value=>z[j]?) h2
     simp only[Array.getElem?_extract,List.getElem?_toArray]at h3
     rw[hj]at h3
     rw[←h3,if_pos (by omega)]
  ·obtain⟨_,hd⟩:=Rx i r hr
   have J4:i<len:=by rw[←rT];exact(List.getElem?_eq_some_iff.1 hr).1
   exact⟨n,_,_,_,hd,by rw[hx],by simp[J4]⟩
theorem n3{t e:TypeId}{q:IntKind}{cs:List Value}{x:DataW H×List MemPlace}{fuel:Nat}(ht:P.underlying t=some (.slice e))(he:P.underlying e=some (.int q))(hk:P.cellsOf e=1)(h:DataW.trod enc P W base spare held fuel t cs=some x):
  ∃(v:Value) (l:List Int),cs=[v]∧bL q (whole W) v l∧(∀n∈l,(Lit.int q n).wf=true)∧((l=[]∧x.1=.nil)∨∃es sp,x.1=.slice es sp∧es.length=l.length):=by
 obtain⟨v,rs,hcs,E0,hx,hr⟩:=nZ ht hk (by decide) h
 have hone:∀r∈rs,∃n,r=[.int q n]∧(Lit.int q n).wf=true:=fun r hm=>by
  obtain⟨i,hi,e⟩:=List.mem_iff_getElem.1 hm
  obtain⟨f,y,_,_,hy,_⟩:=hr i r (by rw[List.getElem?_eq_getElem hi,e])
  obtain⟨n,h1,_,h2⟩:=DataW.trod_int he hy
  exact⟨n,h1,h2⟩
 have hex:∃l:List Int,rs=l.map (fun n=>[Value.int q n])∧∀n∈l,(Lit.int q n).wf=true:=by
  clear E0 hx hr hcs
  induction rs with
  |nil=>exact⟨[],rfl,by simp⟩
  |cons r rest ih=>
   obtain⟨l,h1,h2⟩:=ih fun r hm=>hone r (by simp[hm])
   obtain⟨n,h3,h4⟩:=hone r (by simp)
   exact⟨n::l,by simp[h1,h3],fun m hm=>by rcases List.mem_cons.1 hm with rfl|hm;exact h4;exact h2 m hm⟩
 obtain⟨l,rfl,hwf⟩:=hex
 refine⟨v,l,hcs,E0,hwf,?_⟩
 rcases hx with⟨h1,h2⟩|⟨es,sp,h1,h2⟩
 ·exact .inl ⟨by simpa using h1,h2⟩
 ·exact .inr ⟨es,sp,h1,by simpa using h2⟩
end
end Go.Sx
set_option maxRecDepth 100000
namespace Go.Proofs
open Go Go.Sx
section
open Go.ChangeShapes Go.WideShapes Go.Deep
variable {H:Type} {enc:TypeId×Value→H} {W:World} {base:Nat} {spare:Nat→Bool} {held:Bool}
theorem JF{f:FuncId}{args:Array Value}{W:World}(h:Rd Tryz.prog f args (whole W) (· =.bool true)):
  Calls Tryz.prog f args W fun e W'=>e=.returned (.bool true)∧Go.RowKit.Below W.heap.size W W':=
 MD (h.mono fun _ _ ⟨h1,h2⟩=>⟨by rw[h1];exact .refl _,h2⟩)
theorem uW(W:World):((whole W).map Prod.fst).Nodup:=by
 have:=(sO W).nd
 rwa [List.append_nil]at this
end
end Go.Proofs
namespace aT
def dst(x y:Nat):Nat:=(x-y)+(y-x)
end aT
set_option maxRecDepth 100000
namespace Go.Proofs
open Go Go.Sx
theorem FH{n A:Nat}{L:List (List Nat)}(hn:n≤16)(hl:L.length<33554432){k:Nat}(hk:k≤n):(af.st n L A k).length<2199023255551:=by
 have h2:=af.n6 n L A k
 have h3:2^k≤2^16:=Nat.pow_le_pow_right (by decide) (by omega)
 have h4:2^k*L.length≤2^16*L.length:=Nat.mul_le_mul_right _ h3
 omega
end Go.Proofs
set_option maxRecDepth 100000
namespace Go.Proofs
open Go Go.Sx
theorem HH{B:Hp}{v1 v2:Value}{a b:List Nat}(h1:Words B v1 a)(h2:Words B v2 b)(aU:a.length<2^62):Rd Tryz.prog 222 #[v1,v2] B (· =.bool (decide (a=b))):=by
 refine aX fun g=>z6 ?_
 refine h1.1.aM (h2.1.aM ?_)
 simp only[ah]
 refine aa.nU (Br.dec (fun h=>?_) (fun h=>?_))
 ·exact bO.mk (.refl _) (by rw[decide_eq_false (fun e=>h (by rw[e]))])
 ·refine h1.1.aM ?_
  simp only[ah]
  have hlen:a.length=b.length:=by omega
  refine⟨fun vs H=>H=B∧∃j:Nat,vs=[.int .i64 (j:Int)]∧j≤a.length∧∀i,i<j→a[i]? =b[i]?,fun vs _=>a.length-aV vs 0,JE.mk ⟨rfl,0,rfl,by omega,by omega⟩,?_⟩
  rintro w H ⟨rfl,j,⟨⟩,hj,aA⟩ gs
  refine aa.dn (Br.dec (fun hlt=>?_) (fun hlt=>?_))
  ·have ga:a[j]? =some a[j]:=List.getElem?_eq_getElem hlt
   have gb:b[j]? =some b[j]:=List.getElem?_eq_getElem (by omega)
   refine h1.1.ld (bT ga) (fun _ h=>h) ?_
   refine h2.1.ld (bT gb) (fun _ h=>h) ?_
   refine aa.nU (Br.dec (fun hne=>?_) (fun hne=>?_))
   ·exact bO.mk (.refl _) (by rw[decide_eq_false];rintro rfl;exact hne rfl)
   ·refine aa.inc ?_
    refine aq.mk ⟨rfl,j+1,rfl,by omega,fun i hi=>?_⟩ (by simp[aV];omega)
    by_cases e:i=j
    ·subst e;rw[ga,gb];simp;omega
    ·exact aA i (by omega)
  ·refine bO.mk (.refl _) ?_
   rw[decide_eq_true]
   apply List.ext_getElem? 
   intro i
   by_cases hi:i<a.length
   ·exact aA i (by omega)
   ·rw[List.getElem?_eq_none (by omega),List.getElem?_eq_none (by omega)]
theorem Gn{B:Hp}{v:Value}{n u A:Nat}{L:List (List Nat)}(ht:bH B v (L.map fun ws=>⟨n,ws⟩))(hf:∀ws∈L,af.bJ n ws)(hne:L≠[])(aU:L.length<4398046511104)(hA:A<2^n)(hu:u<n)(Yn:A.testBit u=false):
  Rd Tryz.prog 157 #[v,.int .u64 (A:Int),.int .i64 (u:Int)] B (· =.tuple #[.int .i64 ((af.lvl n L A u:Nat):Int),.int .i64 0]):=by
 obtain⟨w0,nr⟩:∃w0,L[0]? =some w0:=⟨_,List.getElem?_eq_getElem (List.length_pos_iff.2 hne)⟩
 have jb:n≤16:=(hf w0 (List.mem_of_getElem? nr)).jR
 have Yo:A<65536:=Nat.lt_of_lt_of_le hA (Nat.pow_le_pow_right (n:=2) (by decide) jb)
 refine aX fun g=>AP ?_
 refine ae.eq (iU ht (by simp;omega)) ?_
 rw[decide_eq_true (m9 hf)]
 refine Un.not (Br.no ?_)
 intro J hJ
 refine ht.aM ?_
 rw[List.length_map]
 have hpos:0<L.length:=List.length_pos_iff.2 hne
 refine aa.iR (b:=0) (Br.yR hpos ?_)
 refine ht.MB (i:=0) (t:=⟨n,w0⟩) (by rw[List.getElem?_map,nr];rfl) (fun _ h=>h) ?_
 refine JE.mk (hJ _ _ fun gs=>?_)
 simp only
 refine aa.lss (dI.or (decide (n≤u)) (fun _=>?_) rfl fun gs=>?_)
 ·exact aa.mS ⟨by trivial,rfl⟩
 rw[show(decide ((u:Int)<0)||decide (n≤u))=false by simp;omega]
 refine dI.or (decide (A>>>n≠0)) (fun _=>?_) rfl fun gs=>?_
 ·refine aa.gN (by simp[aW];omega) ?_
  exact aa.nU (b:=0) ⟨by trivial,rfl⟩
 rw[show(false||decide (A>>>n≠0))=false by rw[Nat.shiftRight_eq_div_pow,Nat.div_eq_of_lt hA];rfl]
 refine Br.no ?_
 have Pn:∀k,A>>>k<18446744073709551616:=fun k=>Nat.lt_of_le_of_lt (Nat.shiftRight_le _ _) (by omega)
 refine aa.gN (by simp[aW];omega) (aa.gI (b:=1) (by simpa[aW]using Pn u) (by decide) (aa.jC (b:=1) ?_))
 refine Br.yS (by rw[af.pP,Yn];simp) ?_
 refine ae.fq (sP ht rfl hf (by omega)) ?_
 rintro r H ⟨b,es,ck,m,N,rfl,rfl,hE,hm⟩
 have hbound:∀k,k≤n→∀m:List (List UInt8×List Nat),(m.map Prod.snd).Nodup→(∀x,x∈m.map Prod.snd↔x∈af.st n L A k)→m.length<4611686018427387904:=by
  intro k hk m fT hmem
  have h1:=(af.dX fT (af.jJ n L A k) hmem).length_eq
  have h2:=af.n6 n L A k
  have h3:2^k≤2^16:=Nat.pow_le_pow_right (by decide) (by omega)
  have h4:2^k*L.length≤2^16*L.length:=Nat.mul_le_mul_right _ h3
  rw[List.length_map]at h1
  omega
 refine⟨fun vs H=>∃(k:Nat) (b:Nat) (es:Array MapEntry) (ck:Nat) (m:List (List UInt8×List Nat)) (N:Hp),vs=[.map (some b),.int .i64 (k:Int)]∧k≤n∧H=(b,.map es ck)::(N++B)∧eE n (N++B) es ck m∧∀x,x∈m.map Prod.snd↔x∈af.st n L A k,
  fun vs _=>n-aV vs 1,JE.mk ⟨0,b,es,ck,m,N,rfl,by omega,rfl,hE,fun x=>by rw[hm];exact af.bW.symm⟩,?_⟩
 clear hm hE
 rintro Rh Zo H ⟨k,b,es,ck,m,N,⟨⟩,hk,rfl,hE,hm⟩ gs
 have wm:=hE.mono (B':=(b,Obj.map es ck)::(N++B)) zS
 refine aa.dn (Br.dec (fun hlt=>?_) (fun hlt=>?_))
 ·intro J hJ
  refine aa.gN (by simp[aW];omega) (aa.gI (b:=1) (by simpa[aW]using Pn k) (by decide) (aa.jC (b:=1) ?_))
  refine Br.dec (fun h=>?_) (fun h=>?_)
  ·have hb:=(af.pP A k).1 h
   refine ae.fq (qR (.head _) wm hlt (hbound k hk m hE.nodup hm)) ?_
   rintro r H ⟨b',es',c8,m',N',rfl,rfl,pB,hm'⟩
   refine Ext.mk rfl (Ext.mk rfl (JE.mk (hJ _ _ fun gs=>?_)))
   refine aa.inc ?_
   refine aq.mk ⟨k+1,b',es',c8,m',N'++(b,.map es ck)::N,rfl,by omega,by rw[List.append_assoc];rfl,by rw[List.append_assoc];exact pB,fun x=>?_⟩ (by simp[aV];omega)
   rw[hm',af.st,if_pos hb,af.bu]
   constructor
   ·rintro⟨t,h1,h2⟩;exact⟨t,(hm t).1 h1,h2⟩
   ·rintro⟨t,h1,h2⟩;exact⟨t,(hm t).2 h1,h2⟩
  ·have hb:A.testBit k=false:=by cases hh:A.testBit k;rfl;exact absurd ((af.pP A k).2 hh) h
   refine JE.mk (hJ _ _ fun gs=>?_)
   refine aa.inc ?_
   refine aq.mk ⟨k+1,b,es,ck,m,N,rfl,by omega,rfl,hE,fun x=>?_⟩ (by simp[aV];omega)
   rw[hm,af.st,hb];simp
 ·have:k=n:=by omega
  subst this
  refine ae.fq (qR (.head _) wm hu (hbound k hk m hE.nodup hm)) ?_
  rintro r H ⟨b',es',c8,m',N',rfl,rfl,pB,hm'⟩
  refine Ext.mk rfl (Ext.mk rfl ?_)
  refine bO.mk ?_ ?_
  ·exact .skip (.bE (.skip .right))
  ·have:=af.gz (n:=k) (v:=u) (af.dX hE.nodup (af.jJ k L A k) hm)
   unfold af.lvl;rw[←this];rfl
theorem p9{B:Hp}{v:Value}{t:Tb}(ht:ig B v t):Rd Tryz.prog 156 #[v] B (· =.tuple (if TF t then#[.int .u64 ((af.mm t.n.toNat t.ws:Nat):Int),.int .i64 0]else#[.int .u64 0,.int .i64 5])):=by
 obtain⟨tn,ws⟩:=t
 obtain⟨s,rfl,hw⟩:=ht
 simp only at hw⊢
 refine aX fun g=>AQ ?_
 intro b1 _
 refine ax.q ?_
 refine dw fun b2=>?_
 refine ae.rd .here (qV (t:=⟨tn,ws⟩) (by exact .head _) (hw.mono zS)) ?_
 rintro v rfl
 refine Un.not ?_
 by_cases hT:TF ⟨tn,ws⟩
 case neg=>
  rw[decide_eq_false hT,if_neg hT]
  exact Br.yes (bO.mk (by repeat (first|exact aJ.refl _|apply aJ.cons|apply aJ.skip|apply aJ.cV|apply aJ.bE)) rfl)
 rw[decide_eq_true hT,if_pos hT]
 refine Br.no ?_
 obtain⟨n,rfl⟩:∃n:Nat,tn=n:=⟨tn.toNat,by have:=hT.1;simp only at this;omega⟩
 have hf:af.bJ n ws:=by have:=hT.2;simpa using this
 refine ag.mk (Ld.mk zM rfl ?_)
 refine⟨fun vs H=>∃(k:Nat) (N:Hp),vs=[.int .u64 ((af.ik n ws k:Nat):Int),.int .i64 (k:Int)]∧k≤n∧H=(b1,.cells (Value.cells (.agg #[.int .i64 (n:Int),s])) 57 (0,0))::(N++B),
  fun vs _=>n-aV vs 1,JE.of .tail ⟨0,[],rfl,by omega,rfl⟩,?_⟩
 rintro Wl Zs H ⟨k,N,⟨⟩,hk,rfl⟩ gs
 have jb:=hf.jR
 have E0:=af.jI n ws k
 have Xj:af.ik n ws k<65536:=Nat.lt_of_lt_of_le E0 (Nat.pow_le_pow_right (n:=2) (by decide) (by omega:k≤16))
 refine aa.dn (Br.dec (fun hlt=>?_) (fun hlt=>?_))
 ·intro J hJ
  refine DR.self ?_
  refine ax.q (ax.q ?_)
  refine ae.pq (B:=N++B) (ux (v:=.agg (List.toArray [.int .i64 (n:Int),s])) ⟨s,rfl,hw.mono zS⟩ hf hlt) ?_
  rintro v N1 ⟨s1,rfl,gC⟩
  refine⟨.cons .right,xA.mk rfl ?_⟩
  refine ae.pq (B:=N1++(N++B)) (ux (v:=.agg (List.toArray [.int .i64 (n:Int),s])) ⟨s,rfl,hw.mono zS⟩ hf hlt) ?_
  rintro v N2 ⟨s2,rfl,kR⟩
  refine⟨.cons (.bE .right),xA.mk rfl ?_⟩
  refine ae.eq (B:=N2++(N1++(N++B))) (HH (gC.mono zS) kR (by have:=df (af.bV (v:=k) (ws:=ws) (b:=false) hf.jR);simp only;omega)) ?_
  refine⟨.cons (.bE .right),Un.not ?_⟩
  have dA:JE J [.int .u64 ((af.ik n ws (k+1):Nat):Int)] ((b1,.cells (Value.cells (.agg #[.int .i64 (n:Int),s])) 57 (0,0))::(N2++(N1++(N++B)))):=by
   refine JE.mk (hJ _ _ fun gs=>?_)
   refine aa.inc ?_
   exact aq.mk ⟨k+1,N2++(N1++N),rfl,by omega,by rw[List.append_assoc,List.append_assoc]⟩ (by simp[aV];omega)
  rw[af.ik]at dA
  by_cases hd:af.dep n ws k=true
  ·rw[if_pos hd]at dA
   have:af.c6 n ws k false≠af.c6 n ws k true:=by simpa[af.dep]using hd
   rw[decide_eq_false this]
   refine Br.yes ?_
   refine aa.m0 (a:=1) ?_
   have h2:2^k<65536:=Nat.lt_of_lt_of_le (Nat.pow_lt_pow_right (n:=16) (by decide) (by omega)) (by decide)
   rw[Nat.one_shiftLeft,Nat.mod_eq_of_lt (by omega)]
   exact aa.xW (by simp[aW];omega) (by simp[aW];omega) dA
  ·rw[if_neg hd]at dA
   have:af.c6 n ws k false=af.c6 n ws k true:=by simpa[af.dep]using hd
   rw[decide_eq_true this]
   exact Br.no dA
 ·have:k=n:=by omega
  subst this
  refine bO.mk (.skip .right) ?_
  simp[af.mm]
theorem F0{B:Hp}{v:Value}{ts:List Tb}(ht:bH B v ts)(aU:ts.length<4398046511104):Px Tryz.prog 155 #[v] B (fun r _=>∃s,r=.tuple #[s,.int .i64 (if jj ts then 0 else 5)]):=by
 refine aX fun g=>AR ?_
 refine ae.eq (iU ht (by omega)) ?_
 refine Un.not ?_
 by_cases hO:jj ts
 case neg=>rw[decide_eq_false hO,if_neg hO];exact Br.yes (js.mk (.refl _) ⟨_,rfl⟩)
 rw[decide_eq_true hO,if_pos hO]
 refine Br.no (ht.aM (aa.jC (b:=0) (Br.dec (fun h0=>js.mk (.refl _) ⟨_,rfl⟩) (fun h0=>?_))))
 obtain⟨n,L,jb,rfl,hne,hf⟩:=BJ hO (by intro e;rw[e]at h0;exact h0 rfl)
 rw[List.length_map]at aU
 obtain⟨w0,nr⟩:∃w0,L[0]? =some w0:=⟨_,List.getElem?_eq_getElem (List.length_pos_iff.2 hne)⟩
 refine ht.MB (i:=0) (t:=⟨n,w0⟩) (by rw[List.getElem?_map,nr];rfl) (fun _ h=>h) ?_
 simp only
 refine bD.ints (by omega) (by omega) fun bw=>?_
 refine ht.aM ?_
 refine⟨fun vs H=>∃(k:Nat) (l:List Nat),vs=[.int .i64 (k:Int)]∧k≤L.length∧H=(bw,.cells (aC .u64 (iw l)) 50 (0,0))::B∧l.length=n∧∀w∈l,w<18446744073709551616,
  fun vs _=>L.length-aV vs 0,JE.mk ⟨0,List.replicate n 0,rfl,by omega,by simp[iw],by simp,fun w hw=>by rw[List.eq_of_mem_replicate hw];decide⟩,?_⟩
 rintro w H ⟨k,l,⟨⟩,hk,rfl,hl,Lu⟩ gs
 rw[List.length_map]
 refine aa.dn (Br.dec (fun hlt=>?_) (fun hlt=>?_))
 ·have hg:(L.map fun ws=>(⟨n,ws⟩:Tb))[k]? =some ⟨n,L[k]⟩:=by rw[List.getElem?_map,List.getElem?_eq_getElem hlt];rfl
  have gQ:=hf L[k] (List.getElem_mem hlt)
  refine ht.ld hg zS fun s hw=>?_
  intro b2 _
  refine St.p ?_ ?_
  ·have:=av hw;simpa[Value.oneCell']using this
  refine ax.q ?_
  refine ae.eq (B:=B) (p9 (v:=.agg (List.toArray [.int .i64 (n:Int),s])) (t:=⟨n,L[k]⟩) ⟨s,rfl,hw⟩) ?_
  rw[if_pos (show TF ⟨(n:Int),L[k]⟩from⟨by simp,by simpa using gQ⟩)]
  refine Ext.mk rfl (Ext.mk rfl (az.mk ?_))
  simp only[Int.toNat_natCast]
  have Pk:af.mm n L[k]<65536:=Nat.lt_of_lt_of_le (af.jI n L[k] n) (Nat.pow_le_pow_right (n:=2) (by decide) jb)
  refine⟨fun vs H=>∃(j:Nat) (l:List Nat),vs=[.int .i64 (j:Int)]∧j≤n∧H=(bw,.cells (aC .u64 (iw l)) 50 (0,0))::B∧l.length=n∧∀w∈l,w<18446744073709551616,
   fun vs _=>n-aV vs 0,JE.of .tail ⟨0,l,rfl,by omega,rfl,hl,Lu⟩,?_⟩
  rintro w H ⟨j,l,⟨⟩,hj,rfl,hl,Lu⟩ gs
  refine aa.dn (Br.dec (fun Lx=>?_) (fun Lx=>?_))
  ·intro J hJ
   have dA:∀l:List Nat,l.length=n→(∀w∈l,w<18446744073709551616)→JE J [] ((bw,.cells (aC .u64 (iw l)) 50 (0,0))::B):=fun l hl Lu=>by
    refine JE.mk (hJ _ fun gs=>?_)
    refine aa.inc ?_
    exact aq.mk ⟨j+1,l,rfl,by omega,rfl,hl,Lu⟩ (by simp[aV];omega)
   have hsh:af.mm n L[k]>>>j<65536:=Nat.lt_of_le_of_lt (Nat.shiftRight_le _ _) Pk
   refine aa.gN (by simp[aW];omega) (aa.gI (b:=1) (by simp[aW];omega) (by decide) (aa.jC (b:=1) ?_))
   refine Br.dec (fun h=>?_) (fun h=>dA l hl Lu)
   refine DR.self ?_
   have Ty:l[j]? =some l[j]:=List.getElem?_eq_getElem (by omega)
   have Vf:=Lu _ (List.getElem_mem (show j<l.length by omega))
   refine aj.nat Lx ?_
   refine Ld.mk (v:=.int .u64 (l[j]:Int)) (by exact .head _) (by simp[aC,iw,Ty]) ?_
   refine aa.m0 (a:=1) ?_
   have h2:2^j<65536:=Nat.lt_of_lt_of_le (Nat.pow_lt_pow_right (n:=16) (by decide) (by omega)) (by decide)
   rw[Nat.one_shiftLeft,Nat.mod_eq_of_lt (by omega)]
   refine aa.xd (by simp[aW];omega) (by simp[aW];omega) ?_
   have h3:=gZ (af.mm n L[k]) (2^j)
   refine aa.xW (by simp only[aW];exact Vf) (by simp only[aW];omega) ?_
   refine aj.nat Lx ?_
   refine St.ints (l:=iw l) (by exact .head _) (by simp;omega) ?_
   have e:(iw l).set j ((l[j]|||ji (af.mm n L[k]) (2^j):Nat):Int)=iw (l.set j (l[j]|||ji (af.mm n L[k]) (2^j))):=by simp[iw,List.map_set]
   rw[e]
   refine dA _ (by simp[hl]) fun w hw=>?_
   rcases List.mem_or_eq_of_mem_set hw with hw|rfl
   ·exact Lu w hw
   ·exact Nat.or_lt_two_pow (n:=64) Vf (by omega)
  ·refine aa.inc ?_
   exact aq.mk ⟨k+1,l,rfl,by omega,rfl,hl,Lu⟩ (by simp[aV];omega)
 ·exact js.mk (by repeat (first|exact aH.refl _|apply aH.cons|apply aH.app)) ⟨_,rfl⟩
end Go.Proofs
namespace af
open Go.Sx
def dP:List Nat→Nat
 | []=>0
 |x::r=>r.foldl min x
theorem nB:∀(r:List Nat) (x:Nat),r.foldl min x≤x∧∀y∈r,r.foldl min x≤y
 | [],x=>⟨Nat.le_refl _,by simp⟩
 |z::r,x=>by
  obtain⟨h1,h2⟩:=nB r (min x z)
  refine⟨by rw[List.foldl_cons];omega,fun y hy=>?_⟩
  rw[List.foldl_cons]
  rcases List.mem_cons.1 hy with rfl|hy
  ·omega
  ·exact h2 y hy
theorem lY:∀(r:List Nat) (x:Nat),r.foldl min x=x∨r.foldl min x∈r
 | [],x=>.inl rfl
 |z::r,x=>by
  rw[List.foldl_cons]
  rcases lY r (min x z)with h|h
  ·rw[h]
   rcases Nat.le_total x z with h'|h'
   ·left;omega
   ·right;rw[Nat.min_eq_right h'];simp
  ·right;exact List.mem_cons_of_mem _ h
theorem qy{l:List Nat}{y:Nat}(h:y∈l):dP l≤y:=by
 cases l with
 |nil=>simp at h
 |cons x r=>
  obtain⟨h1,h2⟩:=nB r x
  rcases List.mem_cons.1 h with rfl|h
  ·exact h1
  ·exact h2 y h
theorem gm{l:List Nat}(h:l≠[]):dP l∈l:=by
 cases l with
 |nil=>exact absurd rfl h
 |cons x r=>
  rcases lY r x with h|h
  ·show r.foldl min x∈_;rw[h];simp
  ·exact List.mem_cons_of_mem _ h
theorem vB{l:List Nat}{m:Nat}(h1:m∈l)(h2:∀y∈l,m≤y):dP l=m:=
 Nat.le_antisymm (qy h1) (h2 _ (gm (by intro e;rw[e]at h1;simp at h1)))
theorem x6(l:List Nat)(x:Nat):dP (l++[x])=if l=[]then x else min (dP l) x:=by
 cases l with
 |nil=>rfl
 |cons y r=>simp[dP,List.foldl_append]
def bC(n a:Nat):List Nat:=(List.range n).filter fun v=> !a.testBit v
def has(n a:Nat):List Nat:=(List.range n).filter fun v=>a.testBit v
theorem ca{n a v:Nat}:v∈bC n a↔v<n∧a.testBit v=false:=by simp[bC]
theorem cX{n a v:Nat}:v∈has n a↔v<n∧a.testBit v=true:=by simp[has]
theorem gX{α:Type}(p q:α→Bool)(x:α):∀(l:List α),l.Nodup→x∈l→p x=true→q x=false→(∀y∈l,y≠x→q y=p y)→(l.filter q).length+1=(l.filter p).length
 | [],_,h,_,_,_=>by simp at h
 |y::l,nd,h,hp,hq,aA=>by
  rw[List.nodup_cons]at nd
  by_cases e:y=x
  ·subst e
   have hsame:l.filter q=l.filter p:=by
    apply List.filter_congr
    intro z hz
    exact aA z (by simp[hz]) (fun e=>nd.1 (e▸hz))
   rw[List.filter_cons,List.filter_cons,hp,hq,hsame];simp
  ·have WX:x∈l:=by rcases List.mem_cons.1 h with h|h;exact absurd h.symm e;exact h
   have ih:=gX p q x l nd.2 WX hp hq fun z hz hne=>aA z (by simp[hz]) hne
   have hy:=aA y (by simp) e
   rw[List.filter_cons,List.filter_cons,hy]
   cases p y
   ·simpa using ih
   ·simp only[if_true,List.length_cons];omega
theorem m4{a u v:Nat}(h:v≠u):(au a u true).testBit v=a.testBit v:=by rw[ai,if_neg h]
theorem e9{n a v:Nat}(h:v∈bC n a):(bC n (au a v true)).length+1=(bC n a).length:=by
 obtain⟨h1,h2⟩:=ca.1 h
 refine gX _ _ v (List.range n) List.nodup_range (List.mem_range.2 h1) (by simp[h2]) (by simp[ai]) fun y hy hne=>?_
 rw[m4 hne]
theorem uv{n a v:Nat}(h:v∈has n a):(has n (au a v false)).length+1=(has n a).length:=by
 obtain⟨h1,h2⟩:=cX.1 h
 refine gX _ _ v (List.range n) List.nodup_range (List.mem_range.2 h1) (by simp[h2]) (by simp[ai]) fun y hy hne=>?_
 rw[ai,if_neg hne]
def HZ(n:Nat)(c:Nat→Nat→Nat):Nat→Nat→Nat
 |0,_=>0
 |f+1,a=>dP ((bC n a).map fun v=>c a v+HZ n c f (au a v true))
def par(n:Nat)(c:Nat→Nat→Nat):Nat→Nat→Nat
 |0,_=>0
 |f+1,s=>dP ((has n s).map fun v=>c (au s v false) v+par n c f (au s v false))
theorem wW{n:Nat}{c:Nat→Nat→Nat}:∀(f:Nat) (a:Nat),(bC n a).length≤f→HZ n c (f+1) a=HZ n c f a
 |0,a,h=>by
  have:bC n a=[]:=List.length_eq_zero_iff.1 (by omega)
  simp[HZ,this,dP]
 |f+1,a,h=>by
  rw[HZ,HZ]
  congr 1
  apply List.map_congr_left
  intro v hv
  rw[wW f _ (by have:=e9 hv;omega)]
theorem vk{n:Nat}{c:Nat→Nat→Nat}:∀(f:Nat) (a:Nat),(has n a).length≤f→par n c (f+1) a=par n c f a
 |0,a,h=>by
  have:has n a=[]:=List.length_eq_zero_iff.1 (by omega)
  simp[par,this,dP]
 |f+1,a,h=>by
  rw[par,par]
  congr 1
  apply List.map_congr_left
  intro v hv
  rw[vk f _ (by have:=uv hv;omega)]
theorem Js(n a:Nat):(bC n a).length≤n:=by have:=List.length_filter_le (fun v=> !a.testBit v) (List.range n);simpa[bC]using this
theorem Nm(n a:Nat):(has n a).length≤n:=by have:=List.length_filter_le (fun v=>a.testBit v) (List.range n);simpa[has]using this
def B(n:Nat)(c:Nat→Nat→Nat)(a:Nat):Nat:=HZ n c n a
def W(n:Nat)(c:Nat→Nat→Nat)(s:Nat):Nat:=par n c n s
theorem Bq(n:Nat)(c:Nat→Nat→Nat)(a:Nat):B n c a=dP ((bC n a).map fun v=>c a v+B n c (au a v true)):=by
 unfold B
 rw[←wW n a (Js n a)]
 rfl
theorem y9(n:Nat)(c:Nat→Nat→Nat)(s:Nat):W n c s=dP ((has n s).map fun v=>c (au s v false) v+W n c (au s v false)):=by
 unfold W
 rw[←vk n s (Nm n s)]
 rfl
theorem Rf{n:Nat}{c:Nat→Nat→Nat}{a v:Nat}(hv:v∈bC n a):B n c a≤c a v+B n c (au a v true):=by
 rw[Bq n c a];exact qy (List.mem_map.2 ⟨v,hv,rfl⟩)
theorem Rg{n:Nat}{c:Nat→Nat→Nat}{a:Nat}(h:bC n a≠[]):∃v∈bC n a,B n c a=c a v+B n c (au a v true):=by
 have:=gm (l:=(bC n a).map fun v=>c a v+B n c (au a v true)) (by simpa using h)
 rw[←Bq]at this
 obtain⟨v,hv,e⟩:=List.mem_map.1 this
 exact⟨v,hv,e.symm⟩
theorem Cy{n:Nat}{c:Nat→Nat→Nat}{a:Nat}(h:bC n a=[]):B n c a=0:=by rw[Bq,h];rfl
theorem KM{n:Nat}{c:Nat→Nat→Nat}{s v:Nat}(hv:v∈has n s):W n c s≤c (au s v false) v+W n c (au s v false):=by
 rw[y9 n c s];exact qy (List.mem_map.2 ⟨v,hv,rfl⟩)
theorem NL{n:Nat}{c:Nat→Nat→Nat}{s:Nat}(h:has n s≠[]):∃v∈has n s,W n c s=c (au s v false) v+W n c (au s v false):=by
 have:=gm (l:=(has n s).map fun v=>c (au s v false) v+W n c (au s v false)) (by simpa using h)
 rw[←y9]at this
 obtain⟨v,hv,e⟩:=List.mem_map.1 this
 exact⟨v,hv,e.symm⟩
theorem xf{n:Nat}{c:Nat→Nat→Nat}{s:Nat}(h:has n s=[]):W n c s=0:=by rw[y9,h];rfl
structure Used(n:Nat)(c:Nat→Nat→Nat)(U:Nat):Prop where
 zero:∀a v,v<n→a.testBit v=false→U.testBit v=false→c a v=0
 mask:∀a v,v<n→a.testBit v=false→c a v=c (a&&&U) v
theorem iI{a U v:Nat}{b:Bool}:(au a v b) &&&U=if U.testBit v then au (a&&&U) v b else a&&&U:=by
 apply Nat.eq_of_testBit_eq;intro k
 by_cases hU:U.testBit v=true
 ·rw[if_pos hU,Nat.testBit_and,ai,ai,Nat.testBit_and]
  by_cases e:k=v
  ·subst e;simp[hU]
  ·simp[e]
 ·rw[if_neg hU,Nat.testBit_and,ai,Nat.testBit_and]
  by_cases e:k=v
  ·subst e;simp[hU]
  ·simp[e]
def cK(n U a:Nat):List Nat:=(bC n a).filter fun v=>U.testBit v
theorem dY{n U a v:Nat}:v∈cK n U a↔v<n∧a.testBit v=false∧U.testBit v=true:=by simp[cK,ca,and_assoc]
theorem ir(n U a:Nat):cK n U (a&&&U)=cK n U a:=by
 unfold cK bC
 rw[List.filter_filter,List.filter_filter]
 apply List.filter_congr
 intro v _
 rw[Nat.testBit_and]
 cases a.testBit v<;>cases U.testBit v<;>rfl
theorem Bp{n U:Nat}{c:Nat→Nat→Nat}(hU:Used n c U):∀(d a:Nat),(bC n a).length=d→B n c a=dP ((cK n U a).map fun v=>c (a&&&U) v+B n c (au a v true))∧∀a',(bC n a').length≤d→a'&&&U=a&&&U→B n c a'=B n c a:=by
 intro d
 induction d using Nat.strongRecOn with
 |_ d ih=>
  have key:∀a,(bC n a).length=d→B n c a=dP ((cK n U a).map fun v=>c (a&&&U) v+B n c (au a v true)):=by
   intro a hd
   by_cases hm:bC n a=[]
   ·have h1:cK n U a=[]:=by unfold cK;rw[hm];rfl
    rw[h1,Cy hm];rfl
   ·have hle:∀v∈cK n U a,B n c a≤c (a&&&U) v+B n c (au a v true):=fun v hv=>by
     obtain⟨h1,h2,h3⟩:=dY.1 hv
     rw[←hU.mask a v h1 h2];exact Rf (ca.2 ⟨h1,h2⟩)
    obtain⟨v,hv,he⟩:=Rg (c:=c) hm
    obtain⟨h1,h2⟩:=ca.1 hv
    by_cases hu:U.testBit v=true
    ·symm
     refine vB (List.mem_map.2 ⟨v,dY.2 ⟨h1,h2,hu⟩,by rw[←hU.mask a v h1 h2];exact he.symm⟩) fun y hy=>?_
     obtain⟨w,hw,rfl⟩:=List.mem_map.1 hy
     exact hle w hw
    ·have uk:U.testBit v=false:=by simpa using hu
     rw[hU.zero a v h1 h2 uk,Nat.zero_add]at he
     have hlt:(bC n (au a v true)).length<d:=by have:=e9 hv;omega
     have hand:au a v true&&&U=a&&&U:=by rw[iI,if_neg hu]
     obtain⟨k1,k2⟩:=ih _ hlt (au a v true) rfl
     have DC:cK n U (au a v true)=cK n U a:=by rw[←ir,hand,ir]
     by_cases yo:cK n U a=[]
     ·rw[DC,yo]at k1
      rw[he,k1,yo];rfl
     ·symm
      rw[DC,hand]at k1
      have hmem:=gm (l:=(cK n U a).map fun w=>c (a&&&U) w+B n c (au (au a v true) w true)) (by simpa using yo)
      rw[←k1]at hmem
      obtain⟨w,hw,W5⟩:=List.mem_map.1 hmem
      obtain⟨w1,w2,w3⟩:=dY.1 hw
      have W3:w≠v:=fun e=>by rw[e]at w3;rw[uk]at w3;cases w3
      have LF:au (au a v true) w true=au (au a w true) v true:=by
       apply Nat.eq_of_testBit_eq;intro k
       rw[ai,ai,ai,ai]
       by_cases e1:k=w<;>by_cases e2:k=v<;>simp[e1,e2]
      have Xu:w∈bC n a:=ca.2 ⟨w1,w2⟩
      have hsub:B n c (au (au a v true) w true)=B n c (au a w true):=by
       have ei:(bC n (au a w true)).length<d:=by have:=e9 Xu;omega
       refine(ih _ ei (au a w true) rfl).2 _ ?_ ?_
       ·have W8:v∈bC n (au a w true):=ca.2 ⟨h1,by rw[ai,if_neg (Ne.symm W3)];exact h2⟩
        have:=e9 W8
        rw[LF];omega
       ·rw[LF,iI,if_neg hu]
      have hval:c (a&&&U) w+B n c (au a w true)=B n c a:=by rw[he,←W5,hsub]
      refine vB (List.mem_map.2 ⟨w,hw,hval⟩) fun y hy=>?_
      obtain⟨z,hz,rfl⟩:=List.mem_map.1 hy
      exact hle z hz
  intro a hd
  refine⟨key a hd,fun a' dh hand=>?_⟩
  have DC:cK n U a'=cK n U a:=by rw[←ir,hand,ir]
  have h':B n c a'=dP ((cK n U a').map fun v=>c (a'&&&U) v+B n c (au a' v true)):=by
   rcases Nat.lt_or_ge (bC n a').length d with h|h
   ·exact(ih _ h a' rfl).1
   ·exact key a' (by omega)
  rw[h',key a hd,DC,hand]
  congr 1
  apply List.map_congr_left
  intro v hv
  congr 1
  obtain⟨v1,v2,v3⟩:=dY.1 hv
  have hma:v∈bC n a:=ca.2 ⟨v1,v2⟩
  have Tl:v∈bC n a':=by
   rw[←DC]at hv
   exact ca.2 ⟨v1,(dY.1 hv).2.1⟩
  have hlt:(bC n (au a v true)).length<d:=by have:=e9 hma;omega
  refine(ih _ hlt (au a v true) rfl).2 _ ?_ ?_
  ·have:=e9 Tl;have:=e9 hma;omega
  ·rw[iI,iI,hand]
theorem Is{n U:Nat}{c:Nat→Nat→Nat}(hU:Used n c U)(a:Nat):B n c (a&&&U)=B n c a:=by
 have e:(a&&&U) &&&U=a&&&U:=by rw[Nat.and_assoc,Nat.and_self]
 rcases Nat.le_total (bC n (a&&&U)).length (bC n a).length with h|h
 ·exact(Bp hU _ a rfl).2 _ h e
 ·exact((Bp hU _ (a&&&U) rfl).2 a h e.symm).symm
theorem Re{n U:Nat}{c:Nat→Nat→Nat}(hU:Used n c U)(a:Nat):B n c a=dP ((cK n U a).map fun v=>c (a&&&U) v+B n c (au (a&&&U) v true)):=by
 rw[(Bp hU _ a rfl).1]
 congr 1
 apply List.map_congr_left
 intro v hv
 obtain⟨v1,v2,v3⟩:=dY.1 hv
 congr 1
 rw[←Is hU (au a v true),iI,if_pos v3]
theorem NK{n U:Nat}{c:Nat→Nat→Nat}(hU:Used n c U):∀(d s:Nat),(has n s).length=d→W n c s=W n c (s&&&U):=by
 intro d
 induction d using Nat.strongRecOn with
 |_ d ih=>
  intro s hd
  by_cases hm:has n s=[]
  ·have h1:has n (s&&&U)=[]:=by
    unfold has at hm⊢
    rw[List.filter_eq_nil_iff]at hm⊢
    intro v hv
    have:=hm v hv
    rw[Nat.testBit_and];simp only[Bool.not_eq_true]at this;simp[this]
   rw[xf hm,xf h1]
  ·have P6:∀v,v∈has n s→(has n (au s v false)).length<d:=fun v hv=>by have:=uv hv;omega
   have hfree:∀v,v∈has n s→c (au s v false) v+W n c (au s v false)=if U.testBit v then c (au (s&&&U) v false) v+W n c (au (s&&&U) v false)else W n c (s&&&U):=fun v hv=>by
    obtain⟨h1,h2⟩:=cX.1 hv
    have hb:(au s v false).testBit v=false:=by rw[ai,if_pos rfl]
    rw[ih _ (P6 v hv) _ rfl]
    have:=iI (a:=s) (U:=U) (v:=v) (b:=false)
    split
    ·rename_i hu
     rw[if_pos hu]at this
     rw[hU.mask _ v h1 hb,this]
    ·rename_i hu
     rw[if_neg hu]at this
     rw[hU.zero _ v h1 hb (by simpa using hu),this,Nat.zero_add]
   apply Nat.le_antisymm
   ·by_cases DC:has n (s&&&U)=[]
    ·rw[xf DC]
     obtain⟨v,hv⟩:=List.exists_mem_of_ne_nil _ hm
     obtain⟨h1,h2⟩:=cX.1 hv
     have hu:¬U.testBit v=true:=fun hu=>by
      have:v∈has n (s&&&U):=cX.2 ⟨h1,by rw[Nat.testBit_and,h2,hu];rfl⟩
      rw[DC]at this;simp at this
     have h3:=hfree v hv
     rw[if_neg hu,xf DC]at h3
     rw[←h3];exact KM hv
    ·obtain⟨v,hv,he⟩:=NL (c:=c) DC
     obtain⟨h1,h2⟩:=cX.1 hv
     rw[Nat.testBit_and,Bool.and_eq_true]at h2
     have hvs:v∈has n s:=cX.2 ⟨h1,h2.1⟩
     have h3:=hfree v hvs
     rw[if_pos h2.2]at h3
     rw[he,←h3];exact KM hvs
   ·obtain⟨v,hv,he⟩:=NL (c:=c) hm
    rw[he,hfree v hv]
    obtain⟨h1,h2⟩:=cX.1 hv
    split
    ·rename_i hu
     exact KM (cX.2 ⟨h1,by rw[Nat.testBit_and,h2,hu];rfl⟩)
    ·exact Nat.le_refl _
theorem Q2{n U:Nat}{c:Nat→Nat→Nat}(hU:Used n c U)(s:Nat):W n c (s&&&U)=W n c s:=(NK hU _ s rfl).symm
def ord(n:Nat)(c:Nat→Nat→Nat):Nat→Nat→List Nat
 |0,_=>[]
 |f+1,a=>match(bC n a).find? fun v=>c a v+B n c (au a v true)==B n c a with
  |some v=>v::ord n c f (au a v true)
  |none=>[]
theorem qp{n:Nat}{c:Nat→Nat→Nat}{f a:Nat}(h:bC n a≠[]):∃v,v∈bC n a∧c a v+B n c (au a v true)=B n c a∧(∀u∈bC n a,u<v→c a u+B n c (au a u true)≠B n c a)∧ord n c (f+1) a=v::ord n c f (au a v true):=by
 obtain⟨w,hw,he⟩:=Rg (c:=c) h
 cases hf:(bC n a).find? fun v=>c a v+B n c (au a v true)==B n c a with
 |none=>
  rw[List.find?_eq_none]at hf
  exact absurd (by simpa using he.symm) (hf w hw)
 |some v=>
  have h1:=List.find?_some hf
  refine⟨v,List.mem_of_find?_eq_some hf,by simpa using h1,fun u hu ZE=>?_,by rw[ord,hf]⟩
  rw[List.find?_eq_some_iff_append]at hf
  obtain⟨_,as1,bs,hab,hno⟩:=hf
  have hs:(bC n a).Pairwise (· < ·):=List.Pairwise.filter _ List.pairwise_lt_range
  rw[hab]at hs hu
  rcases List.mem_append.1 hu with hu|hu
  ·have:=hno u hu;simpa using this
  ·rw[List.pairwise_append]at hs
   have h2:=hs.2.1
   rw[List.pairwise_cons]at h2
   rcases List.mem_cons.1 hu with rfl|hu
   ·omega
   ·have:=h2.1 u hu;omega
end af
namespace af
open Go.Sx
theorem dy{x u v:Nat}{b c:Bool}(h:u≠v):au (au x u b) v c=au (au x v c) u b:=by
 apply Nat.eq_of_testBit_eq;intro k
 rw[ai,ai,ai,ai]
 by_cases e1:k=u<;>by_cases e2:k=v
 ·exact absurd (e1.symm.trans e2) h
 ·simp[e1,h]
 ·simp[e2,Ne.symm h]
 ·simp[e1,e2]
theorem KB{n u v:Nat}{ws:List Nat}{b:Bool}(hf:bJ n ws)(hu:u<n)(hv:v<n)(h:dep n ws v=false):dep n (c6 n ws u b) v=false:=by
 by_cases e:u=v
 ·subst e
  cases hd:dep n (c6 n ws u b) u
  ·rfl
  ·obtain⟨x,hx,hne⟩:=(pN (bV hf.jR) hu).1 hd
   rw[dH hf hu (dF hx hu),dH hf hu (dF hx hu)]at hne
   refine absurd ?_ hne
   congr 1
   apply Nat.eq_of_testBit_eq;intro k
   rw[ai,ai,ai,ai]
   by_cases e:k=u<;>simp[e]
 ·cases hd:dep n (c6 n ws u b) v
  ·rfl
  ·obtain⟨x,hx,hne⟩:=(pN (bV hf.jR) hv).1 hd
   rw[dH hf hu (dF hx hv),dH hf hu (dF hx hv),dy (Ne.symm e),dy (Ne.symm e)]at hne
   have:=(pN hf hv).2 ⟨au x u b,dF hx hu,hne⟩
   rw[h]at this;cases this
theorem tV{n:Nat}{L:Fs}{A:Nat}(hL:∀t∈L,bJ n t)(hn:n≤16){v:Nat}(hv:v<n)(h:∀t∈L,dep n t v=false):∀k,k≤n→∀t∈st n L A k,dep n t v=false
 |0,_,t,ht=>h t (bW.1 ht)
 |k+1,hk,t,ht=>by
  rw[st]at ht
  split at ht
  ·obtain⟨u,hu,b,rfl⟩:=bu.1 ht
   exact KB (xK hL hn k u hu) (by omega) hv (tV hL hn hv h k (by omega) u hu)
  ·exact tV hL hn hv h k (by omega) t ht
def aL(n:Nat)(L:Fs):Nat:=L.foldl (fun u t=>u|||mm n t) 0
theorem lH(n v:Nat):∀(L:Fs) (u:Nat),(L.foldl (fun u t=>u|||mm n t) u).testBit v=(u.testBit v||L.any fun t=>(mm n t).testBit v)
 | [],u=>by simp
 |t::L,u=>by rw[List.foldl_cons,lH n v L,Nat.testBit_or,List.any_cons,Bool.or_assoc]
theorem tR{n v:Nat}{L:Fs}:(aL n L).testBit v=L.any fun t=>(mm n t).testBit v:=by
 unfold aL;rw[lH];simp
theorem pW{n v:Nat}{L:Fs}(hv:v<n)(h:(aL n L).testBit v=false):∀t∈L,dep n t v=false:=by
 rw[tR,List.any_eq_false]at h
 intro t ht
 have:=h t ht
 rw[mm,fC]at this
 simpa[hv]using this
theorem wA(n:Nat):∀(L:Fs) (u:Nat),u<2^n→L.foldl (fun u t=>u|||mm n t) u<2^n
 | [],u,h=>h
 |t::L,u,h=>wA n L _ (Nat.or_lt_two_pow h (jI n t n))
theorem mV(n:Nat)(L:Fs):aL n L<2^n:=wA n L 0 (Nat.two_pow_pos n)
theorem BC{n:Nat}{L:Fs}{A:Nat}(hL:∀t∈L,bJ n t)(hn:n≤16):∀k,k≤n→∀x,x∈st n L A k↔x∈st n L (A&&&aL n L) k
 |0,_,x=>Iff.rfl
 |k+1,hk,x=>by
  have ih:=BC (A:=A) hL hn k (by omega)
  rw[st,st,Nat.testBit_and]
  cases hA:A.testBit k
  ·simpa using ih x
  ·cases hU:(aL n L).testBit k
   ·simp only[if_true,Bool.and_false,Bool.false_eq_true,if_false]
    rw[bu,←ih x]
    have hd:=tV (A:=A) hL hn (v:=k) (by omega) (pW (by omega) hU) k (by omega)
    have hf:=xK (A:=A) hL hn k
    constructor
    ·rintro⟨t,ht,b,rfl⟩
     rw[j8 (hf t ht) (by omega) (hd t ht)];exact ht
    ·intro hx
     exact⟨x,hx,false,(j8 (hf x hx) (by omega) (hd x hx)).symm⟩
   ·simp only[Bool.and_true,if_true]
    rw[bu,bu]
    constructor
    ·rintro⟨t,ht,h⟩;exact⟨t,(ih t).1 ht,h⟩
    ·rintro⟨t,ht,h⟩;exact⟨t,(ih t).2 ht,h⟩
theorem tM{n:Nat}{L:Fs}(hL:∀t∈L,bJ n t)(hn:n≤16):Used n (lvl n L) (aL n L):=by
 refine⟨fun a v hv _ hU=>?_,fun a v hv _=>?_⟩
 ·unfold lvl nodes
  rw[List.length_eq_zero_iff,List.filter_eq_nil_iff]
  intro t ht
  rw[tV hL hn hv (pW hv hU) n (Nat.le_refl _) t ht];simp
 ·exact gz (dX (jJ n L a n) (jJ n L _ n) (BC hL hn n (Nat.le_refl _)))
end af
set_option maxRecDepth 100000
namespace Go.Proofs
open Go Go.Sx
def kp(x:Nat×Nat):Value:=.agg (aC .i64 [(x.1:Int),(x.2:Int)])
def ki(x:Nat):Value:=.int .i64 (x:Int)
theorem oh(a b:Nat):Instr.sameNow (.int .i64) (ki a) (ki b)=some (decide (a=b)):=by
 simp only[Instr.sameNow,ki,if_true,Option.some.injEq]
 rw[Bool.eq_iff_iff];simp;omega
theorem BR(a:Nat):Instr.sameBits 10000 (ki a) (ki a)=true:=by simp[Instr.sameBits,ki]
theorem Gr(a b:Nat×Nat):Bk Tryz.prog 226 (kp a) (kp b) (decide (a=b)):=by
 have:=Bk.array (P:=Tryz.prog) (t:=226) (e:=3) (q:=.i64) (n:=2) (by kernel_rfl) (by kernel_rfl) (by kernel_rfl) [(a.1:Int),(a.2:Int)] [(b.1:Int),(b.2:Int)] rfl rfl
 have e:decide ([(a.1:Int),(a.2:Int)]=[(b.1:Int),(b.2:Int)])=decide (a=b):=by
  rw[decide_eq_decide]
  obtain⟨a1,a2⟩:=a;obtain⟨b1,b2⟩:=b
  simp;omega
 rw[e]at this;exact this
theorem ye(a:Nat×Nat):lB Tryz.prog 226 (kp a):=lB.array (P:=Tryz.prog) (t:=226) (e:=3) (q:=.i64) (n:=2) (by kernel_rfl) (by kernel_rfl) (by kernel_rfl) _ rfl
theorem rY(n:Nat)(q:IntKind)(l:List Int):Instr.sameBits (n+1+1) (.agg (aC q l)) (.agg (aC q l))=true:=by
 simp only[Instr.sameBits,aC,beq_self_eq_true,Bool.true_and,List.all_eq_true]
 intro x hx
 obtain⟨a,b⟩:=x
 have h:=List.of_mem_zip hx
 have e:a=b:=by
  rw[List.zip_eq_zip_take_min]at hx
  obtain⟨i,hi,he⟩:=List.mem_iff_getElem.1 hx
  simp at he
  exact he.1.symm.trans he.2
 subst e
 have:=h.1
 simp only[List.toList_toArray,List.mem_map]at this
 obtain⟨y,_,rfl⟩:=this
 simp[Instr.sameBits]
theorem JH(a:Nat×Nat):Instr.sameBits 10000 (kp a) (kp a)=true:=rY 9998 _ _
abbrev KV(v:Value)(x:Nat):Prop:=v=.int .i64 (x:Int)
structure Co(n:Nat)(L:List (List Nat))(nE:Array MapEntry)(l7:Nat)(mI:Array MapEntry)(nJ:Nat):Prop where
 ak:∃m,aR kp KV nE l7 m∧∀x∈m,x.2=af.lvl n L x.1.1 x.1.2
 Z5:∃m,aR ki KV mI nJ m∧∀x∈m,x.2=af.B n (af.lvl n L) x.1
def gJ(bp bl bd:Nat)(pI:Value)(n:Nat)(L:List (List Nat))(U:Nat)(B H:Hp):Prop:=
 ∃nE l7 mI nJ,H=(bp,.cells #[pI,.int .i64 (n:Int),.int .i64 (U:Int),.map (some bl),.map (some bd)] 137 (0,0))::(bl,.map nE l7)::(bd,.map mI nJ)::B∧Co n L nE l7 mI nJ
theorem vA{κ:Type}[DecidableEq κ]{f:κ→Nat}{m:List (κ×Nat)}{k:κ}(h:∀x∈m,x.2=f x.1):∀x∈e8 m k (f k),x.2=f x.1:=by
 intro x hx
 unfold e8 at hx
 split at hx
 ·obtain⟨y,hy,rfl⟩:=List.mem_map.1 hx
  split
  ·rfl
  ·exact h y hy
 ·rcases List.mem_append.1 hx with hx|hx
  ·exact h x hx
  ·simp at hx;subst hx;rfl
theorem vC{κ:Type}[DecidableEq κ]{f:κ→Nat}{m:List (κ×Nat)}{k:κ}{x:Nat}(h:∀x∈m,x.2=f x.1)(hk:dm m k=some x):x=f k:=by
 unfold dm at hk
 obtain⟨y,hy,rfl⟩:=Option.map_eq_some_iff.1 hk
 have h1:=List.find?_some hy
 have h2:=h y (List.mem_of_find?_eq_some hy)
 simp only[decide_eq_true_eq]at h1
 rw[h2,h1]
structure mM(pI:Value)(n:Nat)(L:List (List Nat))(B:Hp):Prop where
 tb:bH B pI (cU n L)
 jy:∀ws∈L,af.bJ n ws
 ne:L≠[]
 small:L.length<33554432
 OX:n≤12
theorem qz{pI:Value}{n:Nat}{L:List (List Nat)}{B:Hp}(h:mM pI n L B)(a v:Nat):af.lvl n L a v<2199023255551:=by
 have h1:af.lvl n L a v≤(af.st n L a n).length:=List.length_filter_le _ _
 have h2:=FH (n:=n) (A:=a) (L:=L) (by have:=h.OX;omega) h.small (Nat.le_refl n)
 omega
theorem qu{pI:Value}{n:Nat}{L:List (List Nat)}{B:Hp}(h:mM pI n L B){bp bl bd a v:Nat}{H:Hp}(hp:gJ bp bl bd pI n L (af.aL n L) B H)(ha:a<2^n)(hv:v<n)(TO:a.testBit v=false):
  Fc Tryz.prog 73 #[.pointer (some ⟨bp,0,none⟩),.int .i64 (a:Int),.int .i64 (v:Int)] H (fun r H'=>r=.int .i64 ((af.lvl n L a v:Nat):Int)∧gJ bp bl bd pI n L (af.aL n L) B H'):=by
 obtain⟨nE,l7,mI,nJ,rfl,hM⟩:=hp
 have hU:=af.mV n L
 have nv:=h.OX
 have iP:2^n≤2^12:=Nat.pow_le_pow_right (by decide) nv
 have oX:=af.tM h.jy (by omega)
 have ZJ:af.aL n L>>>v≤af.aL n L:=Nat.shiftRight_le _ _
 refine aX fun g=>Eu ?_
 refine Nil.ptr ?_
 refine ag.mk (Ld.mk zM rfl ?_)
 refine aa.gN (by simp[aW];omega) (aa.gI (b:=1) (by simp[aW];omega) (by decide) (aa.jC (b:=0) ?_))
 have qM:af.aL n L>>>v&&&1=0↔(af.aL n L).testBit v=false:=by
  rw[af.dU,Nat.testBit_shiftRight,Nat.add_zero];cases (af.aL n L).testBit v<;>simp
 refine Br.dec (fun h0=>?_) (fun h0=>?_)
 ·refine bN.here ⟨?_,nE,l7,mI,nJ,rfl,hM⟩
  rw[oX.zero a v hv TO (qM.1 h0)];rfl
 have ZU:(af.aL n L).testBit v=true:=by cases hh:(af.aL n L).testBit v;exact absurd (qM.2 hh) h0;rfl
 refine Nil.ptr ?_
 refine ag.mk (Ld.mk zM rfl ?_)
 refine aa.gI (by simp[aW];omega) (by simp[aW];omega) ?_
 have hlv:af.lvl n L a v=af.lvl n L (a&&&af.aL n L) v:=oX.mask a v hv TO
 have LN:(a&&&af.aL n L).testBit v=false:=by rw[Nat.testBit_and,TO];rfl
 have On:a&&&af.aL n L<2^n:=Nat.lt_of_le_of_lt Nat.and_le_left ha
 rw[hlv]
 obtain⟨a',di⟩:∃a',a'=a&&&af.aL n L:=⟨_,rfl⟩
 rw[←di]at LN On⊢
 refine Build.two (q:=.i64) (e:=3) (by kernel_rfl) (by kernel_rfl) (by kernel_rfl) ?_
 rw[show aC .i64 [(a':Int),(v:Int)]=List.toArray [.int .i64 (a':Int),.int .i64 (v:Int)]from rfl]
 intro UA _
 refine St.q ?_
 refine Nil.ptr ?_
 refine ag.mk (Ld.mk zM rfl ?_)
 refine ax.q ?_
 obtain⟨⟨m1,LW,xw⟩,P7⟩:=hM
 have Pq:∀J:List Value→Hp→Prop,(∀Rh:Value,∀Wa:Hp,(∀Ys:Fr,bN (fun r H'=>r=.int .i64 ((af.lvl n L a' v:Nat):Int)∧gJ bp bl bd pI n L (af.aL n L) B H') (.returned Rh) Wa)→J [Rh] Wa)→
   ∀Kz KC,Co n L Kz KC mI nJ→J [.int .i64 ((af.lvl n L a' v:Nat):Int)] ((bp,.cells #[pI,.int .i64 (n:Int),.int .i64 ((af.aL n L:Nat):Int),.map (some bl),.map (some bd)] 137 (0,0))::(bl,.map Kz KC)::(bd,.map mI nJ)::B):=
  fun J hJ Kz KC hM=>hJ _ _ fun gs=>bN.here ⟨rfl,Kz,KC,mI,nJ,rfl,hM⟩
 cases hg:dm m1 (a',v)with
 |some x=>
  have hx:=vC (f:=fun k=>af.lvl n L k.1 k.2) xw hg
  simp only at hx
  refine aR.J0 (ke:=kp) (k:=(a',v)) Gr ye LW (by exact .tail _ (.tail _ (.head _))) hg fun y hy=>?_
  subst hy
  refine Ext.two ?_
  intro J hJ
  refine Un.not (Br.no (JE.of .tail ?_))
  rw[hx]
  exact Pq J hJ _ _ ⟨⟨m1,LW,xw⟩,P7⟩
 |none=>
  refine aR.BO (ke:=kp) (k:=(a',v)) Gr ye LW (by exact .tail _ (.tail _ (.head _))) hg ?_
  refine Ext.two ?_
  intro J hJ
  refine Un.not (Br.yes ?_)
  refine DR.self ?_
  refine Nil.ptr ?_
  refine ag.mk (Ld.mk zM rfl ?_)
  refine⟨UA,0,.i64,0,rfl,rfl,by decide,by decide,?_⟩
  refine Ld.q ?_
  refine aY.q ?_
  refine ae.eq (B:=B) (Gn (n:=n) (L:=L) h.tb h.jy h.ne (by have:=h.small;omega) On hv LN) ?_
  refine⟨.refl _,Ext.mk rfl (Ext.mk rfl ?_)⟩
  refine DR.of (R:=(UA,.cells (List.toArray [.int .i64 (a':Int),.int .i64 (v:Int)]) 226 (0,0))::(bp,.cells #[pI,.int .i64 (n:Int),.int .i64 ((af.aL n L:Nat):Int),.map (some bl),.map (some bd)] 137 (0,0))::[]) (.cons (.cons (fun g w h=>(Own.left (B:=_) (A:=[]) h)))) ?_
  refine Nil.ptr ?_
  refine ag.mk (Ld.mk zM rfl ?_)
  refine ax.q ?_
  refine aR.OC (ke:=kp) (vr:=KV) (b:=bl) (val:=.int .i64 ((af.lvl n L a' v:Nat):Int)) (k:=(a',v)) (x:=af.lvl n L a' v) Gr ye JH LW rfl fun es' c8 pB=>⟨_,.tail (.tail (.head _)),?_⟩
  have GU:∀x∈e8 m1 (a',v) (af.lvl n L a' v),x.2=af.lvl n L x.1.1 x.1.2:=vA (f:=fun k:Nat×Nat=>af.lvl n L k.1 k.2) (k:=(a',v)) xw
  have RW:Co n L es' c8 mI nJ:=⟨⟨e8 m1 (a',v) (af.lvl n L a' v),pB,GU⟩,P7⟩
  exact JE.of .tail (Pq J hJ es' c8 RW)
end Go.Proofs
namespace Go.Sx
open Go
theorem qt(n:Int):BitVec.ofInt 64 (IntKind.i64.wrap n)=BitVec.ofInt 64 n:=by
 apply BitVec.eq_of_toNat_eq
 simp only[BitVec.toNat_ofInt,IntKind.wrap,IntKind.bits,IntKind.signed,Bool.true_and,decide_eq_true_eq]
 congr 1
 split<;>omega
theorem wrap_toInt(x:BitVec 64):IntKind.i64.wrap (x.toNat:Int)=x.toInt:=by
 rw[BitVec.toInt_eq_toNat_cond]
 have:=x.isLt
 have e:(2:Int)^(64-1)=9223372036854775808:=rfl
 simp only[IntKind.wrap,IntKind.bits,IntKind.signed,Bool.true_and,decide_eq_true_eq,e]
 split<;>split<;>omega
theorem mF(op:BinOp)(x y:Int):BitVec.ofInt 64 (bits op .i64 x y)=(match op with
  | .and=>BitVec.ofInt 64 x&&&BitVec.ofInt 64 y
  | .or=>BitVec.ofInt 64 x|||BitVec.ofInt 64 y
  | .xor=>BitVec.ofInt 64 x^^^BitVec.ofInt 64 y
  |_=>BitVec.ofInt 64 x&&& ~~~BitVec.ofInt 64 y):=by
 unfold bits
 simp only[qt]
 rw[BitVec.ofInt_natCast]
 simp only[IntKind.bits]
 rw[BitVec.ofNat_toNat,BitVec.setWidth_eq]
 cases op<;>rfl
theorem rp(op:BinOp)(x y:Int):bits op .i64 x y=(BitVec.ofInt 64 (bits op .i64 x y)).toInt:=by
 unfold bits
 simp only[qt]
 rw[BitVec.ofInt_natCast]
 simp only[IntKind.bits]
 rw[BitVec.ofNat_toNat,BitVec.setWidth_eq]
 exact wrap_toInt _
theorem Dh{a U v:Nat}(ha:a<4611686018427387904)(hU:U<4611686018427387904)(hv:v<62):
  bits .and .i64 ((bits .or .i64 a (bits .xor .i64 (-1) U)).fdiv (2^(min (v:Int).toNat IntKind.i64.bits))) 1=if a.testBit v=true∨U.testBit v=false then 1 else 0:=by
 have hX:=mF .or (a:Int) (bits .xor .i64 (-1) U)
 simp only at hX
 have hN:=mF .xor (-1) (U:Int)
 simp only at hN
 rw[hN]at hX
 generalize hx:bits .or .i64 a (bits .xor .i64 (-1) U)=x at hX
 have Rs:x=(BitVec.ofInt 64 x).toInt:=by rw[←hx];exact rp _ _ _
 have hm:min (v:Int).toNat IntKind.i64.bits=v:=by simp[IntKind.bits];omega
 rw[hm]
 have hs:x.fdiv (2^v)=((BitVec.ofInt 64 x).sshiftRight v).toInt:=by
  rw[BitVec.toInt_sshiftRight,←Rs,Int.shiftRight_eq_div_pow,Int.fdiv_eq_ediv_of_nonneg _ (Int.le_of_lt (Int.pow_pos (by decide)))]
  push_cast;rfl
 rw[hs,rp,mF]
 simp only[BitVec.ofInt_toInt]
 rw[hX]
 have h1:BitVec.ofInt 64 (1:Int)=1#64:=rfl
 have h2:BitVec.ofInt 64 (-1:Int)=BitVec.allOnes 64:=by decide
 rw[h1,h2]
 have qM:((BitVec.ofInt 64 (a:Int)|||BitVec.allOnes 64^^^BitVec.ofInt 64 (U:Int)).sshiftRight v).getLsbD 0=(a.testBit v|| !U.testBit v):=by
  rw[BitVec.getLsbD_sshiftRight]
  have e1:v+0<64:=by omega
  simp only[Nat.add_zero,show¬(64≤0)from by decide,decide_false,Bool.not_false,Bool.true_and,show v<64 by omega,if_true]
  rw[BitVec.getLsbD_or,BitVec.getLsbD_xor,BitVec.getLsbD_allOnes,BitVec.ofInt_natCast,BitVec.ofInt_natCast,BitVec.getLsbD_ofNat,BitVec.getLsbD_ofNat]
  simp[show v<64 by omega]
 have dA:∀y:BitVec 64,(y&&&1#64).toInt=if y.getLsbD 0 then 1 else 0:=by
  intro y
  have:y&&&1#64=if y.getLsbD 0 then 1#64 else 0#64:=by
   apply BitVec.eq_of_getLsbD_eq
   intro i hi
   rw[BitVec.getLsbD_and]
   by_cases h0:i=0
   ·subst h0;cases hb:y.getLsbD 0<;>simp[hb]
   ·have:(1#64).getLsbD i=false:=by simp[BitVec.getLsbD_one,h0]
    rw[this]
    cases y.getLsbD 0<;>simp[this]
  rw[this]
  cases y.getLsbD 0<;>decide
 rw[dA,qM]
 cases a.testBit v<;>cases U.testBit v<;>simp
theorem OU{a U v:Nat}(ha:a<4611686018427387904)(hU:U<4611686018427387904)(hv:v<62){k:Value→Prop}(h:k (.bool (decide (a.testBit v=true∨U.testBit v=false)))):
  Un .xor (.int .i64 (U:Int)) fun Ws=>aa .num .or (.int .i64 (a:Int)) Ws fun Wr=>aa .num .shr Wr (.int .i64 (v:Int)) fun Wq=>aa .num .and Wq (.int .i64 1) fun Wp=>aa .num .eql Wp (.int .i64 1) k:=by
 refine⟨_,rfl,_,rfl,?_⟩
 have h0:¬((v:Int)<0):=by omega
 refine⟨_,by simp only[eS,h0,if_false];rfl,_,rfl,?_⟩
 refine aa.j5 ?_
 have hs:(if IntKind.i64.signed=true then(-1:Int)else IntKind.i64.max)= -1:=rfl
 rw[hs,Dh ha hU hv]
 by_cases hc:a.testBit v=true∨U.testBit v=false
 ·rw[if_pos hc];rw[decide_eq_true hc]at h;exact h
 ·rw[if_neg hc];rw[decide_eq_false hc]at h;exact h
end Go.Sx
set_option maxRecDepth 100000
namespace Go.Proofs
open Go Go.Sx
theorem eA(x:Value)(r:List Value)(i:Nat):aV (x::r) (i+1)=aV r i:=by cases x<;>rfl
def gv(n:Nat)(L:List (List Nat))(U a k:Nat):List Nat:=((List.range k).filter fun v=> !a.testBit v&&U.testBit v).map fun v=>af.lvl n L a v+af.B n (af.lvl n L) (af.au a v true)
theorem CZ{n:Nat}{L:List (List Nat)}{U a:Nat}:gv n L U a n=(af.cK n U a).map fun v=>af.lvl n L a v+af.B n (af.lvl n L) (af.au a v true):=by
 unfold gv af.cK af.bC
 rw[List.filter_filter]
 congr 1
 apply List.filter_congr
 intro v _
 cases a.testBit v<;>cases U.testBit v<;>rfl
theorem qg{n:Nat}{L:List (List Nat)}{U a k:Nat}:gv n L U a (k+1)=if a.testBit k=true∨U.testBit k=false then gv n L U a k else gv n L U a k++[af.lvl n L a k+af.B n (af.lvl n L) (af.au a k true)]:=by
 unfold gv
 rw[List.range_succ,List.filter_append,List.map_append]
 cases h1:a.testBit k<;>cases h2:U.testBit k<;>simp[h1,h2]
def tC(l:List Nat):Value:=if l=[]then .int .i64 (-1)else .int .i64 ((af.dP l:Nat):Int)
theorem HY(n:Nat)(c:Nat→Nat→Nat)(M:Nat)(hc:∀a v,c a v≤M):∀f a,af.HZ n c f a≤f*M
 |0,a=>by simp[af.HZ]
 |f+1,a=>by
  rw[af.HZ,Nat.succ_mul]
  by_cases h:af.bC n a=[]
  ·rw[h];simp[af.dP]
  ·have:=af.gm (l:=(af.bC n a).map fun v=>c a v+af.HZ n c f (af.au a v true)) (by simpa using h)
   obtain⟨v,_,e⟩:=List.mem_map.1 this
   rw[←e]
   have h1:=hc a v
   have h2:=HY n c M hc f (af.au a v true)
   omega
theorem uN{pI:Value}{n:Nat}{L:List (List Nat)}{B:Hp}(h:mM pI n L B)(a:Nat):af.B n (af.lvl n L) a<35184372088832:=by
 have h1:=HY n (af.lvl n L) 2199023255551 (fun a v=>Nat.le_of_lt (qz h a v)) n a
 have h2:n*2199023255551≤12*2199023255551:=Nat.mul_le_mul_right _ h.OX
 unfold af.B;omega
theorem uK{a U n:Nat}(hU:U<2^n)(h:∀v,v<n→¬(a.testBit v=false∧U.testBit v=true)):a&&&U=U:=by
 apply Nat.eq_of_testBit_eq;intro k
 rw[Nat.testBit_and]
 by_cases hk:k<n
 ·have:=h k hk
  cases h1:a.testBit k<;>cases h2:U.testBit k<;>simp_all
 ·have:U.testBit k=false:=Nat.testBit_lt_two_pow (Nat.lt_of_lt_of_le hU (Nat.pow_le_pow_right (by decide) (by omega)))
  rw[this];simp
theorem kD{pI:Value}{n:Nat}{L:List (List Nat)}{B:Hp}(h:mM pI n L B){bp bl bd:Nat}:∀(d a:Nat),(af.cK n (af.aL n L) a).length≤d→a<2^n→∀H,gJ bp bl bd pI n L (af.aL n L) B H→
  Fc Tryz.prog 74 #[.pointer (some ⟨bp,0,none⟩),.int .i64 (a:Int)] H (fun r H'=>r=.int .i64 ((af.B n (af.lvl n L) a:Nat):Int)∧gJ bp bl bd pI n L (af.aL n L) B H'):=by
 have hU:=af.mV n L
 have nv:=h.OX
 have iP:2^n≤2^12:=Nat.pow_le_pow_right (by decide) nv
 have oX:=af.tM h.jy (by omega)
 intro d
 induction d using Nat.strongRecOn with
 |_ d ih=>
  intro a hd ha H hp
  obtain⟨nE,l7,mI,nJ,rfl,hM⟩:=hp
  refine aX fun g=>tI ?_
  refine Nil.ptr ?_
  refine ag.mk (Ld.mk zM rfl ?_)
  refine aa.gI (by simp[aW];omega) (by simp[aW];omega) ?_
  refine Nil.ptr ?_
  refine ag.mk (Ld.mk zM rfl ?_)
  have VL:af.B n (af.lvl n L) a=af.B n (af.lvl n L) (a&&&af.aL n L):=(af.Is oX a).symm
  have DC:af.cK n (af.aL n L) (a&&&af.aL n L)=af.cK n (af.aL n L) a:=af.ir _ _ _
  have On:a&&&af.aL n L<2^n:=Nat.lt_of_le_of_lt Nat.and_le_left ha
  have jX:(a&&&af.aL n L) &&&af.aL n L=a&&&af.aL n L:=by rw[Nat.and_assoc,Nat.and_self]
  rw[VL]
  rw[←DC]at hd
  obtain⟨a',di⟩:∃a',a'=a&&&af.aL n L:=⟨_,rfl⟩
  rw[←di]at On hd jX⊢
  clear VL DC ha di
  have aA:=CZ (n:=n) (L:=L) (U:=af.aL n L) (a:=a')
  have Pr:af.B n (af.lvl n L) a'=af.dP (gv n L (af.aL n L) a' n):=by
   rw[aA]
   have:=af.Re oX a'
   rw[jX]at this
   exact this
  refine aa.jC (Br.dec (fun h0=>?_) (fun h0=>?_))
  ·refine bN.here ⟨?_,nE,l7,mI,nJ,rfl,hM⟩
   have:af.cK n (af.aL n L) a'=[]:=by
    rw[List.eq_nil_iff_forall_not_mem]
    intro v hv
    obtain⟨_,h2,h3⟩:=af.dY.1 hv
    rw[h0,h3]at h2;cases h2
   rw[Pr,aA,this];rfl
  have hne:gv n L (af.aL n L) a' n≠[]:=by
   rw[aA]
   intro e
   apply h0
   rw[←jX]
   refine uK hU fun v hv hh=>?_
   have:v∈af.cK n (af.aL n L) a':=af.dY.2 ⟨hv,hh.1,hh.2⟩
   rw[List.map_eq_nil_iff.1 e]at this;simp at this
  refine Nil.ptr ?_
  refine ag.mk (Ld.mk zM rfl ?_)
  obtain⟨GX,m2,wm,uo⟩:=hM
  cases hg:dm m2 a' with
  |some x=>
   have hx:=vC (f:=af.B n (af.lvl n L)) uo hg
   refine aR.hit (ke:=ki) (k:=a') oh wm (by exact .tail _ (.tail _ (.head _))) hg fun y hy=>?_
   subst hy
   refine Ext.mk rfl (Ext.mk rfl (Br.yes (bN.here ⟨?_,nE,l7,mI,nJ,rfl,GX,m2,wm,uo⟩)))
   rw[hx];rfl
  |none=>
   refine aR.bC (ke:=ki) (k:=a') oh wm (by exact .tail _ (.tail _ (.head _))) hg ?_
   refine Ext.mk rfl (Ext.mk rfl (Br.no (Nil.ptr ?_)))
   refine ag.mk (Ld.mk zM rfl ?_)
   refine⟨fun vs H=>∃k:Nat,vs=[tC (gv n L (af.aL n L) a' k),.int .i64 (k:Int)]∧k≤n∧gJ bp bl bd pI n L (af.aL n L) B H,fun vs _=>n-aV vs 1,
    JE.mk ⟨0,rfl,Nat.zero_le _,nE,l7,mI,nJ,rfl,GX,m2,wm,uo⟩,?_⟩
   clear wm uo hg GX nE l7 mI nJ m2
   rintro UF Wi H ⟨k,⟨⟩,hk,hp⟩ gs
   refine aa.dn (Br.dec (fun hlt=>?_) (fun hlt=>?_))
   ·intro J hJ
    have sb:=hp
    obtain⟨nE,l7,mI,nJ,rfl,hM⟩:=hp
    refine Nil.ptr ?_
    refine ag.mk (Ld.mk zM rfl ?_)
    refine OU (by omega) (by omega) (by omega) ?_
    have oV:∀l H,l=gv n L (af.aL n L) a' (k+1)→gJ bp bl bd pI n L (af.aL n L) B H→J [tC l] H:=fun l H hl hp=>hJ _ _ fun gs=>by
     refine aa.inc ?_
     exact aq.mk ⟨k+1,by rw[hl],by omega,hp⟩ (by rw[eA,eA];show n-(((k:Int)+1).toNat)<n-((k:Int).toNat);omega)
    by_cases hc:a'.testBit k=true∨(af.aL n L).testBit k=false
    ·rw[decide_eq_true hc]
     refine Br.yes (JE.mk (oV _ _ ?_ sb))
     rw[qg,if_pos hc]
    ·rw[decide_eq_false hc]
     have RN:a'.testBit k=false∧(af.aL n L).testBit k=true:=by
      cases h1:a'.testBit k<;>cases h2:(af.aL n L).testBit k<;>simp_all
     have hmem:k∈af.cK n (af.aL n L) a':=af.dY.2 ⟨hlt,RN.1,RN.2⟩
     refine Br.no (DR.self ?_)
     have hpk:2^k≤2^12:=Nat.pow_le_pow_right (by decide) (by omega)
     refine aa.n7 (a:=1) (by simp[IntKind.bits];omega) (by rw[Nat.one_shiftLeft];simp[aW];omega) ?_
     rw[Nat.one_shiftLeft]
     refine aa.xW (by simp[aW];omega) (by simp[aW];omega) ?_
     have DW:a'|||2^k=af.au a' k true:=rfl
     rw[DW]
     refine ae.fq (qu h sb On hlt RN.1) ?_
     rintro r H1 ⟨rfl,r9⟩
     have hlen:(af.cK n (af.aL n L) (af.au a' k true)).length<d:=by
      have h1:(af.cK n (af.aL n L) (af.au a' k true)).length+1=(af.cK n (af.aL n L) a').length:=by
       unfold af.cK af.bC
       rw[List.filter_filter,List.filter_filter]
       refine af.gX _ _ k (List.range n) List.nodup_range (List.mem_range.2 hlt) (by simp[RN]) (by simp[af.ai]) fun y hy hne=>?_
       rw[af.m4 hne]
      omega
     refine ae.fq (ih _ hlen (af.au a' k true) (Nat.le_refl _) (af.dF On hlt) H1 r9) ?_
     rintro r H2 ⟨rfl,iP⟩
     have Qh:=qz h a' k
     have Qg:=uN h (af.au a' k true)
     refine aa.ef ?_
     have hstep:=qg (n:=n) (L:=L) (U:=af.aL n L) (a:=a') (k:=k)
     rw[if_neg hc]at hstep
     generalize af.lvl n L a' k+af.B n (af.lvl n L) (af.au a' k true)=x at hstep
     unfold tC
     by_cases hl:gv n L (af.aL n L) a' k=[]
     ·rw[if_pos hl]
      refine aa.lss (dI.mk true (fun e=>by simp at e) (fun _=>rfl) fun gs=>Br.yes (JE.mk ?_))
      have:=oV [x] _ (by rw[hstep,hl];rfl) iP
      simpa[tC,af.dP]using this
     ·rw[if_neg hl]
      have PI:=af.x6 (gv n L (af.aL n L) a' k) x
      rw[if_neg hl,←hstep]at PI
      have MW:gv n L (af.aL n L) a' (k+1)≠[]:=by rw[hstep];simp
      have Lt:=oV _ H2 rfl iP
      unfold tC at Lt
      rw[if_neg MW,PI]at Lt
      have hneg:decide (((af.dP (gv n L (af.aL n L) a' k):Nat):Int)<0)=false:=decide_eq_false (by omega)
      by_cases hx:x<af.dP (gv n L (af.aL n L) a' k)
      ·rw[Nat.min_eq_right (by omega)]at Lt
       refine aa.lss ?_
       rw[hneg]
       exact dI.mk true (fun _=>aa.dn ⟨rfl,by rw[decide_eq_true hx]⟩) (fun e=>by simp at e) fun gs=>Br.yes (JE.mk Lt)
      ·rw[Nat.min_eq_left (by omega)]at Lt
       refine aa.lss ?_
       rw[hneg]
       exact dI.mk false (fun _=>aa.dn ⟨rfl,by rw[decide_eq_false hx]⟩) (fun e=>by simp at e) fun gs=>Br.no (JE.mk Lt)
   ·have:k=n:=by omega
    subst this
    obtain⟨nE,l7,mI,nJ,rfl,GX,m2,wm,uo⟩:=hp
    refine Nil.ptr ?_
    refine ag.mk (Ld.mk zM rfl ?_)
    unfold tC
    rw[if_neg hne,←Pr]
    refine aR.bM (ke:=ki) (vr:=KV) (b:=bd) (val:=.int .i64 ((af.B k (af.lvl k L) a':Nat):Int)) (k:=a') (x:=af.B k (af.lvl k L) a') oh BR wm rfl fun es' c8 pB=>⟨_,.tail (.tail (.head _)),?_⟩
    have Tm:∀x∈e8 m2 a' (af.B k (af.lvl k L) a'),x.2=af.B k (af.lvl k L) x.1:=vA (f:=af.B k (af.lvl k L)) uo
    exact bN.here ⟨rfl,nE,l7,es',c8,rfl,GX,_,pB,Tm⟩
end Go.Proofs
set_option maxRecDepth 100000
namespace Go.Proofs
open Go Go.Sx
def UD(v:Value)(ts:List Tb)(B:Hp)(r:Value)(H:Hp):Prop:=
 (jj ts∧∃(bp bl bd n:Nat) (L:List (List Nat)) (N:Hp),ts=cU n L∧(L=[]→n=0)∧n≤16∧(∀ws∈L,af.bJ n ws)∧r=.tuple #[.pointer (some ⟨bp,0,none⟩),.int .i64 0]∧gJ bp bl bd v n L (af.aL n L) (N++B) H)
 ∨(¬jj ts∧r=.tuple #[.pointer none,.int .i64 5])
theorem oO(n:Nat)(L:List (List Nat)):Co n L #[] 0 #[] 0:=⟨⟨[],aR.empty,by simp⟩,⟨[],aR.empty,by simp⟩⟩
theorem xF{n:Nat}{L:List (List Nat)}{k:Nat}(h:k<L.length):af.aL n (L.take (k+1))=af.aL n (L.take k)|||af.mm n L[k]:=by
 unfold af.aL
 rw[List.take_add_one,List.getElem?_eq_getElem h,Option.toList_some,List.foldl_append];rfl
theorem tq{B:Hp}{v:Value}{ts:List Tb}(ht:bH B v ts)(aU:ts.length<4398046511104):Px Tryz.prog 72 #[v] B (UD v ts B):=by
 obtain⟨va,vc,vl,rfl⟩:∃a c l,v=.slice a l c:=by
  obtain⟨rs,h1,_⟩:=ht
  obtain⟨a,c,e,_⟩:=h1.shape
  exact⟨a,c,_,e⟩
 refine aX fun g=>Ev ?_
 intro b1 _ b2 _
 refine Build.mk (cs:=[.slice va vl vc,.int .i64 0,.int .i64 0,.map (some b1),.map (some b2)]) (by kernel_rfl) ?_
 intro bp _
 generalize hvs:Value.slice va vl vc=vv at ht⊢
 refine ht.aM (aa.jC (b:=0) (Br.dec (fun h0=>?_) (fun h0=>?_)))
 ·have yo:ts=[]:=List.eq_nil_of_length_eq_zero h0
  subst yo
  refine⟨_,_,rfl,aJ.cons aJ.swap,(by repeat (first|exact aH.refl _|apply aH.cons|apply aH.app)),Or.inl ⟨by simp[jj],bp,b1,b2,0,[],[],rfl,fun _=>rfl,by omega,by simp,rfl,_,_,_,_,?_,oO _ _⟩⟩
  subst hvs;rfl
 refine ae.pq (B:=B) (F0 ht aU) ?_
 rintro r N ⟨s,rfl⟩
 refine Ext.two ?_
 by_cases hO:jj ts
 case neg=>
  rw[if_neg hO]
  exact aa.nU (a:=5) (b:=0) (Br.dec (fun _=>js.mk (by repeat (first|exact aH.refl _|apply aH.cons|apply aH.app)) (.inr ⟨hO,rfl⟩)) (fun h=>absurd (by decide) h))
 rw[if_pos hO]
 refine aa.nU (a:=0) (b:=0) (Br.dec (fun h=>absurd rfl h) (fun _=>?_))
 obtain⟨n,L,jb,rfl,hne,hf⟩:=BJ hO (by intro e;rw[e]at h0;exact h0 rfl)
 rw[List.length_map]at aU h0
 obtain⟨w0,nr⟩:∃w0,L[0]? =some w0:=⟨_,List.getElem?_eq_getElem (List.length_pos_iff.2 hne)⟩
 refine ht.MB (i:=0) (t:=⟨n,w0⟩) (by rw[List.getElem?_map,nr];rfl) zS ?_
 simp only
 refine Nil.ptr (ag.mk ?_)
 refine St.one (c:=#[vv,.int .i64 0,.int .i64 0,.map (some b1),.map (some b2)]) (c':=#[vv,.int .i64 (n:Int),.int .i64 0,.map (some b1),.map (some b2)]) (H':=(bp,.cells #[vv,.int .i64 (n:Int),.int .i64 0,.map (some b1),.map (some b2)] 137 (0,0))::(b2,.map #[] 0)::(b1,.map #[] 0)::(N++B)) (by subst hvs;exact .head _) rfl (by simp) rfl ?_
 refine ht.aM ?_
 rw[List.length_map]
 refine⟨fun vs H=>∃(k:Nat) (N:Hp),vs=[.int .i64 (k:Int)]∧k≤L.length∧H=(bp,.cells #[vv,.int .i64 (n:Int),.int .i64 ((af.aL n (L.take k):Nat):Int),.map (some b1),.map (some b2)] 137 (0,0))::(b2,.map #[] 0)::(b1,.map #[] 0)::(N++B),
  fun vs _=>L.length-aV vs 0,JE.mk ⟨0,N,rfl,by omega,rfl⟩,?_⟩
 clear N
 rintro w H ⟨k,N,⟨⟩,hk,rfl⟩ gs
 refine aa.dn (Br.dec (fun hlt=>?_) (fun hlt=>?_))
 ·have hg:(L.map fun ws=>(⟨n,ws⟩:Tb))[k]? =some ⟨n,L[k]⟩:=by rw[List.getElem?_map,List.getElem?_eq_getElem hlt];rfl
  have gQ:=hf L[k] (List.getElem_mem hlt)
  refine ht.ld hg zS fun s hw=>?_
  intro b3 _
  refine St.p ?_ ?_
  ·have:=av hw;simpa[Value.oneCell']using this
  refine ax.q ?_
  refine ae.eq (B:=B) (p9 (v:=.agg (List.toArray [.int .i64 (n:Int),s])) (t:=⟨n,L[k]⟩) ⟨s,rfl,hw⟩) ?_
  rw[if_pos (show TF ⟨(n:Int),L[k]⟩from⟨by simp,by simpa using gQ⟩)]
  refine Ext.two ?_
  simp only[Int.toNat_natCast]
  have Xo:2^n≤2^16:=Nat.pow_le_pow_right (n:=2) (by decide) jb
  have Pk:af.mm n L[k]<2^n:=af.jI n L[k] n
  have ZF:=af.mV n (L.take k)
  refine Nil.ptr ?_
  refine ag.mk (Ld.mk zM rfl ?_)
  refine aY.q ?_
  refine aa.xW (by simp[aW];omega) (by simp[aW];omega) ?_
  rw[←xF hlt]
  refine Nil.ptr (ag.mk ?_)
  refine St.one (c:=#[vv,.int .i64 (n:Int),.int .i64 ((af.aL n (L.take k):Nat):Int),.map (some b1),.map (some b2)]) (c':=#[vv,.int .i64 (n:Int),.int .i64 ((af.aL n (L.take (k+1)):Nat):Int),.map (some b1),.map (some b2)]) (by repeat (first|exact cA.head _|apply cA.tail|apply cA.bU)) rfl (by simp) rfl ?_
  refine aa.inc ?_
  exact aq.of .tail ⟨k+1,N,rfl,by omega,rfl⟩ (by simp[aV];omega)
 ·have:k=L.length:=by omega
  subst this
  rw[List.take_length]
  refine⟨_,_,rfl,aJ.cons aJ.swap,(by repeat (first|exact aH.refl _|apply aH.cons|apply aH.app)),Or.inl ⟨hO,bp,b1,b2,n,L,N,rfl,fun e=>absurd e hne,jb,hf,rfl,_,_,_,_,rfl,oO _ _⟩⟩
theorem F8{n:Nat}{c:Nat→Nat→Nat}{f a v:Nat}(hv:v∈af.bC n a)(he:c a v+af.B n c (af.au a v true)=af.B n c a)(hm:∀u∈af.bC n a,u<v→c a u+af.B n c (af.au a u true)≠af.B n c a):
    af.ord n c (f+1) a=v::af.ord n c f (af.au a v true):=by
  obtain⟨u,h1,h2,h3,h4⟩:=af.qp (c:=c) (f:=f) (List.ne_nil_of_mem hv)
  rcases Nat.lt_trichotomy u v with h|h|h
  · exact absurd h2 (hm u h1 h)
  · rw[h4,h]
  · exact absurd he (h3 v hv h)
theorem tD{pI:Value}{n:Nat}{L:List (List Nat)}{B:Hp}{bp bl bd a:Nat}(ha:a<4611686018427387904){H:Hp}(hp:gJ bp bl bd pI n L 0 B H):
    Fc Tryz.prog 74 #[.pointer (some ⟨bp,0,none⟩),.int .i64 (a:Int)] H (fun r H'=>r=.int .i64 0∧H'=H):=by
  obtain⟨nE,l7,mI,nJ,rfl,hM⟩:=hp
  refine aX fun g=>tI ?_
  refine Nil.ptr ?_
  refine ag.mk (Ld.mk zM rfl ?_)
  refine aa.gI (b:=0) (by simp[aW];omega) (by simp[aW]) ?_
  refine Nil.ptr ?_
  refine ag.mk (Ld.mk zM rfl ?_)
  exact aa.jC (b:=0) (Br.T (bN.here ⟨rfl,rfl⟩))
def Ma(ts:List Tb)(B:Hp)(r:Value)(H:Hp):Prop:=
  (¬jj ts∧r=.tuple #[.int .i64 0,.slice none 0 0,.int .i64 5])∨
  (jj ts∧∃(n:Nat) (L:List (List Nat)),ts=cU n L∧(L=[]→n=0)∧n≤16∧(∀ws∈L,af.bJ n ws)∧
    ((12<n∧r=.tuple #[.int .i64 0,.slice none 0 0,.int .i64 6])∨
     (n≤12∧∃(s:Value) (C N:Hp),r=.tuple #[.int .i64 ((af.B n (af.lvl n L) 0:Nat):Int),s,.int .i64 0]∧aK 3 .i64 s (iw (af.ord n (af.lvl n L) n 0)) C∧H=C++(N++B))))
structure Zf(n:Nat)(c:Nat→Nat→Nat)(s:Value)(a:Nat)(l:List Nat)(C:Hp):Prop where
  own:aK 3 .i64 s (iw l) C
  lt:a<2^n
  len:(af.bC n a).length+l.length=n
  pre:l++af.ord n c (n-l.length) a=af.ord n c n 0
theorem pR{a v:Nat}:(a>>>v&&&1=0)↔a.testBit v=false:=by
  have:=Nat.testBit_eq_decide_div_mod_eq (x:=a) (i:=v)
  rw[this,Nat.and_one_is_mod,Nat.shiftRight_eq_div_pow]
  simp
theorem Cg{B:Hp}{v:Value}{ts:List Tb}(ht:bH B v ts)(aU:ts.length<33554432):Px Tryz.prog 26 #[v] B (Ma ts B):=by
  refine aX fun g=>EO ?_
  refine ae.pq (tq ht (by omega)) ?_
  rintro r N0 (⟨hO,bp,bl,bd,n,L,N,rfl,E3,jb,hf,rfl,hp⟩|⟨hO,rfl⟩)
  case inr=>exact Ext.mk rfl (Ext.mk rfl (aa.nU (a:=5) (b:=0) (Br.dec (fun _=>js.mk (by repeat (first|exact aH.refl _|apply aH.cons|apply aH.app)) (.inl ⟨hO,rfl⟩)) (fun h=>absurd (by decide) h))))
  generalize N0++B=H2 at hp⊢
  clear N0
  rw[aI]at aU
  have sb:=hp
  obtain⟨nE,l7,mI,nJ,rfl,hM⟩:=hp
  refine Ext.mk rfl (Ext.mk rfl (aa.nU (a:=0) (b:=0) (Br.dec (fun h=>absurd rfl h) (fun _=>?_))))
  refine Nil.ptr ?_
  refine ag.mk (Ld.mk zM rfl ?_)
  refine aa.iR (b:=12) (Br.dec (fun Kp=>js.mk (by repeat (first|exact aH.refl _|apply aH.cons|apply aH.app)) (.inr ⟨hO,n,L,rfl,E3,jb,hf,.inl ⟨Kp,rfl⟩⟩)) (fun Kp=>?_))
  clear hM
  have nv:n≤12:=by omega
  have Ny:L≠[]→mM v n L (N++B):=fun hne=>⟨ht.mono zS,hf,hne,aU,nv⟩
  have iP:2^n≤2^12:=Nat.pow_le_pow_right (by decide) nv
  have hm0:(af.bC n 0).length=n:=by
    have:af.bC n 0=List.range n:=by unfold af.bC;rw[List.filter_eq_self];simp
    rw[this,List.length_range]
  refine⟨fun vs H=>∃(s:Value) (a:Nat) (l:List Nat) (C H1:Hp),vs=[s,.int .i64 (a:Int)]∧Zf n (af.lvl n L) s a l C∧gJ bp bl bd v n L (af.aL n L) (N++B) H1∧H=C++H1,
    fun vs _=>(af.bC n (aV vs 1)).length,JE.mk ⟨_,0,[],[],_,rfl,⟨aK.nil,Nat.two_pow_pos n,by rw[hm0];rfl,by simp⟩,sb,rfl⟩,?_⟩
  clear sb nE l7 mI nJ
  rintro Wm Wl H ⟨s,a,l,C,H1,⟨⟩,hb,hp,rfl⟩ gs
  have sb:=hp
  obtain⟨nE,l7,mI,nJ,rfl,hM⟩:=hp
  refine hb.own.aM ?_
  rw[ah]
  refine Nil.ptr ?_
  refine ag.mk (Ld.mk zM rfl ?_)
  have LJ:=hb.len
  refine aa.dn (Br.dec (fun hlt=>?_) (fun hlt=>?_))
  · have Tk:af.bC n a≠[]:=by intro e;rw[e]at LJ;simp at LJ;omega
    have hne:L≠[]:=fun e=>by have:=E3 e;omega
    have oU:=Ny hne
    have RB:n-l.length=n-l.length-1+1:=by omega
    refine Nil.ptr ?_
    refine ag.mk (Ld.mk zM rfl ?_)
    refine⟨fun vs H=>∃(k:Nat) (H1:Hp),vs=[Wm,.int .i64 (a:Int),.int .i64 (k:Int)]∧k≤n∧(∀u∈af.bC n a,u<k→af.lvl n L a u+af.B n (af.lvl n L) (af.au a u true)≠af.B n (af.lvl n L) a)∧gJ bp bl bd v n L (af.aL n L) (N++B) H1∧H=C++H1,
      fun vs _=>n-aV vs 2,JE.mk ⟨0,_,rfl,by omega,fun u _ h=>by omega,sb,rfl⟩,?_⟩
    clear hM sb
    rintro Zn Zm Zl H ⟨k,H1,⟨⟩,hk,hmin,hp,rfl⟩ gs
    refine aa.dn (Br.dec (fun hlk=>?_) (fun hlk=>?_))
    · intro J hJ
      have hpk:2^k≤2^12:=Nat.pow_le_pow_right (by decide) (by omega)
      have hno:∀H1,¬(a.testBit k=false∧af.lvl n L a k+af.B n (af.lvl n L) (af.au a k true)=af.B n (af.lvl n L) a)→gJ bp bl bd v n L (af.aL n L) (N++B) H1→J [.bool false] (C++H1):=fun H1 hx hp=>hJ _ _ fun gs=>by
        refine Br.no (aa.inc ?_)
        refine aq.mk ⟨k+1,H1,rfl,by omega,fun u hu ZP=>?_,hp,rfl⟩ (by rw[eA,eA,eA,eA];show n-(((k:Int)+1).toNat)<n-((k:Int).toNat);omega)
        by_cases e:u=k
        · subst e;exact fun h=>hx ⟨(af.ca.1 hu).2,h⟩
        · exact hmin u hu (by omega)
      refine DR.self ?_
      have XX:a<4611686018427387904:=by have:=hb.lt;omega
      refine aa.gN (by simp[aW];omega) (aa.gI (b:=1) (by simp[aW];exact Nat.lt_of_le_of_lt (Nat.shiftRight_le _ _) (by omega)) (by decide) (aa.jC (b:=0) ?_))
      refine Br.dec (fun h0=>?_) (fun h0=>JE.mk (hno H1 (fun h=>h0 (pR.2 h.1)) hp))
      have Vs:=pR.1 h0
      refine aa.n7 (a:=1) (by simp[IntKind.bits];omega) (by rw[Nat.one_shiftLeft];simp[aW];omega) ?_
      rw[Nat.one_shiftLeft]
      refine aa.xW (by simp[aW];omega) (by simp[aW];omega) ?_
      have DW:a|||2^k=af.au a k true:=rfl
      rw[DW]
      intro F
      refine ae.fq (qu oU hp hb.lt hlk Vs) ?_
      rintro r H2 ⟨rfl,iP⟩
      intro F
      refine ae.fq (kD oU _ (af.au a k true) (Nat.le_refl _) (af.dF hb.lt hlk) H2 iP) ?_
      rintro r H3 ⟨rfl,Lp⟩
      have Qh:=qz oU a k
      have Qg:=uN oU (af.au a k true)
      refine aa.ef ?_
      intro F
      refine ae.fq (kD oU _ a (Nat.le_refl _) hb.lt H3 Lp) ?_
      rintro r H4 ⟨rfl,Ob⟩
      refine aa.jC ?_
      by_cases he:af.lvl n L a k+af.B n (af.lvl n L) (af.au a k true)=af.B n (af.lvl n L) a
      · rw[decide_eq_true he]
        have hmem:k∈af.bC n a:=af.ca.2 ⟨hlk,Vs⟩
        have JS:=F8 (f:=n-l.length-1) hmem he hmin
        have hml:=af.e9 hmem
        refine ay.mk (JE.mk (hJ _ _ fun gs=>Br.yes ?_))
        refine an.int (e:=3) (by kernel_rfl) (by kernel_rfl) (by kernel_rfl) fun xb=>?_
        refine aK.app (A:=[_]) hb.own (by exact .head _) (by simp;omega) (by simp;omega) fun v' C' ho=>?_
        refine aa.n7 (a:=1) (by simp[IntKind.bits];omega) (by rw[Nat.one_shiftLeft];simp[aW];omega) ?_
        rw[Nat.one_shiftLeft]
        refine aa.xW (by simp[aW];omega) (by simp[aW];omega) ?_
        rw[DW]
        refine aq.of .right ⟨v',af.au a k true,l++[k],C',H4,rfl,⟨by simpa[iw]using ho,af.dF hb.lt hlk,by simp;omega,?_⟩,Ob,rfl⟩ (by rw[eA,eA];show(af.bC n (af.au a k true)).length<(af.bC n a).length;omega)
        have:=hb.pre
        rw[RB,JS]at this
        rw[List.length_append,List.length_singleton,Nat.sub_add_eq,List.append_assoc]
        exact this
      · rw[decide_eq_false he]
        exact ay.mk (JE.mk (hno H4 (fun h=>he h.2) Ob))
    · obtain⟨u,h1,h2,_⟩:=af.qp (c:=af.lvl n L) (f:=0) Tk
      exact absurd h2 (hmin u h1 (by have:=(af.ca.1 h1).1;omega))
  · have BV:l.length=n:=by omega
    have hl:l=af.ord n (af.lvl n L) n 0:=by
      have:=hb.pre
      rw[BV,Nat.sub_self]at this
      simpa[af.ord]using this
    have hown:=hb.own
    rw[hl]at hown
    by_cases hne:L=[]
    · have hn:=E3 hne
      subst hne
      subst hn
      refine ae.fq (tD (a:=0) (by omega) sb) ?_
      rintro r H3 ⟨rfl,rfl⟩
      exact⟨_,_,rfl,.refl _,(by repeat (first|exact aH.refl _|apply aH.cons|apply aH.app)),.inr ⟨hO,0,[],rfl,E3,jb,hf,.inr ⟨nv,_,C,(_::_::_::N),rfl,hown,rfl⟩⟩⟩
    · refine ae.fq (kD (Ny hne) _ 0 (Nat.le_refl _) (Nat.two_pow_pos n) _ sb) ?_
      rintro r H3 ⟨rfl,L1,L4,VR,VT,rfl,RW⟩
      exact⟨_,_,rfl,.refl _,(by repeat (first|exact aH.refl _|apply aH.cons|apply aH.app)),.inr ⟨hO,n,L,rfl,E3,jb,hf,.inr ⟨nv,_,C,(_::_::_::N),rfl,hown,rfl⟩⟩⟩
end Go.Proofs
namespace Im
abbrev It:=Int×Int
def prec(a b:It):Bool:=decide (a.2<b.2)||(a.2==b.2&&decide (a.1<b.1))
theorem ql{a b:It}:prec a b=true↔a.2<b.2∨a.2=b.2∧a.1<b.1:=by simp[prec]
theorem gw{a b:It}:prec a b=false↔¬(a.2<b.2∨a.2=b.2∧a.1<b.1):=by rw[←ql];simp
theorem jO(a:It):prec a a=false:=by rw[gw];omega
theorem mA{a b:It}(h:prec a b=true):prec b a=false:=by rw[ql]at h;rw[gw];omega
theorem le_trans{a b c:It}(h1:prec b a=false)(h2:prec c b=false):prec c a=false:=by rw[gw]at*;omega
theorem yc{a b c:It}(h1:prec a b=true)(h2:prec c b=false):prec c a=false:=by rw[ql]at h1;rw[gw]at*;omega
def eY(V:Nat→It)(i:Nat)(b:It):Nat→It:=fun j=>if j=i then b else V j
def E(V:Nat→It)(j:Nat):Prop:=prec (V j) (V ((j-1) /2))=false
def rH(n:Nat)(V:Nat→It)(i:Nat):Prop:=
 (∀j,0<j→j<n→j≠i→(j-1) /2≠i→E V j)∧(∀j,0<j→j<n→(j-1) /2=i→0<i→prec (V j) (V ((i-1) /2))=false)
def k8(n:Nat)(V:Nat→It)(i:Nat):Prop:=∀j,0<j→j<n→(j-1) /2=i→E V j
def KT(n:Nat)(V:Nat→It)(i:Nat):Prop:=
 (∀j,0<j→j<n→(j-1) /2≠i→E V j)∧(∀j,0<j→j<n→(j-1) /2=i→0<i→prec (V j) (V ((i-1) /2))=false)
def Ord(n:Nat)(V:Nat→It):Prop:=∀j,0<j→j<n→E V j
theorem IS{n i:Nat}{V:Nat→It}(hi:0<i)(hn:i<n)(h:rH n V i)(ha:prec (V i) (V ((i-1) /2))=true):
  rH n (eY (eY V i (V ((i-1) /2))) ((i-1) /2) (V i)) ((i-1) /2)∧k8 n (eY (eY V i (V ((i-1) /2))) ((i-1) /2) (V i)) ((i-1) /2):=by
 obtain⟨h1,h2⟩:=h
 have hq:(i-1) /2≠i:=by omega
 generalize Xm:(i-1) /2=q at*
 have ZK:q<i:=by omega
 refine⟨⟨?_,?_⟩,?_⟩
 ·intro j j0 jn jq jp
  unfold E eY
  rw[if_neg jq,if_neg jp]
  by_cases e1:j=i
  ·exact absurd (by rw[e1,Xm]) jp
  ·rw[if_neg e1]
   by_cases e2:(j-1) /2=i
   ·rw[if_pos e2];exact h2 j j0 jn e2 hi
   ·rw[if_neg e2];exact h1 j j0 jn e1 e2
 ·intro j j0 jn jp q0
  unfold eY
  have Ta:(q-1) /2≠q:=by omega
  have S9:(q-1) /2≠i:=by omega
  rw[if_neg Ta,if_neg S9]
  have Of:j≠q:=by omega
  rw[if_neg Of]
  have GK:E V q:=h1 q q0 (by omega) hq (by omega)
  by_cases e1:j=i
  ·rw[if_pos e1];exact GK
  ·rw[if_neg e1]
   have:=h1 j j0 jn e1 (by omega)
   unfold E at this GK
   rw[jp]at this
   exact le_trans GK this
 ·intro j j0 jn jp
  unfold E eY
  rw[jp,if_pos rfl]
  have Of:j≠q:=by omega
  rw[if_neg Of]
  by_cases e1:j=i
  ·rw[if_pos e1];exact mA ha
  ·rw[if_neg e1]
   have:=h1 j j0 jn e1 (by omega)
   unfold E at this
   rw[jp]at this
   exact yc ha this
theorem IT{n i:Nat}{V:Nat→It}(h:rH n V i)(ha:i=0∨prec (V i) (V ((i-1) /2))=false):KT n V i:=by
 refine⟨fun j j0 jn jp=>?_,h.2⟩
 by_cases e:j=i
 ·subst e;rcases ha with ha|ha
  ·omega
  ·exact ha
 ·exact h.1 j j0 jn e jp
theorem tj{n i:Nat}{V:Nat→It}(h:KT n V i)(hc:k8 n V i):Ord n V:=fun j j0 jn=>by
 by_cases e:(j-1) /2=i
 ·exact hc j j0 jn e
 ·exact h.1 j j0 jn e
def s8(n:Nat)(V:Nat→It)(i:Nat):Nat:=if(decide (2*i+1+1<n) &&prec (V (2*i+1+1)) (V (2*i+1)))=true then 2*i+1+1 else 2*i+1
theorem og(n:Nat)(V:Nat→It)(i:Nat):s8 n V i=2*i+1∨s8 n V i=2*i+2∧2*i+2<n:=by
 unfold s8;split
 ·rename_i h;simp only[Bool.and_eq_true,decide_eq_true_eq]at h;right;omega
 ·left;rfl
theorem s7{n i j:Nat}{V:Nat→It}(j0:0<j)(jn:j<n)(jp:(j-1) /2=i):prec (V j) (V (s8 n V i))=false:=by
 unfold s8
 split
 ·rename_i h
  simp only[Bool.and_eq_true,decide_eq_true_eq]at h
  rcases(show j=2*i+1∨j=2*i+1+1 by omega)with rfl|rfl
  ·exact mA h.2
  ·exact jO _
 ·rename_i h
  rcases(show j=2*i+1∨j=2*i+1+1 by omega)with rfl|rfl
  ·exact jO _
  ·cases hh:prec (V (2*i+1+1)) (V (2*i+1))
   ·rfl
   ·exact absurd (by simp[hh,jn]) h
theorem DZ{n i:Nat}{V:Nat→It}(h:KT n V i)(hk:s8 n V i<n)(ha:prec (V (s8 n V i)) (V i)=true):
  KT n (eY (eY V i (V (s8 n V i))) (s8 n V i) (V i)) (s8 n V i):=by
 have hl:∀j,0<j→j<n→(j-1) /2=i→prec (V j) (V (s8 n V i))=false:=fun j=>s7
 have hkc:=og n V i
 generalize s8 n V i=c at*
 obtain⟨h1,h2⟩:=h
 have TJ:(c-1) /2=i:=by omega
 have hc0:0<c:=by omega
 have nW:c≠i:=by omega
 refine⟨?_,?_⟩
 ·intro j j0 jn jp
  unfold E eY
  rw[if_neg jp]
  by_cases e1:j=c
  ·rw[if_pos e1,if_pos (by rw[e1];exact TJ)];exact mA ha
  ·rw[if_neg e1]
   by_cases e2:j=i
   ·rw[if_pos e2]
    have:(j-1) /2≠i:=by omega
    rw[if_neg this,e2];exact h2 c hc0 hk TJ (by omega)
   ·rw[if_neg e2]
    by_cases e3:(j-1) /2=i
    ·rw[if_pos e3];exact hl j j0 jn e3
    ·rw[if_neg e3];exact h1 j j0 jn e3
 ·intro j j0 jn jp _
  unfold eY
  rw[TJ]
  have:j≠c:=by omega
  have e2:j≠i:=by omega
  rw[if_neg this,if_neg e2,if_neg (fun e=>nW e.symm),if_pos rfl]
  have:=h1 j j0 jn (by omega)
  unfold E at this
  rwa [jp]at this
theorem D0{n i:Nat}{V:Nat→It}(h:KT n V i)(ha:n≤s8 n V i∨prec (V (s8 n V i)) (V i)=false):Ord n V:=by
 refine tj h fun j j0 jn jp=>?_
 have hl:=s7 (V:=V) j0 jn jp
 rcases ha with ha|ha
 ·rcases og n V i with h|h<;>omega
 ·unfold E;rw[jp];exact le_trans ha hl
theorem Jo{n:Nat}{V:Nat→It}(h:Ord n V):∀j,j<n→prec (V j) (V 0)=false:=by
 intro j
 induction j using Nat.strongRecOn with
 |_ j ih=>
  intro jn
  by_cases j0:j=0
  ·subst j0;exact jO _
  ·exact le_trans (ih ((j-1) /2) (by omega) (by omega)) (h j (by omega) jn)
def aS(l:List It)(j:Nat):It:=l.getD j (0,0)
theorem Ci{l:List It}{j:Nat}(h:j<l.length):l[j]? =some (aS l j):=by simp[aS,List.getD,h]
theorem eo{l:List It}{i:Nat}(b:It)(h:i<l.length):aS (l.set i b)=eY (aS l) i b:=by
 funext j
 unfold aS eY
 simp only[List.getD,List.getElem?_set]
 by_cases e:i=j
 ·subst e;simp[h]
 ·rw[if_neg e,if_neg (fun x=>e x.symm)]
theorem mw{l:List It}{i:Nat}(h:i<l.length):l.set i (aS l i)=l:=by
 apply List.ext_getElem?;intro j;rw[List.getElem?_set];by_cases e:i=j
 ·subst e;simp[h,aS,List.getD]
 ·simp[e]
theorem swap_perm{l:List It}{i q:Nat}(hi:i<l.length)(hq:q<l.length)(hne:q≠i):((l.set i (aS l q)).set q (aS l i)).Perm l:=by
 rw[List.perm_iff_count]
 intro x
 have g1:l[i]=aS l i:=by simp[aS,List.getD,hi]
 have g2:l[q]=aS l q:=by simp[aS,List.getD,hq]
 have g3:(l.set i (aS l q))[q]'(by simp[hq])=aS l q:=by rw[List.getElem_set_ne (fun e=>hne e.symm)];exact g2
 rw[List.count_set (by simp[hq]),List.count_set hi,g1,g3]
 have hc:aS l i=x→0<l.count x:=fun e=>by rw[List.count_pos_iff,←e,←g1];exact List.getElem_mem hi
 by_cases e1:aS l i=x
 ·have:=hc e1
  by_cases e2:aS l q=x<;>simp[e1,e2]<;>omega
 ·by_cases e2:aS l q=x<;>simp[e1,e2]
def eF(l:List It):Prop:=(l.map Prod.fst).Nodup
theorem eF.perm{l l':List It}(h:eF l)(p:l'.Perm l):eF l':=(p.map _).nodup_iff.2 h
theorem eF.inj{l:List It}(h:eF l){i j:Nat}(hi:i<l.length)(hj:j<l.length)(e:(aS l i).1=(aS l j).1):i=j:=by
 unfold eF at h
 have hp:=List.pairwise_iff_getElem.1 h
 have g:∀k (hk:k<l.length),(l.map Prod.fst)[k]'(by simpa using hk)=(aS l k).1:=fun k hk=>by simp[aS,List.getD,hk]
 rcases Nat.lt_trichotomy i j with hlt|rfl|hlt
 ·have:=hp i j (by simpa using hi) (by simpa using hj) hlt
  rw[g i hi,g j hj]at this;exact absurd e this
 ·rfl
 ·have:=hp j i (by simpa using hj) (by simpa using hi) hlt
  rw[g i hi,g j hj]at this;exact absurd e.symm this
theorem fx{l:List It}{x:Int}:x∈l.map Prod.fst↔∃j,j<l.length∧(aS l j).1=x:=by
 rw[List.mem_iff_getElem]
 constructor
 ·rintro⟨j,hj,e⟩
  have hj':j<l.length:=by simpa using hj
  exact⟨j,hj',by simpa[aS,List.getD,hj']using e⟩
 ·rintro⟨j,hj,e⟩
  exact⟨j,by simpa using hj,by simpa[aS,List.getD,hj]using e⟩
def xl(f:Int→Option Nat)(x:Int)(p:Option Nat):Int→Option Nat:=fun y=>if y=x then p else f y
def g7(l:List It)(f:Int→Option Nat)(i:Nat):Prop:=(∀j,j<l.length→j≠i→f (aS l j).1=some j)∧∀x,x∉l.map Prod.fst→f x=none
def Cons(l:List It)(f:Int→Option Nat):Prop:=(∀j,j<l.length→f (aS l j).1=some j)∧∀x,x∉l.map Prod.fst→f x=none
theorem Cons.x{l:List It}{f:Int→Option Nat}(h:Cons l f)(i:Nat):g7 l f i:=⟨fun j hj _=>h.1 j hj,h.2⟩
theorem g7.done{l:List It}{f:Int→Option Nat}{i:Nat}(h:g7 l f i)(ho:eF l)(hi:i<l.length):Cons l (xl f (aS l i).1 (some i)):=by
 refine⟨fun j hj=>?_,fun x hx=>?_⟩
 ·unfold xl
  by_cases e:(aS l j).1=(aS l i).1
  ·rw[if_pos e,ho.inj hj hi e]
  ·rw[if_neg e];exact h.1 j hj (fun e2=>e (by rw[e2]))
 ·unfold xl
  rw[if_neg (fun e=>hx (fx.2 ⟨i,hi,e.symm⟩))]
  exact h.2 x hx
theorem g7.step{l:List It}{f:Int→Option Nat}{i q:Nat}(h:g7 l f i)(ho:eF l)(hi:i<l.length)(hq:q<l.length)(hne:q≠i):
  g7 ((l.set i (aS l q)).set q (aS l i)) (xl f (aS l q).1 (some i)) q:=by
 have oW:∀j,aS ((l.set i (aS l q)).set q (aS l i)) j=eY (eY (aS l) i (aS l q)) q (aS l i) j:=fun j=>by rw[eo _ (by simpa using hq),eo _ hi]
 refine⟨fun j hj Of=>?_,fun x hx=>?_⟩
 ·rw[oW]
  simp only[List.length_set]at hj
  unfold eY xl
  rw[if_neg Of]
  by_cases e:j=i
  ·rw[if_pos e,if_pos rfl,e]
  ·rw[if_neg e]
   rw[if_neg (fun e2=>Of (ho.inj hj hq e2))]
   exact h.1 j hj e
 ·have hx':x∉l.map Prod.fst:=fun hm=>hx (by
   have:=(swap_perm hi hq hne).map Prod.fst
   exact this.mem_iff.2 hm)
  unfold xl
  rw[if_neg (fun e=>hx' (fx.2 ⟨q,hq,e.symm⟩))]
  exact h.2 x hx'
end Im
namespace Im
open Go Go.Sx
def enc(kd:IntKind)(a:It):List Value:=[.int kd a.1,.int .i64 a.2]
def cW(kd:IntKind)(l:List It):List (List Value):=l.map (enc kd)
theorem cw(kd:IntKind)(l:List It):(cW kd l).length=l.length:=by simp[cW]
theorem DY(kd:IntKind)(l:List It):∀r∈cW kd l,r.length=2:=fun r hr=>by
 obtain⟨a,_,rfl⟩:=List.mem_map.1 hr;rfl
theorem dr{kd:IntKind}{l:List It}{i:Nat}(h:i<l.length)(aD:List (List Value)):(cW kd l++aD)[i]? =some (enc kd (aS l i)):=by
 rw[List.getElem?_append_left (by rw[cw];exact h),cW,List.getElem?_map,Ci h];rfl
theorem wI{kd:IntKind}{l:List It}{i:Nat}(h:i<l.length)(a:It)(aD:List (List Value)):(cW kd l++aD).set i (enc kd a)=cW kd (l.set i a)++aD:=by
 rw[List.set_append_left _ _ (by rw[cw];exact h),cW,cW,List.map_set]
def idx(i:Nat):Value:=.int .i64 (i:Int)
def HO(kd:IntKind)(TI TH:TypeId)(h:Value)(l:List It)(f:Int→Option Nat)(C:Hp):Prop:=
 ∃bh sv mv Cs Cm,h=.pointer (some ⟨bh,0,none⟩)∧C=(bh,Obj.cells #[sv,mv] TH (0,0))::(Cs++Cm)∧aN TI 2 sv (cW kd l) Cs∧ic kd idx mv f Cm∧(mv=.map none→l=[])
theorem HO.open{kd:IntKind}{TI TH:TypeId}{h:Value}{l:List It}{f:Int→Option Nat}{C:Hp}(H:HO kd TI TH h l f C)(hp:0<l.length):
  ∃bh la mb aD Cm,h=.pointer (some ⟨bh,0,none⟩)∧
   C=(bh,Obj.cells #[.slice (some ⟨la,0,none⟩) l.length (l.length+aD.length),.map (some mb)] TH (0,0))::(la,.cells (rows (cW kd l++aD)) TI (0,0))::Cm∧
   (∀r∈cW kd l++aD,r.length=2)∧ic kd idx (.map (some mb)) f Cm:=by
 obtain⟨bh,sv,mv,Cs,Cm,rfl,rfl,hs,hm,hne⟩:=H
 obtain⟨la,aD,rfl,rfl,aA⟩:=hs.pos (by rw[cw];exact hp)
 rw[cw]
 rcases hm with⟨rfl,_⟩|⟨mb,m,ck,rfl,h2⟩
 ·rw[hne rfl]at hp;simp at hp
 ·exact⟨bh,la,mb,aD,Cm,rfl,rfl,aA,.inr ⟨mb,m,ck,rfl,h2⟩⟩
theorem HO.shut{kd:IntKind}{TI TH:TypeId}{bh la mb n c:Nat}{aD:List (List Value)}{Cm:Hp}{l:List It}{f:Int→Option Nat}(aA:∀r∈cW kd l++aD,r.length=2)(hn:n=l.length)(hc:c=l.length+aD.length)
 (hm:ic kd idx (.map (some mb)) f Cm):
  HO kd TI TH (.pointer (some ⟨bh,0,none⟩)) l f ((bh,Obj.cells #[.slice (some ⟨la,0,none⟩) n c,.map (some mb)] TH (0,0))::(la,.cells (rows (cW kd l++aD)) TI (0,0))::Cm):=
 ⟨bh,_,_,[_],Cm,rfl,rfl,aN.mk' aA (by rw[cw];exact hn) (by rw[cw];exact hc),hm,fun h=>by simp at h⟩
theorem vb{l aD:List (List Value)}(h:∀r∈l++aD,r.length=2)(kd:IntKind)(l':List It):∀r∈cW kd l'++aD,r.length=2:=fun r hr=>by
 rcases List.mem_append.1 hr with hr|hr
 ·exact DY kd l' r hr
 ·exact h r (by simp[hr])
theorem kX(kd:IntKind)(a:It):∀v∈enc kd a,v.oneCell'=true:=by simp[enc,Value.oneCell']
end Im
namespace Im
open Go Go.Sx
theorem Mo(j:Nat)(h:0<j):((j-1:Nat):Int).tdiv 2=(((j-1) /2:Nat):Int):=by
 rw[Int.tdiv_eq_ediv_of_nonneg (by omega)];omega
theorem qf{l:List It}{i q:Nat}(a:It)(hi:i<l.length)(hq:q<l.length)(hne:q≠i):((l.set i a).set i (aS (l.set i a) q)).set q (aS (l.set i a) i)=(l.set i (aS l q)).set q a:=by
 rw[eo a hi,List.set_set]
 simp[eY,hne]
def HI(kd:IntKind)(TI TH:TypeId)(h:Value)(l:List It)(C:Hp):Prop:=∃f,HO kd TI TH h l f C∧Cons l f∧Ord l.length (aS l)∧eF l
theorem y5{l:List It}{a:It}{j:Nat}(h:j<l.length):aS (l++[a]) j=aS l j:=by simp[aS,List.getD,List.getElem?_append_left h]
theorem FV{l:List It}{f:Int→Option Nat}{a:It}(hc:Cons l f)(ho:Ord l.length (aS l))(h1:eF l)(hx:a.1∉l.map Prod.fst):
  rH (l++[a]).length (aS (l++[a])) l.length∧g7 (l++[a]) f l.length∧eF (l++[a])∧k8 (l++[a]).length (aS (l++[a])) l.length:=by
 simp only[List.length_append,List.length_cons,List.length_nil,Nat.zero_add]
 refine⟨⟨fun j j0 jn O5 jp=>?_,fun j j0 jn jp=>by omega⟩,⟨fun j jn O5=>?_,fun x hx'=>?_⟩,?_,fun j j0 jn jp=>by omega⟩
 ·unfold E;rw[y5 (by omega),y5 (by omega)];exact ho j j0 (by omega)
 ·simp only[List.length_append,List.length_cons,List.length_nil]at jn
  rw[y5 (by omega)];exact hc.1 j (by omega)
 ·exact hc.2 x (fun h=>hx' (by rw[List.map_append,List.mem_append];exact .inl h))
 ·unfold eF at*;rw[List.map_append,List.nodup_append];exact⟨h1,by simp,fun a' di b hb=>by simp at hb;subst hb;intro e;subst e;exact hx di⟩
theorem rh{l:List It}{f:Int→Option Nat}(hc:Cons l f){x:Int}:(x∉l.map Prod.fst∧f x=none)∨∃i,i<l.length∧(aS l i).1=x∧f x=some i:=by
 by_cases h:x∈l.map Prod.fst
 ·obtain⟨j,hj,e⟩:=fx.1 h
  exact .inr ⟨j,hj,e,by rw[←e];exact hc.1 j hj⟩
 ·exact .inl ⟨h,hc.2 x h⟩
theorem Jg{l:List It}{f:Int→Option Nat}(hc:Cons l f)(ho:Ord l.length (aS l))(h1:eF l){n:Nat}(hn:l.length=n+1):
  let l':=l.take n
  ((0<n→(aS l n)::(l'.set 0 (aS l n)).tail=l'.set 0 (aS l n)∧(aS l 0::l'.set 0 (aS l n)).Perm l∧KT n (aS (l'.set 0 (aS l n))) 0∧eF (l'.set 0 (aS l n))∧
   g7 (l'.set 0 (aS l n)) (xl f (aS l 0).1 none) 0)):=by
 intro l' E3
 have hl':l'.length=n:=by simp[l',hn]
 have cD:(aS l 0::l'.set 0 (aS l n)).Perm l:=by
  rw[List.perm_iff_count]
  intro x
  have e:l=l'++[aS l n]:=by
   have:l=l.take n++l.drop n:=(List.take_append_drop n l).symm
   have h2:l.drop n=[aS l n]:=by
    rw[List.drop_eq_getElem_cons (by omega),List.drop_eq_nil_of_le (by omega)]
    simp[hn,aS,List.getD]
   rw[h2]at this;exact this
  have g0:l'[0]'(by omega)=aS l 0:=by simp[l',aS,List.getD,hn]
  conv=>rhs;rw[e]
  rw[List.count_cons,List.count_set (by omega),g0,List.count_append]
  have hc0:aS l 0=x→0<l'.count x:=fun e=>by rw[List.count_pos_iff,←e,←g0];exact List.getElem_mem _
  by_cases e1:aS l 0=x
  ·have:=hc0 e1
   by_cases e2:aS l n=x<;>simp[e1,e2]<;>omega
  ·by_cases e2:aS l n=x<;>simp[e1,e2]
 have oW:∀j,j<n→j≠0→aS (l'.set 0 (aS l n)) j=aS l j:=fun j hj h0=>by
  rw[eo _ (by omega)];simp[eY,h0,l',aS,List.getD,hj]
 have hO:eF (l'.set 0 (aS l n)):=by
  have:=(h1.perm cD:eF _)
  unfold eF at this⊢
  simp only[List.map_cons,List.nodup_cons]at this
  exact this.2
 refine⟨?_,cD,⟨fun j j0 jn jp=>?_,fun j j0 jn jp h=>by omega⟩,hO,fun j hj M5=>?_,fun x hx=>?_⟩
 ·cases hh:l' with
  |nil=>rw[hh]at hl';simp at hl';omega
  |cons a r=>simp
 ·unfold E;rw[oW j jn (by omega),oW _ (by omega) jp];exact ho j j0 (by omega)
 ·simp only[List.length_set,hl']at hj
  rw[oW j hj M5]
  unfold xl
  rw[if_neg (fun e=>M5 (h1.inj (by omega) (by omega) e))]
  exact hc.1 j (by omega)
 ·unfold xl
  by_cases e:x=(aS l 0).1
  ·rw[if_pos e]
  ·rw[if_neg e]
   refine hc.2 x fun hm=>hx ?_
   have:=(cD.map Prod.fst).mem_iff.2 hm
   simp only[List.map_cons,List.mem_cons]at this
   rcases this with h|h
   ·exact absurd h e
   ·exact h
theorem Gg{l:List It}{f:Int→Option Nat}(hc:Cons l f)(ho:Ord l.length (aS l))(h1:eF l){i:Nat}(hi:i<l.length)(key:Int):
  rH (l.set i ((aS l i).1,key)).length (aS (l.set i ((aS l i).1,key))) i∧g7 (l.set i ((aS l i).1,key)) f i∧eF (l.set i ((aS l i).1,key)):=by
 have U3:(l.set i ((aS l i).1,key)).map Prod.fst=l.map Prod.fst:=by
  rw[List.map_set]
  apply List.ext_getElem?
  intro j
  rw[List.getElem?_set]
  by_cases e:i=j
  ·subst e;simp[hi,aS,List.getD]
  ·simp[e]
 have oW:∀j,j≠i→aS (l.set i ((aS l i).1,key)) j=aS l j:=fun j h=>by rw[eo _ hi];simp[eY,h]
 refine⟨⟨fun j j0 jn O5 jp=>?_,fun j j0 jn jp i0=>?_⟩,⟨fun j jn O5=>?_,fun x hx=>hc.2 x (by rwa [U3]at hx)⟩,by unfold eF;rw[U3];exact h1⟩
 ·simp only[List.length_set]at jn
  unfold E;rw[oW j O5,oW _ jp];exact ho j j0 jn
 ·simp only[List.length_set]at jn
  rw[oW j (by omega),oW _ (by omega)]
  have a1:=ho j j0 jn
  have a2:=ho i i0 hi
  unfold E at a1 a2
  rw[jp]at a1
  exact le_trans a2 a1
 ·simp only[List.length_set]at jn
  rw[oW j O5];exact hc.1 j jn
theorem Jm{l:List It}{i:Nat}(hi:i<l.length)(a:It):∃r,l.Perm (aS l i::r)∧(l.set i a).Perm (a::r):=by
 refine⟨l.take i++l.drop (i+1),?_,?_⟩
 ·have:l=l.take i++aS l i::l.drop (i+1):=by
   have h2:aS l i=l[i]:=by simp[aS,List.getD,hi]
   rw[h2,←List.drop_eq_getElem_cons hi,List.take_append_drop]
  conv=>lhs;rw[this]
  exact List.perm_middle
 ·rw[List.set_eq_take_append_cons_drop,if_pos hi]
  exact List.perm_middle
end Im
set_option maxRecDepth 100000
namespace Go.Proofs
open Go Go.Sx
open Im
abbrev Ip:=HO .i64 233 231
abbrev Fa:=HI .i64 233 231
theorem rF(a b:It)(B:Hp):Rd Tryz.prog 223 #[.agg #[.int .i64 a.1,.int .i64 a.2],.agg #[.int .i64 b.1,.int .i64 b.2]] B (· =.bool (prec a b)):=by
 refine aX fun g=>z5 ?_
 intro b1 _ b2 _
 (repeat (first|refine Nil.ptr ?_|refine ag.mk ?_|refine Ld.mk zM rfl ?_|refine az.mk ?_|refine aa.eql ?_|refine aa.neq ?_|refine aa.lss ?_|refine aa.leq ?_|refine aa.gtr ?_|refine aa.geq ?_|refine Un.not ?_|refine Ext.mk rfl ?_|refine ay.mk ?_|refine aa.aB ?_|refine aa.aQ ?_|refine aa.aP ?_|refine Br.yes ?_|refine Br.no ?_))
 refine dI.or (a.2==b.2&&decide (a.1<b.1)) (fun _=>?_) rfl fun _=>bO.mk (.skip .tail) rfl
 (repeat (first|refine Nil.ptr ?_|refine ag.mk ?_|refine Ld.mk zM rfl ?_|refine az.mk ?_|refine aa.eql ?_|refine aa.neq ?_|refine aa.lss ?_|refine aa.leq ?_|refine aa.gtr ?_|refine aa.geq ?_|refine Un.not ?_|refine Ext.mk rfl ?_|refine ay.mk ?_|refine aa.aB ?_|refine aa.aQ ?_|refine aa.aP ?_|refine Br.yes ?_|refine Br.no ?_))
 refine dI.and (decide (a.1<b.1)) (fun _=>?_) rfl fun _=>⟨rfl,rfl⟩
 (repeat (first|refine Nil.ptr ?_|refine ag.mk ?_|refine Ld.mk zM rfl ?_|refine az.mk ?_|refine aa.eql ?_|refine aa.neq ?_|refine aa.lss ?_|refine aa.leq ?_|refine aa.gtr ?_|refine aa.geq ?_|refine Un.not ?_|refine Ext.mk rfl ?_|refine ay.mk ?_|refine aa.aB ?_|refine aa.aQ ?_|refine aa.aP ?_|refine Br.yes ?_|refine Br.no ?_))
 exact⟨rfl,rfl⟩
theorem nt{h:Value}{l:List It}{f:Int→Option Nat}{C:Hp}(ho:Ip h l f C){i:Nat}(hi:i<l.length)(a:It):
  Fc Tryz.prog 159 #[h,.int .i64 (i:Int),.agg #[.int .i64 a.1,.int .i64 a.2]] C (fun v C'=>v=.tuple #[]∧Ip h (l.set i a) (xl f a.1 (some i)) C'):=by
 obtain⟨bh,la,mb,aD,Cm,rfl,rfl,aA,hm⟩:=ho.open (by omega)
 refine aX fun g=>AN ?_
 intro b1 _
 refine DR.self ?_
 (repeat (first|refine Nil.ptr ?_|refine ag.mk ?_|refine Ld.mk zM rfl ?_|refine az.mk ?_|refine aa.eql ?_|refine aa.neq ?_|refine aa.lss ?_|refine aa.leq ?_|refine aa.gtr ?_|refine aa.geq ?_|refine Un.not ?_|refine Ext.mk rfl ?_|refine ay.mk ?_|refine aa.aB ?_|refine aa.aQ ?_|refine aa.aP ?_|refine Br.yes ?_|refine Br.no ?_))
 refine ax.whole (r:=enc .i64 a) zM rfl ?_
 refine aj.nat hi ?_
 refine St.row (l:=cW .i64 l++aD) (by repeat (first|exact cA.head _|apply cA.tail|apply cA.bU)) aA (by rw[List.length_append,cw];omega) rfl (kX _ _) ?_
 refine DR.self ?_
 (repeat (first|refine Nil.ptr ?_|refine ag.mk ?_|refine Ld.mk zM rfl ?_|refine az.mk ?_|refine aa.eql ?_|refine aa.neq ?_|refine aa.lss ?_|refine aa.leq ?_|refine aa.gtr ?_|refine aa.geq ?_|refine Un.not ?_|refine Ext.mk rfl ?_|refine ay.mk ?_|refine aa.aB ?_|refine aa.aQ ?_|refine aa.aP ?_|refine Br.yes ?_|refine Br.no ?_))
 rw[←List.append_nil Cm]
 refine ic.bM (p:=i) (A:=[_,_,_]) (B:=[]) hm fun C' hm'=>?_
 refine⟨_,_,rfl,.tail,rfl,?_⟩
 rw[wI hi,List.append_nil]
 exact .shut (vb aA _ _) (by simp) (by simp) hm'
theorem GD{h:Value}{l:List It}{f:Int→Option Nat}{C:Hp}(ho:Ip h l f C){i:Nat}(hi:i<l.length)(aU:l.length<4611686018427387904)(hu:rH l.length (aS l) i)(hc:g7 l f i)(hO:eF l):
  Fc Tryz.prog 158 #[h,.int .i64 (i:Int)] C (fun v C'=>v=.tuple #[]∧∃l' f' p,Ip h l' f' C'∧l'.Perm l∧Cons l' f'∧KT l'.length (aS l') p∧p<l'.length∧aS l' p=aS l i∧
   (k8 l.length (aS l) i→Ord l'.length (aS l'))):=by
 obtain⟨bh,la,mb,aD,Cm,rfl,rfl,aA,hm⟩:=ho.open (by omega)
 obtain⟨n,hn⟩:∃n,n=l.length:=⟨_,rfl⟩
 obtain⟨a,ha⟩:∃a,a=aS l i:=⟨_,rfl⟩
 refine aX fun g=>AO ?_
 (repeat (first|refine Nil.ptr ?_|refine ag.mk ?_|refine Ld.mk zM rfl ?_|refine az.mk ?_|refine aa.eql ?_|refine aa.neq ?_|refine aa.lss ?_|refine aa.leq ?_|refine aa.gtr ?_|refine aa.geq ?_|refine Un.not ?_|refine Ext.mk rfl ?_|refine ay.mk ?_|refine aa.aB ?_|refine aa.aQ ?_|refine aa.aP ?_|refine Br.yes ?_|refine Br.no ?_))
 refine aj.nat hi ?_
 refine ax.row (l:=cW .i64 l++aD) zM aA (dr hi aD) ?_
 intro b6 _
 refine St.p (kX _ _) ?_
 rw[←ha]
 refine⟨fun vs H=>∃(j:Nat) (L:List It) (f:Int→Option Nat) (C:Hp),vs=[.int .i64 (j:Int)]∧H=(b6,Obj.cells (enc .i64 a).toArray 233 (0,0))::C∧Ip (.pointer (some ⟨bh,0,none⟩)) L f C∧L.length=n∧j<n∧
   (L.set j a).Perm l∧rH n (aS (L.set j a)) j∧g7 (L.set j a) f j∧(k8 n (aS l) i→k8 n (aS (L.set j a)) j),
  fun vs _=>aV vs 0,.mk ⟨i,l,f,_,rfl,rfl,ho,hn.symm,by omega,?_,?_,?_,?_⟩,?_⟩
 ·exact(by rw[ha,mw hi])
 ·rw[ha,mw hi,hn];exact hu
 ·rw[ha,mw hi];exact hc
 ·rw[ha,mw hi];exact id
 rintro w H ⟨j,L,f,C,hw,rfl,ho,QB,hj,hp,hu,hc,jd⟩ gs
 simp only[List.cons.injEq,and_true]at hw
 subst hw
 have JT:=ho
 obtain⟨VX,la,mb,aD,Cm,LM,rfl,aA,hm⟩:=ho.open (by omega)
 simp only[Value.pointer.injEq,Option.some.injEq,Addr.mk.injEq,and_true]at LM
 subst LM
 have Qy:eF (L.set j a):=hO.perm hp
 have Od:(L.set j a).length=n:=by simp[QB]
 have LR:aS (L.set j a) j=a:=by rw[eo a (by omega)];simp[eY]
 have TU:0<j→aS (L.set j a) ((j-1) /2)=aS L ((j-1) /2):=fun h0=>by rw[eo a (by omega)];simp[eY,show¬((j-1) /2=j)from by omega]
 intro J hJ
 have hend:¬(0<j∧prec a (aS L ((j-1) /2))=true)→J [.bool false] ((b6,Obj.cells (enc .i64 a).toArray 233 (0,0))::(bh,Obj.cells #[.slice (some ⟨la,0,none⟩) L.length (L.length+aD.length),.map (some mb)] 231 (0,0))::(la,.cells (rows (cW .i64 L++aD)) 233 (0,0))::Cm):=fun hno=>hJ _ _ fun gs=>by
  refine Br.no ?_
  refine ax.q ?_
  refine ae.fq (nt JT (i:=j) (by omega) a) ?_
  rintro v C' ⟨rfl,br⟩
  have hd:=hc.done Qy (by omega)
  rw[LR]at hd
  have hex:=IT hu (by
   by_cases h0:j=0
   ·exact .inl h0
   ·right
    rw[LR,TU (by omega)]
    cases h:prec a (aS L ((j-1) /2))
    ·rfl
    ·exact absurd ⟨by omega,h⟩ hno)
  rw[←Od]at hex
  exact⟨_,_,rfl,.tail,rfl,_,_,j,br,hp,hd,hex,by omega,by rw[LR,ha],fun hk=>tj hex (by rw[Od];exact jd (by rw[hn];exact hk))⟩
 refine DR.self ?_
 refine aa.gtr (Br.dec (fun h0=>?_) (fun h0=>JE.mk (hend (fun h=>h0 (by omega)))))
 have h0:0<j:=by omega
 refine ax.q ?_
 (repeat (first|refine Nil.ptr ?_|refine ag.mk ?_|refine Ld.mk zM rfl ?_|refine az.mk ?_|refine aa.eql ?_|refine aa.neq ?_|refine aa.lss ?_|refine aa.leq ?_|refine aa.gtr ?_|refine aa.geq ?_|refine Un.not ?_|refine Ext.mk rfl ?_|refine ay.mk ?_|refine aa.aB ?_|refine aa.aQ ?_|refine aa.aP ?_|refine Br.yes ?_|refine Br.no ?_))
 refine aa.jm (c:=((j-1:Nat):Int)) (by omega) (by omega) ?_
 refine aa.FQ (by decide) (Mo j h0) (by omega) ?_
 refine aj.nat (by omega) ?_
 refine ax.row (l:=cW .i64 L++aD) zM aA (dr (by omega) aD) ?_
 intro F
 refine ae.eq (rF a _ _) ?_
 refine⟨.refl _,?_⟩
 cases Ln:prec a (aS L ((j-1) /2))with
 |false=>exact ay.mk (JE.mk (hend (fun h=>by rw[Ln]at h;exact absurd h.2 (by decide))))
 |true=>
 refine ay.mk (JE.mk (hJ _ _ fun gs=>Br.yes ?_))
 (repeat (first|refine Nil.ptr ?_|refine ag.mk ?_|refine Ld.mk zM rfl ?_|refine az.mk ?_|refine aa.eql ?_|refine aa.neq ?_|refine aa.lss ?_|refine aa.leq ?_|refine aa.gtr ?_|refine aa.geq ?_|refine Un.not ?_|refine Ext.mk rfl ?_|refine ay.mk ?_|refine aa.aB ?_|refine aa.aQ ?_|refine aa.aP ?_|refine Br.yes ?_|refine Br.no ?_))
 refine aa.jm (c:=((j-1:Nat):Int)) (by omega) (by omega) ?_
 refine aa.FQ (by decide) (Mo j h0) (by omega) ?_
 refine aj.nat (by omega) ?_
 refine ax.row (l:=cW .i64 L++aD) zM aA (dr (by omega) aD) ?_
 refine ae.fq (nt JT (i:=j) (by omega) (aS L ((j-1) /2))) ?_
 rintro v C' ⟨rfl,br⟩
 refine aa.jm (c:=((j-1:Nat):Int)) (by omega) (by omega) ?_
 refine aa.FQ (by decide) (Mo j h0) (by omega) ?_
 have hst:=IS h0 (by rw[←Od]at hj;rw[Od]at hj;exact hj) hu (by rw[LR,TU h0];exact Ln)
 have hcs:=hc.step Qy (i:=j) (q:=(j-1) /2) (by omega) (by omega) (by omega)
 have N7:=(swap_perm (l:=L.set j a) (i:=j) (q:=(j-1) /2) (by omega) (by omega) (by omega)).trans hp
 have Np:(L.set j (aS L ((j-1) /2))).set ((j-1) /2) a=((L.set j a).set j (aS (L.set j a) ((j-1) /2))).set ((j-1) /2) (aS (L.set j a) j):=(qf a (by omega) (by omega) (by omega)).symm
 have oW:aS ((L.set j (aS L ((j-1) /2))).set ((j-1) /2) a)=eY (eY (aS (L.set j a)) j (aS (L.set j a) ((j-1) /2))) ((j-1) /2) (aS (L.set j a) j):=by
  rw[Np,eo _ (by simp;omega),eo _ (by omega)]
 refine aq.mk ⟨(j-1) /2,_,_,C',rfl,rfl,br,by simp[QB],by omega,?_,?_,?_,fun _=>?_⟩ ?_
 ·rw[Np];exact N7
 ·rw[oW];exact hst.1
 ·rw[Np];rw[TU h0]at hcs⊢;exact hcs
 ·rw[oW];exact hst.2
 ·simp only[aV,Int.toNat_natCast];omega
end Go.Proofs
set_option maxRecDepth 100000
namespace Go.Proofs
open Go Go.Sx
open Im
theorem wc{h:Value}{l:List It}{f:Int→Option Nat}{C:Hp}(ho:Ip h l f C){i:Nat}(hi:i<l.length)(aU:l.length<4611686018427387904)(hu:KT l.length (aS l) i)(hc:g7 l f i)(hO:eF l):
  Fc Tryz.prog 160 #[h,.int .i64 (i:Int)] C (fun v C'=>v=.tuple #[]∧∃l' f',Ip h l' f' C'∧l'.Perm l∧Cons l' f'∧Ord l'.length (aS l')):=by
 obtain⟨bh,la,mb,aD,Cm,rfl,rfl,aA,hm⟩:=ho.open (by omega)
 obtain⟨n,hn⟩:∃n,n=l.length:=⟨_,rfl⟩
 obtain⟨a,ha⟩:∃a,a=aS l i:=⟨_,rfl⟩
 refine aX fun g=>AM ?_
 (repeat (first|refine Nil.ptr ?_|refine ag.mk ?_|refine Ld.mk zM rfl ?_|refine az.mk ?_|refine aa.eql ?_|refine aa.neq ?_|refine aa.lss ?_|refine aa.leq ?_|refine aa.gtr ?_|refine aa.geq ?_|refine Un.not ?_|refine Ext.mk rfl ?_|refine ay.mk ?_|refine aa.aB ?_|refine aa.aQ ?_|refine aa.aP ?_|refine Br.yes ?_|refine Br.no ?_))
 refine aj.nat hi ?_
 refine ax.row (l:=cW .i64 l++aD) zM aA (dr hi aD) ?_
 intro b6 _
 refine St.p (kX _ _) ?_
 rw[←ha]
 refine⟨fun vs H=>∃(j:Nat) (L:List It) (f:Int→Option Nat) (C:Hp),vs=[.int .i64 (j:Int)]∧H=(b6,Obj.cells (enc .i64 a).toArray 233 (0,0))::C∧Ip (.pointer (some ⟨bh,0,none⟩)) L f C∧L.length=n∧j<n∧
   (L.set j a).Perm l∧KT n (aS (L.set j a)) j∧g7 (L.set j a) f j,
  fun vs _=>n-aV vs 0,.mk ⟨i,l,f,_,rfl,rfl,ho,hn.symm,by omega,?_,?_,?_⟩,?_⟩
 ·exact(by rw[ha,mw hi])
 ·rw[ha,mw hi,hn];exact hu
 ·rw[ha,mw hi];exact hc
 rintro w H ⟨j,L,f,C,hw,rfl,ho,QB,hj,hp,hu,hc⟩ gs
 simp only[List.cons.injEq,and_true]at hw
 subst hw
 have JT:=ho
 obtain⟨VX,la,mb,aD,Cm,LM,rfl,aA,hm⟩:=ho.open (by omega)
 simp only[Value.pointer.injEq,Option.some.injEq,Addr.mk.injEq,and_true]at LM
 subst LM
 have Qy:eF (L.set j a):=hO.perm hp
 have Od:(L.set j a).length=n:=by simp[QB]
 have LR:aS (L.set j a) j=a:=by rw[eo a (by omega)];simp[eY]
 have Qo:∀c,c≠j→aS (L.set j a) c=aS L c:=fun c h0=>by rw[eo a (by omega)];simp[eY,h0]
 refine aa.OY (c:=((2*j:Nat):Int)) (by omega) (by omega) ?_
 refine aa.Ck (c:=((2*j+1:Nat):Int)) (by omega) (by omega) ?_
 intro J hJ
 obtain⟨c,hcd⟩:∃c,c=s8 n (aS (L.set j a)) j:=⟨_,rfl⟩
 have hkc:=og n (aS (L.set j a)) j
 rw[←hcd]at hkc
 have fR:J [.int .i64 (c:Int)] ((b6,Obj.cells (enc .i64 a).toArray 233 (0,0))::(bh,Obj.cells #[.slice (some ⟨la,0,none⟩) L.length (L.length+aD.length),.map (some mb)] 231 (0,0))::(la,.cells (rows (cW .i64 L++aD)) 233 (0,0))::Cm):=by
  refine hJ _ _ fun ZZ=>?_
  intro J2 xy
  have hstop:n≤c∨prec (aS L c) a=false→J2 [.bool true] ((b6,Obj.cells (enc .i64 a).toArray 233 (0,0))::(bh,Obj.cells #[.slice (some ⟨la,0,none⟩) L.length (L.length+aD.length),.map (some mb)] 231 (0,0))::(la,.cells (rows (cW .i64 L++aD)) 233 (0,0))::Cm):=fun hst=>xy _ _ fun gs=>by
   refine Br.yes ?_
   refine ax.q ?_
   refine ae.fq (nt JT (i:=j) (by omega) a) ?_
   rintro v C' ⟨rfl,br⟩
   have hd:=hc.done Qy (by omega)
   rw[LR]at hd
   have hex:=D0 hu (by
    rw[←hcd]
    by_cases h0:n≤c
    ·exact .inl h0
    ·right
     rw[LR,Qo c (by omega)]
     rcases hst with h|h
     ·omega
     ·exact h)
   rw[←Od]at hex
   exact⟨_,_,rfl,.tail,rfl,_,_,br,hp,hd,hex⟩
  refine DR.self ?_
  (repeat (first|refine Nil.ptr ?_|refine ag.mk ?_|refine Ld.mk zM rfl ?_|refine az.mk ?_|refine aa.eql ?_|refine aa.neq ?_|refine aa.lss ?_|refine aa.leq ?_|refine aa.gtr ?_|refine aa.geq ?_|refine Un.not ?_|refine Ext.mk rfl ?_|refine ay.mk ?_|refine aa.aB ?_|refine aa.aQ ?_|refine aa.aP ?_|refine Br.yes ?_|refine Br.no ?_))
  refine Br.dec (fun h0=>JE.mk (hstop (.inl (by omega)))) (fun h0=>?_)
  have h0:c<n:=by omega
  (repeat (first|refine Nil.ptr ?_|refine ag.mk ?_|refine Ld.mk zM rfl ?_|refine az.mk ?_|refine aa.eql ?_|refine aa.neq ?_|refine aa.lss ?_|refine aa.leq ?_|refine aa.gtr ?_|refine aa.geq ?_|refine Un.not ?_|refine Ext.mk rfl ?_|refine ay.mk ?_|refine aa.aB ?_|refine aa.aQ ?_|refine aa.aP ?_|refine Br.yes ?_|refine Br.no ?_))
  refine aj.nat (by omega) ?_
  refine ax.row (l:=cW .i64 L++aD) zM aA (dr (by omega) aD) ?_
  refine ax.q ?_
  intro F
  refine ae.eq (rF _ a _) ?_
  refine⟨.refl _,Un.not ?_⟩
  cases Ln:prec (aS L c) a with
  |false=>exact ay.mk (JE.mk (hstop (.inr Ln)))
  |true=>
  refine ay.mk (JE.mk (xy _ _ fun gs=>Br.no ?_))
  (repeat (first|refine Nil.ptr ?_|refine ag.mk ?_|refine Ld.mk zM rfl ?_|refine az.mk ?_|refine aa.eql ?_|refine aa.neq ?_|refine aa.lss ?_|refine aa.leq ?_|refine aa.gtr ?_|refine aa.geq ?_|refine Un.not ?_|refine Ext.mk rfl ?_|refine ay.mk ?_|refine aa.aB ?_|refine aa.aQ ?_|refine aa.aP ?_|refine Br.yes ?_|refine Br.no ?_))
  refine aj.nat (by omega) ?_
  refine ax.row (l:=cW .i64 L++aD) zM aA (dr (by omega) aD) ?_
  refine ae.fq (nt JT (i:=j) (by omega) (aS L c)) ?_
  rintro v C' ⟨rfl,br⟩
  have Qc:c≠j:=by omega
  have hst:=DZ hu (by rw[←hcd];exact h0) (by rw[←hcd,LR,Qo c Qc];exact Ln)
  rw[←hcd]at hst
  have hcs:=hc.step Qy (i:=j) (q:=c) (by omega) (by omega) Qc
  have N7:=(swap_perm (l:=L.set j a) (i:=j) (q:=c) (by omega) (by omega) Qc).trans hp
  have Np:(L.set j (aS L c)).set c a=((L.set j a).set j (aS (L.set j a) c)).set c (aS (L.set j a) j):=(qf a (by omega) (by omega) Qc).symm
  have oW:aS ((L.set j (aS L c)).set c a)=eY (eY (aS (L.set j a)) j (aS (L.set j a) c)) c (aS (L.set j a) j):=by
   rw[Np,eo _ (by simp;omega),eo _ (by omega)]
  refine aq.mk ⟨c,_,_,C',rfl,rfl,br,by simp[QB],by omega,?_,?_,?_⟩ ?_
  ·rw[Np];exact N7
  ·rw[oW];exact hst
  ·rw[Np];rw[Qo c Qc]at hcs⊢;exact hcs
  ·simp only[aV,Int.toNat_natCast];omega
 intro J3 RZ
 have XE:s8 n (aS (L.set j a)) j=if(decide (2*j+1+1<n) &&prec (aS L (2*j+1+1)) (aS L (2*j+1)))=true then 2*j+1+1 else 2*j+1:=by
  unfold s8;rw[Qo _ (by omega),Qo _ (by omega)]
 rw[XE]at hcd
 have hno:¬(2*j+1+1<n∧prec (aS L (2*j+1+1)) (aS L (2*j+1))=true)→J3 [.bool false] ((b6,Obj.cells (enc .i64 a).toArray 233 (0,0))::(bh,Obj.cells #[.slice (some ⟨la,0,none⟩) L.length (L.length+aD.length),.map (some mb)] 231 (0,0))::(la,.cells (rows (cW .i64 L++aD)) 233 (0,0))::Cm):=fun hx=>RZ _ _ fun gs=>by
  rw[if_neg (by simpa using hx)]at hcd
  rw[hcd]at fR
  exact Br.no (.mk fR)
 refine DR.self ?_
 refine aa.Ck (c:=((2*j+1+1:Nat):Int)) (by omega) (by omega) ?_
 (repeat (first|refine Nil.ptr ?_|refine ag.mk ?_|refine Ld.mk zM rfl ?_|refine az.mk ?_|refine aa.eql ?_|refine aa.neq ?_|refine aa.lss ?_|refine aa.leq ?_|refine aa.gtr ?_|refine aa.geq ?_|refine Un.not ?_|refine Ext.mk rfl ?_|refine ay.mk ?_|refine aa.aB ?_|refine aa.aQ ?_|refine aa.aP ?_|refine Br.yes ?_|refine Br.no ?_))
 refine Br.dec (fun h0=>?_) (fun h0=>JE.mk (hno (fun h=>h0 (by omega))))
 have h0:2*j+1+1<n:=by omega
 (repeat (first|refine Nil.ptr ?_|refine ag.mk ?_|refine Ld.mk zM rfl ?_|refine az.mk ?_|refine aa.eql ?_|refine aa.neq ?_|refine aa.lss ?_|refine aa.leq ?_|refine aa.gtr ?_|refine aa.geq ?_|refine Un.not ?_|refine Ext.mk rfl ?_|refine ay.mk ?_|refine aa.aB ?_|refine aa.aQ ?_|refine aa.aP ?_|refine Br.yes ?_|refine Br.no ?_))
 refine aa.Ck (c:=((2*j+1+1:Nat):Int)) (by omega) (by omega) ?_
 refine aj.nat (by omega) ?_
 refine ax.row (l:=cW .i64 L++aD) zM aA (dr (by omega) aD) ?_
 (repeat (first|refine Nil.ptr ?_|refine ag.mk ?_|refine Ld.mk zM rfl ?_|refine az.mk ?_|refine aa.eql ?_|refine aa.neq ?_|refine aa.lss ?_|refine aa.leq ?_|refine aa.gtr ?_|refine aa.geq ?_|refine Un.not ?_|refine Ext.mk rfl ?_|refine ay.mk ?_|refine aa.aB ?_|refine aa.aQ ?_|refine aa.aP ?_|refine Br.yes ?_|refine Br.no ?_))
 refine aj.nat (by omega) ?_
 refine ax.row (l:=cW .i64 L++aD) zM aA (dr (by omega) aD) ?_
 intro F
 refine ae.eq (rF _ _ _) ?_
 refine⟨.refl _,?_⟩
 cases Ln:prec (aS L (2*j+1+1)) (aS L (2*j+1))with
 |false=>exact ay.mk (JE.mk (hno (fun h=>by rw[Ln]at h;exact absurd h.2 (by decide))))
 |true=>
 refine ay.mk (JE.mk (RZ _ _ fun gs=>Br.yes ?_))
 refine aa.Ck (c:=((2*j+1+1:Nat):Int)) (by omega) (by omega) ?_
 rw[if_pos (by simp[h0,Ln])]at hcd
 rw[hcd]at fR
 exact .mk fR
end Go.Proofs
