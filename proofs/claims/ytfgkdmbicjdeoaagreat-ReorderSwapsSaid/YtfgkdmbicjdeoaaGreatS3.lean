import Derived.Test.YtfgkdmbicjdeoaaGreatS2
import Derived.RangeFuncIn
import Derived.RangeFuncLeaves
import Derived.RangeFuncRecord
import Derived.RangeFuncSeq
set_option linter.unusedVariables false
set_option linter.unusedSimpArgs false
set_option linter.unusedSectionVars false
set_option maxRecDepth 100000
namespace Go.Proofs
open Go Go.Sx
theorem vC{n:Nat}(hn:n≤16)(B:Hp):Rd Tryz.prog 81 #[.int .i64 (n:Int)] B (· =.int .i64 ((aj.wN n:Nat):Int)):=by
 intro g
 refine IF (R:=aE _) ?_
 unfold L81
 refine ae.y4 (b:=6) (Br.dec (fun h=>?_) (fun h=>?_))
 ·exact bL.mk (.refl _) (by rw[aj.sj (by omega)];rfl)
 ·refine ae.bC (b:=6) (by simp[az];omega) (by omega) ?_
  have hp:2^(n-6)≤1024:=Nat.pow_le_pow_right (n:=2) (by decide) (by omega:n-6≤10)
  refine ae.rI (a:=1) (by simp[IntKind.bits];omega) (by rw[Nat.one_shiftLeft];simp[az];omega) ?_
  exact bL.mk (.refl _) (by rw[Nat.one_shiftLeft,aj.sk (by omega)])
theorem KS{B:Hp}{v:Value}{t:Tb}(ht:jS B v t):Rd Tryz.prog 28 #[v] B (· =.bool (decide (TF t))):=by
 obtain⟨tn,ws⟩:=t
 obtain⟨s,rfl,hs,hw⟩:=ht
 simp only at hs hw⊢
 intro g
 refine Ji (R:=aE _) ?_
 unfold L28
 intro b1 _ J hJ
 have hno:¬TF ⟨tn,ws⟩→JE J [.bool true] ((b1,.cells (Value.cells (.agg #[.int .i64 tn,s])) 57 (0,0))::B):=fun h=>
  JE.mk (hJ _ _ fun gs=>Br.yes (bL.mk .tail (by rw[decide_eq_false h])))
 refine DR.self ?_
 refine aa.mk (Ld.mk zM rfl ?_)
 refine ae.lss (Br.dec (fun h0=>hno fun h=>by have:=h.1;simp only at this;omega) (fun h0=>?_))
 obtain⟨n,rfl⟩:∃n:Nat,tn=n:=⟨tn.toNat,by omega⟩
 have TY:TF ⟨(n:Int),ws⟩↔aj.cw n ws:=by unfold TF;simp
 refine aa.mk (Ld.mk zM rfl ?_)
 refine ae.lQ (b:=16) (aD.mk (Br.dec (fun h1=>hno fun h=>by have:=(TY.1 h).lD;omega) (fun h1=>?_)))
 refine aa.mk (Ld.mk zM rfl ?_)
 refine hs.aS ?_
 refine aa.mk (Ld.mk zM rfl ?_)
 intro F
 refine ag.rd (.cons .here) (vC (by omega) B) ?_
 rintro v rfl
 refine⟨(by repeat (first|exact aO.refl _|apply aO.cons|apply aO.skip|apply aO.cJ|apply aO.bQ)),?_⟩
 rw[an]
 refine ae.ql (aD.mk ?_)
 simp only[cond_false]
 by_cases hl:ws.length=aj.wN n
 case neg=>rw[show decide (ws.length≠aj.wN n)=true by simp[hl]];exact hno fun h=>hl (TY.1 h).len
 rw[show decide (ws.length≠aj.wN n)=false by simp[hl]]
 refine JE.mk (hJ _ _ fun gs=>Br.no ?_)
 refine aa.mk (Ld.mk zM rfl ?_)
 refine ae.qz (b:=6) ?_
 have hpos:=aj.AE n
 obtain⟨w,hg⟩:∃w,ws[0]? =some w:=⟨_,List.getElem?_eq_getElem (by omega)⟩
 have LI:=hw w (List.mem_of_getElem? hg)
 refine cv.or (decide (w>>>(2^n)=0)) (fun h6=>?_) rfl fun gs=>?_
 ·have h6':¬6≤n:=by simpa using h6
  have h1:2^n≤32:=Nat.pow_le_pow_right (n:=2) (by decide) (by omega:n≤5)
  refine aa.mk (Ld.mk zM rfl ?_)
  refine hs.ld (cy hg) zS ?_
  refine aa.mk (Ld.mk zM rfl ?_)
  refine ae.o5 (a:=1) ?_
  rw[Nat.one_shiftLeft,Nat.mod_eq_of_lt (by omega)]
  refine ae.jJ (by simpa[az]using LI) ?_
  exact ae.gp (b:=0) ⟨rfl,rfl⟩
 ·refine bL.mk .tail ?_
  congr 1
  rw[←Bool.decide_or]
  refine decide_eq_decide.2 (TY.trans ?_).symm
  constructor
  ·intro h
   by_cases h6:6≤n
   ·exact .inl h6
   ·refine .inr ?_
    have:=h.full w (List.mem_of_getElem? hg)
    unfold aj.cj at this
    rw[if_neg h6]at this
    have hp:=Nat.two_pow_pos (2^n)
    rw[Nat.shiftRight_eq_div_pow];exact Nat.div_eq_of_lt (by omega)
  ·intro h
   refine⟨by omega,hl,fun u hu=>?_⟩
   by_cases h6:6≤n
   ·unfold aj.cj;rw[if_pos h6];have:=hw u hu;omega
   ·have h1:ws.length=1:=by rw[hl,aj.sj (by omega)]
    obtain⟨x,rfl⟩:=List.length_eq_one_iff.1 h1
    simp at hg hu
    subst hg;subst hu
    rcases h with h|h
    ·exact absurd h h6
    ·rw[Nat.shiftRight_eq_div_pow]at h
     unfold aj.cj;rw[if_neg h6]
     have hp:=Nat.two_pow_pos (2^n)
     have:=(Nat.div_eq_zero_iff_lt hp).1 h
     omega
theorem kM{B:Hp}{v1 v2:Value}{a b:Tb}(h1:jS B v1 a)(h2:jS B v2 b)(bD:a.ws.length<2^62):Rd Tryz.prog 36 #[v1,v2] B (· =.bool (decide (a=b))):=by
 obtain⟨na,wa⟩:=a
 obtain⟨nb,wb⟩:=b
 obtain⟨s1,rfl,uK,jr⟩:=h1
 obtain⟨s2,rfl,q5,mr⟩:=h2
 simp only at uK q5 jr mr bD⊢
 intro g
 refine Jg (R:=aE _) ?_
 unfold L36
 intro b1 _ b3 _
 refine aa.mk (Ld.mk zM rfl ?_)
 refine aa.mk (Ld.mk zM rfl ?_)
 refine ae.gj ?_
 refine cv.or (decide (wa.length≠wb.length)) (fun _=>?_) rfl fun gs=>?_
 ·refine aa.mk (Ld.mk zM rfl ?_)
  refine uK.aS ?_
  refine aa.mk (Ld.mk zM rfl ?_)
  refine q5.aS ?_
  rw[an,an]
  exact ae.ql ⟨rfl,rfl⟩
 rw[←Bool.decide_or]
 refine Br.dec (fun h=>?_) (fun h=>?_)
 ·refine bL.mk (by repeat (first|exact aO.refl _|apply aO.cons|apply aO.skip|apply aO.cJ|apply aO.bQ)) ?_
  rw[decide_eq_false]
  rintro e
  simp only[Tb.mk.injEq]at e
  rcases h with h|h
  ·exact h e.1
  ·exact h (by rw[e.2])
 ·have hn:na=nb:=Classical.byContradiction fun e=>h (.inl e)
  have hl:wa.length=wb.length:=Classical.byContradiction fun e=>h (.inr e)
  refine⟨fun vs H=>∃j:Nat,vs=[.int .i64 (j:Int)]∧H=(b3,.cells (Value.cells (.agg #[.int .i64 nb,s2])) 57 (0,0))::(b1,.cells (Value.cells (.agg #[.int .i64 na,s1])) 57 (0,0))::B∧j≤wa.length∧∀i,i<j→wa[i]? =wb[i]?,
   fun vs _=>wa.length-bg vs 0,JE.mk ⟨0,rfl,rfl,by omega,by omega⟩,?_⟩
  rintro w H ⟨j,hv,rfl,hj,aK⟩ gs
  simp only[List.cons.injEq,and_true]at hv
  subst hv
  refine aa.mk (Ld.mk zM rfl ?_)
  refine uK.aS ?_
  rw[an]
  refine ae.dL (Br.dec (fun hlt=>?_) (fun hlt=>?_))
  ·have ga:wa[j]? =some wa[j]:=List.getElem?_eq_getElem hlt
   have gb:wb[j]? =some wb[j]:=List.getElem?_eq_getElem (by omega)
   refine aa.mk (Ld.mk zM rfl ?_)
   refine uK.ld (cy ga) zS ?_
   refine aa.mk (Ld.mk zM rfl ?_)
   refine q5.ld (cy gb) zS ?_
   refine ae.ql (Br.dec (fun hne=>?_) (fun hne=>?_))
   ·refine bL.mk (by repeat (first|exact aO.refl _|apply aO.cons|apply aO.skip|apply aO.cJ|apply aO.bQ)) ?_
    rw[decide_eq_false]
    rintro e
    simp only[Tb.mk.injEq]at e
    obtain⟨_,rfl⟩:=e
    exact hne rfl
   ·refine ae.aH (b:=1) (by simp[az];omega) ?_
    refine ay.mk ⟨j+1,rfl,rfl,by omega,fun i hi=>?_⟩ (by simp[bg];omega)
    by_cases e:i=j
    ·subst e;rw[ga,gb];simp;omega
    ·exact aK i (by omega)
  ·refine bL.mk (by repeat (first|exact aO.refl _|apply aO.cons|apply aO.skip|apply aO.cJ|apply aO.bQ)) ?_
   rw[decide_eq_true]
   simp only[Tb.mk.injEq]
   refine⟨hn,List.ext_getElem? fun i=>?_⟩
   by_cases hi:i<wa.length
   ·exact aK i (by omega)
   ·rw[List.getElem?_eq_none (by omega),List.getElem?_eq_none (by omega)]
def cX(l:List Bool):Array Value:=(l.map Value.bool).toArray
theorem Ce(l:List Bool)(i:Nat)(b:Bool):(cX l).setIfInBounds i (.bool b)=cX (l.set i b):=by simp[cX,List.map_set]
theorem Bi(n:Nat):madeCells (Value.cells (.bool false)) (n*1)=cX (List.replicate n false):=by
 apply Array.ext
 ·simp[madeCells,cX]
 ·intro i h1 h2
  simp[madeCells,cX,Value.cells,Nat.mod_one]
def iG(B:Hp)(v:Value)(l:List Bool):Prop:=Sl 1 B v (l.map fun b=>[Value.bool b])
theorem iG.block{B:Hp}{b cap:Nat}{l:List Bool}{T:TypeId}{fz:Nat×Nat}(hm:(b,Obj.cells (cX l) T fz)∈B)(hc:l.length≤cap):iG B (.slice (some ⟨b,0,none⟩) l.length cap) l:=by
 refine⟨fun r hr=>by obtain⟨b,_,rfl⟩:=List.mem_map.1 hr;rfl,.inr ⟨b,0,cap,_,T,fz,by simp,by simpa using hc,hm,by simp[cX],fun i r hi j v hj=>?_⟩⟩
 rw[List.getElem?_map]at hi
 cases hl:l[i]? with
 |none=>rw[hl]at hi;simp at hi
 |some n=>
  rw[hl]at hi
  simp only[Option.map_some,Option.some.injEq]at hi
  subst hi
  cases j with
  |zero=>
   simp only[List.getElem?_cons_zero,Option.some.injEq]at hj
   subst hj
   simp[cX,hl]
  |succ j=>simp at hj
theorem iG.mono{B B':Hp}{v:Value}{l:List Bool}(h:iG B v l)(hs:∀x∈B,x∈B'):iG B' v l:=Sl.mono h hs
theorem iG.aS{B:Hp}{v:Value}{l:List Bool}(h:iG B v l){K:Value→Prop}(hk:K (.int .i64 l.length)):aG v K:=Sl.aS h (by simpa using hk)
theorem iG.ld{kd:IntKind}{B H:Hp}{v:Value}{l:List Bool}(h:iG B v l){i:Nat}{b:Bool}(hi:l[i]? =some b)(hs:∀x∈B,x∈H){K:Value→Prop}(hk:K (.bool b)):ah 1 v (.int kd (i:Int)) (fun p=>Ld H p K):=
 ah.sl h (by rw[List.getElem?_map,hi];rfl) fun p hp=>Ld.at hp hs hk
theorem bZ.nV{H:Hp}{T:TypeId}{kl:IntKind}{n:Nat}{K:Value→Hp→Prop}(bD:n≤281474976710656)
 (h:∀b,K (.slice (some ⟨b,0,none⟩) n n) ((b,.cells (cX (List.replicate n false)) T (0,0))::H)):bZ T 1 1 (.bool false) H (.int kl n) (.int kl n) K:=
 ⟨kl,kl,n,n,rfl,rfl,Nat.le_refl _,by omega,by omega,fun b _=>by rw[Bi];exact h b⟩
theorem St.nV{H:Hp}{b i:Nat}{l:List Bool}{x:Bool}{T:TypeId}{H':Hp}{K:Hp→Prop}(hu:cK b (.cells (cX l) T (0,0)) (.cells (cX (l.set i x)) T (0,0)) H H')(hi:i<l.length)(h:K H'):
  St 1 H (.pointer (some ⟨b,0+i*1,none⟩)) (.bool x) K:=
 St.one (c:=cX l) (c':=cX (l.set i x)) hu rfl (by simpa[cX]using hi) (by rw[Nat.zero_add,Nat.mul_one];exact Ce l i x) h
def dJ(n:Nat)(bs:List Bool)(k:Nat):List Nat:=(List.range (aj.wN n)).map fun i=>aj.eR bs i (min 64 (k-64*i))
theorem HY{n:Nat}{bs:List Bool}{k:Nat}:∀w∈dJ n bs k,w<18446744073709551616:=fun w hw=>by
 obtain⟨i,_,rfl⟩:=List.mem_map.1 hw
 exact Nat.lt_of_lt_of_le (aj.oS bs i _) (Nat.pow_le_pow_right (n:=2) (by decide) (by omega:min 64 (k-64*i)≤64))
theorem zJ{n k:Nat}{bs:List Bool}(h:bs.getD k false=false):dJ n bs (k+1)=dJ n bs k:=by
 apply List.map_congr_left
 intro i _
 by_cases hi:64*i≤k∧k<64*i+64
 ·rw[show min 64 (k+1-64*i)=(k-64*i)+1 by omega,show min 64 (k-64*i)=k-64*i by omega,aj.eR,show 64*i+(k-64*i)=k by omega,h];simp
 ·rw[show min 64 (k+1-64*i)=min 64 (k-64*i)by omega]
theorem B3{n k:Nat}{bs:List Bool}(h:bs.getD k false=true)(hk:k/64<aj.wN n):(dJ n bs k)[k/64]? =some (aj.eR bs (k/64) (k%64))∧(dJ n bs k).set (k/64) (aj.eR bs (k/64) (k%64)+2^(k%64))=dJ n bs (k+1):=by
 have e:min 64 (k-64*(k/64))=k%64:=by omega
 refine⟨by simp[dJ,hk,e],?_⟩
 apply List.ext_getElem?
 intro j
 by_cases hj:j=k/64
 ·subst hj
  rw[List.getElem?_set_self (by simp[dJ,hk])]
  simp only[dJ,List.getElem?_map,List.getElem?_range hk,Option.map_some,Option.some.injEq]
  rw[show min 64 (k+1-64*(k/64))=k%64+1 by omega]
  exact aj.vk (by rw[show 64*(k/64)+k%64=k by omega];exact h)
 ·rw[List.getElem?_set_ne (Ne.symm hj)]
  by_cases hlt:j<aj.wN n
  ·simp only[dJ,List.getElem?_map,List.getElem?_range hlt,Option.map_some,Option.some.injEq]
   rw[show min 64 (k+1-64*j)=min 64 (k-64*j)by omega]
  ·rw[List.getElem?_eq_none (by simp[dJ];omega),List.getElem?_eq_none (by simp[dJ];omega)]
theorem r5{n:Nat}(hn:n≤16){B:Hp}{v:Value}{bs:List Bool}(hb:iG B v bs)(hl:bs.length≤64*aj.wN n)(hn':bs.length≤64*aj.wN n):
  Px Tryz.prog 98 #[.int .i64 (n:Int),v] B (fun v H=>jS H v ⟨n,aj.g9 n (bs)⟩):=by
 intro g
 have LI:=aj.qO hn
 refine Ix (R:=aE _) ?_
 unfold L98
 intro b1 _
 refine ag.rd (.cons .here) (vC hn B) ?_
 rintro v rfl
 refine bZ.ints (gA hn).1 (gA hn).2 fun bw=>?_
 refine Build.mk (cs:=[.int .i64 (n:Int),.slice (some ⟨bw,0,none⟩) (aj.wN n) (aj.wN n)]) (by kernel_rfl) ?_
 intro b8 _
 refine St.whole (r:=[.int .i64 (n:Int),.slice (some ⟨bw,0,none⟩) (aj.wN n) (aj.wN n)]) (by exact cK.head _) rfl rfl (by simp[Value.oneCell']) ?_
 refine⟨fun vs H=>∃k:Nat,vs=[.int .i64 (k:Int)]∧k≤bs.length∧H=(b8,.cells (List.toArray [.int .i64 (n:Int),.slice (some ⟨bw,0,none⟩) (aj.wN n) (aj.wN n)]) 57 (0,0))::
   (bw,.cells (aF .u64 (iw (dJ n bs k))) 50 (0,0))::(b1,.cells #[.int .i64 0,.slice none 0 0] 57 (0,0))::B,
  fun vs _=>bs.length-bg vs 0,JE.mk ⟨0,rfl,by omega,?_⟩,?_⟩
 ·have:List.replicate (aj.wN n) (0:Int)=iw (dJ n bs 0):=by
   apply List.ext_getElem?
   intro j
   unfold iw dJ
   by_cases hj:j<aj.wN n
   ·simp[hj,aj.eR]
   ·rw[List.getElem?_eq_none (by simp;omega),List.getElem?_eq_none (by simp;omega)]
  rw[this]
 rintro w H ⟨k,hv,hk,rfl⟩ gs
 simp only[List.cons.injEq,and_true]at hv
 subst hv
 refine hb.aS (ae.dL (Br.dec (fun hlt=>?_) (fun hlt=>?_)))
 ·intro J hJ
  have hg:bs[k]? =some bs[k]:=List.getElem?_eq_getElem hlt
  have hgd:bs.getD k false=bs[k]:=by rw[List.getD_eq_getElem?_getD,hg];rfl
  refine hb.ld hg zS ?_
  cases U1:bs[k]
  ·refine Br.no (JE.mk (hJ _ fun gs=>?_))
   refine ae.aH (b:=1) (by simp[az];omega) ?_
   exact ay.mk ⟨k+1,rfl,by omega,by rw[zJ (by rw[hgd,U1])]⟩ (by simp[bg];omega)
  ·obtain⟨f1,f2⟩:=B3 (n:=n) (k:=k) (bs:=bs) (by rw[hgd,U1]) (by omega)
   refine Br.yes (DR.self ?_)
   refine aa.mk (Ld.mk zM rfl ?_)
   refine ae.u3 (b:=64) (by simp[az];omega) (by decide) ?_
   have hlen:(dJ n bs k).length=aj.wN n:=by simp[dJ]
   refine ah.nat (by omega) ?_
   refine Ld.mk (v:=.int .u64 ((aj.eR bs (k/64) (k%64):Nat):Int)) (by exact .tail _ (.head _)) ?_ ?_
   ·simp only[aF,Nat.zero_add,Nat.mul_one,List.getElem?_toArray,List.getElem?_map,cy f1,Option.map_some]
   refine ae.Hq (b:=64) (by decide) ?_
   refine ae.o5 (a:=1) ?_
   have h2:2^(k%64)<18446744073709551616:=Nat.pow_lt_pow_right (a:=2) (n:=64) (by decide) (Nat.mod_lt _ (by decide))
   rw[Nat.one_shiftLeft,Nat.mod_eq_of_lt h2]
   have h3:=aj.oS bs (k/64) (k%64+1)
   have h4:2^(k%64+1)≤18446744073709551616:=Nat.pow_le_pow_right (n:=2) (by decide) (by have:=Nat.mod_lt k (by decide:64>0);omega:k%64+1≤64)
   rw[←aj.vk (by rw[show 64*(k/64)+k%64=k by omega,hgd,U1])]at h3
   refine ae.aH (by simp only[az];omega) ?_
   refine ah.nat (by omega) ?_
   refine St.ints (l:=iw (dJ n bs k)) (by exact .tail (.head _)) (by simp;omega) ?_
   have e:(iw (dJ n bs k)).set (k/64) ((aj.eR bs (k/64) (k%64)+2^(k%64):Nat):Int)=iw (dJ n bs (k+1)):=by rw[←f2];simp[iw,List.map_set]
   rw[e]
   refine JE.mk (hJ _ fun gs=>?_)
   refine ae.aH (b:=1) (by simp[az];omega) ?_
   exact ay.mk ⟨k+1,rfl,by omega,rfl⟩ (by simp[bg];omega)
 ·have:k=bs.length:=by omega
  subst this
  have ff:dJ n bs bs.length=aj.g9 n bs:=by
   apply List.map_congr_left
   intro i _
   apply Nat.eq_of_testBit_eq;intro j
   rw[aj.c4,aj.c4]
   by_cases h1:64*i+j<bs.length
   ·by_cases h2:j<64
    ·rw[show decide (j<min 64 (bs.length-64*i))=true by simp;omega,show decide (j<64)=true by simpa using h2]
    ·rw[show decide (j<min 64 (bs.length-64*i))=false by simp;omega,show decide (j<64)=false by simpa using h2]
   ·have:bs.getD (64*i+j) false=false:=by rw[List.getD_eq_getElem?_getD,List.getElem?_eq_none (by omega)];rfl
    rw[this];simp
  rw[ff]
  refine aA.whole (r:=[.int .i64 (n:Int),.slice (some ⟨bw,0,none⟩) (aj.wN n) (aj.wN n)]) (by exact List.Mem.head _) rfl ?_
  refine St.whole (r:=[.int .i64 (n:Int),.slice (some ⟨bw,0,none⟩) (aj.wN n) (aj.wN n)]) (by exact .tail (.tail (.head _))) rfl rfl (by simp[Value.oneCell']) ?_
  refine aA.whole (r:=[.int .i64 (n:Int),.slice (some ⟨bw,0,none⟩) (aj.wN n) (aj.wN n)]) (by exact .tail _ (.tail _ (.head _))) rfl ?_
  refine oG.mk (by repeat (first|exact aV.refl _|apply aV.cons|apply aV.app)) ⟨_,rfl,?_⟩
  have hlt:∀w∈aj.g9 n bs,w<18446744073709551616:=by rw[←ff];exact HY
  have:=Words.block (b:=bw) (cap:=aj.wN n) (ws:=aj.g9 n bs) (T:=50) (fz:=(0,0)) (B:=(b8,.cells (List.toArray [.int .i64 (n:Int),.slice (some ⟨bw,0,none⟩) (aj.wN n) (aj.wN n)]) 57 (0,0))::
   (bw,.cells (aF .u64 (iw (aj.g9 n bs))) 50 (0,0))::(b1,.cells (List.toArray [.int .i64 (n:Int),.slice (some ⟨bw,0,none⟩) (aj.wN n) (aj.wN n)]) 57 (0,0))::B) (by exact .tail _ (.head _)) (by simp[aj.g9]) hlt
  simpa[aj.g9]using this
def AI(n v:Nat):List Bool:=(List.range (2^n)).map fun x=>x.testBit v
theorem Se{W v i:Nat}(hi:i<W):((List.range W).map fun k=>if k<i then k.testBit v else false).set i (i.testBit v)=(List.range W).map fun k=>if k<i+1 then k.testBit v else false:=by
 apply List.ext_getElem?
 intro j
 by_cases e:i=j
 ·subst e;simp[hi]
 ·rw[List.getElem?_set_ne e]
  by_cases hj:j<W
  ·simp only[List.getElem?_map,List.getElem?_range hj,Option.map_some]
   by_cases h2:j<i
   ·rw[if_pos h2,if_pos (by omega)]
   ·rw[if_neg h2,if_neg (by omega)]
  ·rw[List.getElem?_eq_none (by simp;omega),List.getElem?_eq_none (by simp;omega)]
theorem iQ{n:Nat}:2^n≤64*aj.wN n:=by
 by_cases h:6≤n
 ·rw[aj.sk h]
  have:2^n=64*2^(n-6):=by rw[show(64:Nat)=2^6 by rfl,←Nat.pow_add];congr 1;omega
  omega
 ·have h1:2^n≤32:=Nat.pow_le_pow_right (n:=2) (by decide) (by omega:n≤5)
  have:=aj.AE n;omega
theorem Sf{n v:Nat}(hn:n≤16)(hv:v<64)(B:Hp):Px Tryz.prog 224 #[.int .i64 (n:Int),.int .i64 (v:Int)] B (fun r H=>jS H r ⟨n,aj.g9 n (AI n v)⟩):=by
 intro g
 have hp:2^n≤65536:=Nat.pow_le_pow_right (n:=2) (by decide) hn
 refine Ds (R:=aE _) ?_
 unfold L224
 intro b1 _
 refine ae.rI (a:=1) (by simp[IntKind.bits];omega) (by rw[Nat.one_shiftLeft];simp[az];omega) ?_
 rw[Nat.one_shiftLeft]
 refine bZ.nV (by omega) fun b2=>?_
 have e0:List.replicate (2^n) false=(List.range (2^n)).map fun k=>if k<0 then k.testBit v else false:=by
  apply List.ext_getElem?
  intro j
  by_cases hj:j<2^n
  ·simp[hj]
  ·rw[List.getElem?_eq_none (by simp;omega),List.getElem?_eq_none (by simp;omega)]
 rw[e0]
 refine⟨fun vs H=>∃k:Nat,vs=[.int .i64 (k:Int)]∧k≤2^n∧H=(b1,.cells #[.int .i64 0,.slice none 0 0] 57 (0,0))::(b2,.cells (cX ((List.range (2^n)).map fun j=>if j<k then j.testBit v else false)) 4 (0,0))::B,
  fun vs _=>2^n-bg vs 0,JE.of .swap ⟨0,rfl,Nat.zero_le _,rfl⟩,?_⟩
 rintro w H ⟨k,hv,hk,rfl⟩ gs
 simp only[List.cons.injEq,and_true]at hv
 subst hv
 refine aG.mk (ae.dL (Br.dec (fun hlt=>?_) (fun hlt=>?_)))
 ·refine ae.jJ (by simp[az];omega) (ae.Hq (b:=2) (by decide) (ae.gp (b:=1) ?_))
  have e1:decide ((k>>>v)%2=1)=k.testBit v:=by
   cases hb:k.testBit v
   ·rw[decide_eq_false];rw[aj.r8,hb];simp
   ·rw[decide_eq_true];rw[aj.r8,hb]
  rw[e1]
  refine ah.nat hlt ?_
  refine St.nV (l:=(List.range (2^n)).map fun j=>if j<k then j.testBit v else false) (by exact .tail (.head _)) (by simpa using hlt) ?_
  rw[Se hlt]
  refine ae.aH (b:=1) (by simp[az];omega) ?_
  exact ay.mk ⟨k+1,rfl,by omega,rfl⟩ (by simp[bg];omega)
 ·have:k=2^n:=by omega
  subst this
  have e2:((List.range (2^n)).map fun j=>if j<2^n then j.testBit v else false)=AI n v:=List.map_congr_left fun k hk=>by rw[if_pos (List.mem_range.1 hk)]
  rw[e2]
  have hlen:(AI n v).length=2^n:=by simp[AI]
  have hB:=iG.block (b:=b2) (cap:=2^n) (l:=AI n v) (T:=4) (fz:=(0,0)) (B:=(b2,.cells (cX (AI n v)) 4 (0,0))::B) (.head _) (by omega)
  rw[hlen]at hB
  refine ag.px (.cons .here) (r5 hn hB (by rw[hlen];exact iQ) (by rw[hlen];exact iQ)) ?_
  rintro r N ⟨s,rfl,hw⟩
  have hone:=aB hw
  refine St.whole (r:=[.int .i64 (n:Int),s]) (by exact .head _) rfl rfl (by simpa[Value.oneCell']using hone) ?_
  refine aA.whole (r:=[.int .i64 (n:Int),s]) (by exact .head _) rfl ?_
  exact oG.mk (by repeat (first|exact aV.refl _|apply aV.cons|apply aV.app)) ⟨s,rfl,hw.mono zS⟩
theorem OA{v:Nat}(hv:v<6)(B:Hp):Px Tryz.prog 224 #[.int .i64 6,.int .i64 (v:Int)] B (fun r H=>jS H r ⟨6,[aj.mask v]⟩):=
 (Sf (n:=6) (by decide) (by omega) B).mono fun r H ⟨h1,h2⟩=>⟨h1,by
  have e:aj.g9 6 (AI 6 v)=[aj.mask v]:=by
   have:aj.wN 6=1:=rfl
   simp only[aj.g9,this,List.range_one,List.map_cons,List.map_nil,List.cons.injEq,and_true]
   exact aj.Ht v
  rw[e]at h2;exact h2⟩
theorem M0{n u i:Nat}{ws:List Nat}{c:Bool}(hf:aj.cw n ws)(hu:u<n)(hi:i<aj.wN n):
  (iw ((List.range (aj.wN n)).map fun k=>if k<i then aj.dA ws u c k&&&aj.cj n else 0)).set i ((aj.dA ws u c i:Nat):Int)=iw ((List.range (aj.wN n)).map fun k=>if k<i+1 then aj.dA ws u c k&&&aj.cj n else 0):=by
 have:=vE (G:=fun k=>aj.dA ws u c k&&&aj.cj n) hi
 rw[aj.BP hf hu hi]at this
 exact this
def qD(pR bw b3 b1 n u i:Nat)(s:Value)(ws:List Nat)(c:Bool)(B:Hp):Hp:=
 (pR,.cells (List.toArray [.int .i64 (n:Int),.slice (some ⟨bw,0,none⟩) (aj.wN n) (aj.wN n)]) 57 (0,0))::
    (bw,.cells (aF .u64 (iw ((List.range (aj.wN n)).map fun k=>if k<i then aj.dA ws u c k&&&aj.cj n else 0))) 50 (0,0))::(b3,.cells #[.int .i64 0,.slice none 0 0] 57 (0,0))::(b1,.cells (Value.cells (.agg #[.int .i64 (n:Int),s])) 57 (0,0))::B
theorem m0{B:Hp}{v:Value}{n u:Nat}{ws:List Nat}{c:Bool}(ht:jS B v ⟨n,ws⟩)(hf:aj.cw n ws)(hu:u<n):
  Px Tryz.prog 163 #[v,.int .i64 (u:Int),.bool c] B (fun v H=>jS H v ⟨n,aj.dV n ws u c⟩):=by
 obtain⟨s,rfl,hs,hw⟩:=ht
 simp only at hs hw
 have hn:=hf.lD
 have LI:=aj.qO hn
 have agr:=hf.len
 have YV:∀j,j<aj.wN n→ws[j]? =some (ws.getD j 0):=fun j hj=>by rw[List.getElem?_eq_getElem (by omega),List.getD_eq_getElem?_getD,List.getElem?_eq_getElem (by omega)];rfl
 have hgl:∀j,j<aj.wN n→ws.getD j 0<18446744073709551616:=fun j hj=>hw _ (List.mem_of_getElem? (YV j hj))
 intro g
 refine Ec (R:=aE _) ?_
 unfold L163
 intro b1 _ b3 _
 refine DR.self ?_
 refine aa.mk (Ld.mk zM rfl ?_)
 refine aa.mk (Ld.mk zM rfl ?_)
 refine hs.aS ?_
 rw[an,hf.len]
 intro F
 refine bZ.ints (gA hn).1 (gA hn).2 fun bw=>⟨.tail,?_⟩
 refine Build.mk (cs:=[.int .i64 (n:Int),.slice (some ⟨bw,0,none⟩) (aj.wN n) (aj.wN n)]) (by kernel_rfl) ?_
 intro pR _ F
 refine St.whole (r:=[.int .i64 (n:Int),.slice (some ⟨bw,0,none⟩) (aj.wN n) (aj.wN n)]) (by exact cK.head _) rfl rfl (by simp[Value.oneCell']) ?_
 rw[range_zero (G:=fun k=>aj.dA ws u c k&&&aj.cj n)]
 have hend:∀N:Hp,aE (fun v H=>aV B H∧jS H v ⟨n,aj.dV n ws u c⟩) (.returned (.agg (List.toArray [.int .i64 (n:Int),.slice (some ⟨bw,0,none⟩) (aj.wN n) (aj.wN n)])))
   (N++(bw,.cells (aF .u64 (iw (aj.dV n ws u c))) 50 (0,0))::B):=fun N=>by
  refine oG.mk (by repeat (first|exact aV.refl _|apply aV.cons|apply aV.app)) ⟨_,rfl,?_⟩
  have:=Words.block (b:=bw) (cap:=aj.wN n) (ws:=aj.dV n ws u c) (T:=50) (fz:=(0,0)) (B:=N++(bw,.cells (aF .u64 (iw (aj.dV n ws u c))) 50 (0,0))::B) (by exact List.mem_append_right _ (.head _)) (by simp[aj.dV]) (fun w hw=>(aj.cF hn).lt hw)
  simpa[aj.dV]using this
 have Rv:∀N:Hp,aA 2 (qD pR bw b3 b1 n u (aj.wN n) s ws c (N++B)) (.pointer (some ⟨pR,0,none⟩)) fun jA=>St 2 (qD pR bw b3 b1 n u (aj.wN n) s ws c (N++B)) (.pointer (some ⟨b3,0,none⟩)) jA fun Ou=>
   aA 2 Ou (.pointer (some ⟨b3,0,none⟩)) fun jm=>aE (fun v H=>aV B H∧jS H v ⟨n,aj.dV n ws u c⟩) (.returned jm) Ou:=fun N=>by
  unfold qD
  rw[sU]
  refine aA.whole (r:=[.int .i64 (n:Int),.slice (some ⟨bw,0,none⟩) (aj.wN n) (aj.wN n)]) (by exact List.Mem.head _) rfl ?_
  refine St.whole (r:=[.int .i64 (n:Int),.slice (some ⟨bw,0,none⟩) (aj.wN n) (aj.wN n)]) (by exact .tail (.tail (.head _))) rfl rfl (by simp[Value.oneCell']) ?_
  refine aA.whole (r:=[.int .i64 (n:Int),.slice (some ⟨bw,0,none⟩) (aj.wN n) (aj.wN n)]) (by exact .tail _ (.tail _ (.head _))) rfl ?_
  obtain⟨v,H,h1,h2,h3⟩:=hend []
  exact⟨v,H,h1,.skip (aO.trans (.cons (.skip (.skip .right))) h2),h3⟩
 refine ae.qz (a:=u) (b:=6) (Br.dec (fun h6=>?_) (fun h6=>?_))
 ·have hp:2^(u-6)≤1024:=Nat.pow_le_pow_right (n:=2) (by decide) (by omega:u-6≤10)
  have zh:=Nat.two_pow_pos (u-6)
  refine ae.bC (b:=6) (by simp[az];omega) h6 ?_
  refine ae.rI (a:=1) (by simp[IntKind.bits];omega) (by rw[Nat.one_shiftLeft];simp[az];omega) ?_
  rw[Nat.one_shiftLeft]
  refine⟨fun vs H=>∃i:Nat,vs=[.int .i64 (i:Int)]∧i≤aj.wN n∧H=qD pR bw b3 b1 n u i s ws c ([]++B),fun vs _=>aj.wN n-bg vs 0,JE.mk ⟨0,rfl,Nat.zero_le _,rfl⟩,?_⟩
  rintro w H ⟨i,hv,hi,rfl⟩ gs
  simp only[List.cons.injEq,and_true]at hv
  subst hv
  by_cases hlt:i<aj.wN n
  ·unfold qD
   refine aa.mk (Ld.mk zM rfl ?_)
   refine hs.aS ?_
   rw[an,hf.len]
   refine ae.dL (Br.gI hlt ?_)
   obtain⟨sd1,sd2⟩:=aj.KI i (u-6)
   have hq:i/2^(u-6)≤i:=Nat.div_le_self _ _
   have hm:i/2^(u-6)%2*2^(u-6)≤i:=by
    have h1:=Nat.div_add_mod i (2^(u-6))
    have h2:i/2^(u-6)%2*2^(u-6)≤2^(u-6)*(i/2^(u-6)):=by rw[Nat.mul_comm];exact Nat.mul_le_mul_left _ (Nat.mod_le _ _)
    omega
   refine ae.u3 (by simp[az];omega) (by omega) (ae.Hq (b:=2) (by decide) ?_)
   refine ae.g6 (by simp only[az];omega) (ae.bC (by simp[az];omega) hm ?_)
   have PG:aj.aI i (u-6) c<aj.wN n:=by
    rw[aj.sk (by omega)]at hlt⊢
    exact aj.fc hlt (by omega)
   intro J hJ
   have ff:JE J [.int .i64 ((aj.aI i (u-6) c:Nat):Int)] (qD pR bw b3 b1 n u i s ws c ([]++B)):=by
    refine JE.mk (hJ _ _ fun gs=>?_)
    unfold qD
    refine DR.self ?_
    refine aa.mk (Ld.mk zM rfl ?_)
    refine aa.mk (Ld.mk zM rfl ?_)
    refine hs.ld (cy (YV _ PG)) zS ?_
    refine ah.nat hlt ?_
    refine St.ints (l:=iw _) (by exact .tail (.head _)) (by simpa using hlt) ?_
    have e:aj.dA ws u c i=ws.getD (aj.aI i (u-6) c) 0:=by unfold aj.dA;rw[if_pos h6]
    rw[←e,M0 hf hu hlt]
    refine ae.aH (b:=1) (by simp[az];omega) ?_
    exact ay.mk ⟨i+1,rfl,by omega,rfl⟩ (by simp[bg];omega)
   unfold qD at ff
   cases c
   ·refine Br.no ?_
    rw[sd1];exact ff
   ·refine Br.yes ?_
    refine ae.aH (by simp only[az];omega) ?_
    rw[sd2];exact ff
  ·have:i=aj.wN n:=by omega
   subst this
   have:=Rv []
   unfold qD at this⊢
   refine aa.mk (Ld.mk zM rfl ?_)
   refine hs.aS ?_
   rw[an,hf.len]
   exact ae.dL (Br.cq hlt this)
 ·have hp:2^u≤32:=Nat.pow_le_pow_right (n:=2) (by decide) (by omega:u≤5)
  have hm:=aj.rZ u
  refine ag.px (B:=B) (.cons (.cons (.cons (.cons .here)))) (OA (by omega) B) ?_
  rintro r N ⟨sm,rfl,hsm,_⟩
  refine AB.mk rfl ?_
  refine hsm.ld (i:=0) (n:=(aj.mask u:Int)) rfl zS ?_
  refine⟨fun vs H=>∃i:Nat,vs=[.int .i64 (i:Int)]∧i≤aj.wN n∧H=qD pR bw b3 b1 n u i s ws c (N++B),fun vs _=>aj.wN n-bg vs 0,JE.mk ⟨0,rfl,Nat.zero_le _,rfl⟩,?_⟩
  rintro w H ⟨i,hv,hi,rfl⟩ gs
  simp only[List.cons.injEq,and_true]at hv
  subst hv
  by_cases hlt:i<aj.wN n
  ·have Mp:∀J:List Value→Hp→Prop,J [] (qD pR bw b3 b1 n u (i+1) s ws c (N++B))→JE J [] ((pR,.cells (List.toArray [.int .i64 (n:Int),.slice (some ⟨bw,0,none⟩) (aj.wN n) (aj.wN n)]) 57 (0,0))::
    (bw,.cells (aF .u64 ((iw ((List.range (aj.wN n)).map fun k=>if k<i then aj.dA ws u c k&&&aj.cj n else 0)).set i ((aj.dA ws u c i:Nat):Int))) 50 (0,0))::(b3,.cells #[.int .i64 0,.slice none 0 0] 57 (0,0))::(b1,.cells (Value.cells (.agg #[.int .i64 (n:Int),s])) 57 (0,0))::(N++B)):=fun J hJ=>by
    rw[M0 hf hu hlt];exact JE.mk hJ
   unfold qD
   refine aa.mk (Ld.mk zM rfl ?_)
   refine hs.aS ?_
   rw[an,hf.len]
   refine ae.dL (Br.gI hlt ?_)
   intro J hJ
   have JB:=hgl i hlt
   have ff:=Mp J (hJ _ fun gs=>by
    refine ae.aH (b:=1) (by simp[az];omega) ?_
    exact ay.mk ⟨i+1,rfl,by omega,rfl⟩ (by simp[bg];omega))
   cases c
   ·refine Br.no ?_
    refine aa.mk (Ld.mk zM rfl ?_)
    refine hs.ld (cy (YV i hlt)) zS ?_
    refine ae.Aa (by simpa[az]using JB) (by simpa[az]using hm) ?_
    refine DR.self ?_
    refine aa.mk (Ld.mk zM rfl ?_)
    refine ae.o5 (a:=1) ?_
    rw[Nat.one_shiftLeft,Nat.mod_eq_of_lt (by omega)]
    refine ae.o5 ?_
    have:=jI (ws.getD i 0) (aj.mask u)
    refine ae.FB (by simp only[az];omega) (by simp only[az];omega) ?_
    refine ah.nat hlt ?_
    refine St.ints (l:=iw _) (by exact .tail (.head _)) (by simpa using hlt) ?_
    have e:aj.dA ws u false i=lp (ws.getD i 0) (aj.mask u)|||(lp (ws.getD i 0) (aj.mask u)<<<2^u)%18446744073709551616:=by unfold aj.dA;rw[if_neg h6];rfl
    rw[←e];exact ff
   ·refine Br.yes ?_
    refine aa.mk (Ld.mk zM rfl ?_)
    refine hs.ld (cy (YV i hlt)) zS ?_
    refine ae.jg (by simpa[az]using JB) (by simpa[az]using hm) ?_
    have h1:ws.getD i 0&&&aj.mask u≤ws.getD i 0:=Nat.and_le_left
    refine DR.self ?_
    refine aa.mk (Ld.mk zM rfl ?_)
    refine ae.o5 (a:=1) ?_
    rw[Nat.one_shiftLeft,Nat.mod_eq_of_lt (by omega)]
    refine ae.jJ (by simp only[az];omega) ?_
    have h2:=Nat.shiftRight_le (ws.getD i 0&&&aj.mask u) (2^u)
    refine ae.FB (by simp only[az];omega) (by simp only[az];omega) ?_
    refine ah.nat hlt ?_
    refine St.ints (l:=iw _) (by exact .tail (.head _)) (by simpa using hlt) ?_
    have e:aj.dA ws u true i=(ws.getD i 0&&&aj.mask u)|||(ws.getD i 0&&&aj.mask u)>>>2^u:=by unfold aj.dA;rw[if_neg h6];rfl
    rw[←e];exact ff
  ·have:i=aj.wN n:=by omega
   subst this
   have:=Rv N
   unfold qD at this⊢
   refine aa.mk (Ld.mk zM rfl ?_)
   refine hs.aS ?_
   rw[an,hf.len]
   exact ae.dL (Br.cq hlt this)
theorem tO{B:Hp}{v:Value}{n u:Nat}{ws:List Nat}(ht:jS B v ⟨n,ws⟩)(hf:aj.cw n ws)(hu:u<n):
  Rd Tryz.prog 161 #[v,.int .i64 (u:Int)] B (· =.bool (aj.dep n ws u)):=by
 obtain⟨s,rfl,hw⟩:=ht
 intro g
 refine Ee (R:=aE _) ?_
 unfold L161
 intro b1 _
 refine DR.self ?_
 refine aA.whole (r:=[.int .i64 (n:Int),s]) (by exact .head _) rfl (aA.whole (r:=[.int .i64 (n:Int),s]) (by exact .head _) rfl ?_)
 refine ag.px (.cons .here) (m0 (v:=.agg (List.toArray [.int .i64 (n:Int),s])) (n:=n) (ws:=ws) ⟨s,rfl,hw⟩ hf hu) ?_
 rintro v N h1
 refine⟨.cons .right,?_⟩
 refine ag.px (B:=N++B) (.cons .here) (m0 (v:=.agg (List.toArray [.int .i64 (n:Int),s])) (n:=n) (ws:=ws) ⟨s,rfl,hw.mono zS⟩ hf hu) ?_
 rintro v N' h2
 refine⟨.cons (.bQ .right),?_⟩
 have f1:=fM (aj.cF (v:=u) (ws:=ws) (b:=false) hf.lD)
 refine ag.rd (B:=N'++(N++B)) (.cons .here) (kM (h1.mono zS) h2 (by simp only;omega)) ?_
 rintro v rfl
 refine⟨.cons (.bQ .right),Un.not ?_⟩
 refine bL.mk (.skip (.bQ .right)) ?_
 congr 1
 simp[aj.dep]
def gn(n:Nat)(L:List (List Nat)):List Tb:=L.map fun ws=>⟨n,ws⟩
theorem aW(n:Nat)(L:List (List Nat)):(gn n L).length=L.length:=by simp[gn]
theorem kL{n:Nat}{L:List (List Nat)}{i:Nat}{ws:List Nat}(h:L[i]? =some ws):(gn n L)[i]? =some ⟨n,ws⟩:=by simp[gn,h]
theorem jX(n:Nat)(L:List (List Nat))(ws:List Nat):gn n L++[⟨n,ws⟩]=gn n (L++[ws]):=by simp[gn]
theorem LD{B:Hp}{v1 v2:Value}{n:Nat}{L:List (List Nat)}{ws:List Nat}(hL:cV B v1 (gn n L))(hf:∀t∈L,aj.cw n t)(ht:jS B v2 ⟨n,ws⟩)(PC:ws.length≤4294967296)(bD:L.length<4611686018427387904):
  Rd Tryz.prog 260 #[v1,v2] B (· =.bool (decide (ws∈L))):=by
 obtain⟨s,rfl,hw⟩:=ht
 intro g
 refine CV (R:=aE _) ?_
 unfold L260
 intro b1 _
 refine hL.aS ?_
 rw[aW]
 refine⟨fun vs H=>∃(k:Nat) (N:Hp),vs=[.int .i64 (k:Int)]∧k≤L.length∧H=N++((b1,.cells (Value.cells (.agg #[.int .i64 (n:Int),s])) 57 (0,0))::B)∧ws∉L.take k,fun vs _=>L.length-bg vs 0,JE.mk ⟨0,[],rfl,by omega,rfl,by simp⟩,?_⟩
 rintro w H ⟨k,N,hv,hk,rfl,hno⟩ gs
 simp only[List.cons.injEq,and_true]at hv
 subst hv
 refine ae.dL (Br.dec (fun hlt=>?_) (fun hlt=>?_))
 ·have hg:L[k]? =some L[k]:=List.getElem?_eq_getElem hlt
  have jx:=hf L[k] (List.getElem_mem hlt)
  refine hL.ld (kL hg) zS fun s' dr=>?_
  have hone:=aB dr
  intro b2 _
  refine St.whole (r:=[.int .i64 (n:Int),s']) (by exact .head _) rfl rfl (by simpa[Value.oneCell']using hone) ?_
  refine aA.whole (r:=[.int .i64 (n:Int),s]) zM rfl ?_
  refine aA.whole (r:=[.int .i64 (n:Int),s']) (by exact .head _) rfl ?_
  refine ag.rd .here (kM (v1:=.agg (List.toArray [.int .i64 (n:Int),s])) (v2:=.agg (List.toArray [.int .i64 (n:Int),s'])) (a:=⟨n,ws⟩) (b:=⟨n,L[k]⟩) ⟨s,rfl,hw.mono zS⟩ ⟨s',rfl,dr.mono zS⟩ ?_) ?_
  ·simp only;omega
  rintro v rfl
  simp only[Tb.mk.injEq,true_and]
  refine Br.dec (fun h=>?_) (fun h=>?_)
  ·exact bL.mk (.skip (.bQ .tail)) (by rw[decide_eq_true];rw[h];exact List.getElem_mem hlt)
  ·refine ae.aH (b:=1) (by simp[az];omega) ?_
   refine ay.mk ⟨k+1,_::N,rfl,by omega,rfl,?_⟩ (by simp[bg];omega)
   rw[List.take_succ_eq_append_getElem hlt,List.mem_append,List.mem_singleton]
   rintro(h1|h1)
   ·exact hno h1
   ·exact h h1
 ·have:k=L.length:=by omega
  subst this
  rw[List.take_length]at hno
  exact bL.mk (.bQ .tail) (by rw[decide_eq_false hno])
def Iw(n:Nat)(B:Hp)(v:Value)(l:List (List Nat))(H:Hp):Prop:=∃C N,H=C++(N++B)∧fG 57 v (gn n l) C (N++B)
theorem Iw.nil(n:Nat)(B:Hp):Iw n B (.slice none 0 0) [] B:=⟨[],[],rfl,fG.nil⟩
theorem Iw.done{n:Nat}{B:Hp}{v:Value}{l:List (List Nat)}{H:Hp}(h:Iw n B v l H):aV B H∧cV H v (gn n l):=by
 obtain⟨C,N,rfl,ho⟩:=h
 exact⟨.app (.app (.refl _)),ho.wM (fun x hx=>List.mem_append_left _ hx) (fun x hx=>List.mem_append_right _ hx)⟩
theorem aj.yq{L:List (List Nat)}{k:Nat}(hlt:k<L.length):aj.dO (L.take (k+1))=aj.add (aj.dO (L.take k)) L[k]:=by
 rw[List.take_succ_eq_append_getElem hlt,aj.dO,List.foldl_append];rfl
theorem qa(L:List (List Nat)):(aj.dO L).length≤L.length:=by
 have:=aj.dS (fun a l=>aj.add l a) 1 (fun a l=>aj.fT l a) L []
 simpa[aj.dO]using this
theorem sQ{B:Hp}{v:Value}{n:Nat}{L:List (List Nat)}(hL:cV B v (gn n L))(hf:∀t∈L,aj.cw n t)(bD:L.length<4398046511103):
  Px Tryz.prog 228 #[v] B (fun r H=>cV H r (gn n (aj.dO L))):=by
 intro g
 refine Dn (R:=aE _) ?_
 unfold L228
 refine hL.aS ?_
 rw[aW]
 refine⟨fun vs H=>∃(k:Nat) (v:Value),vs=[v,.int .i64 (k:Int)]∧k≤L.length∧Iw n B v (aj.dO (L.take k)) H,fun vs _=>L.length-bg vs 1,JE.mk ⟨0,_,rfl,by omega,Iw.nil n B⟩,?_⟩
 rintro w6 w7 H ⟨k,v,hv,hk,hst⟩ gs
 simp only[List.cons.injEq,and_true]at hv
 obtain⟨rfl,rfl⟩:=hv
 refine ae.dL (Br.dec (fun hlt=>?_) (fun hlt=>?_))
 ·intro J hJ
  have x8:∀v H,Iw n B v (aj.dO (L.take (k+1))) H→J [v] H:=fun v H h=>hJ _ _ fun gs=>by
   refine ae.aH (b:=1) (by simp[az];omega) ?_
   exact ay.mk ⟨k+1,v,rfl,by omega,h⟩ (by simp[bg];omega)
  obtain⟨C,N,rfl,ho⟩:=hst
  have hg:L[k]? =some L[k]:=List.getElem?_eq_getElem hlt
  have jx:=hf L[k] (List.getElem_mem hlt)
  have xk:=qa (L.take k)
  simp only[List.length_take]at xk
  refine hL.ld (kL hg) (fun x hx=>List.mem_append_right _ (List.mem_append_right _ hx)) fun s' dr=>?_
  have hone:=aB dr
  intro b2 _
  refine St.whole (r:=[.int .i64 (n:Int),s']) (by exact .head _) rfl rfl (by simpa[Value.oneCell']using hone) ?_
  refine aA.whole (r:=[.int .i64 (n:Int),s']) (by exact .head _) rfl ?_
  refine ag.rd (B:=C++(N++B)) (.cons .here) (LD (v2:=.agg (List.toArray [.int .i64 (n:Int),s'])) (n:=n) (L:=aj.dO (L.take k)) (ws:=L[k]) (ho.wM (fun x hx=>List.mem_append_left _ hx) (fun x hx=>List.mem_append_right _ hx)) (fun t ht=>hf t (List.mem_of_mem_take (aj.cU.1 ht))) ⟨s',rfl,dr.mono zS⟩ (fM jx) (by omega)) ?_
  rintro v rfl
  refine Un.not ?_
  rw[aj.yq hlt,aj.add]at x8
  by_cases hin:L[k]∈aj.dO (L.take k)
  ·rw[decide_eq_true hin]
   rw[if_pos hin]at x8
   exact Br.no (JE.of .tail (x8 _ _ ⟨C,N,rfl,ho⟩))
  ·rw[decide_eq_false hin]
   rw[if_neg hin]at x8
   refine Br.yes ?_
   refine aA.whole (r:=[.int .i64 (n:Int),s']) (by exact .head _) rfl ?_
   refine eU fun xb=>?_
   refine ho.app (A:=[_,_]) (t:=⟨n,L[k]⟩) (s:=s') (by exact .head _) (dr.mono zS) (by rw[aW];omega) fun v' C' bT=>?_
   rw[jX]at bT
   exact JE.of (.skip .tail) (x8 _ _ ⟨C',N,rfl,bT⟩)
 ·have:k=L.length:=by omega
  subst this
  rw[List.take_length]at hst
  obtain⟨h1,h2⟩:=hst.done
  exact oG.mk h1 h2
theorem Ba{n u k:Nat}{L:List (List Nat)}(hlt:k<L.length):aj.nodes n (L.take (k+1)) u=if aj.dep n L[k] u then aj.nodes n (L.take k) u++[L[k]]else aj.nodes n (L.take k) u:=by
 rw[List.take_succ_eq_append_getElem hlt,aj.nodes,List.filter_append]
 cases h:aj.dep n L[k] u<;>simp[aj.nodes,h]
theorem G4{B:Hp}{v:Value}{n u:Nat}{L:List (List Nat)}(hL:cV B v (gn n L))(hf:∀t∈L,aj.cw n t)(hu:u<n)(bD:L.length<4398046511103):
  Px Tryz.prog 258 #[v,.int .i64 (u:Int)] B (fun r H=>cV H r (gn n (aj.nodes n L u))):=by
 intro g
 refine CY (R:=aE _) ?_
 unfold L258
 refine hL.aS ?_
 rw[aW]
 refine⟨fun vs H=>∃(k:Nat) (v:Value),vs=[v,.int .i64 (k:Int)]∧k≤L.length∧Iw n B v (aj.nodes n (L.take k) u) H,fun vs _=>L.length-bg vs 1,JE.mk ⟨0,_,rfl,by omega,Iw.nil n B⟩,?_⟩
 rintro w6 w7 H ⟨k,v,hv,hk,hst⟩ gs
 simp only[List.cons.injEq,and_true]at hv
 obtain⟨rfl,rfl⟩:=hv
 refine ae.dL (Br.dec (fun hlt=>?_) (fun hlt=>?_))
 ·intro J hJ
  have x8:∀v H,Iw n B v (aj.nodes n (L.take (k+1)) u) H→J [v] H:=fun v H h=>hJ _ _ fun gs=>by
   refine ae.aH (b:=1) (by simp[az];omega) ?_
   exact ay.mk ⟨k+1,v,rfl,by omega,h⟩ (by simp[bg];omega)
  obtain⟨C,N,rfl,ho⟩:=hst
  have hg:L[k]? =some L[k]:=List.getElem?_eq_getElem hlt
  have jx:=hf L[k] (List.getElem_mem hlt)
  have xk:(aj.nodes n (L.take k) u).length≤(L.take k).length:=List.length_filter_le _ _
  simp only[List.length_take]at xk
  refine hL.ld (kL hg) (fun x hx=>List.mem_append_right _ (List.mem_append_right _ hx)) fun s' dr=>?_
  have hone:=aB dr
  intro b2 _
  refine St.whole (r:=[.int .i64 (n:Int),s']) (by exact .head _) rfl rfl (by simpa[Value.oneCell']using hone) ?_
  refine aA.whole (r:=[.int .i64 (n:Int),s']) (by exact .head _) rfl ?_
  refine ag.rd (B:=C++(N++B)) (.cons .here) (tO (v:=.agg (List.toArray [.int .i64 (n:Int),s'])) (n:=n) (ws:=L[k]) ⟨s',rfl,dr.mono zS⟩ jx hu) ?_
  rintro v rfl
  rw[Ba hlt]at x8
  cases hd:aj.dep n L[k] u<;>rw[hd]at x8<;>simp only[Bool.false_eq_true,if_false,if_true]at x8
  ·exact Br.no (JE.of .tail (x8 _ _ ⟨C,N,rfl,ho⟩))
  ·refine Br.yes ?_
   refine aA.whole (r:=[.int .i64 (n:Int),s']) (by exact .head _) rfl ?_
   refine eU fun xb=>?_
   refine ho.app (A:=[_,_]) (t:=⟨n,L[k]⟩) (s:=s') (by exact .head _) (dr.mono zS) (by rw[aW];omega) fun v' C' bT=>?_
   rw[jX]at bT
   exact JE.of (.skip .tail) (x8 _ _ ⟨C',N,rfl,bT⟩)
 ·have:k=L.length:=by omega
  subst this
  rw[List.take_length]at hst
  obtain⟨h1,h2⟩:=hst.done
  exact oG.mk h1 h2
theorem BW{n u k:Nat}{L:List (List Nat)}(hlt:k<L.length):aj.given n (L.take (k+1)) u=aj.add (aj.add (aj.given n (L.take k) u) (aj.dV n L[k] u false)) (aj.dV n L[k] u true):=by
 rw[List.take_succ_eq_append_getElem hlt,aj.given,List.foldl_append];rfl
theorem zz(n u:Nat)(L:List (List Nat)):(aj.given n L u).length≤2*L.length:=by
 have h:=aj.dS (fun t acc=>aj.add (aj.add acc (aj.dV n t u false)) (aj.dV n t u true)) 2 (fun a l=>by have h1:=aj.fT (aj.add l (aj.dV n a u false)) (aj.dV n a u true);have h2:=aj.fT l (aj.dV n a u false);omega) L []
 simpa[aj.given]using h
theorem G5{B:Hp}{v:Value}{n u:Nat}{L:List (List Nat)}(hL:cV B v (gn n L))(hf:∀t∈L,aj.cw n t)(hn:n≤16)(hu:u<n)(bD:L.length<2199023255551):
  Px Tryz.prog 259 #[v,.int .i64 (u:Int)] B (fun r H=>cV H r (gn n (aj.given n L u))):=by
 intro g
 refine CX (R:=aE _) ?_
 unfold L259
 refine hL.aS ?_
 rw[aW]
 refine⟨fun vs H=>∃(k:Nat) (v:Value),vs=[v,.int .i64 (k:Int)]∧k≤L.length∧Iw n B v (aj.given n (L.take k) u) H,fun vs _=>L.length-bg vs 1,JE.mk ⟨0,_,rfl,by omega,Iw.nil n B⟩,?_⟩
 rintro w6 w7 H ⟨k,v,hv,hk,hst⟩ gs
 simp only[List.cons.injEq,and_true]at hv
 obtain⟨rfl,rfl⟩:=hv
 refine ae.dL (Br.dec (fun hlt=>?_) (fun hlt=>?_))
 ·intro J hJ
  have x8:∀v H,Iw n B v (aj.given n (L.take (k+1)) u) H→J [v] H:=fun v H h=>hJ _ _ fun gs=>by
   refine ae.aH (b:=1) (by simp[az];omega) ?_
   exact ay.mk ⟨k+1,v,rfl,by omega,h⟩ (by simp[bg];omega)
  obtain⟨C,N,rfl,ho⟩:=hst
  have hg:L[k]? =some L[k]:=List.getElem?_eq_getElem hlt
  have jx:=hf L[k] (List.getElem_mem hlt)
  have xk:=zz n u (L.take k)
  simp only[List.length_take]at xk
  have fg:∀t∈aj.given n (L.take k) u,aj.cw n t:=fun t ht=>by obtain⟨_,_,_,rfl⟩:=aj.bU.1 ht;exact aj.cF hn
  have f1:=aj.cF (v:=u) (ws:=L[k]) (b:=false) hn
  have f2:=aj.cF (v:=u) (ws:=L[k]) (b:=true) hn
  rw[BW hlt]at x8
  refine hL.ld (kL hg) (fun x hx=>List.mem_append_right _ (List.mem_append_right _ hx)) fun s' dr=>?_
  have hone:=aB dr
  intro b2 _
  refine St.whole (r:=[.int .i64 (n:Int),s']) (by exact .head _) rfl rfl (by simpa[Value.oneCell']using hone) ?_
  refine DR.self ?_
  refine aA.whole (r:=[.int .i64 (n:Int),s']) (by exact .head _) rfl (aA.whole (r:=[.int .i64 (n:Int),s']) (by exact .head _) rfl ?_)
  intro F
  refine ag.px (B:=N++B) (.cons (.app .here)) (m0 (v:=.agg (List.toArray [.int .i64 (n:Int),s'])) (n:=n) (ws:=L[k]) ⟨s',rfl,dr.mono zS⟩ jx hu) ?_
  rintro v N1 ⟨s1,rfl,jr⟩
  refine⟨.cons (.cJ .right _),?_⟩
  intro F
  refine ag.px (B:=N1++(N++B)) (.cons (.app .here)) (m0 (v:=.agg (List.toArray [.int .i64 (n:Int),s'])) (n:=n) (ws:=L[k]) ⟨s',rfl,dr.mono zS⟩ jx hu) ?_
  rintro v N2 ⟨s2,rfl,mr⟩
  refine⟨.cons (.cJ (.bQ .right) _),?_⟩
  have tq:=aB jr
  have tp:=aB mr
  intro Ax _ JL _ F
  refine St.whole (r:=[.int .i64 (n:Int),s1]) (by exact .tail (.head _)) rfl rfl (by simpa[Value.oneCell']using tq) ?_
  refine⟨.skip (.skip (.cons (.cJ (.bQ .right) _))),?_⟩
  intro F
  refine St.whole (r:=[.int .i64 (n:Int),s2]) (by exact .head _) rfl rfl (by simpa[Value.oneCell']using tp) ?_
  have nr:=ho.mono (B':=N2++(N1++(N++B))) zS
  intro J2 Au
  have Xl:∀v C l,fG 57 v (gn n l) C (N2++(N1++(N++B)))→l=aj.add (aj.given n (L.take k) u) (aj.dV n L[k] u false)→
    J2 [v] ((JL,.cells (List.toArray [.int .i64 (n:Int),s2]) 57 (0,0))::(C++(N2++(N1++(N++B))))):=fun v C l ho hl=>Au _ _ fun gs=>by
   have BB:=aj.fT (aj.given n (L.take k) u) (aj.dV n L[k] u false)
   rw[←hl]at BB
   have fl:∀t∈l,aj.cw n t:=fun t ht=>by rw[hl]at ht;rcases aj.rY.1 ht with h|rfl;exact fg t h;exact f1
   refine aA.whole (r:=[.int .i64 (n:Int),s2]) (by exact .head _) rfl ?_
   refine ag.rd (B:=C++(N2++(N1++(N++B)))) (.cons .here) (LD (v2:=.agg (List.toArray [.int .i64 (n:Int),s2])) (n:=n) (L:=l) (ws:=aj.dV n L[k] u true) (ho.wM (fun x hx=>List.mem_append_left _ hx) (fun x hx=>List.mem_append_right _ hx)) fl ⟨s2,rfl,mr.mono zS⟩ (fM f2) (by omega)) ?_
   rintro r rfl
   refine Un.not ?_
   rw[←hl,aj.add]at x8
   by_cases hin:aj.dV n L[k] u true∈l
   ·rw[decide_eq_true hin]
    rw[if_pos hin]at x8
    refine Br.no (JE.of .tail (x8 _ _ ⟨C,N2++(N1++N),?_,?_⟩))
    ·rw[List.append_assoc,List.append_assoc]
    ·rw[List.append_assoc,List.append_assoc];exact ho
   ·rw[decide_eq_false hin]
    rw[if_neg hin]at x8
    refine Br.yes ?_
    refine aA.whole (r:=[.int .i64 (n:Int),s2]) (by exact .head _) rfl ?_
    refine eU fun xb=>?_
    refine ho.app (A:=[_,_]) (t:=⟨n,aj.dV n L[k] u true⟩) (s:=s2) (by exact .head _) mr (by rw[aW];omega) fun v' C' bT=>?_
    rw[jX]at bT
    refine JE.of (.skip .tail) (x8 _ _ ⟨C',N2++(N1++N),?_,?_⟩)
    ·rw[List.append_assoc,List.append_assoc];rfl
    ·rw[List.append_assoc,List.append_assoc];exact bT
  refine aA.whole (r:=[.int .i64 (n:Int),s1]) (by exact .tail _ (.head _)) rfl ?_
  refine ag.rd (B:=C++(N2++(N1++(N++B)))) (.cons (.cons (.cons .here))) (LD (v2:=.agg (List.toArray [.int .i64 (n:Int),s1])) (n:=n) (L:=aj.given n (L.take k) u) (ws:=aj.dV n L[k] u false) (nr.wM (fun x hx=>List.mem_append_left _ hx) (fun x hx=>List.mem_append_right _ hx)) fg ⟨s1,rfl,jr.mono zS⟩ (fM f1) (by omega)) ?_
  rintro r rfl
  refine Un.not ?_
  by_cases hin:aj.dV n L[k] u false∈aj.given n (L.take k) u
  ·rw[decide_eq_true hin]
   exact Br.no (JE.of (.cons (.skip .tail)) (Xl _ C _ nr (by rw[aj.add,if_pos hin])))
  ·rw[decide_eq_false hin]
   refine Br.yes ?_
   refine aA.whole (r:=[.int .i64 (n:Int),s1]) (by exact .tail _ (.head _)) rfl ?_
   refine eU fun xb=>?_
   refine nr.app (A:=[_,_,_,_]) (t:=⟨n,aj.dV n L[k] u false⟩) (s:=s1) (by exact .head _) (jr.mono zS) (by rw[aW];omega) fun v' C' bT=>?_
   rw[jX]at bT
   exact JE.of (.skip (.cons (.skip .tail))) (Xl _ C' _ bT (by rw[aj.add,if_neg hin]))
 ·have:k=L.length:=by omega
  subst this
  rw[List.take_length]at hst
  obtain⟨h1,h2⟩:=hst.done
  exact oG.mk h1 h2
end Go.Proofs
namespace bc
open aj
theorem eA{x u v:Nat}{b c:Bool}(h:u≠v):aI (aI x u b) v c=aI (aI x v c) u b:=by
 apply Nat.eq_of_testBit_eq;intro k
 rw[aq,aq,aq,aq]
 by_cases e1:k=u<;>by_cases e2:k=v
 ·exact absurd (e1.symm.trans e2) h
 ·simp[e1,h]
 ·simp[e2,Ne.symm h]
 ·simp[e1,e2]
structure Nd where
 v:Nat
 lo:Nat
 hi:Nat
deriving DecidableEq
abbrev gC:=Nat→Option Nd
abbrev Fn:=Nat→Bool
def live(N:gC)(r:Nat):Prop:=r<2∨∃d,N r=some d
def dep(n:Nat)(av:Nat→Nat)(N:gC)(r:Nat):Nat:=match N r with|some d=>av d.v|none=>n
structure WF(n:Nat)(av:Nat→Nat)(N:gC):Prop where
 two:∀{r d},N r=some d→2≤r
 var:∀{r d},N r=some d→d.v<n
 ne:∀{r d},N r=some d→d.lo≠d.hi
 lo:∀{r d},N r=some d→live N d.lo∧av d.v<dep n av N d.lo
 hi:∀{r d},N r=some d→live N d.hi∧av d.v<dep n av N d.hi
 uq:∀{r r' d},N r=some d→N r'=some d→r=r'
structure uO(n:Nat)(av:Nat→Nat):Prop where
 lt:∀v,v<n→av v<n
 inj:∀u v,u<n→v<n→av u=av v→u=v
structure Interp(N:gC)(S:Nat→Fn):Prop where
 zero:∀x,S 0 x=false
 one:∀x,S 1 x=true
 node:∀{r d},N r=some d→∀x,S r x=if x.testBit d.v then S d.hi x else S d.lo x
variable {n:Nat} {av:Nat→Nat} {N:gC} {S:Nat→Fn}
theorem cO{r:Nat}(h:N r=none):dep n av N r=n:=by unfold dep;rw[h]
theorem aM{r:Nat}{d:Nd}(h:N r=some d):dep n av N r=av d.v:=by unfold dep;rw[h]
theorem WF.iq(h:WF n av N)(hl:uO n av)(r:Nat):dep n av N r≤n:=by
 cases e:N r with
 |none=>rw[cO e];exact Nat.le_refl _
 |some d=>rw[aM e];exact Nat.le_of_lt (hl.lt _ (h.var e))
theorem WF.const(h:WF n av N){r:Nat}(hr:r<2):N r=none:=by
 cases e:N r with
 |none=>rfl
 |some d=>have:=h.two e;omega
theorem WF.indep(h:WF n av N)(hl:uO n av)(hi:Interp N S):∀(k r:Nat),n-dep n av N r≤k→live N r→∀v,v<n→av v<dep n av N r→∀x b,S r (aI x v b)=S r x:=by
 intro k
 induction k with
 |zero=>
  intro r hk hr v hv hlt x b
  rcases hr with hr|⟨d,hd⟩
  ·have:r=0∨r=1:=by omega
   rcases this with rfl|rfl
   ·rw[hi.zero,hi.zero]
   ·rw[hi.one,hi.one]
  ·have h1:=hl.lt _ (h.var hd)
   rw[aM hd]at hk;omega
 |succ k ih=>
  intro r hk hr v hv hlt x b
  rcases hr with hr|⟨d,hd⟩
  ·have:r=0∨r=1:=by omega
   rcases this with rfl|rfl
   ·rw[hi.zero,hi.zero]
   ·rw[hi.one,hi.one]
  ·rw[aM hd]at hk hlt
   have h1:=hl.lt _ (h.var hd)
   obtain⟨l1,l2⟩:=h.lo hd
   obtain⟨m1,m2⟩:=h.hi hd
   have hne:d.v≠v:=fun e=>by rw[e]at hlt;omega
   rw[hi.node hd,hi.node hd,aq,if_neg hne,ih d.lo (by omega) l1 v hv (by omega),ih d.hi (by omega) m1 v hv (by omega)]
theorem WF.df(h:WF n av N)(hl:uO n av)(hi:Interp N S){r:Nat}(hr:live N r){v:Nat}(hv:v<n)(hlt:av v<dep n av N r)(x:Nat)(b:Bool):S r (aI x v b)=S r x:=
 h.indep hl hi _ r (Nat.le_refl _) hr v hv hlt x b
theorem WF.child(h:WF n av N)(hl:uO n av)(hi:Interp N S){r:Nat}{d:Nd}(hd:N r=some d)(x:Nat)(b:Bool):S r (aI x d.v b)=S (if b then d.hi else d.lo) x:=by
 obtain⟨l1,l2⟩:=h.lo hd
 obtain⟨m1,m2⟩:=h.hi hd
 rw[hi.node hd,aq,if_pos rfl]
 cases b
 ·simp only[Bool.false_eq_true,if_false];exact h.df hl hi l1 (h.var hd) l2 x false
 ·simp only[if_true];exact h.df hl hi m1 (h.var hd) m2 x true
theorem WF.canon(h:WF n av N)(hl:uO n av)(hi:Interp N S):∀(k r r':Nat),(n-dep n av N r)+(n-dep n av N r')≤k→live N r→live N r'→(∀x,S r x=S r' x)→r=r':=by
 intro k
 induction k with
 |zero=>
  intro r r' hk hr hr' he
  have hc:∀{r},n-dep n av N r=0→live N r→r<2:=by
   intro r hk hr
   rcases hr with hr|⟨d,hd⟩
   ·exact hr
   ·have h1:=hl.lt _ (h.var hd)
    rw[aM hd]at hk;omega
  have h1:=hc (by omega) hr
  have h2:=hc (by omega) hr'
  have e0:=he 0
  have:r=0∨r=1:=by omega
  have h3:r'=0∨r'=1:=by omega
  rcases this with rfl|rfl<;>rcases h3 with rfl|rfl<;>simp[hi.zero,hi.one]at e0<;>rfl
 |succ k ih=>
  have Nx:∀r r',(n-dep n av N r)+(n-dep n av N r')≤k+1→live N r'→(∀x,S r x=S r' x)→∀d,N r=some d→av d.v<dep n av N r'→False:=by
   intro r r' hk hr' he d hd hlt
   obtain⟨l1,l2⟩:=h.lo hd
   obtain⟨m1,m2⟩:=h.hi hd
   have hv:=h.var hd
   have h1:=hl.lt _ hv
   have d1:=h.iq hl d.lo
   have d2:=h.iq hl d.hi
   have d3:=h.iq hl r'
   rw[aM hd]at hk
   have a1:d.lo=r':=ih d.lo r' (by omega) l1 hr' fun x=>by
    have:=h.child hl hi hd x false
    simp only[Bool.false_eq_true,if_false]at this
    rw[←this,he,h.df hl hi hr' hv hlt]
   have a2:d.hi=r':=ih d.hi r' (by omega) m1 hr' fun x=>by
    have:=h.child hl hi hd x true
    simp only[if_true]at this
    rw[←this,he,h.df hl hi hr' hv hlt]
   exact h.ne hd (a1.trans a2.symm)
  intro r r' hk hr hr' he
  rcases hr with hr|⟨d,hd⟩
  ·rcases hr' with hr'|⟨d',ei⟩
   ·have e0:=he 0
    have:r=0∨r=1:=by omega
    have h3:r'=0∨r'=1:=by omega
    rcases this with rfl|rfl<;>rcases h3 with rfl|rfl<;>simp[hi.zero,hi.one]at e0<;>rfl
   ·refine(Nx r' r (by omega) (.inl hr) (fun x=>(he x).symm) d' ei ?_).elim
    rw[cO (h.const hr)];exact hl.lt _ (h.var ei)
  ·rcases Nat.lt_trichotomy (av d.v) (dep n av N r')with hlt|heq|hgt
   ·exact(Nx r r' hk hr' he d hd hlt).elim
   ·rcases hr' with hr'|⟨d',ei⟩
    ·rw[cO (h.const hr')]at heq
     have:=hl.lt _ (h.var hd);omega
    ·rw[aM ei]at heq
     have hv:=hl.inj _ _ (h.var hd) (h.var ei) heq
     obtain⟨l1,l2⟩:=h.lo hd
     obtain⟨m1,m2⟩:=h.hi hd
     obtain⟨l1',l2'⟩:=h.lo ei
     obtain⟨m1',m2'⟩:=h.hi ei
     have h1:=hl.lt _ (h.var hd)
     have d1:=h.iq hl d.lo
     have d2:=h.iq hl d.hi
     have d1':=h.iq hl d'.lo
     have d2':=h.iq hl d'.hi
     rw[aM hd,aM ei]at hk
     have c1:=fun x=>h.child hl hi hd x false
     have c2:=fun x=>h.child hl hi hd x true
     have c1':=fun x=>h.child hl hi ei x false
     have c2':=fun x=>h.child hl hi ei x true
     simp only[Bool.false_eq_true,if_false,if_true]at c1 c2 c1' c2'
     have a1:d.lo=d'.lo:=ih d.lo d'.lo (by omega) l1 l1' fun x=>by rw[←c1,←c1',he,hv]
     have a2:d.hi=d'.hi:=ih d.hi d'.hi (by omega) m1 m1' fun x=>by rw[←c2,←c2',he,hv]
     have:d=d':=by cases d;cases d';simp_all
     subst this
     exact h.uq hd ei
   ·rcases hr' with hr'|⟨d',ei⟩
    ·rw[cO (h.const hr')]at hgt
     have:=hl.lt _ (h.var hd);omega
    ·rw[aM ei]at hgt
     refine(Nx r' r (by omega) (.inr ⟨d,hd⟩) (fun x=>(he x).symm) d' ei ?_).elim
     rw[aM hd];exact hgt
theorem WF.same(h:WF n av N)(hl:uO n av)(hi:Interp N S){r r':Nat}(hr:live N r)(hr':live N r')(he:∀x,S r x=S r' x):r=r':=h.canon hl hi _ r r' (Nat.le_refl _) hr hr' he
end bc
namespace bc
open aj
variable {n:Nat} {av:Nat→Nat} {N:gC} {S:Nat→Fn} {ord:List Nat}
def gL(g:Fn)(v:Nat):Prop:=∃x,g (aI x v false)≠g (aI x v true)
def fs(ord:List Nat)(F:Fn→Prop):Nat→Fn→Prop
 |0,g=>F g
 |l+1,g=>∃f,fs ord F l f∧∃b,g=fun x=>f (aI x (ord.getD l 0) b)
def cg(n:Nat)(ord:List Nat)(F:Fn→Prop)(g:Fn):Prop:=∃l,l<n∧fs ord F l g∧gL g (ord.getD l 0)
structure Ord(n:Nat)(av:Nat→Nat)(ord:List Nat):Prop where
 len:ord.length=n
 bu:∀l,l<n→ord.getD l 0<n∧av (ord.getD l 0)=l
theorem Ord.of(h:Ord n av ord)(hl:uO n av){v:Nat}(hv:v<n):ord.getD (av v) 0=v:=by
 obtain⟨h1,h2⟩:=h.bu _ (hl.lt v hv)
 exact hl.inj _ _ h1 hv h2
def Fs(S:Nat→Fn)(R:Nat→Prop)(g:Fn):Prop:=∃r,R r∧g=S r
def A(N:gC)(av:Nat→Nat)(n:Nat)(R:Nat→Prop):Nat→Nat→Prop
 |0,r=>R r
 |l+1,r=>(A N av n R l r∧dep n av N r≠l)∨∃p d,A N av n R l p∧N p=some d∧av d.v=l∧(r=d.lo∨r=d.hi)
variable {R:Nat→Prop}
theorem qM(h:WF n av N)(hR:∀r,R r→live N r):∀l r,A N av n R l r→live N r∧l≤dep n av N r
 |0,r,ha=>⟨hR r ha,Nat.zero_le _⟩
 |l+1,r,ha=>by
  rcases ha with⟨h1,h2⟩|⟨p,d,h1,h2,h3,h4⟩
  ·have:=qM h hR l r h1
   exact⟨this.1,by omega⟩
  ·rcases h4 with rfl|rfl
   ·have:=h.lo h2;exact⟨this.1,by omega⟩
   ·have:=h.hi h2;exact⟨this.1,by omega⟩
theorem Ff{r:Nat}:∀k l,A N av n R l r→l+k≤dep n av N r→A N av n R (l+k) r
 |0,l,ha,_=>ha
 |k+1,l,ha,hk=>by
  have h1:=Ff k l ha (by omega)
  have h2:dep n av N r≠l+k:=by omega
  exact .inl ⟨h1,h2⟩
def Reach(N:gC)(R:Nat→Prop):Prop:=∀r d,N r=some d→R r∨∃p e,N p=some e∧(e.lo=r∨e.hi=r)
theorem Sb(h:WF n av N)(hr:Reach N R):∀k r d,N r=some d→av d.v≤k→A N av n R (av d.v) r:=by
 intro k
 induction k with
 |zero=>
  intro r d hd hk
  rcases hr r d hd with h1|⟨p,e,h1,h2⟩
  ·rw[show av d.v=0 by omega];exact h1
  ·have:=h.lo h1
   have h3:=h.hi h1
   rcases h2 with rfl|rfl
   ·rw[aM hd]at this;omega
   ·rw[aM hd]at h3;omega
 |succ k ih=>
  intro r d hd hk
  rcases hr r d hd with h1|⟨p,e,h1,h2⟩
  ·have:=Ff (N:=N) (av:=av) (n:=n) (R:=R) (r:=r) (av d.v) 0 h1 (by rw[aM hd];omega)
   rwa [Nat.zero_add]at this
  ·have hlt:av e.v<av d.v:=by
    have:=h.lo h1
    have h3:=h.hi h1
    rcases h2 with rfl|rfl
    ·rw[aM hd]at this;omega
    ·rw[aM hd]at h3;omega
   have ha:=ih p e h1 (by omega)
   have hb:A N av n R (av e.v+1) r:=.inr ⟨p,e,ha,h1,rfl,by rcases h2 with rfl|rfl;exact .inl rfl;exact .inr rfl⟩
   have:=Ff (av d.v-(av e.v+1)) _ hb (by rw[aM hd];omega)
   rwa [show av e.v+1+(av d.v-(av e.v+1))=av d.v by omega]at this
theorem Qk(h:WF n av N)(hl:uO n av)(ho:Ord n av ord)(hi:Interp N S)(hR:∀r,R r→live N r):∀l,l≤n→∀g,fs ord (Fs S R) l g↔∃r,A N av n R l r∧g=S r
 |0,_,g=>Iff.rfl
 |l+1,N9,g=>by
  obtain⟨v1,v2⟩:=ho.bu l N9
  have ih:=Qk h hl ho hi hR l (by omega)
  constructor
  ·rintro⟨f,hf,b,rfl⟩
   obtain⟨r,ha,rfl⟩:=(ih f).1 hf
   obtain⟨hlv,hle⟩:=qM h hR l r ha
   by_cases e:dep n av N r=l
   ·rcases hlv with hc|⟨d,hd⟩
    ·rw[cO (h.const hc)]at e;omega
    ·rw[aM hd]at e
     have hv:d.v=ord.getD l 0:=hl.inj _ _ (h.var hd) v1 (by omega)
     refine⟨if b then d.hi else d.lo,.inr ⟨r,d,ha,hd,e,by cases b<;>simp⟩,?_⟩
     funext x
     rw[←hv];exact h.child hl hi hd x b
   ·refine⟨r,.inl ⟨ha,e⟩,?_⟩
    funext x
    exact h.df hl hi hlv v1 (by omega) x b
  ·rintro⟨r,ha,rfl⟩
   rcases ha with⟨h1,h2⟩|⟨p,d,h1,h2,h3,h4⟩
   ·obtain⟨hlv,hle⟩:=qM h hR l r h1
    refine⟨S r,(ih _).2 ⟨r,h1,rfl⟩,false,?_⟩
    funext x
    exact(h.df hl hi hlv v1 (by omega) x false).symm
   ·have hv:d.v=ord.getD l 0:=hl.inj _ _ (h.var h2) v1 (by omega)
    rcases h4 with rfl|rfl
    ·refine⟨S p,(ih _).2 ⟨p,h1,rfl⟩,false,?_⟩
     funext x
     rw[←hv];exact(h.child hl hi h2 x false).symm
    ·refine⟨S p,(ih _).2 ⟨p,h1,rfl⟩,true,?_⟩
     funext x
     rw[←hv];exact(h.child hl hi h2 x true).symm
theorem mg(h:WF n av N)(hl:uO n av)(ho:Ord n av ord)(hi:Interp N S)(hR:∀r,R r→live N r)(hr:Reach N R)(g:Fn):cg n ord (Fs S R) g↔∃r d,N r=some d∧g=S r:=by
 constructor
 ·rintro⟨l,N9,hf,x,hx⟩
  obtain⟨v1,v2⟩:=ho.bu l N9
  obtain⟨r,ha,rfl⟩:=(Qk h hl ho hi hR l (by omega) g).1 hf
  obtain⟨hlv,hle⟩:=qM h hR l r ha
  by_cases e:dep n av N r=l
  ·rcases hlv with hc|⟨d,hd⟩
   ·rw[cO (h.const hc)]at e;omega
   ·exact⟨r,d,hd,rfl⟩
  ·exact absurd (by rw[h.df hl hi hlv v1 (by omega),h.df hl hi hlv v1 (by omega)]) hx
 ·rintro⟨r,d,hd,rfl⟩
  have hv:=h.var hd
  have hlt:=hl.lt _ hv
  refine⟨av d.v,hlt,(Qk h hl ho hi hR _ (by omega) _).2 ⟨r,Sb h hr _ r d hd (Nat.le_refl _),rfl⟩,?_⟩
  rw[ho.of hl hv]
  refine Classical.byContradiction fun hno=>h.ne hd (h.same hl hi (h.lo hd).1 (h.hi hd).1 fun x=>?_)
  have c1:=h.child hl hi hd x false
  have c2:=h.child hl hi hd x true
  simp only[Bool.false_eq_true,if_false,if_true]at c1 c2
  rw[←c1,←c2]
  exact Classical.byContradiction fun hne=>hno ⟨x,hne⟩
def oQ(P:Fn→Prop)(k:Nat):Prop:=∃l:List Fn,l.Nodup∧l.length=k∧∀g,P g↔g∈l
theorem oQ.congr{P Q:Fn→Prop}{k:Nat}(h:oQ P k)(e:∀g,P g↔Q g):oQ Q k:=let ⟨l,h1,h2,h3⟩:=h;⟨l,h1,h2,fun g=>(e g).symm.trans (h3 g)⟩
theorem bV{α:Type}:∀{l l':List α},l.Nodup→(∀x∈l,x∈l')→l.length≤l'.length
 | [],l',_,_=>Nat.zero_le _
 |x::l,l',hn,hs=>by
  obtain⟨h1,h2⟩:=List.nodup_cons.1 hn
  obtain⟨a,b,rfl⟩:=List.append_of_mem (hs x (by simp))
  have:=bV (l':=a++b) h2 fun y hy=>by
   have:=hs y (by simp[hy])
   rcases List.mem_append.1 this with h|h
   ·exact List.mem_append_left _ h
   ·rcases List.mem_cons.1 h with rfl|h
    ·exact absurd hy h1
    ·exact List.mem_append_right _ h
  simp at this⊢;omega
theorem oQ.le{P Q:Fn→Prop}{k k':Nat}(h:oQ P k)(h':oQ Q k')(e:∀g,P g→Q g):k≤k':=by
 obtain⟨l,h1,h2,h3⟩:=h
 obtain⟨l',xC,oP,x9⟩:=h'
 rw[←h2,←oP]
 exact bV h1 fun x hx=>(x9 x).1 (e x ((h3 x).2 hx))
theorem oQ.uniq{P:Fn→Prop}{k k':Nat}(h:oQ P k)(h':oQ P k'):k=k':=Nat.le_antisymm (h.le h' fun _=>id) (h'.le h fun _=>id)
theorem oQ.none:oQ (fun _=>False) 0:=⟨[],by simp,rfl,by simp⟩
theorem oQ.or{P Q:Fn→Prop}{k k':Nat}(h:oQ P k)(h':oQ Q k')(e:∀g,P g→¬Q g):oQ (fun g=>P g∨Q g) (k+k'):=by
 obtain⟨l,h1,h2,h3⟩:=h
 obtain⟨l',xC,oP,x9⟩:=h'
 refine⟨l++l',List.nodup_append.2 ⟨h1,xC,fun a ha b hb e'=>?_⟩,by rw[List.length_append,h2,oP],fun g=>by rw[List.mem_append,←h3,←x9]⟩
 subst e'
 exact e a ((h3 a).2 ha) ((x9 a).2 hb)
theorem wg(h:WF n av N)(hl:uO n av)(hi:Interp N S){dom:List Nat}(hd:dom.Nodup)(hm:∀r,r∈dom↔∃d,N r=some d):oQ (fun g=>∃r d,N r=some d∧g=S r) dom.length:=by
 refine⟨dom.map S,?_,by simp,fun g=>?_⟩
 ·refine List.pairwise_map.2 (hd.imp_of_mem fun{a b} ha hb hne heq=>hne ?_)
  exact h.same hl hi (.inr ((hm a).1 ha)) (.inr ((hm b).1 hb)) fun x=>by rw[heq]
 ·rw[List.mem_map]
  constructor
  ·rintro⟨r,d,h1,rfl⟩;exact⟨r,(hm r).2 ⟨d,h1⟩,rfl⟩
  ·rintro⟨r,h1,rfl⟩;obtain⟨d,h2⟩:=(hm r).1 h1;exact⟨r,d,h2,rfl⟩
end bc
namespace bc
open aj
def up{α:Type}(N:Nat→α)(r:Nat)(o:α):Nat→α:=fun s=>if s=r then o else N s
@[simp] theorem aN{α:Type}{N:Nat→α}{r:Nat}{o:α}:up N r o r=o:=if_pos rfl
theorem aP{α:Type}{N:Nat→α}{r s:Nat}{o:α}(h:s≠r):up N r o s=N s:=if_neg h
def oM(T:Nd→Option Nat)(d:Nd)(o:Option Nat):Nd→Option Nat:=fun e=>if e=d then o else T e
@[simp] theorem iU{T:Nd→Option Nat}{d:Nd}{o:Option Nat}:oM T d o d=o:=if_pos rfl
theorem n3{T:Nd→Option Nat}{d e:Nd}{o:Option Nat}(h:e≠d):oM T d o e=T e:=if_neg h
def e1:Option Nd→Nat→Nat
 |none,_=>0
 |some d,r=>(if d.lo=r then 1 else 0)+(if d.hi=r then 1 else 0)
theorem ef(d:Nd)(r:Nat):e1 (some d) r=(if d.lo=r then 1 else 0)+(if d.hi=r then 1 else 0):=rfl
def dh(N:gC)(r:Nat):Nat→Nat
 |0=>0
 |k+1=>dh N r k+e1 (N k) r
def lR(N:gC):Nat→Nat
 |0=>0
 |k+1=>lR N k+(if(N k).isSome then 1 else 0)
theorem vX{N:gC}{s r:Nat}{o:Option Nd}:∀{k},(s<k→dh (up N s o) r k+e1 (N s) r=dh N r k+e1 o r)∧(k≤s→dh (up N s o) r k=dh N r k)
 |0=>⟨fun h=>by omega,fun _=>rfl⟩
 |k+1=>by
  obtain⟨i1,i2⟩:=vX (N:=N) (s:=s) (r:=r) (o:=o) (k:=k)
  refine⟨fun h=>?_,fun h=>?_⟩
  ·rw[dh,dh]
   by_cases e:s=k
   ·subst e;rw[aN,i2 (Nat.le_refl _)];omega
   ·have:=i1 (by omega);rw[aP (fun h=>e h.symm)];omega
  ·rw[dh,dh,i2 (by omega),aP (by omega)]
theorem tN{N:gC}{s r k:Nat}{o:Option Nd}(h:s<k):dh (up N s o) r k+e1 (N s) r=dh N r k+e1 o r:=vX.1 h
theorem pP{N:gC}{s:Nat}{o:Option Nd}:∀{k},(s<k→lR (up N s o) k+(if(N s).isSome then 1 else 0)=lR N k+(if o.isSome then 1 else 0))∧(k≤s→lR (up N s o) k=lR N k)
 |0=>⟨fun h=>by omega,fun _=>rfl⟩
 |k+1=>by
  obtain⟨i1,i2⟩:=pP (N:=N) (s:=s) (o:=o) (k:=k)
  refine⟨fun h=>?_,fun h=>?_⟩
  ·rw[lR,lR]
   by_cases e:s=k
   ·subst e;rw[aN,i2 (Nat.le_refl _)];omega
   ·have:=i1 (by omega);rw[aP (fun h=>e h.symm)];omega
  ·rw[lR,lR,i2 (by omega),aP (by omega)]
theorem jf{N:gC}{r:Nat}:∀{k},dh N r k=0→∀s,s<k→∀d,N s=some d→d.lo≠r∧d.hi≠r
 |0,_,s,hs,_,_=>by omega
 |k+1,h,s,hs,d,hd=>by
  rw[dh]at h
  by_cases e:s=k
  ·subst e
   rw[hd,ef]at h
   constructor
   ·intro h1;rw[if_pos h1]at h;omega
   ·intro h1;rw[if_pos h1]at h;omega
  ·exact jf (k:=k) (by omega) s (by omega) d hd
theorem qC{N:gC}{r:Nat}:∀{k},0<dh N r k→∃s d,s<k∧N s=some d∧(d.lo=r∨d.hi=r)
 |0,h=>by simp[dh]at h
 |k+1,h=>by
  rw[dh]at h
  by_cases hk:0<dh N r k
  ·obtain⟨s,d,h1,h2,h3⟩:=qC hk;exact⟨s,d,by omega,h2,h3⟩
  ·cases hd:N k with
   |none=>rw[hd]at h;simp[e1]at h;omega
   |some d=>
    refine⟨k,d,by omega,hd,?_⟩
    rw[hd,ef]at h
    by_cases h1:d.lo=r
    ·exact .inl h1
    ·by_cases h2:d.hi=r
     ·exact .inr h2
     ·rw[if_neg h1,if_neg h2]at h;omega
theorem zN{N:gC}{r:Nat}:∀k,dh N r k≤2*k
 |0=>Nat.le_refl _
 |k+1=>by
  have:=zN (N:=N) (r:=r) k
  rw[dh]
  have:e1 (N k) r≤2:=by
   cases N k with
   |none=>simp[e1]
   |some d=>rw[ef];split<;>split<;>omega
  omega
theorem zZ(N:gC):∀k,((List.range k).filter fun r=>(N r).isSome).length=lR N k
 |0=>rfl
 |k+1=>by
  rw[List.range_succ,List.filter_append,List.length_append,zZ N k,lR]
  congr 1
  cases h:N k<;>simp[h]
structure Kd where
 n:Nat
 cap:Nat
 used:Nat
 N:gC
 T:Nd→Option Nat
 us:List Nat
 ho:List Nat
def Kd.hold(K:Kd)(r:Nat):Nat:=K.ho.getD r 0
def Kd.use(K:Kd)(r:Nat):Nat:=K.us.getD r 0
structure ji(K:Kd)(S:Nat→Fn)(E:Nat→Prop)(P:Nat→Nat):Prop where
 two:∀{r d},K.N r=some d→2≤r∧r<K.cap
 var:∀{r d},K.N r=some d→d.v<K.n
 ne:∀{r d},K.N r=some d→d.lo≠d.hi
 lo:∀{r d},K.N r=some d→live K.N d.lo
 hi:∀{r d},K.N r=some d→live K.N d.hi
 int:Interp K.N S
 jB:∀d r,K.T d=some r↔K.N r=some d∧¬E r
 use:∀{r d},K.N r=some d→K.use r=dh K.N r K.cap+(if K.hold r=0 then 0 else 1)+P r
 len:K.us.length=K.ho.length
 fit:∀{r d},K.N r=some d→r<K.us.length
 held:∀r,K.hold r≠0→∃d,K.N r=some d
 mx:∀r,K.hold r≤65535
 room:K.used=2+lR K.N K.cap
 cap:K.used≤K.cap∧K.cap≤1048576
variable {K:Kd} {S:Nat→Fn} {E:Nat→Prop} {P:Nat→Nat}
theorem jE{N:gC}{r s:Nat}{d:Nd}(h:live N s):live (up N r (some d)) s:=by
 rcases h with h|⟨e,h⟩
 ·exact .inl h
 ·by_cases e2:s=r
  ·subst e2;exact .inr ⟨d,aN⟩
  ·exact .inr ⟨e,by rw[aP e2];exact h⟩
theorem vJ{N:gC}{r s:Nat}(h:live N s)(hne:s≠r):live (up N r none) s:=by
 rcases h with h|⟨e,h⟩
 ·exact .inl h
 ·exact .inr ⟨e,by rw[aP hne];exact h⟩
def Pos(K:Kd):Prop:=∀r d,K.N r=some d→0<K.use r
theorem ji.less(h:ji K S E P){r:Nat}{dk:List Nat}(hP:0<P r)(hl:dk.length=K.us.length)(h1:dk.getD r 0+1=K.use r)(h2:∀s,s≠r→dk.getD s 0=K.use s):
  ji {K with us:=dk} S E (up P r (P r-1)) where
 two:=h.two
 var:=h.var
 ne:=h.ne
 lo:=h.lo
 hi:=h.hi
 int:=h.int
 jB:=h.jB
 use:=fun{s d} hd=>by
  have:=h.use hd
  show dk.getD s 0=dh K.N s K.cap+(if K.hold s=0 then 0 else 1)+up P r (P r-1) s
  by_cases e:s=r
  ·subst e
   rw[aN]
   omega
  ·rw[h2 s e,aP e];exact this
 len:=by show dk.length=_;rw[hl];exact h.len
 fit:=fun{s d} hd=>by show s<dk.length;rw[hl];exact h.fit hd
 held:=h.held
 mx:=h.mx
 room:=h.room
 cap:=h.cap
theorem ji.free(h:ji K S E P){r:Nat}{d:Nd}(hd:K.N r=some d)(hE:¬E r)(h0:K.use r=0):
  ji {K with N:=up K.N r none,T:=oM K.T d none,used:=K.used-1} S E (fun s=>P s+e1 (some d) s) where
 two:=fun{s e} hs=>by
  have hs':up K.N r none s=some e:=hs
  by_cases e2:s=r
  ·subst e2;rw[aN]at hs';cases hs'
  ·rw[aP e2]at hs';exact h.two hs'
 var:=fun{s e} hs=>by
  have hs':up K.N r none s=some e:=hs
  by_cases e2:s=r
  ·subst e2;rw[aN]at hs';cases hs'
  ·rw[aP e2]at hs';exact h.var hs'
 ne:=fun{s e} hs=>by
  have hs':up K.N r none s=some e:=hs
  by_cases e2:s=r
  ·subst e2;rw[aN]at hs';cases hs'
  ·rw[aP e2]at hs';exact h.ne hs'
 lo:=fun{s e} hs=>by
  have hs':up K.N r none s=some e:=hs
  by_cases e2:s=r
  ·subst e2;rw[aN]at hs';cases hs'
  ·rw[aP e2]at hs'
   have hu:=h.use hd
   exact vJ (h.lo hs') (jf (by omega) s (h.two hs').2 e hs').1
 hi:=fun{s e} hs=>by
  have hs':up K.N r none s=some e:=hs
  by_cases e2:s=r
  ·subst e2;rw[aN]at hs';cases hs'
  ·rw[aP e2]at hs'
   have hu:=h.use hd
   exact vJ (h.hi hs') (jf (by omega) s (h.two hs').2 e hs').2
 int:=⟨h.int.zero,h.int.one,fun{s e} hs x=>by
  have hs':up K.N r none s=some e:=hs
  by_cases e2:s=r
  ·subst e2;rw[aN]at hs';cases hs'
  ·rw[aP e2]at hs';exact h.int.node hs' x⟩
 jB:=fun e s=>by
  show oM K.T d none e=some s↔up K.N r none s=some e∧_
  by_cases e2:e=d
  ·subst e2
   rw[iU]
   constructor
   ·intro h;cases h
   ·rintro⟨h1,h2⟩
    by_cases e3:s=r
    ·subst e3;rw[aN]at h1;cases h1
    ·rw[aP e3]at h1
     have a:=(h.jB e s).2 ⟨h1,h2⟩
     have b:=(h.jB e r).2 ⟨hd,hE⟩
     rw[a]at b;cases b;exact absurd rfl e3
  ·rw[n3 e2,h.jB]
   by_cases e3:s=r
   ·subst e3
    rw[aN]
    constructor
    ·rintro⟨h1,_⟩;rw[hd]at h1;cases h1;exact absurd rfl e2
    ·rintro⟨h1,_⟩;cases h1
   ·rw[aP e3]
 use:=fun{s e} hs=>by
  have hs':up K.N r none s=some e:=hs
  by_cases e2:s=r
  ·subst e2;rw[aN]at hs';cases hs'
  ·rw[aP e2]at hs'
   have hu:=h.use hs'
   have he:=tN (N:=K.N) (s:=r) (r:=s) (k:=K.cap) (o:=none) (h.two hd).2
   show K.use s=dh (up K.N r none) s K.cap+(if K.hold s=0 then 0 else 1)+(P s+e1 (some d) s)
   rw[hd]at he
   have:e1 none s=0:=rfl
   omega
 len:=h.len
 fit:=fun{s e} hs=>by
  have hs':up K.N r none s=some e:=hs
  by_cases e2:s=r
  ·subst e2;rw[aN]at hs';cases hs'
  ·rw[aP e2]at hs';exact h.fit hs'
 held:=fun s hs=>by
  obtain⟨e,he⟩:=h.held s hs
  have hne:s≠r:=fun e2=>by
   subst e2
   have hu:=h.use hd
   have hs':K.hold s≠0:=hs
   rw[if_neg hs']at hu;omega
  exact⟨e,by show up K.N r none s=_;rw[aP hne];exact he⟩
 mx:=h.mx
 room:=by
  have:=(pP (N:=K.N) (s:=r) (o:=none) (k:=K.cap)).1 (h.two hd).2
  have hr:=h.room
  rw[hd]at this
  show K.used-1=2+lR (up K.N r none) K.cap
  simp at this;omega
 cap:=⟨by have:=h.cap.1;show K.used-1≤K.cap;omega,h.cap.2⟩
theorem ji.more(h:ji K S E P){r:Nat}{dk:List Nat}(hl:dk.length=K.us.length)(h1:dk.getD r 0=K.use r+1)(h2:∀s,s≠r→dk.getD s 0=K.use s):
  ji {K with us:=dk} S E (up P r (P r+1)) where
 two:=h.two
 var:=h.var
 ne:=h.ne
 lo:=h.lo
 hi:=h.hi
 int:=h.int
 jB:=h.jB
 use:=fun{s d} hd=>by
  have:=h.use hd
  show dk.getD s 0=dh K.N s K.cap+(if K.hold s=0 then 0 else 1)+up P r (P r+1) s
  by_cases e:s=r
  ·subst e
   rw[aN]
   omega
  ·rw[h2 s e,aP e];exact this
 len:=by show dk.length=_;rw[hl];exact h.len
 fit:=fun{s d} hd=>by show s<dk.length;rw[hl];exact h.fit hd
 held:=h.held
 mx:=h.mx
 room:=h.room
 cap:=h.cap
end bc
namespace bc
open aj
variable {K:Kd} {S:Nat→Fn} {E:Nat→Prop} {P:Nat→Nat}
def ite(S:Nat→Fn)(d:Nd):Fn:=fun x=>if x.testBit d.v then S d.hi x else S d.lo x
theorem fI{N:gC}{r s:Nat}(h:live N s)(h2:2≤r)(hr:N r=none):s≠r:=fun e=>by
 subst e
 rcases h with h|⟨d,h⟩
 ·omega
 ·rw[hr]at h;cases h
theorem ji.lay(h:ji K S E P){r:Nat}{d:Nd}{dk bT:List Nat}(hr:K.N r=none)(h2:2≤r∧r<K.cap)(hv:d.v<K.n)(hne:d.lo≠d.hi)(hlo:live K.N d.lo)(hhi:live K.N d.hi)(hT:K.T d=none)(hE:¬E r)
 (hP:P r=0)(hro:K.used<K.cap)(hl:dk.length=bT.length)(hf:r<dk.length∧K.us.length≤dk.length)(u0:dk.getD r 0=0)(u1:∀s,2≤s→s≠r→dk.getD s 0=K.use s+e1 (some d) s)(o0:bT.getD r 0=0)(o1:∀s,s≠r→bT.getD s 0=K.hold s):
  ji {K with N:=up K.N r (some d),T:=oM K.T d (some r),used:=K.used+1,us:=dk,ho:=bT} (up S r (ite S d)) E P where
 two:=fun{s e} hs=>by
  have hs':up K.N r (some d) s=some e:=hs
  by_cases e2:s=r
  ·subst e2;exact h2
  ·rw[aP e2]at hs';exact h.two hs'
 var:=fun{s e} hs=>by
  have hs':up K.N r (some d) s=some e:=hs
  by_cases e2:s=r
  ·subst e2;rw[aN]at hs';cases hs';exact hv
  ·rw[aP e2]at hs';exact h.var hs'
 ne:=fun{s e} hs=>by
  have hs':up K.N r (some d) s=some e:=hs
  by_cases e2:s=r
  ·subst e2;rw[aN]at hs';cases hs';exact hne
  ·rw[aP e2]at hs';exact h.ne hs'
 lo:=fun{s e} hs=>by
  have hs':up K.N r (some d) s=some e:=hs
  by_cases e2:s=r
  ·subst e2;rw[aN]at hs';cases hs';exact jE hlo
  ·rw[aP e2]at hs';exact jE (h.lo hs')
 hi:=fun{s e} hs=>by
  have hs':up K.N r (some d) s=some e:=hs
  by_cases e2:s=r
  ·subst e2;rw[aN]at hs';cases hs';exact jE hhi
  ·rw[aP e2]at hs';exact jE (h.hi hs')
 int:=⟨fun x=>by rw[aP (by omega)];exact h.int.zero x,fun x=>by rw[aP (by omega)];exact h.int.one x,fun{s e} hs x=>by
  have hs':up K.N r (some d) s=some e:=hs
  by_cases e2:s=r
  ·subst e2;rw[aN]at hs';cases hs'
   rw[aN,aP (fI hlo h2.1 hr),aP (fI hhi h2.1 hr)];rfl
  ·rw[aP e2]at hs'
   rw[aP e2,aP (fI (h.lo hs') h2.1 hr),aP (fI (h.hi hs') h2.1 hr)]
   exact h.int.node hs' x⟩
 jB:=fun e s=>by
  show oM K.T d (some r) e=some s↔up K.N r (some d) s=some e∧_
  by_cases e2:e=d
  ·subst e2
   rw[iU]
   constructor
   ·intro h;cases h;exact⟨aN,hE⟩
   ·rintro⟨h1,oP⟩
    by_cases e3:s=r
    ·rw[e3]
    ·rw[aP e3]at h1
     have a:=(h.jB e s).2 ⟨h1,oP⟩
     rw[hT]at a;cases a
  ·rw[n3 e2,h.jB]
   by_cases e3:s=r
   ·subst e3
    rw[aN,hr]
    constructor
    ·rintro⟨h1,_⟩;cases h1
    ·rintro⟨h1,_⟩;cases h1;exact absurd rfl e2
   ·rw[aP e3]
 use:=fun{s e} hs=>by
  have hs':up K.N r (some d) s=some e:=hs
  have he:=tN (N:=K.N) (s:=r) (r:=s) (k:=K.cap) (o:=some d) h2.2
  rw[hr]at he
  have h0:e1 none s=0:=rfl
  show dk.getD s 0=dh (up K.N r (some d)) s K.cap+(if bT.getD s 0=0 then 0 else 1)+P s
  by_cases e2:s=r
  ·subst e2
   have hz:dh K.N s K.cap=0:=by
    refine Nat.eq_zero_of_not_pos fun hp=>?_
    obtain⟨t,e',_,ht,hc⟩:=qC hp
    have BC:=fI (h.lo ht) h2.1 hr
    have q6:=fI (h.hi ht) h2.1 hr
    rcases hc with hc|hc
    ·exact BC hc
    ·exact q6 hc
   have hd0:e1 (some d) s=0:=by
    rw[ef,if_neg (fI hlo h2.1 hr),if_neg (fI hhi h2.1 hr)]
   rw[u0,o0,if_pos rfl];omega
  ·rw[aP e2]at hs'
   have hu:=h.use hs'
   have h3:bT.getD s 0=K.hold s:=o1 s e2
   rw[u1 s (h.two hs').1 e2,h3];omega
 len:=hl
 fit:=fun{s e} hs=>by
  have hs':up K.N r (some d) s=some e:=hs
  show s<dk.length
  by_cases e2:s=r
  ·subst e2;exact hf.1
  ·rw[aP e2]at hs';exact Nat.lt_of_lt_of_le (h.fit hs') hf.2
 held:=fun s hs=>by
  have hs':bT.getD s 0≠0:=hs
  by_cases e2:s=r
  ·subst e2;exact⟨d,aN⟩
  ·rw[o1 s e2]at hs'
   obtain⟨e,he⟩:=h.held s hs'
   exact⟨e,by show up K.N r (some d) s=_;rw[aP e2];exact he⟩
 mx:=fun s=>by
  show bT.getD s 0≤65535
  by_cases e2:s=r
  ·subst e2;rw[o0];decide
  ·rw[o1 s e2];exact h.mx s
 room:=by
  have:=(pP (N:=K.N) (s:=r) (o:=some d) (k:=K.cap)).1 h2.2
  have hr':=h.room
  rw[hr]at this
  show K.used+1=2+lR (up K.N r (some d)) K.cap
  simp at this;omega
 cap:=⟨by show K.used+1≤K.cap;omega,h.cap.2⟩
theorem ji.abm(h:ji K S E P){r:Nat}{d:Nd}(hd:K.N r=some d)(hE:¬E r):ji {K with T:=oM K.T d none} S (fun s=>E s∨s=r) P where
 two:=h.two
 var:=h.var
 ne:=h.ne
 lo:=h.lo
 hi:=h.hi
 int:=h.int
 jB:=fun e s=>by
  show oM K.T d none e=some s↔_
  by_cases e2:e=d
  ·subst e2
   rw[iU]
   constructor
   ·intro h;cases h
   ·rintro⟨h1,h2⟩
    have a:=(h.jB e s).2 ⟨h1,fun x=>h2 (.inl x)⟩
    have b:=(h.jB e r).2 ⟨hd,hE⟩
    rw[a]at b;cases b;exact absurd (.inr rfl) h2
  ·rw[n3 e2,h.jB]
   constructor
   ·rintro⟨h1,h2⟩
    refine⟨h1,fun x=>?_⟩
    rcases x with x|rfl
    ·exact h2 x
    ·have xC:K.N s=some e:=h1
     rw[hd]at xC;cases xC;exact e2 rfl
   ·rintro⟨h1,h2⟩;exact⟨h1,fun x=>h2 (.inl x)⟩
 use:=h.use
 len:=h.len
 fit:=h.fit
 held:=h.held
 mx:=h.mx
 room:=h.room
 cap:=h.cap
theorem ji.wJ(h:ji K S E P){r:Nat}{d d':Nd}{P':Nat→Nat}(hd:K.N r=some d)(hE:E r)(hv:d'.v<K.n)(hne:d'.lo≠d'.hi)(hlo:live K.N d'.lo)(hhi:live K.N d'.hi)(hT:K.T d'=none)(hS:∀x,S r x=ite S d' x)
 (hP:∀s,2≤s→P' s+e1 (some d') s=P s+e1 (some d) s):ji {K with N:=up K.N r (some d'),T:=oM K.T d' (some r)} S (fun s=>E s∧s≠r) P' where
 two:=fun{s e} hs=>by
  have hs':up K.N r (some d') s=some e:=hs
  by_cases e2:s=r
  ·subst e2;exact h.two hd
  ·rw[aP e2]at hs';exact h.two hs'
 var:=fun{s e} hs=>by
  have hs':up K.N r (some d') s=some e:=hs
  by_cases e2:s=r
  ·subst e2;rw[aN]at hs';cases hs';exact hv
  ·rw[aP e2]at hs';exact h.var hs'
 ne:=fun{s e} hs=>by
  have hs':up K.N r (some d') s=some e:=hs
  by_cases e2:s=r
  ·subst e2;rw[aN]at hs';cases hs';exact hne
  ·rw[aP e2]at hs';exact h.ne hs'
 lo:=fun{s e} hs=>by
  have hs':up K.N r (some d') s=some e:=hs
  by_cases e2:s=r
  ·subst e2;rw[aN]at hs';cases hs';exact jE hlo
  ·rw[aP e2]at hs';exact jE (h.lo hs')
 hi:=fun{s e} hs=>by
  have hs':up K.N r (some d') s=some e:=hs
  by_cases e2:s=r
  ·subst e2;rw[aN]at hs';cases hs';exact jE hhi
  ·rw[aP e2]at hs';exact jE (h.hi hs')
 int:=⟨h.int.zero,h.int.one,fun{s e} hs x=>by
  have hs':up K.N r (some d') s=some e:=hs
  by_cases e2:s=r
  ·subst e2;rw[aN]at hs';cases hs';exact hS x
  ·rw[aP e2]at hs';exact h.int.node hs' x⟩
 jB:=fun e s=>by
  show oM K.T d' (some r) e=some s↔up K.N r (some d') s=some e∧¬(E s∧s≠r)
  by_cases e2:e=d'
  ·subst e2
   rw[iU]
   constructor
   ·intro h;cases h;exact⟨aN,fun x=>x.2 rfl⟩
   ·rintro⟨h1,oP⟩
    by_cases e3:s=r
    ·rw[e3]
    ·rw[aP e3]at h1
     have a:=(h.jB e s).2 ⟨h1,fun x=>oP ⟨x,e3⟩⟩
     rw[hT]at a;cases a
  ·rw[n3 e2,h.jB]
   by_cases e3:s=r
   ·subst e3
    rw[aN]
    constructor
    ·rintro⟨_,h1⟩;exact absurd hE h1
    ·rintro⟨h1,_⟩;cases h1;exact absurd rfl e2
   ·rw[aP e3]
    constructor
    ·rintro⟨h1,h2⟩;exact⟨h1,fun x=>h2 x.1⟩
    ·rintro⟨h1,h2⟩;exact⟨h1,fun x=>h2 ⟨x,e3⟩⟩
 use:=fun{s e} hs=>by
  have hs':up K.N r (some d') s=some e:=hs
  have he:=tN (N:=K.N) (s:=r) (r:=s) (k:=K.cap) (o:=some d') (h.two hd).2
  rw[hd]at he
  show K.use s=dh (up K.N r (some d')) s K.cap+(if K.hold s=0 then 0 else 1)+P' s
  by_cases e2:s=r
  ·subst e2
   have hu:=h.use hd
   have:=hP s (h.two hd).1
   omega
  ·rw[aP e2]at hs'
   have hu:=h.use hs'
   have:=hP s (h.two hs').1
   omega
 len:=h.len
 fit:=fun{s e} hs=>by
  have hs':up K.N r (some d') s=some e:=hs
  by_cases e2:s=r
  ·subst e2;exact h.fit hd
  ·rw[aP e2]at hs';exact h.fit hs'
 held:=fun s hs=>by
  obtain⟨e,he⟩:=h.held s hs
  by_cases e2:s=r
  ·subst e2;exact⟨d',aN⟩
  ·exact⟨e,by show up K.N r (some d') s=_;rw[aP e2];exact he⟩
 mx:=h.mx
 room:=by
  have:=(pP (N:=K.N) (s:=r) (o:=some d') (k:=K.cap)).1 (h.two hd).2
  have hr':=h.room
  rw[hd]at this
  show K.used=2+lR (up K.N r (some d')) K.cap
  simp at this;omega
 cap:=h.cap
theorem ji.keep(h:ji K S E P){r:Nat}{dk bT:List Nat}(hr:∃d,K.N r=some d)(hm:K.hold r<65535)(hl:dk.length=K.us.length∧bT.length=K.ho.length)(o0:bT.getD r 0=K.hold r+1)(o1:∀s,s≠r→bT.getD s 0=K.hold s)
 (u0:dk.getD r 0=K.use r+(if K.hold r=0 then 1 else 0))(u1:∀s,s≠r→dk.getD s 0=K.use s):ji {K with us:=dk,ho:=bT} S E P where
 two:=h.two
 var:=h.var
 ne:=h.ne
 lo:=h.lo
 hi:=h.hi
 int:=h.int
 jB:=h.jB
 use:=fun{s e} hs=>by
  have hu:=h.use hs
  show dk.getD s 0=dh K.N s K.cap+(if bT.getD s 0=0 then 0 else 1)+P s
  by_cases e2:s=r
  ·subst e2
   rw[u0,o0,if_neg (by omega:¬K.hold s+1=0)]
   by_cases e3:K.hold s=0
   ·rw[if_pos e3]at hu⊢;omega
   ·rw[if_neg e3]at hu⊢;omega
  ·rw[u1 s e2,o1 s e2];exact hu
 len:=by show dk.length=bT.length;rw[hl.1,hl.2];exact h.len
 fit:=fun{s e} hs=>by show s<dk.length;rw[hl.1];exact h.fit hs
 held:=fun s hs=>by
  have hs':bT.getD s 0≠0:=hs
  by_cases e2:s=r
  ·subst e2;exact hr
  ·rw[o1 s e2]at hs';exact h.held s hs'
 mx:=fun s=>by
  show bT.getD s 0≤65535
  by_cases e2:s=r
  ·subst e2;rw[o0];omega
  ·rw[o1 s e2];exact h.mx s
 room:=h.room
 cap:=h.cap
theorem ji.drop(h:ji K S E P){r:Nat}{bT:List Nat}(hr:0<K.hold r)(hl:bT.length=K.ho.length)(o0:bT.getD r 0+1=K.hold r)(o1:∀s,s≠r→bT.getD s 0=K.hold s):
  ji {K with ho:=bT} S E (if K.hold r=1 then up P r (P r+1)else P) where
 two:=h.two
 var:=h.var
 ne:=h.ne
 lo:=h.lo
 hi:=h.hi
 int:=h.int
 jB:=h.jB
 use:=fun{s e} hs=>by
  have hu:=h.use hs
  show K.use s=dh K.N s K.cap+(if bT.getD s 0=0 then 0 else 1)+(if K.hold r=1 then up P r (P r+1)else P) s
  by_cases e2:s=r
  ·subst e2
   rw[if_neg (by omega:¬K.hold s=0)]at hu
   by_cases e3:K.hold s=1
   ·rw[if_pos e3,aN,if_pos (by omega)];omega
   ·rw[if_neg e3,if_neg (by omega)];omega
  ·rw[o1 s e2]
   by_cases e3:K.hold r=1
   ·rw[if_pos e3,aP e2];exact hu
   ·rw[if_neg e3];exact hu
 len:=by show K.us.length=bT.length;rw[hl];exact h.len
 fit:=h.fit
 held:=fun s hs=>by
  have hs':bT.getD s 0≠0:=hs
  by_cases e2:s=r
  ·subst e2;exact h.held s (by omega)
  ·rw[o1 s e2]at hs';exact h.held s hs'
 mx:=fun s=>by
  show bT.getD s 0≤65535
  have:=h.mx r
  by_cases e2:s=r
  ·subst e2;omega
  ·rw[o1 s e2];exact h.mx s
 room:=h.room
 cap:=h.cap
theorem ji.congr(h:ji K S E P){E':Nat→Prop}{P':Nat→Nat}(hE:∀s,E s↔E' s)(hP:∀s,2≤s→P s=P' s):ji K S E' P' where
 two:=h.two
 var:=h.var
 ne:=h.ne
 lo:=h.lo
 hi:=h.hi
 int:=h.int
 jB:=fun d r=>by rw[h.jB,hE]
 use:=fun{s e} hs=>by rw[←hP s (h.two hs).1];exact h.use hs
 len:=h.len
 fit:=h.fit
 held:=h.held
 mx:=h.mx
 room:=h.room
 cap:=h.cap
def iB:Nat→Prop:=fun _=>False
def zero':Nat→Nat:=fun _=>0
structure Ok(K:Kd)(S:Nat→Fn)(av:Nat→Nat):Prop where
 mid:ji K S iB zero'
 pos:Pos K
 lv:uO K.n av
 wf:WF K.n av K.N
theorem ji.uq(h:ji K S iB P){r r':Nat}{d:Nd}(h1:K.N r=some d)(h2:K.N r'=some d):r=r':=by
 have a:=(h.jB d r).2 ⟨h1,fun x=>x⟩
 have b:=(h.jB d r').2 ⟨h2,fun x=>x⟩
 rw[a]at b;cases b;rfl
theorem ji.wf(h:ji K S iB P){av:Nat→Nat}(hl:∀{r d},K.N r=some d→av d.v<dep K.n av K.N d.lo∧av d.v<dep K.n av K.N d.hi):WF K.n av K.N:=
 ⟨fun hd=>(h.two hd).1,h.var,h.ne,fun hd=>⟨h.lo hd,(hl hd).1⟩,fun hd=>⟨h.hi hd,(hl hd).2⟩,h.uq⟩
theorem Ok.reach{av:Nat→Nat}(h:Ok K S av):Reach K.N (fun r=>K.hold r≠0):=fun r d hd=>by
 have hu:=h.mid.use hd
 have hp:=h.pos r d hd
 by_cases e:K.hold r=0
 ·rw[if_pos e]at hu
  have:zero' r=0:=rfl
  obtain⟨s,e',_,h1,h2⟩:=qC (N:=K.N) (r:=r) (k:=K.cap) (by omega)
  exact .inr ⟨s,e',h1,h2⟩
 ·exact .inl e
theorem Ok.dom{av:Nat→Nat}(h:Ok K S av):∃dom:List Nat,dom.Nodup∧dom.length+2=K.used∧∀r,r∈dom↔∃d,K.N r=some d:=by
 refine⟨(List.range K.cap).filter fun r=>(K.N r).isSome,List.nodup_range.filter _,by rw[zZ,h.mid.room];omega,fun r=>?_⟩
 rw[List.mem_filter,List.mem_range,Option.isSome_iff_exists]
 exact⟨fun h=>h.2,fun⟨d,hd⟩=>⟨(h.mid.two hd).2,d,hd⟩⟩
def Kd.held(K:Kd)(S:Nat→Fn):Fn→Prop:=Fs S fun r=>K.hold r≠0
theorem Ok.size{av:Nat→Nat}{ord:List Nat}(h:Ok K S av)(ho:Ord K.n av ord):oQ (cg K.n ord (K.held S)) (K.used-2):=by
 obtain⟨dom,h1,h2,h3⟩:=h.dom
 have hc:=wg h.wf h.lv h.mid.int h1 h3
 rw[show dom.length=K.used-2 by omega]at hc
 refine hc.congr fun g=>?_
 exact(mg h.wf h.lv ho h.mid.int (fun r hr=>.inr (h.mid.held r hr)) h.reach g).symm
end bc
namespace bc
open aj
variable {n:Nat} {av:Nat→Nat} {N:gC} {S:Nat→Fn} {ord:List Nat} {K:Kd}
def pl(N:gC)(y r:Nat):Nat:=match N r with|some e=>if e.v=y then e.lo else r|none=>r
def ph(N:gC)(y r:Nat):Nat:=match N r with|some e=>if e.v=y then e.hi else r|none=>r
theorem O4{y r:Nat}{e:Nd}(h:N r=some e)(hv:e.v=y):pl N y r=e.lo∧ph N y r=e.hi:=by simp[pl,ph,h,hv]
theorem O5{y r:Nat}(h:∀e,N r=some e→e.v≠y):pl N y r=r∧ph N y r=r:=by
 unfold pl ph
 cases hr:N r with
 |none=>exact⟨rfl,rfl⟩
 |some e=>simp[h e hr]
theorem WF.half(h:WF n av N)(hl:uO n av)(hi:Interp N S){y l r:Nat}(hy:y<n∧av y=l+1)(hr:live N r)(hd:l<dep n av N r):
  (live N (pl N y r)∧l+1<dep n av N (pl N y r))∧(live N (ph N y r)∧l+1<dep n av N (ph N y r))∧∀z,S r z=if z.testBit y then S (ph N y r) z else S (pl N y r) z:=by
 by_cases e:∃e,N r=some e∧e.v=y
 ·obtain⟨e,he,hv⟩:=e
  obtain⟨p1,p2⟩:=O4 he hv
  rw[p1,p2]
  have h1:=h.lo he
  have h2:=h.hi he
  rw[hv,hy.2]at h1 h2
  exact⟨h1,h2,fun z=>by rw[hi.node he,hv]⟩
 ·have ho:∀e',N r=some e'→e'.v≠y:=fun e' h1 h2=>e ⟨e',h1,h2⟩
  obtain⟨p1,p2⟩:=O5 ho
  rw[p1,p2]
  have vR:l+1<dep n av N r:=by
   rcases hr with hr|⟨e',he⟩
   ·rw[cO (h.const hr)]
    have:=hl.lt y hy.1;omega
   ·rw[aM he]at hd⊢
    have h1:=ho e' he
    refine Nat.lt_of_le_of_ne hd fun e2=>h1 (hl.inj _ _ (h.var he) hy.1 (by omega))
  exact⟨⟨hr,vR⟩,⟨hr,vR⟩,fun z=>by split<;>rfl⟩
theorem WF.P1(h:WF n av N)(hl:uO n av)(hi:Interp N S){y l a b:Nat}(hy:y<n∧av y=l+1)(ha:live N a)(hb:live N b)(da:l<dep n av N a)(db:l<dep n av N b)
 (h1:pl N y a=pl N y b)(h2:ph N y a=ph N y b):a=b:=by
 refine h.same hl hi ha hb fun z=>?_
 rw[(h.half hl hi hy ha da).2.2 z,(h.half hl hi hy hb db).2.2 z,h1,h2]
structure Cx where
 r:Nat
 d:Nd
 u6:Nat
 u5:Nat
 rR:Nat
 rQ:Nat
def k9(N:gC)(x y r:Nat)(d:Nd):Prop:=N r=some d∧d.v=x∧((∃e,N d.lo=some e∧e.v=y)∨∃e,N d.hi=some e∧e.v=y)
def mC(N:gC)(y r:Nat)(d:Nd):Cx:=⟨r,d,pl N y d.lo,ph N y d.lo,pl N y d.hi,ph N y d.hi⟩
structure Gu(N:gC)(x y:Nat)(l:List Cx):Prop where
 nd:(l.map Cx.r).Nodup
 mem:∀c,c∈l↔k9 N x y c.r c.d∧c=mC N y c.r c.d
def keys(x:Nat)(c:Cx):List Nd:=[⟨x,c.u6,c.rR⟩,⟨x,c.u5,c.rQ⟩]
structure Made(K:Kd)(x:Nat)(l:List Cx)(made:List Nd):Prop where
 nd:made.Nodup
 mem:∀k,k∈made↔(∃c∈l,k∈keys x c)∧K.T k=none∧k.lo≠k.hi
structure Nb(n:Nat)(av:Nat→Nat)(x y l:Nat):Prop where
 xn:x<n
 yn:y<n
 lx:av x=l
 ly:av y=l+1
variable {x y l:Nat}
theorem Nb.ne(h:Nb n av x y l):x≠y:=fun e=>by have h1:=h.lx;have h2:=h.ly;rw[e]at h1;omega
theorem Nb.yy(h:Nb n av x y l):y<n∧av y=l+1:=⟨h.yn,h.ly⟩
theorem kf(h:WF n av N)(hl:uO n av)(hi:Interp N S)(hb:Nb n av x y l){r:Nat}{d:Nd}(hd:N r=some d)(hx:d.v=x){k:Nd}(hk:k∈keys x (mC N y r d)):
  k.v=x∧(live N k.lo∧l+1<dep n av N k.lo)∧(live N k.hi∧l+1<dep n av N k.hi):=by
 have h1:=h.lo hd
 have h2:=h.hi hd
 rw[hx,hb.lx]at h1 h2
 have a:=h.half hl hi hb.yy h1.1 h1.2
 have b:=h.half hl hi hb.yy h2.1 h2.2
 simp only[keys,mC,List.mem_cons,List.not_mem_nil,or_false]at hk
 rcases hk with rfl|rfl
 ·exact⟨rfl,a.1,b.1⟩
 ·exact⟨rfl,a.2.1,b.2.1⟩
theorem tR(h:WF n av N)(hl:uO n av)(hi:Interp N S)(hb:Nb n av x y l){r:Nat}{d:Nd}(hd:N r=some d)(hx:d.v=x)(z:Nat):
  S r z=if z.testBit y then ite S ⟨x,ph N y d.lo,ph N y d.hi⟩ z else ite S ⟨x,pl N y d.lo,pl N y d.hi⟩ z:=by
 have h1:=h.lo hd
 have h2:=h.hi hd
 rw[hx,hb.lx]at h1 h2
 have a:=(h.half hl hi hb.yy h1.1 h1.2).2.2 z
 have b:=(h.half hl hi hb.yy h2.1 h2.2).2.2 z
 rw[hi.node hd,hx,a,b]
 unfold ite
 simp only
 cases z.testBit x<;>cases z.testBit y<;>rfl
theorem iM(h:WF n av N)(hl:uO n av)(hi:Interp N S)(hb:Nb n av x y l){k:Nd}(hk:k.v=x)(h1:live N k.lo∧l+1<dep n av N k.lo)(h2:live N k.hi∧l+1<dep n av N k.hi)(z:Nat)(b:Bool):
  ite S k (aI z x b)=S (if b then k.hi else k.lo) z:=by
 unfold ite
 rw[hk,aq,if_pos rfl]
 cases b
 ·simp only[Bool.false_eq_true,if_false];exact h.df hl hi h1.1 hb.xn (by rw[hb.lx];omega) z false
 ·simp only[if_true];exact h.df hl hi h2.1 hb.xn (by rw[hb.lx];omega) z true
theorem iR(h:WF n av N)(hl:uO n av)(hi:Interp N S)(hb:Nb n av x y l){k:Nd}(hk:k.v=x)(h1:live N k.lo∧l+1<dep n av N k.lo)(h2:live N k.hi∧l+1<dep n av N k.hi){u:Nat}(hu:u<n)(xk:av u≤l+1)(hne:u≠x)(z:Nat)(b:Bool):
  ite S k (aI z u b)=ite S k z:=by
 unfold ite
 rw[hk,aq,if_neg (Ne.symm hne),h.df hl hi h1.1 hu (by omega),h.df hl hi h2.1 hu (by omega)]
theorem ov(h:WF n av N)(hl:uO n av)(hi:Interp N S){r:Nat}{d:Nd}(hd:N r=some d):∃z,S r (aI z d.v false)≠S r (aI z d.v true):=by
 refine Classical.byContradiction fun hno=>h.ne hd (h.same hl hi (h.lo hd).1 (h.hi hd).1 fun z=>?_)
 have c1:=h.child hl hi hd z false
 have c2:=h.child hl hi hd z true
 simp only[Bool.false_eq_true,if_false,if_true]at c1 c2
 rw[←c1,←c2]
 exact Classical.byContradiction fun hne=>hno ⟨z,hne⟩
theorem Lx(h:WF n av N)(hl:uO n av)(hi:Interp N S)(hb:Nb n av x y l){k:Nd}(hk:k.v=x)(hne:k.lo≠k.hi)(h1:live N k.lo∧l+1<dep n av N k.lo)(h2:live N k.hi∧l+1<dep n av N k.hi)
 {r:Nat}{d:Nd}(hd:N r=some d)(he:ite S k=S r):d=k:=by
 have hv:=h.var hd
 have hvx:d.v=x:=by
  rcases Nat.lt_trichotomy (av d.v) l with hlt|heq|hgt
  ·obtain⟨z,hz⟩:=ov h hl hi hd
   have Wo:d.v≠x:=fun e=>by rw[e,hb.lx]at hlt;omega
   rw[←he,iR h hl hi hb hk h1 h2 hv (by omega) Wo,iR h hl hi hb hk h1 h2 hv (by omega) Wo]at hz
   exact absurd rfl hz
  ·exact hl.inj _ _ hv hb.xn (by rw[hb.lx];exact heq)
  ·refine absurd (h.same hl hi h1.1 h2.1 fun z=>?_) hne
   have c1:=iM h hl hi hb hk h1 h2 z false
   have c2:=iM h hl hi hb hk h1 h2 z true
   simp only[Bool.false_eq_true,if_false,if_true]at c1 c2
   have hdp:av x<dep n av N r:=by rw[aM hd,hb.lx];exact hgt
   rw[←c1,←c2,he,h.df hl hi (.inr ⟨d,hd⟩) hb.xn hdp,h.df hl hi (.inr ⟨d,hd⟩) hb.xn hdp]
 have c:∀(b:Bool) z,S (if b then k.hi else k.lo) z=S (if b then d.hi else d.lo) z:=fun(b:Bool) z=>by
  rw[←iM h hl hi hb hk h1 h2 z b,he,←hvx,h.child hl hi hd z b]
 have e1:=h.same hl hi h1.1 (h.lo hd).1 (fun z=>by simpa using c false z)
 have e2:=h.same hl hi h2.1 (h.hi hd).1 (fun z=>by simpa using c true z)
 cases d;cases k;simp_all
theorem Pv(h:WF n av N)(hl:uO n av)(hi:Interp N S)(hb:Nb n av x y l){k k':Nd}(hk:k.v=x)(hk':k'.v=x)(h1:live N k.lo∧l+1<dep n av N k.lo)(h2:live N k.hi∧l+1<dep n av N k.hi)
 (xC:live N k'.lo∧l+1<dep n av N k'.lo)(oP:live N k'.hi∧l+1<dep n av N k'.hi)(he:ite S k=ite S k'):k=k':=by
 have c:∀(b:Bool) z,S (if b then k.hi else k.lo) z=S (if b then k'.hi else k'.lo) z:=fun(b:Bool) z=>by
  rw[←iM h hl hi hb hk h1 h2 z b,he,iM h hl hi hb hk' xC oP z b]
 have e1:=h.same hl hi h1.1 xC.1 (fun z=>by simpa using c false z)
 have e2:=h.same hl hi h2.1 oP.1 (fun z=>by simpa using c true z)
 cases k;cases k';simp_all
def ez(ord:List Nat)(l:Nat):List Nat:=(ord.set l (ord.getD (l+1) 0)).set (l+1) (ord.getD l 0)
theorem jC(ord:List Nat)(l:Nat):(ez ord l).length=ord.length:=by simp[ez]
theorem eL{i:Nat}(hl:l+1<ord.length):(ez ord l).getD i 0=if i=l then ord.getD (l+1) 0 else if i=l+1 then ord.getD l 0 else ord.getD i 0:=by
 unfold ez
 rw[List.getD_eq_getElem?_getD,List.getElem?_set,List.getElem?_set]
 by_cases e1:l+1=i
 ·subst e1
  rw[if_pos rfl,if_pos (by simp;omega),if_neg (by omega),if_pos rfl];rfl
 ·rw[if_neg e1]
  by_cases e2:l=i
  ·subst e2;rw[if_pos rfl,if_pos (by omega),if_pos rfl];rfl
  ·rw[if_neg e2,if_neg (fun e=>e2 e.symm),if_neg (fun e=>e1 e.symm),←List.getD_eq_getElem?_getD]
def rH(av:Nat→Nat)(x y l:Nat):Nat→Nat:=fun v=>if v=x then l+1 else if v=y then l else av v
theorem OT(hl:uO n av)(hb:Nb n av x y l):uO n (rH av x y l):=by
 have Tn:=hl.lt y hb.yn
 rw[hb.ly]at Tn
 have key:∀v,v<n→v≠x→v≠y→av v≠l∧av v≠l+1:=fun v hv h1 h2=>⟨fun e=>h1 (hl.inj _ _ hv hb.xn (by rw[hb.lx];exact e)),fun e=>h2 (hl.inj _ _ hv hb.yn (by rw[hb.ly];exact e))⟩
 refine⟨fun v hv=>?_,fun u v hu hv he=>?_⟩
 ·unfold rH
  split
  ·exact Tn
  ·split
   ·omega
   ·exact hl.lt v hv
 ·unfold rH at he
  by_cases u1:u=x
  ·by_cases v1:v=x
   ·rw[u1,v1]
   ·rw[if_pos u1,if_neg v1]at he
    by_cases v2:v=y
    ·rw[if_pos v2]at he;omega
    ·rw[if_neg v2]at he;exact absurd he.symm (key v hv v1 v2).2
  ·rw[if_neg u1]at he
   by_cases u2:u=y
   ·rw[if_pos u2]at he
    by_cases v1:v=x
    ·rw[if_pos v1]at he;omega
    ·rw[if_neg v1]at he
     by_cases v2:v=y
     ·rw[u2,v2]
     ·rw[if_neg v2]at he;exact absurd he.symm (key v hv v1 v2).1
   ·rw[if_neg u2]at he
    by_cases v1:v=x
    ·rw[if_pos v1]at he;exact absurd he (key u hu u1 u2).2
    ·rw[if_neg v1]at he
     by_cases v2:v=y
     ·rw[if_pos v2]at he;exact absurd he (key u hu u1 u2).1
     ·rw[if_neg v2]at he;exact hl.inj _ _ hu hv he
theorem Ord.nb(ho:Ord n av ord)(hl:l+1<n):Nb n av (ord.getD l 0) (ord.getD (l+1) 0) l:=
 ⟨(ho.bu l (by omega)).1,(ho.bu (l+1) hl).1,(ho.bu l (by omega)).2,(ho.bu (l+1) hl).2⟩
theorem OS(ho:Ord n av ord)(hl:l+1<n):Ord n (rH av (ord.getD l 0) (ord.getD (l+1) 0) l) (ez ord l):=by
 have hb:=ho.nb hl
 refine⟨by rw[jC,ho.len],fun i hi=>?_⟩
 rw[eL (by rw[ho.len];exact hl)]
 unfold rH
 by_cases e1:i=l
 ·subst e1;rw[if_pos rfl];refine⟨hb.yn,?_⟩;rw[if_neg (Ne.symm hb.ne),if_pos rfl]
 ·rw[if_neg e1]
  by_cases e2:i=l+1
  ·subst e2;rw[if_pos rfl];refine⟨hb.xn,?_⟩;rw[if_pos rfl]
  ·rw[if_neg e2]
   obtain⟨h1,h2⟩:=ho.bu i hi
   refine⟨h1,?_⟩
   rw[if_neg,if_neg]
   ·exact h2
   ·intro e;rw[e,hb.ly]at h2;omega
   ·intro e;rw[e,hb.lx]at h2;omega
variable {F:Fn→Prop}
theorem BY(hl:l+1<ord.length)(hne:ord.getD l 0≠ord.getD (l+1) 0):∀m,m≠l+1→∀g,fs (ez ord l) F m g↔fs ord F m g
 |0,_,g=>Iff.rfl
 |m+1,hm,g=>by
  by_cases e:m=l+1
  ·subst e
   have g1:(ez ord l).getD (l+1) 0=ord.getD l 0:=by rw[eL hl,if_neg (by omega),if_pos rfl]
   have g2:(ez ord l).getD l 0=ord.getD (l+1) 0:=by rw[eL hl,if_pos rfl]
   have ih:=BY hl hne l (by omega)
   constructor
   ·rintro⟨f,⟨f',h,b,rfl⟩,b',rfl⟩
    refine⟨_,⟨f',(ih f').1 h,b',rfl⟩,b,?_⟩
    funext z
    rw[g1,g2]
    show f' _=f' _
    rw[eA hne]
   ·rintro⟨f,⟨f',h,b,rfl⟩,b',rfl⟩
    refine⟨_,⟨f',(ih f').2 h,b',rfl⟩,b,?_⟩
    funext z
    rw[g1,g2]
    show f' _=f' _
    rw[eA (Ne.symm hne)]
  ·have ih:=BY hl hne m e
   have hg:(ez ord l).getD m 0=ord.getD m 0:=by rw[eL hl,if_neg (by omega),if_neg e]
   constructor
   ·rintro⟨f,h,b,rfl⟩;exact⟨f,(ih f).1 h,b,by rw[hg]⟩
   ·rintro⟨f,h,b,rfl⟩;exact⟨f,(ih f).2 h,b,by rw[hg]⟩
theorem Kv(h:Ok K S av)(ho:Ord K.n av ord)(N9:l+1<K.n){all:List Cx}(hc:Gu K.N (ord.getD l 0) (ord.getD (l+1) 0) all){made:List Nd}(hm:Made K (ord.getD l 0) all made):
  oQ (fun g=>cg K.n ord (K.held S) g∨cg K.n (ez ord l) (K.held S) g) (K.used-2+made.length):=by
 have hb:=ho.nb N9
 have hlen:l+1<ord.length:=by rw[ho.len];exact N9
 have hw:=h.wf
 have hlv:=h.lv
 have hi:=h.mid.int
 have hR:∀r,K.hold r≠0→live K.N r:=fun r hr=>.inr (h.mid.held r hr)
 generalize hx:ord.getD l 0=x at*
 generalize hy:ord.getD (l+1) 0=y at*
 have k6:∀k∈made,k.v=x∧(live K.N k.lo∧l+1<dep K.n av K.N k.lo)∧(live K.N k.hi∧l+1<dep K.n av K.N k.hi):=fun k hk=>by
  obtain⟨⟨c,JD,hkc⟩,_⟩:=(hm.mem k).1 hk
  obtain⟨⟨hd,Mf,_⟩,e⟩:=(hc.mem c).1 JD
  rw[e]at hkc
  exact kf hw hlv hi hb hd Mf hkc
 obtain⟨dom,d1,d2,d3⟩:=h.dom
 have c1:=wg hw hlv hi d1 d3
 rw[show dom.length=K.used-2 by omega]at c1
 have c2:oQ (fun g=>∃k∈made,g=ite S k) made.length:=by
  refine⟨made.map (ite S),?_,by simp,fun g=>?_⟩
  ·refine List.pairwise_map.2 (hm.nd.imp_of_mem fun{a b} ha hb' hne heq=>hne ?_)
   obtain⟨a1,a2,a3⟩:=k6 a ha
   obtain⟨b1,b2,b3⟩:=k6 b hb'
   exact Pv hw hlv hi hb a1 b1 a2 a3 b2 b3 heq
  ·rw[List.mem_map]
   constructor
   ·rintro⟨k,hk,rfl⟩;exact⟨k,hk,rfl⟩
   ·rintro⟨k,hk,rfl⟩;exact⟨k,hk,rfl⟩
 refine(c1.or c2 ?_).congr fun g=>?_
 ·rintro g ⟨r,d,hd,rfl⟩ ⟨k,hk,he⟩
  obtain⟨a1,a2,a3⟩:=k6 k hk
  obtain⟨_,hT,hne⟩:=(hm.mem k).1 hk
  have:=Lx hw hlv hi hb a1 hne a2 a3 hd he.symm
  subst this
  rw[(h.mid.jB d r).2 ⟨hd,fun x=>x⟩]at hT;cases hT
 ·have Wm:=mg hw hlv ho hi hR h.reach
  have oO:=fun m (hmn:m≤K.n) g=>Qk hw hlv ho hi hR m hmn g
  have hne:ord.getD l 0≠ord.getD (l+1) 0:=by rw[hx,hy];exact hb.ne
  have FM:=BY (F:=K.held S) hlen hne
  have gl:(ez ord l).getD l 0=y:=by rw[eL hlen,if_pos rfl,hy]
  have gl1:(ez ord l).getD (l+1) 0=x:=by rw[eL hlen,if_neg (by omega),if_pos rfl,hx]
  have go:∀m,m≠l→m≠l+1→(ez ord l).getD m 0=ord.getD m 0:=fun m h1 h2=>by rw[eL hlen,if_neg h1,if_neg h2]
  constructor
  ·rintro(⟨r,d,hd,rfl⟩|⟨k,hk,rfl⟩)
   ·exact .inl ((Wm _).2 ⟨r,d,hd,rfl⟩)
   ·obtain⟨a1,a2,a3⟩:=k6 k hk
    obtain⟨⟨c,JD,hkc⟩,hT,TJ⟩:=(hm.mem k).1 hk
    obtain⟨⟨hd,Mf,_⟩,e⟩:=(hc.mem c).1 JD
    refine .inr ⟨l+1,N9,?_,?_⟩
    ·have hA:=Sb hw h.reach _ c.r c.d hd (Nat.le_refl _)
     rw[Mf,hb.lx]at hA
     refine⟨S c.r,(FM l (by omega) _).2 ((oO l (by omega) _).2 ⟨c.r,hA,rfl⟩),?_⟩
     have RG:=tR hw hlv hi hb hd Mf
     rw[e]at hkc
     simp only[keys,mC,List.mem_cons,List.not_mem_nil,or_false]at hkc
     rw[gl]
     rcases hkc with rfl|rfl
     ·refine⟨false,?_⟩
      funext z
      rw[RG,aq,if_pos rfl,if_neg (by simp),iR hw hlv hi hb rfl a2 a3 hb.yn (by rw[hb.ly];exact Nat.le_refl _) (Ne.symm hb.ne)]
     ·refine⟨true,?_⟩
      funext z
      rw[RG,aq,if_pos rfl,if_pos rfl,iR hw hlv hi hb rfl a2 a3 hb.yn (by rw[hb.ly];exact Nat.le_refl _) (Ne.symm hb.ne)]
    ·rw[gl1]
     refine Classical.byContradiction fun hno=>TJ (hw.same hlv hi a2.1 a3.1 fun z=>?_)
     have c1:=iM hw hlv hi hb a1 a2 a3 z false
     have c2:=iM hw hlv hi hb a1 a2 a3 z true
     simp only[Bool.false_eq_true,if_false,if_true]at c1 c2
     rw[←c1,←c2]
     exact Classical.byContradiction fun hne=>hno ⟨z,hne⟩
  ·rintro(hg|⟨m,hmn,hf,hh⟩)
   ·exact .inl ((Wm g).1 hg)
   ·by_cases e1:m=l+1
    ·subst e1
     rw[gl1]at hh
     obtain⟨f,hf,b,rfl⟩:=hf
     rw[gl]at hh⊢
     obtain⟨r,hA,rfl⟩:=(oO l (by omega) f).1 ((FM l (by omega) f).1 hf)
     obtain⟨hlr,hle⟩:=qM hw hR l r hA
     have hgt:dep K.n av K.N r=l:=by
      refine Nat.le_antisymm (Nat.le_of_not_lt fun hlt=>?_) hle
      obtain⟨z,hz⟩:=hh
      refine hz ?_
      show S r (aI (aI z x false) y b)=S r (aI (aI z x true) y b)
      rw[eA hb.ne,eA hb.ne,hw.df hlv hi hlr hb.xn (by rw[hb.lx];exact hlt),hw.df hlv hi hlr hb.xn (by rw[hb.lx];exact hlt)]
     rcases hlr with zn|⟨d,hd⟩
     ·rw[cO (hw.const zn)]at hgt;omega
     ·rw[aM hd]at hgt
      have Mf:d.v=x:=hlv.inj _ _ (hw.var hd) hb.xn (by rw[hb.lx];exact hgt)
      have RG:=tR hw hlv hi hb hd Mf
      have hkk:∃k∈keys x (mC K.N y r d),(fun z=>S r (aI z y b))=ite S k:=by
       cases b
       ·refine⟨_,List.mem_cons_self,?_⟩
        obtain⟨a1,a2,a3⟩:=kf hw hlv hi hb hd Mf (k:=⟨x,pl K.N y d.lo,pl K.N y d.hi⟩) List.mem_cons_self
        funext z
        rw[RG,aq,if_pos rfl,if_neg (by simp),iR hw hlv hi hb rfl a2 a3 hb.yn (by rw[hb.ly];exact Nat.le_refl _) (Ne.symm hb.ne)];rfl
       ·refine⟨_,List.mem_cons_of_mem _ List.mem_cons_self,?_⟩
        obtain⟨a1,a2,a3⟩:=kf hw hlv hi hb hd Mf (k:=⟨x,ph K.N y d.lo,ph K.N y d.hi⟩) (List.mem_cons_of_mem _ List.mem_cons_self)
        funext z
        rw[RG,aq,if_pos rfl,if_pos rfl,iR hw hlv hi hb rfl a2 a3 hb.yn (by rw[hb.ly];exact Nat.le_refl _) (Ne.symm hb.ne)];rfl
      obtain⟨k,hkm,hke⟩:=hkk
      obtain⟨a1,a2,a3⟩:=kf hw hlv hi hb hd Mf hkm
      rw[hke]at hh⊢
      have TJ:k.lo≠k.hi:=fun e=>by
       obtain⟨z,hz⟩:=hh
       have c1:=iM hw hlv hi hb a1 a2 a3 z false
       have c2:=iM hw hlv hi hb a1 a2 a3 z true
       simp only[Bool.false_eq_true,if_false,if_true]at c1 c2
       rw[c1,c2,e]at hz;exact hz rfl
      cases hT:K.T k with
      |some s=>
       have hs:=((h.mid.jB k s).1 hT).1
       refine .inl ⟨s,k,hs,?_⟩
       funext z
       exact(hi.node hs z).symm
      |none=>
       by_cases TT:k9 K.N x y r d
       ·exact .inr ⟨k,(hm.mem k).2 ⟨⟨mC K.N y r d,(hc.mem _).2 ⟨TT,rfl⟩,hkm⟩,hT,TJ⟩,rfl⟩
       ·have hno:∀t,t=d.lo∨t=d.hi→pl K.N y t=t∧ph K.N y t=t:=fun t ht=>O5 fun e he hv=>TT ⟨hd,Mf,by
         rcases ht with rfl|rfl
         ·exact .inl ⟨e,he,hv⟩
         ·exact .inr ⟨e,he,hv⟩⟩
        have e1:=hno d.lo (.inl rfl)
        have e2:=hno d.hi (.inr rfl)
        have:k=d:=by
         simp only[keys,mC,e1.1,e1.2,e2.1,e2.2,List.mem_cons,List.not_mem_nil,or_false,or_self]at hkm
         rw[hkm,←Mf]
        rw[this,(h.mid.jB d r).2 ⟨hd,fun x=>x⟩]at hT;cases hT
    ·by_cases e2:m=l
     ·subst e2
      rw[gl]at hh
      obtain⟨r,hA,rfl⟩:=(oO m (by omega) g).1 ((FM m e1 g).1 hf)
      obtain⟨hlr,hle⟩:=qM hw hR m r hA
      rcases hlr with zn|⟨d,hd⟩
      ·obtain⟨z,hz⟩:=hh
       have:∀z,S r z=S r 0:=fun z=>by
        have:r=0∨r=1:=by omega
        rcases this with rfl|rfl
        ·rw[hi.zero,hi.zero]
        ·rw[hi.one,hi.one]
       rw[this (aI z y false),this (aI z y true)]at hz
       exact absurd rfl hz
      ·exact .inl ⟨r,d,hd,rfl⟩
     ·refine .inl ((Wm g).1 ⟨m,hmn,(FM m e1 g).1 hf,?_⟩)
      rw[go m e2 e1]at hh;exact hh
end bc
namespace bc
open aj
def rB(K:Kd)(av:Nat→Nat)(l t:Nat):Prop:=live K.N t∧l+1<dep K.n av K.N t
def ve(K0 K:Kd)(av:Nat→Nat)(x l t:Nat):Prop:=rB K0 av l t∨∃e,K.N t=some e∧e.v=x∧rB K0 av l e.lo∧rB K0 av l e.hi
structure TI(K0:Kd)(S0:Nat→Fn)(av:Nat→Nat)(x y l:Nat)(made:List Nd)(K:Kd)(S:Nat→Fn)(done rest:List Cx)(P:Nat→Nat):Prop where
 mid:ji K S (fun s=>∃c∈rest,s=c.r) P
 n:K.n=K0.n
 cap:K.cap=K0.cap
 hold:∀r,K.hold r=K0.hold r
 ext:∀r,live K0.N r→S r=S0 r
 old:∀{r d},K0.N r=some d→r∉done.map Cx.r→K.N r=some d
 kept:∀{r d},K0.N r=some d→∃d',K.N r=some d'
 new:∀{r d},K.N r=some d→(K0.N r=some d∧r∉done.map Cx.r)∨(r∈done.map Cx.r∧d.v=y∧ve K0 K av x l d.lo∧ve K0 K av x l d.hi)∨(K0.N r=none∧d.v=x∧rB K0 av l d.lo∧rB K0 av l d.hi)
 used:K.used=K0.used+(made.filter fun k=>(K.T k).isSome).length
structure TB(K0:Kd)(S0:Nat→Fn)(av:Nat→Nat)(x y l:Nat)(all:List Cx)(made:List Nd):Prop where
 ok:Ok K0 S0 av
 nb:Nb K0.n av x y l
 cx:Gu K0.N x y all
 VM:Made K0 x all made
 room:K0.used+made.length≤K0.cap
section
variable {K0 K:Kd} {S0 S:Nat→Fn} {av:Nat→Nat} {x y l:Nat} {made:List Nd} {done rest all:List Cx} {P:Nat→Nat}
theorem TB.mD(b:TB K0 S0 av x y l all made){c:Cx}(hc:c∈all):K0.N c.r=some c.d∧c.d.v=x∧c=mC K0.N y c.r c.d:=by
 obtain⟨⟨h1,h2,_⟩,h3⟩:=(b.cx.mem c).1 hc
 exact⟨h1,h2,h3⟩
theorem TB.Ph(b:TB K0 S0 av x y l all made){c:Cx}(hc:c∈all):(rB K0 av l c.u6∧rB K0 av l c.rR)∧(rB K0 av l c.u5∧rB K0 av l c.rQ):=by
 obtain⟨h1,h2,h3⟩:=b.mD hc
 have k1:=kf b.ok.wf b.ok.lv b.ok.mid.int b.nb h1 h2 (k:=⟨x,pl K0.N y c.d.lo,pl K0.N y c.d.hi⟩) List.mem_cons_self
 have k2:=kf b.ok.wf b.ok.lv b.ok.mid.int b.nb h1 h2 (k:=⟨x,ph K0.N y c.d.lo,ph K0.N y c.d.hi⟩) (List.mem_cons_of_mem _ List.mem_cons_self)
 rw[h3]
 exact⟨⟨k1.2.1,k1.2.2⟩,⟨k2.2.1,k2.2.2⟩⟩
theorem TB.level(b:TB K0 S0 av x y l all made){c:Cx}(hc:c∈all):dep K0.n av K0.N c.r=l:=by
 obtain⟨h1,h2,_⟩:=b.mD hc
 rw[aM h1,h2,b.nb.lx]
theorem TB.start(b:TB K0 S0 av x y l all made){T:Nd→Option Nat}(hm:ji {K0 with T:=T} S0 (fun s=>∃c∈all,s=c.r) zero')(hT:∀d,T d=none∨T d=K0.T d):
  TI K0 S0 av x y l made {K0 with T:=T} S0 [] all zero' where
 mid:=hm
 n:=rfl
 cap:=rfl
 hold:=fun _=>rfl
 ext:=fun _ _=>rfl
 old:=fun h _=>h
 kept:=fun h=>⟨_,h⟩
 new:=fun h=>.inl ⟨h,by simp⟩
 used:=by
  have:made.filter (fun k=>(T k).isSome)=[]:=by
   rw[List.filter_eq_nil_iff]
   intro k hk
   have h1:=((b.VM.mem k).1 hk).2.1
   rcases hT k with h2|h2
   ·rw[h2];simp
   ·rw[h2,h1];simp
  show K0.used=K0.used+(made.filter (fun k=>(T k).isSome)).length
  rw[this];simp
theorem TI.Pk(b:TB K0 S0 av x y l all made)(h:TI K0 S0 av x y l made K S done rest P)(hd:∀c∈done,c∈all){t:Nat}(ht:rB K0 av l t):K.N t=K0.N t:=by
 rcases ht with⟨ht|⟨d,ei⟩,hlt⟩
 ·cases e:K.N t with
  |none=>rw[b.ok.wf.const ht]
  |some d=>have:=(h.mid.two e).1;omega
 ·rw[ei]
  refine h.old ei fun hm=>?_
  obtain⟨c,hc,e⟩:=List.mem_map.1 hm
  have:=b.level (hd c hc)
  rw[e]at this;omega
theorem TI.pw(b:TB K0 S0 av x y l all made)(h:TI K0 S0 av x y l made K S done rest P)(hd:∀c∈done,c∈all){t:Nat}(ht:rB K0 av l t):live K.N t:=by
 have e:=h.Pk b hd ht
 rcases ht.1 with ht|⟨d,ei⟩
 ·exact .inl ht
 ·exact .inr ⟨d,by rw[e];exact ei⟩
theorem TI.pB(b:TB K0 S0 av x y l all made)(h:TI K0 S0 av x y l made K S done rest P)(hd:∀c∈done,c∈all){t:Nat}(ht:ve K0 K av x l t):live K.N t:=by
 rcases ht with ht|⟨e,he,_⟩
 ·exact h.pw b hd ht
 ·exact .inr ⟨e,he⟩
theorem TI.use(h:TI K0 S0 av x y l made K S done rest P){r:Nat}{dk:List Nat}(hl:dk.length=K.us.length)(h1:dk.getD r 0=K.use r+1)(h2:∀s,s≠r→dk.getD s 0=K.use s):
  TI K0 S0 av x y l made {K with us:=dk} S done rest (up P r (P r+1)) where
 mid:=h.mid.more hl h1 h2
 n:=h.n
 cap:=h.cap
 hold:=h.hold
 ext:=h.ext
 old:=h.old
 kept:=h.kept
 new:=h.new
 used:=h.used
theorem TI.congr(h:TI K0 S0 av x y l made K S done rest P){P':Nat→Nat}(hP:∀s,2≤s→P s=P' s):TI K0 S0 av x y l made K S done rest P' where
 mid:=h.mid.congr (fun _=>Iff.rfl) hP
 n:=h.n
 cap:=h.cap
 hold:=h.hold
 ext:=h.ext
 old:=h.old
 kept:=h.kept
 new:=h.new
 used:=h.used
theorem filter_lt{α:Type}{p:α→Bool}{k:α}:∀{m:List α},k∈m→p k=false→(m.filter p).length<m.length
 | [],h,_=>by simp at h
 |z::m,h,hp=>by
  rcases List.mem_cons.1 h with rfl|h
  ·rw[List.filter_cons,if_neg (by simp[hp])]
   have:=List.length_filter_le p m
   simp;omega
  ·have:=filter_lt h hp
   rw[List.filter_cons]
   split
   ·rw[List.length_cons,List.length_cons];omega
   ·rw[List.length_cons];omega
theorem TI.fits(b:TB K0 S0 av x y l all made)(h:TI K0 S0 av x y l made K S done rest P){k:Nd}(hk:k∈made)(hT:K.T k=none):K.used<K.cap:=by
 have h1:=filter_lt (p:=fun k=>(K.T k).isSome) hk (by rw[hT];rfl)
 have h2:=h.used
 have h3:=b.room
 have h4:=h.cap
 omega
theorem mA{T:Nd→Option Nat}{k:Nd}{r:Nat}:∀{m:List Nd},m.Nodup→T k=none→(m.filter fun d=>(oM T k (some r) d).isSome).length=(m.filter fun d=>(T d).isSome).length+(if k∈m then 1 else 0)
 | [],_,_=>rfl
 |z::m,hn,hT=>by
  obtain⟨h1,h2⟩:=List.nodup_cons.1 hn
  have ih:=mA (r:=r) h2 hT
  rw[List.filter_cons,List.filter_cons]
  by_cases e:z=k
  ·subst e
   rw[iU,hT]
   simp only[Option.isSome_some,if_true,Option.isSome_none,Bool.false_eq_true,if_false,List.length_cons,ih,if_neg h1,List.mem_cons,true_or]
  ·rw[n3 e]
   have e2:(k∈z::m)↔k∈m:=by rw[List.mem_cons];exact⟨fun h=>h.resolve_left (fun h=>e h.symm),.inr⟩
   simp only[e2]
   split
   ·simp only[List.length_cons,ih];omega
   ·exact ih
theorem TB.wZ(b:TB K0 S0 av x y l all made){t:Nat}(ht:rB K0 av l t){e:Nd}(he:K0.N t=some e):l+1<av e.v:=by
 have:=ht.2
 rwa [aM he]at this
theorem TB.yQ(b:TB K0 S0 av x y l all made){c:Cx}(hc:c∈all)(h1:rB K0 av l c.d.lo)(h2:rB K0 av l c.d.hi):False:=by
 obtain⟨⟨_,_,h3⟩,_⟩:=(b.cx.mem c).1 hc
 have hy:=b.nb.ly
 rcases h3 with⟨e,he,hv⟩|⟨e,he,hv⟩
 ·have:=b.wZ h1 he;rw[hv]at this;omega
 ·have:=b.wZ h2 he;rw[hv]at this;omega
theorem TI.LF(b:TB K0 S0 av x y l all made)(h:TI K0 S0 av x y l made K S done rest P)(hd:∀c∈done,c∈all)(hr:∀c∈rest,c∈all){c:Cx}(hc:c∈all){k:Nd}(hk:k∈keys x c)(hne:k.lo≠k.hi)(h1:rB K0 av l k.lo)(h2:rB K0 av l k.hi)(hT:K.T k=none):k∈made:=by
 refine(b.VM.mem k).2 ⟨⟨c,hc,hk⟩,?_,hne⟩
 cases e:K0.T k with
 |none=>rfl
 |some s=>
  have hs:=((b.ok.mid.jB k s).1 e).1
  have hno:∀c'∈all,s≠c'.r:=fun c' kH e'=>by
   have h3:=(b.mD kH).1
   rw[←e',hs]at h3
   cases h3
   exact b.yQ kH h1 h2
  have uK:K.N s=some k:=by
   refine h.old hs fun hm=>?_
   obtain⟨c',kH,e'⟩:=List.mem_map.1 hm
   exact hno c' (hd c' kH) e'.symm
  have:=(h.mid.jB k s).2 ⟨uK,by rintro⟨c',kH,e'⟩;exact hno c' (hr c' kH) e'⟩
  rw[hT]at this;cases this
theorem TI.lay(b:TB K0 S0 av x y l all made)(h:TI K0 S0 av x y l made K S done rest P)(hd:∀c∈done,c∈all)(hr:∀c∈rest,c∈all){c:Cx}(hc:c∈all){k:Nd}(hk:k∈keys x c)(hne:k.lo≠k.hi)(hT:K.T k=none)
 {r:Nat}{dk bT:List Nat}(hN:K.N r=none)(h2:2≤r∧r<K.cap)(hl:dk.length=bT.length)(hf:r<dk.length∧K.us.length≤dk.length)(u0:dk.getD r 0=0)(u1:∀s,2≤s→s≠r→dk.getD s 0=K.use s+e1 (some k) s)(o0:bT.getD r 0=0)(o1:∀s,s≠r→bT.getD s 0=K.hold s)(hP:P r=0):
  TI K0 S0 av x y l made {K with N:=up K.N r (some k),T:=oM K.T k (some r),used:=K.used+1,us:=dk,ho:=bT} (up S r (ite S k)) done rest P∧ve K0 {K with N:=up K.N r (some k),T:=oM K.T k (some r),used:=K.used+1,us:=dk,ho:=bT} av x l r:=by
 have k6:=b.Ph hc
 have hkv:k.v=x∧rB K0 av l k.lo∧rB K0 av l k.hi:=by
  simp only[keys,List.mem_cons,List.not_mem_nil,or_false]at hk
  rcases hk with rfl|rfl
  ·exact⟨rfl,k6.1.1,k6.1.2⟩
  ·exact⟨rfl,k6.2.1,k6.2.2⟩
 have Wy:K0.N r=none:=by
  cases e:K0.N r with
  |none=>rfl
  |some d=>obtain⟨d',ei⟩:=h.kept e;rw[hN]at ei;cases ei
 have hkm:=h.LF b hd hr hc hk hne hkv.2.1 hkv.2.2 hT
 have hE:¬∃c∈rest,r=c.r:=by
  rintro⟨c',kH,rfl⟩
  have:=(b.mD (hr c' kH)).1
  rw[Wy]at this;cases this
 have BD:∀{t},ve K0 K av x l t→ve K0 {K with N:=up K.N r (some k),T:=oM K.T k (some r),used:=K.used+1,us:=dk,ho:=bT} av x l t:=fun ht=>by
  rcases ht with ht|⟨e,he,h3⟩
  ·exact .inl ht
  ·refine .inr ⟨e,?_,h3⟩
   show up K.N r (some k) _=_
   rw[aP (fun e2=>by rw[e2,hN]at he;cases he)];exact he
 refine⟨⟨h.mid.lay hN h2 (by rw[hkv.1,h.n];exact b.nb.xn) hne (h.pw b hd hkv.2.1) (h.pw b hd hkv.2.2) hT hE hP (h.fits b hkm hT) hl hf u0 u1 o0 o1,h.n,h.cap,fun s=>?_,fun s hs=>?_,fun{s d} hs hm=>?_,fun{s d} hs=>?_,fun{s d} hs=>?_,?_⟩,?_⟩
 ·show bT.getD s 0=_
  rw[←h.hold]
  by_cases e:s=r
  ·subst e
   rw[o0]
   refine(Classical.byContradiction fun hno=>?_)
   obtain⟨d,ei⟩:=h.mid.held s (fun e=>hno e.symm)
   rw[hN]at ei;cases ei
  ·exact o1 s e
 ·rw[aP (fI hs h2.1 Wy)];exact h.ext s hs
 ·show up K.N r (some k) s=_
  rw[aP (fun e=>by rw[e,Wy]at hs;cases hs)];exact h.old hs hm
 ·obtain⟨d',ei⟩:=h.kept hs
  exact⟨d',by show up K.N r (some k) s=_;rw[aP (fun e=>by rw[e,Wy]at hs;cases hs)];exact ei⟩
 ·have hs':up K.N r (some k) s=some d:=hs
  by_cases e:s=r
  ·subst e
   rw[aN]at hs';cases hs'
   exact .inr (.inr ⟨Wy,hkv⟩)
  ·rw[aP e]at hs'
   rcases h.new hs' with h1|⟨h1,oP,h3,h4⟩|h1
   ·exact .inl h1
   ·exact .inr (.inl ⟨h1,oP,BD h3,BD h4⟩)
   ·exact .inr (.inr h1)
 ·show K.used+1=K0.used+(made.filter fun d=>(oM K.T k (some r) d).isSome).length
  rw[mA b.VM.nd hT,if_pos hkm,h.used];omega
 ·exact .inr ⟨k,aN,hkv⟩
theorem TI.found(b:TB K0 S0 av x y l all made)(h:TI K0 S0 av x y l made K S done rest P){c:Cx}(hc:c∈all){k:Nd}(hk:k∈keys x c){r:Nat}(hT:K.T k=some r):K.N r=some k∧ve K0 K av x l r:=by
 have k6:=b.Ph hc
 have hN:=((h.mid.jB k r).1 hT).1
 simp only[keys,List.mem_cons,List.not_mem_nil,or_false]at hk
 rcases hk with rfl|rfl
 ·exact⟨hN,.inr ⟨_,hN,rfl,k6.1.1,k6.1.2⟩⟩
 ·exact⟨hN,.inr ⟨_,hN,rfl,k6.2.1,k6.2.2⟩⟩
theorem TI.Q9(b:TB K0 S0 av x y l all made)(h:TI K0 S0 av x y l made K S done rest P){a a' t:Nat}(la:rB K0 av l a)(Bn:rB K0 av l a')(g:(a=a'∧t=a)∨K.N t=some ⟨x,a,a'⟩)(z:Nat):S t z=ite S0 ⟨x,a,a'⟩ z:=by
 rcases g with⟨rfl,rfl⟩|g
 ·rw[h.ext t la.1];unfold ite;simp
 ·rw[h.mid.int.node g]
  unfold ite
  simp only
  rw[h.ext a la.1,h.ext a' Bn.1]
theorem TI.Pj(b:TB K0 S0 av x y l all made)(h:TI K0 S0 av x y l made K S done rest P)(hd:∀c∈done,c∈all){a a' t:Nat}(ht:rB K0 av l t)(g:K.N t=some ⟨x,a,a'⟩):False:=by
 rw[h.Pk b hd ht]at g
 have:=b.wZ ht g
 have hx:=b.nb.lx
 simp only at this;omega
theorem TI.wJ(b:TB K0 S0 av x y l all made){c:Cx}(h:TI K0 S0 av x y l made K S done (c::rest) P)(hd:∀c∈done,c∈all)(hr:∀c'∈c::rest,c'∈all)(hn:((done++c::rest).map Cx.r).Nodup){t0 t1:Nat}
 (k0:ve K0 K av x l t0)(k1:ve K0 K av x l t1)(g0:(c.u6=c.rR∧t0=c.u6)∨K.N t0=some ⟨x,c.u6,c.rR⟩)(g1:(c.u5=c.rQ∧t1=c.u5)∨K.N t1=some ⟨x,c.u5,c.rQ⟩){P':Nat→Nat}(hP:∀s,2≤s→P' s+e1 (some ⟨y,t0,t1⟩) s=P s+e1 (some c.d) s):
  K.T ⟨y,t0,t1⟩=none∧TI K0 S0 av x y l made {K with N:=up K.N c.r (some ⟨y,t0,t1⟩),T:=oM K.T ⟨y,t0,t1⟩ (some c.r)} S (done++[c]) rest P':=by
 have hc:=hr c (by simp)
 obtain⟨xy,HP,hce⟩:=b.mD hc
 obtain⟨⟨l00,l10⟩,⟨l01,l11⟩⟩:=b.Ph hc
 have w:=b.ok.wf
 have hi:=b.ok.mid.int
 have hlo:=w.lo xy
 have hhi:=w.hi xy
 rw[HP,b.nb.lx]at hlo hhi
 have ep:c.u6=pl K0.N y c.d.lo∧c.u5=ph K0.N y c.d.lo∧c.rR=pl K0.N y c.d.hi∧c.rQ=ph K0.N y c.d.hi:=by rw[hce];exact⟨rfl,rfl,rfl,rfl⟩
 have both:c.u6=c.rR→c.u5=c.rQ→False:=fun e1 e2=>by
  rw[ep.1,ep.2.2.1]at e1
  rw[ep.2.1,ep.2.2.2]at e2
  exact w.ne xy (w.P1 b.ok.lv hi b.nb.yy hlo.1 hhi.1 hlo.2 hhi.2 e1 e2)
 have YN:c.r∉done.map Cx.r:=by
  rw[List.map_append,List.nodup_append]at hn
  intro hm
  exact hn.2.2 _ hm _ (by simp) rfl
 have hcK:=h.old xy YN
 have fn0:=fun z=>h.Q9 b l00 l10 g0 z
 have fn1:=fun z=>h.Q9 b l01 l11 g1 z
 have hS:∀z,S c.r z=ite S ⟨y,t0,t1⟩ z:=fun z=>by
  rw[h.ext c.r (.inr ⟨_,xy⟩),tR w b.ok.lv hi b.nb xy HP z]
  unfold ite
  simp only
  have a0:=fn0 z
  have a1:=fn1 z
  unfold ite at a0 a1
  simp only at a0 a1
  rw[a0,a1,ep.1,ep.2.1,ep.2.2.1,ep.2.2.2]
 have hne:t0≠t1:=fun e=>by
  subst e
  rcases g0 with⟨e1,e2⟩|g0
  ·rcases g1 with⟨e3,e4⟩|g1
   ·exact both e1 e3
   ·rw[e2]at g1;exact h.Pj b hd l00 g1
  ·rcases g1 with⟨e3,e4⟩|g1
   ·rw[e4]at g0;exact h.Pj b hd l01 g0
   ·rw[g0]at g1
    simp only[Option.some.injEq,Nd.mk.injEq,true_and]at g1
    obtain⟨q1,q2⟩:=g1
    obtain⟨⟨_,_,TT⟩,_⟩:=(b.cx.mem c).1 hc
    rw[ep.1,ep.2.1]at q1
    rw[ep.2.2.1,ep.2.2.2]at q2
    rcases TT with⟨e,he,hv⟩|⟨e,he,hv⟩
    ·have:=O4 he hv
     rw[this.1,this.2]at q1
     exact w.ne he q1
    ·have:=O4 he hv
     rw[this.1,this.2]at q2
     exact w.ne he q2
 have hT:K.T ⟨y,t0,t1⟩=none:=by
  cases e:K.T ⟨y,t0,t1⟩with
  |none=>rfl
  |some s=>
   obtain⟨hs,LN⟩:=(h.mid.jB _ s).1 e
   rcases h.new hs with⟨h1,_⟩|⟨h1,_⟩|⟨_,h1,_⟩
   ·have q1:=w.lo h1
    have q2:=w.hi h1
    simp only at q1 q2
    rw[b.nb.ly]at q1 q2
    have p1:c.u6=c.rR:=by
     rcases g0 with⟨e1,_⟩|g0
     ·exact e1
     ·exact(h.Pj b hd q1 g0).elim
    have p2:c.u5=c.rQ:=by
     rcases g1 with⟨e1,_⟩|g1
     ·exact e1
     ·exact(h.Pj b hd q2 g1).elim
    exact(both p1 p2).elim
   ·obtain⟨c',kH,e'⟩:=List.mem_map.1 h1
    have Mm:=(b.mD (hd c' kH)).1
    have:c'.r=c.r:=w.same b.ok.lv hi (.inr ⟨_,Mm⟩) (.inr ⟨_,xy⟩) fun z=>by
     rw[←h.ext c'.r (.inr ⟨_,Mm⟩),←h.ext c.r (.inr ⟨_,xy⟩),hS z,e',h.mid.int.node hs z];rfl
    exact absurd (List.mem_map.2 ⟨c',kH,this⟩) YN
   ·exact absurd h1 (Ne.symm b.nb.ne)
 have BD:∀{t},ve K0 K av x l t→ve K0 {K with N:=up K.N c.r (some ⟨y,t0,t1⟩),T:=oM K.T ⟨y,t0,t1⟩ (some c.r)} av x l t:=fun ht=>by
  rcases ht with ht|⟨e,he,h3⟩
  ·exact .inl ht
  ·refine .inr ⟨e,?_,h3⟩
   show up K.N c.r (some ⟨y,t0,t1⟩) _=_
   refine(aP fun e2=>?_).trans he
   rw[e2,hcK]at he
   cases he
   exact b.yQ hc h3.2.1 h3.2.2
 have hml:∀s,s∈(done++[c]).map Cx.r↔s∈done.map Cx.r∨s=c.r:=fun s=>by simp[List.mem_append]
 refine⟨hT,⟨(h.mid.wJ hcK ⟨c,by simp,rfl⟩ (by rw[h.n];exact b.nb.yn) hne (h.pB b hd k0) (h.pB b hd k1) hT hS hP).congr (fun s=>?_) (fun _ _=>rfl),h.n,h.cap,h.hold,h.ext,fun{s d} hs hm=>?_,fun{s d} hs=>?_,fun{s d} hs=>?_,?_⟩⟩
 ·constructor
  ·rintro⟨⟨c',kH,rfl⟩,h2⟩
   rcases List.mem_cons.1 kH with rfl|kH
   ·exact absurd rfl h2
   ·exact⟨c',kH,rfl⟩
  ·rintro⟨c',kH,rfl⟩
   refine⟨⟨c',List.mem_cons_of_mem _ kH,rfl⟩,fun e=>?_⟩
   rw[List.map_append,List.nodup_append]at hn
   have:=hn.2.1
   rw[List.map_cons,List.nodup_cons]at this
   exact this.1 (List.mem_map.2 ⟨c',kH,e⟩)
 ·have hm':=fun x=>hm ((hml s).2 x)
  show up K.N c.r _ s=_
  rw[aP (fun e=>hm' (.inr e))];exact h.old hs (fun x=>hm' (.inl x))
 ·by_cases e:s=c.r
  ·exact⟨⟨y,t0,t1⟩,by show up K.N c.r (some _) s=_;rw[e,aN]⟩
  ·obtain⟨d',ei⟩:=h.kept hs
   exact⟨d',by show up K.N c.r (some _) s=_;rw[aP e];exact ei⟩
 ·have hs':up K.N c.r (some ⟨y,t0,t1⟩) s=some d:=hs
  by_cases e:s=c.r
  ·rw[e,aN]at hs';cases hs'
   exact .inr (.inl ⟨(hml s).2 (.inr e),rfl,BD k0,BD k1⟩)
  ·rw[aP e]at hs'
   rcases h.new hs' with⟨h1,h2⟩|⟨h1,h2,h3,h4⟩|h1
   ·exact .inl ⟨h1,fun hm=>((hml s).1 hm).elim h2 e⟩
   ·exact .inr (.inl ⟨(hml s).2 (.inl h1),h2,BD h3,BD h4⟩)
   ·exact .inr (.inr h1)
 ·show K.used=K0.used+(made.filter fun d=>(oM K.T ⟨y,t0,t1⟩ (some c.r) d).isSome).length
  have hnm:(⟨y,t0,t1⟩:Nd)∉made:=fun hm=>by
   obtain⟨⟨c',kH,hk⟩,_⟩:=(b.VM.mem _).1 hm
   simp only[keys,List.mem_cons,List.not_mem_nil,or_false,Nd.mk.injEq]at hk
   rcases hk with⟨e,_⟩|⟨e,_⟩
   ·exact b.nb.ne e.symm
   ·exact b.nb.ne e.symm
  rw[mA b.VM.nd hT,if_neg hnm,h.used];rfl
theorem TI.levels(b:TB K0 S0 av x y l all made)(h:TI K0 S0 av x y l made K S all [] P){s:Nat}{d:Nd}(hs:K.N s=some d):
  rH av x y l d.v<dep K0.n (rH av x y l) K.N d.lo∧rH av x y l d.v<dep K0.n (rH av x y l) K.N d.hi:=by
 have w:=b.ok.wf
 have hd:∀c∈all,c∈all:=fun _ h=>h
 have Tn:l+1<K0.n:=by have:=b.ok.lv.lt y b.nb.yn;rw[b.nb.ly]at this;exact this
 have sx:rH av x y l x=l+1:=by simp[rH]
 have sy:rH av x y l y=l:=by unfold rH;rw[if_neg (Ne.symm b.nb.ne),if_pos rfl]
 have so:∀v,v<K0.n→av v≠l→av v≠l+1→rH av x y l v=av v:=fun v hv h1 h2=>by
  unfold rH
  rw[if_neg (fun e=>h1 (by rw[e];exact b.nb.lx)),if_neg (fun e=>h2 (by rw[e];exact b.nb.ly))]
 have low:∀{t},rB K0 av l t→l+1<dep K0.n (rH av x y l) K.N t:=fun{t} ht=>by
  have e:=h.Pk b hd ht
  cases e2:K0.N t with
  |none=>rw[cO (by rw[e,e2])];exact Tn
  |some e'=>
   have:=b.wZ ht e2
   rw[aM (by rw[e,e2]),so _ (w.var e2) (by omega) (by omega)];exact this
 have vN:∀{t},ve K0 K av x l t→l<dep K0.n (rH av x y l) K.N t:=fun{t} ht=>by
  rcases ht with ht|⟨e,he,hx,_⟩
  ·have:=low ht;omega
  ·rw[aM he,hx,sx];omega
 rcases h.new hs with⟨h1,h2⟩|⟨_,h2,h3,h4⟩|⟨_,h2,h3,h4⟩
 ·have hv:=w.var h1
  have q1:=w.lo h1
  have q2:=w.hi h1
  rcases Nat.lt_trichotomy (av d.v) l with hlt|heq|hgt
  ·rw[so _ hv (by omega) (by omega)]
   have up':∀{t},live K0.N t→av d.v<dep K0.n av K0.N t→av d.v<dep K0.n (rH av x y l) K.N t:=fun{t} ht pD=>by
    cases e:K.N t with
    |none=>rw[cO e];exact Nat.lt_of_lt_of_le pD (w.iq b.ok.lv t)
    |some e'=>
     rw[aM e]
     rcases h.new e with⟨g1,_⟩|⟨_,g2,_⟩|⟨g1,_⟩
     ·rw[aM g1]at pD
      have hve:=w.var g1
      by_cases e1:av e'.v=l
      ·have:e'.v=x:=b.ok.lv.inj _ _ hve b.nb.xn (by rw[b.nb.lx];exact e1)
       rw[this,sx];omega
      ·by_cases e2:av e'.v=l+1
       ·have:e'.v=y:=b.ok.lv.inj _ _ hve b.nb.yn (by rw[b.nb.ly];exact e2)
        rw[this,sy];exact hlt
       ·rw[so _ hve e1 e2];exact pD
     ·rw[g2,sy];exact hlt
     ·rcases ht with ht|⟨f,hf⟩
      ·have:=(h.mid.two e).1;omega
      ·rw[g1]at hf;cases hf
   exact⟨up' q1.1 q1.2,up' q2.1 q2.2⟩
  ·have hx:d.v=x:=b.ok.lv.inj _ _ hv b.nb.xn (by rw[b.nb.lx];exact heq)
   rw[hx,sx]
   have nc:∀t,t=d.lo∨t=d.hi→∀e,K0.N t=some e→e.v≠y:=fun t ht e he hv=>h2 (List.mem_map.2 ⟨mC K0.N y s d,(b.cx.mem _).2 ⟨⟨h1,hx,by
    rcases ht with rfl|rfl
    ·exact .inl ⟨e,he,hv⟩
    ·exact .inr ⟨e,he,hv⟩⟩,rfl⟩,rfl⟩)
   have lw:∀t,t=d.lo∨t=d.hi→live K0.N t→av d.v<dep K0.n av K0.N t→rB K0 av l t:=fun t ht hlv hlt=>by
    refine⟨hlv,?_⟩
    have:=(w.half b.ok.lv b.ok.mid.int b.nb.yy hlv (by omega:l<dep K0.n av K0.N t)).1.2
    rwa [(O5 (nc t ht)).1]at this
   exact⟨low (lw _ (.inl rfl) q1.1 q1.2),low (lw _ (.inr rfl) q2.1 q2.2)⟩
  ·by_cases e:av d.v=l+1
   ·have hy:d.v=y:=b.ok.lv.inj _ _ hv b.nb.yn (by rw[b.nb.ly];exact e)
    rw[hy,sy]
    have a1:=low ⟨q1.1,by omega⟩
    have a2:=low ⟨q2.1,by omega⟩
    exact⟨by omega,by omega⟩
   ·rw[so _ hv (by omega) e]
    have deep:∀{t},live K0.N t→av d.v<dep K0.n av K0.N t→av d.v<dep K0.n (rH av x y l) K.N t:=fun{t} ht pD=>by
     have hl:rB K0 av l t:=⟨ht,by omega⟩
     have e':=h.Pk b hd hl
     cases e2:K0.N t with
     |none=>rw[cO (by rw[e',e2])];exact b.ok.lv.lt _ hv
     |some f=>
      rw[aM e2]at pD
      rw[aM (by rw[e',e2]),so _ (w.var e2) (by omega) (by omega)];exact pD
    exact⟨deep q1.1 q1.2,deep q2.1 q2.2⟩
 ·rw[h2,sy];exact⟨vN h3,vN h4⟩
 ·rw[h2,sx];exact⟨low h3,low h4⟩
theorem TI.fin(b:TB K0 S0 av x y l all made)(h:TI K0 S0 av x y l made K S all [] P){K':Kd}(hm:ji K' S iB zero')(hp:Pos K')(hN:∀{s d},K'.N s=some d→K.N s=some d)(hn:K'.n=K.n)(hh:∀r,K'.hold r=K.hold r):
  Ok K' S (rH av x y l)∧(∀g,K'.held S g↔K0.held S0 g)∧∀r,K0.hold r≠0→S r=S0 r:=by
 have W5:∀r,K0.hold r≠0→S r=S0 r:=fun r hr=>h.ext r (.inr (b.ok.mid.held r hr))
 refine⟨⟨hm,hp,by rw[hn,h.n];exact OT b.ok.lv b.nb,hm.wf fun{s d} hs=>?_⟩,fun g=>?_,W5⟩
 ·have hl:=h.levels b (hN hs)
  have same:∀{t},live K'.N t→dep K'.n (rH av x y l) K'.N t=dep K0.n (rH av x y l) K.N t:=fun{t} ht=>by
   cases e:K'.N t with
   |some f=>rw[aM e,aM (hN e)]
   |none=>
    have Rh:t<2:=by
     rcases ht with ht|⟨f,hf⟩
     ·exact ht
     ·rw[e]at hf;cases hf
    have:K.N t=none:=by
     cases e2:K.N t with
     |none=>rfl
     |some f=>have:=(h.mid.two e2).1;omega
    rw[cO e,cO this,hn,h.n]
  rw[same (hm.lo hs),same (hm.hi hs)];exact hl
 ·constructor
  ·rintro⟨r,hr,rfl⟩
   have hr':K0.hold r≠0:=by rw[←h.hold,←hh];exact hr
   exact⟨r,hr',W5 r hr'⟩
  ·rintro⟨r,hr,rfl⟩
   exact⟨r,by show K'.hold r≠0;rw[hh,h.hold];exact hr,(W5 r hr).symm⟩
end
end bc
namespace bc
open aj
variable {n cap l:Nat} {ord:List Nat} {F G:Fn→Prop}
open Classical in
noncomputable def sz(n:Nat)(ord:List Nat)(F:Fn→Prop):Nat:=if h:∃k,oQ (cg n ord F) k then Classical.choose h else 0
theorem QZ{k:Nat}(h:oQ (cg n ord F) k):sz n ord F=k:=by
 unfold sz
 rw[dif_pos ⟨k,h⟩]
 exact(Classical.choose_spec (⟨k,h⟩:∃k,oQ (cg n ord F) k)).uniq h
def Fa(n:Nat)(ord:List Nat)(l:Nat)(F:Fn→Prop):Fn→Prop:=fun g=>cg n ord F g∨cg n (ez ord l) F g
open Classical in
noncomputable def x5(n:Nat)(ord:List Nat)(l:Nat)(F:Fn→Prop):Nat:=if h:∃k,oQ (Fa n ord l F) k then Classical.choose h else 0
theorem AV{k:Nat}(h:oQ (Fa n ord l F) k):x5 n ord l F=k:=by
 unfold x5
 rw[dif_pos ⟨k,h⟩]
 exact(Classical.choose_spec (⟨k,h⟩:∃k,oQ (Fa n ord l F) k)).uniq h
theorem Kz(e:∀g,F g↔G g):sz n ord F=sz n ord G:=by
 have:F=G:=funext fun g=>propext (e g)
 rw[this]
theorem GL(e:∀g,F g↔G g):x5 n ord l F=x5 n ord l G:=by
 have:F=G:=funext fun g=>propext (e g)
 rw[this]
theorem zL{a b:List Nat}(hl:a.length=b.length)(h:∀i,i<a.length→a.getD i 0=b.getD i 0):a=b:=by
 refine List.ext_getElem hl fun i h1 h2=>?_
 have:=h i h1
 simpa[List.getD,List.getElem?_eq_getElem h1,List.getElem?_eq_getElem h2]using this
theorem oY(hl:l+1<ord.length):ez (ez ord l) l=ord:=by
 refine zL (by rw[jC,jC]) fun i _=>?_
 have h2:l+1<(ez ord l).length:=by rw[jC];exact hl
 rw[eL h2,eL hl,eL hl,eL hl]
 by_cases e:i=l
 ·subst e;simp
 ·by_cases e2:i=l+1
  ·subst e2;simp
  ·simp[e,e2]
theorem OJ(hl:l+1<ord.length):x5 n (ez ord l) l F=x5 n ord l F:=by
 have:Fa n (ez ord l) l F=Fa n ord l F:=by
  funext g
  unfold Fa
  rw[oY hl]
  exact propext or_comm
 unfold x5
 rw[this]
def u7(n cap:Nat)(F:Fn→Prop):List Nat→List Nat→Prop
 |_,[]=>True
 |ord,l::r=>l+1<n∧x5 n ord l F+2≤cap∧u7 n cap F (ez ord l) r
theorem u7.congr(e:∀g,F g↔G g):∀{tr ord:List Nat},u7 n cap F ord tr→u7 n cap G ord tr:=by
 have:F=G:=funext fun g=>propext (e g)
 subst this
 exact fun{tr ord} h=>h
theorem u7.acD(hlen:ord.length=n)(hl:l+1<n)(hfit:x5 n ord l F+2≤cap){tr:List Nat}(h:u7 n cap F ord tr.reverse):u7 n cap F (ez ord l) (tr++[l]).reverse:=by
 rw[List.reverse_append]
 exact⟨hl,by rw[OJ (by omega)];exact hfit,by rw[oY (by omega)];exact h⟩
end bc
namespace bc
open aj
variable {n l:Nat} {ord:List Nat} {L:aj.Fs} {F:Fn→Prop}
def eC(n:Nat)(ws:List Nat):Fn:=fun x=>bit ws (x%2^n)
theorem l7{x v n:Nat}{b:Bool}(hv:v<n):aI x v b%2^n=aI (x%2^n) v b:=by
 apply Nat.eq_of_testBit_eq;intro k
 rw[Nat.testBit_mod_two_pow,aq,aq,Nat.testBit_mod_two_pow]
 by_cases e:k=v
 ·subst e;simp[hv]
 ·simp[e]
theorem jH{v:Nat}{ws:List Nat}(hf:cw n ws)(hv:v<n)(b:Bool):eC n (dV n ws v b)=fun x=>eC n ws (aI x v b):=by
 funext x
 unfold eC
 rw[eO hf hv (Nat.mod_lt _ (Nat.two_pow_pos n)),l7 hv]
theorem MN{ws:List Nat}{x:Nat}(h:x<2^n):eC n ws x=bit ws x:=by unfold eC;rw[Nat.mod_eq_of_lt h]
theorem k7{a b:List Nat}(ha:cw n a)(hb:cw n b)(h:eC n a=eC n b):a=b:=ha.ext hb fun x hx=>by rw[←MN hx,←MN hx,h]
theorem iS{v:Nat}{ws:List Nat}(hf:cw n ws)(hv:v<n):gL (eC n ws) v↔aj.dep n ws v=true:=by
 rw[r6 hf hv]
 constructor
 ·rintro⟨x,hx⟩
  refine⟨x%2^n,Nat.mod_lt _ (Nat.two_pow_pos n),?_⟩
  unfold eC at hx
  rwa [l7 hv,l7 hv]at hx
 ·rintro⟨x,hx,hne⟩
  refine⟨x,?_⟩
  unfold eC
  rwa [l7 hv,l7 hv,Nat.mod_eq_of_lt hx]
def cur(n:Nat)(ord:List Nat)(L:aj.Fs):Nat→aj.Fs
 |0=>dO L
 |k+1=>given n (cur n ord L k) (ord.getD k 0)
def FT(n:Nat)(L:aj.Fs):Fn→Prop:=fun g=>∃t∈L,g=eC n t
theorem vZ:∀k,(cur n ord L k).Nodup
 |0=>iI L
 |k+1=>mz _ _ _
theorem nx(hL:∀t∈L,cw n t)(hn:n≤16):∀k,∀t∈cur n ord L k,cw n t
 |0,t,h=>hL t (cU.1 h)
 |k+1,t,h=>by obtain⟨u,_,b,rfl⟩:=bU.1 h;exact cF hn
theorem BZ(hL:∀t∈L,cw n t)(hn:n≤16)(ho:∀i,i<n→ord.getD i 0<n):∀k,k≤n→∀g,fs ord (FT n L) k g↔∃t∈cur n ord L k,g=eC n t
 |0,_,g=>by
  show(∃t∈L,g=eC n t)↔_
  constructor
  ·rintro⟨t,h,e⟩;exact⟨t,cU.2 h,e⟩
  ·rintro⟨t,h,e⟩;exact⟨t,cU.1 h,e⟩
 |k+1,hk,g=>by
  have ih:=BZ hL hn ho k (by omega)
  constructor
  ·rintro⟨f,hf,b,rfl⟩
   obtain⟨t,ht,rfl⟩:=(ih f).1 hf
   exact⟨dV n t (ord.getD k 0) b,bU.2 ⟨t,ht,b,rfl⟩,(jH (nx hL hn k t ht) (ho k (by omega)) b).symm⟩
  ·rintro⟨t,ht,rfl⟩
   obtain⟨u,hu,b,rfl⟩:=bU.1 ht
   exact⟨eC n u,(ih _).2 ⟨u,hu,rfl⟩,b,jH (nx hL hn k u hu) (ho k (by omega)) b⟩
theorem tH:∀k g,fs ord F k g→∀j,j<k→¬gL g (ord.getD j 0)
 |0,_,_,_,h=>absurd h (Nat.not_lt_zero _)
 |k+1,g,h,j,hj=>by
  obtain⟨f,hf,b,rfl⟩:=h
  rintro⟨x,hx⟩
  apply hx
  by_cases e:ord.getD j 0=ord.getD k 0
  ·show f (aI (aI x _ false) _ b)=f (aI (aI x _ true) _ b)
   congr 1
   apply Nat.eq_of_testBit_eq;intro i
   simp only[aq,e]
   split<;>rfl
  ·have hlt:j<k:=by
    rcases Nat.lt_succ_iff_lt_or_eq.1 hj with h|h
    ·exact h
    ·subst h;exact(e rfl).elim
   have:=tH k f hf j hlt
   show f (aI (aI x _ false) _ b)=f (aI (aI x _ true) _ b)
   rw[eA e,eA e]
   exact Classical.byContradiction fun hne=>this ⟨_,hne⟩
def ow(n:Nat)(ord:List Nat)(L:aj.Fs)(k:Nat):aj.Fs:=nodes n (cur n ord L k) (ord.getD k 0)
def dR(n:Nat)(ord:List Nat)(L:aj.Fs):Nat→Nat
 |0=>0
 |k+1=>dR n ord L k+(ow n ord L k).length
def iO(n:Nat)(ord:List Nat)(L:aj.Fs):Nat→aj.Fs
 |0=>[]
 |k+1=>iO n ord L k++ow n ord L k
theorem mO:∀k,(iO n ord L k).length=dR n ord L k
 |0=>rfl
 |k+1=>by rw[iO,dR,List.length_append,mO k]
theorem pg{k:Nat}{t:List Nat}:t∈ow n ord L k↔t∈cur n ord L k∧aj.dep n t (ord.getD k 0)=true:=by
 unfold ow nodes;rw[List.mem_filter]
theorem kB(hL:∀t∈L,cw n t)(hn:n≤16):∀k,∀t∈iO n ord L k,cw n t
 |0,t,h=>by cases h
 |k+1,t,h=>by
  rcases List.mem_append.1 h with h|h
  ·exact kB hL hn k t h
  ·exact nx hL hn k t (pg.1 h).1
theorem mN(hL:∀t∈L,cw n t)(hn:n≤16)(ho:∀i,i<n→ord.getD i 0<n):∀m,m≤n→∀g,(∃k,k<m∧fs ord (FT n L) k g∧gL g (ord.getD k 0))↔∃t∈iO n ord L m,g=eC n t
 |0,_,g=>by simp[iO]
 |m+1,hm,g=>by
  have ih:=mN hL hn ho m (by omega) g
  have av:(fs ord (FT n L) m g∧gL g (ord.getD m 0))↔∃t∈ow n ord L m,g=eC n t:=by
   rw[BZ hL hn ho m (by omega)]
   constructor
   ·rintro⟨⟨t,ht,rfl⟩,hh⟩
    exact⟨t,pg.2 ⟨ht,(iS (nx hL hn m t ht) (ho m (by omega))).1 hh⟩,rfl⟩
   ·rintro⟨t,ht,rfl⟩
    obtain⟨h1,h2⟩:=pg.1 ht
    exact⟨⟨t,h1,rfl⟩,(iS (nx hL hn m t h1) (ho m (by omega))).2 h2⟩
  constructor
  ·rintro⟨k,hk,h1,h2⟩
   by_cases e:k=m
   ·subst e
    obtain⟨t,ht,rfl⟩:=av.1 ⟨h1,h2⟩
    exact⟨t,List.mem_append_right _ ht,rfl⟩
   ·obtain⟨t,ht,rfl⟩:=ih.1 ⟨k,by omega,h1,h2⟩
    exact⟨t,List.mem_append_left _ ht,rfl⟩
  ·rintro⟨t,ht,rfl⟩
   rcases List.mem_append.1 ht with ht|ht
   ·obtain⟨k,hk,h⟩:=ih.2 ⟨t,ht,rfl⟩
    exact⟨k,by omega,h⟩
   ·exact⟨m,by omega,av.2 ⟨t,ht,rfl⟩⟩
theorem tY(hL:∀t∈L,cw n t)(hn:n≤16)(ho:∀i,i<n→ord.getD i 0<n):∀m,m≤n→(iO n ord L m).Nodup
 |0,_=>List.nodup_nil
 |m+1,hm=>by
  refine List.nodup_append.2 ⟨tY hL hn ho m (by omega),(vZ m).filter _,fun a ha b hb e=>?_⟩
  subst e
  obtain⟨k,hk,h1,h2⟩:=(mN hL hn ho m (by omega) (eC n a)).2 ⟨a,ha,rfl⟩
  have h3:=(BZ hL hn ho m (by omega) (eC n a)).2 ⟨a,(pg.1 hb).1,rfl⟩
  exact tH m _ h3 k hk h2
theorem zY{P:Fn→Prop}{l:aj.Fs}(hf:∀t∈l,cw n t)(hn:l.Nodup)(h:∀g,P g↔∃t∈l,g=eC n t):oQ P l.length:=by
 refine⟨l.map (eC n),?_,by simp,fun g=>?_⟩
 ·refine List.pairwise_map.2 (hn.imp_of_mem fun{a b} ha hb hne heq=>hne (k7 (hf a ha) (hf b hb) heq))
 ·rw[h,List.mem_map]
  constructor
  ·rintro⟨t,ht,rfl⟩;exact⟨t,ht,rfl⟩
  ·rintro⟨t,ht,rfl⟩;exact⟨t,ht,rfl⟩
theorem M1(hL:∀t∈L,cw n t)(hn:n≤16)(ho:∀i,i<n→ord.getD i 0<n):oQ (cg n ord (FT n L)) (dR n ord L n):=by
 rw[←mO]
 exact zY (kB hL hn n) (tY hL hn ho n (Nat.le_refl _)) (mN hL hn ho n (Nat.le_refl _))
theorem Fo(hL:∀t∈L,cw n t)(hn:n≤16)(ho:∀i,i<n→ord.getD i 0<n):sz n ord (FT n L)=dR n ord L n:=QZ (M1 hL hn ho)
def rA(n:Nat)(ord:List Nat)(l:Nat)(L:aj.Fs):aj.Fs:=dO (iO n ord L n++iO n (ez ord l) L n)
theorem KB(hl:l+1<n)(hlen:ord.length=n)(ho:∀i,i<n→ord.getD i 0<n):∀i,i<n→(ez ord l).getD i 0<n:=fun i hi=>by
 rw[eL (by omega)]
 split
 ·exact ho _ hl
 ·split
  ·exact ho _ (by omega)
  ·exact ho i hi
theorem Ko(hL:∀t∈L,cw n t)(hn:n≤16)(ho:∀i,i<n→ord.getD i 0<n)(hl:l+1<n)(hlen:ord.length=n):x5 n ord l (FT n L)=(rA n ord l L).length:=by
 have bT:=KB hl hlen ho
 refine AV (zY (n:=n) (fun t ht=>?_) (iI _) fun g=>?_)
 ·rcases List.mem_append.1 (cU.1 ht)with h|h
  ·exact kB hL hn n t h
  ·exact kB hL hn n t h
 ·unfold Fa rA
  rw[show cg n ord (FT n L) g↔_ from mN hL hn ho n (Nat.le_refl _) g,show cg n (ez ord l) (FT n L) g↔_ from mN hL hn bT n (Nat.le_refl _) g]
  constructor
  ·rintro(⟨t,h,rfl⟩|⟨t,h,rfl⟩)
   ·exact⟨t,cU.2 (List.mem_append_left _ h),rfl⟩
   ·exact⟨t,cU.2 (List.mem_append_right _ h),rfl⟩
  ·rintro⟨t,h,rfl⟩
   rcases List.mem_append.1 (cU.1 h)with h|h
   ·exact .inl ⟨t,h,rfl⟩
   ·exact .inr ⟨t,h,rfl⟩
end bc
set_option maxRecDepth 100000
namespace Go.Proofs
open Go Go.Sx
open bc
def u32(r:Nat):Value:=.int .u32 (r:Int)
def aT(d:Nd):List Value:=[.int .i64 (d.v:Int),u32 d.lo,u32 d.hi]
structure nH where
 v:Int
 lo:Nat
 hi:Nat
 tk:Bool
 c:Nat
def nH.row(p:nH):List Value:=[.int .i64 p.v,u32 p.lo,u32 p.hi,.bool p.tk,.int .u8 (p.c:Int)]
def gf(N:gC)(r:Nat):Bool:=decide (r<2)||(N r).isSome
theorem cR{N:gC}{r:Nat}:gf N r=true↔live N r:=by
 unfold gf live
 rw[Bool.or_eq_true,decide_eq_true_eq,Option.isSome_iff_exists]
def got(N:gC)(r:Nat):List Value:=
 if r<2 then [.int .i64 (-1),u32 r,u32 r]else match N r with|some d=>aT d|none=>[.int .i64 0,u32 0,u32 0]
theorem kj{N:gC}{r:Nat}{d:Nd}(h:N r=some d)(h2:2≤r):got N r=aT d:=by unfold got;rw[if_neg (by omega),h]
theorem qx{N:gC}{r:Nat}(h2:r<2):got N r=[.int .i64 (-1),u32 r,u32 r]:=by unfold got;rw[if_pos h2]
theorem zw{N:gC}{r:Nat}(h:gf N r=false):got N r=[.int .i64 0,u32 0,u32 0]:=by
 unfold gf at h
 rw[Bool.or_eq_false_iff,decide_eq_false_iff_not]at h
 unfold got;rw[if_neg h.1]
 cases hN:N r with
 |none=>rfl
 |some d=>rw[hN]at h;simp at h
def Ho(p:nH):Option Nd:=if p.tk then some ⟨p.v.toNat,p.lo,p.hi⟩else none
structure xX(l:List nH)(fr:List Nat)(cap used:Nat)(N:gC):Prop where
 cap:l.length≤cap∧cap≤1048576
 two:2≤l.length
 const:∀r,r<2→∃p,l[r]? =some p∧p.v= -1∧p.lo=r∧p.hi=r∧p.tk=true
 nd:∀r,2≤r→N r=(l[r]?).bind Ho
 n0:∀r,r<2→N r=none
 nn:∀(r:Nat) p,2≤r→l[r]? =some p→p.tk=true→0≤p.v
 Oh:fr.Nodup
 kI:∀r,r∈fr↔∃p,l[r]? =some p∧p.tk=false
 used:used+fr.length=l.length
theorem xX.y2{l:List nH}{fr:List Nat}{cap used:Nat}{N:gC}(h:xX l fr cap used N)(r:Nat):gf N r=(match l[r]? with|some p=>p.tk|none=>false):=by
 unfold gf
 by_cases h2:r<2
 ·obtain⟨p,hp,_,_,_,ht⟩:=h.const r h2
  simp[h2,hp,ht]
 ·rw[h.nd r (by omega)]
  cases hl:l[r]? with
  |none=>simp[h2]
  |some p=>cases ht:p.tk<;>simp[h2,Ho,ht]
theorem xX.acA{l:List nH}{fr:List Nat}{cap used:Nat}{N:gC}(h:xX l fr cap used N){r:Nat}{p:nH}(hp:l[r]? =some p)(ht:p.tk=true):got N r=p.row.take 3:=by
 by_cases h2:r<2
 ·obtain⟨p',Ty,h1,oP,h3,_⟩:=h.const r h2
  rw[hp]at Ty;cases Ty
  rw[qx h2];simp[nH.row,h1,oP,h3]
 ·have hn:=h.nn r p (by omega) hp ht
  rw[kj (d:=⟨p.v.toNat,p.lo,p.hi⟩) (by rw[h.nd r (by omega),hp];simp[Ho,ht]) (by omega)]
  simp[aT,nH.row,Int.toNat_of_nonneg hn]
theorem xX.lt{l:List nH}{fr:List Nat}{cap used:Nat}{N:gC}(h:xX l fr cap used N){r:Nat}(hr:live N r):r<l.length:=by
 have:=cR.2 hr
 rw[h.y2]at this
 cases hl:l[r]? with
 |none=>rw[hl]at this;simp at this
 |some p=>exact(List.getElem?_eq_some_iff.1 hl).1
def ic(pa cap used:Nat)(N:gC)(C:Hp):Prop:=
 ∃vl vf l fr Cl Cf,C=(pa,.cells #[.int .i64 (cap:Int),vl,vf,.int .i64 (used:Int)] 198 (0,0))::(Cl++Cf)∧
  aR 291 5 vl (l.map nH.row) Cl∧aQ 77 .u32 vf (fr.map (Nat.cast:Nat→Int)) Cf∧xX l fr cap used N
abbrev ptr(b:Nat):Value:=.pointer (some ⟨b,0,none⟩)
theorem row_one(p:nH):∀x∈p.row,x.oneCell'=true:=by intro x hx;simp[nH.row,u32]at hx;rcases hx with rfl|rfl|rfl|rfl|rfl<;>rfl
theorem oW{pa cap used r:Nat}{N:gC}{C:Hp}(h:ic pa cap used N C)(hr:r<4294967296):
  Rd Tryz.prog 253 #[ptr pa,u32 r] C (· =.bool (gf N r)):=by
 obtain⟨vl,vf,l,fr,Cl,Cf,rfl,hl,hf,ho⟩:=h
 intro g
 refine Da (R:=aE _) ?_
 unfold L253
 refine bI.nat (by simp[az];omega) ?_
 refine Nil.ptr ?_
 refine aa.mk (Ld.mk zM rfl ?_)
 refine hl.aS ?_
 refine ae.dL ?_
 rw[List.length_map]
 rw[ho.y2 r]
 refine cv.and (match l[r]? with|some p=>p.tk|none=>false) (fun hlt=>?_) rfl fun _=>bL.mk (.refl _) ?_
 ·have pD:=of_decide_eq_true hlt
  refine Nil.ptr ?_
  refine aa.mk (Ld.mk zM rfl ?_)
  have hg:l[r]? =some l[r]:=List.getElem?_eq_getElem pD
  refine hl.Bm (r:=l[r].row) (x:=.bool l[r].tk) (by rw[List.getElem?_map,hg];rfl) rfl (fun _ h=>by exact .tail _ (List.mem_append_left _ h)) ?_
  exact⟨rfl,by rw[hg]⟩
 ·congr 1
  by_cases hlt:r<l.length
  ·simp[hlt]
  ·rw[List.getElem?_eq_none (by omega)];simp
theorem MI{pa cap used r:Nat}{N:gC}{C:Hp}(h:ic pa cap used N C)(hr:r<4294967296):
  Rd Tryz.prog 231 #[ptr pa,u32 r] C (· =.tuple #[.agg (got N r).toArray,.int .i64 (if gf N r then 0 else 3)]):=by
 have h0:=h
 obtain⟨vl,vf,l,fr,Cl,Cf,rfl,hl,hf,ho⟩:=h
 intro g
 refine Dl (R:=aE _) ?_
 unfold L231
 intro b1 _
 refine ae.aJ (Br.no ?_)
 refine ag.rd (.cons .here) (oW h0 hr) ?_
 rintro v rfl
 refine Un.not ?_
 refine Br.mk (fun hb=>?_) (fun hb=>?_)
 ·have hb':gf N r=false:=by simpa using hb
  refine Build.mk (cs:=[.int .i64 0,.int .u32 0,.int .u32 0]) (by kernel_rfl) ?_
  refine St.whole (r:=[.int .i64 0,.int .u32 0,.int .u32 0]) (by exact .head _) rfl rfl (by simp[Value.oneCell']) ?_
  refine aA.whole (r:=[.int .i64 0,.int .u32 0,.int .u32 0]) (by exact .head _) rfl ?_
  exact bL.mk .tail (by rw[zw hb',hb'];rfl)
 ·have hb':gf N r=true:=by simpa using hb
  have hx:=hb'
  rw[ho.y2]at hx
  cases hg:l[r]? with
  |none=>rw[hg]at hx;simp at hx
  |some p=>
  rw[hg]at hx
  simp only at hx
  refine Nil.ptr ?_
  refine aa.mk (Ld.mk zM rfl ?_)
  refine hl.Ls (r:=p.row) (by rw[List.getElem?_map,hg];rfl) (by decide) (fun _ h=>by exact .tail _ (.tail _ (List.mem_append_left _ h))) ?_
  refine St.whole (r:=p.row.take 3) (by exact .head _) rfl rfl (fun x hx=>row_one p x (List.mem_of_mem_take hx)) ?_
  refine aA.whole (r:=p.row.take 3) (by exact .head _) rfl ?_
  exact bL.mk .tail (by rw[ho.acA hg hx,hb'];rfl)
structure X3(N:gC)(d:Nd):Prop where
 v:d.v<64
 lo:live N d.lo
 hi:live N d.hi
theorem ic.lt{pa cap used r:Nat}{N:gC}{C:Hp}(h:ic pa cap used N C)(hr:live N r):r<cap∧cap≤1048576:=by
 obtain⟨vl,vf,l,fr,Cl,Cf,rfl,hl,hf,ho⟩:=h
 exact⟨Nat.lt_of_lt_of_le (ho.lt hr) ho.cap.1,ho.cap.2⟩
theorem wo{pa cap used:Nat}{N:gC}{C:Hp}{d:Nd}(h:ic pa cap used N C)(hd:X3 N d):
  Rd Tryz.prog 208 #[ptr pa,.agg (aT d).toArray] C (· =.int .i64 0):=by
 have hlo:=h.lt hd.lo
 have hhi:=h.lt hd.hi
 intro g
 refine DI (R:=aE _) ?_
 unfold L208
 intro b1 _
 refine aa.mk (Ld.mk (v:=.int .i64 (d.v:Int)) (by exact .head _) rfl ?_)
 refine ae.lss ?_
 refine cv.or (decide (64≤d.v)) (fun _=>?_) rfl fun _=>?_
 ·refine aa.mk (Ld.mk (v:=.int .i64 (d.v:Int)) (by exact .head _) rfl ?_)
  exact ae.qz (b:=64) ⟨rfl,rfl⟩
 have hv:=hd.v
 refine Br.no' (by simp;omega) ?_
 intro J hJ
 refine aa.mk (Ld.mk (v:=u32 d.lo) (by exact .head _) rfl ?_)
 refine ag.rd (.cons .here) (oW h (by omega)) ?_
 rintro v rfl
 rw[cR.2 hd.lo]
 refine Un.not (Split.go rfl ?_)
 refine aa.mk (Ld.mk (v:=u32 d.hi) (by exact .head _) rfl ?_)
 refine ag.rd (.cons .here) (oW h (by omega)) ?_
 rintro v rfl
 rw[cR.2 hd.hi]
 refine Un.not (aD.mk (JE.mk (hJ _ _ fun gs=>Br.no (bL.mk .tail rfl))))
theorem La{pa cap used r:Nat}{N:gC}{C:Hp}(h:ic pa cap used N C)(hr:∃d,N r=some d)(h2:2≤r):
  Rd Tryz.prog 209 #[ptr pa,u32 r] C (· =.int .i64 0):=by
 have hl:=h.lt (.inr hr)
 intro g
 refine DH (R:=aE _) ?_
 unfold L209
 intro J hJ
 refine ae.y4 (b:=1) ?_
 refine Split.go (by simp;omega) ?_
 refine ag.rd .here (oW h (by omega)) ?_
 rintro v rfl
 rw[cR.2 (.inr hr)]
 refine Un.not (aD.mk (JE.mk (hJ _ _ fun gs=>Br.no (bL.mk (.refl _) rfl))))
theorem z7{pa cap used:Nat}{N:gC}{C:Hp}(h:ic pa cap used N C):Rd Tryz.prog 58 #[ptr pa] C (· =.int .i64 (used:Int)):=by
 obtain⟨vl,vf,l,fr,Cl,Cf,rfl,hl,hf,ho⟩:=h
 intro g
 refine IV (R:=aE _) ?_
 unfold L58
 refine ae.aJ (Br.no (Nil.ptr ?_))
 refine aa.mk (Ld.mk zM rfl ?_)
 exact bL.mk (.refl _) rfl
theorem Cj{pa cap used:Nat}{N:gC}{C:Hp}(h:ic pa cap used N C):Rd Tryz.prog 146 #[ptr pa] C (· =.int .i64 (cap:Int)):=by
 obtain⟨vl,vf,l,fr,Cl,Cf,rfl,hl,hf,ho⟩:=h
 intro g
 refine Et (R:=aE _) ?_
 unfold L146
 refine ae.aJ (Br.no (Nil.ptr ?_))
 refine aa.mk (Ld.mk zM rfl ?_)
 exact bL.mk (.refl _) rfl
end Go.Proofs
set_option maxRecDepth 100000
namespace Go.Proofs
open Go Go.Sx
open bc
section
variable {l:List nH} {fr:List Nat} {cap used:Nat} {N:gC}
theorem Bc(d:Nd){c:Nat}:Ho ⟨(d.v:Int),d.lo,d.hi,true,c⟩=some d:=by simp[Ho]
theorem xX.reuse(h:xX l fr cap used N){r:Nat}(hr:r∈fr){fr':List Nat}(hf:fr.Perm (r::fr'))(d:Nd):
  2≤r∧r<cap∧N r=none∧xX (l.set r ⟨(d.v:Int),d.lo,d.hi,true,0⟩) fr' cap (used+1) (up N r (some d)):=by
 obtain⟨p,hp,ht⟩:=(h.kI r).1 hr
 have hlt:=(List.getElem?_eq_some_iff.1 hp).1
 have h2:2≤r:=by
  apply Decidable.byContradiction
  intro hn
  obtain⟨p',Ty,_,_,_,ht'⟩:=h.const r (by omega)
  rw[hp]at Ty;cases Ty;rw[ht]at ht';cases ht'
 have gW:=hf.nodup_iff.1 h.Oh
 rw[List.nodup_cons]at gW
 refine⟨h2,Nat.lt_of_lt_of_le hlt h.cap.1,by rw[h.nd r h2,hp];simp[Ho,ht],?_⟩
 have gS:∀s,s≠r→(l.set r ⟨(d.v:Int),d.lo,d.hi,true,0⟩)[s]? =l[s]? :=fun s hs=>List.getElem?_set_ne (Ne.symm hs)
 have q7:(l.set r ⟨(d.v:Int),d.lo,d.hi,true,0⟩)[r]? =some ⟨(d.v:Int),d.lo,d.hi,true,0⟩:=List.getElem?_set_self hlt
 exact {
  cap:=by simpa using h.cap
  two:=by simpa using h.two
  const:=fun s hs=>by rw[gS s (by omega)];exact h.const s hs
  nd:=fun s hs=>by
   by_cases e:s=r
   ·subst e;rw[aN,q7];exact(Bc d).symm
   ·rw[aP e,gS s e];exact h.nd s hs
  n0:=fun s hs=>by rw[aP (by omega)];exact h.n0 s hs
  nn:=fun s q hs hq LQ=>by
   by_cases e:s=r
   ·subst e;rw[q7]at hq;cases hq;exact Int.natCast_nonneg _
   ·rw[gS s e]at hq;exact h.nn s q hs hq LQ
  Oh:=gW.2
  kI:=fun s=>by
   by_cases e:s=r
   ·subst e
    rw[q7]
    simp[gW.1]
   ·rw[gS s e,←h.kI s,hf.mem_iff]
    simp[e]
  used:=by have:=h.used;have:=hf.length_eq;simp only[List.length_cons,List.length_set]at*;omega}
theorem xX.grow(h:xX l [] cap used N)(hlt:l.length<cap)(d:Nd):
  2≤l.length∧N l.length=none∧xX (l++[⟨(d.v:Int),d.lo,d.hi,true,0⟩]) [] cap (used+1) (up N l.length (some d)):=by
 have h2:=h.two
 refine⟨h2,by rw[h.nd _ h2,List.getElem?_eq_none (Nat.le_refl _)];rfl,?_⟩
 have gS:∀s,s≠l.length→(l++[(⟨(d.v:Int),d.lo,d.hi,true,0⟩:nH)])[s]? =l[s]? :=fun s hs=>by
  rw[List.getElem?_append]
  split
  ·rfl
  ·rw[List.getElem?_eq_none (by simp;omega),List.getElem?_eq_none (by omega)]
 have q7:(l++[(⟨(d.v:Int),d.lo,d.hi,true,0⟩:nH)])[l.length]? =some ⟨(d.v:Int),d.lo,d.hi,true,0⟩:=by simp
 exact {
  cap:=by simp;exact⟨hlt,h.cap.2⟩
  two:=by simp;omega
  const:=fun s hs=>by rw[gS s (by omega)];exact h.const s hs
  nd:=fun s hs=>by
   by_cases e:s=l.length
   ·subst e;rw[aN,q7];exact(Bc d).symm
   ·rw[aP e,gS s e];exact h.nd s hs
  n0:=fun s hs=>by rw[aP (by omega)];exact h.n0 s hs
  nn:=fun s q hs hq LQ=>by
   by_cases e:s=l.length
   ·subst e;rw[q7]at hq;cases hq;exact Int.natCast_nonneg _
   ·rw[gS s e]at hq;exact h.nn s q hs hq LQ
  Oh:=h.Oh
  kI:=fun s=>by
   by_cases e:s=l.length
   ·subst e
    rw[q7]
    simp
   ·rw[gS s e];exact h.kI s
  used:=by have:=h.used;simp at*;omega}
theorem xX.wJ(h:xX l fr cap used N){r:Nat}{p:nH}(h2:2≤r)(hp:l[r]? =some p)(ht:p.tk=true)(d:Nd):
  xX (l.set r ⟨(d.v:Int),d.lo,d.hi,true,p.c⟩) fr cap used (up N r (some d)):=by
 have hlt:=(List.getElem?_eq_some_iff.1 hp).1
 have gS:∀s,s≠r→(l.set r ⟨(d.v:Int),d.lo,d.hi,true,p.c⟩)[s]? =l[s]? :=fun s hs=>List.getElem?_set_ne (Ne.symm hs)
 have q7:(l.set r ⟨(d.v:Int),d.lo,d.hi,true,p.c⟩)[r]? =some ⟨(d.v:Int),d.lo,d.hi,true,p.c⟩:=List.getElem?_set_self hlt
 exact {
  cap:=by simpa using h.cap
  two:=by simpa using h.two
  const:=fun s hs=>by rw[gS s (by omega)];exact h.const s hs
  nd:=fun s hs=>by
   by_cases e:s=r
   ·subst e;rw[aN,q7];exact(Bc d).symm
   ·rw[aP e,gS s e];exact h.nd s hs
  n0:=fun s hs=>by rw[aP (by omega)];exact h.n0 s hs
  nn:=fun s q hs hq LQ=>by
   by_cases e:s=r
   ·subst e;rw[q7]at hq;cases hq;exact Int.natCast_nonneg _
   ·rw[gS s e]at hq;exact h.nn s q hs hq LQ
  Oh:=h.Oh
  kI:=fun s=>by
   by_cases e:s=r
   ·subst e
    rw[h.kI,q7,hp]
    simp[ht]
   ·rw[gS s e];exact h.kI s
  used:=by simpa using h.used}
theorem xX.free(h:xX l fr cap used N){r:Nat}{p:nH}(h2:2≤r)(hp:l[r]? =some p)(ht:p.tk=true):
  xX (l.set r ⟨0,0,0,false,0⟩) (fr++[r]) cap (used-1) (up N r none)∧0<used:=by
 have hlt:=(List.getElem?_eq_some_iff.1 hp).1
 have gS:∀s,s≠r→(l.set r ⟨0,0,0,false,0⟩)[s]? =l[s]? :=fun s hs=>List.getElem?_set_ne (Ne.symm hs)
 have q7:(l.set r ⟨0,0,0,false,0⟩)[r]? =some ⟨0,0,0,false,0⟩:=List.getElem?_set_self hlt
 have YP:r∉fr:=fun hm=>by obtain⟨q,hq,LQ⟩:=(h.kI r).1 hm;rw[hp]at hq;cases hq;rw[ht]at LQ;cases LQ
 have hu:fr.length<l.length:=by
  have hn:(r::fr).Nodup:=List.nodup_cons.2 ⟨YP,h.Oh⟩
  have:=bV (l:=r::fr) (l':=List.range l.length) hn fun s hs=>by
   rw[List.mem_range]
   rcases List.mem_cons.1 hs with rfl|hs
   ·exact hlt
   ·obtain⟨q,hq,_⟩:=(h.kI s).1 hs;exact(List.getElem?_eq_some_iff.1 hq).1
  rw[List.length_range]at this;exact this
 have hu2:=h.used
 refine⟨?_,by omega⟩
 exact {
  cap:=by simpa using h.cap
  two:=by simpa using h.two
  const:=fun s hs=>by rw[gS s (by omega)];exact h.const s hs
  nd:=fun s hs=>by
   by_cases e:s=r
   ·subst e;rw[aN,q7];rfl
   ·rw[aP e,gS s e];exact h.nd s hs
  n0:=fun s hs=>by rw[aP (by omega)];exact h.n0 s hs
  nn:=fun s q hs hq LQ=>by
   by_cases e:s=r
   ·subst e;rw[q7]at hq;cases hq;cases LQ
   ·rw[gS s e]at hq;exact h.nn s q hs hq LQ
  Oh:=by rw[List.nodup_append];exact⟨h.Oh,by simp,fun a ha c hc=>by simp at hc;subst hc;intro e;subst e;exact YP ha⟩
  kI:=fun s=>by
   rw[List.mem_append,List.mem_singleton]
   by_cases e:s=r
   ·subst e
    rw[q7]
    simp
   ·rw[gS s e,←h.kI];simp[e]
  used:=by simp;omega}
end
theorem mh(l:List nH)(r:Nat)(p:nH):(l.map nH.row).set r p.row=(l.set r p).map nH.row:=by rw[List.map_set]
theorem Nn{pa cap used:Nat}{N:gC}{C:Hp}{d:Nd}(h:ic pa cap used N C)(hd:X3 N d)(hroom:used<cap):
  Fc Tryz.prog 252 #[ptr pa,.agg (aT d).toArray] C (fun v C'=>∃r,v=.tuple #[u32 r,.int .i64 0]∧2≤r∧r<cap∧N r=none∧ic pa cap (used+1) (up N r (some d)) C'):=by
 have h0:=h
 obtain⟨vl,vf,l,fr,Cl,Cf,rfl,hl,hf,ho⟩:=h
 have hcap:=ho.cap
 have FL:=ho.used
 intro g
 refine Db (R:=aE _) ?_
 unfold L252
 intro b1 _
 refine ae.aJ (Br.no ?_)
 refine aA.whole (r:=aT d) (by exact .head _) rfl ?_
 refine ag.rd (.cons .here) (wo h0 hd) ?_
 rintro v rfl
 refine ae.gj (Br.cq (by simp) ?_)
 refine Nil.ptr ?_
 refine aa.mk (Ld.mk zM rfl ?_)
 refine hf.aS ?_
 rw[List.length_map]
 refine ae.lQ (b:=0) (Br.dec (fun hp=>?_) (fun hp=>?_))
 ·obtain⟨fr',r,rfl⟩:∃fr' r,fr=fr'++[r]:=⟨fr.dropLast,fr.getLast (by intro e;simp[e]at hp),(List.dropLast_concat_getLast _).symm⟩
  simp only[List.length_append,List.length_cons,List.length_nil]at hp FL⊢
  obtain⟨g1,g2,g3,hok⟩:=ho.reuse (r:=r) (by simp) (fr':=fr') (by exact List.perm_append_singleton _ _) d
  refine Nil.ptr ?_
  refine aa.mk (Ld.mk zM rfl ?_)
  refine ae.bC (a:=fr'.length+1) (b:=1) (by simp[az];omega) (by omega) ?_
  rw[Nat.add_sub_cancel]
  refine hf.ld (i:=fr'.length) (x:=(r:Int)) (by simp) (fun _ h=>by exact .tail _ (.tail _ (List.mem_append_right _ h))) ?_
  refine Nil.ptr ?_
  refine aa.mk (Ld.mk zM rfl ?_)
  refine ae.bC (a:=fr'.length+1) (b:=1) (by simp[az];omega) (by omega) ?_
  rw[Nat.add_sub_cancel]
  refine hf.cut (i:=fr'.length) (by simp) fun v' Oc=>?_
  have Ob:aQ 77 .u32 v' (fr'.map (Nat.cast:Nat→Int)) Cf:=by
   rw[List.map_append,List.take_left' (by simp)]at Oc;exact Oc
  have hone:v'.oneCell'=true:=by obtain⟨a,c,e⟩:=aR.len Ob;rw[e];rfl
  refine Nil.ptr (aa.mk ?_)
  refine St.one (by exact .tail (.head _)) hone (by simp) rfl ?_
  refine DR.self ?_
  refine Nil.ptr ?_
  refine aa.mk (Ld.mk (by exact .tail _ (.head _)) rfl ?_)
  refine aA.whole (r:=aT d) (by exact .head _) rfl ?_
  refine Build.mk (cs:=(nH.mk (d.v:Int) d.lo d.hi true 0).row) (by kernel_rfl) ?_
  refine hl.KW (A:=[_,_]) (B:=Cf) (i:=r) (by rw[List.length_map];have:=(ho.kI r).1 (by simp);obtain⟨p,hp,_⟩:=this;exact(List.getElem?_eq_some_iff.1 hp).1) rfl (row_one _) fun C' hl'=>?_
  rw[mh]at hl'
  simp only[List.cons_append,List.nil_append]
  refine Nil.ptr ?_
  refine aa.mk (Ld.mk (by exact .tail _ (.head _)) rfl ?_)
  refine ae.aH (b:=1) (by simp[az];omega) ?_
  refine Nil.ptr (aa.mk ?_)
  refine St.one (by exact .tail (.head _)) rfl (by simp) rfl ?_
  exact aE.mk .tail ⟨r,rfl,g1,g2,g3,vl,v',_,fr',C',Cf,rfl,hl',Ob,hok⟩
 ·obtain rfl:fr=[]:=List.eq_nil_of_length_eq_zero (by omega)
  simp only[List.length_nil]at FL
  obtain⟨g1,g3,hok⟩:=ho.grow (by omega) d
  refine Nil.ptr ?_
  refine aa.mk (Ld.mk zM rfl ?_)
  refine hl.aS ?_
  rw[List.length_map]
  refine Nil.ptr ?_
  refine aa.mk (Ld.mk zM rfl ?_)
  refine ae.qz (Br.cq (by omega) ?_)
  refine DR.of (R:=(b1,.cells (List.toArray (aT d)) 161 (0,0))::(pa,.cells #[.int .i64 (cap:Int),vl,vf,.int .i64 (used:Int)] 198 (0,0))::[]) (.cons (.cons .nil)) ?_
  refine Nil.ptr ?_
  refine aa.mk (Ld.mk zM rfl ?_)
  refine aA.whole (r:=aT d) (by exact .head _) rfl ?_
  refine Build.mk (cs:=(nH.mk (d.v:Int) d.lo d.hi true 0).row) (by kernel_rfl) ?_
  refine ax.one (z:=.agg #[.int .i64 0,.int .u32 0,.int .u32 0,.bool false,.int .u8 0]) (e:=291) (k:=5) (by kernel_rfl) (by kernel_rfl) (by kernel_rfl) (by decide) rfl fun bx=>?_
  refine⟨.skip (.cons (.cons .nil)),?_⟩
  refine hl.Ci (A:=[_,_,_]) (B:=Cf) (r:=(nH.mk (d.v:Int) d.lo d.hi true 0).row) (by exact .head _) rfl (row_one _) (by exact⟨[.int .i64 0,.int .u32 0,.int .u32 0,.bool false,.int .u8 0],rfl,rfl⟩) (by simp;omega) (by simp;omega) fun v' C' hl'=>?_
  have q6:aR 291 5 v' ((l++[(⟨(d.v:Int),d.lo,d.hi,true,0⟩:nH)]).map nH.row) C':=by rw[List.map_append];exact hl'
  simp only[List.cons_append,List.nil_append]
  refine⟨.skip (.cons (.cons .nil)),?_⟩
  have hone:v'.oneCell'=true:=by obtain⟨a,c,e⟩:=q6.len;rw[e];rfl
  refine Nil.ptr (aa.mk ?_)
  refine St.one (by exact .tail (.tail (.head _))) hone (by simp) rfl ?_
  refine Nil.ptr ?_
  refine aa.mk (Ld.mk (by exact .tail _ (.tail _ (.head _))) rfl ?_)
  refine ae.aH (b:=1) (by simp[az];omega) ?_
  refine Nil.ptr (aa.mk ?_)
  refine St.one (by exact .tail (.tail (.head _))) rfl (by simp) rfl ?_
  refine Nil.ptr ?_
  refine aa.mk (Ld.mk (by exact .tail _ (.tail _ (.head _))) rfl ?_)
  refine q6.aS ?_
  refine ae.bC (b:=1) (by simp[az];omega) (by simp) ?_
  refine bI.nat (by simp[az];omega) ?_
  refine aE.mk (.skip .tail) ⟨l.length,by simp[u32],g1,by omega,g3,v',vf,_,[],C',Cf,rfl,q6,hf,hok⟩
theorem QA{pa cap used r:Nat}{N:gC}{C:Hp}{d:Nd}(h:ic pa cap used N C)(hd:X3 N d)(hr:∃e,N r=some e)(h2:2≤r):
  Fc Tryz.prog 140 #[ptr pa,u32 r,.agg (aT d).toArray] C (fun v C'=>v=.int .i64 0∧ic pa cap used (up N r (some d)) C'):=by
 have h0:=h
 obtain⟨vl,vf,l,fr,Cl,Cf,rfl,hl,hf,ho⟩:=h
 have hx:=cR.2 (.inr hr:live N r)
 rw[ho.y2]at hx
 obtain⟨p,hg,hx⟩:∃p,l[r]? =some p∧p.tk=true:=by
  cases hg:l[r]? with
  |none=>rw[hg]at hx;simp at hx
  |some p=>rw[hg]at hx;exact⟨p,rfl,hx⟩
 intro g
 refine Ey (R:=aE _) ?_
 unfold L140
 intro b1 _
 refine ae.aJ (Br.no ?_)
 refine aA.whole (r:=aT d) (by exact .head _) rfl ?_
 refine ag.rd (.cons .here) (wo h0 hd) ?_
 rintro v rfl
 refine ae.gj (Br.cq (by simp) ?_)
 refine ag.rd (.cons .here) (La h0 hr h2) ?_
 rintro v rfl
 refine ae.gj (Br.cq (by simp) ?_)
 refine DR.self ?_
 refine Nil.ptr ?_
 refine aa.mk (Ld.mk zM rfl ?_)
 refine aA.whole (r:=aT d) (by exact .head _) rfl ?_
 refine hl.O2 (A:=[_,_]) (B:=Cf) (r:=p.row) (xs:=aT d) (n:=3) (by rw[List.getElem?_map,hg];rfl) ⟨rfl,by omega⟩ (by intro x hx;simp[aT,u32]at hx;rcases hx with rfl|rfl|rfl<;>rfl) fun C' hl'=>?_
 have e:(aT d++p.row.drop 3)=(nH.mk (d.v:Int) d.lo d.hi true p.c).row:=by simp[aT,nH.row,hx]
 rw[e,mh]at hl'
 exact aE.mk .tail ⟨rfl,vl,vf,_,fr,C',Cf,rfl,hl',hf,ho.wJ h2 hg hx d⟩
theorem Nw{pa cap used r:Nat}{N:gC}{C:Hp}(h:ic pa cap used N C)(hr:∃e,N r=some e)(h2:2≤r):
  Fc Tryz.prog 210 #[ptr pa,u32 r] C (fun v C'=>v=.int .i64 0∧ic pa cap (used-1) (up N r none) C'):=by
 have h0:=h
 obtain⟨vl,vf,l,fr,Cl,Cf,rfl,hl,hf,ho⟩:=h
 have hx:=cR.2 (.inr hr:live N r)
 rw[ho.y2]at hx
 obtain⟨p,hg,hx⟩:∃p,l[r]? =some p∧p.tk=true:=by
  cases hg:l[r]? with
  |none=>rw[hg]at hx;simp at hx
  |some p=>rw[hg]at hx;exact⟨p,rfl,hx⟩
 obtain⟨hok,hu0⟩:=ho.free h2 hg hx
 have hcap:=ho.cap
 have FL:=ho.used
 intro g
 refine DG (R:=aE _) ?_
 unfold L210
 refine ae.aJ (Br.no ?_)
 refine ag.rd .here (La h0 hr h2) ?_
 rintro v rfl
 refine ae.gj (Br.cq (by simp) ?_)
 refine Nil.ptr ?_
 refine aa.mk (Ld.mk zM rfl ?_)
 refine Build.mk (cs:=(nH.mk 0 0 0 false 0).row) (by kernel_rfl) ?_
 refine hl.KW (A:=[_]) (B:=Cf) (i:=r) (by rw[List.length_map];exact(List.getElem?_eq_some_iff.1 hg).1) rfl (row_one _) fun C' hl'=>?_
 rw[mh]at hl'
 simp only[List.cons_append,List.nil_append]
 refine Nil.ptr ?_
 refine aa.mk (Ld.mk (by exact .head _) rfl ?_)
 refine ax.int (e:=77) (by kernel_rfl) (by kernel_rfl) (by kernel_rfl) fun bx=>?_
 have e1:(bx,Obj.cells (aF .u32 [(r:Int)]) 77 (0,0))::(pa,Obj.cells #[.int .i64 (cap:Int),vl,vf,.int .i64 (used:Int)] 198 (0,0))::(C'++Cf)=(bx,Obj.cells (aF .u32 [(r:Int)]) 77 (0,0))::(pa,Obj.cells #[.int .i64 (cap:Int),vl,vf,.int .i64 (used:Int)] 198 (0,0))::C'++(Cf++[]):=by simp
 rw[e1]
 refine hf.app (x:=(r:Int)) (B:=[]) (by exact .head _) (by simp;omega) (by simp;omega) fun v' Cf' Oc=>?_
 have Ob:aQ 77 .u32 v' ((fr++[r]).map (Nat.cast:Nat→Int)) Cf':=by rw[List.map_append];exact Oc
 have hone:v'.oneCell'=true:=by obtain⟨a,c,e⟩:=aR.len Ob;rw[e];rfl
 simp only[List.cons_append,List.append_nil]
 refine Nil.ptr (aa.mk ?_)
 refine St.one (by exact .tail (.head _)) hone (by simp) rfl ?_
 refine Nil.ptr ?_
 refine aa.mk (Ld.mk (by exact .tail _ (.head _)) rfl ?_)
 refine ae.bC (b:=1) (by simp[az];omega) (by omega) ?_
 refine Nil.ptr (aa.mk ?_)
 refine St.one (by exact .tail (.head _)) rfl (by simp) rfl ?_
 exact aE.mk .tail ⟨rfl,vl,v',_,_,C',Cf',rfl,hl',Ob,hok⟩
def nK(d:Nd):Value:=.agg (aT d).toArray
abbrev Vp(v:Value)(r:Nat):Prop:=v=u32 r
theorem FE:Tryz.prog.underlying 161=some (.struct (Tryz.prog.fieldsOf 161)):=by kernel_rfl
theorem pe(a b:Nd):E7 Tryz.prog 161 (nK a) (nK b) (decide (a=b)):=by
 refine E7.flat (fs:=#[⟨"Var",3,0,false, "", "",0⟩,⟨"Lo",77,1,false, "", "",8⟩,⟨"Hi",77,2,false, "", "",12⟩]) (by kernel_rfl) (by kernel_rfl) ?_ ?_
 ·intro f hf
  simp only[List.mem_cons,List.not_mem_nil,or_false]at hf
  rcases hf with rfl|rfl|rfl
  ·exact⟨by decide,_,_,rfl,rfl,.inl ⟨.i64,_,_,by kernel_rfl,rfl,rfl⟩⟩
  ·exact⟨by decide,_,_,rfl,rfl,.inl ⟨.u32,_,_,by kernel_rfl,rfl,rfl⟩⟩
  ·exact⟨by decide,_,_,rfl,rfl,.inl ⟨.u32,_,_,by kernel_rfl,rfl,rfl⟩⟩
 ·obtain⟨a1,a2,a3⟩:=a
  obtain⟨b1,b2,b3⟩:=b
  simp[aT,u32]
  omega
theorem kU(a:Nd):nI Tryz.prog 161 (nK a):=by
 refine nI.flat (fs:=#[⟨"Var",3,0,false, "", "",0⟩,⟨"Lo",77,1,false, "", "",8⟩,⟨"Hi",77,2,false, "", "",12⟩]) (by kernel_rfl) ?_
 intro f hf
 simp only[List.mem_cons,List.not_mem_nil,or_false]at hf
 rcases hf with rfl|rfl|rfl
 ·exact⟨by decide,_,rfl,.inl ⟨.i64,_,_,by kernel_rfl,rfl,rfl⟩⟩
 ·exact⟨by decide,_,rfl,.inl ⟨.u32,_,_,by kernel_rfl,rfl,rfl⟩⟩
 ·exact⟨by decide,_,rfl,.inl ⟨.u32,_,_,by kernel_rfl,rfl,rfl⟩⟩
theorem FH(a:Nd):Instr.sameBits 10000 (nK a) (nK a)=true:=uT 9998 (by intro x hx;simp[aT,u32]at hx;rcases hx with rfl|rfl|rfl<;>exact .inl ⟨_,_,rfl⟩)
structure UM where
 b:Nat
 es:Array MapEntry
 ck:Nat
 l:List (Nd×Nat)
def Hs(ms:List UM):Hp:=ms.map fun m=>(m.b,.map m.es m.ck)
structure Oj(ms:List UM)(n:Nat)(T:Nd→Option Nat):Prop where
 len:ms.length=n
 ru:∀(v:Nat) m,ms[v]? =some m→bq nK Vp m.es m.ck m.l
 var:∀(v:Nat) m,ms[v]? =some m→∀x∈m.l,x.1.v=v
 T:∀d,T d=(ms[d.v]?).bind fun m=>ed m.l d
def mS(pt n:Nat)(T:Nd→Option Nat)(C:Hp):Prop:=
 ∃vs Cs ms,C=(pt,.cells #[vs] 265 (0,0))::(Cs++Hs ms)∧aR 266 1 vs (ms.map fun m=>[.map (some m.b)]) Cs∧Oj ms n T
theorem po{ms:List UM}{v:Nat}{m:UM}(h:ms[v]? =some m):(m.b,Obj.map m.es m.ck)∈Hs ms:=List.mem_map.2 ⟨m,List.mem_of_getElem? h,rfl⟩
theorem wY{es':Array MapEntry}{eN:Nat}{l':List (Nd×Nat)}:∀{ms:List UM} {v:Nat} {m:UM},ms[v]? =some m→cK m.b (.map m.es m.ck) (.map es' eN) (Hs ms) (Hs (ms.set v ⟨m.b,es',eN,l'⟩))
 | [],v,m,h=>by simp at h
 |x::ms,0,m,h=>by simp at h;subst h;exact .head _
 |x::ms,v+1,m,h=>by simp at h;exact .tail (wY h)
theorem vG{ms:List UM}{v:Nat}{m m':UM}(h:ms[v]? =some m)(hb:m'.b=m.b):(ms.set v m').map (fun m=>[Value.map (some m.b)])=ms.map fun m=>[Value.map (some m.b)]:=by
 rw[List.map_set]
 apply List.ext_getElem?
 intro j
 rw[List.getElem?_set]
 split
 ·rename_i e;subst e
  have hlt:=(List.getElem?_eq_some_iff.1 h).1
  have e2:ms[v]=m:=by rw[List.getElem?_eq_getElem hlt]at h;exact Option.some.inj h
  simp[hb,hlt,e2]
 ·rfl
theorem Oj.add{ms:List UM}{n:Nat}{T:Nd→Option Nat}(h:Oj ms n T){d:Nd}{m:UM}(hm:ms[d.v]? =some m){es':Array MapEntry}{eN r:Nat}(he:bq nK Vp es' eN (gP m.l d r)):Oj (ms.set d.v ⟨m.b,es',eN,gP m.l d r⟩) n (oM T d (some r)) where
 len:=by rw[List.length_set];exact h.len
 ru:=fun v m' hm'=>by
  rw[List.getElem?_set]at hm'
  split at hm'
  ·split at hm'
   ·cases hm';exact he
   ·cases hm'
  ·exact h.ru v m' hm'
 var:=fun v m' hm' x hx=>by
  rw[List.getElem?_set]at hm'
  split at hm'
  ·rename_i e
   split at hm'
   ·cases hm'
    subst e
    simp only[gP]at hx
    split at hx
    ·obtain⟨y,hy,rfl⟩:=List.mem_map.1 hx
     split
     ·rfl
     ·exact h.var _ m hm y hy
    ·rcases List.mem_append.1 hx with hx|hx
     ·exact h.var _ m hm x hx
     ·simp at hx;subst hx;rfl
   ·cases hm'
  ·exact h.var v m' hm' x hx
 T:=fun e=>by
  have hlt:=(List.getElem?_eq_some_iff.1 hm).1
  by_cases ee:e=d
  ·subst ee;rw[iU,List.getElem?_set_self hlt];simp[fZ]
  ·rw[n3 ee,h.T e]
   by_cases ev:d.v=e.v
   ·rw[←ev,List.getElem?_set_self hlt,hm];simp[fZ,ee]
   ·rw[List.getElem?_set_ne ev]
theorem Oj.del{ms:List UM}{n:Nat}{T:Nd→Option Nat}(h:Oj ms n T){d:Nd}{m:UM}(hm:ms[d.v]? =some m){es':Array MapEntry}{eN:Nat}(he:bq nK Vp es' eN (uW m.l d)):Oj (ms.set d.v ⟨m.b,es',eN,uW m.l d⟩) n (oM T d none) where
 len:=by rw[List.length_set];exact h.len
 ru:=fun v m' hm'=>by
  rw[List.getElem?_set]at hm'
  split at hm'
  ·split at hm'
   ·cases hm';exact he
   ·cases hm'
  ·exact h.ru v m' hm'
 var:=fun v m' hm' x hx=>by
  rw[List.getElem?_set]at hm'
  split at hm'
  ·rename_i e
   split at hm'
   ·cases hm'
    subst e
    exact h.var _ m hm x (List.mem_filter.1 hx|>.1)
   ·cases hm'
  ·exact h.var v m' hm' x hx
 T:=fun e=>by
  have hlt:=(List.getElem?_eq_some_iff.1 hm).1
  by_cases ee:e=d
  ·subst ee;rw[iU,List.getElem?_set_self hlt];simp[vF]
  ·rw[n3 ee,h.T e]
   by_cases ev:d.v=e.v
   ·rw[←ev,List.getElem?_set_self hlt,hm];simp[vF,ee]
   ·rw[List.getElem?_set_ne ev]
theorem jW{pt n v:Nat}{T:Nd→Option Nat}{C:Hp}(h:mS pt n T C)(hv:v<n):Rd Tryz.prog 206 #[ptr pt,.int .i64 (v:Int)] C (· =.int .i64 0):=by
 obtain⟨vs,Cs,ms,rfl,hs,ho⟩:=h
 intro g
 refine DK (R:=aE _) ?_
 unfold L206
 refine ae.aJ (Br.no ?_)
 refine ae.lss ?_
 rw[decide_eq_false (by omega:¬((v:Int)<0))]
 refine cv.or false (fun _=>?_) rfl fun _=>Br.no (bL.mk (.refl _) rfl)
 refine Nil.ptr ?_
 refine aa.mk (Ld.mk zM rfl ?_)
 refine hs.aS ?_
 rw[List.length_map,ho.len]
 exact ae.qz ⟨rfl,by rw[decide_eq_false (by omega)]⟩
theorem r4{pt n:Nat}{T:Nd→Option Nat}{C:Hp}{d:Nd}(h:mS pt n T C)(hv:d.v<n):
  Rd Tryz.prog 205 #[ptr pt,nK d] C (· =.tuple #[u32 ((T d).getD 0),.bool (T d).isSome]):=by
 have h0:=h
 obtain⟨vs,Cs,ms,rfl,hs,ho⟩:=h
 obtain⟨m,hm⟩:∃m,ms[d.v]? =some m:=⟨_,List.getElem?_eq_getElem (by rw[ho.len];exact hv)⟩
 intro g
 refine DL (R:=aE _) ?_
 unfold L205
 intro b1 _
 refine aa.mk (Ld.mk (v:=.int .i64 (d.v:Int)) (by exact .head _) rfl ?_)
 refine ag.rd (.cons .here) (jW h0 hv) ?_
 rintro v rfl
 refine ae.gj (Br.cq (by simp) ?_)
 refine Nil.ptr ?_
 refine aa.mk (Ld.mk zM rfl ?_)
 refine aa.mk (Ld.mk (v:=.int .i64 (d.v:Int)) (by exact .head _) rfl ?_)
 refine hs.Q7 (x:=.map (some m.b)) (by rw[List.getElem?_map,hm];rfl) (fun _ h=>by exact .tail _ (.tail _ (List.mem_append_left _ h))) ?_
 refine aA.whole (r:=aT d) (by exact .head _) rfl ?_
 have hmem:(m.b,Obj.map m.es m.ck)∈(b1,Obj.cells (Value.cells (nK d)) 161 (0,0))::(pt,.cells #[vs] 265 (0,0))::(Cs++Hs ms):=.tail _ (.tail _ (List.mem_append_right _ (po hm)))
 have hT:T d=ed m.l d:=by rw[ho.T,hm];rfl
 rw[hT]
 cases hg:ed m.l d with
 |some r=>
  refine bq.PU (ke:=nK) (k:=d) pe kU (ho.ru _ m hm) hmem hg ?_
  rintro v rfl
  exact Ext.mk rfl (Ext.mk rfl (bL.mk .tail rfl))
 |none=>
  refine bq.FI (ke:=nK) (k:=d) pe kU (ho.ru _ m hm) hmem hg ?_
  exact Ext.mk rfl (Ext.mk rfl (bL.mk .tail rfl))
theorem Fj{pt n r:Nat}{T:Nd→Option Nat}{C:Hp}{d:Nd}(h:mS pt n T C)(hv:d.v<n)(hT:T d=none):
  Fc Tryz.prog 141 #[ptr pt,nK d,u32 r] C (fun v C'=>v=.int .i64 0∧mS pt n (oM T d (some r)) C'):=by
 have h0:=h
 obtain⟨vs,Cs,ms,rfl,hs,ho⟩:=h
 obtain⟨m,hm⟩:∃m,ms[d.v]? =some m:=⟨_,List.getElem?_eq_getElem (by rw[ho.len];exact hv)⟩
 have hTm:ed m.l d=none:=by rw[ho.T,hm]at hT;exact hT
 intro g
 refine Ex (R:=aE _) ?_
 unfold L141
 intro b1 _
 refine aa.mk (Ld.mk (v:=.int .i64 (d.v:Int)) (by exact .head _) rfl ?_)
 refine ag.rd (.cons .here) (jW h0 hv) ?_
 rintro v rfl
 refine ae.gj (Br.cq (by simp) ?_)
 refine Nil.ptr ?_
 refine aa.mk (Ld.mk zM rfl ?_)
 refine aa.mk (Ld.mk (v:=.int .i64 (d.v:Int)) (by exact .head _) rfl ?_)
 refine hs.Q7 (x:=.map (some m.b)) (by rw[List.getElem?_map,hm];rfl) (fun _ h=>by exact .tail _ (.tail _ (List.mem_append_left _ h))) ?_
 refine aA.whole (r:=aT d) (by exact .head _) rfl ?_
 have hmem:(m.b,Obj.map m.es m.ck)∈(b1,Obj.cells (Value.cells (nK d)) 161 (0,0))::(pt,.cells #[vs] 265 (0,0))::(Cs++Hs ms):=.tail _ (.tail _ (List.mem_append_right _ (po hm)))
 refine bq.FI (ke:=nK) (k:=d) pe kU (ho.ru _ m hm) hmem hTm ?_
 refine Ext.mk rfl (Ext.mk rfl (Br.no ?_))
 refine DR.self ?_
 refine Nil.ptr ?_
 refine aa.mk (Ld.mk zM rfl ?_)
 refine aa.mk (Ld.mk (v:=.int .i64 (d.v:Int)) (by exact .head _) rfl ?_)
 refine hs.Q7 (x:=.map (some m.b)) (by rw[List.getElem?_map,hm];rfl) (fun _ h=>by exact .tail _ (.tail _ (List.mem_append_left _ h))) ?_
 refine aA.whole (r:=aT d) (by exact .head _) rfl ?_
 refine bq.Vs (ke:=nK) (k:=d) (vr:=Vp) (x:=r) pe kU FH (ho.ru _ m hm) rfl fun es' eN he=>⟨_,.tail (.tail ((wY (l':=gP m.l d r) hm).bP Cs)),?_⟩
 exact aE.mk .tail ⟨rfl,vs,Cs,_,rfl,by rw[vG hm];exact hs;rfl,ho.add hm he⟩
theorem vD{pt n r:Nat}{T:Nd→Option Nat}{C:Hp}{d:Nd}(h:mS pt n T C)(hv:d.v<n)(hT:T d=some r):
  Fc Tryz.prog 137 #[ptr pt,nK d] C (fun v C'=>v=.int .i64 0∧mS pt n (oM T d none) C'):=by
 have h0:=h
 obtain⟨vs,Cs,ms,rfl,hs,ho⟩:=h
 obtain⟨m,hm⟩:∃m,ms[d.v]? =some m:=⟨_,List.getElem?_eq_getElem (by rw[ho.len];exact hv)⟩
 have hTm:ed m.l d=some r:=by rw[ho.T,hm]at hT;exact hT
 intro g
 refine EA (R:=aE _) ?_
 unfold L137
 intro b1 _
 refine aa.mk (Ld.mk (v:=.int .i64 (d.v:Int)) (by exact .head _) rfl ?_)
 refine ag.rd (.cons .here) (jW h0 hv) ?_
 rintro v rfl
 refine ae.gj (Br.cq (by simp) ?_)
 refine Nil.ptr ?_
 refine aa.mk (Ld.mk zM rfl ?_)
 refine aa.mk (Ld.mk (v:=.int .i64 (d.v:Int)) (by exact .head _) rfl ?_)
 refine hs.Q7 (x:=.map (some m.b)) (by rw[List.getElem?_map,hm];rfl) (fun _ h=>by exact .tail _ (.tail _ (List.mem_append_left _ h))) ?_
 refine aA.whole (r:=aT d) (by exact .head _) rfl ?_
 have hmem:(m.b,Obj.map m.es m.ck)∈(b1,Obj.cells (Value.cells (nK d)) 161 (0,0))::(pt,.cells #[vs] 265 (0,0))::(Cs++Hs ms):=.tail _ (.tail _ (List.mem_append_right _ (po hm)))
 refine bq.PU (ke:=nK) (k:=d) pe kU (ho.ru _ m hm) hmem hTm ?_
 rintro v rfl
 refine Ext.mk rfl (Ext.mk rfl (Un.not (Br.no ?_)))
 refine DR.of (R:=(b1,Obj.cells (Value.cells (nK d)) 161 (0,0))::(pt,.cells #[vs] 265 (0,0))::Cs) (.cons (.cons .left)) ?_
 refine Nil.ptr ?_
 refine aa.mk (Ld.mk zM rfl ?_)
 refine aa.mk (Ld.mk (v:=.int .i64 (d.v:Int)) (by exact .head _) rfl ?_)
 refine hs.Q7 (x:=.map (some m.b)) (by rw[List.getElem?_map,hm];rfl) (fun _ h=>by exact .tail _ (.tail _ h)) ?_
 refine aA.whole (r:=aT d) (by exact .head _) rfl ?_
 refine bq.acG (ke:=nK) (k:=d) pe kU (ho.ru _ m hm) hmem fun es' he=>⟨_,.tail (.tail ((wY (l':=uW m.l d) hm).bP Cs)),?_⟩
 exact⟨.cons (.cons .left),aE.mk .tail ⟨rfl,vs,Cs,_,rfl,by rw[vG hm];exact hs;rfl,ho.del hm he⟩⟩
theorem Oj.start(n:Nat)(bs:List Nat)(h:bs.length=n):Oj (bs.map fun b=>⟨b,#[],0,[]⟩) n (fun _=>none) where
 len:=by simpa using h
 ru:=fun v m hm=>by
  rw[List.getElem?_map]at hm
  obtain⟨b,_,rfl⟩:=Option.map_eq_some_iff.1 hm
  exact bq.empty
 var:=fun v m hm x hx=>by
  rw[List.getElem?_map]at hm
  obtain⟨b,_,rfl⟩:=Option.map_eq_some_iff.1 hm
  simp at hx
 T:=fun d=>by
  rw[List.getElem?_map]
  cases bs[d.v]? <;>simp[ed]
theorem zD(x:Value):∀n:Nat,(List.replicate n [x]).flatten=List.replicate n x
 |0=>rfl
 |n+1=>by rw[List.replicate_succ,List.flatten_cons,List.replicate_succ,zD x n];rfl
theorem OM{n:Nat}(hn:1≤n∧n≤64):Fc Tryz.prog 117 #[.int .i64 (n:Int)] [] (fun v H=>∃pt,v=.tuple #[ptr pt,.int .i64 0]∧mS pt n (fun _=>none) H):=by
 intro g
 refine EJ (R:=aE _) ?_
 unfold L117
 refine ae.lss ?_
 rw[decide_eq_false (by omega)]
 refine cv.or false (fun _=>ae.gtr ⟨rfl,by rw[decide_eq_false (by omega)]⟩) rfl fun _=>Br.no ?_
 refine⟨.i64,.i64,n,n,rfl,rfl,Nat.le_refl _,by omega,by omega,?_⟩
 intro bs _
 refine Build.mk (cs:=[.slice (some ⟨bs,0,none⟩) n n]) (by kernel_rfl) ?_
 intro pt _
 have hz:madeCells (Value.cells (.map none)) (n*1)=rows ((List.replicate n [Value.map none])++[]):=by
  apply Array.ext'
  apply List.ext_getElem?
  intro i
  have:=zD (.map none) n
  simp only[madeCells,rows,Value.cells,Array.toList_map,Array.toList_range,List.getElem?_map,List.toList_toArray,Nat.mul_one,List.append_nil]
  rw[this,List.getElem?_replicate]
  by_cases hi:i<n
  ·simp[hi,Nat.mod_one]
  ·simp[hi]
 rw[hz]
 have hs0:aR 266 1 (.slice (some ⟨bs,0,none⟩) n n) (List.replicate n [Value.map none]) [(bs,.cells (rows ((List.replicate n [Value.map none])++[])) 266 (0,0))]:=
  aR.mk' (fun r hr=>by rw[List.append_nil]at hr;rw[List.eq_of_mem_replicate hr];rfl) (by simp) (by simp)
 refine⟨fun vs H=>∃(j:Nat) (bl:List Nat) (Cs:Hp),vs=[.int .i64 (j:Int)]∧bl.length=j∧j≤n∧H=(pt,.cells #[.slice (some ⟨bs,0,none⟩) n n] 265 (0,0))::(Cs++Hs (bl.map fun b=>⟨b,#[],0,[]⟩))∧
  aR 266 1 (.slice (some ⟨bs,0,none⟩) n n) ((bl.map fun b=>[Value.map (some b)])++List.replicate (n-j) [Value.map none]) Cs,fun vs _=>n-bg vs 0,JE.mk ⟨0,[],_,rfl,rfl,by omega,by simp only[Hs,List.map_nil,List.append_nil];rfl,by simpa using hs0⟩,?_⟩
 rintro w H ⟨j,bl,Cs,hw,RJ,hj,rfl,hs⟩ gs
 simp only[List.cons.injEq,and_true]at hw
 subst hw
 refine ae.dL (Br.dec (fun hlt=>?_) (fun hlt=>?_))
 ·refine Nil.ptr ?_
  refine aa.mk (Ld.mk (by exact .head _) rfl ?_)
  intro b _
  have hlen:((bl.map fun b=>[Value.map (some b)])++List.replicate (n-j) [Value.map none]).length=n:=by simp;omega
  refine aR.aao (A:=[_,_]) (B:=Hs (bl.map fun b=>⟨b,#[],0,[]⟩)) hs (i:=j) (y:=.map none) (by omega) ?_ rfl fun C' hs'=>?_
  ·rw[List.getElem?_append_right (by simp[RJ])]
   simp only[List.length_map,RJ,Nat.sub_self]
   rw[List.getElem?_replicate,if_pos (by omega)]
  refine ae.aH (b:=1) (by simp[az];omega) ?_
  have e:((bl.map fun b=>[Value.map (some b)])++List.replicate (n-j) [Value.map none]).set j [Value.map (some b)]=((bl++[b]).map fun b=>[Value.map (some b)])++List.replicate (n-(j+1)) [Value.map none]:=by
   rw[List.set_append_right _ _ (by simp[RJ])]
   simp only[List.length_map,RJ,Nat.sub_self]
   rw[show n-j=(n-(j+1))+1 by omega,List.replicate_succ,List.set_cons_zero,List.map_append]
   simp
  rw[e]at hs'
  refine ay.of ?_ ⟨j+1,bl++[b],C',rfl,by simp[RJ],by omega,rfl,hs'⟩ (by show n-(((j+1:Nat):Int).toNat)<n-(((j:Nat):Int).toNat);omega)
  refine aO.perm ?_
  simp only[List.cons_append,List.nil_append,Hs,List.map_append,List.map_map]
  refine(List.Perm.swap _ _ _).trans (.cons _ ?_)
  rw[←List.append_assoc]
  exact(List.perm_append_singleton _ _).symm
 ·obtain rfl:j=n:=by omega
  refine aE.here ⟨pt,rfl,_,Cs,_,rfl,?_,Oj.start _ bl RJ⟩
  rw[Nat.sub_self]at hs
  simpa[List.map_map,Function.comp_def]using hs
theorem QC{n:Nat}(hn:2≤n∧n≤1048576):Fc Tryz.prog 186 #[.int .i64 (n:Int)] [] (fun v H=>∃pa,v=.tuple #[ptr pa,.int .i64 0]∧ic pa n 2 (fun _=>none) H):=by
 intro g
 refine DW (R:=aE _) ?_
 unfold L186
 refine ae.lss ?_
 rw[decide_eq_false (by omega)]
 refine cv.or false (fun _=>ae.gtr ⟨rfl,by rw[decide_eq_false (by omega)]⟩) rfl fun _=>Br.no ?_
 refine Build.mk (cs:=[.int .i64 (n:Int),.slice none 0 0,.slice none 0 0,.int .i64 2]) (by kernel_rfl) ?_
 intro pa _
 refine⟨fun vs H=>∃(j:Nat) (vl:Value) (Cl:Hp),vs=[u32 j]∧j≤2∧H=(pa,.cells #[.int .i64 (n:Int),vl,.slice none 0 0,.int .i64 2] 198 (0,0))::Cl∧
  aR 291 5 vl ((List.range j).map fun r=>(nH.mk (-1) r r true 255).row) Cl,fun vs _=>2-bg vs 0,JE.mk ⟨0,_,[],rfl,by omega,rfl,aR.nil _ _⟩,?_⟩
 rintro w H ⟨j,vl,Cl,hw,hj,rfl,hs⟩ gs
 simp only[List.cons.injEq,and_true]at hw
 subst hw
 refine ae.dL (b:=2) (Br.dec (fun hlt=>?_) (fun hlt=>?_))
 ·refine Nil.ptr ?_
  refine aa.mk (Ld.mk (by exact .head _) rfl ?_)
  refine Build.mk (cs:=[.int .i64 (-1),u32 j,u32 j]) (by kernel_rfl) ?_
  refine Build.mk (cs:=(nH.mk (-1) j j true 255).row) (by kernel_rfl) ?_
  refine ax.one (z:=.agg #[.int .i64 0,.int .u32 0,.int .u32 0,.bool false,.int .u8 0]) (e:=291) (k:=5) (by kernel_rfl) (by kernel_rfl) (by kernel_rfl) (by decide) rfl fun bx=>?_
  have e1:∀x y:Nat×Obj,x::y::Cl=[x,y]++(Cl++[]):=fun x y=>by simp
  rw[e1]
  refine hs.Ci (A:=[_,_]) (B:=[]) (r:=(nH.mk (-1) j j true 255).row) (by exact .head _) rfl (row_one _) (by exact⟨[.int .i64 0,.int .u32 0,.int .u32 0,.bool false,.int .u8 0],rfl,rfl⟩) (by simp;omega) (by simp;omega) fun v' C' hs'=>?_
  simp only[List.cons_append,List.nil_append,List.append_nil]
  have hone:v'.oneCell'=true:=by obtain⟨a,c,e⟩:=hs'.len;rw[e];rfl
  refine Nil.ptr (aa.mk ?_)
  refine St.one (by exact .tail (.head _)) hone (by simp) rfl ?_
  refine ae.aH (b:=1) (by simp[az];omega) ?_
  refine ay.of .tail ⟨j+1,v',C',rfl,by omega,rfl,?_⟩ (by show 2-(((j+1:Nat):Int).toNat)<2-(((j:Nat):Int).toNat);omega)
  rw[List.range_succ,List.map_append];exact hs'
 ·obtain rfl:j=2:=by omega
  refine aE.here ⟨pa,rfl,vl,_,[⟨-1,0,0,true,255⟩,⟨-1,1,1,true,255⟩],[],Cl,[],by rw[List.append_nil];rfl,hs,aQ.nil,?_⟩
  exact {
   cap:=by simp;omega
   two:=by simp
   const:=fun r hr=>by
    have:r=0∨r=1:=by omega
    rcases this with rfl|rfl
    ·exact⟨_,rfl,rfl,rfl,rfl,rfl⟩
    ·exact⟨_,rfl,rfl,rfl,rfl,rfl⟩
   nd:=fun r hr=>by rw[List.getElem?_eq_none (by simp;omega)];rfl
   n0:=fun _ _=>rfl
   nn:=fun r p hr hp _=>by rw[List.getElem?_eq_none (by simp;omega)]at hp;cases hp
   Oh:=by simp
   kI:=fun r=>by
    simp only[List.not_mem_nil,false_iff,not_exists,not_and]
    intro p hp
    have hlt:=(List.getElem?_eq_some_iff.1 hp).1
    simp at hlt
    have:r=0∨r=1:=by omega
    rcases this with rfl|rfl<;>(simp at hp;subst hp;simp)
   used:=rfl}
structure uP where
 pa:Nat
 pt:Nat
 vu:Value
 vh:Value
 vo:Value
 vl:Value
 vt:Value
 CA:Hp
 CT:Hp
 CU:Hp
 CH:Hp
 CO:Hp
 CL:Hp
 CR:Hp
def uP.cells(b:uP)(n:Nat):Array Value:=#[ptr b.pa,ptr b.pt,b.vu,b.vh,.int .i64 (n:Int),b.vo,b.vl,b.vt]
def uP.hp(b:uP)(kp n:Nat):Hp:=(kp,.cells (b.cells n) 117 (0,0))::(b.CA++(b.CT++(b.CU++(b.CH++(b.CO++(b.CL++b.CR))))))
structure Uo(b:uP)(K:Kd)(ord av tr:List Nat):Prop where
 ar:ic b.pa K.cap K.used K.N b.CA
 ut:mS b.pt K.n K.T b.CT
 us:aQ 21 .i32 b.vu (iw K.us) b.CU
 ho:aQ 21 .i32 b.vh (iw K.ho) b.CH
 od:aQ 3 .i64 b.vo (iw ord) b.CO
 lv:aQ 3 .i64 b.vl (iw av) b.CL
 tr:aQ 3 .i64 b.vt (iw tr) b.CR
 ul:K.us.length=K.ho.length∧K.us.length≤1048576
 uH:K.n≤64
 ol:ord.length=K.n∧av.length=K.n
def cY(kp:Nat)(K:Kd)(ord av tr:List Nat)(C:Hp):Prop:=∃b:uP,C=b.hp kp K.n∧Uo b K ord av tr
section
variable {kp:Nat} {K:Kd} {ord av tr:List Nat} {C:Hp}
theorem cY.cap(h:cY kp K ord av tr C):K.cap≤1048576:=by
 obtain⟨b,rfl,hb⟩:=h
 exact(hb.ar.lt (r:=0) (.inl (by decide))).2
theorem cY.lt(h:cY kp K ord av tr C){r:Nat}(hr:live K.N r):r<1048576:=by
 obtain⟨b,rfl,hb⟩:=h
 have:=hb.ar.lt hr
 omega
theorem dB(N:gC)(r:Nat):(got N r).length=3∧∀x∈got N r,x.oneCell'=true:=by
 unfold got
 split
 ·exact⟨rfl,by intro x hx;simp[u32]at hx;rcases hx with rfl|rfl|rfl<;>rfl⟩
 ·split
  ·exact⟨rfl,by intro x hx;simp[aT,u32]at hx;rcases hx with rfl|rfl|rfl<;>rfl⟩
  ·exact⟨rfl,by intro x hx;simp[u32]at hx;rcases hx with rfl|rfl|rfl<;>rfl⟩
theorem mq(h:cY kp K ord av tr C){r:Nat}(hr:r<4294967296):Rd Tryz.prog 173 #[ptr kp,u32 r] C (· =.bool (gf K.N r)):=by
 obtain⟨b,rfl,hb⟩:=h
 intro g
 refine D5 (R:=aE _) ?_
 unfold L173
 refine Nil.ptr ?_
 refine aa.mk (Ld.mk (v:=ptr b.pa) (by exact .head _) rfl ?_)
 refine ag.rd (.cons .left) (MI hb.ar hr) ?_
 rintro v rfl
 refine Ext.mk rfl (Ext.mk rfl ?_)
 intro b8 _
 refine St.whole (r:=got K.N r) (by exact .head _) rfl (dB _ _).1 (dB _ _).2 ?_
 refine ae.kJ ?_
 refine bL.mk .tail ?_
 cases gf K.N r<;>rfl
theorem mm(h:cY kp K ord av tr C){r:Nat}(hr:r<4294967296):Rd Tryz.prog 174 #[ptr kp,u32 r] C (· =.agg (got K.N r).toArray):=by
 obtain⟨b,rfl,hb⟩:=h
 intro g
 refine D4 (R:=aE _) ?_
 unfold L174
 intro b1 _
 refine Nil.ptr ?_
 refine aa.mk (Ld.mk (v:=ptr b.pa) (by exact .tail _ (.head _)) rfl ?_)
 refine ag.rd (.cons (.cons .left)) (MI hb.ar hr) ?_
 rintro v rfl
 refine Ext.mk rfl (Ext.mk rfl ?_)
 intro Nj _
 refine St.whole (r:=got K.N r) (by exact .head _) rfl (dB _ _).1 (dB _ _).2 ?_
 refine aA.whole (r:=got K.N r) (by exact .head _) (dB _ _).1 ?_
 refine St.whole (r:=got K.N r) (by exact .tail (.head _)) rfl (dB _ _).1 (dB _ _).2 ?_
 refine aA.whole (r:=got K.N r) (by exact .tail _ (.head _)) (dB _ _).1 ?_
 exact bL.mk (.skip .tail) rfl
theorem y7(h:cY kp K ord av tr C){m:Nat}(hm:m≤1099511627776)(hu:K.used≤1048576):Rd Tryz.prog 135 #[ptr kp,.int .i64 (m:Int)] C (· =.bool (decide (K.used+m≤K.cap))):=by
 obtain⟨b,rfl,hb⟩:=h
 intro g
 refine EC (R:=aE _) ?_
 unfold L135
 refine DR.self ?_
 refine Nil.ptr ?_
 refine aa.mk (Ld.mk (v:=ptr b.pa) (by exact .head _) rfl ?_)
 refine Nil.ptr ?_
 refine aa.mk (Ld.mk (v:=ptr b.pa) (by exact .head _) rfl ?_)
 refine ag.rd (.cons .left) (z7 hb.ar) ?_
 rintro v rfl
 refine⟨.refl _,?_⟩
 refine ae.aH (by simp[az];omega) ?_
 refine ag.rd (.cons .left) (Cj hb.ar) ?_
 rintro v rfl
 refine⟨.refl _,?_⟩
 refine ae.y4 ?_
 exact bL.mk (.refl _) rfl
def qP(K:Kd)(r:Nat):List Nat:=if r<2 then K.us else K.us.set r (K.use r+1)
theorem iH(r:Nat):(qP K r).length=K.us.length:=by unfold qP;split<;>simp
theorem lX{r:Nat}(h2:2≤r)(hr:r<K.us.length):(qP K r).getD r 0=K.use r+1:=by
 unfold qP;rw[if_neg (by omega)];simp[List.getD,hr]
theorem sC{r s:Nat}(h:s≠r):(qP K r).getD s 0=K.use s:=by
 unfold qP Kd.use
 split
 ·rfl
 ·simp[List.getD,List.getElem?_set_ne (Ne.symm h)]
theorem AX(h:cY kp K ord av tr C){r:Nat}(hr:r<2∨r<K.us.length)(hb:K.use r+1<2147483648):
  Fc Tryz.prog 139 #[ptr kp,u32 r] C (fun v C'=>v=.tuple #[]∧cY kp {K with us:=qP K r} ord av tr C'):=by
 obtain⟨b,rfl,hO⟩:=h
 intro g
 refine Ez (R:=aE _) ?_
 unfold L139
 refine ae.lQ (b:=1) (Br.dec (fun h1=>?_) (fun h1=>?_))
 ·have hr':r<K.us.length:=by omega
  refine Nil.ptr ?_
  refine aa.mk (Ld.mk (v:=b.vu) (by exact .head _) rfl ?_)
  refine hO.us.ld (x:=((K.use r:Nat):Int)) (bE hr') (cz.sub (.cons (.app (.app .left)))) ?_
  refine ae.aH (b:=1) (by simp[az];omega) ?_
  refine hO.us.ju (.cons (.app (.app .left))) (by simpa using hr') fun C' ho=>?_
  refine aE.here ⟨rfl,{b with CU:=C'},rfl,?_⟩
  have e:qP K r=K.us.set r (K.use r+1):=by unfold qP;rw[if_neg (by omega)]
  exact {hO with us:=by rw[fS]at ho;rw[e];exact ho,ul:=by simp only[e,List.length_set];exact hO.ul}
 ·refine aE.here ⟨rfl,b,rfl,?_⟩
  have e:qP K r=K.us:=by unfold qP;rw[if_pos (by omega)]
  rw[e];exact hO
end
section
variable {kp:Nat} {K:Kd} {ord av tr:List Nat} {C:Hp}
theorem g8{l:List Nat}{r s x:Nat}(hr:r<l.length):(l.set r x).getD s 0=if s=r then x else l.getD s 0:=by
 simp only[List.getD,List.getElem?_set]
 by_cases e:r=s
 ·subst e;simp[hr]
 ·rw[if_neg e,if_neg (Ne.symm e)]
theorem tG(l:List Nat)(s:Nat):(l++[0]).getD s 0=l.getD s 0:=by
 simp only[List.getD,List.getElem?_append]
 split
 ·rfl
 ·rename_i h
  rw[List.getElem?_eq_none (by omega:l.length≤s)]
  cases hs:s-l.length<;>simp[hs]
def Kr:Hp→Nat
 |_::(_,Obj.cells c _ _)::_=>(match c[2]? with|some (Value.slice _ n _)=>n|_=>0)
 |_=>0
theorem ym{b:uP}{x:Nat×Obj}{n m:Nat}{a:Option Addr}{cp:Nat}(h:b.vu=.slice a m cp):Kr (x::b.hp kp n)=m:=by simp[Kr,uP.hp,uP.cells,h]
theorem Fm(h:cY kp K ord av tr C){d:Nd}(hd:X3 K.N d)(hv:d.v<K.n)(hT:K.T d=none)(hroom:K.used<K.cap)(hlo:d.lo<2∨d.lo<K.us.length)(hhi:d.hi<2∨d.hi<K.us.length)
 (hb:∀s,K.use s+2<2147483648):
  Fc Tryz.prog 207 #[ptr kp,nK d] C (fun v C'=>∃r dk bT,v=u32 r∧K.N r=none∧2≤r∧r<K.cap∧dk.length=bT.length∧r<dk.length∧K.us.length≤dk.length∧dk.getD r 0=0∧
   (∀s,2≤s→s≠r→dk.getD s 0=K.use s+e1 (some d) s)∧(∀s,s<2→dk.getD s 0=K.use s)∧bT.getD r 0=0∧(∀s,s≠r→bT.getD s 0=K.hold s)∧
   cY kp {K with N:=up K.N r (some d),T:=oM K.T d (some r),used:=K.used+1,us:=dk,ho:=bT} ord av tr C'):=by
 have hcap:=h.cap
 obtain⟨b,rfl,hO⟩:=h
 have xk:=hO.ul
 intro g
 refine DJ (R:=aE _) ?_
 unfold L207
 intro b1 _
 refine DR.of (R:=(b1,.cells (Value.cells (nK d)) 161 (0,0))::(kp,.cells (b.cells K.n) 117 (0,0))::[]) (.cons (.cons .nil)) ?_
 refine Nil.ptr ?_
 refine aa.mk (Ld.mk (v:=ptr b.pa) (by exact .tail _ (.head _)) rfl ?_)
 refine aA.whole (r:=aT d) (by exact .head _) rfl ?_
 refine ag.fn (.cons (.cons .left)) (Nn hO.ar hd hroom) ?_
 rintro v Yr ⟨r,rfl,h2,hrc,hN,WU⟩
 refine⟨.cons (.cons .nil),Ext.mk rfl (Ext.mk rfl ?_)⟩
 refine⟨fun _ H=>∃(b':uP) (dk bT:List Nat),H=(b1,.cells (Value.cells (nK d)) 161 (0,0))::b'.hp kp K.n∧Uo b' {K with N:=up K.N r (some d),used:=K.used+1,us:=dk,ho:=bT} ord av tr∧
   K.us.length≤dk.length∧(∀s,dk.getD s 0=K.use s)∧∀s,bT.getD s 0=K.hold s,
  fun _ H=>r+1-Kr H,JE.mk ⟨{b with CA:=Yr},K.us,K.ho,rfl,{hO with ar:=WU,ul:=xk},Nat.le_refl _,fun _=>rfl,fun _=>rfl⟩,?_⟩
 rintro H ⟨b',dk,bT,rfl,xB,hle,hu,hh⟩ gs
 have V2:=xB.ul
 simp only at V2
 refine bI.nat (by simp[az];omega) (Nil.ptr ?_)
 refine aa.mk (Ld.mk (v:=b'.vu) (by exact .tail _ (.head _)) rfl ?_)
 refine xB.us.aS ?_
 rw[an]
 refine ae.qz (Br.dec (fun hge=>?_) (fun hge=>?_))
 ·have hge:dk.length≤r:=hge
  refine Nil.ptr ?_
  refine aa.mk (Ld.mk (v:=b'.vu) (by exact .tail _ (.head _)) rfl ?_)
  refine ax.int (e:=21) (by kernel_rfl) (by kernel_rfl) (by kernel_rfl) fun bx=>?_
  refine xB.us.mK (.cons (.cons (.cons (.app (.app .left))))) (by exact .head _) (by simp;omega) (by simp;omega) fun vu' Ov xl=>?_
  refine Nil.ptr (aa.mk ?_)
  refine St.one (by exact .tail (.tail (.head _))) xl.one (by simp[uP.cells]) rfl ?_
  refine Nil.ptr ?_
  refine aa.mk (Ld.mk (v:=b'.vh) (by exact .tail _ (.tail _ (.head _))) rfl ?_)
  refine ax.int (e:=21) (by kernel_rfl) (by kernel_rfl) (by kernel_rfl) fun by'=>?_
  refine xB.ho.mK (.cons (.cons (.cons (.cons (.app (.app (.app .left))))))) (by exact .head _) (by simp;omega) (by simp;omega) fun vh' Jv pZ=>?_
  refine Nil.ptr (aa.mk ?_)
  refine St.one (by exact .tail (.tail (.tail (.head _)))) pZ.one (by simp[uP.cells]) rfl ?_
  have e0:∀l:List Nat,iw l++[0]=iw (l++[0]):=fun l=>by rw[bO];rfl
  rw[e0]at xl pZ
  refine ay.of (.skip (.skip (.refl _))) ⟨{b' with vu:=vu',vh:=vh',CU:=Ov,CH:=Jv},dk++[0],bT++[0],rfl,{xB with us:=xl,ho:=pZ,ul:=by simp at V2⊢;omega},by simp;omega,fun s=>by rw[tG,hu],fun s=>by rw[tG,hh]⟩ ?_
  obtain⟨a1,c1,e1⟩:=aR.len xB.us
  obtain⟨a2,c2,e2⟩:=aR.len xl
  have f1:=ym (b:=b') (x:=(b1,.cells (Value.cells (nK d)) 161 (0,0))) (kp:=kp) (n:=K.n) e1
  have f2:=ym (b:={b' with vu:=vu',vh:=vh',CU:=Ov,CH:=Jv}) (x:=(b1,.cells (Value.cells (nK d)) 161 (0,0))) (kp:=kp) (n:=K.n) e2
  rw[f1]
  refine Nat.lt_of_le_of_lt (Nat.le_of_eq (congrArg (fun z=>r+1-z) f2)) ?_
  simp
  omega
 ·have hge:¬dk.length≤r:=hge
  have hr1:r<dk.length:=by omega
  have nE:r<bT.length:=by omega
  refine DR.of (R:=(kp,.cells (b'.cells K.n) 117 (0,0))::[]) (.skip (.cons .nil)) ?_
  refine Nil.ptr ?_
  refine aa.mk (Ld.mk (v:=b'.vu) (by exact .head _) rfl ?_)
  refine Nil.ptr ?_
  refine aa.mk (Ld.mk (v:=b'.vh) (by exact .head _) rfl ?_)
  refine xB.us.ju (x:=0) (.cons (.cons (.app (.app .left)))) (by simpa using hr1) fun Ov xl=>?_
  refine xB.ho.ju (x:=0) (.cons (.cons (.app (.app (.app .left))))) (by simpa using nE) fun Jv pZ=>?_
  have e0:∀l:List Nat,(iw l).set r 0=iw (l.set r 0):=fun l=>fS l r 0
  rw[e0]at xl pZ
  have lor:d.lo≠r:=fI hd.lo h2 hN
  have hir:d.hi≠r:=fI hd.hi h2 hN
  refine aa.mk (Ld.mk (v:=u32 d.lo) (by exact .head _) rfl ?_)
  have u0:∀s,(dk.set r 0).getD s 0=if s=r then 0 else K.use s:=fun s=>by rw[g8 hr1];split;rfl;exact hu s
  have h0:∀s,(bT.set r 0).getD s 0=if s=r then 0 else K.hold s:=fun s=>by rw[g8 nE];split;rfl;exact hh s
  have uN:cY kp {K with N:=up K.N r (some d),used:=K.used+1,us:=dk.set r 0,ho:=bT.set r 0} ord av tr (({b' with CU:=Ov,CH:=Jv}:uP).hp kp K.n):=⟨_,rfl,{xB with us:=xl,ho:=pZ,ul:=by simp;omega}⟩
  refine ag.fn (.cons .here) (AX uN (by simp;omega) (by have:=hb d.lo;show(dk.set r 0).getD d.lo 0+1<_;rw[u0,if_neg lor];omega)) ?_
  rintro v C1 ⟨rfl,tC⟩
  refine aa.mk (Ld.mk (v:=u32 d.hi) (by exact .head _) rfl ?_)
  have u1:∀s,(qP {K with N:=up K.N r (some d),used:=K.used+1,us:=dk.set r 0,ho:=bT.set r 0} d.lo).getD s 0=(if s=r then 0 else K.use s)+(if 2≤s∧s=d.lo then 1 else 0):=fun s=>by
   by_cases e:s=d.lo
   ·by_cases h2:2≤s
    ·rw[if_pos (show 2≤s∧s=d.lo from⟨h2,e⟩),e,lX (by omega) (by simp;omega)]
     show(dk.set r 0).getD d.lo 0+1=_
     rw[u0]
    ·rw[if_neg (show¬(2≤s∧s=d.lo)by omega)]
     unfold qP
     rw[if_pos (by omega)]
     show(dk.set r 0).getD s 0=_
     rw[u0];rfl
   ·rw[if_neg (show¬(2≤s∧s=d.lo)by omega),sC e]
    show(dk.set r 0).getD s 0=_
    rw[u0];rfl
  refine ag.fn (.cons .here) (AX tC (by rw[iH];simp;omega) (by
   have:=hb d.hi
   show(qP _ d.lo).getD d.hi 0+1<_
   rw[u1,if_neg hir];split<;>omega)) ?_
  rintro v C2 ⟨rfl,BR⟩
  have ahA:=BR
  obtain⟨b3,rfl,hO3⟩:=BR
  refine DR.self ?_
  refine Nil.ptr ?_
  refine aa.mk (Ld.mk (v:=ptr b3.pt) (by exact .tail _ (.head _)) rfl ?_)
  refine aA.whole (r:=aT d) (by exact .head _) rfl ?_
  refine ag.fn (.cons (.cons (.app .left))) (Fj hO3.ut hv hT) ?_
  rintro v Ow ⟨rfl,Tq⟩
  have u2:∀s,(qP {K with N:=up K.N r (some d),used:=K.used+1,us:=qP {K with N:=up K.N r (some d),used:=K.used+1,us:=dk.set r 0,ho:=bT.set r 0} d.lo,ho:=bT.set r 0} d.hi).getD s 0=(if s=r then 0 else K.use s)+(if 2≤s∧s=d.lo then 1 else 0)+(if 2≤s∧s=d.hi then 1 else 0):=fun s=>by
   by_cases e:s=d.hi
   ·by_cases h2:2≤s
    ·rw[if_pos (show 2≤s∧s=d.hi from⟨h2,e⟩),e,lX (by omega) (by rw[iH];simp;omega)]
     show(qP _ d.lo).getD d.hi 0+1=_
     rw[u1]
    ·rw[if_neg (show¬(2≤s∧s=d.hi)by omega)]
     unfold qP
     rw[if_pos (by omega)]
     show(qP _ d.lo).getD s 0=_
     rw[u1];rfl
   ·rw[if_neg (show¬(2≤s∧s=d.hi)by omega),sC e]
    show(qP _ d.lo).getD s 0=_
    rw[u1];rfl
  refine aE.mk .tail ⟨r,_,_,rfl,hN,h2,hrc,?_,?_,?_,?_,?_,?_,?_,?_,{b3 with CT:=Ow},rfl,{hO3 with ut:=Tq}⟩
  ·rw[iH,iH];simp;omega
  ·rw[iH,iH];simp;omega
  ·rw[iH,iH];simp;omega
  ·rw[u2,if_pos rfl,if_neg (show¬(2≤r∧r=d.lo)by omega),if_neg (show¬(2≤r∧r=d.hi)by omega)]
  ·intro s U8 hne
   rw[u2,if_neg hne,ef]
   have c1:(2≤s∧s=d.lo)↔d.lo=s:=⟨fun h=>h.2.symm,fun h=>⟨U8,h.symm⟩⟩
   have c2:(2≤s∧s=d.hi)↔d.hi=s:=⟨fun h=>h.2.symm,fun h=>⟨U8,h.symm⟩⟩
   simp only[c1,c2]
   omega
  ·intro s hs
   rw[u2,if_neg (show¬s=r by omega),if_neg (show¬(2≤s∧s=d.lo)by omega),if_neg (show¬(2≤s∧s=d.hi)by omega)]
   try simp
  ·rw[h0,if_pos rfl]
  ·intro s hne;rw[h0,if_neg hne]
end
section
variable {kp:Nat} {K:Kd} {ord av tr:List Nat} {C:Hp} {S:Nat→bc.Fn}
theorem Qf(B:Hp)(v:Int)(r:Nat)(kv:Value):Rd Tryz.prog 138 #[kv,.int .i64 v,u32 r,u32 r] B (· =u32 r):=by
 intro g
 refine oJ (R:=aE _) ?_
 unfold L138
 exact ae.gp (Br.gI rfl (bL.mk (.refl _) rfl))
theorem Qh(h:cY kp K ord av tr C){v lo hi r:Nat}(hne:lo≠hi)(hv:v<K.n)(hT:K.T ⟨v,lo,hi⟩=some r):
  Rd Tryz.prog 138 #[ptr kp,.int .i64 (v:Int),u32 lo,u32 hi] C (· =u32 r):=by
 obtain⟨b,rfl,hO⟩:=h
 intro g
 refine oJ (R:=aE _) ?_
 unfold L138
 refine ae.gp (Br.cq hne ?_)
 refine Build.mk (cs:=aT ⟨v,lo,hi⟩) (by kernel_rfl) ?_
 intro b3 _
 refine St.whole (r:=aT ⟨v,lo,hi⟩) (by exact .head _) rfl rfl (fun x hx=>by simp[aT,u32]at hx;rcases hx with rfl|rfl|rfl<;>rfl) ?_
 refine DR.self ?_
 refine Nil.ptr ?_
 refine aa.mk (Ld.mk (v:=ptr b.pt) (by exact .tail _ (.head _)) rfl ?_)
 refine aA.whole (r:=aT ⟨v,lo,hi⟩) (by exact .head _) rfl ?_
 refine ag.rd (.cons (.cons (.app .left))) (r4 (d:=⟨v,lo,hi⟩) hO.ut hv) ?_
 rintro w rfl
 rw[hT]
 exact⟨.refl _,Ext.mk rfl (Ext.mk rfl (Br.yes (bL.mk .tail rfl)))⟩
theorem Qg(h:cY kp K ord av tr C){d:Nd}(hne:d.lo≠d.hi)(hd:X3 K.N d)(hv:d.v<K.n)(hT:K.T d=none)(hroom:K.used<K.cap)(hlo:d.lo<2∨d.lo<K.us.length)(hhi:d.hi<2∨d.hi<K.us.length)
 (hb:∀s,K.use s+2<2147483648):
  Fc Tryz.prog 138 #[ptr kp,.int .i64 (d.v:Int),u32 d.lo,u32 d.hi] C (fun v C'=>∃r dk bT,v=u32 r∧K.N r=none∧2≤r∧r<K.cap∧dk.length=bT.length∧r<dk.length∧K.us.length≤dk.length∧dk.getD r 0=0∧
   (∀s,2≤s→s≠r→dk.getD s 0=K.use s+e1 (some d) s)∧(∀s,s<2→dk.getD s 0=K.use s)∧bT.getD r 0=0∧(∀s,s≠r→bT.getD s 0=K.hold s)∧
   cY kp {K with N:=up K.N r (some d),T:=oM K.T d (some r),used:=K.used+1,us:=dk,ho:=bT} ord av tr C'):=by
 have h0:=h
 obtain⟨b,rfl,hO⟩:=h
 intro g
 refine oJ (R:=aE _) ?_
 unfold L138
 refine ae.gp (Br.cq hne ?_)
 refine Build.mk (cs:=aT d) (by kernel_rfl) ?_
 intro b3 _
 refine St.whole (r:=aT d) (by exact .head _) rfl rfl (fun x hx=>by simp[aT,u32]at hx;rcases hx with rfl|rfl|rfl<;>rfl) ?_
 refine DR.self ?_
 refine Nil.ptr ?_
 refine aa.mk (Ld.mk (v:=ptr b.pt) (by exact .tail _ (.head _)) rfl ?_)
 refine aA.whole (r:=aT d) (by exact .head _) rfl ?_
 refine ag.rd (.cons (.cons (.app .left))) (r4 (d:=d) hO.ut hv) ?_
 rintro w rfl
 rw[hT]
 refine⟨.refl _,Ext.mk rfl (Ext.mk rfl (Br.no ?_))⟩
 refine aA.whole (r:=aT d) (by exact .head _) rfl ?_
 refine ag.fn (.cons .here) (Fm h0 hd hv hT hroom hlo hhi hb) ?_
 rintro v C' ⟨r,dk,bT,rfl,hh⟩
 exact aE.mk .tail ⟨r,dk,bT,rfl,hh⟩
structure vb(K' K:Kd):Prop where
 N:∀{s d},K'.N s=some d→K.N s=some d
 n:K'.n=K.n
 cap:K'.cap=K.cap
 ho:K'.ho=K.ho
 us:∀s,K'.use s≤K.use s
 idle:(∀s,K.N s=none→K.use s=0)→∀s,K'.N s=none→K'.use s=0
theorem vb.refl(K:Kd):vb K K:=⟨fun h=>h,rfl,rfl,rfl,fun _=>Nat.le_refl _,fun h=>h⟩
theorem vb.trans{A B C:Kd}(h:vb A B)(h':vb B C):vb A C:=⟨fun x=>h'.N (h.N x),h.n.trans h'.n,h.cap.trans h'.cap,h.ho.trans h'.ho,fun s=>Nat.le_trans (h.us s) (h'.us s),fun hi=>h.idle (h'.idle hi)⟩
def PL(P:Nat→Nat)(N:gC):Prop:=∀t,2≤t→0<P t→∃d,N t=some d
def gT(P0:Nat→Nat)(l:List Nat):Nat→Nat:=fun s=>P0 s+l.count s
theorem Ip{P0:Nat→Nat}{l:List Nat}{t:Nat}:up (gT P0 (l++[t])) t (gT P0 (l++[t]) t-1)=gT P0 l:=by
 funext s
 unfold up gT
 split
 ·rename_i e;subst e;simp
 ·rename_i e;simp[List.count_append,List.count_singleton,Ne.symm e]
theorem oc{P0:Nat→Nat}(h:cY kp K ord av tr C){r:Nat}(hm:ji K S iB (gT P0 [r]))(hp:Pos K)(hl:PL (gT P0 [r]) K.N)(hr:r<1048576)(hbu:∀s,K.use s<2147483648):
  Fc Tryz.prog 142 #[ptr kp,u32 r] C (fun v C'=>v=.tuple #[]∧∃K',cY kp K' ord av tr C'∧ji K' S iB P0∧Pos K'∧PL P0 K'.N∧vb K' K):=by
 intro g
 refine Ew (R:=aE _) ?_
 unfold L142
 refine ax.int (e:=77) (by kernel_rfl) (by kernel_rfl) (by kernel_rfl) fun bx=>?_
 refine VO (fun k vs H=>∃(w:Value) (Ct C':Hp) (todo:List Nat) (K':Kd),vs=[w]∧H=Ct++C'∧aQ 77 .u32 w (iw todo) Ct∧cY kp K' ord av tr C'∧ji K' S iB (gT P0 todo)∧Pos K'∧PL (gT P0 todo) K'.N∧vb K' K∧(∀t∈todo,t<1048576)∧k=3*K'.used+todo.length∧k≤3*K.used+1)
  _ ⟨_,[_],C,[r],K,rfl,rfl,aQ.made [(r:Int)],h,hm,hp,hl,.refl K,by simpa using hr,rfl,by simp⟩ ?_
 rintro w H hJ gs
 obtain⟨k,⟨w',Ct,C',todo,K',hw,rfl,ht,hK,hM,Mw,JF,nS,hT,hk,hkb⟩,hkm⟩:=hJ.open
 simp only[List.cons.injEq,and_true]at hw
 subst hw
 refine ht.aS ?_
 rw[an]
 refine ae.lQ (b:=0) (Br.dec (fun hpos=>?_) (fun hpos=>?_))
 ·have hc1:=hm.cap
  obtain⟨pre,t,rfl⟩:∃pre t,todo=pre++[t]:=⟨todo.dropLast,todo.getLast (by intro e;simp[e]at hpos),(List.dropLast_concat_getLast _).symm⟩
  have htl:(pre++[t]).length=pre.length+1:=by simp
  have UK:=hT t (by simp)
  refine ht.aS ?_
  rw[an,htl]
  refine ae.bC (b:=1) ?_ (by omega) ?_
  ·simp[az];omega
  rw[Nat.add_sub_cancel]
  refine ht.ld (i:=pre.length) (x:=(t:Int)) (by rw[bO];simp[iw]) (cz.sub .left) ?_
  refine ht.cut (i:=pre.length) (by simp) fun w' ht'=>?_
  have Rh:aQ 77 .u32 w' (iw pre) Ct:=by
   rw[bO,List.take_left' (by simp)]at ht';exact ht'
  have hTp:∀s∈pre,s<1048576:=fun s hs=>hT s (List.mem_append_left _ hs)
  refine ae.y4 (b:=1) (Br.dec (fun h1=>?_) (fun h1=>?_))
  ·have hc:∀s,2≤s→gT P0 (pre++[t]) s=gT P0 pre s:=fun s hs=>by
    unfold gT;rw[List.count_append,List.count_singleton];simp;omega
   exact mT.back (.refl _) hkm (3*K'.used+pre.length) ⟨w',Ct,C',pre,K',rfl,rfl,Rh,hK,hM.congr (fun _=>Iff.rfl) hc,Mw,fun s hs h0=>JF s hs (by rw[hc s hs];exact h0),nS,hTp,rfl,by simp at hk;omega⟩ (by rw[hk];simp)
  ·have hPt:0<gT P0 (pre++[t]) t:=by unfold gT;simp;omega
   obtain⟨d,hd⟩:=JF t (by omega) hPt
   have hfit:=hM.fit hd
   have N7:=Mw t d hd
   obtain⟨b,rfl,hO⟩:=hK
   refine Nil.ptr ?_
   refine aa.mk (Ld.mk (v:=b.vu) (List.mem_append_right _ (by exact .head _)) rfl ?_)
   refine hO.us.ld (x:=((K'.use t:Nat):Int)) (bE hfit) (cz.sub (.app (.cons (.app (.app .left))))) ?_
   refine ae.bC (b:=1) ?_ (by omega) ?_
   ·have:=nS.us t
    have:=hbu t
    simp[az];omega
   refine hO.us.ju (x:=((K'.use t-1:Nat):Int)) (.app (.cons (.app (.app .left)))) (by simpa using hfit) fun Ov xl=>?_
   rw[fS]at xl
   have g1:∀s,(K'.us.set t (K'.use t-1)).getD s 0=if s=t then K'.use t-1 else K'.use s:=fun s=>g8 hfit
   have HT:=hM.less (r:=t) (dk:=K'.us.set t (K'.use t-1)) hPt (by simp) (by rw[g1,if_pos rfl];omega) (fun s hs=>by rw[g1,if_neg hs])
   rw[Ip]at HT
   have RP:Uo {b with CU:=Ov} {K' with us:=K'.us.set t (K'.use t-1)} ord av tr:={hO with us:=xl,ul:=by simp;exact hO.ul}
   have My:vb {K' with us:=K'.us.set t (K'.use t-1)} K:=⟨nS.N,nS.n,nS.cap,nS.ho,fun s=>by
    show(K'.us.set t (K'.use t-1)).getD s 0≤_
    rw[g1]
    have:=nS.us s
    split
    ·rename_i e;subst e;omega
    ·exact this,fun hi s hs=>by
    show(K'.us.set t (K'.use t-1)).getD s 0=0
    have hs':K'.N s=none:=hs
    rw[g1,if_neg (fun e=>by subst e;rw[hd]at hs';cases hs')]
    exact nS.idle hi s hs'⟩
   have Xa:PL (gT P0 pre) K'.N:=fun s hs h0=>JF s hs (by unfold gT at h0⊢;rw[List.count_append];omega)
   refine Nil.ptr ?_
   refine aa.mk (Ld.mk (v:=b.vu) (List.mem_append_right _ (by exact .head _)) rfl ?_)
   refine xl.ld (x:=((K'.use t-1:Nat):Int)) (by rw[←fS];simp[hfit]) (cz.sub (.app (.cons (.app (.app .left))))) ?_
   refine ae.lQ (b:=0) (Br.dec (fun h3=>?_) (fun h3=>?_))
   ·refine mT.back (.refl _) hkm (3*K'.used+pre.length) ⟨w',Ct,_,pre,_,rfl,rfl,Rh,⟨_,rfl,RP⟩,HT,fun s e hs=>?_,Xa,My,hTp,rfl,by simp at hk;omega⟩ (by rw[hk];simp)
    show 0<(K'.us.set t (K'.use t-1)).getD s 0
    rw[g1]
    split
    ·exact h3
    ·exact Mw s e hs
   ·have hu0:K'.use t=1:=by omega
    have uN:cY kp {K' with us:=K'.us.set t (K'.use t-1)} ord av tr (({b with CU:=Ov}:uP).hp kp K'.n):=⟨_,rfl,RP⟩
    refine ag.rd (.app .here) (mm uN (by omega)) ?_
    rintro v rfl
    have Of:2≤t:=by omega
    have abr:got K'.N t=aT d:=kj hd Of
    show bA _ _ _
    intro XG _
    rw[abr]
    refine St.whole (r:=aT d) (by exact .head _) rfl rfl (fun x hx=>by simp[aT,u32]at hx;rcases hx with rfl|rfl|rfl<;>rfl) ?_
    refine DR.self ?_
    refine Nil.ptr ?_
    refine aa.mk (Ld.mk (v:=ptr b.pt) (.tail _ (List.mem_append_right _ (by exact .head _))) rfl ?_)
    refine aA.whole (r:=aT d) (by exact .head _) rfl ?_
    have hTd:K'.T d=some t:=(hM.jB d t).2 ⟨hd,fun h=>h⟩
    refine ag.fn (.cons (.app (.cons (.app .left)))) (vD RP.ut (hM.var hd) hTd) ?_
    rintro v Ow ⟨rfl,Tq⟩
    refine Nil.ptr ?_
    refine aa.mk (Ld.mk (v:=ptr b.pa) (.tail _ (List.mem_append_right _ (by exact .head _))) rfl ?_)
    refine ag.fn (.cons (.app (.cons .left))) (Nw RP.ar ⟨d,hd⟩ Of) ?_
    rintro v Yr ⟨rfl,WU⟩
    refine aa.mk (Ld.mk (v:=u32 d.lo) (by exact .head _) rfl ?_)
    refine aa.mk (Ld.mk (v:=u32 d.hi) (by exact .head _) rfl ?_)
    refine ax.VV (e:=77) (by kernel_rfl) (by kernel_rfl) (by kernel_rfl) fun bz=>?_
    refine Rh.pS (.cons (.cons .left)) (cE.block (l:=[(d.lo:Int),(d.hi:Int)]) (by exact .head _) (by simp)) (by simp at hk⊢;omega) (by simp at hk⊢;omega) fun w2 Ct2 Tt=>?_
    have e0:iw pre++[(d.lo:Int),(d.hi:Int)]=iw (pre++[d.lo,d.hi]):=by rw[bO];rfl
    rw[e0]at Tt
    have YJ:({K' with us:=K'.us.set t (K'.use t-1)}:Kd).use t=0:=by show(K'.us.set t (K'.use t-1)).getD t 0=0;rw[g1,if_pos rfl];omega
    have JG:=HT.free (r:=t) (d:=d) hd (fun h=>h) YJ
    have hed:dh K'.N t K'.cap=0:=by have:=HT.use hd;rw[YJ]at this;exact(by have h5:dh K'.N t K'.cap+_+_=0:=this.symm;omega)
    have jL:=jf hed t (hM.two hd).2 d hd
    have abV:gT P0 pre t=0:=by have:=HT.use hd;rw[YJ]at this;omega
    have hroom:0<K'.used:=by have:=hM.room;omega
    have hlt:∀x,live K'.N x→x<1048576:=fun x hx=>uN.lt hx
    have nF:∀s,2≤s→gT P0 pre s+e1 (some d) s=gT P0 (pre++[d.lo,d.hi]) s:=fun s _=>by
     unfold gT
     rw[ef,List.count_append,List.count_cons,List.count_cons,List.count_nil]
     simp only[beq_iff_eq]
     omega
    refine mT.back (.skip (.skip (.refl _))) hkm (3*(K'.used-1)+(pre++[d.lo,d.hi]).length) ⟨w2,Ct2,_,pre++[d.lo,d.hi],{K' with us:=K'.us.set t (K'.use t-1),N:=up K'.N t none,T:=oM K'.T d none,used:=K'.used-1},rfl,rfl,Tt,
     ⟨{b with CU:=Ov,CT:=Ow,CA:=Yr},rfl,{RP with ar:=WU,ut:=Tq}⟩,JG.congr (fun _=>Iff.rfl) nF,fun s e hs=>?_,fun s hs h0=>?_,⟨fun{s e} hs=>?_,My.n,My.cap,My.ho,My.us,fun hi s hs=>?_⟩,fun s hs=>?_,rfl,by simp at hk⊢;omega⟩ (by simp at hk⊢;omega)
    ·have hne:s≠t:=fun e2=>by subst e2;have q5:up K'.N s none s=some e:=hs;rw[aN]at q5;cases q5
     show 0<(K'.us.set t (K'.use t-1)).getD s 0
     rw[g1,if_neg hne]
     have q5:up K'.N t none s=some e:=hs
     rw[aP hne]at q5
     exact Mw s e q5
    ·have hne:s≠t:=fun e2=>by
      subst e2
      rw[←nF s hs,abV]at h0
      rw[ef,if_neg jL.1,if_neg jL.2]at h0
      omega
     show∃e,up K'.N t none s=some e
     rw[aP hne]
     rw[←nF s hs]at h0
     by_cases h5:0<gT P0 pre s
     ·exact Xa s hs h5
     ·rw[ef]at h0
      have:d.lo=s∨d.hi=s:=by
       by_cases h6:d.lo=s
       ·exact .inl h6
       ·by_cases h7:d.hi=s
        ·exact .inr h7
        ·rw[if_neg h6,if_neg h7]at h0;omega
      rcases this with rfl|rfl
      ·rcases hM.lo hd with h8|h8
       ·omega
       ·exact h8
      ·rcases hM.hi hd with h8|h8
       ·omega
       ·exact h8
    ·have q5:up K'.N t none s=some e:=hs
     by_cases e2:s=t
     ·subst e2;rw[aN]at q5;cases q5
     ·rw[aP e2]at q5;exact nS.N q5
    ·have q5:up K'.N t none s=none:=hs
     show(K'.us.set t (K'.use t-1)).getD s 0=0
     by_cases e2:s=t
     ·subst e2;rw[g1,if_pos rfl];omega
     ·rw[aP e2]at q5
      exact My.idle hi s q5
    ·rcases List.mem_append.1 hs with hs|hs
     ·exact hTp s hs
     ·simp at hs
      rcases hs with rfl|rfl
      ·exact hlt _ (hM.lo hd)
      ·exact hlt _ (hM.hi hd)
 ·obtain rfl:todo=[]:=List.eq_nil_of_length_eq_zero (by omega)
  exact aE.mk .right ⟨rfl,K',hK,hM.congr (fun _=>Iff.rfl) (fun s _=>by simp[gT]),Mw,fun s hs h0=>JF s hs (by simpa[gT]using h0),nS⟩
end
abbrev lv(av:List Nat):Nat→Nat:=fun v=>av.getD v 0
section
variable {kp:Nat} {K:Kd} {ord av tr:List Nat} {C:Hp} {S:Nat→bc.Fn}
theorem xe(h:cY kp K ord av tr C)(v:Int):Rd Tryz.prog 113 #[ptr kp,.int .i64 v] C (· =.bool (decide (0≤v∧v<K.n))):=by
 obtain⟨b,rfl,hO⟩:=h
 intro g
 refine EN (R:=aE _) ?_
 unfold L113
 refine ae.geq ?_
 refine cv.and (decide (v<K.n)) (fun _=>?_) rfl fun _=>bL.mk (.refl _) (by rw[Bool.decide_and])
 refine Nil.ptr ?_
 refine aa.mk (Ld.mk (v:=.int .i64 (K.n:Int)) (by exact .head _) rfl ?_)
 exact ae.lss ⟨rfl,rfl⟩
theorem vP(h:cY kp K ord av tr C){r:Nat}(hl:live K.N r)(hv:∀d,K.N r=some d→d.v<K.n)(Zc:r<2→K.N r=none):Rd Tryz.prog 257 #[ptr kp,u32 r] C (· =.int .i64 ((dep K.n (lv av) K.N r:Nat):Int)):=by
 have h0:=h
 have hr:=h.lt hl
 obtain⟨b,rfl,hO⟩:=h
 intro g
 refine CZ (R:=aE _) ?_
 unfold L257
 refine Nil.ptr (aa.mk ?_)
 refine ag.rd .here (mm h0 (by omega)) ?_
 rintro v rfl
 intro b5 _
 refine St.whole (r:=got K.N r) (by exact .head _) rfl (dB _ _).1 (dB _ _).2 ?_
 by_cases h2:r<2
 ·rw[qx h2,cO (Zc h2)]
  refine aa.mk (Ld.mk (v:=.int .i64 (-1)) (by exact .head _) rfl ?_)
  refine ae.geq (Br.no' (by decide) ?_)
  refine Nil.ptr ?_
  refine aa.mk (Ld.mk (v:=.int .i64 (K.n:Int)) (by exact .tail _ (.head _)) rfl ?_)
  exact bL.mk .tail rfl
 ·obtain⟨d,hd⟩:∃d,K.N r=some d:=by rcases hl with hl|hl;omega;exact hl
  rw[kj hd (by omega),aM hd]
  have BL:=hv d hd
  have hlen:=hO.ol.2
  refine aa.mk (Ld.mk (v:=.int .i64 (d.v:Int)) (by exact .head _) rfl ?_)
  refine ae.geq (Br.Vm (by simp) ?_)
  refine Nil.ptr ?_
  refine aa.mk (Ld.mk (v:=b.vl) (by exact .tail _ (.head _)) rfl ?_)
  refine aa.mk (Ld.mk (v:=.int .i64 (d.v:Int)) (by exact .head _) rfl ?_)
  refine hO.lv.ld (x:=((av.getD d.v 0:Nat):Int)) (bE (by omega)) (cz.sub (.cons (.cons (.app (.app (.app (.app (.app .left)))))))) ?_
  exact bL.mk .tail rfl
def rp(K:Kd)(av:List Nat)(v:Int)(lo hi:Nat):Int:=
 if¬(0≤v∧v<K.n)then 2 else if gf K.N lo=false∨gf K.N hi=false then 3 else if lo≠hi∧min (dep K.n (lv av) K.N lo) (dep K.n (lv av) K.N hi)≤av.getD v.toNat 0 then 4 else 0
theorem Qo(h:cY kp K ord av tr C)(v:Int){lo hi:Nat}(hlo:lo<4294967296)(hhi:hi<4294967296)(hv:∀r d,K.N r=some d→d.v<K.n∧2≤r):
  Rd Tryz.prog 225 #[ptr kp,.int .i64 v,u32 lo,u32 hi] C (· =.int .i64 (rp K av v lo hi)):=by
 have h0:=h
 have Zc:∀r,r<2→K.N r=none:=fun r hr=>by
  cases e:K.N r with
  |none=>rfl
  |some d=>have:=(hv r d e).2;omega
 obtain⟨b,rfl,hO⟩:=h
 intro g
 refine Dr (R:=aE _) ?_
 unfold L225
 refine ag.rd .here (xe h0 v) ?_
 rintro x rfl
 refine Un.not ?_
 by_cases Re:0≤v∧v<K.n
 rotate_left
 ·rw[decide_eq_false Re]
  exact Br.yes (bL.mk (.refl _) (by unfold rp;rw[if_pos Re]))
 rw[decide_eq_true Re]
 refine Br.no ?_
 obtain⟨n,rfl⟩:∃n:Nat,v=n:=⟨v.toNat,by omega⟩
 have hnv:n<K.n:=by omega
 intro J hJ
 refine Nil.ptr (aa.mk ?_)
 refine ag.rd .here (mq h0 hlo) ?_
 rintro x rfl
 refine Un.not ?_
 by_cases BB:gf K.N lo=true
 rotate_left
 ·have Wu:gf K.N lo=false:=by simpa using BB
  rw[Wu]
  exact Split.SZ rfl (aD.mk (JE.mk (hJ _ _ fun gs=>Br.yes (bL.mk (.refl _) (by unfold rp;rw[if_neg (by simpa using Re),if_pos (.inl Wu)])))))
 rw[BB]
 refine Split.go rfl ?_
 refine Nil.ptr (aa.mk ?_)
 refine ag.rd .here (mq h0 hhi) ?_
 rintro x rfl
 refine Un.not ?_
 by_cases YT:gf K.N hi=true
 rotate_left
 ·have WC:gf K.N hi=false:=by simpa using YT
  rw[WC]
  exact aD.mk (JE.mk (hJ _ _ fun gs=>Br.yes (bL.mk (.refl _) (by unfold rp;rw[if_neg (by simpa using Re),if_pos (.inr WC)]))))
 rw[YT]
 refine aD.mk (JE.mk (hJ _ _ fun gs=>Br.no ?_))
 intro J2 Au
 have hE:rp K av n lo hi=if lo≠hi∧min (dep K.n (lv av) K.N lo) (dep K.n (lv av) K.N hi)≤av.getD n 0 then 4 else 0:=by
  unfold rp
  rw[if_neg (by simpa using Re),if_neg (by rw[BB,YT];simp)]
  rfl
 refine DR.self ?_
 refine ae.ql ?_
 by_cases hne:lo≠hi
 rotate_left
 ·rw[decide_eq_false hne]
  exact Br.no (JE.mk (Au _ _ fun gs=>Br.no (bL.mk (.refl _) (by rw[hE,if_neg (fun h=>hne h.1)]))))
 rw[decide_eq_true hne]
 refine Br.yes ?_
 refine Nil.ptr ?_
 refine aa.mk (Ld.mk (v:=b.vl) (by exact .head _) rfl ?_)
 have hlen:=hO.ol.2
 refine hO.lv.ld (x:=((av.getD n 0:Nat):Int)) (bE (by omega)) (cz.sub (.cons (.app (.app (.app (.app (.app .left))))))) ?_
 intro F
 refine ag.rd .here (vP h0 (cR.1 BB) (fun d hd=>(hv _ _ hd).1) (Zc _)) ?_
 rintro x rfl
 refine⟨.refl _,?_⟩
 intro F2
 refine ag.rd .here (vP h0 (cR.1 YT) (fun d hd=>(hv _ _ hd).1) (Zc _)) ?_
 rintro x rfl
 refine⟨.refl _,?_⟩
 refine⟨_,_,_,rfl,rfl,?_⟩
 have hmin:(if((dep K.n (lv av) K.N hi:Nat):Int)<((dep K.n (lv av) K.N lo:Nat):Int)then((dep K.n (lv av) K.N hi:Nat):Int)else((dep K.n (lv av) K.N lo:Nat):Int))=((min (dep K.n (lv av) K.N lo) (dep K.n (lv av) K.N hi):Nat):Int):=by
  split<;>omega
 rw[hmin]
 refine ae.qz ?_
 refine aD.mk ?_
 by_cases hm:min (dep K.n (lv av) K.N lo) (dep K.n (lv av) K.N hi)≤av.getD n 0
 ·rw[decide_eq_true hm]
  exact JE.mk (Au _ _ fun gs=>Br.yes (bL.mk (.refl _) (by rw[hE,if_pos ⟨hne,hm⟩])))
 ·rw[decide_eq_false hm]
  exact JE.mk (Au _ _ fun gs=>Br.no (bL.mk (.refl _) (by rw[hE,if_neg (fun h=>hm h.2)])))
theorem O0(h:cY kp K ord av tr C){v lo hi:Nat}(hv:v<K.n):
  Rd Tryz.prog 226 #[ptr kp,.int .i64 (v:Int),u32 lo,u32 hi] C (· =if lo=hi then .tuple #[u32 lo,.bool true]else .tuple #[u32 ((K.T ⟨v,lo,hi⟩).getD 0),.bool (K.T ⟨v,lo,hi⟩).isSome]):=by
 obtain⟨b,rfl,hO⟩:=h
 intro g
 refine Dq (R:=aE _) ?_
 unfold L226
 refine ae.gp (Br.dec (fun he=>bL.mk (.refl _) (by rw[if_pos he])) (fun he=>?_))
 refine Nil.ptr (aa.mk ?_)
 refine aa.mk (Ld.mk (v:=ptr b.pt) (by exact .head _) rfl ?_)
 refine Build.mk (cs:=aT ⟨v,lo,hi⟩) (by kernel_rfl) ?_
 refine ag.rd (.cons (.app .left)) (r4 (d:=⟨v,lo,hi⟩) hO.ut hv) ?_
 rintro x rfl
 exact Ext.mk rfl (Ext.mk rfl (bL.mk (.refl _) (by rw[if_neg he];rfl)))
theorem tf(h:cY kp K ord av tr C){r:Nat}(hr:r<4294967296)(hb:∀s,K.hold s<2147483648):Rd Tryz.prog 95 #[ptr kp,u32 r] C (· =.int .i64 ((K.hold r:Nat):Int)):=by
 obtain⟨b,rfl,hO⟩:=h
 intro g
 refine IA (R:=aE _) ?_
 unfold L95
 refine ae.aJ ?_
 refine cv.or (decide (K.ho.length≤r)) (fun _=>?_) (by simp) fun _=>?_
 ·refine bI.nat (by simp[az];omega) (Nil.ptr (aa.mk ?_))
  refine aa.mk (Ld.mk (v:=b.vh) (by exact .head _) rfl ?_)
  refine hO.ho.aS ?_
  rw[an]
  exact ae.qz ⟨rfl,rfl⟩
 ·rw[Bool.false_or]
  refine Br.dec (fun hge=>?_) (fun hlt=>?_)
  ·refine bL.mk (.refl _) ?_
   unfold Kd.hold;rw[List.getD,List.getElem?_eq_none hge];rfl
  ·refine Nil.ptr (aa.mk ?_)
   refine aa.mk (Ld.mk (v:=b.vh) (by exact .head _) rfl ?_)
   refine hO.ho.ld (x:=((K.hold r:Nat):Int)) (bE (by omega)) (cz.sub (.cons (.app (.app (.app .left))))) ?_
   refine bI.nat (by have:=hb r;simp[az];omega) ?_
   exact bL.mk (.refl _) rfl
theorem Pt(h:cY kp K ord av tr C)(h2:2≤K.used)(hu:K.used≤1048576):Rd Tryz.prog 15 #[ptr kp] C (· =.int .i64 ((K.used-2:Nat):Int)):=by
 obtain⟨b,rfl,hO⟩:=h
 intro g
 refine Jo (R:=aE _) ?_
 unfold L15
 refine ae.aJ (Br.no (Nil.ptr (aa.mk ?_)))
 refine aa.mk (Ld.mk (v:=ptr b.pa) (by exact .head _) rfl ?_)
 refine ag.rd (.cons .left) (z7 hO.ar) ?_
 rintro v rfl
 refine ae.bC (b:=2) (by simp[az];omega) h2 ?_
 exact bL.mk (.refl _) rfl
theorem HC(h:cY kp K ord av tr C):Rd Tryz.prog 34 #[ptr kp] C (· =.int .i64 ((tr.length:Nat):Int)):=by
 obtain⟨b,rfl,hO⟩:=h
 intro g
 refine Jh (R:=aE _) ?_
 unfold L34
 refine ae.aJ (Br.no (Nil.ptr ?_))
 refine aa.mk (Ld.mk (v:=b.vt) (by exact .head _) rfl ?_)
 refine hO.tr.aS ?_
 rw[an]
 exact bL.mk (.refl _) rfl
theorem y5(h:cY kp K ord av tr C):Rd Tryz.prog 61 #[ptr kp] C (· =.int .i64 ((K.n:Nat):Int)):=by
 obtain⟨b,rfl,hO⟩:=h
 intro g
 refine IS (R:=aE _) ?_
 unfold L61
 refine ae.aJ (Br.no (Nil.ptr ?_))
 refine aa.mk (Ld.mk (v:=.int .i64 (K.n:Int)) (by exact .head _) rfl ?_)
 exact bL.mk (.refl _) rfl
theorem tg(h:cY kp K ord av tr C){r:Nat}(hr:r<4294967296):Rd Tryz.prog 97 #[ptr kp,u32 r] C (· =.tuple #[.agg (got K.N r).toArray,.int .i64 (if gf K.N r then 0 else 3)]):=by
 have h0:=h
 obtain⟨b,rfl,hO⟩:=h
 intro g
 refine Iy (R:=aE _) ?_
 unfold L97
 intro b1 _
 refine ae.aJ (Br.no (Nil.ptr (aa.mk ?_)))
 refine ag.rd (.cons .here) (mq h0 hr) ?_
 rintro v rfl
 refine Un.not ?_
 cases hb:gf K.N r with
 |false=>
  refine Br.yes ?_
  refine Build.mk (cs:=[.int .i64 0,.int .u32 0,.int .u32 0]) (by kernel_rfl) ?_
  refine St.whole (r:=[.int .i64 0,.int .u32 0,.int .u32 0]) (by exact .head _) rfl rfl (by simp[Value.oneCell']) ?_
  refine aA.whole (r:=[.int .i64 0,.int .u32 0,.int .u32 0]) (by exact .head _) rfl ?_
  exact bL.mk .tail (by rw[zw hb];rfl)
 |true=>
  refine Br.no (Nil.ptr (aa.mk ?_))
  refine ag.rd (.cons .here) (mm h0 hr) ?_
  rintro v rfl
  refine St.whole (r:=got K.N r) (by exact .head _) rfl (dB _ _).1 (dB _ _).2 ?_
  refine aA.whole (r:=got K.N r) (by exact .head _) (dB _ _).1 ?_
  exact bL.mk .tail rfl
end
theorem tS{B:Hp}{v:Value}{l:List Int}(h:cE .i64 B v l)(hl:l.length≤1099511627776):Fc Tryz.prog 57 #[v] B (fun r H=>∃C,H=C++B∧aQ 3 .i64 r l C):=by
 intro g
 refine IW (R:=aE _) ?_
 unfold L57
 obtain⟨a,c,rfl,hc⟩:=h.shape
 refine⟨.bool a.isNone,by simp[gk],?_⟩
 refine Br.mk (fun ha=>?_) (fun ha=>?_)
 ·have:l=[]:=by
   rcases h.2 with⟨_,_,h1,h2⟩|⟨b,o,cap,cs,T,fz,h1,_⟩
   ·simpa using h2
   ·simp at h1;rw[h1.1]at ha;simp at ha
  subst this
  exact aE.here ⟨[],rfl,aQ.nil⟩
 ·refine ax.none (z:=.int .i64 0) (e:=3) (k:=1) (by kernel_rfl) (by kernel_rfl) (by kernel_rfl) fun b=>?_
  refine(aQ.made (T:=3) (kd:=.i64) (b:=b) []).pS (l2:=l) .left ((show cE .i64 B _ l from h).mono fun _ h=>.tail _ h) (by simp;omega) (by simp;omega) fun v' C' ho=>?_
  exact aE.here ⟨C',rfl,by simpa using ho⟩
theorem HD{kp:Nat}{K:Kd}{ord av tr:List Nat}{C:Hp}(h:cY kp K ord av tr C):Fc Tryz.prog 13 #[ptr kp] C (fun r H=>∃N,H=N++C∧aQ 3 .i64 r (iw ord) N):=by
 obtain⟨b,rfl,hO⟩:=h
 intro g
 refine Jq (R:=aE _) ?_
 unfold L13
 refine ae.aJ (Br.no (Nil.ptr ?_))
 refine aa.mk (Ld.mk (v:=b.vo) (by exact .head _) rfl ?_)
 refine ag.fn .here (tS (hO.od.ints.mono (cz.sub (.cons (.app (.app (.app (.app .left))))))) (by have:=hO.ol.1;have:=hO.uH;simp;omega)) ?_
 rintro v C' ⟨N,rfl,ho⟩
 exact aE.here ⟨N,rfl,ho⟩
end Go.Proofs
set_option maxRecDepth 100000
namespace Go.Proofs
open Go Go.Sx
def wC(x r:Nat):Prop:=x<2^r∧(r=0∨2^(r-1)≤x)
theorem wC.up{x s t:Nat}(h:wC (x>>>s) t)(h0:s=0∨x>>>s≠0):wC x (s+t):=by
 rw[Nat.shiftRight_eq_div_pow]at h h0
 have hp:=Nat.two_pow_pos s
 refine⟨?_,?_⟩
 ·have:=h.1
  rw[Nat.div_lt_iff_lt_mul hp]at this
  rw[Nat.pow_add,Nat.mul_comm];exact this
 ·rcases h.2 with h2|h2
  ·subst h2
   have:=h.1
   rcases h0 with h0|h0
   ·exact .inl (by omega)
   ·rw[Nat.pow_zero]at this;exact absurd (Nat.lt_one_iff.1 this) h0
  ·by_cases ht:t=0
   ·subst ht
    rcases h0 with h0|h0
    ·exact .inl (by omega)
    ·have:=h.1;rw[Nat.pow_zero]at this;exact absurd (Nat.lt_one_iff.1 this) h0
   ·right
    have:=(Nat.le_div_iff_mul_le hp).1 h2
    rw[show s+t-1=(t-1)+s by omega,Nat.pow_add];exact this
theorem Pp:∀y:Fin 256,∃b:UInt8,(ByteArray.mk #[0,1,2,2,3,3,3,3,4,4,4,4,4,4,4,4,5,5,5,5,5,5,5,5,5,5,5,5,5,5,5,5,6,6,6,6,6,6,6,6,6,6,6,6,6,6,6,6,6,6,6,6,6,6,6,6,6,6,6,6,6,6,6,6,7,7,7,7,7,7,7,7,7,7,7,7,7,7,7,7,7,7,7,7,7,7,7,7,7,7,7,7,7,7,7,7,7,7,7,7,7,7,7,7,7,7,7,7,7,7,7,7,7,7,7,7,7,7,7,7,7,7,7,7,7,7,7,7,8,8,8,8,8,8,8,8,8,8,8,8,8,8,8,8,8,8,8,8,8,8,8,8,8,8,8,8,8,8,8,8,8,8,8,8,8,8,8,8,8,8,8,8,8,8,8,8,8,8,8,8,8,8,8,8,8,8,8,8,8,8,8,8,8,8,8,8,8,8,8,8,8,8,8,8,8,8,8,8,8,8,8,8,8,8,8,8,8,8,8,8,8,8,8,8,8,8,8,8,8,8,8,8,8,8,8,8,8,8,8,8,8,8,8,8,8,8,8,8,8,8,8,8,8,8,8,8])[y.1]? =some b∧(y.1<2^b.toNat∧(b.toNat=0∨2^(b.toNat-1)≤y.1)):=by
 have h:∀y:Fin 256,(match(ByteArray.mk #[0,1,2,2,3,3,3,3,4,4,4,4,4,4,4,4,5,5,5,5,5,5,5,5,5,5,5,5,5,5,5,5,6,6,6,6,6,6,6,6,6,6,6,6,6,6,6,6,6,6,6,6,6,6,6,6,6,6,6,6,6,6,6,6,7,7,7,7,7,7,7,7,7,7,7,7,7,7,7,7,7,7,7,7,7,7,7,7,7,7,7,7,7,7,7,7,7,7,7,7,7,7,7,7,7,7,7,7,7,7,7,7,7,7,7,7,7,7,7,7,7,7,7,7,7,7,7,7,8,8,8,8,8,8,8,8,8,8,8,8,8,8,8,8,8,8,8,8,8,8,8,8,8,8,8,8,8,8,8,8,8,8,8,8,8,8,8,8,8,8,8,8,8,8,8,8,8,8,8,8,8,8,8,8,8,8,8,8,8,8,8,8,8,8,8,8,8,8,8,8,8,8,8,8,8,8,8,8,8,8,8,8,8,8,8,8,8,8,8,8,8,8,8,8,8,8,8,8,8,8,8,8,8,8,8,8,8,8,8,8,8,8,8,8,8,8,8,8,8,8,8,8,8,8,8,8])[y.1]? with|some b=>decide (y.1<2^b.toNat∧(b.toNat=0∨2^(b.toNat-1)≤y.1))|none=>false)=true:=by decide+kernel
 intro y
 have:=h y
 split at this
 ·rename_i b hb
  exact⟨b,hb,by simpa using this⟩
 ·cases this
theorem Lr{x:Nat}(hx:x<18446744073709551616)(B:Hp):Rd Tryz.prog 75 #[.int .u64 (x:Int)] B (fun v=>∃r:Nat,wC x r∧v=.int .i64 (r:Int)):=by
 intro g
 refine IJ (R:=aE _) ?_
 unfold L75
 intro J1 hJ1
 have h1:∀s,s≤32→x>>>s<4294967296→(s=0∨x>>>s≠0)→J1 [.int .u64 ((x>>>s:Nat):Int),.int .i64 (s:Int)] B:=by
  intro s hs hlt h0
  refine hJ1 _ _ _ fun gs=>?_
  intro J2 Au
  have h2:∀s,s≤48→x>>>s<65536→(s=0∨x>>>s≠0)→J2 [.int .u64 ((x>>>s:Nat):Int),.int .i64 (s:Int)] B:=by
   intro s hs hlt h0
   refine Au _ _ _ fun gs=>?_
   intro J3 U7
   have h3:∀s,s≤56→x>>>s<256→(s=0∨x>>>s≠0)→J3 [.int .u64 ((x>>>s:Nat):Int),.int .i64 (s:Int)] B:=by
    intro s hs hlt h0
    refine U7 _ _ _ fun gs=>?_
    refine bI.nat (show x>>>s<256 from hlt) ?_
    obtain⟨b,hb,hl⟩:=Pp ⟨x>>>s,hlt⟩
    refine⟨_,_,_,b,rfl,rfl,Int.natCast_nonneg _,by rw[Int.toNat_natCast];exact hb,?_⟩
    have RJ:b.toNat<256:=b.toNat_lt
    refine bI.nat (by simp[az];omega) ?_
    refine ae.aH (by simp[az];omega) ?_
    exact bL.mk (.refl _) ⟨s+b.toNat,wC.up (t:=b.toNat) hl h0,rfl⟩
   refine ae.qz (b:=256) (Br.dec (fun hge=>?_) (fun hge=>JE.mk (h3 s (by omega) (by omega) h0)))
   refine ae.jJ (b:=8) (by simp only[az];omega) ?_
   refine ae.aH (b:=8) (by simp[az];omega) ?_
   rw[←Nat.shiftRight_add]
   have e:x>>>(s+8)=x>>>s/256:=by rw[Nat.shiftRight_add,Nat.shiftRight_eq_div_pow (x>>>s) 8]
   exact JE.mk (h3 (s+8) (by omega) (by omega) (.inr (by omega)))
  refine ae.qz (b:=65536) (Br.dec (fun hge=>?_) (fun hge=>JE.mk (h2 s (by omega) (by omega) h0)))
  refine ae.jJ (b:=16) (by simp only[az];omega) ?_
  refine ae.aH (b:=16) (by simp[az];omega) ?_
  rw[←Nat.shiftRight_add]
  have e:x>>>(s+16)=x>>>s/65536:=by rw[Nat.shiftRight_add,Nat.shiftRight_eq_div_pow (x>>>s) 16]
  exact JE.mk (h2 (s+16) (by omega) (by omega) (.inr (by omega)))
 refine ae.qz (b:=4294967296) (Br.dec (fun hge=>?_) (fun hge=>JE.mk (h1 0 (by omega) (by simp;omega) (.inl rfl))))
 refine ae.jJ (b:=32) (by simp only[az];exact hx) ?_
 have e:x>>>32=x/4294967296:=by rw[Nat.shiftRight_eq_div_pow]
 exact JE.mk (h1 32 (by omega) (by omega) (.inr (by omega)))
end Go.Proofs
namespace Go.Sx
open Go
section
variable {P:Program} {H C:Hp} {c:Hp→Hp}
theorem cz.re(h:cz C H c)(X:Hp):cz X (c X) c:=by
 induction h with
 |here=>exact .here
 |left=>exact .left
 |cons _ ih=>exact .cons ih
 |app _ ih=>exact .app ih
def Dt(T:TypeId)(kd:IntKind)(v:Value)(l0:List Int)(C:Hp):Prop:=∃l:List Int,l.Perm l0∧aQ T kd v l C
theorem swap_perm{l:List Int}{i j:Nat}{x y:Int}(hi:l[i]? =some x)(hj:l[j]? =some y):((l.set i y).set j x).Perm l:=by
 have h1:=(List.getElem?_eq_some_iff.1 hi).1
 have h2:=(List.getElem?_eq_some_iff.1 hj).1
 rw[List.perm_iff_count]
 intro a
 by_cases e:i=j
 ·subst e
  rw[hi]at hj;cases hj
  rw[List.set_set]
  have:l.set i x=l:=by
   have hx:l[i]=x:=by rw[List.getElem?_eq_getElem h1]at hi;exact Option.some.inj hi
   rw[←hx];exact List.set_getElem_self h1
  rw[this]
 ·have hx:l[i]=x:=by rw[List.getElem?_eq_getElem h1]at hi;exact Option.some.inj hi
  have hy:l[j]=y:=by rw[List.getElem?_eq_getElem h2]at hj;exact Option.some.inj hj
  rw[List.count_set (by simpa using h2),List.count_set h1]
  have:(l.set i y)[j]'(by simpa using h2)=y:=by rw[List.getElem_set_ne e];exact hy
  rw[this,hx]
  have c1:l.count x≥1:=List.one_le_count_iff.2 (hx▸List.getElem_mem h1)
  have c2:l.count y≥1:=List.one_le_count_iff.2 (hy▸List.getElem_mem h2)
  by_cases e1:x=a
  ·subst e1
   by_cases e2:y=x
   ·subst e2;simp<;>omega
   ·simp[e2,Ne.symm e2]<;>omega
  ·by_cases e2:y=a
   ·subst e2;simp[e1]<;>omega
   ·simp[e1,e2]<;>omega
theorem Dt.ld{T:TypeId}{kd xh:IntKind}{v:Value}{l0:List Int}(h:Dt T kd v l0 C)(hC:∀y∈C,y∈H){i:Nat}(hi:i<l0.length){K:Value→Prop}(hk:∀x,K (.int kd x)):ah 1 v (.int xh (i:Int)) fun p=>Ld H p K:=by
 obtain⟨l,hp,ho⟩:=h
 have:i<l.length:=by rw[hp.length_eq];exact hi
 exact ho.ld (List.getElem?_eq_getElem this) hC (hk _)
theorem Dt.swap{T:TypeId}{kd k1 k2 k3 k4:IntKind}{v:Value}{l0:List Int}(h:Dt T kd v l0 C)(hh:cz C H c){i j:Nat}(hi:i<l0.length)(hj:j<l0.length){K:Hp→Prop}(hk:∀C',Dt T kd v l0 C'→K (c C')):
  ah 1 v (.int k1 (j:Int)) fun p1=>Ld H p1 fun x=>ah 1 v (.int k2 (i:Int)) fun p2=>Ld H p2 fun y=>ah 1 v (.int k3 (i:Int)) fun p3=>St 1 H p3 x fun H1=>ah 1 v (.int k4 (j:Int)) fun p4=>St 1 H1 p4 y K:=by
 obtain⟨l,hp,ho⟩:=h
 have hl:=hp.length_eq
 have hi':l[i]? =some l[i]:=List.getElem?_eq_getElem (by omega)
 have hj':l[j]? =some l[j]:=List.getElem?_eq_getElem (by omega)
 refine ho.ld hj' hh.sub ?_
 refine ho.ld hi' hh.sub ?_
 refine ho.ju hh (by omega) fun C1 h1=>?_
 refine h1.ju (hh.re C1) (by simp;omega) fun C2 h2=>?_
 exact hk C2 ⟨_,(swap_perm hi' hj').trans hp,h2⟩
theorem Dt.Vz{T:TypeId}{kd k1 k2 k3 k4:IntKind}{v:Value}{l0:List Int}(h:Dt T kd v l0 C)(hh:cz C H c){i j:Nat}(hi:i<l0.length)(hj:j<l0.length){B:(Value→Prop)→Prop}
 (hB:∀k:Value→Prop,k (.int k2 (i:Int))→B k){K:Hp→Prop}(hk:∀C',Dt T kd v l0 C'→K (c C')):
  ah 1 v (.int k1 (j:Int)) fun p1=>Ld H p1 fun x=>B fun u=>ah 1 v u fun p2=>Ld H p2 fun y=>ah 1 v (.int k3 (i:Int)) fun p3=>St 1 H p3 x fun H1=>ah 1 v (.int k4 (j:Int)) fun p4=>St 1 H1 p4 y K:=by
 obtain⟨l,hp,ho⟩:=h
 have hl:=hp.length_eq
 have hi':l[i]? =some l[i]:=List.getElem?_eq_getElem (by omega)
 have hj':l[j]? =some l[j]:=List.getElem?_eq_getElem (by omega)
 refine ho.ld hj' hh.sub (hB _ ?_)
 refine ho.ld hi' hh.sub ?_
 refine ho.ju hh (by omega) fun C1 h1=>?_
 refine h1.ju (hh.re C1) (by simp;omega) fun C2 h2=>?_
 exact hk C2 ⟨_,(swap_perm hi' hj').trans hp,h2⟩
theorem aQ.dt{T:TypeId}{kd:IntKind}{v:Value}{l:List Int}(h:aQ T kd v l C):Dt T kd v l C:=⟨l,.refl _,h⟩
def up1(vs:List Value):Nat:=match vs with
 | .int _ q::_=>(q+1).toNat
 |_=>0
theorem wH{k:IntKind}{q:Int}{r:List Value}:up1 (.int k q::r)=(q+1).toNat:=rfl
end
end Go.Sx
set_option maxRecDepth 100000
namespace Go.Proofs
open Go Go.Sx
abbrev DT(v:Value)(l0:List Int)(C:Hp):Prop:=Dt 77 .u32 v l0 C
def SQ(v:Value)(l0:List Int):Value→Hp→Prop:=fun r C'=>r=.tuple #[]∧DT v l0 C'
section
variable {v:Value} {l0:List Int} {C:Hp}
theorem S9(x:Int)(B:Hp):Rd Tryz.prog 304 #[.int .u32 x] B (· =.bool false):=by
 intro g
 refine Cq (R:=aE _) ?_
 unfold L304
 refine ae.gj ?_
 exact bL.mk (.refl _) (by simp)
theorem eM(x y:Int)(B:Hp):Rd Tryz.prog 295 #[.int .u32 x,.int .u32 y] B (· =.bool (decide (x<y))):=by
 intro g
 refine CC (R:=aE _) ?_
 unfold L295
 intro J1 hJ1
 refine ag.rd .here (S9 x B) ?_
 rintro w rfl
 refine Split.SZ rfl ?_
 refine aD.mk ?_
 refine ae.lss ?_
 refine aD.mk ?_
 exact JE.mk (hJ1 _ _ fun gs=>bL.mk (.refl _) rfl)
theorem ze(h:DT v l0 C){a b:Nat}(hab:a≤b)(hb:b≤l0.length)(bD:l0.length<1152921504606846976):Fc Tryz.prog 289 #[v,.int .i64 (a:Int),.int .i64 (b:Int)] C (SQ v l0):=by
 intro g
 refine CK (R:=aE _) ?_
 unfold L289
 refine ae.aH (b:=1) (by simp[az];omega) ?_
 refine⟨fun vs H=>∃i:Nat,vs=[.int .i64 (i:Int)]∧a<i∧DT v l0 H,fun vs _=>l0.length-bg vs 0,JE.mk ⟨a+1,rfl,by omega,h⟩,?_⟩
 rintro w H ⟨i,hw,hi,hd⟩ gs
 simp only[List.cons.injEq,and_true]at hw
 subst hw
 refine ae.dL (Br.dec (fun hlt=>?_) (fun _=>aE.here ⟨rfl,hd⟩))
 refine⟨fun vs H=>∃j:Nat,vs=[.int .i64 (j:Int)]∧a≤j∧j≤i∧DT v l0 H,fun vs _=>bg vs 0,JE.mk ⟨i,rfl,by omega,Nat.le_refl _,hd⟩,?_⟩
 rintro w H ⟨j,hw,RL,TL,hd⟩ gs
 simp only[List.cons.injEq,and_true]at hw
 subst hw
 intro J hJ
 have no:J [.bool false] H:=hJ _ _ fun gs=>Br.no (ae.aH (b:=1) (by simp[az];omega) (ay.mk ⟨i+1,rfl,by omega,hd⟩ (by simp[bg];omega)))
 have yes:a<j→J [.bool true] H:=fun RL=>hJ _ _ fun gs=>Br.yes (DR.self (ae.bC (b:=1) (by simp[az];omega) (by omega) (ae.bC (b:=1) (by simp[az];omega) (by omega)
  (hd.swap .here (by omega) (by omega) fun C' ei=>ae.bC (b:=1) (by simp[az];omega) (by omega) (ay.mk ⟨j-1,rfl,by omega,by omega,ei⟩ (by simp[bg];omega))))))
 refine DR.self (ae.lQ (Br.dec (fun hgt=>?_) fun _=>JE.mk no))
 refine hd.ld (fun _ h=>h) (by omega) fun x=>?_
 refine ae.bC (b:=1) (by simp[az];omega) (by omega) ?_
 refine hd.ld (fun _ h=>h) (by omega) fun y=>?_
 intro F
 refine ag.rd .here (eM x y _) ?_
 rintro w rfl
 refine aD.mk ?_
 by_cases e:x<y
 ·rw[decide_eq_true e];exact JE.mk (yes hgt)
 ·rw[decide_eq_false e];exact JE.mk no
theorem SS(h:DT v l0 C){a b:Nat}(hab:a<b)(hb:b≤l0.length)(bD:l0.length<1152921504606846976):Fc Tryz.prog 293 #[v,.int .i64 (a:Int),.int .i64 (b:Int)] C (SQ v l0):=by
 intro g
 refine CE (R:=aE _) ?_
 unfold L293
 refine ae.bC (b:=1) (by simp[az];omega) (by omega) ?_
 refine⟨fun vs H=>∃i j:Nat,vs=[.int .i64 (i:Int),.int .i64 (j:Int)]∧j<l0.length∧DT v l0 H,fun vs _=>bg vs 1-bg vs 0,JE.mk ⟨a,b-1,rfl,by omega,h⟩,?_⟩
 rintro w w' H ⟨i,j,hw,hj,hd⟩ gs
 simp only[List.cons.injEq,and_true]at hw
 obtain⟨rfl,rfl⟩:=hw
 refine ae.dL (Br.dec (fun hlt=>?_) (fun _=>aE.here ⟨rfl,hd⟩))
 refine DR.self (hd.swap .here (by omega) (by omega) fun C' ei=>?_)
 refine ae.aH (b:=1) (by simp[az];omega) ?_
 refine ae.bC (b:=1) (by simp[az];omega) (by omega) ?_
 exact ay.mk ⟨i+1,j-1,rfl,by omega,ei⟩ (by simp[bg];omega)
theorem O6(h:DT v l0 C){a b:Nat}(hab:a<b)(hb:b≤l0.length)(bD:l0.length<1152921504606846976):Fc Tryz.prog 294 #[v,.int .i64 (a:Int),.int .i64 (b:Int)] C (fun r C'=>(∃t,r=.bool t)∧DT v l0 C'):=by
 intro g
 refine CD (R:=aE _) ?_
 unfold L294
 refine ae.aH (b:=1) (by simp[az];omega) ?_
 refine⟨fun vs H=>∃i k:Nat,vs=[.int .i64 (i:Int),.int .i64 (k:Int)]∧a<i∧i≤b∧DT v l0 H,fun vs _=>5-bg vs 1,JE.mk ⟨a+1,0,rfl,by omega,by omega,h⟩,?_⟩
 rintro w w' H ⟨i,k,hw,Od,tu,hd⟩ gs
 simp only[List.cons.injEq,and_true]at hw
 obtain⟨rfl,rfl⟩:=hw
 refine ae.dL (b:=5) (Br.dec (fun hk=>?_) (fun _=>aE.here ⟨⟨_,rfl⟩,hd⟩))
 intro J9 Mz
 have next:∀(i':Nat) H',a<i'→i'≤b→DT v l0 H'→J9 [.int .i64 (i':Int)] H':=fun i' H' h1 h2 ei=>Mz _ _ fun gs=>ae.aH (b:=1) (by simp[az];omega) (ay.mk ⟨i',k+1,rfl,h1,h2,ei⟩ (by simp[bg];omega))
 refine⟨fun vs H=>∃i:Nat,vs=[.int .i64 (i:Int)]∧a<i∧i≤b∧DT v l0 H,fun vs _=>b-bg vs 0,JE.mk ⟨i,rfl,Od,tu,hd⟩,?_⟩
 clear hd Od tu
 rintro w H ⟨i,hw,Od,tu,hd⟩ gs
 simp only[List.cons.injEq,and_true]at hw
 subst hw
 intro Oo Xm
 have yes:i<b→Oo [.bool true] H:=fun hlt=>Xm _ _ fun gs=>Br.yes (ae.aH (b:=1) (by simp[az];omega) (ay.mk ⟨i+1,rfl,by omega,by omega,hd⟩ (by simp[bg];omega)))
 have no:Oo [.bool false] H:=by
  refine Xm _ _ fun gs=>Br.no ?_
  refine ae.gp (Br.dec (fun he=>aE.here ⟨⟨_,rfl⟩,hd⟩) (fun hne=>?_))
  refine ae.bC (by simp[az];omega) (by omega) ?_
  refine ae.dL (b:=50) (Br.dec (fun he=>aE.here ⟨⟨_,rfl⟩,hd⟩) (fun _=>?_))
  refine DR.self ?_
  refine ae.bC (b:=1) (by simp[az];omega) (by omega) ?_
  refine ae.bC (b:=1) (by simp[az];omega) (by omega) ?_
  refine hd.swap .here (by omega) (by omega) fun C1 Mi=>?_
  intro Vg ab0
  have tail:∀H',DT v l0 H'→Vg [] H':=fun H' ei=>by
   refine ab0 _ fun gs=>?_
   refine ae.bC (by simp[az];omega) (by omega) ?_
   refine ae.qz (b:=2) (Br.dec (fun h2=>?_) (fun _=>JE.mk (next i _ Od tu ei)))
   refine ae.aH (b:=1) (by simp[az];omega) ?_
   refine⟨fun vs H=>∃j:Nat,vs=[.int .i64 (j:Int)]∧0<j∧DT v l0 H,fun vs _=>b-bg vs 0,JE.mk ⟨i+1,rfl,by omega,ei⟩,?_⟩
   rintro w H ⟨j,hw,TM,BM⟩ gs
   simp only[List.cons.injEq,and_true]at hw
   subst hw
   refine ae.dL (Br.dec (fun hlt=>?_) (fun _=>JE.mk (next i _ Od tu BM)))
   refine DR.self ?_
   refine BM.ld (fun _ h=>h) (by omega) fun x=>?_
   refine ae.bC (b:=1) (by simp[az];omega) (by omega) ?_
   refine BM.ld (fun _ h=>h) (by omega) fun y=>?_
   refine ag.rd .here (eM x y _) ?_
   rintro w rfl
   refine Un.not ?_
   refine Br.mk (fun _=>JE.mk (next i _ Od tu BM)) (fun _=>?_)
   refine DR.self ?_
   refine ae.bC (b:=1) (by simp[az];omega) (by omega) ?_
   refine ae.bC (b:=1) (by simp[az];omega) (by omega) ?_
   refine BM.swap .here (by omega) (by omega) fun C2 vR=>?_
   refine ae.aH (b:=1) (by simp[az];omega) ?_
   exact ay.mk ⟨j+1,rfl,by omega,vR⟩ (by simp[bg];omega)
  refine ae.bC (by simp[az];omega) (by omega) ?_
  refine ae.qz (b:=2) (Br.dec (fun h2=>?_) (fun _=>JE.mk (tail _ Mi)))
  refine ae.bC (b:=1) (by simp[az];omega) (by omega) ?_
  refine⟨fun vs H=>∃j:Nat,vs=[.int .i64 (j:Int)]∧j<l0.length∧DT v l0 H,fun vs _=>bg vs 0,JE.mk ⟨i-1,rfl,by omega,Mi⟩,?_⟩
  rintro w H ⟨j,hw,TM,BM⟩ gs
  simp only[List.cons.injEq,and_true]at hw
  subst hw
  refine ae.qz (b:=1) (Br.dec (fun hlt=>?_) (fun _=>JE.mk (tail _ BM)))
  refine DR.self ?_
  refine BM.ld (fun _ h=>h) (by omega) fun x=>?_
  refine ae.bC (b:=1) (by simp[az];omega) (by omega) ?_
  refine BM.ld (fun _ h=>h) (by omega) fun y=>?_
  refine ag.rd .here (eM x y _) ?_
  rintro w rfl
  refine Un.not ?_
  refine Br.mk (fun _=>JE.mk (tail _ BM)) (fun _=>?_)
  refine DR.self ?_
  refine ae.bC (b:=1) (by simp[az];omega) (by omega) ?_
  refine ae.bC (b:=1) (by simp[az];omega) (by omega) ?_
  refine BM.swap .here (by omega) (by omega) fun C2 vR=>?_
  refine ae.bC (b:=1) (by simp[az];omega) (by omega) ?_
  exact ay.mk ⟨j-1,rfl,by omega,vR⟩ (by simp[bg];omega)
 refine DR.self (ae.dL (Br.dec (fun hlt=>?_) fun _=>JE.mk no))
 refine hd.ld (fun _ h=>h) (by omega) fun x=>?_
 refine ae.bC (b:=1) (by simp[az];omega) (by omega) ?_
 refine hd.ld (fun _ h=>h) (by omega) fun y=>?_
 intro F
 refine ag.rd .here (eM x y _) ?_
 rintro w rfl
 refine Un.not ?_
 refine aD.mk ?_
 by_cases e:x<y
 ·rw[decide_eq_true e];exact JE.mk no
 ·rw[decide_eq_false e];exact JE.mk (yes hlt)
theorem G9(h:DT v l0 C){a b p:Nat}(hp:a≤p∧p<b)(hb:b≤l0.length)(bD:l0.length<1152921504606846976):Fc Tryz.prog 296 #[v,.int .i64 (a:Int),.int .i64 (b:Int),.int .i64 (p:Int)] C
  (fun r C'=>(∃m:Nat,r=.int .i64 (m:Int)∧a<m∧m≤b)∧DT v l0 C'):=by
 intro g
 refine CB (R:=aE _) ?_
 unfold L296
 refine DR.self (h.swap .here (by omega) (by omega) fun C1 hd=>?_)
 refine ae.aH (b:=1) (by simp[az];omega) ?_
 refine ae.bC (b:=1) (by simp[az];omega) (by omega) ?_
 refine⟨fun vs H=>∃i j:Nat,vs=[.int .i64 (i:Int),.int .i64 (j:Int)]∧a<i∧i≤b∧a≤j∧j<b∧DT v l0 H,fun vs _=>b-bg vs 0,JE.mk ⟨a+1,b-1,rfl,by omega,by omega,by omega,by omega,hd⟩,?_⟩
 clear hd
 rintro w w' H0 ⟨i0,j0,hw,Od,tu,RL,UT,hd⟩ gs
 simp only[List.cons.injEq,and_true]at hw
 obtain⟨rfl,rfl⟩:=hw
 refine⟨fun vs H=>∃i:Nat,vs=[.int .i64 (i:Int)]∧i0≤i∧i≤b∧DT v l0 H,fun vs _=>b-bg vs 0,JE.mk ⟨i0,rfl,Nat.le_refl _,tu,hd⟩,?_⟩
 clear hd tu
 rintro w H ⟨i,hw,Mb,tu,hd⟩ gs
 simp only[List.cons.injEq,and_true]at hw
 subst hw
 intro Vh Xk
 have yes:i≤j0→Vh [.bool true] H:=fun hle=>Xk _ _ fun gs=>Br.yes (ae.aH (b:=1) (by simp[az];omega) (ay.mk ⟨i+1,rfl,by omega,by omega,hd⟩ (by simp[bg];omega)))
 have no:Vh [.bool false] H:=by
  refine Xk _ _ fun gs=>Br.no ?_
  refine⟨fun vs H=>∃j:Nat,vs=[.int .i64 (j:Int)]∧a≤j∧j<b∧DT v l0 H,fun vs _=>bg vs 0,JE.mk ⟨j0,rfl,RL,UT,hd⟩,?_⟩
  rintro w H' ⟨j,hw,WW,WA,ei⟩ gs
  simp only[List.cons.injEq,and_true]at hw
  subst hw
  intro JM P9
  have Gy:i≤j→JM [.bool true] H':=fun hle=>P9 _ _ fun gs=>Br.yes (ae.bC (b:=1) (by simp[az];omega) (by omega) (ay.mk ⟨j-1,rfl,by omega,by omega,ei⟩ (by simp[bg];omega)))
  have Q5:JM [.bool false] H':=by
   refine P9 _ _ fun gs=>Br.no ?_
   refine ae.lQ (Br.dec (fun _=>aE.here ⟨⟨i,rfl,by omega,tu⟩,ei⟩) (fun hle=>?_))
   refine DR.self (ei.swap .here (by omega) (by omega) fun C2 vR=>?_)
   refine ae.aH (b:=1) (by simp[az];omega) ?_
   refine ae.bC (b:=1) (by simp[az];omega) (by omega) ?_
   exact ay.mk ⟨i+1,j-1,rfl,by omega,by omega,by omega,by omega,vR⟩ (by simp[bg];omega)
  refine DR.self (ae.y4 (Br.dec (fun hle=>?_) fun _=>JE.mk Q5))
  refine ei.ld (fun _ h=>h) (by omega) fun x=>?_
  refine ei.ld (fun _ h=>h) (by omega) fun y=>?_
  intro F
  refine ag.rd .here (eM x y _) ?_
  rintro w rfl
  refine aD.mk ?_
  by_cases e:x<y
  ·rw[decide_eq_true e];exact JE.mk (Gy hle)
  ·rw[decide_eq_false e];exact JE.mk Q5
 refine DR.self (ae.y4 (Br.dec (fun hle=>?_) fun _=>JE.mk no))
 refine hd.ld (fun _ h=>h) (by omega) fun x=>?_
 refine hd.ld (fun _ h=>h) (by omega) fun y=>?_
 intro F
 refine ag.rd .here (eM x y _) ?_
 rintro w rfl
 refine Un.not ?_
 refine aD.mk ?_
 by_cases e:x<y
 ·rw[decide_eq_true e];exact JE.mk no
 ·rw[decide_eq_false e];exact JE.mk (yes hle)
end
end Go.Proofs
set_option maxRecDepth 100000
namespace Go.Proofs
open Go Go.Sx
section
variable {v:Value} {l0:List Int} {C:Hp}
def PQ(v:Value)(l0:List Int)(a b:Nat):Value→Hp→Prop:=fun r C'=>(∃(m:Nat) (t:Bool),r=.tuple #[.int .i64 (m:Int),.bool t]∧a≤m∧m<b)∧DT v l0 C'
theorem O9(h:DT v l0 C){a b p:Nat}(hp:a≤p∧p<b)(hb:b≤l0.length)(bD:l0.length<1152921504606846976):Fc Tryz.prog 297 #[v,.int .i64 (a:Int),.int .i64 (b:Int),.int .i64 (p:Int)] C (PQ v l0 a b):=by
 intro g
 refine Cz (R:=aE _) ?_
 unfold L297
 refine DR.self (h.swap .here (by omega) (by omega) fun C1 hd=>?_)
 refine ae.aH (b:=1) (by simp[az];omega) ?_
 refine ae.bC (b:=1) (by simp[az];omega) (by omega) ?_
 refine⟨fun vs H=>∃i:Nat,vs=[.int .i64 (i:Int)]∧a<i∧i≤b∧DT v l0 H,fun vs _=>b-bg vs 0,JE.mk ⟨a+1,rfl,by omega,by omega,hd⟩,?_⟩
 clear hd
 rintro w H ⟨i,hw,Od,tu,hd⟩ gs
 simp only[List.cons.injEq,and_true]at hw
 subst hw
 intro uD BS
 have yes:i<b→uD [.bool true] H:=fun hle=>BS _ _ fun gs=>Br.yes (ae.aH (b:=1) (by simp[az];omega) (ay.mk ⟨i+1,rfl,by omega,by omega,hd⟩ (by simp[bg];omega)))
 have no:uD [.bool false] H:=by
  refine BS _ _ fun gs=>Br.no ?_
  refine⟨fun vs H=>∃j:Nat,vs=[.int .i64 (j:Int)]∧a≤j∧j<b∧DT v l0 H,fun vs _=>bg vs 0,JE.mk ⟨b-1,rfl,by omega,by omega,hd⟩,?_⟩
  clear hd
  rintro w H ⟨j,hw,RL,UT,hd⟩ gs
  simp only[List.cons.injEq,and_true]at hw
  subst hw
  intro ND T3
  have Gy:i≤j→ND [.bool true] H:=fun hle=>T3 _ _ fun gs=>Br.yes (ae.bC (b:=1) (by simp[az];omega) (by omega) (ay.mk ⟨j-1,rfl,by omega,by omega,hd⟩ (by simp[bg];omega)))
  have Q5:ND [.bool false] H:=by
   refine T3 _ _ fun gs=>Br.no ?_
   refine ae.lQ (Br.dec (fun _=>?_) (fun hle=>?_))
   ·refine DR.self (hd.swap .here (by omega) (by omega) fun C2 vR=>?_)
    exact aE.here ⟨⟨j,true,rfl,RL,UT⟩,vR⟩
   ·refine DR.self (hd.swap .here (by omega) (by omega) fun C2 vR=>?_)
    refine ae.aH (b:=1) (by simp[az];omega) ?_
    refine ae.bC (b:=1) (by simp[az];omega) (by omega) ?_
    refine⟨fun vs H=>∃i j:Nat,vs=[.int .i64 (i:Int),.int .i64 (j:Int)]∧a<i∧i≤b∧a≤j∧j<b∧DT v l0 H,fun vs _=>b-bg vs 0,JE.mk ⟨i+1,j-1,rfl,by omega,by omega,by omega,by omega,vR⟩,?_⟩
    clear vR hd Od tu RL UT hle Gy T3 ND BS uD yes
    rintro w w' H0 ⟨i0,j0,hw,Od,tu,RL,UT,hd⟩ gs
    simp only[List.cons.injEq,and_true]at hw
    obtain⟨rfl,rfl⟩:=hw
    refine⟨fun vs H=>∃i:Nat,vs=[.int .i64 (i:Int)]∧i0≤i∧i≤b∧DT v l0 H,fun vs _=>b-bg vs 0,JE.mk ⟨i0,rfl,Nat.le_refl _,tu,hd⟩,?_⟩
    clear hd tu
    rintro w H ⟨i,hw,Mb,tu,hd⟩ gs
    simp only[List.cons.injEq,and_true]at hw
    subst hw
    intro Vf Xi
    have yes:i≤j0→Vf [.bool true] H:=fun hle=>Xi _ _ fun gs=>Br.yes (ae.aH (b:=1) (by simp[az];omega) (ay.mk ⟨i+1,rfl,by omega,by omega,hd⟩ (by simp[bg];omega)))
    have no:Vf [.bool false] H:=by
     refine Xi _ _ fun gs=>Br.no ?_
     refine⟨fun vs H=>∃j:Nat,vs=[.int .i64 (j:Int)]∧a≤j∧j<b∧DT v l0 H,fun vs _=>bg vs 0,JE.mk ⟨j0,rfl,RL,UT,hd⟩,?_⟩
     rintro w H' ⟨j,hw,WW,WA,ei⟩ gs
     simp only[List.cons.injEq,and_true]at hw
     subst hw
     intro Ve Xh
     have Gy:i≤j→Ve [.bool true] H':=fun hle=>Xh _ _ fun gs=>Br.yes (ae.bC (b:=1) (by simp[az];omega) (by omega) (ay.mk ⟨j-1,rfl,by omega,by omega,ei⟩ (by simp[bg];omega)))
     have Q5:Ve [.bool false] H':=by
      refine Xh _ _ fun gs=>Br.no ?_
      refine ae.lQ (Br.dec (fun _=>?_) (fun hle=>?_))
      ·refine DR.self (ei.swap .here (by omega) (by omega) fun C2 vR=>?_)
       exact aE.here ⟨⟨j,false,rfl,WW,WA⟩,vR⟩
      ·refine DR.self (ei.swap .here (by omega) (by omega) fun C2 vR=>?_)
       refine ae.aH (b:=1) (by simp[az];omega) ?_
       refine ae.bC (b:=1) (by simp[az];omega) (by omega) ?_
       exact ay.mk ⟨i+1,j-1,rfl,by omega,by omega,by omega,by omega,vR⟩ (by simp[bg];omega)
     refine DR.self (ae.y4 (Br.dec (fun hle=>?_) fun _=>JE.mk Q5))
     refine ei.ld (fun _ h=>h) (by omega) fun x=>?_
     refine ei.ld (fun _ h=>h) (by omega) fun y=>?_
     intro F
     refine ag.rd .here (eM x y _) ?_
     rintro w rfl
     refine Un.not ?_
     refine aD.mk ?_
     by_cases e:x<y
     ·rw[decide_eq_true e];exact JE.mk Q5
     ·rw[decide_eq_false e];exact JE.mk (Gy hle)
    refine DR.self (ae.y4 (Br.dec (fun hle=>?_) fun _=>JE.mk no))
    refine hd.ld (fun _ h=>h) (by omega) fun x=>?_
    refine hd.ld (fun _ h=>h) (by omega) fun y=>?_
    intro F
    refine ag.rd .here (eM x y _) ?_
    rintro w rfl
    refine aD.mk ?_
    by_cases e:x<y
    ·rw[decide_eq_true e];exact JE.mk (yes hle)
    ·rw[decide_eq_false e];exact JE.mk no
  refine DR.self (ae.y4 (Br.dec (fun hle=>?_) fun _=>JE.mk Q5))
  refine hd.ld (fun _ h=>h) (by omega) fun x=>?_
  refine hd.ld (fun _ h=>h) (by omega) fun y=>?_
  intro F
  refine ag.rd .here (eM x y _) ?_
  rintro w rfl
  refine Un.not ?_
  refine aD.mk ?_
  by_cases e:x<y
  ·rw[decide_eq_true e];exact JE.mk Q5
  ·rw[decide_eq_false e];exact JE.mk (Gy hle)
 refine DR.self (ae.y4 (Br.dec (fun hle=>?_) fun _=>JE.mk no))
 refine hd.ld (fun _ h=>h) (by omega) fun x=>?_
 refine hd.ld (fun _ h=>h) (by omega) fun y=>?_
 intro F
 refine ag.rd .here (eM x y _) ?_
 rintro w rfl
 refine aD.mk ?_
 by_cases e:x<y
 ·rw[decide_eq_true e];exact JE.mk (yes (by omega))
 ·rw[decide_eq_false e];exact JE.mk no
theorem Ft(h:DT v l0 C){lo hi f:Nat}(hlo:lo≤l0.length)(hb:f+hi≤l0.length)(bD:l0.length<1152921504606846976):Fc Tryz.prog 299 #[v,.int .i64 (lo:Int),.int .i64 (hi:Int),.int .i64 (f:Int)] C (SQ v l0):=by
 intro g
 refine Cy (R:=aE _) ?_
 unfold L299
 refine⟨fun vs H=>∃i:Nat,vs=[.int .i64 (i:Int)]∧i≤l0.length∧DT v l0 H,fun vs _=>l0.length-bg vs 0,JE.mk ⟨lo,rfl,hlo,h⟩,?_⟩
 rintro w H ⟨r,hw,hr,hd⟩ gs
 simp only[List.cons.injEq,and_true]at hw
 subst hw
 refine ae.g6 (a:=2) (by simp[az];omega) ?_
 refine ae.aH (b:=1) (by simp[az];omega) ?_
 refine ae.qz (Br.dec (fun _=>aE.here ⟨rfl,hd⟩) (fun hlt=>?_))
 intro J9 Mz
 have go:∀c:Nat,r<c→c<hi→J9 [.int .i64 (c:Int)] H:=fun c hrc ahg=>by
  refine Mz _ _ fun gs=>?_
  refine DR.self ?_
  refine ae.aH (by simp[az];omega) ?_
  refine hd.ld (fun _ h=>h) (by omega) fun x=>?_
  refine ae.aH (by simp[az];omega) ?_
  refine hd.ld (fun _ h=>h) (by omega) fun y=>?_
  refine ag.rd .here (eM x y _) ?_
  rintro w rfl
  refine Un.not ?_
  refine Br.mk (fun _=>aE.here ⟨rfl,hd⟩) (fun _=>?_)
  refine DR.self ?_
  refine ae.aH (by simp[az];omega) ?_
  refine ae.aH (by simp[az];omega) ?_
  refine ae.aH (by simp[az];omega) ?_
  refine hd.Vz .here (i:=f+r) (j:=f+c) (B:=fun k=>ae .num .add (.int .i64 (f:Int)) (.int .i64 (r:Int)) k) (by omega) (by omega) (fun k hk=>ae.aH (by simp[az];omega) hk) fun C1 Mi=>?_
  exact ay.mk ⟨c,rfl,by omega,Mi⟩ (by simp[bg];omega)
 intro yd Xj
 have stay:yd [.bool false] H:=Xj _ _ fun gs=>Br.no (JE.mk (go _ (by omega) (by omega)))
 refine DR.self ?_
 refine ae.aH (b:=1) (by simp[az];omega) ?_
 refine ae.dL (Br.dec (fun hc=>?_) fun _=>JE.mk stay)
 refine ae.aH (by simp[az];omega) ?_
 refine hd.ld (fun _ h=>h) (by omega) fun x=>?_
 refine ae.aH (by simp[az];omega) ?_
 refine ae.aH (b:=1) (by simp[az];omega) ?_
 refine hd.ld (fun _ h=>h) (by omega) fun y=>?_
 intro F
 refine ag.rd .here (eM x y _) ?_
 rintro w rfl
 refine aD.mk ?_
 by_cases e:x<y
 ·rw[decide_eq_true e]
  exact JE.mk (Xj _ _ fun gs=>Br.yes (ae.aH (b:=1) (by simp[az];omega) (JE.mk (go _ (by omega) hc))))
 ·rw[decide_eq_false e];exact JE.mk stay
theorem LO(h:DT v l0 C){a b:Nat}(hab:a<b)(hb:b≤l0.length)(bD:l0.length<1152921504606846976):Fc Tryz.prog 290 #[v,.int .i64 (a:Int),.int .i64 (b:Int)] C (SQ v l0):=by
 intro g
 refine CJ (R:=aE _) ?_
 unfold L290
 refine ae.bC (by simp[az];omega) (by omega) ?_
 refine ae.bC (b:=1) (by simp[az];omega) (by omega) ?_
 refine ae.u3 (b:=2) (by simp[az];omega) (by omega) ?_
 refine⟨fun vs H=>∃q:Int,vs=[.int .i64 q]∧ -1≤q∧q<(b:Int) -a∧DT v l0 H,fun vs _=>up1 vs,JE.mk ⟨(((b-a-1) /2:Nat):Int),rfl,by omega,by omega,h⟩,?_⟩
 rintro w H ⟨q,hw,Tw,hq2,hd⟩ gs
 simp only[List.cons.injEq,and_true]at hw
 subst hw
 refine ae.geq (Br.dec (fun h0=>?_) (fun _=>?_))
 ·obtain⟨i,rfl⟩:∃i:Nat,q=i:=⟨q.toNat,by omega⟩
  refine ag.fn .here (Ft hd (by omega) (by omega) bD) ?_
  rintro w C1 ⟨rfl,Mi⟩
  refine ae.jZ (c:=(i:Int) -1) rfl (by omega) ?_
  exact ay.mk ⟨(i:Int) -1,rfl,by omega,by omega,Mi⟩ (by rw[wH,wH];omega)
 ·refine ae.bC (b:=1) (by simp[az];omega) (by omega) ?_
  refine⟨fun vs H=>∃q:Int,vs=[.int .i64 q]∧ -1≤q∧q<(b:Int) -a∧DT v l0 H,fun vs _=>up1 vs,JE.mk ⟨((b-a-1:Nat):Int),rfl,by omega,by omega,hd⟩,?_⟩
  clear hd
  rintro w H ⟨q,hw,Tw,hq2,hd⟩ gs
  simp only[List.cons.injEq,and_true]at hw
  subst hw
  refine ae.geq (Br.dec (fun h0=>?_) (fun _=>aE.here ⟨rfl,hd⟩))
  obtain⟨i,rfl⟩:∃i:Nat,q=i:=⟨q.toNat,by omega⟩
  refine DR.self ?_
  refine ae.aH (by simp[az];omega) ?_
  refine ae.aH (by simp[az];omega) ?_
  refine hd.swap .here (by omega) (by omega) fun C1 Mi=>?_
  refine ag.fn .here (Ft Mi (lo:=0) (by omega) (by omega) bD) ?_
  rintro w C2 ⟨rfl,vR⟩
  refine ae.jZ (c:=(i:Int) -1) rfl (by omega) ?_
  exact ay.mk ⟨(i:Int) -1,rfl,by omega,by omega,vR⟩ (by rw[wH,wH];omega)
end
section
variable {v:Value} {l0:List Int} {C:Hp}
theorem Zx{a b:Nat}(ha:a<18446744073709551616)(hb:b<18446744073709551616):a^^^b<18446744073709551616:=Nat.xor_lt_two_pow (n:=64) ha hb
theorem JQ(b x:Nat)(hx:x<18446744073709551616):Fc Tryz.prog 301 #[ptr b] [(b,.cells #[.int .u64 (x:Int)] 373 (0,0))]
  (fun r H=>∃y:Nat,y<18446744073709551616∧r=.int .u64 (y:Int)∧H=[(b,.cells #[.int .u64 (y:Int)] 373 (0,0))]):=by
 intro g
 refine Cv (R:=aE _) ?_
 unfold L301
 refine DR.self ?_
 refine Nil.ptr (Ld.mk (by exact .head _) rfl ?_)
 refine Nil.ptr (Ld.mk (by exact .head _) rfl ?_)
 refine ae.o5 (b:=13) ?_
 refine ae.Sc hx (Nat.mod_lt _ (by decide)) ?_
 have h1:=Zx hx (Nat.mod_lt (x<<<13) (show 0<18446744073709551616 by decide))
 generalize x^^^x<<<13%18446744073709551616=x1 at h1
 refine Nil.ptr (St.one (by exact .head _) rfl (by simp) rfl ?_)
 refine DR.self ?_
 refine Nil.ptr (Ld.mk (by exact .head _) rfl ?_)
 refine Nil.ptr (Ld.mk (by exact .head _) rfl ?_)
 refine ae.jJ (b:=7) h1 ?_
 have h2:x1>>>7<18446744073709551616:=by rw[Nat.shiftRight_eq_div_pow];omega
 refine ae.Sc h1 h2 ?_
 have h3:=Zx h1 h2
 generalize x1^^^x1>>>7=x2 at h3
 refine Nil.ptr (St.one (by exact .head _) rfl (by simp) rfl ?_)
 refine DR.self ?_
 refine Nil.ptr (Ld.mk (by exact .head _) rfl ?_)
 refine Nil.ptr (Ld.mk (by exact .head _) rfl ?_)
 refine ae.o5 (b:=17) ?_
 refine ae.Sc h3 (Nat.mod_lt _ (by decide)) ?_
 have h4:=Zx h3 (Nat.mod_lt (x2<<<17) (show 0<18446744073709551616 by decide))
 generalize x2^^^x2<<<17%18446744073709551616=x3 at h4
 refine Nil.ptr (St.one (by exact .head _) rfl (by simp) rfl ?_)
 refine Nil.ptr (Ld.mk (by exact .head _) rfl ?_)
 exact aE.here ⟨x3,h4,rfl,rfl⟩
theorem Gg{x:Nat}(hx:x<18446744073709551616)(B:Hp):Rd Tryz.prog 286 #[.int .u64 (x:Int)] B (fun v=>∃r:Nat,wC x r∧v=.int .i64 (r:Int)):=by
 intro g
 refine CM (R:=aE _) ?_
 unfold L286
 refine Br.no ?_
 refine ag.rd .here (Lr hx B) ?_
 rintro w hw
 exact bL.mk (.refl _) hw
theorem Pb{x:Nat}(h0:0<x)(hx:x<1152921504606846976)(B:Hp):Rd Tryz.prog 300 #[.int .i64 (x:Int)] B (fun v=>∃r:Nat,0<r∧r≤2*x∧v=.int .u64 (r:Int)):=by
 intro g
 refine Cw (R:=aE _) ?_
 unfold L300
 refine bI.nat (by simp[az];omega) ?_
 refine ag.rd .here (Gg (by omega) B) ?_
 rintro w ⟨r,hr,rfl⟩
 have hr1:0<r:=by
  rcases Nat.eq_zero_or_pos r with e|e
  ·subst e;have:=hr.1;omega
  ·exact e
 have h2:2^(r-1)≤x:=by
  rcases hr.2 with e|e
  ·omega
  ·exact e
 have h3:2^r=2*2^(r-1):=by
  obtain⟨k,rfl⟩:∃k,r=k+1:=⟨r-1,by omega⟩
  rw[Nat.add_sub_cancel,Nat.pow_succ];omega
 refine ae.o5 (a:=1) ?_
 have e:1<<<r%18446744073709551616=2^r:=by
  rw[Nat.shiftLeft_eq,Nat.one_mul]
  exact Nat.mod_eq_of_lt (by omega)
 rw[e]
 exact bL.mk (.refl _) ⟨2^r,Nat.two_pow_pos r,by omega,rfl⟩
theorem Uc(h:DT v l0 C){a b:Nat}(hab:a<b)(hb:b≤l0.length)(bD:l0.length<1152921504606846976):Fc Tryz.prog 291 #[v,.int .i64 (a:Int),.int .i64 (b:Int)] C (SQ v l0):=by
 intro g
 refine CI (R:=aE _) ?_
 unfold L291
 refine ae.bC (by simp[az];omega) (by omega) ?_
 refine ae.qz (b:=8) (Br.dec (fun h8=>?_) (fun _=>aE.here ⟨rfl,h⟩))
 refine bI.nat (by simp[az];omega) ?_
 intro b4 _
 refine St.one (by exact .head _) rfl (by simp) rfl ?_
 refine ag.rd (.cons .here) (Pb (by omega) (by omega) C) ?_
 rintro w ⟨m,hm0,hm,rfl⟩
 refine ae.u3 (b:=4) (by simp[az];omega) (by omega) ?_
 refine ae.g6 (b:=2) (by simp[az];omega) ?_
 refine ae.aH (by simp[az];omega) ?_
 refine ae.bC (b:=1) (by simp[az];omega) (by omega) ?_
 refine⟨fun vs H=>∃(i x:Nat) (C':Hp),vs=[.int .i64 (i:Int)]∧x<18446744073709551616∧H=(b4,.cells #[.int .u64 (x:Int)] 373 (0,0))::C'∧DT v l0 C',fun vs _=>b-bg vs 0,
  JE.mk ⟨_,b-a,C,rfl,by omega,rfl,h⟩,?_⟩
 rintro w H ⟨i,x,C',hw,hx,rfl,hd⟩ gs
 simp only[List.cons.injEq,and_true]at hw
 subst hw
 refine ae.u3 (b:=4) (by simp[az];omega) (by omega) ?_
 refine ae.g6 (b:=2) (by simp[az];omega) ?_
 refine ae.aH (by simp[az];omega) ?_
 refine ae.aH (b:=1) (by simp[az];omega) ?_
 refine ae.y4 (Br.dec (fun hle=>?_) (fun _=>aE.mk .tail ⟨rfl,hd⟩))
 refine ag.fn (.left (A:=C')) (JQ b4 x hx) ?_
 rintro w H' ⟨y,hy,rfl,rfl⟩
 refine ae.bC (b:=1) (by simp[az];omega) (by omega) ?_
 refine ae.jg (by simp[az];omega) (by simp[az];omega) ?_
 have hand:y&&& (m-1)<m:=by have:=Nat.and_le_right (n:=y) (m:=m-1);omega
 generalize y&&& (m-1)=z at hand
 refine bI.nat (by simp[az];omega) ?_
 intro Ac ab4
 have go:∀o:Nat,o<b-a→Ac [.int .i64 (o:Int)] ([(b4,Obj.cells #[.int .u64 (y:Int)] 373 (0,0))]++C'):=fun o ho=>by
  refine ab4 _ _ fun gs=>?_
  refine DR.self ?_
  refine ae.aH (by simp[az];omega) ?_
  refine ae.aH (by simp[az];omega) ?_
  refine hd.swap (.cons .here) (by omega) (by omega) fun C1 Mi=>?_
  refine ae.aH (b:=1) (by simp[az];omega) ?_
  exact ay.mk ⟨i+1,y,C1,rfl,hy,rfl,Mi⟩ (by simp[bg];omega)
 refine ae.qz (Br.dec (fun hge=>?_) (fun hlt=>JE.mk (go z (by omega))))
 refine ae.bC (by simp[az];omega) (by omega) ?_
 exact JE.mk (go _ (by omega))
def OQ(b:Nat)(C:Hp)(i j:Nat):Value→Hp→Prop:=fun r H=>(r=.tuple #[.int .i64 (i:Int),.int .i64 (j:Int)]∨r=.tuple #[.int .i64 (j:Int),.int .i64 (i:Int)])∧∃z:Int,H=(b,.cells #[.int .i64 z] 3 (0,0))::C
theorem wU(h:DT v l0 C){b:Nat}{z:Int}{i j:Nat}(hi:i<l0.length)(hj:j<l0.length):
  Fc Tryz.prog 305 #[v,.int .i64 (i:Int),.int .i64 (j:Int),ptr b] ((b,.cells #[.int .i64 z] 3 (0,0))::C) (OQ b C i j):=by
 intro g
 refine Cp (R:=aE _) ?_
 unfold L305
 refine DR.self ?_
 refine h.ld (fun _ h=>.tail _ h) hj fun x=>?_
 refine h.ld (fun _ h=>.tail _ h) hi fun y=>?_
 refine ag.rd .here (eM x y _) ?_
 rintro w rfl
 refine Br.mk (fun _=>?_) (fun _=>aE.here ⟨.inl rfl,z,rfl⟩)
 refine Nil.ptr (Ld.mk (by exact .head _) rfl ?_)
 refine ae.add ?_
 refine Nil.ptr (St.one (by exact .head _) rfl (by simp) rfl ?_)
 exact aE.here ⟨.inr rfl,_,rfl⟩
def MQ(b:Nat)(C:Hp)(p:Nat→Prop):Value→Hp→Prop:=fun r H=>(∃m:Nat,r=.int .i64 (m:Int)∧p m)∧∃z:Int,H=(b,.cells #[.int .i64 z] 3 (0,0))::C
theorem Ll(h:DT v l0 C){b:Nat}{z:Int}{i j k:Nat}(hi:i<l0.length)(hj:j<l0.length)(hk:k<l0.length):
  Fc Tryz.prog 303 #[v,.int .i64 (i:Int),.int .i64 (j:Int),.int .i64 (k:Int),ptr b] ((b,.cells #[.int .i64 z] 3 (0,0))::C) (MQ b C fun m=>m=i∨m=j∨m=k):=by
 intro g
 refine Cr (R:=aE _) ?_
 unfold L303
 refine ag.fn .here (wU h hi hj) ?_
 rintro w H ⟨hw,z1,rfl⟩
 obtain⟨i1,j1,rfl,hij⟩:∃i1 j1:Nat,w=.tuple #[.int .i64 (i1:Int),.int .i64 (j1:Int)]∧((i1=i∧j1=j)∨(i1=j∧j1=i)):=by
  rcases hw with rfl|rfl
  ·exact⟨i,j,rfl,.inl ⟨rfl,rfl⟩⟩
  ·exact⟨j,i,rfl,.inr ⟨rfl,rfl⟩⟩
 refine Ext.mk rfl (Ext.mk rfl ?_)
 refine ag.fn .here (wU h (i:=j1) (j:=k) (by omega) hk) ?_
 rintro w H ⟨hw,z2,rfl⟩
 obtain⟨j2,k2,rfl,Rx⟩:∃j2 k2:Nat,w=.tuple #[.int .i64 (j2:Int),.int .i64 (k2:Int)]∧((j2=j1∧k2=k)∨(j2=k∧k2=j1)):=by
  rcases hw with rfl|rfl
  ·exact⟨_,_,rfl,.inl ⟨rfl,rfl⟩⟩
  ·exact⟨_,_,rfl,.inr ⟨rfl,rfl⟩⟩
 refine Ext.mk rfl (Ext.mk rfl ?_)
 refine ag.fn .here (wU h (i:=i1) (j:=j2) (by omega) (by omega)) ?_
 rintro w H ⟨hw,z3,rfl⟩
 rcases hw with rfl|rfl
 ·exact Ext.mk rfl (Ext.mk rfl (aE.here ⟨⟨_,rfl,by omega⟩,_,rfl⟩))
 ·exact Ext.mk rfl (Ext.mk rfl (aE.here ⟨⟨_,rfl,by omega⟩,_,rfl⟩))
theorem wX(h:DT v l0 C){b:Nat}{z:Int}{i:Nat}(h0:0<i)(hi:i+1<l0.length)(bD:l0.length<1152921504606846976):
  Fc Tryz.prog 302 #[v,.int .i64 (i:Int),ptr b] ((b,.cells #[.int .i64 z] 3 (0,0))::C) (MQ b C fun m=>i≤m+1∧m≤i+1):=by
 intro g
 refine Cu (R:=aE _) ?_
 unfold L302
 refine ae.bC (b:=1) (by simp[az];omega) (by omega) ?_
 refine ae.aH (b:=1) (by simp[az];omega) ?_
 refine ag.fn .here (Ll h (by omega) (by omega) hi) ?_
 rintro w H ⟨⟨m,rfl,hm⟩,z',rfl⟩
 exact aE.here ⟨⟨m,rfl,by omega⟩,z',rfl⟩
theorem SX(h:DT v l0 C){a b:Nat}(hab:a<b)(hb:b≤l0.length)(bD:l0.length<1152921504606846976):
  Rd Tryz.prog 292 #[v,.int .i64 (a:Int),.int .i64 (b:Int)] C (fun r=>∃(p:Nat) (q:Int),r=.tuple #[.int .i64 (p:Int),.int .i64 q]∧a≤p∧p<b):=by
 intro g
 refine CG (R:=aE _) ?_
 unfold L292
 refine ae.bC (by simp[az];omega) (by omega) ?_
 intro b2 _
 refine ae.u3 (b:=4) (by simp[az];omega) (by omega) ?_
 refine ae.g6 (b:=1) (by simp[az];omega) ?_
 refine ae.aH (by simp[az];omega) ?_
 refine ae.u3 (b:=4) (by simp[az];omega) (by omega) ?_
 refine ae.g6 (b:=2) (by simp[az];omega) ?_
 refine ae.aH (by simp[az];omega) ?_
 refine ae.u3 (b:=4) (by simp[az];omega) (by omega) ?_
 refine ae.g6 (b:=3) (by simp[az];omega) ?_
 refine ae.aH (by simp[az];omega) ?_
 intro Ad ab7
 have fin:∀(p:Nat) (z:Int),a≤p→p<b→Ad [.int .i64 (p:Int)] ((b2,.cells #[.int .i64 z] 3 (0,0))::C):=fun p z uY kZ=>by
  refine ab7 _ _ fun gs=>?_
  refine Ld.mk (by exact .head _) rfl ?_
  refine ae.kJ (Br.dec (fun _=>bL.mk .tail ⟨p,_,rfl,uY,kZ⟩) (fun _=>?_))
  exact ae.kJ (Br.dec (fun _=>bL.mk .tail ⟨p,_,rfl,uY,kZ⟩) (fun _=>bL.mk .tail ⟨p,_,rfl,uY,kZ⟩))
 refine ae.qz (b:=8) (Br.dec (fun h8=>?_) (fun _=>JE.mk (fin _ _ (by omega) (by omega))))
 intro Yd ab6
 have three:∀(x y u:Nat) (z:Int),a≤x∧x<b→a≤y∧y<b→a≤u∧u<b→Yd [.int .i64 (x:Int),.int .i64 (y:Int),.int .i64 (u:Int)] ((b2,.cells #[.int .i64 z] 3 (0,0))::C):=fun x y u z hx hy hu=>by
  refine ab6 _ _ _ _ fun gs=>?_
  refine ag.fn .here (Ll h (by omega) (by omega) (by omega)) ?_
  rintro w H ⟨⟨m,rfl,hm⟩,z',rfl⟩
  exact JE.mk (fin _ _ (by omega) (by omega))
 refine ae.qz (b:=50) (Br.dec (fun h50=>?_) (fun _=>JE.mk (three _ _ _ _ (by omega) (by omega) (by omega))))
 refine ag.fn .here (wX h (by omega) (by omega) bD) ?_
 rintro w H ⟨⟨m1,rfl,FN⟩,z1,rfl⟩
 refine ag.fn .here (wX h (by omega) (by omega) bD) ?_
 rintro w H ⟨⟨m2,rfl,vQ⟩,z2,rfl⟩
 refine ag.fn .here (wX h (by omega) (by omega) bD) ?_
 rintro w H ⟨⟨m3,rfl,hm3⟩,z3,rfl⟩
 exact JE.mk (three _ _ _ _ (by omega) (by omega) (by omega))
theorem SY:∀(N:Nat) {C:Hp} (h:DT v l0 C) {a b:Nat} (hN:b-a≤N) (hab:a≤b) (hb:b≤l0.length) (bD:l0.length<1152921504606846976) (z:Int),Fc Tryz.prog 285 #[v,.int .i64 (a:Int),.int .i64 (b:Int),.int .i64 z] C (SQ v l0):=by
 intro N
 induction N with
 |zero=>
  intro C h a b hN hab hb bD z g
  refine uk (R:=aE _) ?_
  unfold L285
  refine⟨fun vs H=>vs=[.int .i64 (a:Int),.int .i64 (b:Int),.int .i64 z,.bool true,.bool true]∧H=C,fun _ _=>0,JE.mk ⟨rfl,rfl⟩,?_⟩
  rintro w1 w2 w3 w4 w5 H ⟨hw,rfl⟩ gs
  simp only[List.cons.injEq,and_true]at hw
  obtain⟨rfl,rfl,rfl,rfl,rfl⟩:=hw
  refine ae.bC (by simp[az];omega) (by omega) ?_
  refine ae.y4 (b:=12) (Br.gI (by omega) ?_)
  refine ag.fn .here (ze h hab hb bD) ?_
  rintro w C' ⟨rfl,hd⟩
  exact aE.here ⟨rfl,hd⟩
 |succ N ih=>
  intro C h a b hN hab hb bD z g
  refine uk (R:=aE _) ?_
  unfold L285
  refine⟨fun vs H=>∃(a b:Nat) (z:Int) (t1 t2:Bool),vs=[.int .i64 (a:Int),.int .i64 (b:Int),.int .i64 z,.bool t1,.bool t2]∧b-a≤N+1∧a≤b∧b≤l0.length∧DT v l0 H,fun vs _=>bg vs 1-bg vs 0,JE.mk ⟨a,b,z,true,true,rfl,hN,hab,hb,h⟩,?_⟩
  clear h hN hab hb
  rintro w1 w2 w3 w4 w5 H ⟨a,b,z,t1,t2,hw,hN,hab,hb,h⟩ gs
  simp only[List.cons.injEq,and_true]at hw
  obtain⟨rfl,rfl,rfl,rfl,rfl⟩:=hw
  refine ae.bC (by simp[az];omega) (by omega) ?_
  refine ae.y4 (b:=12) (Br.dec (fun T5=>?_) (fun T5=>?_))
  ·refine ag.fn .here (ze h hab hb bD) ?_
   rintro w C' ⟨rfl,hd⟩
   exact aE.here ⟨rfl,hd⟩
  refine ae.kJ (Br.dec (fun _=>?_) (fun _=>?_))
  ·refine ag.fn .here (LO h (by omega) hb bD) ?_
   rintro w C' ⟨rfl,hd⟩
   exact aE.here ⟨rfl,hd⟩
  intro uD BS
  have k17:∀(z1:Int) H1,DT v l0 H1→uD [.int .i64 z1] H1:=fun z1 H1 h1=>by
   refine BS _ _ fun gs=>?_
   refine ag.rd .here (SX h1 (a:=a) (b:=b) (by omega) hb bD) ?_
   rintro w ⟨p,q,rfl,uY,kZ⟩
   refine Ext.mk rfl (Ext.mk rfl ?_)
   intro On ab5
   have k25:∀(p:Nat) (q:Int) H2,a≤p→p<b→DT v l0 H2→On [.int .i64 (p:Int),.int .i64 q] H2:=fun p q H2 uY kZ h2=>by
    refine ab5 _ _ _ fun gs=>?_
    intro Yc ab3
    have k30:∀H3,DT v l0 H3→Yc [] H3:=fun H3 h3=>by
     refine ab3 _ fun gs=>?_
     intro JM P9
     have k33:∀(t:Bool),JM [.bool t] H3:=fun t=>by
      refine P9 _ _ fun gs=>?_
      refine Br.mk (fun _=>?_) (fun _=>?_)
      ·refine ag.fn .here (G9 h3 ⟨uY,kZ⟩ hb bD) ?_
       rintro w C' ⟨⟨m,rfl,FN,vQ⟩,hd⟩
       exact ay.mk ⟨m,b,z1,t1,t2,rfl,by omega,by omega,hb,hd⟩ (by simp[bg];omega)
      ·refine ag.fn .here (O9 h3 ⟨uY,kZ⟩ hb bD) ?_
       rintro w C' ⟨⟨m,t,rfl,FN,vQ⟩,hd⟩
       refine Ext.mk rfl (Ext.mk rfl ?_)
       refine ae.bC (by simp[az];omega) (by omega) ?_
       refine ae.bC (by simp[az];omega) (by omega) ?_
       refine ae.u3 (b:=8) (by simp[az];omega) (by omega) ?_
       refine ae.dL (Br.dec (fun _=>?_) (fun _=>?_))
       ·refine ae.qz ?_
        refine ag.fn .here (ih hd (a:=a) (b:=m) (by omega) (by omega) (by omega) bD z1) ?_
        rintro w C' ⟨rfl,ei⟩
        refine ae.aH (b:=1) (by simp[az];omega) ?_
        exact ay.mk ⟨m+1,b,z1,_,t,rfl,by omega,by omega,hb,ei⟩ (by simp[bg];omega)
       ·refine ae.qz ?_
        refine ae.aH (b:=1) (by simp[az];omega) ?_
        refine ag.fn .here (ih hd (a:=m+1) (b:=b) (by omega) (by omega) (by omega) bD z1) ?_
        rintro w C' ⟨rfl,ei⟩
        exact ay.mk ⟨a,m,z1,_,t,rfl,by omega,by omega,by omega,ei⟩ (by simp[bg];omega)
     refine DR.self ?_
     refine ae.lQ (b:=0) (Br.dec (fun h0=>?_) (fun _=>JE.mk (k33 false)))
     refine ae.bC (b:=1) (by simp[az];omega) (by omega) ?_
     refine h3.ld (fun _ h=>h) (by omega) fun x=>?_
     refine h3.ld (fun _ h=>h) (by omega) fun y=>?_
     intro F
     refine ag.rd .here (eM x y _) ?_
     rintro w rfl
     exact Un.not (aD.mk (JE.mk (k33 _)))
    refine cv.and t2 (fun _=>⟨rfl,rfl⟩) rfl fun gs=>?_
    refine cv.and (decide (q=1)) (fun _=>ae.kJ ⟨rfl,rfl⟩) rfl fun gs=>?_
    refine Br.mk (fun _=>?_) (fun _=>JE.mk (k30 _ h2))
    refine ag.fn .here (O6 h2 (by omega) hb bD) ?_
    rintro w C' ⟨⟨t,rfl⟩,hd⟩
    exact Br.mk (fun _=>aE.here ⟨rfl,hd⟩) (fun _=>JE.mk (k30 _ hd))
   refine ae.kJ (Br.dec (fun _=>?_) (fun _=>JE.mk (k25 p q _ uY kZ h1)))
   refine ag.fn .here (SS h1 (a:=a) (b:=b) (by omega) hb bD) ?_
   rintro w C' ⟨rfl,hd⟩
   refine ae.bC (b:=1) (by simp[az];omega) (by omega) ?_
   refine ae.bC (by simp[az];omega) (by omega) ?_
   refine ae.bC (by simp[az];omega) (by omega) ?_
   exact JE.mk (k25 _ _ _ (by omega) (by omega) hd)
  refine Un.not ?_
  refine Br.mk (fun _=>?_) (fun _=>JE.mk (k17 _ _ h))
  refine ag.fn .here (Uc h (a:=a) (b:=b) (by omega) hb bD) ?_
  rintro w C' ⟨rfl,hd⟩
  exact ae.sub (JE.mk (k17 _ _ hd))
theorem OY{l:List Int}(h:aQ 77 .u32 v l C)(bD:l.length<1152921504606846976):Fc Tryz.prog 274 #[v] C (fun r C'=>r=.tuple #[]∧∃l',l'.Perm l∧aQ 77 .u32 v l' C'):=by
 intro g
 refine CN (R:=aE _) ?_
 unfold L274
 refine h.aS ?_
 refine bI.nat (by simp[az];omega) ?_
 refine ag.rd .here (Gg (by omega) C) ?_
 rintro w ⟨r,_,rfl⟩
 refine ag.fn .here (SY l.length h.dt (a:=0) (b:=l.length) (by omega) (by omega) (Nat.le_refl _) bD _) ?_
 rintro w C' ⟨rfl,hd⟩
 exact aE.here ⟨rfl,hd⟩
end
end Go.Proofs
namespace Go.Sx
open Go
section
variable {P:Program} {g:Gh} {F:Fence} {n:Nat} {ops:Array Oper} {Q:Exit→Act→World→Prop} {rest:List Oper} {o:Oper} {a:Act} {fr:Fr} {w:World} {H:Hp}
abbrev Ah(ds:List Deferred)(n:Nat)(a:Act)(fr:Fr):Prop:=cA ds n a fr
variable {ds:List Deferred}
theorem Ah.put(h:Ah ds n a fr){d:Option Nat}(hd:er n d=true)(v:Value):Ah ds n (a.put d v) (ct fr d v):=cA.put h hd v
theorem iW{v0:Value}(hF:∀f,F.fn f)(hg:o.guard=none)(gW:∀c,o.op≠.defer c)(hd:er n o.dst=true)(ha:Ah ds n a fr)(hw:Own g H w)(h:Ar P g o (ev fr) H (· =v0))
 (k:∀a',Ah ds n a' (ct fr o.dst v0)→wpListIn F 0 P ops Q rest a' w):wpListIn F 0 P ops Q (o::rest) a w:=by
 refine wpListIn_plain hg fun K hK=>⟨fun f _=>hF f,?_⟩
 rw[Oper.semAt_eq _ _ _ gW,ha.eval]
 obtain⟨v,hv,hr,_⟩:=ng h
 rw[hr w hw]
 subst hv
 exact hK _ _ (k _ (ha.put hd _))
theorem Fp{s:Sem Value}{K:Value→Hp→Prop}(hF:∀f,F.fn f)(hg:o.guard=none)(gW:∀c,o.op≠.defer c)(hd:er n o.dst=true)(ha:Ah ds n a fr)(he:execOp (ev fr) o=(do pure (.value (←s))))
 (h:∃v w' H',s.run P w=.ok v w'∧Own g H' w'∧K v H')
 (k:∀v H' w' a',K v H'→Own g H' w'→Ah ds n a' (ct fr o.dst v)→wpListIn F 0 P ops Q rest a' w'):wpListIn F 0 P ops Q (o::rest) a w:=by
 refine wpListIn_plain hg fun K hK=>⟨fun f _=>hF f,?_⟩
 rw[Oper.semAt_eq _ _ _ gW,ha.eval,he]
 obtain⟨v,w',H',hr,ho,hk⟩:=h
 simp only[Sem.run_bind,hr,Result.andThen_ok,Sem.run_pure]
 exact hK _ _ (k v H' w' _ hk ho (ha.put hd _))
theorem KF{s:Sem Value}{K:Value→Hp→Prop}(hF:∀f,F.fn f)(hg:o.guard=none)(gW:∀c,o.op≠.defer c)(hd:er n o.dst=true)(ha:Ah ds n a fr)(hw:Own g H w)(he:execOp (ev fr) o=(do pure (.value (←s))))
 (h:NY P g o (ev fr) H K (fun _ _=>False))
 (k:∀v H' w' a',K v H'→Own g H' w'→Ah ds n a' (ct fr o.dst v)→wpListIn F 0 P ops Q rest a' w'):wpListIn F 0 P ops Q (o::rest) a w:=by
 have h1:=s6 (nt fr) h w hw
 rw[he]at h1
 refine Fp (g:=g) (K:=K) hF hg gW hd ha he ?_ k
 cases hs:s.run P w with
 |ok v w'=>
  simp only[Sem.run_bind,hs,Result.andThen_ok,Sem.run_pure,mW]at h1
  obtain⟨H',ho,hk⟩:=h1
  exact⟨v,w',H',rfl,ho,hk⟩
 |halt x w'=>
  simp only[Sem.run_bind,hs,Result.andThen]at h1
  cases x<;>simp only[mW]at h1
  obtain⟨_,_,hk⟩:=h1;exact hk.elim
theorem VD{s:Sem Unit}{K:Value→Hp→Prop}(hF:∀f,F.fn f)(hg:o.guard=none)(gW:∀c,o.op≠.defer c)(hd:er n o.dst=true)(ha:Ah ds n a fr)(hw:Own g H w)(he:execOp (ev fr) o=(do s;pure .skip))
 (h:NY P g o (ev fr) H K (fun _ _=>False))
 (k:∀H' w' a',K undef H'→Own g H' w'→Ah ds n a' (ct fr o.dst undef)→wpListIn F 0 P ops Q rest a' w'):wpListIn F 0 P ops Q (o::rest) a w:=by
 have h1:=s6 (nt fr) h w hw
 rw[he]at h1
 refine wpListIn_plain hg fun K hK=>⟨fun f _=>hF f,?_⟩
 rw[Oper.semAt_eq _ _ _ gW,ha.eval,he]
 cases hs:s.run P w with
 |ok v w'=>
  simp only[Sem.run_bind,hs,Result.andThen_ok,Sem.run_pure,mW]at h1⊢
  obtain⟨H',ho,hk⟩:=h1
  exact hK _ _ (k H' w' _ hk ho (ha.put hd _))
 |halt x w'=>
  simp only[Sem.run_bind,hs,Result.andThen]at h1
  cases x<;>simp only[mW]at h1
  obtain⟨_,_,hk⟩:=h1;exact hk.elim
theorem uc{m:Nat}{args:List Value}(hl:args.length≤m):Ah [] m {tmps:=args.toArray++Array.replicate (m-args.toArray.size) undef,defers:=[]} (jc args 0):=by
 refine⟨rfl,by simp;omega,fun s=>?_⟩
 rw[kX,Array.getD_eq_getD_getElem?,Array.getElem?_append]
 simp only[List.size_toArray,Nat.not_lt_zero,if_false,Nat.sub_zero]
 by_cases hs:s<args.length
 ·simp[hs,List.getD]
 ·rw[if_neg hs,Array.getElem?_replicate]
  have:args.getD s undef=undef:=by simp[List.getD,List.getElem?_eq_none (Nat.le_of_not_lt hs)]
  rw[this]
  split<;>rfl
theorem Own.putObj{g:Gh}{H H':Hp}{w:World}{b:Nat}{o o':Obj}(h:Own g H w)(u:cK b o o' H H'):Own g H' (w.putObj b o'):=by
 have hb:=h.lt u.mem
 exact h.ct u rfl rfl rfl (World.putObj_heap_same hb) fun c hc=>World.putObj_heap_other hc
def Gt{α:Type}(P:Program)(f:FuncId)(cap:Array Value)(B:Hp)(enc:α→Value)(N:Nat)(S:List α→Prop):Prop:=
 ∀(g:Gh) (l:Nat) (G:List α→Hp→Prop),
  (∀ss x A X W,G ss A→ss.length<N→Own g (A++X) W→YieldAt Fence.wide 0 P l #[enc x] W (fun e W'=>e=.returned (.bool true)∧∃A',G (ss++[x]) A'∧Own g (A'++X) W'))→
  ∀A W,G [] A→Own g (A++B) W→CallsIn Fence.wide 0 P f (#[.func (.yield l) #[] #[]]++cap) W (fun e W'=>(∃v,e=.returned v)∧∃ss A',S ss∧G ss A'∧Own g (A'++B) W')
open Classical in
noncomputable def py(p:Nat→Prop):Nat:=if h:∃k,p k then Classical.choose (j7 h)else 0
theorem Bk{p:Nat→Prop}{k:Nat}(h:p k):py p≤k:=by
 unfold py
 rw[dif_pos ⟨k,h⟩]
 exact(Classical.choose_spec (j7 ⟨k,h⟩)).2 k h
theorem xd{p:Nat→Prop}(h:∃k,p k):p (py p):=by
 unfold py
 rw[dif_pos h]
 exact(Classical.choose_spec (j7 h)).1
theorem AD{c:Code}(J:Nat→Act→World→Prop){k:Nat}(h0:J k a w)
 (round:∀k a w,J k a w→c.wpIn F 0 P (Exit.then (fun a' w'=>∃k',k'<k∧J k' a' w') Q) a w):(Code.loop c).wpIn F 0 P Q a w:=by
 refine wpIn_loop (fun a w=>∃k,J k a w) (fun a w=>py fun k=>J k a w) ⟨k,h0⟩ fun a w h=>?_
 refine Code.wpIn_mono (fun e a' w' hq=>?_) (round _ a w (xd h))
 cases e with
 |normal=>
  obtain⟨k',hlt,hj⟩:=hq
  exact⟨⟨k',hj⟩,Nat.lt_of_le_of_lt (Bk hj) hlt⟩
 |_=>exact hq
end
end Go.Sx
set_option maxRecDepth 100000
namespace Go.Proofs
open Go Go.Sx
open bc
section
variable {es:Array MapEntry} {ck b:Nat} {m:List (Nd×Nat)}
theorem GG(B:Hp):Fc Tryz.prog 251 #[.map (some b)] B
  (fun v H=>∃bm,v=.func (.func 275) #[] #[ptr bm]∧H=(bm,.cells #[.map (some b)] 266 (0,0))::B):=by
 intro g
 refine Dc (R:=aE _) ?_
 unfold L251
 intro b1 _
 exact aE.here ⟨b1,rfl,rfl⟩
noncomputable abbrev VF:Func:=Tryz.f275
def VAt(g:Gh)(bi b:Nat)(l:Nat)(es:Array MapEntry)(ck:Nat)(m:List (Nd×Nat))(G:List Nat→Hp→Prop)(B:Hp)(k:Nat)(a:Act)(w:World):Prop:=
 ∃(fr:Fr) (ss:List Nat) (A:Hp) (seen:Array Nat),Ah [] 15 a fr∧fr 0=.func (.yield l) #[] #[]∧fr 6=ptr bi∧G ss A∧Own g (A++((bi,.mapIter (some b) ck seen ck)::B)) w∧
  (ss++(dH es m seen).map Prod.snd).Perm (m.map Prod.snd)∧k=(dH es m seen).length
theorem AJ{bm:Nat}{fz:Nat×Nat}(h:bq nK Vp es ck m):Gt Tryz.prog 275 #[ptr bm] [(bm,.cells #[.map (some b)] 266 fz),(b,.map es ck)] u32 m.length
  (fun ss=>ss.Perm (m.map Prod.snd)):=by
 intro g l G hY A W h0 hW
 have hF:∀f,Fence.wide.fn f:=fun _=>trivial
 refine callsIn_of_wp Tryz.func275 rfl trivial ?_
 have ha:=uc (m:=15) (args:=[.func (.yield l) #[] #[],ptr bm]) (by simp)
 refine wpIn_seq ?_
 refine wpIn_region_lit ?_
 obtain⟨B,hB⟩:∃B,B=[(bm,Obj.cells #[.map (some b)] 266 fz),(b,.map es ck)]:=⟨_,rfl⟩
 rw[←hB]at hW
 have FN:(bm,Obj.cells #[.map (some b)] 266 fz)∈A++B:=by rw[hB];exact List.mem_append_right _ (.head _)
 have vQ:(b,Obj.map es ck)∈A++B:=by rw[hB];exact List.mem_append_right _ (.tail _ (.head _))
 have hmB:∀{X:Hp},(b,Obj.map es ck)∈X++B:=by intro X;rw[hB];exact List.mem_append_right _ (.tail _ (.head _))
 rw[←hB]
 have e0:Ar Tryz.prog g (gF VF 0 0) (ev (jc [.func (.yield l) #[] #[],ptr bm] 0)) (A++B) (fun x=>x=.map (some b))=Ld (A++B) (ptr bm) (fun x=>x=.map (some b)):=by kernel_rfl
 refine iW (g:=g) (n:=15) (v0:=.map (some b)) hF rfl (by intro c h;cases h) rfl ha hW (e0.mpr (Ld.mk FN rfl rfl)) fun a1 BQ=>?_
 refine Fp (g:=g) (n:=15) (s:=Instr.range 266 (.map (some b))) (K:=fun v H=>∃bi,v=ptr bi∧H=(bi,.mapIter (some b) ck #[] ck)::(A++B)) hF rfl (by intro c h;cases h) rfl BQ rfl
  (XQ.run (.inr ⟨b,es,ck,rfl,vQ,fun bi _=>⟨bi,rfl,rfl⟩⟩) hW (t:=266) (kt:=161) (e:=77) (by kernel_rfl)) fun v H' w1 a2 hv jr zq=>?_
 obtain⟨bi,rfl,rfl⟩:=hv
 refine wpListIn_nil ?_
 have mr:Own g (A++((bi,.mapIter (some b) ck #[] ck)::B)) w1:=jr.perm (List.perm_middle).symm
 clear jr BQ ha hW FN vQ
 refine wpIn_block ?_
 refine AD (VAt g bi b l es ck m G B) (k:=(dH es m #[]).length) ⟨_,[],A,#[],zq,rfl,rfl,h0,mr,by rw[sE h];exact .refl _,rfl⟩ ?_
 clear zq mr h0 e0 A
 rintro k a w ⟨fr,ss,A,seen,ha,f0,f6,hG,hw,dM,hk⟩
 refine wpIn_seq ?_
 refine wpIn_region_lit ?_
 have e6:ev fr (.tmp 6)=ptr bi:=f6
 refine Fp (g:=g) (n:=15) (s:=Instr.next (ptr bi) false 0)
  (K:=fun v H=>(dH es m seen=[]∧v=.tuple #[.bool false]∧H=A++((bi,.mapIter (some b) ck seen ck)::B))∨
   ∃(e:MapEntry) (x:Nd×Nat) (seen':Array Nat),v=.tuple #[.bool true,e.key,e.val]∧e.val=u32 x.2∧(dH es m seen).Perm (x::dH es m seen')∧seen'.back?=some e.born∧es.find? (·.born==e.born)=some e∧
    H=A++((bi,.mapIter (some b) ck seen' ck)::B)) hF rfl (by intro c h;cases h) rfl ha ?_
  (Vb.run (h.next (bi:=bi) (bm:=b) (seen:=seen) (H:=A++((bi,.mapIter (some b) ck seen ck)::B)) (List.mem_append_right _ (.tail _ (by rw[hB];exact .tail _ (.head _)))) (List.mem_append_right _ (.head _))
   (fun e x seen' he hk hv hp hb hf=>⟨_,(cK.head _).bP A,.inr ⟨e,x,seen',rfl,hv,hp,hb,hf,rfl⟩⟩) (fun hu=>.inl ⟨hu,rfl,rfl⟩)) hw) fun v H' w1 a1 hv jr BQ=>?_
 ·rw[e6.symm];rfl
 rcases hv with⟨hu,rfl,rfl⟩|⟨e,x,seen',rfl,hev,hp,U1,WH,rfl⟩
 ·refine iW (g:=g) (n:=15) (v0:=.bool false) hF rfl (by intro c h;cases h) rfl BQ jr ⟨_,_,rfl,rfl,rfl⟩ fun a2 zq=>?_
  refine wpListIn_nil ?_
  refine wpIn_seq ?_
  refine wpIn_cond_false (by rw[zq.eval];rfl) ?_
  refine wpIn_exit ?_
  simp only[Exit.then,Exit.inBlock,if_true,bodyPost]
  refine⟨zq.defers,_,results_none rfl _ _ _,⟨_,rfl⟩,ss,A,?_,hG,(jr.perm List.perm_middle).tail⟩
  rw[hu,List.map_nil,List.append_nil]at dM
  exact dM
 ·refine iW (g:=g) (n:=15) (v0:=.bool true) hF rfl (by intro c h;cases h) rfl BQ jr ⟨_,_,rfl,rfl,rfl⟩ fun a2 zq=>?_
  refine wpListIn_nil ?_
  refine wpIn_seq ?_
  refine wpIn_cond_true (by rw[zq.eval];rfl) ?_
  refine wpIn_skip ?_
  refine wpIn_block ?_
  refine wpIn_seq ?_
  refine wpIn_region_lit ?_
  refine Fp (g:=g) (n:=15) (s:=Instr.entry (ptr bi)) (K:=fun v H=>v=.tuple #[e.key,e.val]∧H=A++((bi,.mapIter (some b) ck seen' ck)::B)) hF rfl (by intro c h;cases h) rfl zq ?_ ?_ fun v H' w2 a3 hv mr HR=>?_
  ·rw[e6.symm];rfl
  ·obtain⟨v,hr,hv⟩:=NM.run (P:=Tryz.prog) (k:=fun v=>v=.tuple #[e.key,e.val]) ⟨bi,b,ck,seen',e.born,ck,es,e,rfl,List.mem_append_right _ (.head _),U1,List.mem_append_right _ (.tail _ (by rw[hB];exact .tail _ (.head _))),WH,rfl⟩ jr
   exact⟨v,w1,_,hr,jr,hv,rfl⟩
  obtain⟨rfl,rfl⟩:=hv
  refine iW (g:=g) (n:=15) (v0:=u32 x.2) hF rfl (by intro c h;cases h) rfl HR mr ⟨_,_,rfl,rfl,hev⟩ fun a4 P4=>?_
  refine iW (g:=g) (n:=15) (v0:=u32 x.2) hF rfl (by intro c h;cases h) rfl P4 mr (show u32 x.2=u32 x.2 from rfl) fun a5 P3=>?_
  refine wpListIn_nil ?_
  refine wpIn_seq ?_
  refine wpIn_region_lit ?_
  refine iW (g:=g) (n:=15) (v0:=.func (.yield l) #[] #[]) hF rfl (by intro c h;cases h) rfl P3 mr f0 fun a6 P2=>?_
  refine iW (g:=g) (n:=15) (v0:=u32 x.2) hF rfl (by intro c h;cases h) rfl P2 mr (show u32 x.2=u32 x.2 from rfl) fun a7 U4=>?_
  have hlen:(dH es m seen).length=(dH es m seen').length+1:=by rw[hp.length_eq];rfl
  have hlt:ss.length<m.length:=by
   have:=dM.length_eq
   simp only[List.length_append,List.length_map]at this⊢
   omega
  obtain⟨fn,tmps,assign,body,hy,hR⟩:=hY _ x.2 A _ w2 hG hlt mr
  refine wpListIn_plain rfl fun K hK=>⟨fun _ _=>trivial,?_⟩
  rw[Oper.semAt_eq _ _ _ (by intro c h;cases h),U4.eval]
  have hex:∀F7:Fr,F7=ct (ct (ct (ct (ct (ct (ct fr (some 7) (.tuple #[.bool true,e.key,e.val])) (some 8) (.bool true)) (some 9) (.tuple #[e.key,e.val])) (some 10) (u32 x.2)) (some 4) (u32 x.2)) (some 11) (.func (.yield l) #[] #[])) (some 12) (u32 x.2)→(execOp (ev F7) (gF VF 3 2)).run Tryz.prog w2=.ok (.round l fn tmps assign body) w2:=fun F7 hF7=>by
   have v11:ev F7 (.tmp 11)=.func (.yield l) #[] #[]:=by rw[hF7];rfl
   have aZ:ev F7 (.tmp 12)=u32 x.2:=by rw[hF7];rfl
   have e11:execOp (ev F7) (gF VF 3 2)=(do let d ←resolve (ev F7) {callee:=.value (.tmp 11),args:=#[.tmp 12],argTypes:=#[77]} 4;invoke d.target d.args):=rfl
   rw[e11]
   simp[resolve,Deferred.ofValue,v11,aZ,invoke,go_sem,hy]
  refine(congrArg (Oper.uponIn Fence.wide 0 Tryz.prog (gF VF 3 2) a7 K _) (hex _ rfl)).mpr ⟨fun h=>(by cases h),hR.mono ?_⟩
  rintro e' w3 ⟨rfl,A',hG',Tp⟩
  refine hK _ _ ?_
  have ha8:=U4.put (d:=some 13) rfl (.bool true)
  refine iW (g:=g) (n:=15) (v0:=.bool false) hF rfl (by intro c h;cases h) rfl ha8 Tp ⟨_,rfl,rfl⟩ fun a9 ha9=>?_
  refine wpListIn_nil ?_
  refine wpIn_cond_false (by rw[ha9.eval];rfl) ?_
  refine wpIn_skip ?_
  refine⟨(dH es m seen').length,by omega,_,ss++[x.2],A',seen',ha9,f0,f6,hG',Tp,?_,rfl⟩
  rw[List.append_assoc]
  exact((hp.map Prod.snd).append_left ss).symm.trans dM
end
end Go.Proofs
set_option maxRecDepth 100000
namespace Go.Proofs
open Go Go.Sx
open bc
section
noncomputable abbrev AF:Func:=Tryz.f284
variable {f:FuncId} {cap:Array Value} {B:Hp} {N:Nat} {S:List Nat→Prop}
noncomputable def di:Code:=match AF.body with|some (.seq _ (.seq (.seq _ (.block _ (.rangeFunc _ _ c _))) _))=>c|_=>.skip
noncomputable def fx:Code:=match AF.body with|some (.seq _ (.seq (.seq _ (.block _ (.rangeFunc _ _ _ c))) _))=>c|_=>.skip
noncomputable def QB(i:Nat):Oper:=match fx with| .block _ (.region _ ops _)=>(match ops[i]? with|some o=>o|none=>default)|_=>default
def kA(fn:FuncId)(tmps:Array Value)(assign body:Code)(D:Nat):Loop:={state:=.ready,pending:=none,fn,tmps,params:=#[7],assign,body,defers:=D}
def APG(l D bs:Nat)(fn:FuncId)(tmps:Array Value)(assign body:Code)(ss:List Nat)(A:Hp):Prop:=
 ∃v C',A=(l,.loop (kA fn tmps assign body D))::(D,.deferred (some []))::(bs,.cells #[v] 27 (0,0))::C'∧aQ 77 .u32 v (iw ss) C'
theorem Nm{g:Gh}{l D bs:Nat}{fn:FuncId}{tmps:Array Value}{fr:Fr}(hsz:tmps.size=13)(gS:∀s,tmps.getD s undef=fr s)(f2:fr 2=ptr bs){ss:List Nat}{x:Nat}{A X:Hp}{W:World}
 (hG:APG l D bs fn tmps di fx ss A)(hl:ss.length<1099511627776)(hW:Own g (A++X) W):
  YieldAt Fence.wide 0 Tryz.prog l #[u32 x] W (fun e W'=>e=.returned (.bool true)∧∃A',APG l D bs fn tmps di fx (ss++[x]) A'∧Own g (A'++X) W'):=by
 obtain⟨v,C',rfl,ho⟩:=hG
 have hF:∀f,(Fence.wide.inRound l).fn f:=fun _=>trivial
 have hL:W.heap[l]? =some (.loop (kA fn tmps di fx D)):=hW.has _ (.head _)
 refine⟨fn,_,di,fx,run_yield hL rfl,roundIn_of_wpIn trivial ?_⟩
 have ha:Ah [] 13 {tmps:=tmps.setIfInBounds 7 (u32 x),defers:=[]} (ct fr (some 7) (u32 x)):=(Ah.put (a:={tmps:=tmps,defers:=[]}) (d:=some 7) ⟨rfl,hsz,gS⟩ rfl (u32 x))
 have ha:Ah [] 13 {tmps:=(#[7].zip #[u32 x]).foldl (fun tmps (t,a)=>tmps.setIfInBounds t a) tmps,defers:=[]} (ct fr (some 7) (u32 x)):=by simpa using ha
 change Code.wpIn _ 0 Tryz.prog (.region _ #[_] false) _ _ _
 refine wpIn_region_lit ?_
 refine iW (g:=g) (n:=13) (v0:=u32 x) hF rfl (by intro c h;cases h) rfl ha hW rfl fun a1 BQ=>?_
 refine wpListIn_nil ?_
 have hbr:=run_beginRound (P:=Tryz.prog) hL rfl
 refine⟨_,hbr,?_⟩
 have RN:=hW.putObj (o':=.loop {kA fn tmps di fx D with state:=.busy}) (.head _)
 change Code.wpIn _ 0 Tryz.prog (.block _ (.region _ #[_,_,_,_,_] false)) _ _ _
 refine wpIn_block ?_
 refine wpIn_region_lit ?_
 obtain⟨H1,hH1⟩:∃H1,H1=(l,Obj.loop {kA fn tmps di fx D with state:=.busy})::(((D,.deferred (some []))::(bs,.cells #[v] 27 (0,0))::C')++X):=⟨_,rfl⟩
 replace RN:Own g H1 (W.putObj l (.loop {kA fn tmps di fx D with state:=.busy})):=by rw[hH1];exact RN
 have e0:Ar Tryz.prog g (QB 0) (ev (ct (ct fr (some 7) (u32 x)) (some 5) (u32 x))) H1 (fun z=>z=v)=Ld H1 (fr 2) (fun z=>z=v):=by kernel_rfl
 refine iW (g:=g) (n:=13) (v0:=v) hF rfl (by intro c h;cases h) rfl BQ RN (e0.mpr (by rw[f2];exact Ld.mk (by rw[hH1];exact .tail _ (.tail _ (.head _))) rfl rfl)) fun a2 zq=>?_
 refine iW (g:=g) (n:=13) (v0:=u32 x) hF rfl (by intro c h;cases h) rfl zq RN rfl fun a3 HR=>?_
 have eb:∀K:Value→Hp→Prop,ax Tryz.prog 27 1 [(0,.int .u32 (x:Int))] H1 K=NY Tryz.prog g (QB 2) (ev (ct (ct (ct (ct fr (some 7) (u32 x)) (some 5) (u32 x)) (some 8) v) (some 9) (u32 x))) H1 K (fun _ _=>False):=fun K=>by kernel_rfl
 refine KF (g:=g) (n:=13) (s:=_) (K:=fun v H=>∃b,v=.slice (some ⟨b,0,none⟩) 1 1∧H=(b,.cells (aF .u32 [(x:Int)]) 77 (0,0))::H1) hF rfl (by intro c h;cases h) rfl HR RN rfl
  ((eb _).mp (ax.int (by kernel_rfl) (by kernel_rfl) (by kernel_rfl) fun b=>⟨b,rfl,rfl⟩)) fun v1 H2 w2 a4 hv WZ P4=>?_
 obtain⟨b,rfl,rfl⟩:=hv
 have hn:(iw ss).length=ss.length:=an ss
 obtain⟨H2,hH2⟩:∃H2,H2=(b,Obj.cells (aF .u32 [(x:Int)]) 77 (0,0))::H1:=⟨_,rfl⟩
 rw[←hH2]at WZ
 refine KF (g:=g) (n:=13) (s:=_) (K:=fun v' H=>∃C2,aQ 77 .u32 v' (iw (ss++[x])) C2∧H=(b,Obj.cells (aF .u32 [(x:Int)]) 77 (0,0))::(l,Obj.loop {kA fn tmps di fx D with state:=.busy})::(D,.deferred (some []))::(bs,.cells #[v] 27 (0,0))::(C2++X))
  hF rfl (by intro c h;cases h) rfl P4 WZ (by simp only[execOp,resolve,invoke,builtin];simp[bind,Sem.bind];rfl) ?_ fun v2 H3 w3 a5 hv P5 P3=>?_
 ·have e1:∀K:Value→Hp→Prop,App Tryz.prog 77 1 4 (.int .u32 0) H2 v (.slice (some ⟨b,0,none⟩) 1 1) K=
   NY Tryz.prog g (QB 3) (ev (ct (ct (ct (ct (ct fr (some 7) (u32 x)) (some 5) (u32 x)) (some 8) v) (some 9) (u32 x)) (some 10) (.slice (some ⟨b,0,none⟩) 1 1))) H2 K (fun _ _=>False):=fun K=>by kernel_rfl
  refine(e1 _).mp ?_
  rw[hH2,hH1]
  refine ho.mK (.cons (.cons (.cons (.cons .left)))) (by exact .head _) (by omega) (by omega) fun v' C2 nr=>⟨C2,?_,rfl⟩
  rw[bO];exact nr
 obtain⟨C2,nr,rfl⟩:=hv
 have es:∀(H:Hp) (K:Value→Hp→Prop),St 1 H (fr 2) v2 (fun H'=>K undef H')=NY Tryz.prog g (QB 4) (ev (ct (ct (ct (ct (ct (ct fr (some 7) (u32 x)) (some 5) (u32 x)) (some 8) v) (some 9) (u32 x)) (some 10) (.slice (some ⟨b,0,none⟩) 1 1)) (some 11) v2)) H K (fun _ _=>False):=fun H K=>by kernel_rfl
 refine VD (g:=g) (n:=13) (s:=_) (K:=fun _ H=>H=(b,Obj.cells (aF .u32 [(x:Int)]) 77 (0,0))::(l,Obj.loop {kA fn tmps di fx D with state:=.busy})::(D,.deferred (some []))::(bs,.cells #[v2] 27 (0,0))::(C2++X))
  hF rfl (by intro c h;cases h) rfl P3 P5 rfl ((es _ _).mp ?_) fun H4 w4 a6 hv Y2 P2=>?_
 ·rw[f2]
  exact St.one (.tail (.tail (.tail (.head _)))) nr.one (by simp) rfl rfl
 subst hv
 refine wpListIn_nil ?_
 simp only[Exit.inBlock,roundPost]
 refine⟨_,_,run_endRound none (Y2.has _ (.tail _ (.head _))),rfl,_,⟨v2,C2,rfl,nr⟩,?_⟩
 exact(Y2.putObj (.tail (.head _))).tail
theorem Iu(hg:Gt Tryz.prog f cap B u32 N S)(hc:cP Tryz.prog f=true)(hN:N≤1099511627776):
  Fc Tryz.prog 284 #[.slice none 0 0,.func (.func f) #[] cap] B (fun v H=>∃ss C',S ss∧H=C'++B∧aQ 77 .u32 v (iw ss) C'):=by
 intro g w hw
 rw[←callsIn_wide (n:=0)]
 have hF:∀f,Fence.wide.fn f:=fun _=>trivial
 refine callsIn_of_wp_marks Tryz.func284 rfl trivial ?_
 have ha:=uc (m:=13) (args:=[.slice none 0 0,.func (.func f) #[] cap]) (by simp)
 refine wpIn_seq ?_
 refine wpIn_region_lit ?_
 refine KF (g:=g) (n:=13) (s:=_) (K:=fun v H=>∃bs,v=ptr bs∧H=(bs,.cells #[.slice none 0 0] 27 (0,0))::B) hF rfl (by intro c h;cases h) rfl ha hw rfl (fun bs _=>⟨bs,rfl,rfl⟩) fun v H1 w1 a1 hv jr BQ=>?_
 obtain⟨bs,rfl,rfl⟩:=hv
 refine iW (g:=g) (n:=13) (v0:=.slice none 0 0) hF rfl (by intro c h;cases h) rfl BQ jr rfl fun a2 zq=>?_
 refine wpListIn_nil ?_
 refine wpIn_seq ?_
 refine wpIn_seq ?_
 refine wpIn_region_lit ?_
 refine iW (g:=g) (n:=13) (v0:=.func (.func f) #[] cap) hF rfl (by intro c h;cases h) rfl zq jr rfl fun a3 HR=>?_
 refine wpListIn_nil ?_
 refine wpIn_block ?_
 refine wpIn_rangeFunc fun fn hfn=>?_
 have Bz:=(jr.alloc (.deferred (some []))).alloc (.loop (kA fn a3.tmps di fx w1.heap.size))
 have f6:a3.tmps[6]?.getD undef=.func (.func f) #[] cap:=by have:=HR.get 6;rw[Array.getD_eq_getD_getElem?]at this;exact this
 obtain⟨W1,RN⟩:∃W1,W1=(w1.alloc (.deferred (some []))).alloc (.loop (kA fn a3.tmps di fx w1.heap.size)):=⟨_,rfl⟩
 rw[←RN]at Bz
 refine⟨w1.heap.size+1,[{target:=.collected w1.heap.size,args:=#[]}],W1,{target:=.fn (.func f) cap,args:=#[.func (.yield (w1.heap.size+1)) #[] #[]]},W1,f,#[.func (.yield (w1.heap.size+1)) #[] #[]]++cap,W1,?_,?_,fun _ _=>trivial,?_,fun h=>(by cases h),?_⟩
 ·rw[RN];exact run_enterLoop_outer fn a3.tmps #[7] _ _
 ·simp[resolve,Deferred.ofValue,f6,go_sem]
 ·simp[invoke,go_sem]
  exact fi hc _ _
 have hsz:(w1.alloc (.deferred (some []))).heap.size=w1.heap.size+1:=by simp
 rw[hsz]at Bz
 refine CallsIn.mono (hg g (w1.heap.size+1) (APG (w1.heap.size+1) w1.heap.size bs fn a3.tmps di fx) (fun ss x A X W hG hl hW=>Nm HR.size HR.get rfl hG (by omega) hW) [_,_,_] W1 ⟨_,[],rfl,aQ.nil⟩ Bz) ?_
 rintro e W2 ⟨⟨v0,rfl⟩,ss,A',hS,⟨v,C',rfl,ho⟩,WZ⟩
 refine⟨none,_,run_endLoop (WZ.has _ (.head _)) (by simp[kA]),?_⟩
 have P5:=WZ.putObj (o':=.loop {kA fn a3.tmps di fx w1.heap.size with state:=.exhausted}) (.head _)
 simp only[Exit.then,Exit.inBlock]
 have P4:Ah [{target:=.collected w1.heap.size,args:=#[]}] 13 {a3 with defers:=[{target:=.collected w1.heap.size,args:=#[]}]++a3.defers} (ct (ct (ct (jc [.slice none 0 0,.func (.func f) #[] cap] 0) (some 2) (ptr bs)) (some 4) (.slice none 0 0)) (some 6) (.func (.func f) #[] cap)):=
  ⟨by rw[HR.defers];rfl,HR.size,HR.get⟩
 refine wpIn_seq ?_
 refine wpIn_region_lit ?_
 obtain⟨H3,hH3⟩:∃H3,H3=(w1.heap.size+1,Obj.loop {kA fn a3.tmps di fx w1.heap.size with state:=.exhausted})::(((w1.heap.size,.deferred (some []))::(bs,.cells #[v] 27 (0,0))::C')++B):=⟨_,rfl⟩
 replace P5:Own g H3 (W2.putObj (w1.heap.size+1) (.loop {kA fn a3.tmps di fx w1.heap.size with state:=.exhausted})):=by rw[hH3];exact P5
 have e0:Ar Tryz.prog g (gF AF 4 0) (ev (ct (ct (ct (jc [.slice none 0 0,.func (.func f) #[] cap] 0) (some 2) (ptr bs)) (some 4) (.slice none 0 0)) (some 6) (.func (.func f) #[] cap))) H3 (fun z=>z=v)=Ld H3 (ptr bs) (fun z=>z=v):=by kernel_rfl
 refine iW (g:=g) (n:=13) (v0:=v) hF rfl (by intro c h;cases h) rfl P4 P5 (e0.mpr (Ld.mk (by rw[hH3];exact .tail _ (.tail _ (.head _))) rfl rfl)) fun a5 P3=>?_
 refine iW (g:=g) (n:=13) (v0:=v) hF rfl (by intro c h;cases h) rfl P3 P5 rfl fun a6 P2=>?_
 refine wpListIn_nil ?_
 refine wpIn_ret ?_
 simp only[Exit.then,bodyPostM]
 rw[P2.defers]
 rw[hH3]at P5
 refine⟨by simp,.inl ⟨w1.heap.size,_,rfl,run_takeDeferred (P5.has _ (.tail _ (.head _))),?_⟩⟩
 have Y2:=P5.putObj (o':=.deferred none) (.tail (.head _))
 refine⟨_,results_tmp rfl _ _ _,C'++B,Y2.tail.tail.tail,v,C'++B,?_,.refl _,ss,C',hS,rfl,ho⟩
 have:=P2.get 4
 rw[this]
 rfl
end
section
variable {f:FuncId} {cap:Array Value} {B:Hp} {N:Nat} {S:List Nat→Prop}
theorem B8(hg:Gt Tryz.prog f cap B u32 N S)(hc:cP Tryz.prog f=true)(hN:N≤1099511627776):
  Fc Tryz.prog 273 #[.func (.func f) #[] cap] B (fun v H=>∃ss C',S ss∧H=C'++B∧aQ 77 .u32 v (iw ss) C'):=by
 intro g
 refine CQ (R:=aE _) ?_
 unfold L273
 refine ag.fn .here (Iu hg hc hN) ?_
 rintro v H h
 exact aE.here h
theorem Fx{l':List Int}{ss:List Nat}(h:l'.Perm (iw ss)):∃l:List Nat,l.Perm ss∧l'=iw l:=by
 refine⟨l'.map Int.toNat,?_,?_⟩
 ·have:=h.map Int.toNat
  rw[iw,List.map_map]at this
  have e:(Int.toNat∘(Nat.cast:Nat→Int))=id:=by funext x;simp
  rw[e,List.map_id]at this
  exact this
 ·unfold iw
  rw[List.map_map]
  have:∀x∈l',((Nat.cast:Nat→Int)∘Int.toNat) x=x:=fun x hx=>by
   obtain⟨n,_,rfl⟩:=List.mem_map.1 (h.mem_iff.1 hx)
   simp
  rw[List.map_congr_left this,List.map_id']
theorem GQ(hg:Gt Tryz.prog f cap B u32 N S)(hS:∀ss,S ss→ss.length≤N)(hc:cP Tryz.prog f=true)(hN:N≤1099511627776):
  Fc Tryz.prog 250 #[.func (.func f) #[] cap] B (fun v H=>∃ss l C',S ss∧l.Perm ss∧H=C'++B∧aQ 77 .u32 v (iw l) C'):=by
 intro g
 refine Dd (R:=aE _) ?_
 unfold L250
 refine ag.fn .here (B8 hg hc hN) ?_
 rintro v H ⟨ss,C',hs,rfl,ho⟩
 have hlen:=hS ss hs
 refine ag.fn (.left (A:=B)) (OY ho (by rw[an];omega)) ?_
 rintro w C2 ⟨rfl,l',hp,bT⟩
 obtain⟨l,hl,rfl⟩:=Fx hp
 exact aE.here ⟨ss,l,C2,hs,hl,rfl,bT⟩
end
theorem O1{pt n v:Nat}{T:Nd→Option Nat}{C:Hp}(h:mS pt n T C)(hv:v<n)(hinj:∀d d' r,T d=some r→T d'=some r→d=d')(hb:∀d r,T d=some r→r<1048576):
  Fc Tryz.prog 203 #[ptr pt,.int .i64 (v:Int)] C (fun r H=>∃w l N,r=.tuple #[w,.int .i64 0]∧H=N++C∧aQ 77 .u32 w (iw l) N∧l.Nodup∧∀r,r∈l↔∃d,T d=some r∧d.v=v):=by
 have h0:=h
 obtain⟨vs,Cs,ms,rfl,hs,ho⟩:=h
 obtain⟨m,hm⟩:∃m,ms[v]? =some m:=⟨_,List.getElem?_eq_getElem (by rw[ho.len];exact hv)⟩
 have he:=ho.ru v m hm
 have hT:∀d:Nd,d.v=v→T d=ed m.l d:=fun d hd=>by rw[ho.T,hd,hm];rfl
 have hmem:∀d r,(d,r)∈m.l↔T d=some r∧d.v=v:=fun d r=>by
  constructor
  ·intro hx
   have hd:=ho.var v m hm _ hx
   exact⟨by rw[hT d hd];exact(jb he.nd).2 hx,hd⟩
  ·rintro⟨h1,h2⟩
   rw[hT d h2]at h1
   exact(jb he.nd).1 h1
 have gW:(m.l.map Prod.snd).Nodup:=by
  refine List.pairwise_map.2 ((List.pairwise_map.1 he.nd).imp_of_mem fun{a b} ha hb' hne e=>hne ?_)
  have h1:=((hmem a.1 a.2).1 ha).1
  have h2:=((hmem b.1 b.2).1 hb').1
  rw[←e]at h2
  exact hinj _ _ _ h1 h2
 have hlen:m.l.length≤1048576:=by
  have:=bV (l':=List.range 1048576) gW fun x hx=>by
   obtain⟨y,hy,rfl⟩:=List.mem_map.1 hx
   exact List.mem_range.2 (hb _ _ ((hmem y.1 y.2).1 hy).1)
  simpa using this
 intro g
 refine DN (R:=aE _) ?_
 unfold L203
 refine ag.rd .here (jW h0 hv) ?_
 rintro w rfl
 refine ae.gj (Br.cq (by simp) ?_)
 refine Nil.ptr ?_
 refine aa.mk (Ld.mk zM rfl ?_)
 refine hs.Q7 (x:=.map (some m.b)) (by rw[List.getElem?_map,hm];rfl) (fun _ h=>by exact .tail _ (List.mem_append_left _ h)) ?_
 refine ag.fn .here (GG (b:=m.b) _) ?_
 rintro w H ⟨bm,rfl,rfl⟩
 obtain⟨X,Y,hXY⟩:=List.append_of_mem (po hm)
 have dM:((bm,Obj.cells #[.map (some m.b)] 266 (0,0))::(pt,.cells #[vs] 265 (0,0))::(Cs++Hs ms)).Perm
   ([(bm,.cells #[.map (some m.b)] 266 (0,0)),(m.b,.map m.es m.ck)]++((pt,.cells #[vs] 265 (0,0))::(Cs++(X++Y)))):=by
  rw[hXY]
  refine .cons _ ?_
  show((pt,_)::(Cs++(X++(m.b,_)::Y))).Perm ((m.b,_)::(pt,_)::(Cs++(X++Y)))
  refine .trans (.cons _ ?_) (.swap _ _ _)
  rw[←List.append_assoc,←List.append_assoc]
  exact List.perm_middle
 refine ag.pre (.perm dM) ?_
 refine ag.fn .left (GQ (AJ he) (fun ss hss=>by rw[hss.length_eq,List.length_map];exact Nat.le_refl _) (by kernel_rfl) (by omega)) ?_
 rintro w H ⟨ss,l,C',hss,hl,rfl,hown⟩
 have q6:l.Perm (m.l.map Prod.snd):=hl.trans hss
 refine aE.mk (lJ:=C'++((pt,.cells #[vs] 265 (0,0))::(Cs++Hs ms))) ?_ ⟨w,l,C',rfl,rfl,hown,q6.nodup_iff.2 gW,fun r=>?_⟩
 ·rw[List.append_assoc]
  refine aO.cJ ?_ C'
  exact(aO.perm dM.symm).trans .tail
 ·rw[q6.mem_iff,List.mem_map]
  constructor
  ·rintro⟨y,hy,rfl⟩;exact⟨y.1,(hmem y.1 y.2).1 hy⟩
  ·rintro⟨d,hd⟩;exact⟨(d,r),(hmem d r).2 hd,rfl⟩
end Go.Proofs
namespace Go.Sx
open Go
section
variable {P:Program} {g:Gh} {H:Hp} {κ β:Type} [DecidableEq κ] {ke:κ→Value} {vr:Value→β→Prop} {es:Array MapEntry} {ck b:Nat} {m:List (κ×β)} {K:Value→Hp→Prop} {KP:List PanicEntry→Hp→Prop}
omit [DecidableEq κ] in
theorem bq.sameKey(h:bq ke vr es ck m){i:Nat}{k:κ}{x:β}(hi:m[i]? =some (k,x)):es.modify i (fun e=>{e with key:=ke k})=es:=by
 apply Array.ext_getElem?
 intro j
 rw[Array.getElem?_modify]
 split
 ·rename_i e;subst e
  cases he:es[i]? with
  |none=>rfl
  |some e0=>rw[Option.map_some,←(h.key i e0 _ he hi).1]
 ·rfl
theorem bq.Qr{o:Oper}{ρ:Operand→Value}{t kt e:TypeId}{kd:TypeDesc}{mo ko:Operand}{z:Value}{k:κ}{y0:β}(hk:∀a b,E7 P kt (ke a) (ke b) (decide (a=b)))(hc:∀a,nI P kt (ke a))(hb:∀a,Instr.sameBits 10000 (ke a) (ke a)=true)
 (ho:o.op=.mapEntry t mo ko)(hm':ρ mo=.map (some b))(hk':ρ ko=ke k)(ht:P.underlying t=some (.map kt e))(FO:P.underlying kt=some kd)(WX:cM kd=true)(hzd:fj P e=some z)(hvz:vr z y0)
 (h:bq ke vr es ck m){c:Obj→Hp}(Mj:∀o o',cK b o o' (c o) (c o'))
 (h1:∀es' eN v st,bq ke vr es' eN (if k∈m.map Prod.fst then m else m++[(k,y0)])→(∃e∈es'.toList,e.born=st)→K (.tuple #[v,.int .i64 (st:Int)]) (c (.map es' eN))):mU P g o ρ (c (.map es ck)) K KP:=by
 have YR:(b,Obj.map es ck)∈c (.map es ck):=(Mj _ (.map es ck)).mem
 obtain⟨i,hi,uZ⟩:=c9 hzd
 refine mU.ofValue (s:=Instr.mapEntry t (.map (some b)) (ke k)) (by simp only[execOp,ho,hm',hk']) fun w hw=>?_
 have fh:=fun b=>hc k b w
 rcases h.zE hk k with⟨j,x,e0,g1,g2,g3,g4⟩|⟨g1,g2⟩
 ·have jx:=gu (P:=P) FO WX g4 w
  have hj:=(Array.getElem?_eq_some_iff.1 g1).1
  have hkey:es[j].key=ke k:=(h.key j _ _ (Array.getElem?_eq_getElem hj) g2).1
  have hmem:k∈m.map Prod.fst:=List.mem_map.2 ⟨_,List.mem_of_getElem? g2,rfl⟩
  obtain⟨w',hs,hown⟩:=bS (P:=P) hw (es.modify j fun e=>{e with key:=ke k}) ck (by rw[h.sameKey g2];exact Mj _ (.map es ck))
  refine⟨.tuple #[e0.val,.int .i64 (es[j].born:Int)],w',_,?_,hown,h1 es ck e0.val es[j].born (by rw[if_pos hmem];exact h) ⟨es[j],by simp,rfl⟩⟩
  simp[Instr.mapEntry,run_underlying ht,aY hw YR,fh,jx,hj,Instr.keyThatStays,hkey,hb k,hs,goInt]
 ·have jx:=gu (P:=P) FO WX g2 w
  obtain⟨w',hs,hown⟩:=bS (P:=P) hw (es.push {key:=ke k,val:=z,born:=ck}) (ck+1) (Mj _ _)
  have vQ:=h.more (k:=k) g1 hvz
  have e2:gP m k y0=m++[(k,y0)]:=by unfold gP;rw[if_neg g1]
  rw[e2]at vQ
  refine⟨.tuple #[z,.int .i64 (ck:Int)],w',_,?_,hown,h1 _ _ z ck (by rw[if_neg g1];exact vQ) ⟨_,by rw[Array.toList_push];exact List.mem_append_right _ (.head _),rfl⟩⟩
  simp[Instr.mapEntry,run_underlying ht,aY hw YR,fh,jx,eS hi uZ,hs,goInt]
omit [DecidableEq κ] in
theorem bq.OV{o:Oper}{ρ:Operand→Value}{t:TypeId}{mo so xo:Operand}{st:Nat}(ho:o.op=.entryStore t mo so xo)(hm':ρ mo=.map (some b))(hs':ρ so=.int .i64 (st:Int))
 (h:bq ke vr es ck m)(hst:∃e∈es.toList,e.born=st)(hv:∀x,vr (ρ xo) x){c:Obj→Hp}(Mj:∀o o',cK b o o' (c o) (c o'))
 (h1:∀es',bq ke vr es' ck m→K undef (c (.map es' ck))):mU P g o ρ (c (.map es ck)) K KP:=by
 have YR:(b,Obj.map es ck)∈c (.map es ck):=(Mj _ (.map es ck)).mem
 refine mU.qj (s:=Instr.entryStore t (.map (some b)) (.int .i64 (st:Int)) (ρ xo)) (by simp only[execOp,ho,hm',hs']) fun w hw=>?_
 obtain⟨i,hi⟩:∃i,es.findIdx? (fun e=>(e.born:Int)==(st:Int))=some i:=by
  obtain⟨e,he,rfl⟩:=hst
  rw[←Option.isSome_iff_exists,Array.findIdx?_isSome]
  rw[Array.any_eq_true']
  exact⟨e,by simpa using he,by simp⟩
 obtain⟨w',hs,hown⟩:=bS (P:=P) hw (es.modify i fun e=>{e with val:=ρ xo}) ck (Mj _ _)
 have U0:((es.modify i fun e=>{e with val:=ρ xo}).toList.map MapEntry.born)=es.toList.map MapEntry.born:=by
  apply List.ext_getElem?;intro j
  simp only[List.getElem?_map,Array.getElem?_toList,Array.getElem?_modify]
  split
  ·cases es[j]? <;>rfl
  ·rfl
 refine⟨w',_,?_,hown,h1 _ ⟨by simp[h.len],fun j e x he hx=>?_,h.nd,by rw[U0];exact h.born,fun e he=>?_⟩⟩
 ·simp only[Instr.entryStore,Sem.run_bind,aY hw YR,Result.andThen_ok,asInt,asIntOf,Sem.run_pure]
  simp only[hi,hs]
 ·rw[Array.getElem?_modify]at he
  split at he
  ·cases h0:es[j]? with
   |none=>rw[h0]at he;simp at he
   |some e0=>
    rw[h0]at he
    simp only[Option.map_some,Option.some.injEq]at he
    subst he
    exact⟨(h.key j _ _ h0 hx).1,hv _⟩
  ·exact h.key j _ _ he hx
 ·have:e.born∈(es.modify i fun e=>{e with val:=ρ xo}).toList.map MapEntry.born:=List.mem_map_of_mem he
  rw[U0]at this
  obtain⟨e0,h1,h2⟩:=List.mem_map.1 this
  rw[←h2];exact h.lt e0 h1
end
theorem cz.out{C H:Hp}{c:Hp→Hp}(h:cz C H c)(N:Hp):aO (c (N++C)) (N++H):=by
 obtain⟨e,F,hp⟩:=h.spec
 refine .perm ((hp (N++C)).trans ?_)
 rw[List.append_assoc]
 refine List.Perm.append_left N ?_
 have:=hp C
 rw[←e]at this
 exact this.symm
end Go.Sx
set_option maxRecDepth 100000
namespace Go.Proofs
open Go Go.Sx
open bc
section
variable {kp:Nat} {K:Kd} {ord av tr:List Nat} {C:Hp} {S:Nat→bc.Fn}
def xZ(N:gC)(r:Nat):Int:=match N r with|some d=>(d.v:Int)|none=> -1
theorem zx{N:gC}{r:Nat}(hl:live N r)(h2:∀d,N r=some d→2≤r):∃lo hi,got N r=[.int .i64 (xZ N r),u32 lo,u32 hi]∧∀e,N r=some e→lo=e.lo∧hi=e.hi:=by
 cases h:N r with
 |some d=>
  refine⟨d.lo,d.hi,?_,fun e he=>by cases he;exact⟨rfl,rfl⟩⟩
  rw[kj h (h2 d h)];simp[aT,xZ,h]
 |none=>
  have hr:r<2:=by
   rcases hl with hl|⟨d,hd⟩
   ·exact hl
   ·rw[h]at hd;cases hd
  refine⟨r,r,?_,fun e he=>by cases he⟩
  rw[qx hr];simp[xZ,h]
theorem yJ(h:cY kp K ord av tr C){r:Nat}(hr:r<4294967296)(hl:live K.N r)(h2:∀d,K.N r=some d→2≤r)(y:Nat):
  Rd Tryz.prog 204 #[ptr kp,u32 r,.int .i64 (y:Int)] C (· =.tuple #[u32 (pl K.N y r),u32 (ph K.N y r)]):=by
 have h0:=h
 obtain⟨b,rfl,hO⟩:=h
 obtain⟨lo,hi,hg,he⟩:=zx hl h2
 intro g
 refine DM (R:=aE _) ?_
 unfold L204
 refine Nil.ptr (aa.mk ?_)
 refine ag.rd .here (mm h0 hr) ?_
 rintro v rfl
 intro b5 _
 refine St.whole (r:=got K.N r) (by exact .head _) rfl (dB _ _).1 (dB _ _).2 ?_
 rw[hg]
 refine aa.mk (Ld.mk (by exact .head _) rfl ?_)
 refine ae.kJ (Br.dec (fun e=>?_) (fun e=>?_))
 ·refine aa.mk (Ld.mk (by exact .head _) rfl ?_)
  refine aa.mk (Ld.mk (by exact .head _) rfl ?_)
  cases hN:K.N r with
  |none=>simp[xZ,hN]at e<;>omega
  |some d=>
   obtain⟨rfl,rfl⟩:=he d hN
   have hv:d.v=y:=by simp[xZ,hN]at e;omega
   obtain⟨e1,e2⟩:=O4 hN hv
   exact bL.mk .tail (by rw[e1,e2];rfl)
 ·obtain⟨e1,e2⟩:=O5 (N:=K.N) (y:=y) (r:=r) fun d hd=>by simp[xZ,hd]at e<;>omega
  exact bL.mk .tail (by rw[e1,e2])
def iA(c:Cx):List Value:=[u32 c.r,.int .i64 (c.d.v:Int),u32 c.d.lo,u32 c.d.hi,u32 c.u6,u32 c.u5,u32 c.rR,u32 c.rQ]
theorem kz(c:Cx):∀x∈iA c,x.oneCell'=true:=by intro x hx;simp[iA,u32]at hx;rcases hx with rfl|rfl|rfl|rfl|rfl|rfl|rfl|rfl<;>rfl
structure vj(N:gC)(x y:Nat)(l:List Nat)(all:List Cx):Prop where
 nd:(all.map Cx.r).Nodup
 mem:∀c,c∈all↔c.r∈l∧k9 N x y c.r c.d∧c=mC N y c.r c.d
theorem vj.skip{N:gC}{x y r:Nat}{l:List Nat}{all:List Cx}{d:Nd}(h:vj N x y l all)(hd:N r=some d)(hn:¬k9 N x y r d):vj N x y (l++[r]) all where
 nd:=h.nd
 mem:=fun c=>by
  rw[h.mem,List.mem_append]
  constructor
  ·rintro⟨h1,h2⟩;exact⟨.inl h1,h2⟩
  ·rintro⟨h1|h1,h2,h3⟩
   ·exact⟨h1,h2,h3⟩
   ·simp at h1
    have:=h2.1
    rw[h1,hd]at this;cases this
    rw[h1]at h2;exact absurd h2 hn
theorem vj.more{N:gC}{x y r:Nat}{l:List Nat}{all:List Cx}{d:Nd}(h:vj N x y l all)(hr:r∉l)(hn:k9 N x y r d):vj N x y (l++[r]) (all++[mC N y r d]) where
 nd:=by
  rw[List.map_append]
  refine List.nodup_append.2 ⟨h.nd,by simp,fun a ha b hb e=>?_⟩
  simp[mC]at hb
  subst e
  obtain⟨c,hc,rfl⟩:=List.mem_map.1 ha
  exact hr (hb▸((h.mem c).1 hc).1)
 mem:=fun c=>by
  rw[List.mem_append,h.mem,List.mem_append,List.mem_singleton,List.mem_singleton]
  constructor
  ·rintro(⟨h1,h2⟩|rfl)
   ·exact⟨.inl h1,h2⟩
   ·exact⟨.inr rfl,hn,rfl⟩
  ·rintro⟨h1|h1,h2,h3⟩
   ·exact .inl ⟨h1,h2,h3⟩
   ·right
    have h4:=h2.1
    rw[h1,hn.1]at h4;cases h4
    exact h3.trans (by rw[h1])
theorem vj.all{N:gC}{x y:Nat}{l:List Nat}{all:List Cx}(h:vj N x y l all)(hl:∀r d,N r=some d→d.v=x→r∈l):Gu N x y all where
 nd:=h.nd
 mem:=fun c=>by
  rw[h.mem]
  exact⟨fun h=>h.2,fun h=>⟨hl _ _ h.1.1 h.1.2.1,h⟩⟩
theorem wW(h:cY kp K ord av tr C){r:Nat}(hl:live K.N r)(h2:∀d,K.N r=some d→2≤r){H:Hp}{c:Hp→Hp}(hh:cz C H c){g:Gh}{Q:Value→Hp→Prop}{KP:List PanicEntry→Hp→Prop}
 (hk:∀lo hi,got K.N r=[.int .i64 (xZ K.N r),u32 lo,u32 hi]→(∀e,K.N r=some e→lo=e.lo∧hi=e.hi)→Q (.agg #[.int .i64 (xZ K.N r),u32 lo,u32 hi]) H):ag Tryz.prog g 174 #[ptr kp,u32 r] H Q KP:=by
 have hr:=h.lt hl
 obtain⟨lo,hi,hg,he⟩:=zx hl h2
 refine ag.rd hh (mm h (by omega)) ?_
 rintro v rfl
 have:=hk lo hi hg he
 rw[hg]
 exact this
theorem xH(h:cY kp K ord av tr C)(hok:Ok K S (lv av)){x y:Nat}(hx:x<K.n):
  Fc Tryz.prog 134 #[ptr kp,.int .i64 (x:Int),.int .i64 (y:Int)] C (fun r H=>∃all Na,H=Na++C∧aR 203 8 r (all.map iA) Na∧Gu K.N x y all∧all.length≤1048576):=by
 have hcap:=h.cap
 have h0:=h
 obtain⟨b,hC,hO⟩:=h
 have PE:∀d r,K.T d=some r↔K.N r=some d:=fun d r=>by rw[hok.mid.jB];exact⟨fun h=>h.1,fun h=>⟨h,fun x=>x⟩⟩
 have two:∀{r d},K.N r=some d→2≤r:=fun hd=>(hok.mid.two hd).1
 intro g
 refine ED (R:=aE _) ?_
 unfold L134
 rw[hC]
 refine Nil.ptr (aa.mk (aa.mk ?_))
 refine Ld.mk (v:=ptr b.pt) (by exact .head _) rfl ?_
 refine ag.fn (.cons (.app .left)) (O1 hO.ut hx (fun d d' r h1 h2=>by rw[PE]at h1 h2;rw[h1]at h2;cases h2;rfl) (fun d r h1=>by have:=(hok.mid.two ((PE d r).1 h1)).2;omega)) ?_
 rintro w H ⟨sl,l,Nr,rfl,rfl,YM,gW,hmem⟩
 refine Ext.mk rfl (Ext.mk rfl ?_)
 refine YM.aS ?_
 rw[an]
 have hl:∀r∈l,∃d,K.N r=some d∧d.v=x:=fun r hr=>by obtain⟨d,h1,h2⟩:=(hmem r).1 hr;exact⟨d,(PE d r).1 h1,h2⟩
 have hlen:l.length≤1048576:=by
  have:=bV (l':=List.range 1048576) gW fun r hr=>by
   obtain⟨d,hd,_⟩:=hl r hr
   have:=(hok.mid.two hd).2
   exact List.mem_range.2 (by omega)
  simpa using this
 refine⟨fun vs H=>∃(v:Value) (i:Nat) (all:List Cx) (Na:Hp),vs=[v,.int .i64 (i:Int)]∧H=Na++(Nr++C)∧i≤l.length∧aR 203 8 v (all.map iA) Na∧vj K.N x y (l.take i) all∧all.length≤i,
  fun vs _=>l.length-bg vs 1,JE.of (cz.out (C:=b.CT) (.cons (.app .left)) Nr) ⟨_,0,[],[],rfl,by rw[hC];rfl,Nat.zero_le _,aR.nil _ _,⟨by simp,by simp⟩,Nat.le_refl _⟩,?_⟩
 rintro w w' H ⟨v,i,all,Na,hw,rfl,hi,ho,HP,vT⟩ gs
 simp only[List.cons.injEq,and_true]at hw
 obtain⟨rfl,rfl⟩:=hw
 refine ae.dL (Br.dec (fun hlt=>?_) (fun hge=>?_))
 rotate_left
 ·have:i=l.length:=by omega
  subst this
  rw[List.take_length]at HP
  refine aE.mk (lJ:=Na++C) ?_ ⟨all,Na,by rw[hC],ho,HP.all fun r d hd hv=>(hmem r).2 ⟨d,(PE d r).2 hd,hv⟩,by omega⟩
  exact aO.cJ .right Na
 obtain⟨r,xm⟩:∃r,l[i]? =some r:=⟨_,List.getElem?_eq_getElem hlt⟩
 have lS:l.take (i+1)=l.take i++[r]:=by rw[List.take_add_one,xm];rfl
 have YN:r∉l.take i:=fun hm=>by
  have:(l.take (i+1)).Nodup:=gW.sublist (List.take_sublist _ _)
  rw[lS]at this
  exact(List.nodup_append.1 this).2.2 r hm r (by simp) rfl
 obtain⟨d,hd,BL⟩:=hl r (List.mem_of_getElem? xm)
 have TR:=hok.mid.lo hd
 have TS:=hok.mid.hi hd
 intro uD BS
 have next:∀v' Ns Vc,aR 203 8 v' (Ns.map iA) Vc→vj K.N x y (l.take (i+1)) Ns→Ns.length≤i+1→uD [v'] (Vc++(Nr++C)):=fun v' Ns Vc h1 h2 h3=>
  BS _ _ fun gs=>ae.aH (b:=1) (by simp[az];omega) (ay.mk ⟨v',i+1,Ns,Vc,rfl,rfl,by omega,h1,h2,h3⟩ (by simp[bg];omega))
 refine YM.ld (x:=(r:Int)) (cy xm) (fun y hy=>List.mem_append_right _ (List.mem_append_left _ hy)) ?_
 refine Nil.ptr (aa.mk ?_)
 refine wW h0 (.inr ⟨d,hd⟩) (fun _ h=>two h) (.app (.app .here)) fun lo hi hg he=>?_
 obtain⟨rfl,rfl⟩:=he d hd
 have hvr:xZ K.N r=(x:Int):=by simp[xZ,hd,BL]
 rw[hvr]
 intro Ax _
 refine St.whole (r:=[.int .i64 (x:Int),u32 d.lo,u32 d.hi]) (by exact .head _) rfl rfl (by intro z hz;simp[u32]at hz;rcases hz with rfl|rfl|rfl<;>rfl) ?_
 obtain⟨H0,Qa⟩:∃H0,H0=(Ax,Obj.cells #[.int .i64 (x:Int),u32 d.lo,u32 d.hi] 161 (0,0))::(Na++(Nr++C)):=⟨_,rfl⟩
 have hEq:((Ax,Obj.cells [Value.int .i64 (x:Int),u32 d.lo,u32 d.hi].toArray 161 (0,0))::(Na++(Nr++C)))=H0:=Qa.symm
 rw[hEq]
 intro NC MA
 have skip:¬k9 K.N x y r d→NC [.bool true] H0:=fun hn=>MA _ _ fun gs=>Br.yes (JE.of (by rw[Qa];exact .tail) (next w all Na ho (by rw[lS];exact HP.skip hd hn) (by omega)))
 have take:k9 K.N x y r d→NC [.bool false] H0:=fun hn=>by
  refine MA _ _ fun gs=>Br.no ?_
  rw[Qa]
  refine aA.whole (r:=[.int .i64 (x:Int),u32 d.lo,u32 d.hi]) (by exact .head _) rfl ?_
  refine Build.mk (cs:=iA ⟨r,⟨x,d.lo,d.hi⟩,0,0,0,0⟩) (by kernel_rfl) ?_
  intro Ni _
  refine St.whole (r:=iA ⟨r,⟨x,d.lo,d.hi⟩,0,0,0,0⟩) (by exact .head _) rfl rfl (kz _) ?_
  refine aa.mk (Ld.mk (by exact .tail _ (.head _)) rfl ?_)
  refine ag.rd (.cons (.cons (.app (.app .here)))) (yJ h0 (by have:=h0.lt TR;omega) TR (fun _ h=>two h) y) ?_
  rintro w rfl
  refine Ext.mk rfl (Ext.mk rfl ?_)
  refine aa.mk (St.one (by exact .head _) rfl (by simp[iA]) rfl ?_)
  refine aa.mk (St.one (by exact .head _) rfl (by simp[iA]) rfl ?_)
  refine aa.mk (Ld.mk (by exact .tail _ (.head _)) rfl ?_)
  refine ag.rd (.cons (.cons (.app (.app .here)))) (yJ h0 (by have:=h0.lt TS;omega) TS (fun _ h=>two h) y) ?_
  rintro w rfl
  refine Ext.mk rfl (Ext.mk rfl ?_)
  refine aa.mk (St.one (by exact .head _) rfl (by simp[iA]) rfl ?_)
  refine aa.mk (St.one (by exact .head _) rfl (by simp[iA]) rfl ?_)
  have ei:d=⟨x,d.lo,d.hi⟩:=by cases d;simp at BL;subst BL;rfl
  have hcell:iA (mC K.N y r d)=[u32 r,.int .i64 (x:Int),u32 d.lo,u32 d.hi,u32 (pl K.N y d.lo),u32 (ph K.N y d.lo),u32 (pl K.N y d.hi),u32 (ph K.N y d.hi)]:=by
   simp[iA,mC,BL]
  refine aA.whole (r:=iA (mC K.N y r d)) (by rw[hcell];exact .head _) rfl ?_
  refine ax.one (e:=203) (z:=.agg #[.int .u32 0,.int .i64 0,.int .u32 0,.int .u32 0,.int .u32 0,.int .u32 0,.int .u32 0,.int .u32 0]) (k:=8) (r:=iA (mC K.N y r d)) (by kernel_rfl) (by kernel_rfl) (by kernel_rfl) (by decide) rfl fun xb=>?_
  refine ho.mK (.cons (.cons (.cons .left))) (by exact .head _) rfl (kz _) ⟨_,rfl,rfl⟩ (by simp;omega) (by simp;omega) fun v' Vc bT=>?_
  refine JE.of (.skip (.skip .tail)) (next v' (all++[mC K.N y r d]) Vc (by rw[List.map_append];exact bT) (by rw[lS];exact HP.more YN hn) (by simp;omega))
 refine DR.of (R:=[(Ax,Obj.cells #[.int .i64 (x:Int),u32 d.lo,u32 d.hi] 161 (0,0))]) (by rw[Qa];exact .left (A:=[_])) ?_
 refine Nil.ptr (aa.mk (aa.mk (Ld.mk (by exact .head _) rfl ?_)))
 have heR:aO H0 [(Ax,Obj.cells #[.int .i64 (x:Int),u32 d.lo,u32 d.hi] 161 (0,0))]:=by rw[Qa];exact .left (A:=[_])
 intro F
 rw[Qa]
 refine wW h0 TR (fun _ h=>two h) (.cons (.app (.app .here))) fun lo1 UW hg1 UY=>?_
 rw[←Qa]
 refine⟨heR,AB.mk rfl (ae.gj (Br.dec (fun hne=>?_) (fun he=>?_)))⟩
 ·refine Nil.ptr (aa.mk (aa.mk (Ld.mk (by exact .head _) rfl ?_)))
  intro F2
  rw[Qa]
  refine wW h0 TS (fun _ h=>two h) (.cons (.app (.app .here))) fun lo2 BG RC UX=>?_
  rw[←Qa]
  refine⟨heR,AB.mk rfl (ae.gj (aD.mk ?_))⟩
  by_cases e2:xZ K.N d.hi=(y:Int)
  ·rw[decide_eq_false (by simpa using e2)]
   refine JE.mk (take ⟨hd,BL,.inr ?_⟩)
   cases hN:K.N d.hi with
   |none=>simp[xZ,hN]at e2<;>omega
   |some f=>exact⟨f,rfl,by simp[xZ,hN]at e2;omega⟩
  ·rw[decide_eq_true (by simpa using e2)]
   refine JE.mk (skip ?_)
   rintro⟨_,_,⟨f,hf,WG⟩|⟨f,hf,WG⟩⟩
   ·exact hne (by simp[xZ,hf,WG])
   ·exact e2 (by simp[xZ,hf,WG])
 ·have e1:xZ K.N d.lo=(y:Int):=by simpa using he
  refine JE.mk (take ⟨hd,BL,.inl ?_⟩)
  cases hN:K.N d.lo with
  |none=>simp[xZ,hN]at e1<;>omega
  |some f=>exact⟨f,rfl,by simp[xZ,hN]at e1;omega⟩
end
end Go.Proofs
set_option maxRecDepth 100000
namespace Go.Proofs
open Go Go.Sx
open bc
section
def Zw:Value→Int
 | .int _ z=>z
 |_=>0
abbrev Zz(v:Value)(z:Int):Prop:=v=.int .i64 z
def uh(es:Array MapEntry)(ck:Nat)(ks:List Nd):Prop:=∃m:List (Nd×Int),bq nK Zz es ck m∧m.map Prod.fst=ks
theorem uh.empty:uh #[] 0 []:=⟨[],bq.empty,rfl⟩
theorem uh.of{es:Array MapEntry}{ck:Nat}{m:List (Nd×Int)}(h:bq nK (fun v _=>∃z,v=.int .i64 z) es ck m):uh es ck (m.map Prod.fst):=by
 have hlen:es.toList.length=m.length:=by simpa using h.len
 have hz:((es.toList.zip m).map fun p=>((p.2.1,Zw p.1.val):Nd×Int)).map Prod.fst=m.map Prod.fst:=by
  rw[List.map_map]
  have:(Prod.fst∘fun(p:MapEntry×(Nd×Int))=>((p.2.1,Zw p.1.val):Nd×Int))=Prod.fst∘Prod.snd:=rfl
  rw[this,←List.map_map,List.map_snd_zip (by omega)]
 refine⟨_,⟨?_,fun i e x he hx=>?_,by rw[hz];exact h.nd,h.born,h.lt⟩,hz⟩
 ·simp[h.len]
 ·have hi:=(Array.getElem?_eq_some_iff.1 he).1
  have BG:i<m.length:=by rw[←h.len];exact hi
  have hm:m[i]? =some m[i]:=List.getElem?_eq_getElem BG
  obtain⟨h1,z,h2⟩:=h.key i e _ he hm
  have hx':x=(m[i].1,Zw e.val):=by
   have e1:es.toList[i]? =some e:=by rw[Array.getElem?_toList];exact he
   rw[List.getElem?_map,(List.getElem?_zip_eq_some (z:=(e,m[i]))).2 ⟨e1,hm⟩]at hx
   simpa using hx.symm
  subst hx'
  exact⟨h1,by rw[h2];rfl⟩
theorem Own.sub{g:Gh}{H:Hp}{w:World}(h:Own g H w){y:Nat×Obj}(hy:y∈H):Own g [y] w:=by
 obtain⟨X,Y,rfl⟩:=List.append_of_mem hy
 exact(h.perm List.perm_middle).left (A:=[y])
noncomputable abbrev FF:Func:=Tryz.f136
theorem six{i:Nat}(hi:i<6):¬Lf .any (nD FF 10) i 6:=fun h=>by
 have e6:(nD FF 10)[6]? =some (gF FF 10 6):=by kernel_rfl
 have:=h _ e6
 have hm:(⟨i,.phase⟩:Edge)∈(gF FF 10 6).after:=by
  have ea:(gF FF 10 6).after=#[⟨0,.data⟩,⟨5,.data⟩,⟨3,.data⟩,⟨4,.chain⟩,⟨0,.phase⟩,⟨1,.phase⟩,⟨2,.phase⟩,⟨3,.phase⟩,⟨4,.phase⟩,⟨5,.phase⟩]:=by kernel_rfl
  rw[ea]
  rcases i with _|_|_|_|_|_|i
  all_goals first|omega|simp
 exact this _ hm rfl rfl
end
end Go.Proofs
