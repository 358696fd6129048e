import Derived.Test.YtfgkdmbicjdeoaaGreatF2
import Derived.RangeFuncIn
import Derived.RangeFuncLeaves
import Derived.RangeFuncRecord
import Derived.RangeFuncSeq
set_option linter.unusedVariables false
set_option linter.unusedSimpArgs false
set_option linter.unusedSectionVars false
set_option maxRecDepth 100000
namespace Go.Proofs
open Go Go.Sx
theorem vU{n:Nat}(hn:n≤16)(B:Hp):Rd Tryz.prog 81 #[.int .i64 (n:Int)] B (· =.int .i64 ((aj.wN n:Nat):Int)):=by
 intro g
 refine Jy (R:=aF _) ?_
 unfold L81
 refine ae.zI (b:=6) (Br.dec (fun h=>?_) (fun h=>?_))
 ·exact bO.mk (.refl _) (by rw[aj.sL (by omega)];rfl)
 ·refine ae.bH (b:=6) (by simp[aB];omega) (by omega) ?_
  have hp:2^(n-6)≤1024:=Nat.pow_le_pow_right (n:=2) (by decide) (by omega:n-6≤10)
  refine ae.r3 (a:=1) (by simp[IntKind.bits];omega) (by rw[Nat.one_shiftLeft];simp[aB];omega) ?_
  exact bO.mk (.refl _) (by rw[Nat.one_shiftLeft,aj.sM (by omega)])
theorem LS{B:Hp}{v:Value}{t:Tb}(ht:j5 B v t):Rd Tryz.prog 28 #[v] B (· =.bool (decide (TF t))):=by
 obtain⟨tn,ws⟩:=t
 obtain⟨s,rfl,hs,hw⟩:=ht
 simp only at hs hw⊢
 intro g
 refine JZ (R:=aF _) ?_
 unfold L28
 intro b1 _ J hJ
 have hno:¬TF ⟨tn,ws⟩→JE J [.bool true] ((b1,.cells (Value.cells (.agg #[.int .i64 tn,s])) 57 (0,0))::B):=fun h=>
  JE.mk (hJ _ _ fun gs=>Br.yes (bO.mk .tail (by rw[decide_eq_false h])))
 refine DR.self ?_
 refine aa.mk (Ld.mk zM rfl ?_)
 refine ae.lss (Br.dec (fun h0=>hno fun h=>by have:=h.1;simp only at this;omega) (fun h0=>?_))
 obtain⟨n,rfl⟩:∃n:Nat,tn=n:=⟨tn.toNat,by omega⟩
 have U4:TF ⟨(n:Int),ws⟩↔aj.cB n ws:=by unfold TF;simp
 refine aa.mk (Ld.mk zM rfl ?_)
 refine ae.me (b:=16) (aA.mk (Br.dec (fun h1=>hno fun h=>by have:=(U4.1 h).lN;omega) (fun h1=>?_)))
 refine aa.mk (Ld.mk zM rfl ?_)
 refine hs.aR ?_
 refine aa.mk (Ld.mk zM rfl ?_)
 intro F
 refine ag.rd (.cons .here) (vU (by omega) B) ?_
 rintro v rfl
 refine⟨(by repeat (first|exact aO.refl _|apply aO.cons|apply aO.skip|apply aO.cL|apply aO.bN)),?_⟩
 rw[an]
 refine ae.pH (aA.mk ?_)
 simp only[cond_false]
 by_cases hl:ws.length=aj.wN n
 case neg=>rw[show decide (ws.length≠aj.wN n)=true by simp[hl]];exact hno fun h=>hl (U4.1 h).len
 rw[show decide (ws.length≠aj.wN n)=false by simp[hl]]
 refine JE.mk (hJ _ _ fun gs=>Br.no ?_)
 refine aa.mk (Ld.mk zM rfl ?_)
 refine ae.qP (b:=6) ?_
 have hpos:=aj.Bd n
 obtain⟨w,hg⟩:∃w,ws[0]? =some w:=⟨_,List.getElem?_eq_getElem (by omega)⟩
 have MG:=hw w (List.mem_of_getElem? hg)
 refine bM.or (decide (w>>>(2^n)=0)) (fun h6=>?_) rfl fun gs=>?_
 ·have h6':¬6≤n:=by simpa using h6
  have h1:2^n≤32:=Nat.pow_le_pow_right (n:=2) (by decide) (by omega:n≤5)
  refine aa.mk (Ld.mk zM rfl ?_)
  refine hs.ld (cj hg) zS ?_
  refine aa.mk (Ld.mk zM rfl ?_)
  refine ae.pB (a:=1) ?_
  rw[Nat.one_shiftLeft,Nat.mod_eq_of_lt (by omega)]
  refine ae.jU (by simpa[aB]using MG) ?_
  exact ae.gz (b:=0) ⟨rfl,rfl⟩
 ·refine bO.mk .tail ?_
  congr 1
  rw[←Bool.decide_or]
  refine decide_eq_decide.2 (U4.trans ?_).symm
  constructor
  ·intro h
   by_cases h6:6≤n
   ·exact .inl h6
   ·refine .inr ?_
    have:=h.full w (List.mem_of_getElem? hg)
    unfold aj.ct at this
    rw[if_neg h6]at this
    have hp:=Nat.two_pow_pos (2^n)
    rw[Nat.shiftRight_eq_div_pow];exact Nat.div_eq_of_lt (by omega)
  ·intro h
   refine⟨by omega,hl,fun u hu=>?_⟩
   by_cases h6:6≤n
   ·unfold aj.ct;rw[if_pos h6];have:=hw u hu;omega
   ·have h1:ws.length=1:=by rw[hl,aj.sL (by omega)]
    obtain⟨x,rfl⟩:=List.length_eq_one_iff.1 h1
    simp at hg hu
    subst hg;subst hu
    rcases h with h|h
    ·exact absurd h h6
    ·rw[Nat.shiftRight_eq_div_pow]at h
     unfold aj.ct;rw[if_neg h6]
     have hp:=Nat.two_pow_pos (2^n)
     have:=(Nat.div_eq_zero_iff_lt hp).1 h
     omega
theorem kV{B:Hp}{v1 v2:Value}{a b:Tb}(h1:j5 B v1 a)(h2:j5 B v2 b)(bE:a.ws.length<2^62):Rd Tryz.prog 36 #[v1,v2] B (· =.bool (decide (a=b))):=by
 obtain⟨na,wa⟩:=a
 obtain⟨nb,wb⟩:=b
 obtain⟨s1,rfl,u4,jz⟩:=h1
 obtain⟨s2,rfl,rJ,mI⟩:=h2
 simp only at u4 rJ jz mI bE⊢
 intro g
 refine JX (R:=aF _) ?_
 unfold L36
 intro b1 _ b3 _
 refine aa.mk (Ld.mk zM rfl ?_)
 refine aa.mk (Ld.mk zM rfl ?_)
 refine ae.dX ?_
 refine bM.or (decide (wa.length≠wb.length)) (fun _=>?_) rfl fun gs=>?_
 ·refine aa.mk (Ld.mk zM rfl ?_)
  refine u4.aR ?_
  refine aa.mk (Ld.mk zM rfl ?_)
  refine rJ.aR ?_
  rw[an,an]
  exact ae.pH ⟨rfl,rfl⟩
 rw[←Bool.decide_or]
 refine Br.dec (fun h=>?_) (fun h=>?_)
 ·refine bO.mk (by repeat (first|exact aO.refl _|apply aO.cons|apply aO.skip|apply aO.cL|apply aO.bN)) ?_
  rw[decide_eq_false]
  rintro e
  simp only[Tb.mk.injEq]at e
  rcases h with h|h
  ·exact h e.1
  ·exact h (by rw[e.2])
 ·have hn:na=nb:=Classical.byContradiction fun e=>h (.inl e)
  have hl:wa.length=wb.length:=Classical.byContradiction fun e=>h (.inr e)
  refine⟨fun vs H=>∃j:Nat,vs=[.int .i64 (j:Int)]∧H=(b3,.cells (Value.cells (.agg #[.int .i64 nb,s2])) 57 (0,0))::(b1,.cells (Value.cells (.agg #[.int .i64 na,s1])) 57 (0,0))::B∧j≤wa.length∧∀i,i<j→wa[i]? =wb[i]?,
   fun vs _=>wa.length-bg vs 0,JE.mk ⟨0,rfl,rfl,by omega,by omega⟩,?_⟩
  rintro w H ⟨j,hv,rfl,hj,aK⟩ gs
  simp only[List.cons.injEq,and_true]at hv
  subst hv
  refine aa.mk (Ld.mk zM rfl ?_)
  refine u4.aR ?_
  rw[an]
  refine ae.dz (Br.dec (fun hlt=>?_) (fun hlt=>?_))
  ·have ga:wa[j]? =some wa[j]:=List.getElem?_eq_getElem hlt
   have gb:wb[j]? =some wb[j]:=List.getElem?_eq_getElem (by omega)
   refine aa.mk (Ld.mk zM rfl ?_)
   refine u4.ld (cj ga) zS ?_
   refine aa.mk (Ld.mk zM rfl ?_)
   refine rJ.ld (cj gb) zS ?_
   refine ae.pH (Br.dec (fun hne=>?_) (fun hne=>?_))
   ·refine bO.mk (by repeat (first|exact aO.refl _|apply aO.cons|apply aO.skip|apply aO.cL|apply aO.bN)) ?_
    rw[decide_eq_false]
    rintro e
    simp only[Tb.mk.injEq]at e
    obtain⟨_,rfl⟩:=e
    exact hne rfl
   ·refine ae.aH (b:=1) (by simp[aB];omega) ?_
    refine ay.mk ⟨j+1,rfl,rfl,by omega,fun i hi=>?_⟩ (by simp[bg];omega)
    by_cases e:i=j
    ·subst e;rw[ga,gb];simp;omega
    ·exact aK i (by omega)
  ·refine bO.mk (by repeat (first|exact aO.refl _|apply aO.cons|apply aO.skip|apply aO.cL|apply aO.bN)) ?_
   rw[decide_eq_true]
   simp only[Tb.mk.injEq]
   refine⟨hn,List.ext_getElem? fun i=>?_⟩
   by_cases hi:i<wa.length
   ·exact aK i (by omega)
   ·rw[List.getElem?_eq_none (by omega),List.getElem?_eq_none (by omega)]
def c4(l:List Bool):Array Value:=(l.map Value.bool).toArray
theorem Dc(l:List Bool)(i:Nat)(b:Bool):(c4 l).setIfInBounds i (.bool b)=c4 (l.set i b):=by simp[c4,List.map_set]
theorem BU(n:Nat):madeCells (Value.cells (.bool false)) (n*1)=c4 (List.replicate n false):=by
 apply Array.ext
 ·simp[madeCells,c4]
 ·intro i h1 h2
  simp[madeCells,c4,Value.cells,Nat.mod_one]
def iM(B:Hp)(v:Value)(l:List Bool):Prop:=Sl 1 B v (l.map fun b=>[Value.bool b])
theorem iM.block{B:Hp}{b cap:Nat}{l:List Bool}{T:TypeId}{fz:Nat×Nat}(hm:(b,Obj.cells (c4 l) T fz)∈B)(hc:l.length≤cap):iM B (.slice (some ⟨b,0,none⟩) l.length cap) l:=by
 refine⟨fun r hr=>by obtain⟨b,_,rfl⟩:=List.mem_map.1 hr;rfl,.inr ⟨b,0,cap,_,T,fz,by simp,by simpa using hc,hm,by simp[c4],fun i r hi j v hj=>?_⟩⟩
 rw[List.getElem?_map]at hi
 cases hl:l[i]? with
 |none=>rw[hl]at hi;simp at hi
 |some n=>
  rw[hl]at hi
  simp only[Option.map_some,Option.some.injEq]at hi
  subst hi
  cases j with
  |zero=>
   simp only[List.getElem?_cons_zero,Option.some.injEq]at hj
   subst hj
   simp[c4,hl]
  |succ j=>simp at hj
theorem iM.mono{B B':Hp}{v:Value}{l:List Bool}(h:iM B v l)(hs:∀x∈B,x∈B'):iM B' v l:=Sl.mono h hs
theorem iM.aR{B:Hp}{v:Value}{l:List Bool}(h:iM B v l){K:Value→Prop}(hk:K (.int .i64 l.length)):aG v K:=Sl.aR h (by simpa using hk)
theorem iM.ld{kd:IntKind}{B H:Hp}{v:Value}{l:List Bool}(h:iM B v l){i:Nat}{b:Bool}(hi:l[i]? =some b)(hs:∀x∈B,x∈H){K:Value→Prop}(hk:K (.bool b)):ah 1 v (.int kd (i:Int)) (fun p=>Ld H p K):=
 ah.sl h (by rw[List.getElem?_map,hi];rfl) fun p hp=>Ld.at hp hs hk
theorem cc.og{H:Hp}{T:TypeId}{kl:IntKind}{n:Nat}{K:Value→Hp→Prop}(bE:n≤281474976710656)
 (h:∀b,K (.slice (some ⟨b,0,none⟩) n n) ((b,.cells (c4 (List.replicate n false)) T (0,0))::H)):cc T 1 1 (.bool false) H (.int kl n) (.int kl n) K:=
 ⟨kl,kl,n,n,rfl,rfl,Nat.le_refl _,by omega,by omega,fun b _=>by rw[BU];exact h b⟩
theorem St.og{H:Hp}{b i:Nat}{l:List Bool}{x:Bool}{T:TypeId}{H':Hp}{K:Hp→Prop}(hu:cJ b (.cells (c4 l) T (0,0)) (.cells (c4 (l.set i x)) T (0,0)) H H')(hi:i<l.length)(h:K H'):
  St 1 H (.pointer (some ⟨b,0+i*1,none⟩)) (.bool x) K:=
 St.one (c:=c4 l) (c':=c4 (l.set i x)) hu rfl (by simpa[c4]using hi) (by rw[Nat.zero_add,Nat.mul_one];exact Dc l i x) h
def dM(n:Nat)(bs:List Bool)(k:Nat):List Nat:=(List.range (aj.wN n)).map fun i=>aj.eX bs i (min 64 (k-64*i))
theorem IT{n:Nat}{bs:List Bool}{k:Nat}:∀w∈dM n bs k,w<18446744073709551616:=fun w hw=>by
 obtain⟨i,_,rfl⟩:=List.mem_map.1 hw
 exact Nat.lt_of_lt_of_le (aj.pg bs i _) (Nat.pow_le_pow_right (n:=2) (by decide) (by omega:min 64 (k-64*i)≤64))
theorem Ao{n k:Nat}{bs:List Bool}(h:bs.getD k false=false):dM n bs (k+1)=dM n bs k:=by
 apply List.map_congr_left
 intro i _
 by_cases hi:64*i≤k∧k<64*i+64
 ·rw[show min 64 (k+1-64*i)=(k-64*i)+1 by omega,show min 64 (k-64*i)=k-64*i by omega,aj.eX,show 64*i+(k-64*i)=k by omega,h];simp
 ·rw[show min 64 (k+1-64*i)=min 64 (k-64*i)by omega]
theorem CQ{n k:Nat}{bs:List Bool}(h:bs.getD k false=true)(hk:k/64<aj.wN n):(dM n bs k)[k/64]? =some (aj.eX bs (k/64) (k%64))∧(dM n bs k).set (k/64) (aj.eX bs (k/64) (k%64)+2^(k%64))=dM n bs (k+1):=by
 have e:min 64 (k-64*(k/64))=k%64:=by omega
 refine⟨by simp[dM,hk,e],?_⟩
 apply List.ext_getElem?
 intro j
 by_cases hj:j=k/64
 ·subst hj
  rw[List.getElem?_set_self (by simp[dM,hk])]
  simp only[dM,List.getElem?_map,List.getElem?_range hk,Option.map_some,Option.some.injEq]
  rw[show min 64 (k+1-64*(k/64))=k%64+1 by omega]
  exact aj.vH (by rw[show 64*(k/64)+k%64=k by omega];exact h)
 ·rw[List.getElem?_set_ne (Ne.symm hj)]
  by_cases hlt:j<aj.wN n
  ·simp only[dM,List.getElem?_map,List.getElem?_range hlt,Option.map_some,Option.some.injEq]
   rw[show min 64 (k+1-64*j)=min 64 (k-64*j)by omega]
  ·rw[List.getElem?_eq_none (by simp[dM];omega),List.getElem?_eq_none (by simp[dM];omega)]
theorem sC{n:Nat}(hn:n≤16){B:Hp}{v:Value}{bs:List Bool}(hb:iM B v bs)(hl:bs.length≤64*aj.wN n)(hn':bs.length≤64*aj.wN n):
  Px Tryz.prog 98 #[.int .i64 (n:Int),v] B (fun v H=>j5 H v ⟨n,aj.ik n (bs)⟩):=by
 intro g
 have MG:=aj.rj hn
 refine Jp (R:=aF _) ?_
 unfold L98
 intro b1 _
 refine ag.rd (.cons .here) (vU hn B) ?_
 rintro v rfl
 refine cc.ints (gI hn).1 (gI hn).2 fun bw=>?_
 refine Build.mk (cs:=[.int .i64 (n:Int),.slice (some ⟨bw,0,none⟩) (aj.wN n) (aj.wN n)]) (by kernel_rfl) ?_
 intro b8 _
 refine St.whole (r:=[.int .i64 (n:Int),.slice (some ⟨bw,0,none⟩) (aj.wN n) (aj.wN n)]) (by exact cJ.head _) rfl rfl (by simp[Value.oneCell']) ?_
 refine⟨fun vs H=>∃k:Nat,vs=[.int .i64 (k:Int)]∧k≤bs.length∧H=(b8,.cells (List.toArray [.int .i64 (n:Int),.slice (some ⟨bw,0,none⟩) (aj.wN n) (aj.wN n)]) 57 (0,0))::
   (bw,.cells (aC .u64 (iw (dM n bs k))) 50 (0,0))::(b1,.cells #[.int .i64 0,.slice none 0 0] 57 (0,0))::B,
  fun vs _=>bs.length-bg vs 0,JE.mk ⟨0,rfl,by omega,?_⟩,?_⟩
 ·have:List.replicate (aj.wN n) (0:Int)=iw (dM n bs 0):=by
   apply List.ext_getElem?
   intro j
   unfold iw dM
   by_cases hj:j<aj.wN n
   ·simp[hj,aj.eX]
   ·rw[List.getElem?_eq_none (by simp;omega),List.getElem?_eq_none (by simp;omega)]
  rw[this]
 rintro w H ⟨k,hv,hk,rfl⟩ gs
 simp only[List.cons.injEq,and_true]at hv
 subst hv
 refine hb.aR (ae.dz (Br.dec (fun hlt=>?_) (fun hlt=>?_)))
 ·intro J hJ
  have hg:bs[k]? =some bs[k]:=List.getElem?_eq_getElem hlt
  have hgd:bs.getD k false=bs[k]:=by rw[List.getD_eq_getElem?_getD,hg];rfl
  refine hb.ld hg zS ?_
  cases Wd:bs[k]
  ·refine Br.no (JE.mk (hJ _ fun gs=>?_))
   refine ae.aH (b:=1) (by simp[aB];omega) ?_
   exact ay.mk ⟨k+1,rfl,by omega,by rw[Ao (by rw[hgd,Wd])]⟩ (by simp[bg];omega)
  ·obtain⟨f1,f2⟩:=CQ (n:=n) (k:=k) (bs:=bs) (by rw[hgd,Wd]) (by omega)
   refine Br.yes (DR.self ?_)
   refine aa.mk (Ld.mk zM rfl ?_)
   refine ae.vy (b:=64) (by simp[aB];omega) (by decide) ?_
   have hlen:(dM n bs k).length=aj.wN n:=by simp[dM]
   refine ah.nat (by omega) ?_
   refine Ld.mk (v:=.int .u64 ((aj.eX bs (k/64) (k%64):Nat):Int)) (by exact .tail _ (.head _)) ?_ ?_
   ·simp only[aC,Nat.zero_add,Nat.mul_one,List.getElem?_toArray,List.getElem?_map,cj f1,Option.map_some]
   refine ae.Ij (b:=64) (by decide) ?_
   refine ae.pB (a:=1) ?_
   have h2:2^(k%64)<18446744073709551616:=Nat.pow_lt_pow_right (a:=2) (n:=64) (by decide) (Nat.mod_lt _ (by decide))
   rw[Nat.one_shiftLeft,Nat.mod_eq_of_lt h2]
   have h3:=aj.pg bs (k/64) (k%64+1)
   have h4:2^(k%64+1)≤18446744073709551616:=Nat.pow_le_pow_right (n:=2) (by decide) (by have:=Nat.mod_lt k (by decide:64>0);omega:k%64+1≤64)
   rw[←aj.vH (by rw[show 64*(k/64)+k%64=k by omega,hgd,Wd])]at h3
   refine ae.aH (by simp only[aB];omega) ?_
   refine ah.nat (by omega) ?_
   refine St.ints (l:=iw (dM n bs k)) (by exact .tail (.head _)) (by simp;omega) ?_
   have e:(iw (dM n bs k)).set (k/64) ((aj.eX bs (k/64) (k%64)+2^(k%64):Nat):Int)=iw (dM n bs (k+1)):=by rw[←f2];simp[iw,List.map_set]
   rw[e]
   refine JE.mk (hJ _ fun gs=>?_)
   refine ae.aH (b:=1) (by simp[aB];omega) ?_
   exact ay.mk ⟨k+1,rfl,by omega,rfl⟩ (by simp[bg];omega)
 ·have:k=bs.length:=by omega
  subst this
  have fm:dM n bs bs.length=aj.ik n bs:=by
   apply List.map_congr_left
   intro i _
   apply Nat.eq_of_testBit_eq;intro j
   rw[aj.c9,aj.c9]
   by_cases h1:64*i+j<bs.length
   ·by_cases h2:j<64
    ·rw[show decide (j<min 64 (bs.length-64*i))=true by simp;omega,show decide (j<64)=true by simpa using h2]
    ·rw[show decide (j<min 64 (bs.length-64*i))=false by simp;omega,show decide (j<64)=false by simpa using h2]
   ·have:bs.getD (64*i+j) false=false:=by rw[List.getD_eq_getElem?_getD,List.getElem?_eq_none (by omega)];rfl
    rw[this];simp
  rw[fm]
  refine az.whole (r:=[.int .i64 (n:Int),.slice (some ⟨bw,0,none⟩) (aj.wN n) (aj.wN n)]) (by exact List.Mem.head _) rfl ?_
  refine St.whole (r:=[.int .i64 (n:Int),.slice (some ⟨bw,0,none⟩) (aj.wN n) (aj.wN n)]) (by exact .tail (.tail (.head _))) rfl rfl (by simp[Value.oneCell']) ?_
  refine az.whole (r:=[.int .i64 (n:Int),.slice (some ⟨bw,0,none⟩) (aj.wN n) (aj.wN n)]) (by exact .tail _ (.tail _ (.head _))) rfl ?_
  refine oV.mk (by repeat (first|exact aV.refl _|apply aV.cons|apply aV.app)) ⟨_,rfl,?_⟩
  have hlt:∀w∈aj.ik n bs,w<18446744073709551616:=by rw[←fm];exact IT
  have:=Words.block (b:=bw) (cap:=aj.wN n) (ws:=aj.ik n bs) (T:=50) (fz:=(0,0)) (B:=(b8,.cells (List.toArray [.int .i64 (n:Int),.slice (some ⟨bw,0,none⟩) (aj.wN n) (aj.wN n)]) 57 (0,0))::
   (bw,.cells (aC .u64 (iw (aj.ik n bs))) 50 (0,0))::(b1,.cells (List.toArray [.int .i64 (n:Int),.slice (some ⟨bw,0,none⟩) (aj.wN n) (aj.wN n)]) 57 (0,0))::B) (by exact .tail _ (.head _)) (by simp[aj.ik]) hlt
  simpa[aj.ik]using this
def Bh(n v:Nat):List Bool:=(List.range (2^n)).map fun x=>x.testBit v
theorem Tq{W v i:Nat}(hi:i<W):((List.range W).map fun k=>if k<i then k.testBit v else false).set i (i.testBit v)=(List.range W).map fun k=>if k<i+1 then k.testBit v else false:=by
 apply List.ext_getElem?
 intro j
 by_cases e:i=j
 ·subst e;simp[hi]
 ·rw[List.getElem?_set_ne e]
  by_cases hj:j<W
  ·simp only[List.getElem?_map,List.getElem?_range hj,Option.map_some]
   by_cases h2:j<i
   ·rw[if_pos h2,if_pos (by omega)]
   ·rw[if_neg h2,if_neg (by omega)]
  ·rw[List.getElem?_eq_none (by simp;omega),List.getElem?_eq_none (by simp;omega)]
theorem iX{n:Nat}:2^n≤64*aj.wN n:=by
 by_cases h:6≤n
 ·rw[aj.sM h]
  have:2^n=64*2^(n-6):=by rw[show(64:Nat)=2^6 by rfl,←Nat.pow_add];congr 1;omega
  omega
 ·have h1:2^n≤32:=Nat.pow_le_pow_right (n:=2) (by decide) (by omega:n≤5)
  have:=aj.Bd n;omega
theorem Tr{n v:Nat}(hn:n≤16)(hv:v<64)(B:Hp):Px Tryz.prog 224 #[.int .i64 (n:Int),.int .i64 (v:Int)] B (fun r H=>j5 H r ⟨n,aj.ik n (Bh n v)⟩):=by
 intro g
 have hp:2^n≤65536:=Nat.pow_le_pow_right (n:=2) (by decide) hn
 refine D7 (R:=aF _) ?_
 unfold L224
 intro b1 _
 refine ae.r3 (a:=1) (by simp[IntKind.bits];omega) (by rw[Nat.one_shiftLeft];simp[aB];omega) ?_
 rw[Nat.one_shiftLeft]
 refine cc.og (by omega) fun b2=>?_
 have e0:List.replicate (2^n) false=(List.range (2^n)).map fun k=>if k<0 then k.testBit v else false:=by
  apply List.ext_getElem?
  intro j
  by_cases hj:j<2^n
  ·simp[hj]
  ·rw[List.getElem?_eq_none (by simp;omega),List.getElem?_eq_none (by simp;omega)]
 rw[e0]
 refine⟨fun vs H=>∃k:Nat,vs=[.int .i64 (k:Int)]∧k≤2^n∧H=(b1,.cells #[.int .i64 0,.slice none 0 0] 57 (0,0))::(b2,.cells (c4 ((List.range (2^n)).map fun j=>if j<k then j.testBit v else false)) 4 (0,0))::B,
  fun vs _=>2^n-bg vs 0,JE.of .swap ⟨0,rfl,Nat.zero_le _,rfl⟩,?_⟩
 rintro w H ⟨k,hv,hk,rfl⟩ gs
 simp only[List.cons.injEq,and_true]at hv
 subst hv
 refine aG.mk (ae.dz (Br.dec (fun hlt=>?_) (fun hlt=>?_)))
 ·refine ae.jU (by simp[aB];omega) (ae.Ij (b:=2) (by decide) (ae.gz (b:=1) ?_))
  have e1:decide ((k>>>v)%2=1)=k.testBit v:=by
   cases hb:k.testBit v
   ·rw[decide_eq_false];rw[aj.sF,hb];simp
   ·rw[decide_eq_true];rw[aj.sF,hb]
  rw[e1]
  refine ah.nat hlt ?_
  refine St.og (l:=(List.range (2^n)).map fun j=>if j<k then j.testBit v else false) (by exact .tail (.head _)) (by simpa using hlt) ?_
  rw[Tq hlt]
  refine ae.aH (b:=1) (by simp[aB];omega) ?_
  exact ay.mk ⟨k+1,rfl,by omega,rfl⟩ (by simp[bg];omega)
 ·have:k=2^n:=by omega
  subst this
  have e2:((List.range (2^n)).map fun j=>if j<2^n then j.testBit v else false)=Bh n v:=List.map_congr_left fun k hk=>by rw[if_pos (List.mem_range.1 hk)]
  rw[e2]
  have hlen:(Bh n v).length=2^n:=by simp[Bh]
  have hB:=iM.block (b:=b2) (cap:=2^n) (l:=Bh n v) (T:=4) (fz:=(0,0)) (B:=(b2,.cells (c4 (Bh n v)) 4 (0,0))::B) (.head _) (by omega)
  rw[hlen]at hB
  refine ag.px (.cons .here) (sC hn hB (by rw[hlen];exact iX) (by rw[hlen];exact iX)) ?_
  rintro r N ⟨s,rfl,hw⟩
  have hone:=aD hw
  refine St.whole (r:=[.int .i64 (n:Int),s]) (by exact .head _) rfl rfl (by simpa[Value.oneCell']using hone) ?_
  refine az.whole (r:=[.int .i64 (n:Int),s]) (by exact .head _) rfl ?_
  exact oV.mk (by repeat (first|exact aV.refl _|apply aV.cons|apply aV.app)) ⟨s,rfl,hw.mono zS⟩
theorem Pt{v:Nat}(hv:v<6)(B:Hp):Px Tryz.prog 224 #[.int .i64 6,.int .i64 (v:Int)] B (fun r H=>j5 H r ⟨6,[aj.mask v]⟩):=
 (Tr (n:=6) (by decide) (by omega) B).mono fun r H ⟨h1,h2⟩=>⟨h1,by
  have e:aj.ik 6 (Bh 6 v)=[aj.mask v]:=by
   have:aj.wN 6=1:=rfl
   simp only[aj.ik,this,List.range_one,List.map_cons,List.map_nil,List.cons.injEq,and_true]
   exact aj.Im v
  rw[e]at h2;exact h2⟩
theorem N9{n u i:Nat}{ws:List Nat}{c:Bool}(hf:aj.cB n ws)(hu:u<n)(hi:i<aj.wN n):
  (iw ((List.range (aj.wN n)).map fun k=>if k<i then aj.dG ws u c k&&&aj.ct n else 0)).set i ((aj.dG ws u c i:Nat):Int)=iw ((List.range (aj.wN n)).map fun k=>if k<i+1 then aj.dG ws u c k&&&aj.ct n else 0):=by
 have:=vZ (G:=fun k=>aj.dG ws u c k&&&aj.ct n) hi
 rw[aj.Cy hf hu hi]at this
 exact this
def qT(qb bw b3 b1 n u i:Nat)(s:Value)(ws:List Nat)(c:Bool)(B:Hp):Hp:=
 (qb,.cells (List.toArray [.int .i64 (n:Int),.slice (some ⟨bw,0,none⟩) (aj.wN n) (aj.wN n)]) 57 (0,0))::
    (bw,.cells (aC .u64 (iw ((List.range (aj.wN n)).map fun k=>if k<i then aj.dG ws u c k&&&aj.ct n else 0))) 50 (0,0))::(b3,.cells #[.int .i64 0,.slice none 0 0] 57 (0,0))::(b1,.cells (Value.cells (.agg #[.int .i64 (n:Int),s])) 57 (0,0))::B
theorem ny{B:Hp}{v:Value}{n u:Nat}{ws:List Nat}{c:Bool}(ht:j5 B v ⟨n,ws⟩)(hf:aj.cB n ws)(hu:u<n):
  Px Tryz.prog 163 #[v,.int .i64 (u:Int),.bool c] B (fun v H=>j5 H v ⟨n,aj.ed n ws u c⟩):=by
 obtain⟨s,rfl,hs,hw⟩:=ht
 simp only at hs hw
 have hn:=hf.lN
 have MG:=aj.rj hn
 have aic:=hf.len
 have hgs:∀j,j<aj.wN n→ws[j]? =some (ws.getD j 0):=fun j hj=>by rw[List.getElem?_eq_getElem (by omega),List.getD_eq_getElem?_getD,List.getElem?_eq_getElem (by omega)];rfl
 have hgl:∀j,j<aj.wN n→ws.getD j 0<18446744073709551616:=fun j hj=>hw _ (List.mem_of_getElem? (hgs j hj))
 intro g
 refine EP (R:=aF _) ?_
 unfold L163
 intro b1 _ b3 _
 refine DR.self ?_
 refine aa.mk (Ld.mk zM rfl ?_)
 refine aa.mk (Ld.mk zM rfl ?_)
 refine hs.aR ?_
 rw[an,hf.len]
 intro F
 refine cc.ints (gI hn).1 (gI hn).2 fun bw=>⟨.tail,?_⟩
 refine Build.mk (cs:=[.int .i64 (n:Int),.slice (some ⟨bw,0,none⟩) (aj.wN n) (aj.wN n)]) (by kernel_rfl) ?_
 intro qb _ F
 refine St.whole (r:=[.int .i64 (n:Int),.slice (some ⟨bw,0,none⟩) (aj.wN n) (aj.wN n)]) (by exact cJ.head _) rfl rfl (by simp[Value.oneCell']) ?_
 rw[range_zero (G:=fun k=>aj.dG ws u c k&&&aj.ct n)]
 have hend:∀N:Hp,aF (fun v H=>aV B H∧j5 H v ⟨n,aj.ed n ws u c⟩) (.returned (.agg (List.toArray [.int .i64 (n:Int),.slice (some ⟨bw,0,none⟩) (aj.wN n) (aj.wN n)])))
   (N++(bw,.cells (aC .u64 (iw (aj.ed n ws u c))) 50 (0,0))::B):=fun N=>by
  refine oV.mk (by repeat (first|exact aV.refl _|apply aV.cons|apply aV.app)) ⟨_,rfl,?_⟩
  have:=Words.block (b:=bw) (cap:=aj.wN n) (ws:=aj.ed n ws u c) (T:=50) (fz:=(0,0)) (B:=N++(bw,.cells (aC .u64 (iw (aj.ed n ws u c))) 50 (0,0))::B) (by exact List.mem_append_right _ (.head _)) (by simp[aj.ed]) (fun w hw=>(aj.cH hn).lt hw)
  simpa[aj.ed]using this
 have SD:∀N:Hp,az 2 (qT qb bw b3 b1 n u (aj.wN n) s ws c (N++B)) (.pointer (some ⟨qb,0,none⟩)) fun ja=>St 2 (qT qb bw b3 b1 n u (aj.wN n) s ws c (N++B)) (.pointer (some ⟨b3,0,none⟩)) ja fun G7=>
   az 2 G7 (.pointer (some ⟨b3,0,none⟩)) fun iW=>aF (fun v H=>aV B H∧j5 H v ⟨n,aj.ed n ws u c⟩) (.returned iW) G7:=fun N=>by
  unfold qT
  rw[th]
  refine az.whole (r:=[.int .i64 (n:Int),.slice (some ⟨bw,0,none⟩) (aj.wN n) (aj.wN n)]) (by exact List.Mem.head _) rfl ?_
  refine St.whole (r:=[.int .i64 (n:Int),.slice (some ⟨bw,0,none⟩) (aj.wN n) (aj.wN n)]) (by exact .tail (.tail (.head _))) rfl rfl (by simp[Value.oneCell']) ?_
  refine az.whole (r:=[.int .i64 (n:Int),.slice (some ⟨bw,0,none⟩) (aj.wN n) (aj.wN n)]) (by exact .tail _ (.tail _ (.head _))) rfl ?_
  obtain⟨v,H,h1,h2,h3⟩:=hend []
  exact⟨v,H,h1,.skip (aO.trans (.cons (.skip (.skip .right))) h2),h3⟩
 refine ae.qP (a:=u) (b:=6) (Br.dec (fun h6=>?_) (fun h6=>?_))
 ·have hp:2^(u-6)≤1024:=Nat.pow_le_pow_right (n:=2) (by decide) (by omega:u-6≤10)
  have wx:=Nat.two_pow_pos (u-6)
  refine ae.bH (b:=6) (by simp[aB];omega) h6 ?_
  refine ae.r3 (a:=1) (by simp[IntKind.bits];omega) (by rw[Nat.one_shiftLeft];simp[aB];omega) ?_
  rw[Nat.one_shiftLeft]
  refine⟨fun vs H=>∃i:Nat,vs=[.int .i64 (i:Int)]∧i≤aj.wN n∧H=qT qb bw b3 b1 n u i s ws c ([]++B),fun vs _=>aj.wN n-bg vs 0,JE.mk ⟨0,rfl,Nat.zero_le _,rfl⟩,?_⟩
  rintro w H ⟨i,hv,hi,rfl⟩ gs
  simp only[List.cons.injEq,and_true]at hv
  subst hv
  by_cases hlt:i<aj.wN n
  ·unfold qT
   refine aa.mk (Ld.mk zM rfl ?_)
   refine hs.aR ?_
   rw[an,hf.len]
   refine ae.dz (Br.gf hlt ?_)
   obtain⟨sd1,sd2⟩:=aj.LG i (u-6)
   have hq:i/2^(u-6)≤i:=Nat.div_le_self _ _
   have hm:i/2^(u-6)%2*2^(u-6)≤i:=by
    have h1:=Nat.div_add_mod i (2^(u-6))
    have h2:i/2^(u-6)%2*2^(u-6)≤2^(u-6)*(i/2^(u-6)):=by rw[Nat.mul_comm];exact Nat.mul_le_mul_left _ (Nat.mod_le _ _)
    omega
   refine ae.vy (by simp[aB];omega) (by omega) (ae.Ij (b:=2) (by decide) ?_)
   refine ae.lg (by simp only[aB];omega) (ae.bH (by simp[aB];omega) hm ?_)
   have QF:aj.aI i (u-6) c<aj.wN n:=by
    rw[aj.sM (by omega)]at hlt⊢
    exact aj.fj hlt (by omega)
   intro J hJ
   have fm:JE J [.int .i64 ((aj.aI i (u-6) c:Nat):Int)] (qT qb bw b3 b1 n u i s ws c ([]++B)):=by
    refine JE.mk (hJ _ _ fun gs=>?_)
    unfold qT
    refine DR.self ?_
    refine aa.mk (Ld.mk zM rfl ?_)
    refine aa.mk (Ld.mk zM rfl ?_)
    refine hs.ld (cj (hgs _ QF)) zS ?_
    refine ah.nat hlt ?_
    refine St.ints (l:=iw _) (by exact .tail (.head _)) (by simpa using hlt) ?_
    have e:aj.dG ws u c i=ws.getD (aj.aI i (u-6) c) 0:=by unfold aj.dG;rw[if_pos h6]
    rw[←e,N9 hf hu hlt]
    refine ae.aH (b:=1) (by simp[aB];omega) ?_
    exact ay.mk ⟨i+1,rfl,by omega,rfl⟩ (by simp[bg];omega)
   unfold qT at fm
   cases c
   ·refine Br.no ?_
    rw[sd1];exact fm
   ·refine Br.yes ?_
    refine ae.aH (by simp only[aB];omega) ?_
    rw[sd2];exact fm
  ·have:i=aj.wN n:=by omega
   subst this
   have:=SD []
   unfold qT at this⊢
   refine aa.mk (Ld.mk zM rfl ?_)
   refine hs.aR ?_
   rw[an,hf.len]
   exact ae.dz (Br.cq hlt this)
 ·have hp:2^u≤32:=Nat.pow_le_pow_right (n:=2) (by decide) (by omega:u≤5)
  have hm:=aj.su u
  refine ag.px (B:=B) (.cons (.cons (.cons (.cons .here)))) (Pt (by omega) B) ?_
  rintro r N ⟨sm,rfl,hsm,_⟩
  refine Bb.mk rfl ?_
  refine hsm.ld (i:=0) (n:=(aj.mask u:Int)) rfl zS ?_
  refine⟨fun vs H=>∃i:Nat,vs=[.int .i64 (i:Int)]∧i≤aj.wN n∧H=qT qb bw b3 b1 n u i s ws c (N++B),fun vs _=>aj.wN n-bg vs 0,JE.mk ⟨0,rfl,Nat.zero_le _,rfl⟩,?_⟩
  rintro w H ⟨i,hv,hi,rfl⟩ gs
  simp only[List.cons.injEq,and_true]at hv
  subst hv
  by_cases hlt:i<aj.wN n
  ·have Nn:∀J:List Value→Hp→Prop,J [] (qT qb bw b3 b1 n u (i+1) s ws c (N++B))→JE J [] ((qb,.cells (List.toArray [.int .i64 (n:Int),.slice (some ⟨bw,0,none⟩) (aj.wN n) (aj.wN n)]) 57 (0,0))::
    (bw,.cells (aC .u64 ((iw ((List.range (aj.wN n)).map fun k=>if k<i then aj.dG ws u c k&&&aj.ct n else 0)).set i ((aj.dG ws u c i:Nat):Int))) 50 (0,0))::(b3,.cells #[.int .i64 0,.slice none 0 0] 57 (0,0))::(b1,.cells (Value.cells (.agg #[.int .i64 (n:Int),s])) 57 (0,0))::(N++B)):=fun J hJ=>by
    rw[N9 hf hu hlt];exact JE.mk hJ
   unfold qT
   refine aa.mk (Ld.mk zM rfl ?_)
   refine hs.aR ?_
   rw[an,hf.len]
   refine ae.dz (Br.gf hlt ?_)
   intro J hJ
   have Kx:=hgl i hlt
   have fm:=Nn J (hJ _ fun gs=>by
    refine ae.aH (b:=1) (by simp[aB];omega) ?_
    exact ay.mk ⟨i+1,rfl,by omega,rfl⟩ (by simp[bg];omega))
   cases c
   ·refine Br.no ?_
    refine aa.mk (Ld.mk zM rfl ?_)
    refine hs.ld (cj (hgs i hlt)) zS ?_
    refine ae.AJ (by simpa[aB]using Kx) (by simpa[aB]using hm) ?_
    refine DR.self ?_
    refine aa.mk (Ld.mk zM rfl ?_)
    refine ae.pB (a:=1) ?_
    rw[Nat.one_shiftLeft,Nat.mod_eq_of_lt (by omega)]
    refine ae.pB ?_
    have:=jS (ws.getD i 0) (aj.mask u)
    refine ae.Gr (by simp only[aB];omega) (by simp only[aB];omega) ?_
    refine ah.nat hlt ?_
    refine St.ints (l:=iw _) (by exact .tail (.head _)) (by simpa using hlt) ?_
    have e:aj.dG ws u false i=lH (ws.getD i 0) (aj.mask u)|||(lH (ws.getD i 0) (aj.mask u)<<<2^u)%18446744073709551616:=by unfold aj.dG;rw[if_neg h6];rfl
    rw[←e];exact fm
   ·refine Br.yes ?_
    refine aa.mk (Ld.mk zM rfl ?_)
    refine hs.ld (cj (hgs i hlt)) zS ?_
    refine ae.jr (by simpa[aB]using Kx) (by simpa[aB]using hm) ?_
    have h1:ws.getD i 0&&&aj.mask u≤ws.getD i 0:=Nat.and_le_left
    refine DR.self ?_
    refine aa.mk (Ld.mk zM rfl ?_)
    refine ae.pB (a:=1) ?_
    rw[Nat.one_shiftLeft,Nat.mod_eq_of_lt (by omega)]
    refine ae.jU (by simp only[aB];omega) ?_
    have h2:=Nat.shiftRight_le (ws.getD i 0&&&aj.mask u) (2^u)
    refine ae.Gr (by simp only[aB];omega) (by simp only[aB];omega) ?_
    refine ah.nat hlt ?_
    refine St.ints (l:=iw _) (by exact .tail (.head _)) (by simpa using hlt) ?_
    have e:aj.dG ws u true i=(ws.getD i 0&&&aj.mask u)|||(ws.getD i 0&&&aj.mask u)>>>2^u:=by unfold aj.dG;rw[if_neg h6];rfl
    rw[←e];exact fm
  ·have:i=aj.wN n:=by omega
   subst this
   have:=SD N
   unfold qT at this⊢
   refine aa.mk (Ld.mk zM rfl ?_)
   refine hs.aR ?_
   rw[an,hf.len]
   exact ae.dz (Br.cq hlt this)
theorem ue{B:Hp}{v:Value}{n u:Nat}{ws:List Nat}(ht:j5 B v ⟨n,ws⟩)(hf:aj.cB n ws)(hu:u<n):
  Rd Tryz.prog 161 #[v,.int .i64 (u:Int)] B (· =.bool (aj.dep n ws u)):=by
 obtain⟨s,rfl,hw⟩:=ht
 intro g
 refine ES (R:=aF _) ?_
 unfold L161
 intro b1 _
 refine DR.self ?_
 refine az.whole (r:=[.int .i64 (n:Int),s]) (by exact .head _) rfl (az.whole (r:=[.int .i64 (n:Int),s]) (by exact .head _) rfl ?_)
 refine ag.px (.cons .here) (ny (v:=.agg (List.toArray [.int .i64 (n:Int),s])) (n:=n) (ws:=ws) ⟨s,rfl,hw⟩ hf hu) ?_
 rintro v N h1
 refine⟨.cons .right,?_⟩
 refine ag.px (B:=N++B) (.cons .here) (ny (v:=.agg (List.toArray [.int .i64 (n:Int),s])) (n:=n) (ws:=ws) ⟨s,rfl,hw.mono zS⟩ hf hu) ?_
 rintro v N' h2
 refine⟨.cons (.bN .right),?_⟩
 have f1:=fQ (aj.cH (v:=u) (ws:=ws) (b:=false) hf.lN)
 refine ag.rd (B:=N'++(N++B)) (.cons .here) (kV (h1.mono zS) h2 (by simp only;omega)) ?_
 rintro v rfl
 refine⟨.cons (.bN .right),Un.not ?_⟩
 refine bO.mk (.skip (.bN .right)) ?_
 congr 1
 simp[aj.dep]
def gy(n:Nat)(L:List (List Nat)):List Tb:=L.map fun ws=>⟨n,ws⟩
theorem aW(n:Nat)(L:List (List Nat)):(gy n L).length=L.length:=by simp[gy]
theorem kU{n:Nat}{L:List (List Nat)}{i:Nat}{ws:List Nat}(h:L[i]? =some ws):(gy n L)[i]? =some ⟨n,ws⟩:=by simp[gy,h]
theorem j9(n:Nat)(L:List (List Nat))(ws:List Nat):gy n L++[⟨n,ws⟩]=gy n (L++[ws]):=by simp[gy]
theorem MC{B:Hp}{v1 v2:Value}{n:Nat}{L:List (List Nat)}{ws:List Nat}(hL:cT B v1 (gy n L))(hf:∀t∈L,aj.cB n t)(ht:j5 B v2 ⟨n,ws⟩)(QA:ws.length≤4294967296)(bE:L.length<4611686018427387904):
  Rd Tryz.prog 260 #[v1,v2] B (· =.bool (decide (ws∈L))):=by
 obtain⟨s,rfl,hw⟩:=ht
 intro g
 refine DH (R:=aF _) ?_
 unfold L260
 intro b1 _
 refine hL.aR ?_
 rw[aW]
 refine⟨fun vs H=>∃(k:Nat) (N:Hp),vs=[.int .i64 (k:Int)]∧k≤L.length∧H=N++((b1,.cells (Value.cells (.agg #[.int .i64 (n:Int),s])) 57 (0,0))::B)∧ws∉L.take k,fun vs _=>L.length-bg vs 0,JE.mk ⟨0,[],rfl,by omega,rfl,by simp⟩,?_⟩
 rintro w H ⟨k,N,hv,hk,rfl,hno⟩ gs
 simp only[List.cons.injEq,and_true]at hv
 subst hv
 refine ae.dz (Br.dec (fun hlt=>?_) (fun hlt=>?_))
 ·have hg:L[k]? =some L[k]:=List.getElem?_eq_getElem hlt
  have jF:=hf L[k] (List.getElem_mem hlt)
  refine hL.ld (kU hg) zS fun s' dx=>?_
  have hone:=aD dx
  intro b2 _
  refine St.whole (r:=[.int .i64 (n:Int),s']) (by exact .head _) rfl rfl (by simpa[Value.oneCell']using hone) ?_
  refine az.whole (r:=[.int .i64 (n:Int),s]) zM rfl ?_
  refine az.whole (r:=[.int .i64 (n:Int),s']) (by exact .head _) rfl ?_
  refine ag.rd .here (kV (v1:=.agg (List.toArray [.int .i64 (n:Int),s])) (v2:=.agg (List.toArray [.int .i64 (n:Int),s'])) (a:=⟨n,ws⟩) (b:=⟨n,L[k]⟩) ⟨s,rfl,hw.mono zS⟩ ⟨s',rfl,dx.mono zS⟩ ?_) ?_
  ·simp only;omega
  rintro v rfl
  simp only[Tb.mk.injEq,true_and]
  refine Br.dec (fun h=>?_) (fun h=>?_)
  ·exact bO.mk (.skip (.bN .tail)) (by rw[decide_eq_true];rw[h];exact List.getElem_mem hlt)
  ·refine ae.aH (b:=1) (by simp[aB];omega) ?_
   refine ay.mk ⟨k+1,_::N,rfl,by omega,rfl,?_⟩ (by simp[bg];omega)
   rw[List.take_succ_eq_append_getElem hlt,List.mem_append,List.mem_singleton]
   rintro(h1|h1)
   ·exact hno h1
   ·exact h h1
 ·have:k=L.length:=by omega
  subst this
  rw[List.take_length]at hno
  exact bO.mk (.bN .tail) (by rw[decide_eq_false hno])
def Jo(n:Nat)(B:Hp)(v:Value)(l:List (List Nat))(H:Hp):Prop:=∃C N,H=C++(N++B)∧fK 57 v (gy n l) C (N++B)
theorem Jo.nil(n:Nat)(B:Hp):Jo n B (.slice none 0 0) [] B:=⟨[],[],rfl,fK.nil⟩
theorem Jo.done{n:Nat}{B:Hp}{v:Value}{l:List (List Nat)}{H:Hp}(h:Jo n B v l H):aV B H∧cT H v (gy n l):=by
 obtain⟨C,N,rfl,ho⟩:=h
 exact⟨.app (.app (.refl _)),ho.xy (fun x hx=>List.mem_append_left _ hx) (fun x hx=>List.mem_append_right _ hx)⟩
theorem aj.y5{L:List (List Nat)}{k:Nat}(hlt:k<L.length):aj.dS (L.take (k+1))=aj.add (aj.dS (L.take k)) L[k]:=by
 rw[List.take_succ_eq_append_getElem hlt,aj.dS,List.foldl_append];rfl
theorem qt(L:List (List Nat)):(aj.dS L).length≤L.length:=by
 have:=aj.dY (fun a l=>aj.add l a) 1 (fun a l=>aj.gg l a) L []
 simpa[aj.dS]using this
theorem td{B:Hp}{v:Value}{n:Nat}{L:List (List Nat)}(hL:cT B v (gy n L))(hf:∀t∈L,aj.cB n t)(bE:L.length<4398046511103):
  Px Tryz.prog 228 #[v] B (fun r H=>cT H r (gy n (aj.dS L))):=by
 intro g
 refine D3 (R:=aF _) ?_
 unfold L228
 refine hL.aR ?_
 rw[aW]
 refine⟨fun vs H=>∃(k:Nat) (v:Value),vs=[v,.int .i64 (k:Int)]∧k≤L.length∧Jo n B v (aj.dS (L.take k)) H,fun vs _=>L.length-bg vs 1,JE.mk ⟨0,_,rfl,by omega,Jo.nil n B⟩,?_⟩
 rintro w6 w7 H ⟨k,v,hv,hk,hst⟩ gs
 simp only[List.cons.injEq,and_true]at hv
 obtain⟨rfl,rfl⟩:=hv
 refine ae.dz (Br.dec (fun hlt=>?_) (fun hlt=>?_))
 ·intro J hJ
  have yM:∀v H,Jo n B v (aj.dS (L.take (k+1))) H→J [v] H:=fun v H h=>hJ _ _ fun gs=>by
   refine ae.aH (b:=1) (by simp[aB];omega) ?_
   exact ay.mk ⟨k+1,v,rfl,by omega,h⟩ (by simp[bg];omega)
  obtain⟨C,N,rfl,ho⟩:=hst
  have hg:L[k]? =some L[k]:=List.getElem?_eq_getElem hlt
  have jF:=hf L[k] (List.getElem_mem hlt)
  have xR:=qt (L.take k)
  simp only[List.length_take]at xR
  refine hL.ld (kU hg) (fun x hx=>List.mem_append_right _ (List.mem_append_right _ hx)) fun s' dx=>?_
  have hone:=aD dx
  intro b2 _
  refine St.whole (r:=[.int .i64 (n:Int),s']) (by exact .head _) rfl rfl (by simpa[Value.oneCell']using hone) ?_
  refine az.whole (r:=[.int .i64 (n:Int),s']) (by exact .head _) rfl ?_
  refine ag.rd (B:=C++(N++B)) (.cons .here) (MC (v2:=.agg (List.toArray [.int .i64 (n:Int),s'])) (n:=n) (L:=aj.dS (L.take k)) (ws:=L[k]) (ho.xy (fun x hx=>List.mem_append_left _ hx) (fun x hx=>List.mem_append_right _ hx)) (fun t ht=>hf t (List.mem_of_mem_take (aj.cX.1 ht))) ⟨s',rfl,dx.mono zS⟩ (fQ jF) (by omega)) ?_
  rintro v rfl
  refine Un.not ?_
  rw[aj.y5 hlt,aj.add]at yM
  by_cases hin:L[k]∈aj.dS (L.take k)
  ·rw[decide_eq_true hin]
   rw[if_pos hin]at yM
   exact Br.no (JE.of .tail (yM _ _ ⟨C,N,rfl,ho⟩))
  ·rw[decide_eq_false hin]
   rw[if_neg hin]at yM
   refine Br.yes ?_
   refine az.whole (r:=[.int .i64 (n:Int),s']) (by exact .head _) rfl ?_
   refine eC fun xb=>?_
   refine ho.app (A:=[_,_]) (t:=⟨n,L[k]⟩) (s:=s') (by exact .head _) (dx.mono zS) (by rw[aW];omega) fun v' C' bX=>?_
   rw[j9]at bX
   exact JE.of (.skip .tail) (yM _ _ ⟨C',N,rfl,bX⟩)
 ·have:k=L.length:=by omega
  subst this
  rw[List.take_length]at hst
  obtain⟨h1,h2⟩:=hst.done
  exact oV.mk h1 h2
theorem BM{n u k:Nat}{L:List (List Nat)}(hlt:k<L.length):aj.nodes n (L.take (k+1)) u=if aj.dep n L[k] u then aj.nodes n (L.take k) u++[L[k]]else aj.nodes n (L.take k) u:=by
 rw[List.take_succ_eq_append_getElem hlt,aj.nodes,List.filter_append]
 cases h:aj.dep n L[k] u<;>simp[aj.nodes,h]
theorem HT{B:Hp}{v:Value}{n u:Nat}{L:List (List Nat)}(hL:cT B v (gy n L))(hf:∀t∈L,aj.cB n t)(hu:u<n)(bE:L.length<4398046511103):
  Px Tryz.prog 258 #[v,.int .i64 (u:Int)] B (fun r H=>cT H r (gy n (aj.nodes n L u))):=by
 intro g
 refine DJ (R:=aF _) ?_
 unfold L258
 refine hL.aR ?_
 rw[aW]
 refine⟨fun vs H=>∃(k:Nat) (v:Value),vs=[v,.int .i64 (k:Int)]∧k≤L.length∧Jo n B v (aj.nodes n (L.take k) u) H,fun vs _=>L.length-bg vs 1,JE.mk ⟨0,_,rfl,by omega,Jo.nil n B⟩,?_⟩
 rintro w6 w7 H ⟨k,v,hv,hk,hst⟩ gs
 simp only[List.cons.injEq,and_true]at hv
 obtain⟨rfl,rfl⟩:=hv
 refine ae.dz (Br.dec (fun hlt=>?_) (fun hlt=>?_))
 ·intro J hJ
  have yM:∀v H,Jo n B v (aj.nodes n (L.take (k+1)) u) H→J [v] H:=fun v H h=>hJ _ _ fun gs=>by
   refine ae.aH (b:=1) (by simp[aB];omega) ?_
   exact ay.mk ⟨k+1,v,rfl,by omega,h⟩ (by simp[bg];omega)
  obtain⟨C,N,rfl,ho⟩:=hst
  have hg:L[k]? =some L[k]:=List.getElem?_eq_getElem hlt
  have jF:=hf L[k] (List.getElem_mem hlt)
  have xR:(aj.nodes n (L.take k) u).length≤(L.take k).length:=List.length_filter_le _ _
  simp only[List.length_take]at xR
  refine hL.ld (kU hg) (fun x hx=>List.mem_append_right _ (List.mem_append_right _ hx)) fun s' dx=>?_
  have hone:=aD dx
  intro b2 _
  refine St.whole (r:=[.int .i64 (n:Int),s']) (by exact .head _) rfl rfl (by simpa[Value.oneCell']using hone) ?_
  refine az.whole (r:=[.int .i64 (n:Int),s']) (by exact .head _) rfl ?_
  refine ag.rd (B:=C++(N++B)) (.cons .here) (ue (v:=.agg (List.toArray [.int .i64 (n:Int),s'])) (n:=n) (ws:=L[k]) ⟨s',rfl,dx.mono zS⟩ jF hu) ?_
  rintro v rfl
  rw[BM hlt]at yM
  cases hd:aj.dep n L[k] u<;>rw[hd]at yM<;>simp only[Bool.false_eq_true,if_false,if_true]at yM
  ·exact Br.no (JE.of .tail (yM _ _ ⟨C,N,rfl,ho⟩))
  ·refine Br.yes ?_
   refine az.whole (r:=[.int .i64 (n:Int),s']) (by exact .head _) rfl ?_
   refine eC fun xb=>?_
   refine ho.app (A:=[_,_]) (t:=⟨n,L[k]⟩) (s:=s') (by exact .head _) (dx.mono zS) (by rw[aW];omega) fun v' C' bX=>?_
   rw[j9]at bX
   exact JE.of (.skip .tail) (yM _ _ ⟨C',N,rfl,bX⟩)
 ·have:k=L.length:=by omega
  subst this
  rw[List.take_length]at hst
  obtain⟨h1,h2⟩:=hst.done
  exact oV.mk h1 h2
theorem CI{n u k:Nat}{L:List (List Nat)}(hlt:k<L.length):aj.given n (L.take (k+1)) u=aj.add (aj.add (aj.given n (L.take k) u) (aj.ed n L[k] u false)) (aj.ed n L[k] u true):=by
 rw[List.take_succ_eq_append_getElem hlt,aj.given,List.foldl_append];rfl
theorem Af(n u:Nat)(L:List (List Nat)):(aj.given n L u).length≤2*L.length:=by
 have h:=aj.dY (fun t acc=>aj.add (aj.add acc (aj.ed n t u false)) (aj.ed n t u true)) 2 (fun a l=>by have h1:=aj.gg (aj.add l (aj.ed n a u false)) (aj.ed n a u true);have h2:=aj.gg l (aj.ed n a u false);omega) L []
 simpa[aj.given]using h
theorem HU{B:Hp}{v:Value}{n u:Nat}{L:List (List Nat)}(hL:cT B v (gy n L))(hf:∀t∈L,aj.cB n t)(hn:n≤16)(hu:u<n)(bE:L.length<2199023255551):
  Px Tryz.prog 259 #[v,.int .i64 (u:Int)] B (fun r H=>cT H r (gy n (aj.given n L u))):=by
 intro g
 refine DI (R:=aF _) ?_
 unfold L259
 refine hL.aR ?_
 rw[aW]
 refine⟨fun vs H=>∃(k:Nat) (v:Value),vs=[v,.int .i64 (k:Int)]∧k≤L.length∧Jo n B v (aj.given n (L.take k) u) H,fun vs _=>L.length-bg vs 1,JE.mk ⟨0,_,rfl,by omega,Jo.nil n B⟩,?_⟩
 rintro w6 w7 H ⟨k,v,hv,hk,hst⟩ gs
 simp only[List.cons.injEq,and_true]at hv
 obtain⟨rfl,rfl⟩:=hv
 refine ae.dz (Br.dec (fun hlt=>?_) (fun hlt=>?_))
 ·intro J hJ
  have yM:∀v H,Jo n B v (aj.given n (L.take (k+1)) u) H→J [v] H:=fun v H h=>hJ _ _ fun gs=>by
   refine ae.aH (b:=1) (by simp[aB];omega) ?_
   exact ay.mk ⟨k+1,v,rfl,by omega,h⟩ (by simp[bg];omega)
  obtain⟨C,N,rfl,ho⟩:=hst
  have hg:L[k]? =some L[k]:=List.getElem?_eq_getElem hlt
  have jF:=hf L[k] (List.getElem_mem hlt)
  have xR:=Af n u (L.take k)
  simp only[List.length_take]at xR
  have fg:∀t∈aj.given n (L.take k) u,aj.cB n t:=fun t ht=>by obtain⟨_,_,_,rfl⟩:=aj.bY.1 ht;exact aj.cH hn
  have f1:=aj.cH (v:=u) (ws:=L[k]) (b:=false) hn
  have f2:=aj.cH (v:=u) (ws:=L[k]) (b:=true) hn
  rw[CI hlt]at yM
  refine hL.ld (kU hg) (fun x hx=>List.mem_append_right _ (List.mem_append_right _ hx)) fun s' dx=>?_
  have hone:=aD dx
  intro b2 _
  refine St.whole (r:=[.int .i64 (n:Int),s']) (by exact .head _) rfl rfl (by simpa[Value.oneCell']using hone) ?_
  refine DR.self ?_
  refine az.whole (r:=[.int .i64 (n:Int),s']) (by exact .head _) rfl (az.whole (r:=[.int .i64 (n:Int),s']) (by exact .head _) rfl ?_)
  intro F
  refine ag.px (B:=N++B) (.cons (.app .here)) (ny (v:=.agg (List.toArray [.int .i64 (n:Int),s'])) (n:=n) (ws:=L[k]) ⟨s',rfl,dx.mono zS⟩ jF hu) ?_
  rintro v N1 ⟨s1,rfl,jz⟩
  refine⟨.cons (.cL .right _),?_⟩
  intro F
  refine ag.px (B:=N1++(N++B)) (.cons (.app .here)) (ny (v:=.agg (List.toArray [.int .i64 (n:Int),s'])) (n:=n) (ws:=L[k]) ⟨s',rfl,dx.mono zS⟩ jF hu) ?_
  rintro v N2 ⟨s2,rfl,mI⟩
  refine⟨.cons (.cL (.bN .right) _),?_⟩
  have tK:=aD jz
  have tJ:=aD mI
  intro A4 _ KG _ F
  refine St.whole (r:=[.int .i64 (n:Int),s1]) (by exact .tail (.head _)) rfl rfl (by simpa[Value.oneCell']using tK) ?_
  refine⟨.skip (.skip (.cons (.cL (.bN .right) _))),?_⟩
  intro F
  refine St.whole (r:=[.int .i64 (n:Int),s2]) (by exact .head _) rfl rfl (by simpa[Value.oneCell']using tJ) ?_
  have nI:=ho.mono (B':=N2++(N1++(N++B))) zS
  intro J2 A1
  have YH:∀v C l,fK 57 v (gy n l) C (N2++(N1++(N++B)))→l=aj.add (aj.given n (L.take k) u) (aj.ed n L[k] u false)→
    J2 [v] ((KG,.cells (List.toArray [.int .i64 (n:Int),s2]) 57 (0,0))::(C++(N2++(N1++(N++B))))):=fun v C l ho hl=>A1 _ _ fun gs=>by
   have A0:=aj.gg (aj.given n (L.take k) u) (aj.ed n L[k] u false)
   rw[←hl]at A0
   have fl:∀t∈l,aj.cB n t:=fun t ht=>by rw[hl]at ht;rcases aj.sr.1 ht with h|rfl;exact fg t h;exact f1
   refine az.whole (r:=[.int .i64 (n:Int),s2]) (by exact .head _) rfl ?_
   refine ag.rd (B:=C++(N2++(N1++(N++B)))) (.cons .here) (MC (v2:=.agg (List.toArray [.int .i64 (n:Int),s2])) (n:=n) (L:=l) (ws:=aj.ed n L[k] u true) (ho.xy (fun x hx=>List.mem_append_left _ hx) (fun x hx=>List.mem_append_right _ hx)) fl ⟨s2,rfl,mI.mono zS⟩ (fQ f2) (by omega)) ?_
   rintro r rfl
   refine Un.not ?_
   rw[←hl,aj.add]at yM
   by_cases hin:aj.ed n L[k] u true∈l
   ·rw[decide_eq_true hin]
    rw[if_pos hin]at yM
    refine Br.no (JE.of .tail (yM _ _ ⟨C,N2++(N1++N),?_,?_⟩))
    ·rw[List.append_assoc,List.append_assoc]
    ·rw[List.append_assoc,List.append_assoc];exact ho
   ·rw[decide_eq_false hin]
    rw[if_neg hin]at yM
    refine Br.yes ?_
    refine az.whole (r:=[.int .i64 (n:Int),s2]) (by exact .head _) rfl ?_
    refine eC fun xb=>?_
    refine ho.app (A:=[_,_]) (t:=⟨n,aj.ed n L[k] u true⟩) (s:=s2) (by exact .head _) mI (by rw[aW];omega) fun v' C' bX=>?_
    rw[j9]at bX
    refine JE.of (.skip .tail) (yM _ _ ⟨C',N2++(N1++N),?_,?_⟩)
    ·rw[List.append_assoc,List.append_assoc];rfl
    ·rw[List.append_assoc,List.append_assoc];exact bX
  refine az.whole (r:=[.int .i64 (n:Int),s1]) (by exact .tail _ (.head _)) rfl ?_
  refine ag.rd (B:=C++(N2++(N1++(N++B)))) (.cons (.cons (.cons .here))) (MC (v2:=.agg (List.toArray [.int .i64 (n:Int),s1])) (n:=n) (L:=aj.given n (L.take k) u) (ws:=aj.ed n L[k] u false) (nI.xy (fun x hx=>List.mem_append_left _ hx) (fun x hx=>List.mem_append_right _ hx)) fg ⟨s1,rfl,jz.mono zS⟩ (fQ f1) (by omega)) ?_
  rintro r rfl
  refine Un.not ?_
  by_cases hin:aj.ed n L[k] u false∈aj.given n (L.take k) u
  ·rw[decide_eq_true hin]
   exact Br.no (JE.of (.cons (.skip .tail)) (YH _ C _ nI (by rw[aj.add,if_pos hin])))
  ·rw[decide_eq_false hin]
   refine Br.yes ?_
   refine az.whole (r:=[.int .i64 (n:Int),s1]) (by exact .tail _ (.head _)) rfl ?_
   refine eC fun xb=>?_
   refine nI.app (A:=[_,_,_,_]) (t:=⟨n,aj.ed n L[k] u false⟩) (s:=s1) (by exact .head _) (jz.mono zS) (by rw[aW];omega) fun v' C' bX=>?_
   rw[j9]at bX
   exact JE.of (.skip (.cons (.skip .tail))) (YH _ C' _ bX (by rw[aj.add,if_neg hin]))
 ·have:k=L.length:=by omega
  subst this
  rw[List.take_length]at hst
  obtain⟨h1,h2⟩:=hst.done
  exact oV.mk h1 h2
end Go.Proofs
namespace aZ
open aj
theorem eI{x u v:Nat}{b c:Bool}(h:u≠v):aI (aI x u b) v c=aI (aI x v c) u b:=by
 apply Nat.eq_of_testBit_eq;intro k
 rw[au,au,au,au]
 by_cases e1:k=u<;>by_cases e2:k=v
 ·exact absurd (e1.symm.trans e2) h
 ·simp[e1,h]
 ·simp[e2,Ne.symm h]
 ·simp[e1,e2]
structure Nd where
 v:Nat
 lo:Nat
 hi:Nat
deriving DecidableEq
abbrev gK:=Nat→Option Nd
abbrev Fn:=Nat→Bool
def live(N:gK)(r:Nat):Prop:=r<2∨∃d,N r=some d
def dep(n:Nat)(ax:Nat→Nat)(N:gK)(r:Nat):Nat:=match N r with|some d=>ax d.v|none=>n
structure WF(n:Nat)(ax:Nat→Nat)(N:gK):Prop where
 two:∀{r d},N r=some d→2≤r
 var:∀{r d},N r=some d→d.v<n
 ne:∀{r d},N r=some d→d.lo≠d.hi
 lo:∀{r d},N r=some d→live N d.lo∧ax d.v<dep n ax N d.lo
 hi:∀{r d},N r=some d→live N d.hi∧ax d.v<dep n ax N d.hi
 uq:∀{r r' d},N r=some d→N r'=some d→r=r'
structure vb(n:Nat)(ax:Nat→Nat):Prop where
 lt:∀v,v<n→ax v<n
 inj:∀u v,u<n→v<n→ax u=ax v→u=v
structure Interp(N:gK)(S:Nat→Fn):Prop where
 zero:∀x,S 0 x=false
 one:∀x,S 1 x=true
 node:∀{r d},N r=some d→∀x,S r x=if x.testBit d.v then S d.hi x else S d.lo x
variable {n:Nat} {ax:Nat→Nat} {N:gK} {S:Nat→Fn}
theorem cQ{r:Nat}(h:N r=none):dep n ax N r=n:=by unfold dep;rw[h]
theorem aM{r:Nat}{d:Nd}(h:N r=some d):dep n ax N r=ax d.v:=by unfold dep;rw[h]
theorem WF.iA(h:WF n ax N)(hl:vb n ax)(r:Nat):dep n ax N r≤n:=by
 cases e:N r with
 |none=>rw[cQ e];exact Nat.le_refl _
 |some d=>rw[aM e];exact Nat.le_of_lt (hl.lt _ (h.var e))
theorem WF.const(h:WF n ax N){r:Nat}(hr:r<2):N r=none:=by
 cases e:N r with
 |none=>rfl
 |some d=>have:=h.two e;omega
theorem WF.indep(h:WF n ax N)(hl:vb n ax)(hi:Interp N S):∀(k r:Nat),n-dep n ax N r≤k→live N r→∀v,v<n→ax v<dep n ax N r→∀x b,S r (aI x v b)=S r x:=by
 intro k
 induction k with
 |zero=>
  intro r hk hr v hv hlt x b
  rcases hr with hr|⟨d,hd⟩
  ·have:r=0∨r=1:=by omega
   rcases this with rfl|rfl
   ·rw[hi.zero,hi.zero]
   ·rw[hi.one,hi.one]
  ·have h1:=hl.lt _ (h.var hd)
   rw[aM hd]at hk;omega
 |succ k ih=>
  intro r hk hr v hv hlt x b
  rcases hr with hr|⟨d,hd⟩
  ·have:r=0∨r=1:=by omega
   rcases this with rfl|rfl
   ·rw[hi.zero,hi.zero]
   ·rw[hi.one,hi.one]
  ·rw[aM hd]at hk hlt
   have h1:=hl.lt _ (h.var hd)
   obtain⟨l1,l2⟩:=h.lo hd
   obtain⟨m1,m2⟩:=h.hi hd
   have hne:d.v≠v:=fun e=>by rw[e]at hlt;omega
   rw[hi.node hd,hi.node hd,au,if_neg hne,ih d.lo (by omega) l1 v hv (by omega),ih d.hi (by omega) m1 v hv (by omega)]
theorem WF.dh(h:WF n ax N)(hl:vb n ax)(hi:Interp N S){r:Nat}(hr:live N r){v:Nat}(hv:v<n)(hlt:ax v<dep n ax N r)(x:Nat)(b:Bool):S r (aI x v b)=S r x:=
 h.indep hl hi _ r (Nat.le_refl _) hr v hv hlt x b
theorem WF.child(h:WF n ax N)(hl:vb n ax)(hi:Interp N S){r:Nat}{d:Nd}(hd:N r=some d)(x:Nat)(b:Bool):S r (aI x d.v b)=S (if b then d.hi else d.lo) x:=by
 obtain⟨l1,l2⟩:=h.lo hd
 obtain⟨m1,m2⟩:=h.hi hd
 rw[hi.node hd,au,if_pos rfl]
 cases b
 ·simp only[Bool.false_eq_true,if_false];exact h.dh hl hi l1 (h.var hd) l2 x false
 ·simp only[if_true];exact h.dh hl hi m1 (h.var hd) m2 x true
theorem WF.canon(h:WF n ax N)(hl:vb n ax)(hi:Interp N S):∀(k r r':Nat),(n-dep n ax N r)+(n-dep n ax N r')≤k→live N r→live N r'→(∀x,S r x=S r' x)→r=r':=by
 intro k
 induction k with
 |zero=>
  intro r r' hk hr hr' he
  have hc:∀{r},n-dep n ax N r=0→live N r→r<2:=by
   intro r hk hr
   rcases hr with hr|⟨d,hd⟩
   ·exact hr
   ·have h1:=hl.lt _ (h.var hd)
    rw[aM hd]at hk;omega
  have h1:=hc (by omega) hr
  have h2:=hc (by omega) hr'
  have e0:=he 0
  have:r=0∨r=1:=by omega
  have h3:r'=0∨r'=1:=by omega
  rcases this with rfl|rfl<;>rcases h3 with rfl|rfl<;>simp[hi.zero,hi.one]at e0<;>rfl
 |succ k ih=>
  have OB:∀r r',(n-dep n ax N r)+(n-dep n ax N r')≤k+1→live N r'→(∀x,S r x=S r' x)→∀d,N r=some d→ax d.v<dep n ax N r'→False:=by
   intro r r' hk hr' he d hd hlt
   obtain⟨l1,l2⟩:=h.lo hd
   obtain⟨m1,m2⟩:=h.hi hd
   have hv:=h.var hd
   have h1:=hl.lt _ hv
   have d1:=h.iA hl d.lo
   have d2:=h.iA hl d.hi
   have d3:=h.iA hl r'
   rw[aM hd]at hk
   have a1:d.lo=r':=ih d.lo r' (by omega) l1 hr' fun x=>by
    have:=h.child hl hi hd x false
    simp only[Bool.false_eq_true,if_false]at this
    rw[←this,he,h.dh hl hi hr' hv hlt]
   have a2:d.hi=r':=ih d.hi r' (by omega) m1 hr' fun x=>by
    have:=h.child hl hi hd x true
    simp only[if_true]at this
    rw[←this,he,h.dh hl hi hr' hv hlt]
   exact h.ne hd (a1.trans a2.symm)
  intro r r' hk hr hr' he
  rcases hr with hr|⟨d,hd⟩
  ·rcases hr' with hr'|⟨d',ej⟩
   ·have e0:=he 0
    have:r=0∨r=1:=by omega
    have h3:r'=0∨r'=1:=by omega
    rcases this with rfl|rfl<;>rcases h3 with rfl|rfl<;>simp[hi.zero,hi.one]at e0<;>rfl
   ·refine(OB r' r (by omega) (.inl hr) (fun x=>(he x).symm) d' ej ?_).elim
    rw[cQ (h.const hr)];exact hl.lt _ (h.var ej)
  ·rcases Nat.lt_trichotomy (ax d.v) (dep n ax N r')with hlt|heq|hgt
   ·exact(OB r r' hk hr' he d hd hlt).elim
   ·rcases hr' with hr'|⟨d',ej⟩
    ·rw[cQ (h.const hr')]at heq
     have:=hl.lt _ (h.var hd);omega
    ·rw[aM ej]at heq
     have hv:=hl.inj _ _ (h.var hd) (h.var ej) heq
     obtain⟨l1,l2⟩:=h.lo hd
     obtain⟨m1,m2⟩:=h.hi hd
     obtain⟨l1',l2'⟩:=h.lo ej
     obtain⟨m1',m2'⟩:=h.hi ej
     have h1:=hl.lt _ (h.var hd)
     have d1:=h.iA hl d.lo
     have d2:=h.iA hl d.hi
     have d1':=h.iA hl d'.lo
     have d2':=h.iA hl d'.hi
     rw[aM hd,aM ej]at hk
     have c1:=fun x=>h.child hl hi hd x false
     have c2:=fun x=>h.child hl hi hd x true
     have c1':=fun x=>h.child hl hi ej x false
     have c2':=fun x=>h.child hl hi ej x true
     simp only[Bool.false_eq_true,if_false,if_true]at c1 c2 c1' c2'
     have a1:d.lo=d'.lo:=ih d.lo d'.lo (by omega) l1 l1' fun x=>by rw[←c1,←c1',he,hv]
     have a2:d.hi=d'.hi:=ih d.hi d'.hi (by omega) m1 m1' fun x=>by rw[←c2,←c2',he,hv]
     have:d=d':=by cases d;cases d';simp_all
     subst this
     exact h.uq hd ej
   ·rcases hr' with hr'|⟨d',ej⟩
    ·rw[cQ (h.const hr')]at hgt
     have:=hl.lt _ (h.var hd);omega
    ·rw[aM ej]at hgt
     refine(OB r' r (by omega) (.inr ⟨d,hd⟩) (fun x=>(he x).symm) d' ej ?_).elim
     rw[aM hd];exact hgt
theorem WF.same(h:WF n ax N)(hl:vb n ax)(hi:Interp N S){r r':Nat}(hr:live N r)(hr':live N r')(he:∀x,S r x=S r' x):r=r':=h.canon hl hi _ r r' (Nat.le_refl _) hr hr' he
end aZ
namespace aZ
open aj
variable {n:Nat} {ax:Nat→Nat} {N:gK} {S:Nat→Fn} {ord:List Nat}
def gQ(g:Fn)(v:Nat):Prop:=∃x,g (aI x v false)≠g (aI x v true)
def fs(ord:List Nat)(F:Fn→Prop):Nat→Fn→Prop
 |0,g=>F g
 |l+1,g=>∃f,fs ord F l f∧∃b,g=fun x=>f (aI x (ord.getD l 0) b)
def cr(n:Nat)(ord:List Nat)(F:Fn→Prop)(g:Fn):Prop:=∃l,l<n∧fs ord F l g∧gQ g (ord.getD l 0)
structure Ord(n:Nat)(ax:Nat→Nat)(ord:List Nat):Prop where
 len:ord.length=n
 bB:∀l,l<n→ord.getD l 0<n∧ax (ord.getD l 0)=l
theorem Ord.of(h:Ord n ax ord)(hl:vb n ax){v:Nat}(hv:v<n):ord.getD (ax v) 0=v:=by
 obtain⟨h1,h2⟩:=h.bB _ (hl.lt v hv)
 exact hl.inj _ _ h1 hv h2
def Fs(S:Nat→Fn)(R:Nat→Prop)(g:Fn):Prop:=∃r,R r∧g=S r
def A(N:gK)(ax:Nat→Nat)(n:Nat)(R:Nat→Prop):Nat→Nat→Prop
 |0,r=>R r
 |l+1,r=>(A N ax n R l r∧dep n ax N r≠l)∨∃p d,A N ax n R l p∧N p=some d∧ax d.v=l∧(r=d.lo∨r=d.hi)
variable {R:Nat→Prop}
theorem q9(h:WF n ax N)(hR:∀r,R r→live N r):∀l r,A N ax n R l r→live N r∧l≤dep n ax N r
 |0,r,ha=>⟨hR r ha,Nat.zero_le _⟩
 |l+1,r,ha=>by
  rcases ha with⟨h1,h2⟩|⟨p,d,h1,h2,h3,h4⟩
  ·have:=q9 h hR l r h1
   exact⟨this.1,by omega⟩
  ·rcases h4 with rfl|rfl
   ·have:=h.lo h2;exact⟨this.1,by omega⟩
   ·have:=h.hi h2;exact⟨this.1,by omega⟩
theorem FW{r:Nat}:∀k l,A N ax n R l r→l+k≤dep n ax N r→A N ax n R (l+k) r
 |0,l,ha,_=>ha
 |k+1,l,ha,hk=>by
  have h1:=FW k l ha (by omega)
  have h2:dep n ax N r≠l+k:=by omega
  exact .inl ⟨h1,h2⟩
def Reach(N:gK)(R:Nat→Prop):Prop:=∀r d,N r=some d→R r∨∃p e,N p=some e∧(e.lo=r∨e.hi=r)
theorem Tn(h:WF n ax N)(hr:Reach N R):∀k r d,N r=some d→ax d.v≤k→A N ax n R (ax d.v) r:=by
 intro k
 induction k with
 |zero=>
  intro r d hd hk
  rcases hr r d hd with h1|⟨p,e,h1,h2⟩
  ·rw[show ax d.v=0 by omega];exact h1
  ·have:=h.lo h1
   have h3:=h.hi h1
   rcases h2 with rfl|rfl
   ·rw[aM hd]at this;omega
   ·rw[aM hd]at h3;omega
 |succ k ih=>
  intro r d hd hk
  rcases hr r d hd with h1|⟨p,e,h1,h2⟩
  ·have:=FW (N:=N) (ax:=ax) (n:=n) (R:=R) (r:=r) (ax d.v) 0 h1 (by rw[aM hd];omega)
   rwa [Nat.zero_add]at this
  ·have hlt:ax e.v<ax d.v:=by
    have:=h.lo h1
    have h3:=h.hi h1
    rcases h2 with rfl|rfl
    ·rw[aM hd]at this;omega
    ·rw[aM hd]at h3;omega
   have ha:=ih p e h1 (by omega)
   have hb:A N ax n R (ax e.v+1) r:=.inr ⟨p,e,ha,h1,rfl,by rcases h2 with rfl|rfl;exact .inl rfl;exact .inr rfl⟩
   have:=FW (ax d.v-(ax e.v+1)) _ hb (by rw[aM hd];omega)
   rwa [show ax e.v+1+(ax d.v-(ax e.v+1))=ax d.v by omega]at this
theorem Rk(h:WF n ax N)(hl:vb n ax)(ho:Ord n ax ord)(hi:Interp N S)(hR:∀r,R r→live N r):∀l,l≤n→∀g,fs ord (Fs S R) l g↔∃r,A N ax n R l r∧g=S r
 |0,_,g=>Iff.rfl
 |l+1,O6,g=>by
  obtain⟨v1,v2⟩:=ho.bB l O6
  have ih:=Rk h hl ho hi hR l (by omega)
  constructor
  ·rintro⟨f,hf,b,rfl⟩
   obtain⟨r,ha,rfl⟩:=(ih f).1 hf
   obtain⟨hlv,hle⟩:=q9 h hR l r ha
   by_cases e:dep n ax N r=l
   ·rcases hlv with hc|⟨d,hd⟩
    ·rw[cQ (h.const hc)]at e;omega
    ·rw[aM hd]at e
     have hv:d.v=ord.getD l 0:=hl.inj _ _ (h.var hd) v1 (by omega)
     refine⟨if b then d.hi else d.lo,.inr ⟨r,d,ha,hd,e,by cases b<;>simp⟩,?_⟩
     funext x
     rw[←hv];exact h.child hl hi hd x b
   ·refine⟨r,.inl ⟨ha,e⟩,?_⟩
    funext x
    exact h.dh hl hi hlv v1 (by omega) x b
  ·rintro⟨r,ha,rfl⟩
   rcases ha with⟨h1,h2⟩|⟨p,d,h1,h2,h3,h4⟩
   ·obtain⟨hlv,hle⟩:=q9 h hR l r h1
    refine⟨S r,(ih _).2 ⟨r,h1,rfl⟩,false,?_⟩
    funext x
    exact(h.dh hl hi hlv v1 (by omega) x false).symm
   ·have hv:d.v=ord.getD l 0:=hl.inj _ _ (h.var h2) v1 (by omega)
    rcases h4 with rfl|rfl
    ·refine⟨S p,(ih _).2 ⟨p,h1,rfl⟩,false,?_⟩
     funext x
     rw[←hv];exact(h.child hl hi h2 x false).symm
    ·refine⟨S p,(ih _).2 ⟨p,h1,rfl⟩,true,?_⟩
     funext x
     rw[←hv];exact(h.child hl hi h2 x true).symm
theorem mC(h:WF n ax N)(hl:vb n ax)(ho:Ord n ax ord)(hi:Interp N S)(hR:∀r,R r→live N r)(hr:Reach N R)(g:Fn):cr n ord (Fs S R) g↔∃r d,N r=some d∧g=S r:=by
 constructor
 ·rintro⟨l,O6,hf,x,hx⟩
  obtain⟨v1,v2⟩:=ho.bB l O6
  obtain⟨r,ha,rfl⟩:=(Rk h hl ho hi hR l (by omega) g).1 hf
  obtain⟨hlv,hle⟩:=q9 h hR l r ha
  by_cases e:dep n ax N r=l
  ·rcases hlv with hc|⟨d,hd⟩
   ·rw[cQ (h.const hc)]at e;omega
   ·exact⟨r,d,hd,rfl⟩
  ·exact absurd (by rw[h.dh hl hi hlv v1 (by omega),h.dh hl hi hlv v1 (by omega)]) hx
 ·rintro⟨r,d,hd,rfl⟩
  have hv:=h.var hd
  have hlt:=hl.lt _ hv
  refine⟨ax d.v,hlt,(Rk h hl ho hi hR _ (by omega) _).2 ⟨r,Tn h hr _ r d hd (Nat.le_refl _),rfl⟩,?_⟩
  rw[ho.of hl hv]
  refine Classical.byContradiction fun hno=>h.ne hd (h.same hl hi (h.lo hd).1 (h.hi hd).1 fun x=>?_)
  have c1:=h.child hl hi hd x false
  have c2:=h.child hl hi hd x true
  simp only[Bool.false_eq_true,if_false,if_true]at c1 c2
  rw[←c1,←c2]
  exact Classical.byContradiction fun hne=>hno ⟨x,hne⟩
def pc(P:Fn→Prop)(k:Nat):Prop:=∃l:List Fn,l.Nodup∧l.length=k∧∀g,P g↔g∈l
theorem pc.congr{P Q:Fn→Prop}{k:Nat}(h:pc P k)(e:∀g,P g↔Q g):pc Q k:=let ⟨l,h1,h2,h3⟩:=h;⟨l,h1,h2,fun g=>(e g).symm.trans (h3 g)⟩
theorem bZ{α:Type}:∀{l l':List α},l.Nodup→(∀x∈l,x∈l')→l.length≤l'.length
 | [],l',_,_=>Nat.zero_le _
 |x::l,l',hn,hs=>by
  obtain⟨h1,h2⟩:=List.nodup_cons.1 hn
  obtain⟨a,b,rfl⟩:=List.append_of_mem (hs x (by simp))
  have:=bZ (l':=a++b) h2 fun y hy=>by
   have:=hs y (by simp[hy])
   rcases List.mem_append.1 this with h|h
   ·exact List.mem_append_left _ h
   ·rcases List.mem_cons.1 h with rfl|h
    ·exact absurd hy h1
    ·exact List.mem_append_right _ h
  simp at this⊢;omega
theorem pc.le{P Q:Fn→Prop}{k k':Nat}(h:pc P k)(h':pc Q k')(e:∀g,P g→Q g):k≤k':=by
 obtain⟨l,h1,h2,h3⟩:=h
 obtain⟨l',x8,o8,yN⟩:=h'
 rw[←h2,←o8]
 exact bZ h1 fun x hx=>(yN x).1 (e x ((h3 x).2 hx))
theorem pc.uniq{P:Fn→Prop}{k k':Nat}(h:pc P k)(h':pc P k'):k=k':=Nat.le_antisymm (h.le h' fun _=>id) (h'.le h fun _=>id)
theorem pc.none:pc (fun _=>False) 0:=⟨[],by simp,rfl,by simp⟩
theorem pc.or{P Q:Fn→Prop}{k k':Nat}(h:pc P k)(h':pc Q k')(e:∀g,P g→¬Q g):pc (fun g=>P g∨Q g) (k+k'):=by
 obtain⟨l,h1,h2,h3⟩:=h
 obtain⟨l',x8,o8,yN⟩:=h'
 refine⟨l++l',List.nodup_append.2 ⟨h1,x8,fun a ha b hb e'=>?_⟩,by rw[List.length_append,h2,o8],fun g=>by rw[List.mem_append,←h3,←yN]⟩
 subst e'
 exact e a ((h3 a).2 ha) ((yN a).2 hb)
theorem wJ(h:WF n ax N)(hl:vb n ax)(hi:Interp N S){dom:List Nat}(hd:dom.Nodup)(hm:∀r,r∈dom↔∃d,N r=some d):pc (fun g=>∃r d,N r=some d∧g=S r) dom.length:=by
 refine⟨dom.map S,?_,by simp,fun g=>?_⟩
 ·refine List.pairwise_map.2 (hd.imp_of_mem fun{a b} ha hb hne heq=>hne ?_)
  exact h.same hl hi (.inr ((hm a).1 ha)) (.inr ((hm b).1 hb)) fun x=>by rw[heq]
 ·rw[List.mem_map]
  constructor
  ·rintro⟨r,d,h1,rfl⟩;exact⟨r,(hm r).2 ⟨d,h1⟩,rfl⟩
  ·rintro⟨r,h1,rfl⟩;obtain⟨d,h2⟩:=(hm r).1 h1;exact⟨r,d,h2,rfl⟩
end aZ
namespace aZ
open aj
def up{α:Type}(N:Nat→α)(r:Nat)(o:α):Nat→α:=fun s=>if s=r then o else N s
@[simp] theorem aN{α:Type}{N:Nat→α}{r:Nat}{o:α}:up N r o r=o:=if_pos rfl
theorem aP{α:Type}{N:Nat→α}{r s:Nat}{o:α}(h:s≠r):up N r o s=N s:=if_neg h
def o5(T:Nd→Option Nat)(d:Nd)(o:Option Nat):Nd→Option Nat:=fun e=>if e=d then o else T e
@[simp] theorem jb{T:Nd→Option Nat}{d:Nd}{o:Option Nat}:o5 T d o d=o:=if_pos rfl
theorem ot{T:Nd→Option Nat}{d e:Nd}{o:Option Nat}(h:e≠d):o5 T d o e=T e:=if_neg h
def e1:Option Nd→Nat→Nat
 |none,_=>0
 |some d,r=>(if d.lo=r then 1 else 0)+(if d.hi=r then 1 else 0)
theorem eu(d:Nd)(r:Nat):e1 (some d) r=(if d.lo=r then 1 else 0)+(if d.hi=r then 1 else 0):=rfl
def dj(N:gK)(r:Nat):Nat→Nat
 |0=>0
 |k+1=>dj N r k+e1 (N k) r
def lY(N:gK):Nat→Nat
 |0=>0
 |k+1=>lY N k+(if(N k).isSome then 1 else 0)
theorem wE{N:gK}{s r:Nat}{o:Option Nd}:∀{k},(s<k→dj (up N s o) r k+e1 (N s) r=dj N r k+e1 o r)∧(k≤s→dj (up N s o) r k=dj N r k)
 |0=>⟨fun h=>by omega,fun _=>rfl⟩
 |k+1=>by
  obtain⟨i1,i2⟩:=wE (N:=N) (s:=s) (r:=r) (o:=o) (k:=k)
  refine⟨fun h=>?_,fun h=>?_⟩
  ·rw[dj,dj]
   by_cases e:s=k
   ·subst e;rw[aN,i2 (Nat.le_refl _)];omega
   ·have:=i1 (by omega);rw[aP (fun h=>e h.symm)];omega
  ·rw[dj,dj,i2 (by omega),aP (by omega)]
theorem ud{N:gK}{s r k:Nat}{o:Option Nd}(h:s<k):dj (up N s o) r k+e1 (N s) r=dj N r k+e1 o r:=wE.1 h
theorem p9{N:gK}{s:Nat}{o:Option Nd}:∀{k},(s<k→lY (up N s o) k+(if(N s).isSome then 1 else 0)=lY N k+(if o.isSome then 1 else 0))∧(k≤s→lY (up N s o) k=lY N k)
 |0=>⟨fun h=>by omega,fun _=>rfl⟩
 |k+1=>by
  obtain⟨i1,i2⟩:=p9 (N:=N) (s:=s) (o:=o) (k:=k)
  refine⟨fun h=>?_,fun h=>?_⟩
  ·rw[lY,lY]
   by_cases e:s=k
   ·subst e;rw[aN,i2 (Nat.le_refl _)];omega
   ·have:=i1 (by omega);rw[aP (fun h=>e h.symm)];omega
  ·rw[lY,lY,i2 (by omega),aP (by omega)]
theorem jo{N:gK}{r:Nat}:∀{k},dj N r k=0→∀s,s<k→∀d,N s=some d→d.lo≠r∧d.hi≠r
 |0,_,s,hs,_,_=>by omega
 |k+1,h,s,hs,d,hd=>by
  rw[dj]at h
  by_cases e:s=k
  ·subst e
   rw[hd,eu]at h
   constructor
   ·intro h1;rw[if_pos h1]at h;omega
   ·intro h1;rw[if_pos h1]at h;omega
  ·exact jo (k:=k) (by omega) s (by omega) d hd
theorem qS{N:gK}{r:Nat}:∀{k},0<dj N r k→∃s d,s<k∧N s=some d∧(d.lo=r∨d.hi=r)
 |0,h=>by simp[dj]at h
 |k+1,h=>by
  rw[dj]at h
  by_cases hk:0<dj N r k
  ·obtain⟨s,d,h1,h2,h3⟩:=qS hk;exact⟨s,d,by omega,h2,h3⟩
  ·cases hd:N k with
   |none=>rw[hd]at h;simp[e1]at h;omega
   |some d=>
    refine⟨k,d,by omega,hd,?_⟩
    rw[hd,eu]at h
    by_cases h1:d.lo=r
    ·exact .inl h1
    ·by_cases h2:d.hi=r
     ·exact .inr h2
     ·rw[if_neg h1,if_neg h2]at h;omega
theorem Ar{N:gK}{r:Nat}:∀k,dj N r k≤2*k
 |0=>Nat.le_refl _
 |k+1=>by
  have:=Ar (N:=N) (r:=r) k
  rw[dj]
  have:e1 (N k) r≤2:=by
   cases N k with
   |none=>simp[e1]
   |some d=>rw[eu];split<;>split<;>omega
  omega
theorem AA(N:gK):∀k,((List.range k).filter fun r=>(N r).isSome).length=lY N k
 |0=>rfl
 |k+1=>by
  rw[List.range_succ,List.filter_append,List.length_append,AA N k,lY]
  congr 1
  cases h:N k<;>simp[h]
structure Kd where
 n:Nat
 cap:Nat
 used:Nat
 N:gK
 T:Nd→Option Nat
 us:List Nat
 ho:List Nat
def Kd.hold(K:Kd)(r:Nat):Nat:=K.ho.getD r 0
def Kd.use(K:Kd)(r:Nat):Nat:=K.us.getD r 0
structure jt(K:Kd)(S:Nat→Fn)(E:Nat→Prop)(P:Nat→Nat):Prop where
 two:∀{r d},K.N r=some d→2≤r∧r<K.cap
 var:∀{r d},K.N r=some d→d.v<K.n
 ne:∀{r d},K.N r=some d→d.lo≠d.hi
 lo:∀{r d},K.N r=some d→live K.N d.lo
 hi:∀{r d},K.N r=some d→live K.N d.hi
 int:Interp K.N S
 jL:∀d r,K.T d=some r↔K.N r=some d∧¬E r
 use:∀{r d},K.N r=some d→K.use r=dj K.N r K.cap+(if K.hold r=0 then 0 else 1)+P r
 len:K.us.length=K.ho.length
 fit:∀{r d},K.N r=some d→r<K.us.length
 held:∀r,K.hold r≠0→∃d,K.N r=some d
 mx:∀r,K.hold r≤65535
 room:K.used=2+lY K.N K.cap
 cap:K.used≤K.cap∧K.cap≤1048576
variable {K:Kd} {S:Nat→Fn} {E:Nat→Prop} {P:Nat→Nat}
theorem jO{N:gK}{r s:Nat}{d:Nd}(h:live N s):live (up N r (some d)) s:=by
 rcases h with h|⟨e,h⟩
 ·exact .inl h
 ·by_cases e2:s=r
  ·subst e2;exact .inr ⟨d,aN⟩
  ·exact .inr ⟨e,by rw[aP e2];exact h⟩
theorem wi{N:gK}{r s:Nat}(h:live N s)(hne:s≠r):live (up N r none) s:=by
 rcases h with h|⟨e,h⟩
 ·exact .inl h
 ·exact .inr ⟨e,by rw[aP hne];exact h⟩
def Pos(K:Kd):Prop:=∀r d,K.N r=some d→0<K.use r
theorem jt.less(h:jt K S E P){r:Nat}{dr:List Nat}(hP:0<P r)(hl:dr.length=K.us.length)(h1:dr.getD r 0+1=K.use r)(h2:∀s,s≠r→dr.getD s 0=K.use s):
  jt {K with us:=dr} S E (up P r (P r-1)) where
 two:=h.two
 var:=h.var
 ne:=h.ne
 lo:=h.lo
 hi:=h.hi
 int:=h.int
 jL:=h.jL
 use:=fun{s d} hd=>by
  have:=h.use hd
  show dr.getD s 0=dj K.N s K.cap+(if K.hold s=0 then 0 else 1)+up P r (P r-1) s
  by_cases e:s=r
  ·subst e
   rw[aN]
   omega
  ·rw[h2 s e,aP e];exact this
 len:=by show dr.length=_;rw[hl];exact h.len
 fit:=fun{s d} hd=>by show s<dr.length;rw[hl];exact h.fit hd
 held:=h.held
 mx:=h.mx
 room:=h.room
 cap:=h.cap
theorem jt.free(h:jt K S E P){r:Nat}{d:Nd}(hd:K.N r=some d)(hE:¬E r)(h0:K.use r=0):
  jt {K with N:=up K.N r none,T:=o5 K.T d none,used:=K.used-1} S E (fun s=>P s+e1 (some d) s) where
 two:=fun{s e} hs=>by
  have hs':up K.N r none s=some e:=hs
  by_cases e2:s=r
  ·subst e2;rw[aN]at hs';cases hs'
  ·rw[aP e2]at hs';exact h.two hs'
 var:=fun{s e} hs=>by
  have hs':up K.N r none s=some e:=hs
  by_cases e2:s=r
  ·subst e2;rw[aN]at hs';cases hs'
  ·rw[aP e2]at hs';exact h.var hs'
 ne:=fun{s e} hs=>by
  have hs':up K.N r none s=some e:=hs
  by_cases e2:s=r
  ·subst e2;rw[aN]at hs';cases hs'
  ·rw[aP e2]at hs';exact h.ne hs'
 lo:=fun{s e} hs=>by
  have hs':up K.N r none s=some e:=hs
  by_cases e2:s=r
  ·subst e2;rw[aN]at hs';cases hs'
  ·rw[aP e2]at hs'
   have hu:=h.use hd
   exact wi (h.lo hs') (jo (by omega) s (h.two hs').2 e hs').1
 hi:=fun{s e} hs=>by
  have hs':up K.N r none s=some e:=hs
  by_cases e2:s=r
  ·subst e2;rw[aN]at hs';cases hs'
  ·rw[aP e2]at hs'
   have hu:=h.use hd
   exact wi (h.hi hs') (jo (by omega) s (h.two hs').2 e hs').2
 int:=⟨h.int.zero,h.int.one,fun{s e} hs x=>by
  have hs':up K.N r none s=some e:=hs
  by_cases e2:s=r
  ·subst e2;rw[aN]at hs';cases hs'
  ·rw[aP e2]at hs';exact h.int.node hs' x⟩
 jL:=fun e s=>by
  show o5 K.T d none e=some s↔up K.N r none s=some e∧_
  by_cases e2:e=d
  ·subst e2
   rw[jb]
   constructor
   ·intro h;cases h
   ·rintro⟨h1,h2⟩
    by_cases e3:s=r
    ·subst e3;rw[aN]at h1;cases h1
    ·rw[aP e3]at h1
     have a:=(h.jL e s).2 ⟨h1,h2⟩
     have b:=(h.jL e r).2 ⟨hd,hE⟩
     rw[a]at b;cases b;exact absurd rfl e3
  ·rw[ot e2,h.jL]
   by_cases e3:s=r
   ·subst e3
    rw[aN]
    constructor
    ·rintro⟨h1,_⟩;rw[hd]at h1;cases h1;exact absurd rfl e2
    ·rintro⟨h1,_⟩;cases h1
   ·rw[aP e3]
 use:=fun{s e} hs=>by
  have hs':up K.N r none s=some e:=hs
  by_cases e2:s=r
  ·subst e2;rw[aN]at hs';cases hs'
  ·rw[aP e2]at hs'
   have hu:=h.use hs'
   have he:=ud (N:=K.N) (s:=r) (r:=s) (k:=K.cap) (o:=none) (h.two hd).2
   show K.use s=dj (up K.N r none) s K.cap+(if K.hold s=0 then 0 else 1)+(P s+e1 (some d) s)
   rw[hd]at he
   have:e1 none s=0:=rfl
   omega
 len:=h.len
 fit:=fun{s e} hs=>by
  have hs':up K.N r none s=some e:=hs
  by_cases e2:s=r
  ·subst e2;rw[aN]at hs';cases hs'
  ·rw[aP e2]at hs';exact h.fit hs'
 held:=fun s hs=>by
  obtain⟨e,he⟩:=h.held s hs
  have hne:s≠r:=fun e2=>by
   subst e2
   have hu:=h.use hd
   have hs':K.hold s≠0:=hs
   rw[if_neg hs']at hu;omega
  exact⟨e,by show up K.N r none s=_;rw[aP hne];exact he⟩
 mx:=h.mx
 room:=by
  have:=(p9 (N:=K.N) (s:=r) (o:=none) (k:=K.cap)).1 (h.two hd).2
  have hr:=h.room
  rw[hd]at this
  show K.used-1=2+lY (up K.N r none) K.cap
  simp at this;omega
 cap:=⟨by have:=h.cap.1;show K.used-1≤K.cap;omega,h.cap.2⟩
theorem jt.more(h:jt K S E P){r:Nat}{dr:List Nat}(hl:dr.length=K.us.length)(h1:dr.getD r 0=K.use r+1)(h2:∀s,s≠r→dr.getD s 0=K.use s):
  jt {K with us:=dr} S E (up P r (P r+1)) where
 two:=h.two
 var:=h.var
 ne:=h.ne
 lo:=h.lo
 hi:=h.hi
 int:=h.int
 jL:=h.jL
 use:=fun{s d} hd=>by
  have:=h.use hd
  show dr.getD s 0=dj K.N s K.cap+(if K.hold s=0 then 0 else 1)+up P r (P r+1) s
  by_cases e:s=r
  ·subst e
   rw[aN]
   omega
  ·rw[h2 s e,aP e];exact this
 len:=by show dr.length=_;rw[hl];exact h.len
 fit:=fun{s d} hd=>by show s<dr.length;rw[hl];exact h.fit hd
 held:=h.held
 mx:=h.mx
 room:=h.room
 cap:=h.cap
end aZ
namespace aZ
open aj
variable {K:Kd} {S:Nat→Fn} {E:Nat→Prop} {P:Nat→Nat}
def ite(S:Nat→Fn)(d:Nd):Fn:=fun x=>if x.testBit d.v then S d.hi x else S d.lo x
theorem fM{N:gK}{r s:Nat}(h:live N s)(h2:2≤r)(hr:N r=none):s≠r:=fun e=>by
 subst e
 rcases h with h|⟨d,h⟩
 ·omega
 ·rw[hr]at h;cases h
theorem jt.lay(h:jt K S E P){r:Nat}{d:Nd}{dr bX:List Nat}(hr:K.N r=none)(h2:2≤r∧r<K.cap)(hv:d.v<K.n)(hne:d.lo≠d.hi)(hlo:live K.N d.lo)(hhi:live K.N d.hi)(hT:K.T d=none)(hE:¬E r)
 (hP:P r=0)(hro:K.used<K.cap)(hl:dr.length=bX.length)(hf:r<dr.length∧K.us.length≤dr.length)(u0:dr.getD r 0=0)(u1:∀s,2≤s→s≠r→dr.getD s 0=K.use s+e1 (some d) s)(o0:bX.getD r 0=0)(o1:∀s,s≠r→bX.getD s 0=K.hold s):
  jt {K with N:=up K.N r (some d),T:=o5 K.T d (some r),used:=K.used+1,us:=dr,ho:=bX} (up S r (ite S d)) E P where
 two:=fun{s e} hs=>by
  have hs':up K.N r (some d) s=some e:=hs
  by_cases e2:s=r
  ·subst e2;exact h2
  ·rw[aP e2]at hs';exact h.two hs'
 var:=fun{s e} hs=>by
  have hs':up K.N r (some d) s=some e:=hs
  by_cases e2:s=r
  ·subst e2;rw[aN]at hs';cases hs';exact hv
  ·rw[aP e2]at hs';exact h.var hs'
 ne:=fun{s e} hs=>by
  have hs':up K.N r (some d) s=some e:=hs
  by_cases e2:s=r
  ·subst e2;rw[aN]at hs';cases hs';exact hne
  ·rw[aP e2]at hs';exact h.ne hs'
 lo:=fun{s e} hs=>by
  have hs':up K.N r (some d) s=some e:=hs
  by_cases e2:s=r
  ·subst e2;rw[aN]at hs';cases hs';exact jO hlo
  ·rw[aP e2]at hs';exact jO (h.lo hs')
 hi:=fun{s e} hs=>by
  have hs':up K.N r (some d) s=some e:=hs
  by_cases e2:s=r
  ·subst e2;rw[aN]at hs';cases hs';exact jO hhi
  ·rw[aP e2]at hs';exact jO (h.hi hs')
 int:=⟨fun x=>by rw[aP (by omega)];exact h.int.zero x,fun x=>by rw[aP (by omega)];exact h.int.one x,fun{s e} hs x=>by
  have hs':up K.N r (some d) s=some e:=hs
  by_cases e2:s=r
  ·subst e2;rw[aN]at hs';cases hs'
   rw[aN,aP (fM hlo h2.1 hr),aP (fM hhi h2.1 hr)];rfl
  ·rw[aP e2]at hs'
   rw[aP e2,aP (fM (h.lo hs') h2.1 hr),aP (fM (h.hi hs') h2.1 hr)]
   exact h.int.node hs' x⟩
 jL:=fun e s=>by
  show o5 K.T d (some r) e=some s↔up K.N r (some d) s=some e∧_
  by_cases e2:e=d
  ·subst e2
   rw[jb]
   constructor
   ·intro h;cases h;exact⟨aN,hE⟩
   ·rintro⟨h1,o8⟩
    by_cases e3:s=r
    ·rw[e3]
    ·rw[aP e3]at h1
     have a:=(h.jL e s).2 ⟨h1,o8⟩
     rw[hT]at a;cases a
  ·rw[ot e2,h.jL]
   by_cases e3:s=r
   ·subst e3
    rw[aN,hr]
    constructor
    ·rintro⟨h1,_⟩;cases h1
    ·rintro⟨h1,_⟩;cases h1;exact absurd rfl e2
   ·rw[aP e3]
 use:=fun{s e} hs=>by
  have hs':up K.N r (some d) s=some e:=hs
  have he:=ud (N:=K.N) (s:=r) (r:=s) (k:=K.cap) (o:=some d) h2.2
  rw[hr]at he
  have h0:e1 none s=0:=rfl
  show dr.getD s 0=dj (up K.N r (some d)) s K.cap+(if bX.getD s 0=0 then 0 else 1)+P s
  by_cases e2:s=r
  ·subst e2
   have hz:dj K.N s K.cap=0:=by
    refine Nat.eq_zero_of_not_pos fun hp=>?_
    obtain⟨t,e',_,ht,hc⟩:=qS hp
    have Cg:=fM (h.lo ht) h2.1 hr
    have rK:=fM (h.hi ht) h2.1 hr
    rcases hc with hc|hc
    ·exact Cg hc
    ·exact rK hc
   have hd0:e1 (some d) s=0:=by
    rw[eu,if_neg (fM hlo h2.1 hr),if_neg (fM hhi h2.1 hr)]
   rw[u0,o0,if_pos rfl];omega
  ·rw[aP e2]at hs'
   have hu:=h.use hs'
   have h3:bX.getD s 0=K.hold s:=o1 s e2
   rw[u1 s (h.two hs').1 e2,h3];omega
 len:=hl
 fit:=fun{s e} hs=>by
  have hs':up K.N r (some d) s=some e:=hs
  show s<dr.length
  by_cases e2:s=r
  ·subst e2;exact hf.1
  ·rw[aP e2]at hs';exact Nat.lt_of_lt_of_le (h.fit hs') hf.2
 held:=fun s hs=>by
  have hs':bX.getD s 0≠0:=hs
  by_cases e2:s=r
  ·subst e2;exact⟨d,aN⟩
  ·rw[o1 s e2]at hs'
   obtain⟨e,he⟩:=h.held s hs'
   exact⟨e,by show up K.N r (some d) s=_;rw[aP e2];exact he⟩
 mx:=fun s=>by
  show bX.getD s 0≤65535
  by_cases e2:s=r
  ·subst e2;rw[o0];decide
  ·rw[o1 s e2];exact h.mx s
 room:=by
  have:=(p9 (N:=K.N) (s:=r) (o:=some d) (k:=K.cap)).1 h2.2
  have hr':=h.room
  rw[hr]at this
  show K.used+1=2+lY (up K.N r (some d)) K.cap
  simp at this;omega
 cap:=⟨by show K.used+1≤K.cap;omega,h.cap.2⟩
theorem jt.ac0(h:jt K S E P){r:Nat}{d:Nd}(hd:K.N r=some d)(hE:¬E r):jt {K with T:=o5 K.T d none} S (fun s=>E s∨s=r) P where
 two:=h.two
 var:=h.var
 ne:=h.ne
 lo:=h.lo
 hi:=h.hi
 int:=h.int
 jL:=fun e s=>by
  show o5 K.T d none e=some s↔_
  by_cases e2:e=d
  ·subst e2
   rw[jb]
   constructor
   ·intro h;cases h
   ·rintro⟨h1,h2⟩
    have a:=(h.jL e s).2 ⟨h1,fun x=>h2 (.inl x)⟩
    have b:=(h.jL e r).2 ⟨hd,hE⟩
    rw[a]at b;cases b;exact absurd (.inr rfl) h2
  ·rw[ot e2,h.jL]
   constructor
   ·rintro⟨h1,h2⟩
    refine⟨h1,fun x=>?_⟩
    rcases x with x|rfl
    ·exact h2 x
    ·have x8:K.N s=some e:=h1
     rw[hd]at x8;cases x8;exact e2 rfl
   ·rintro⟨h1,h2⟩;exact⟨h1,fun x=>h2 (.inl x)⟩
 use:=h.use
 len:=h.len
 fit:=h.fit
 held:=h.held
 mx:=h.mx
 room:=h.room
 cap:=h.cap
theorem jt.xu(h:jt K S E P){r:Nat}{d d':Nd}{P':Nat→Nat}(hd:K.N r=some d)(hE:E r)(hv:d'.v<K.n)(hne:d'.lo≠d'.hi)(hlo:live K.N d'.lo)(hhi:live K.N d'.hi)(hT:K.T d'=none)(hS:∀x,S r x=ite S d' x)
 (hP:∀s,2≤s→P' s+e1 (some d') s=P s+e1 (some d) s):jt {K with N:=up K.N r (some d'),T:=o5 K.T d' (some r)} S (fun s=>E s∧s≠r) P' where
 two:=fun{s e} hs=>by
  have hs':up K.N r (some d') s=some e:=hs
  by_cases e2:s=r
  ·subst e2;exact h.two hd
  ·rw[aP e2]at hs';exact h.two hs'
 var:=fun{s e} hs=>by
  have hs':up K.N r (some d') s=some e:=hs
  by_cases e2:s=r
  ·subst e2;rw[aN]at hs';cases hs';exact hv
  ·rw[aP e2]at hs';exact h.var hs'
 ne:=fun{s e} hs=>by
  have hs':up K.N r (some d') s=some e:=hs
  by_cases e2:s=r
  ·subst e2;rw[aN]at hs';cases hs';exact hne
  ·rw[aP e2]at hs';exact h.ne hs'
 lo:=fun{s e} hs=>by
  have hs':up K.N r (some d') s=some e:=hs
  by_cases e2:s=r
  ·subst e2;rw[aN]at hs';cases hs';exact jO hlo
  ·rw[aP e2]at hs';exact jO (h.lo hs')
 hi:=fun{s e} hs=>by
  have hs':up K.N r (some d') s=some e:=hs
  by_cases e2:s=r
  ·subst e2;rw[aN]at hs';cases hs';exact jO hhi
  ·rw[aP e2]at hs';exact jO (h.hi hs')
 int:=⟨h.int.zero,h.int.one,fun{s e} hs x=>by
  have hs':up K.N r (some d') s=some e:=hs
  by_cases e2:s=r
  ·subst e2;rw[aN]at hs';cases hs';exact hS x
  ·rw[aP e2]at hs';exact h.int.node hs' x⟩
 jL:=fun e s=>by
  show o5 K.T d' (some r) e=some s↔up K.N r (some d') s=some e∧¬(E s∧s≠r)
  by_cases e2:e=d'
  ·subst e2
   rw[jb]
   constructor
   ·intro h;cases h;exact⟨aN,fun x=>x.2 rfl⟩
   ·rintro⟨h1,o8⟩
    by_cases e3:s=r
    ·rw[e3]
    ·rw[aP e3]at h1
     have a:=(h.jL e s).2 ⟨h1,fun x=>o8 ⟨x,e3⟩⟩
     rw[hT]at a;cases a
  ·rw[ot e2,h.jL]
   by_cases e3:s=r
   ·subst e3
    rw[aN]
    constructor
    ·rintro⟨_,h1⟩;exact absurd hE h1
    ·rintro⟨h1,_⟩;cases h1;exact absurd rfl e2
   ·rw[aP e3]
    constructor
    ·rintro⟨h1,h2⟩;exact⟨h1,fun x=>h2 x.1⟩
    ·rintro⟨h1,h2⟩;exact⟨h1,fun x=>h2 ⟨x,e3⟩⟩
 use:=fun{s e} hs=>by
  have hs':up K.N r (some d') s=some e:=hs
  have he:=ud (N:=K.N) (s:=r) (r:=s) (k:=K.cap) (o:=some d') (h.two hd).2
  rw[hd]at he
  show K.use s=dj (up K.N r (some d')) s K.cap+(if K.hold s=0 then 0 else 1)+P' s
  by_cases e2:s=r
  ·subst e2
   have hu:=h.use hd
   have:=hP s (h.two hd).1
   omega
  ·rw[aP e2]at hs'
   have hu:=h.use hs'
   have:=hP s (h.two hs').1
   omega
 len:=h.len
 fit:=fun{s e} hs=>by
  have hs':up K.N r (some d') s=some e:=hs
  by_cases e2:s=r
  ·subst e2;exact h.fit hd
  ·rw[aP e2]at hs';exact h.fit hs'
 held:=fun s hs=>by
  obtain⟨e,he⟩:=h.held s hs
  by_cases e2:s=r
  ·subst e2;exact⟨d',aN⟩
  ·exact⟨e,by show up K.N r (some d') s=_;rw[aP e2];exact he⟩
 mx:=h.mx
 room:=by
  have:=(p9 (N:=K.N) (s:=r) (o:=some d') (k:=K.cap)).1 (h.two hd).2
  have hr':=h.room
  rw[hd]at this
  show K.used=2+lY (up K.N r (some d')) K.cap
  simp at this;omega
 cap:=h.cap
theorem jt.keep(h:jt K S E P){r:Nat}{dr bX:List Nat}(hr:∃d,K.N r=some d)(hm:K.hold r<65535)(hl:dr.length=K.us.length∧bX.length=K.ho.length)(o0:bX.getD r 0=K.hold r+1)(o1:∀s,s≠r→bX.getD s 0=K.hold s)
 (u0:dr.getD r 0=K.use r+(if K.hold r=0 then 1 else 0))(u1:∀s,s≠r→dr.getD s 0=K.use s):jt {K with us:=dr,ho:=bX} S E P where
 two:=h.two
 var:=h.var
 ne:=h.ne
 lo:=h.lo
 hi:=h.hi
 int:=h.int
 jL:=h.jL
 use:=fun{s e} hs=>by
  have hu:=h.use hs
  show dr.getD s 0=dj K.N s K.cap+(if bX.getD s 0=0 then 0 else 1)+P s
  by_cases e2:s=r
  ·subst e2
   rw[u0,o0,if_neg (by omega:¬K.hold s+1=0)]
   by_cases e3:K.hold s=0
   ·rw[if_pos e3]at hu⊢;omega
   ·rw[if_neg e3]at hu⊢;omega
  ·rw[u1 s e2,o1 s e2];exact hu
 len:=by show dr.length=bX.length;rw[hl.1,hl.2];exact h.len
 fit:=fun{s e} hs=>by show s<dr.length;rw[hl.1];exact h.fit hs
 held:=fun s hs=>by
  have hs':bX.getD s 0≠0:=hs
  by_cases e2:s=r
  ·subst e2;exact hr
  ·rw[o1 s e2]at hs';exact h.held s hs'
 mx:=fun s=>by
  show bX.getD s 0≤65535
  by_cases e2:s=r
  ·subst e2;rw[o0];omega
  ·rw[o1 s e2];exact h.mx s
 room:=h.room
 cap:=h.cap
theorem jt.drop(h:jt K S E P){r:Nat}{bX:List Nat}(hr:0<K.hold r)(hl:bX.length=K.ho.length)(o0:bX.getD r 0+1=K.hold r)(o1:∀s,s≠r→bX.getD s 0=K.hold s):
  jt {K with ho:=bX} S E (if K.hold r=1 then up P r (P r+1)else P) where
 two:=h.two
 var:=h.var
 ne:=h.ne
 lo:=h.lo
 hi:=h.hi
 int:=h.int
 jL:=h.jL
 use:=fun{s e} hs=>by
  have hu:=h.use hs
  show K.use s=dj K.N s K.cap+(if bX.getD s 0=0 then 0 else 1)+(if K.hold r=1 then up P r (P r+1)else P) s
  by_cases e2:s=r
  ·subst e2
   rw[if_neg (by omega:¬K.hold s=0)]at hu
   by_cases e3:K.hold s=1
   ·rw[if_pos e3,aN,if_pos (by omega)];omega
   ·rw[if_neg e3,if_neg (by omega)];omega
  ·rw[o1 s e2]
   by_cases e3:K.hold r=1
   ·rw[if_pos e3,aP e2];exact hu
   ·rw[if_neg e3];exact hu
 len:=by show K.us.length=bX.length;rw[hl];exact h.len
 fit:=h.fit
 held:=fun s hs=>by
  have hs':bX.getD s 0≠0:=hs
  by_cases e2:s=r
  ·subst e2;exact h.held s (by omega)
  ·rw[o1 s e2]at hs';exact h.held s hs'
 mx:=fun s=>by
  show bX.getD s 0≤65535
  have:=h.mx r
  by_cases e2:s=r
  ·subst e2;omega
  ·rw[o1 s e2];exact h.mx s
 room:=h.room
 cap:=h.cap
theorem jt.congr(h:jt K S E P){E':Nat→Prop}{P':Nat→Nat}(hE:∀s,E s↔E' s)(hP:∀s,2≤s→P s=P' s):jt K S E' P' where
 two:=h.two
 var:=h.var
 ne:=h.ne
 lo:=h.lo
 hi:=h.hi
 int:=h.int
 jL:=fun d r=>by rw[h.jL,hE]
 use:=fun{s e} hs=>by rw[←hP s (h.two hs).1];exact h.use hs
 len:=h.len
 fit:=h.fit
 held:=h.held
 mx:=h.mx
 room:=h.room
 cap:=h.cap
def iH:Nat→Prop:=fun _=>False
def zero':Nat→Nat:=fun _=>0
structure Ok(K:Kd)(S:Nat→Fn)(ax:Nat→Nat):Prop where
 mid:jt K S iH zero'
 pos:Pos K
 lv:vb K.n ax
 wf:WF K.n ax K.N
theorem jt.uq(h:jt K S iH P){r r':Nat}{d:Nd}(h1:K.N r=some d)(h2:K.N r'=some d):r=r':=by
 have a:=(h.jL d r).2 ⟨h1,fun x=>x⟩
 have b:=(h.jL d r').2 ⟨h2,fun x=>x⟩
 rw[a]at b;cases b;rfl
theorem jt.wf(h:jt K S iH P){ax:Nat→Nat}(hl:∀{r d},K.N r=some d→ax d.v<dep K.n ax K.N d.lo∧ax d.v<dep K.n ax K.N d.hi):WF K.n ax K.N:=
 ⟨fun hd=>(h.two hd).1,h.var,h.ne,fun hd=>⟨h.lo hd,(hl hd).1⟩,fun hd=>⟨h.hi hd,(hl hd).2⟩,h.uq⟩
theorem Ok.reach{ax:Nat→Nat}(h:Ok K S ax):Reach K.N (fun r=>K.hold r≠0):=fun r d hd=>by
 have hu:=h.mid.use hd
 have hp:=h.pos r d hd
 by_cases e:K.hold r=0
 ·rw[if_pos e]at hu
  have:zero' r=0:=rfl
  obtain⟨s,e',_,h1,h2⟩:=qS (N:=K.N) (r:=r) (k:=K.cap) (by omega)
  exact .inr ⟨s,e',h1,h2⟩
 ·exact .inl e
theorem Ok.dom{ax:Nat→Nat}(h:Ok K S ax):∃dom:List Nat,dom.Nodup∧dom.length+2=K.used∧∀r,r∈dom↔∃d,K.N r=some d:=by
 refine⟨(List.range K.cap).filter fun r=>(K.N r).isSome,List.nodup_range.filter _,by rw[AA,h.mid.room];omega,fun r=>?_⟩
 rw[List.mem_filter,List.mem_range,Option.isSome_iff_exists]
 exact⟨fun h=>h.2,fun⟨d,hd⟩=>⟨(h.mid.two hd).2,d,hd⟩⟩
def Kd.held(K:Kd)(S:Nat→Fn):Fn→Prop:=Fs S fun r=>K.hold r≠0
theorem Ok.size{ax:Nat→Nat}{ord:List Nat}(h:Ok K S ax)(ho:Ord K.n ax ord):pc (cr K.n ord (K.held S)) (K.used-2):=by
 obtain⟨dom,h1,h2,h3⟩:=h.dom
 have hc:=wJ h.wf h.lv h.mid.int h1 h3
 rw[show dom.length=K.used-2 by omega]at hc
 refine hc.congr fun g=>?_
 exact(mC h.wf h.lv ho h.mid.int (fun r hr=>.inr (h.mid.held r hr)) h.reach g).symm
end aZ
namespace aZ
open aj
variable {n:Nat} {ax:Nat→Nat} {N:gK} {S:Nat→Fn} {ord:List Nat} {K:Kd}
def pl(N:gK)(y r:Nat):Nat:=match N r with|some e=>if e.v=y then e.lo else r|none=>r
def ph(N:gK)(y r:Nat):Nat:=match N r with|some e=>if e.v=y then e.hi else r|none=>r
theorem P5{y r:Nat}{e:Nd}(h:N r=some e)(hv:e.v=y):pl N y r=e.lo∧ph N y r=e.hi:=by simp[pl,ph,h,hv]
theorem P6{y r:Nat}(h:∀e,N r=some e→e.v≠y):pl N y r=r∧ph N y r=r:=by
 unfold pl ph
 cases hr:N r with
 |none=>exact⟨rfl,rfl⟩
 |some e=>simp[h e hr]
theorem WF.half(h:WF n ax N)(hl:vb n ax)(hi:Interp N S){y l r:Nat}(hy:y<n∧ax y=l+1)(hr:live N r)(hd:l<dep n ax N r):
  (live N (pl N y r)∧l+1<dep n ax N (pl N y r))∧(live N (ph N y r)∧l+1<dep n ax N (ph N y r))∧∀z,S r z=if z.testBit y then S (ph N y r) z else S (pl N y r) z:=by
 by_cases e:∃e,N r=some e∧e.v=y
 ·obtain⟨e,he,hv⟩:=e
  obtain⟨p1,p2⟩:=P5 he hv
  rw[p1,p2]
  have h1:=h.lo he
  have h2:=h.hi he
  rw[hv,hy.2]at h1 h2
  exact⟨h1,h2,fun z=>by rw[hi.node he,hv]⟩
 ·have ho:∀e',N r=some e'→e'.v≠y:=fun e' h1 h2=>e ⟨e',h1,h2⟩
  obtain⟨p1,p2⟩:=P6 ho
  rw[p1,p2]
  have wz:l+1<dep n ax N r:=by
   rcases hr with hr|⟨e',he⟩
   ·rw[cQ (h.const hr)]
    have:=hl.lt y hy.1;omega
   ·rw[aM he]at hd⊢
    have h1:=ho e' he
    refine Nat.lt_of_le_of_ne hd fun e2=>h1 (hl.inj _ _ (h.var he) hy.1 (by omega))
  exact⟨⟨hr,wz⟩,⟨hr,wz⟩,fun z=>by split<;>rfl⟩
theorem WF.QY(h:WF n ax N)(hl:vb n ax)(hi:Interp N S){y l a b:Nat}(hy:y<n∧ax y=l+1)(ha:live N a)(hb:live N b)(da:l<dep n ax N a)(db:l<dep n ax N b)
 (h1:pl N y a=pl N y b)(h2:ph N y a=ph N y b):a=b:=by
 refine h.same hl hi ha hb fun z=>?_
 rw[(h.half hl hi hy ha da).2.2 z,(h.half hl hi hy hb db).2.2 z,h1,h2]
structure Cx where
 r:Nat
 d:Nd
 vB:Nat
 vA:Nat
 si:Nat
 sg:Nat
def lE(N:gK)(x y r:Nat)(d:Nd):Prop:=N r=some d∧d.v=x∧((∃e,N d.lo=some e∧e.v=y)∨∃e,N d.hi=some e∧e.v=y)
def mP(N:gK)(y r:Nat)(d:Nd):Cx:=⟨r,d,pl N y d.lo,ph N y d.lo,pl N y d.hi,ph N y d.hi⟩
structure G9(N:gK)(x y:Nat)(l:List Cx):Prop where
 nd:(l.map Cx.r).Nodup
 mem:∀c,c∈l↔lE N x y c.r c.d∧c=mP N y c.r c.d
def keys(x:Nat)(c:Cx):List Nd:=[⟨x,c.vB,c.si⟩,⟨x,c.vA,c.sg⟩]
structure Made(K:Kd)(x:Nat)(l:List Cx)(made:List Nd):Prop where
 nd:made.Nodup
 mem:∀k,k∈made↔(∃c∈l,k∈keys x c)∧K.T k=none∧k.lo≠k.hi
structure Nb(n:Nat)(ax:Nat→Nat)(x y l:Nat):Prop where
 xn:x<n
 yn:y<n
 lx:ax x=l
 ly:ax y=l+1
variable {x y l:Nat}
theorem Nb.ne(h:Nb n ax x y l):x≠y:=fun e=>by have h1:=h.lx;have h2:=h.ly;rw[e]at h1;omega
theorem Nb.yy(h:Nb n ax x y l):y<n∧ax y=l+1:=⟨h.yn,h.ly⟩
theorem kC(h:WF n ax N)(hl:vb n ax)(hi:Interp N S)(hb:Nb n ax x y l){r:Nat}{d:Nd}(hd:N r=some d)(hx:d.v=x){k:Nd}(hk:k∈keys x (mP N y r d)):
  k.v=x∧(live N k.lo∧l+1<dep n ax N k.lo)∧(live N k.hi∧l+1<dep n ax N k.hi):=by
 have h1:=h.lo hd
 have h2:=h.hi hd
 rw[hx,hb.lx]at h1 h2
 have a:=h.half hl hi hb.yy h1.1 h1.2
 have b:=h.half hl hi hb.yy h2.1 h2.2
 simp only[keys,mP,List.mem_cons,List.not_mem_nil,or_false]at hk
 rcases hk with rfl|rfl
 ·exact⟨rfl,a.1,b.1⟩
 ·exact⟨rfl,a.2.1,b.2.1⟩
theorem uh(h:WF n ax N)(hl:vb n ax)(hi:Interp N S)(hb:Nb n ax x y l){r:Nat}{d:Nd}(hd:N r=some d)(hx:d.v=x)(z:Nat):
  S r z=if z.testBit y then ite S ⟨x,ph N y d.lo,ph N y d.hi⟩ z else ite S ⟨x,pl N y d.lo,pl N y d.hi⟩ z:=by
 have h1:=h.lo hd
 have h2:=h.hi hd
 rw[hx,hb.lx]at h1 h2
 have a:=(h.half hl hi hb.yy h1.1 h1.2).2.2 z
 have b:=(h.half hl hi hb.yy h2.1 h2.2).2.2 z
 rw[hi.node hd,hx,a,b]
 unfold ite
 simp only
 cases z.testBit x<;>cases z.testBit y<;>rfl
theorem iS(h:WF n ax N)(hl:vb n ax)(hi:Interp N S)(hb:Nb n ax x y l){k:Nd}(hk:k.v=x)(h1:live N k.lo∧l+1<dep n ax N k.lo)(h2:live N k.hi∧l+1<dep n ax N k.hi)(z:Nat)(b:Bool):
  ite S k (aI z x b)=S (if b then k.hi else k.lo) z:=by
 unfold ite
 rw[hk,au,if_pos rfl]
 cases b
 ·simp only[Bool.false_eq_true,if_false];exact h.dh hl hi h1.1 hb.xn (by rw[hb.lx];omega) z false
 ·simp only[if_true];exact h.dh hl hi h2.1 hb.xn (by rw[hb.lx];omega) z true
theorem iY(h:WF n ax N)(hl:vb n ax)(hi:Interp N S)(hb:Nb n ax x y l){k:Nd}(hk:k.v=x)(h1:live N k.lo∧l+1<dep n ax N k.lo)(h2:live N k.hi∧l+1<dep n ax N k.hi){u:Nat}(hu:u<n)(xR:ax u≤l+1)(hne:u≠x)(z:Nat)(b:Bool):
  ite S k (aI z u b)=ite S k z:=by
 unfold ite
 rw[hk,au,if_neg (Ne.symm hne),h.dh hl hi h1.1 hu (by omega),h.dh hl hi h2.1 hu (by omega)]
theorem oN(h:WF n ax N)(hl:vb n ax)(hi:Interp N S){r:Nat}{d:Nd}(hd:N r=some d):∃z,S r (aI z d.v false)≠S r (aI z d.v true):=by
 refine Classical.byContradiction fun hno=>h.ne hd (h.same hl hi (h.lo hd).1 (h.hi hd).1 fun z=>?_)
 have c1:=h.child hl hi hd z false
 have c2:=h.child hl hi hd z true
 simp only[Bool.false_eq_true,if_false,if_true]at c1 c2
 rw[←c1,←c2]
 exact Classical.byContradiction fun hne=>hno ⟨z,hne⟩
theorem Mw(h:WF n ax N)(hl:vb n ax)(hi:Interp N S)(hb:Nb n ax x y l){k:Nd}(hk:k.v=x)(hne:k.lo≠k.hi)(h1:live N k.lo∧l+1<dep n ax N k.lo)(h2:live N k.hi∧l+1<dep n ax N k.hi)
 {r:Nat}{d:Nd}(hd:N r=some d)(he:ite S k=S r):d=k:=by
 have hv:=h.var hd
 have hvx:d.v=x:=by
  rcases Nat.lt_trichotomy (ax d.v) l with hlt|heq|hgt
  ·obtain⟨z,hz⟩:=oN h hl hi hd
   have XN:d.v≠x:=fun e=>by rw[e,hb.lx]at hlt;omega
   rw[←he,iY h hl hi hb hk h1 h2 hv (by omega) XN,iY h hl hi hb hk h1 h2 hv (by omega) XN]at hz
   exact absurd rfl hz
  ·exact hl.inj _ _ hv hb.xn (by rw[hb.lx];exact heq)
  ·refine absurd (h.same hl hi h1.1 h2.1 fun z=>?_) hne
   have c1:=iS h hl hi hb hk h1 h2 z false
   have c2:=iS h hl hi hb hk h1 h2 z true
   simp only[Bool.false_eq_true,if_false,if_true]at c1 c2
   have hdp:ax x<dep n ax N r:=by rw[aM hd,hb.lx];exact hgt
   rw[←c1,←c2,he,h.dh hl hi (.inr ⟨d,hd⟩) hb.xn hdp,h.dh hl hi (.inr ⟨d,hd⟩) hb.xn hdp]
 have c:∀(b:Bool) z,S (if b then k.hi else k.lo) z=S (if b then d.hi else d.lo) z:=fun(b:Bool) z=>by
  rw[←iS h hl hi hb hk h1 h2 z b,he,←hvx,h.child hl hi hd z b]
 have e1:=h.same hl hi h1.1 (h.lo hd).1 (fun z=>by simpa using c false z)
 have e2:=h.same hl hi h2.1 (h.hi hd).1 (fun z=>by simpa using c true z)
 cases d;cases k;simp_all
theorem Qu(h:WF n ax N)(hl:vb n ax)(hi:Interp N S)(hb:Nb n ax x y l){k k':Nd}(hk:k.v=x)(hk':k'.v=x)(h1:live N k.lo∧l+1<dep n ax N k.lo)(h2:live N k.hi∧l+1<dep n ax N k.hi)
 (x8:live N k'.lo∧l+1<dep n ax N k'.lo)(o8:live N k'.hi∧l+1<dep n ax N k'.hi)(he:ite S k=ite S k'):k=k':=by
 have c:∀(b:Bool) z,S (if b then k.hi else k.lo) z=S (if b then k'.hi else k'.lo) z:=fun(b:Bool) z=>by
  rw[←iS h hl hi hb hk h1 h2 z b,he,iS h hl hi hb hk' x8 o8 z b]
 have e1:=h.same hl hi h1.1 x8.1 (fun z=>by simpa using c false z)
 have e2:=h.same hl hi h2.1 o8.1 (fun z=>by simpa using c true z)
 cases k;cases k';simp_all
def eG(ord:List Nat)(l:Nat):List Nat:=(ord.set l (ord.getD (l+1) 0)).set (l+1) (ord.getD l 0)
theorem jM(ord:List Nat)(l:Nat):(eG ord l).length=ord.length:=by simp[eG]
theorem eS{i:Nat}(hl:l+1<ord.length):(eG ord l).getD i 0=if i=l then ord.getD (l+1) 0 else if i=l+1 then ord.getD l 0 else ord.getD i 0:=by
 unfold eG
 rw[List.getD_eq_getElem?_getD,List.getElem?_set,List.getElem?_set]
 by_cases e1:l+1=i
 ·subst e1
  rw[if_pos rfl,if_pos (by simp;omega),if_neg (by omega),if_pos rfl];rfl
 ·rw[if_neg e1]
  by_cases e2:l=i
  ·subst e2;rw[if_pos rfl,if_pos (by omega),if_pos rfl];rfl
  ·rw[if_neg e2,if_neg (fun e=>e2 e.symm),if_neg (fun e=>e1 e.symm),←List.getD_eq_getElem?_getD]
def rZ(ax:Nat→Nat)(x y l:Nat):Nat→Nat:=fun v=>if v=x then l+1 else if v=y then l else ax v
theorem PS(hl:vb n ax)(hb:Nb n ax x y l):vb n (rZ ax x y l):=by
 have Uv:=hl.lt y hb.yn
 rw[hb.ly]at Uv
 have key:∀v,v<n→v≠x→v≠y→ax v≠l∧ax v≠l+1:=fun v hv h1 h2=>⟨fun e=>h1 (hl.inj _ _ hv hb.xn (by rw[hb.lx];exact e)),fun e=>h2 (hl.inj _ _ hv hb.yn (by rw[hb.ly];exact e))⟩
 refine⟨fun v hv=>?_,fun u v hu hv he=>?_⟩
 ·unfold rZ
  split
  ·exact Uv
  ·split
   ·omega
   ·exact hl.lt v hv
 ·unfold rZ at he
  by_cases u1:u=x
  ·by_cases v1:v=x
   ·rw[u1,v1]
   ·rw[if_pos u1,if_neg v1]at he
    by_cases v2:v=y
    ·rw[if_pos v2]at he;omega
    ·rw[if_neg v2]at he;exact absurd he.symm (key v hv v1 v2).2
  ·rw[if_neg u1]at he
   by_cases u2:u=y
   ·rw[if_pos u2]at he
    by_cases v1:v=x
    ·rw[if_pos v1]at he;omega
    ·rw[if_neg v1]at he
     by_cases v2:v=y
     ·rw[u2,v2]
     ·rw[if_neg v2]at he;exact absurd he.symm (key v hv v1 v2).1
   ·rw[if_neg u2]at he
    by_cases v1:v=x
    ·rw[if_pos v1]at he;exact absurd he (key u hu u1 u2).2
    ·rw[if_neg v1]at he
     by_cases v2:v=y
     ·rw[if_pos v2]at he;exact absurd he (key u hu u1 u2).1
     ·rw[if_neg v2]at he;exact hl.inj _ _ hu hv he
theorem Ord.nb(ho:Ord n ax ord)(hl:l+1<n):Nb n ax (ord.getD l 0) (ord.getD (l+1) 0) l:=
 ⟨(ho.bB l (by omega)).1,(ho.bB (l+1) hl).1,(ho.bB l (by omega)).2,(ho.bB (l+1) hl).2⟩
theorem PR(ho:Ord n ax ord)(hl:l+1<n):Ord n (rZ ax (ord.getD l 0) (ord.getD (l+1) 0) l) (eG ord l):=by
 have hb:=ho.nb hl
 refine⟨by rw[jM,ho.len],fun i hi=>?_⟩
 rw[eS (by rw[ho.len];exact hl)]
 unfold rZ
 by_cases e1:i=l
 ·subst e1;rw[if_pos rfl];refine⟨hb.yn,?_⟩;rw[if_neg (Ne.symm hb.ne),if_pos rfl]
 ·rw[if_neg e1]
  by_cases e2:i=l+1
  ·subst e2;rw[if_pos rfl];refine⟨hb.xn,?_⟩;rw[if_pos rfl]
  ·rw[if_neg e2]
   obtain⟨h1,h2⟩:=ho.bB i hi
   refine⟨h1,?_⟩
   rw[if_neg,if_neg]
   ·exact h2
   ·intro e;rw[e,hb.ly]at h2;omega
   ·intro e;rw[e,hb.lx]at h2;omega
variable {F:Fn→Prop}
theorem CK(hl:l+1<ord.length)(hne:ord.getD l 0≠ord.getD (l+1) 0):∀m,m≠l+1→∀g,fs (eG ord l) F m g↔fs ord F m g
 |0,_,g=>Iff.rfl
 |m+1,hm,g=>by
  by_cases e:m=l+1
  ·subst e
   have g1:(eG ord l).getD (l+1) 0=ord.getD l 0:=by rw[eS hl,if_neg (by omega),if_pos rfl]
   have g2:(eG ord l).getD l 0=ord.getD (l+1) 0:=by rw[eS hl,if_pos rfl]
   have ih:=CK hl hne l (by omega)
   constructor
   ·rintro⟨f,⟨f',h,b,rfl⟩,b',rfl⟩
    refine⟨_,⟨f',(ih f').1 h,b',rfl⟩,b,?_⟩
    funext z
    rw[g1,g2]
    show f' _=f' _
    rw[eI hne]
   ·rintro⟨f,⟨f',h,b,rfl⟩,b',rfl⟩
    refine⟨_,⟨f',(ih f').2 h,b',rfl⟩,b,?_⟩
    funext z
    rw[g1,g2]
    show f' _=f' _
    rw[eI (Ne.symm hne)]
  ·have ih:=CK hl hne m e
   have hg:(eG ord l).getD m 0=ord.getD m 0:=by rw[eS hl,if_neg (by omega),if_neg e]
   constructor
   ·rintro⟨f,h,b,rfl⟩;exact⟨f,(ih f).1 h,b,by rw[hg]⟩
   ·rintro⟨f,h,b,rfl⟩;exact⟨f,(ih f).2 h,b,by rw[hg]⟩
theorem Ls(h:Ok K S ax)(ho:Ord K.n ax ord)(O6:l+1<K.n){all:List Cx}(hc:G9 K.N (ord.getD l 0) (ord.getD (l+1) 0) all){made:List Nd}(hm:Made K (ord.getD l 0) all made):
  pc (fun g=>cr K.n ord (K.held S) g∨cr K.n (eG ord l) (K.held S) g) (K.used-2+made.length):=by
 have hb:=ho.nb O6
 have hlen:l+1<ord.length:=by rw[ho.len];exact O6
 have hw:=h.wf
 have hlv:=h.lv
 have hi:=h.mid.int
 have hR:∀r,K.hold r≠0→live K.N r:=fun r hr=>.inr (h.mid.held r hr)
 generalize hx:ord.getD l 0=x at*
 generalize hy:ord.getD (l+1) 0=y at*
 have lB:∀k∈made,k.v=x∧(live K.N k.lo∧l+1<dep K.n ax K.N k.lo)∧(live K.N k.hi∧l+1<dep K.n ax K.N k.hi):=fun k hk=>by
  obtain⟨⟨c,Kz,hkc⟩,_⟩:=(hm.mem k).1 hk
  obtain⟨⟨hd,Nc,_⟩,e⟩:=(hc.mem c).1 Kz
  rw[e]at hkc
  exact kC hw hlv hi hb hd Nc hkc
 obtain⟨dom,d1,d2,d3⟩:=h.dom
 have c1:=wJ hw hlv hi d1 d3
 rw[show dom.length=K.used-2 by omega]at c1
 have c2:pc (fun g=>∃k∈made,g=ite S k) made.length:=by
  refine⟨made.map (ite S),?_,by simp,fun g=>?_⟩
  ·refine List.pairwise_map.2 (hm.nd.imp_of_mem fun{a b} ha hb' hne heq=>hne ?_)
   obtain⟨a1,a2,a3⟩:=lB a ha
   obtain⟨b1,b2,b3⟩:=lB b hb'
   exact Qu hw hlv hi hb a1 b1 a2 a3 b2 b3 heq
  ·rw[List.mem_map]
   constructor
   ·rintro⟨k,hk,rfl⟩;exact⟨k,hk,rfl⟩
   ·rintro⟨k,hk,rfl⟩;exact⟨k,hk,rfl⟩
 refine(c1.or c2 ?_).congr fun g=>?_
 ·rintro g ⟨r,d,hd,rfl⟩ ⟨k,hk,he⟩
  obtain⟨a1,a2,a3⟩:=lB k hk
  obtain⟨_,hT,hne⟩:=(hm.mem k).1 hk
  have:=Mw hw hlv hi hb a1 hne a2 a3 hd he.symm
  subst this
  rw[(h.mid.jL d r).2 ⟨hd,fun x=>x⟩]at hT;cases hT
 ·have XL:=mC hw hlv ho hi hR h.reach
  have o7:=fun m (hmn:m≤K.n) g=>Rk hw hlv ho hi hR m hmn g
  have hne:ord.getD l 0≠ord.getD (l+1) 0:=by rw[hx,hy];exact hb.ne
  have GB:=CK (F:=K.held S) hlen hne
  have gl:(eG ord l).getD l 0=y:=by rw[eS hlen,if_pos rfl,hy]
  have gl1:(eG ord l).getD (l+1) 0=x:=by rw[eS hlen,if_neg (by omega),if_pos rfl,hx]
  have go:∀m,m≠l→m≠l+1→(eG ord l).getD m 0=ord.getD m 0:=fun m h1 h2=>by rw[eS hlen,if_neg h1,if_neg h2]
  constructor
  ·rintro(⟨r,d,hd,rfl⟩|⟨k,hk,rfl⟩)
   ·exact .inl ((XL _).2 ⟨r,d,hd,rfl⟩)
   ·obtain⟨a1,a2,a3⟩:=lB k hk
    obtain⟨⟨c,Kz,hkc⟩,hT,UO⟩:=(hm.mem k).1 hk
    obtain⟨⟨hd,Nc,_⟩,e⟩:=(hc.mem c).1 Kz
    refine .inr ⟨l+1,O6,?_,?_⟩
    ·have hA:=Tn hw h.reach _ c.r c.d hd (Nat.le_refl _)
     rw[Nc,hb.lx]at hA
     refine⟨S c.r,(GB l (by omega) _).2 ((o7 l (by omega) _).2 ⟨c.r,hA,rfl⟩),?_⟩
     have SO:=uh hw hlv hi hb hd Nc
     rw[e]at hkc
     simp only[keys,mP,List.mem_cons,List.not_mem_nil,or_false]at hkc
     rw[gl]
     rcases hkc with rfl|rfl
     ·refine⟨false,?_⟩
      funext z
      rw[SO,au,if_pos rfl,if_neg (by simp),iY hw hlv hi hb rfl a2 a3 hb.yn (by rw[hb.ly];exact Nat.le_refl _) (Ne.symm hb.ne)]
     ·refine⟨true,?_⟩
      funext z
      rw[SO,au,if_pos rfl,if_pos rfl,iY hw hlv hi hb rfl a2 a3 hb.yn (by rw[hb.ly];exact Nat.le_refl _) (Ne.symm hb.ne)]
    ·rw[gl1]
     refine Classical.byContradiction fun hno=>UO (hw.same hlv hi a2.1 a3.1 fun z=>?_)
     have c1:=iS hw hlv hi hb a1 a2 a3 z false
     have c2:=iS hw hlv hi hb a1 a2 a3 z true
     simp only[Bool.false_eq_true,if_false,if_true]at c1 c2
     rw[←c1,←c2]
     exact Classical.byContradiction fun hne=>hno ⟨z,hne⟩
  ·rintro(hg|⟨m,hmn,hf,hh⟩)
   ·exact .inl ((XL g).1 hg)
   ·by_cases e1:m=l+1
    ·subst e1
     rw[gl1]at hh
     obtain⟨f,hf,b,rfl⟩:=hf
     rw[gl]at hh⊢
     obtain⟨r,hA,rfl⟩:=(o7 l (by omega) f).1 ((GB l (by omega) f).1 hf)
     obtain⟨hlr,hle⟩:=q9 hw hR l r hA
     have hgt:dep K.n ax K.N r=l:=by
      refine Nat.le_antisymm (Nat.le_of_not_lt fun hlt=>?_) hle
      obtain⟨z,hz⟩:=hh
      refine hz ?_
      show S r (aI (aI z x false) y b)=S r (aI (aI z x true) y b)
      rw[eI hb.ne,eI hb.ne,hw.dh hlv hi hlr hb.xn (by rw[hb.lx];exact hlt),hw.dh hlv hi hlr hb.xn (by rw[hb.lx];exact hlt)]
     rcases hlr with z6|⟨d,hd⟩
     ·rw[cQ (hw.const z6)]at hgt;omega
     ·rw[aM hd]at hgt
      have Nc:d.v=x:=hlv.inj _ _ (hw.var hd) hb.xn (by rw[hb.lx];exact hgt)
      have SO:=uh hw hlv hi hb hd Nc
      have hkk:∃k∈keys x (mP K.N y r d),(fun z=>S r (aI z y b))=ite S k:=by
       cases b
       ·refine⟨_,List.mem_cons_self,?_⟩
        obtain⟨a1,a2,a3⟩:=kC hw hlv hi hb hd Nc (k:=⟨x,pl K.N y d.lo,pl K.N y d.hi⟩) List.mem_cons_self
        funext z
        rw[SO,au,if_pos rfl,if_neg (by simp),iY hw hlv hi hb rfl a2 a3 hb.yn (by rw[hb.ly];exact Nat.le_refl _) (Ne.symm hb.ne)];rfl
       ·refine⟨_,List.mem_cons_of_mem _ List.mem_cons_self,?_⟩
        obtain⟨a1,a2,a3⟩:=kC hw hlv hi hb hd Nc (k:=⟨x,ph K.N y d.lo,ph K.N y d.hi⟩) (List.mem_cons_of_mem _ List.mem_cons_self)
        funext z
        rw[SO,au,if_pos rfl,if_pos rfl,iY hw hlv hi hb rfl a2 a3 hb.yn (by rw[hb.ly];exact Nat.le_refl _) (Ne.symm hb.ne)];rfl
      obtain⟨k,hkm,hke⟩:=hkk
      obtain⟨a1,a2,a3⟩:=kC hw hlv hi hb hd Nc hkm
      rw[hke]at hh⊢
      have UO:k.lo≠k.hi:=fun e=>by
       obtain⟨z,hz⟩:=hh
       have c1:=iS hw hlv hi hb a1 a2 a3 z false
       have c2:=iS hw hlv hi hb a1 a2 a3 z true
       simp only[Bool.false_eq_true,if_false,if_true]at c1 c2
       rw[c1,c2,e]at hz;exact hz rfl
      cases hT:K.T k with
      |some s=>
       have hs:=((h.mid.jL k s).1 hT).1
       refine .inl ⟨s,k,hs,?_⟩
       funext z
       exact(hi.node hs z).symm
      |none=>
       by_cases UZ:lE K.N x y r d
       ·exact .inr ⟨k,(hm.mem k).2 ⟨⟨mP K.N y r d,(hc.mem _).2 ⟨UZ,rfl⟩,hkm⟩,hT,UO⟩,rfl⟩
       ·have hno:∀t,t=d.lo∨t=d.hi→pl K.N y t=t∧ph K.N y t=t:=fun t ht=>P6 fun e he hv=>UZ ⟨hd,Nc,by
         rcases ht with rfl|rfl
         ·exact .inl ⟨e,he,hv⟩
         ·exact .inr ⟨e,he,hv⟩⟩
        have e1:=hno d.lo (.inl rfl)
        have e2:=hno d.hi (.inr rfl)
        have:k=d:=by
         simp only[keys,mP,e1.1,e1.2,e2.1,e2.2,List.mem_cons,List.not_mem_nil,or_false,or_self]at hkm
         rw[hkm,←Nc]
        rw[this,(h.mid.jL d r).2 ⟨hd,fun x=>x⟩]at hT;cases hT
    ·by_cases e2:m=l
     ·subst e2
      rw[gl]at hh
      obtain⟨r,hA,rfl⟩:=(o7 m (by omega) g).1 ((GB m e1 g).1 hf)
      obtain⟨hlr,hle⟩:=q9 hw hR m r hA
      rcases hlr with z6|⟨d,hd⟩
      ·obtain⟨z,hz⟩:=hh
       have:∀z,S r z=S r 0:=fun z=>by
        have:r=0∨r=1:=by omega
        rcases this with rfl|rfl
        ·rw[hi.zero,hi.zero]
        ·rw[hi.one,hi.one]
       rw[this (aI z y false),this (aI z y true)]at hz
       exact absurd rfl hz
      ·exact .inl ⟨r,d,hd,rfl⟩
     ·refine .inl ((XL g).1 ⟨m,hmn,(GB m e1 g).1 hf,?_⟩)
      rw[go m e2 e1]at hh;exact hh
end aZ
namespace aZ
open aj
def rV(K:Kd)(ax:Nat→Nat)(l t:Nat):Prop:=live K.N t∧l+1<dep K.n ax K.N t
def vE(K0 K:Kd)(ax:Nat→Nat)(x l t:Nat):Prop:=rV K0 ax l t∨∃e,K.N t=some e∧e.v=x∧rV K0 ax l e.lo∧rV K0 ax l e.hi
structure TI(K0:Kd)(S0:Nat→Fn)(ax:Nat→Nat)(x y l:Nat)(made:List Nd)(K:Kd)(S:Nat→Fn)(done rest:List Cx)(P:Nat→Nat):Prop where
 mid:jt K S (fun s=>∃c∈rest,s=c.r) P
 n:K.n=K0.n
 cap:K.cap=K0.cap
 hold:∀r,K.hold r=K0.hold r
 ext:∀r,live K0.N r→S r=S0 r
 old:∀{r d},K0.N r=some d→r∉done.map Cx.r→K.N r=some d
 kept:∀{r d},K0.N r=some d→∃d',K.N r=some d'
 new:∀{r d},K.N r=some d→(K0.N r=some d∧r∉done.map Cx.r)∨(r∈done.map Cx.r∧d.v=y∧vE K0 K ax x l d.lo∧vE K0 K ax x l d.hi)∨(K0.N r=none∧d.v=x∧rV K0 ax l d.lo∧rV K0 ax l d.hi)
 used:K.used=K0.used+(made.filter fun k=>(K.T k).isSome).length
structure TB(K0:Kd)(S0:Nat→Fn)(ax:Nat→Nat)(x y l:Nat)(all:List Cx)(made:List Nd):Prop where
 ok:Ok K0 S0 ax
 nb:Nb K0.n ax x y l
 cx:G9 K0.N x y all
 Xb:Made K0 x all made
 room:K0.used+made.length≤K0.cap
section
variable {K0 K:Kd} {S0 S:Nat→Fn} {ax:Nat→Nat} {x y l:Nat} {made:List Nd} {done rest all:List Cx} {P:Nat→Nat}
theorem TB.mQ(b:TB K0 S0 ax x y l all made){c:Cx}(hc:c∈all):K0.N c.r=some c.d∧c.d.v=x∧c=mP K0.N y c.r c.d:=by
 obtain⟨⟨h1,h2,_⟩,h3⟩:=(b.cx.mem c).1 hc
 exact⟨h1,h2,h3⟩
theorem TB.Qi(b:TB K0 S0 ax x y l all made){c:Cx}(hc:c∈all):(rV K0 ax l c.vB∧rV K0 ax l c.si)∧(rV K0 ax l c.vA∧rV K0 ax l c.sg):=by
 obtain⟨h1,h2,h3⟩:=b.mQ hc
 have k1:=kC b.ok.wf b.ok.lv b.ok.mid.int b.nb h1 h2 (k:=⟨x,pl K0.N y c.d.lo,pl K0.N y c.d.hi⟩) List.mem_cons_self
 have k2:=kC b.ok.wf b.ok.lv b.ok.mid.int b.nb h1 h2 (k:=⟨x,ph K0.N y c.d.lo,ph K0.N y c.d.hi⟩) (List.mem_cons_of_mem _ List.mem_cons_self)
 rw[h3]
 exact⟨⟨k1.2.1,k1.2.2⟩,⟨k2.2.1,k2.2.2⟩⟩
theorem TB.level(b:TB K0 S0 ax x y l all made){c:Cx}(hc:c∈all):dep K0.n ax K0.N c.r=l:=by
 obtain⟨h1,h2,_⟩:=b.mQ hc
 rw[aM h1,h2,b.nb.lx]
theorem TB.start(b:TB K0 S0 ax x y l all made){T:Nd→Option Nat}(hm:jt {K0 with T:=T} S0 (fun s=>∃c∈all,s=c.r) zero')(hT:∀d,T d=none∨T d=K0.T d):
  TI K0 S0 ax x y l made {K0 with T:=T} S0 [] all zero' where
 mid:=hm
 n:=rfl
 cap:=rfl
 hold:=fun _=>rfl
 ext:=fun _ _=>rfl
 old:=fun h _=>h
 kept:=fun h=>⟨_,h⟩
 new:=fun h=>.inl ⟨h,by simp⟩
 used:=by
  have:made.filter (fun k=>(T k).isSome)=[]:=by
   rw[List.filter_eq_nil_iff]
   intro k hk
   have h1:=((b.Xb.mem k).1 hk).2.1
   rcases hT k with h2|h2
   ·rw[h2];simp
   ·rw[h2,h1];simp
  show K0.used=K0.used+(made.filter (fun k=>(T k).isSome)).length
  rw[this];simp
theorem TI.Qk(b:TB K0 S0 ax x y l all made)(h:TI K0 S0 ax x y l made K S done rest P)(hd:∀c∈done,c∈all){t:Nat}(ht:rV K0 ax l t):K.N t=K0.N t:=by
 rcases ht with⟨ht|⟨d,ej⟩,hlt⟩
 ·cases e:K.N t with
  |none=>rw[b.ok.wf.const ht]
  |some d=>have:=(h.mid.two e).1;omega
 ·rw[ej]
  refine h.old ej fun hm=>?_
  obtain⟨c,hc,e⟩:=List.mem_map.1 hm
  have:=b.level (hd c hc)
  rw[e]at this;omega
theorem TI.pN(b:TB K0 S0 ax x y l all made)(h:TI K0 S0 ax x y l made K S done rest P)(hd:∀c∈done,c∈all){t:Nat}(ht:rV K0 ax l t):live K.N t:=by
 have e:=h.Qk b hd ht
 rcases ht.1 with ht|⟨d,ej⟩
 ·exact .inl ht
 ·exact .inr ⟨d,by rw[e];exact ej⟩
theorem TI.pR(b:TB K0 S0 ax x y l all made)(h:TI K0 S0 ax x y l made K S done rest P)(hd:∀c∈done,c∈all){t:Nat}(ht:vE K0 K ax x l t):live K.N t:=by
 rcases ht with ht|⟨e,he,_⟩
 ·exact h.pN b hd ht
 ·exact .inr ⟨e,he⟩
theorem TI.use(h:TI K0 S0 ax x y l made K S done rest P){r:Nat}{dr:List Nat}(hl:dr.length=K.us.length)(h1:dr.getD r 0=K.use r+1)(h2:∀s,s≠r→dr.getD s 0=K.use s):
  TI K0 S0 ax x y l made {K with us:=dr} S done rest (up P r (P r+1)) where
 mid:=h.mid.more hl h1 h2
 n:=h.n
 cap:=h.cap
 hold:=h.hold
 ext:=h.ext
 old:=h.old
 kept:=h.kept
 new:=h.new
 used:=h.used
theorem TI.congr(h:TI K0 S0 ax x y l made K S done rest P){P':Nat→Nat}(hP:∀s,2≤s→P s=P' s):TI K0 S0 ax x y l made K S done rest P' where
 mid:=h.mid.congr (fun _=>Iff.rfl) hP
 n:=h.n
 cap:=h.cap
 hold:=h.hold
 ext:=h.ext
 old:=h.old
 kept:=h.kept
 new:=h.new
 used:=h.used
theorem filter_lt{α:Type}{p:α→Bool}{k:α}:∀{m:List α},k∈m→p k=false→(m.filter p).length<m.length
 | [],h,_=>by simp at h
 |z::m,h,hp=>by
  rcases List.mem_cons.1 h with rfl|h
  ·rw[List.filter_cons,if_neg (by simp[hp])]
   have:=List.length_filter_le p m
   simp;omega
  ·have:=filter_lt h hp
   rw[List.filter_cons]
   split
   ·rw[List.length_cons,List.length_cons];omega
   ·rw[List.length_cons];omega
theorem TI.fits(b:TB K0 S0 ax x y l all made)(h:TI K0 S0 ax x y l made K S done rest P){k:Nd}(hk:k∈made)(hT:K.T k=none):K.used<K.cap:=by
 have h1:=filter_lt (p:=fun k=>(K.T k).isSome) hk (by rw[hT];rfl)
 have h2:=h.used
 have h3:=b.room
 have h4:=h.cap
 omega
theorem mN{T:Nd→Option Nat}{k:Nd}{r:Nat}:∀{m:List Nd},m.Nodup→T k=none→(m.filter fun d=>(o5 T k (some r) d).isSome).length=(m.filter fun d=>(T d).isSome).length+(if k∈m then 1 else 0)
 | [],_,_=>rfl
 |z::m,hn,hT=>by
  obtain⟨h1,h2⟩:=List.nodup_cons.1 hn
  have ih:=mN (r:=r) h2 hT
  rw[List.filter_cons,List.filter_cons]
  by_cases e:z=k
  ·subst e
   rw[jb,hT]
   simp only[Option.isSome_some,if_true,Option.isSome_none,Bool.false_eq_true,if_false,List.length_cons,ih,if_neg h1,List.mem_cons,true_or]
  ·rw[ot e]
   have e2:(k∈z::m)↔k∈m:=by rw[List.mem_cons];exact⟨fun h=>h.resolve_left (fun h=>e h.symm),.inr⟩
   simp only[e2]
   split
   ·simp only[List.length_cons,ih];omega
   ·exact ih
theorem TB.xK(b:TB K0 S0 ax x y l all made){t:Nat}(ht:rV K0 ax l t){e:Nd}(he:K0.N t=some e):l+1<ax e.v:=by
 have:=ht.2
 rwa [aM he]at this
theorem TB.zv(b:TB K0 S0 ax x y l all made){c:Cx}(hc:c∈all)(h1:rV K0 ax l c.d.lo)(h2:rV K0 ax l c.d.hi):False:=by
 obtain⟨⟨_,_,h3⟩,_⟩:=(b.cx.mem c).1 hc
 have hy:=b.nb.ly
 rcases h3 with⟨e,he,hv⟩|⟨e,he,hv⟩
 ·have:=b.xK h1 he;rw[hv]at this;omega
 ·have:=b.xK h2 he;rw[hv]at this;omega
theorem TI.MD(b:TB K0 S0 ax x y l all made)(h:TI K0 S0 ax x y l made K S done rest P)(hd:∀c∈done,c∈all)(hr:∀c∈rest,c∈all){c:Cx}(hc:c∈all){k:Nd}(hk:k∈keys x c)(hne:k.lo≠k.hi)(h1:rV K0 ax l k.lo)(h2:rV K0 ax l k.hi)(hT:K.T k=none):k∈made:=by
 refine(b.Xb.mem k).2 ⟨⟨c,hc,hk⟩,?_,hne⟩
 cases e:K0.T k with
 |none=>rfl
 |some s=>
  have hs:=((b.ok.mid.jL k s).1 e).1
  have hno:∀c'∈all,s≠c'.r:=fun c' kQ e'=>by
   have h3:=(b.mQ kQ).1
   rw[←e',hs]at h3
   cases h3
   exact b.zv kQ h1 h2
  have u4:K.N s=some k:=by
   refine h.old hs fun hm=>?_
   obtain⟨c',kQ,e'⟩:=List.mem_map.1 hm
   exact hno c' (hd c' kQ) e'.symm
  have:=(h.mid.jL k s).2 ⟨u4,by rintro⟨c',kQ,e'⟩;exact hno c' (hr c' kQ) e'⟩
  rw[hT]at this;cases this
theorem TI.lay(b:TB K0 S0 ax x y l all made)(h:TI K0 S0 ax x y l made K S done rest P)(hd:∀c∈done,c∈all)(hr:∀c∈rest,c∈all){c:Cx}(hc:c∈all){k:Nd}(hk:k∈keys x c)(hne:k.lo≠k.hi)(hT:K.T k=none)
 {r:Nat}{dr bX:List Nat}(hN:K.N r=none)(h2:2≤r∧r<K.cap)(hl:dr.length=bX.length)(hf:r<dr.length∧K.us.length≤dr.length)(u0:dr.getD r 0=0)(u1:∀s,2≤s→s≠r→dr.getD s 0=K.use s+e1 (some k) s)(o0:bX.getD r 0=0)(o1:∀s,s≠r→bX.getD s 0=K.hold s)(hP:P r=0):
  TI K0 S0 ax x y l made {K with N:=up K.N r (some k),T:=o5 K.T k (some r),used:=K.used+1,us:=dr,ho:=bX} (up S r (ite S k)) done rest P∧vE K0 {K with N:=up K.N r (some k),T:=o5 K.T k (some r),used:=K.used+1,us:=dr,ho:=bX} ax x l r:=by
 have lB:=b.Qi hc
 have hkv:k.v=x∧rV K0 ax l k.lo∧rV K0 ax l k.hi:=by
  simp only[keys,List.mem_cons,List.not_mem_nil,or_false]at hk
  rcases hk with rfl|rfl
  ·exact⟨rfl,lB.1.1,lB.1.2⟩
  ·exact⟨rfl,lB.2.1,lB.2.2⟩
 have XX:K0.N r=none:=by
  cases e:K0.N r with
  |none=>rfl
  |some d=>obtain⟨d',ej⟩:=h.kept e;rw[hN]at ej;cases ej
 have hkm:=h.MD b hd hr hc hk hne hkv.2.1 hkv.2.2 hT
 have hE:¬∃c∈rest,r=c.r:=by
  rintro⟨c',kQ,rfl⟩
  have:=(b.mQ (hr c' kQ)).1
  rw[XX]at this;cases this
 have Ch:∀{t},vE K0 K ax x l t→vE K0 {K with N:=up K.N r (some k),T:=o5 K.T k (some r),used:=K.used+1,us:=dr,ho:=bX} ax x l t:=fun ht=>by
  rcases ht with ht|⟨e,he,h3⟩
  ·exact .inl ht
  ·refine .inr ⟨e,?_,h3⟩
   show up K.N r (some k) _=_
   rw[aP (fun e2=>by rw[e2,hN]at he;cases he)];exact he
 refine⟨⟨h.mid.lay hN h2 (by rw[hkv.1,h.n];exact b.nb.xn) hne (h.pN b hd hkv.2.1) (h.pN b hd hkv.2.2) hT hE hP (h.fits b hkm hT) hl hf u0 u1 o0 o1,h.n,h.cap,fun s=>?_,fun s hs=>?_,fun{s d} hs hm=>?_,fun{s d} hs=>?_,fun{s d} hs=>?_,?_⟩,?_⟩
 ·show bX.getD s 0=_
  rw[←h.hold]
  by_cases e:s=r
  ·subst e
   rw[o0]
   refine(Classical.byContradiction fun hno=>?_)
   obtain⟨d,ej⟩:=h.mid.held s (fun e=>hno e.symm)
   rw[hN]at ej;cases ej
  ·exact o1 s e
 ·rw[aP (fM hs h2.1 XX)];exact h.ext s hs
 ·show up K.N r (some k) s=_
  rw[aP (fun e=>by rw[e,XX]at hs;cases hs)];exact h.old hs hm
 ·obtain⟨d',ej⟩:=h.kept hs
  exact⟨d',by show up K.N r (some k) s=_;rw[aP (fun e=>by rw[e,XX]at hs;cases hs)];exact ej⟩
 ·have hs':up K.N r (some k) s=some d:=hs
  by_cases e:s=r
  ·subst e
   rw[aN]at hs';cases hs'
   exact .inr (.inr ⟨XX,hkv⟩)
  ·rw[aP e]at hs'
   rcases h.new hs' with h1|⟨h1,o8,h3,h4⟩|h1
   ·exact .inl h1
   ·exact .inr (.inl ⟨h1,o8,Ch h3,Ch h4⟩)
   ·exact .inr (.inr h1)
 ·show K.used+1=K0.used+(made.filter fun d=>(o5 K.T k (some r) d).isSome).length
  rw[mN b.Xb.nd hT,if_pos hkm,h.used];omega
 ·exact .inr ⟨k,aN,hkv⟩
theorem TI.found(b:TB K0 S0 ax x y l all made)(h:TI K0 S0 ax x y l made K S done rest P){c:Cx}(hc:c∈all){k:Nd}(hk:k∈keys x c){r:Nat}(hT:K.T k=some r):K.N r=some k∧vE K0 K ax x l r:=by
 have lB:=b.Qi hc
 have hN:=((h.mid.jL k r).1 hT).1
 simp only[keys,List.mem_cons,List.not_mem_nil,or_false]at hk
 rcases hk with rfl|rfl
 ·exact⟨hN,.inr ⟨_,hN,rfl,lB.1.1,lB.1.2⟩⟩
 ·exact⟨hN,.inr ⟨_,hN,rfl,lB.2.1,lB.2.2⟩⟩
theorem TI.Sg(b:TB K0 S0 ax x y l all made)(h:TI K0 S0 ax x y l made K S done rest P){a a' t:Nat}(la:rV K0 ax l a)(BZ:rV K0 ax l a')(g:(a=a'∧t=a)∨K.N t=some ⟨x,a,a'⟩)(z:Nat):S t z=ite S0 ⟨x,a,a'⟩ z:=by
 rcases g with⟨rfl,rfl⟩|g
 ·rw[h.ext t la.1];unfold ite;simp
 ·rw[h.mid.int.node g]
  unfold ite
  simp only
  rw[h.ext a la.1,h.ext a' BZ.1]
theorem TI.Qj(b:TB K0 S0 ax x y l all made)(h:TI K0 S0 ax x y l made K S done rest P)(hd:∀c∈done,c∈all){a a' t:Nat}(ht:rV K0 ax l t)(g:K.N t=some ⟨x,a,a'⟩):False:=by
 rw[h.Qk b hd ht]at g
 have:=b.xK ht g
 have hx:=b.nb.lx
 simp only at this;omega
theorem TI.xu(b:TB K0 S0 ax x y l all made){c:Cx}(h:TI K0 S0 ax x y l made K S done (c::rest) P)(hd:∀c∈done,c∈all)(hr:∀c'∈c::rest,c'∈all)(hn:((done++c::rest).map Cx.r).Nodup){t0 t1:Nat}
 (k0:vE K0 K ax x l t0)(k1:vE K0 K ax x l t1)(g0:(c.vB=c.si∧t0=c.vB)∨K.N t0=some ⟨x,c.vB,c.si⟩)(g1:(c.vA=c.sg∧t1=c.vA)∨K.N t1=some ⟨x,c.vA,c.sg⟩){P':Nat→Nat}(hP:∀s,2≤s→P' s+e1 (some ⟨y,t0,t1⟩) s=P s+e1 (some c.d) s):
  K.T ⟨y,t0,t1⟩=none∧TI K0 S0 ax x y l made {K with N:=up K.N c.r (some ⟨y,t0,t1⟩),T:=o5 K.T ⟨y,t0,t1⟩ (some c.r)} S (done++[c]) rest P':=by
 have hc:=hr c (by simp)
 obtain⟨x4,II,hce⟩:=b.mQ hc
 obtain⟨⟨l00,l10⟩,⟨l01,l11⟩⟩:=b.Qi hc
 have w:=b.ok.wf
 have hi:=b.ok.mid.int
 have hlo:=w.lo x4
 have hhi:=w.hi x4
 rw[II,b.nb.lx]at hlo hhi
 have ep:c.vB=pl K0.N y c.d.lo∧c.vA=ph K0.N y c.d.lo∧c.si=pl K0.N y c.d.hi∧c.sg=ph K0.N y c.d.hi:=by rw[hce];exact⟨rfl,rfl,rfl,rfl⟩
 have both:c.vB=c.si→c.vA=c.sg→False:=fun e1 e2=>by
  rw[ep.1,ep.2.2.1]at e1
  rw[ep.2.1,ep.2.2.2]at e2
  exact w.ne x4 (w.QY b.ok.lv hi b.nb.yy hlo.1 hhi.1 hlo.2 hhi.2 e1 e2)
 have hrn:c.r∉done.map Cx.r:=by
  rw[List.map_append,List.nodup_append]at hn
  intro hm
  exact hn.2.2 _ hm _ (by simp) rfl
 have hcK:=h.old x4 hrn
 have fn0:=fun z=>h.Sg b l00 l10 g0 z
 have fn1:=fun z=>h.Sg b l01 l11 g1 z
 have hS:∀z,S c.r z=ite S ⟨y,t0,t1⟩ z:=fun z=>by
  rw[h.ext c.r (.inr ⟨_,x4⟩),uh w b.ok.lv hi b.nb x4 II z]
  unfold ite
  simp only
  have a0:=fn0 z
  have a1:=fn1 z
  unfold ite at a0 a1
  simp only at a0 a1
  rw[a0,a1,ep.1,ep.2.1,ep.2.2.1,ep.2.2.2]
 have hne:t0≠t1:=fun e=>by
  subst e
  rcases g0 with⟨e1,e2⟩|g0
  ·rcases g1 with⟨e3,e4⟩|g1
   ·exact both e1 e3
   ·rw[e2]at g1;exact h.Qj b hd l00 g1
  ·rcases g1 with⟨e3,e4⟩|g1
   ·rw[e4]at g0;exact h.Qj b hd l01 g0
   ·rw[g0]at g1
    simp only[Option.some.injEq,Nd.mk.injEq,true_and]at g1
    obtain⟨q1,q2⟩:=g1
    obtain⟨⟨_,_,UZ⟩,_⟩:=(b.cx.mem c).1 hc
    rw[ep.1,ep.2.1]at q1
    rw[ep.2.2.1,ep.2.2.2]at q2
    rcases UZ with⟨e,he,hv⟩|⟨e,he,hv⟩
    ·have:=P5 he hv
     rw[this.1,this.2]at q1
     exact w.ne he q1
    ·have:=P5 he hv
     rw[this.1,this.2]at q2
     exact w.ne he q2
 have hT:K.T ⟨y,t0,t1⟩=none:=by
  cases e:K.T ⟨y,t0,t1⟩with
  |none=>rfl
  |some s=>
   obtain⟨hs,MK⟩:=(h.mid.jL _ s).1 e
   rcases h.new hs with⟨h1,_⟩|⟨h1,_⟩|⟨_,h1,_⟩
   ·have q1:=w.lo h1
    have q2:=w.hi h1
    simp only at q1 q2
    rw[b.nb.ly]at q1 q2
    have p1:c.vB=c.si:=by
     rcases g0 with⟨e1,_⟩|g0
     ·exact e1
     ·exact(h.Qj b hd q1 g0).elim
    have p2:c.vA=c.sg:=by
     rcases g1 with⟨e1,_⟩|g1
     ·exact e1
     ·exact(h.Qj b hd q2 g1).elim
    exact(both p1 p2).elim
   ·obtain⟨c',kQ,e'⟩:=List.mem_map.1 h1
    have Nk:=(b.mQ (hd c' kQ)).1
    have:c'.r=c.r:=w.same b.ok.lv hi (.inr ⟨_,Nk⟩) (.inr ⟨_,x4⟩) fun z=>by
     rw[←h.ext c'.r (.inr ⟨_,Nk⟩),←h.ext c.r (.inr ⟨_,x4⟩),hS z,e',h.mid.int.node hs z];rfl
    exact absurd (List.mem_map.2 ⟨c',kQ,this⟩) hrn
   ·exact absurd h1 (Ne.symm b.nb.ne)
 have Ch:∀{t},vE K0 K ax x l t→vE K0 {K with N:=up K.N c.r (some ⟨y,t0,t1⟩),T:=o5 K.T ⟨y,t0,t1⟩ (some c.r)} ax x l t:=fun ht=>by
  rcases ht with ht|⟨e,he,h3⟩
  ·exact .inl ht
  ·refine .inr ⟨e,?_,h3⟩
   show up K.N c.r (some ⟨y,t0,t1⟩) _=_
   refine(aP fun e2=>?_).trans he
   rw[e2,hcK]at he
   cases he
   exact b.zv hc h3.2.1 h3.2.2
 have hml:∀s,s∈(done++[c]).map Cx.r↔s∈done.map Cx.r∨s=c.r:=fun s=>by simp[List.mem_append]
 refine⟨hT,⟨(h.mid.xu hcK ⟨c,by simp,rfl⟩ (by rw[h.n];exact b.nb.yn) hne (h.pR b hd k0) (h.pR b hd k1) hT hS hP).congr (fun s=>?_) (fun _ _=>rfl),h.n,h.cap,h.hold,h.ext,fun{s d} hs hm=>?_,fun{s d} hs=>?_,fun{s d} hs=>?_,?_⟩⟩
 ·constructor
  ·rintro⟨⟨c',kQ,rfl⟩,h2⟩
   rcases List.mem_cons.1 kQ with rfl|kQ
   ·exact absurd rfl h2
   ·exact⟨c',kQ,rfl⟩
  ·rintro⟨c',kQ,rfl⟩
   refine⟨⟨c',List.mem_cons_of_mem _ kQ,rfl⟩,fun e=>?_⟩
   rw[List.map_append,List.nodup_append]at hn
   have:=hn.2.1
   rw[List.map_cons,List.nodup_cons]at this
   exact this.1 (List.mem_map.2 ⟨c',kQ,e⟩)
 ·have hm':=fun x=>hm ((hml s).2 x)
  show up K.N c.r _ s=_
  rw[aP (fun e=>hm' (.inr e))];exact h.old hs (fun x=>hm' (.inl x))
 ·by_cases e:s=c.r
  ·exact⟨⟨y,t0,t1⟩,by show up K.N c.r (some _) s=_;rw[e,aN]⟩
  ·obtain⟨d',ej⟩:=h.kept hs
   exact⟨d',by show up K.N c.r (some _) s=_;rw[aP e];exact ej⟩
 ·have hs':up K.N c.r (some ⟨y,t0,t1⟩) s=some d:=hs
  by_cases e:s=c.r
  ·rw[e,aN]at hs';cases hs'
   exact .inr (.inl ⟨(hml s).2 (.inr e),rfl,Ch k0,Ch k1⟩)
  ·rw[aP e]at hs'
   rcases h.new hs' with⟨h1,h2⟩|⟨h1,h2,h3,h4⟩|h1
   ·exact .inl ⟨h1,fun hm=>((hml s).1 hm).elim h2 e⟩
   ·exact .inr (.inl ⟨(hml s).2 (.inl h1),h2,Ch h3,Ch h4⟩)
   ·exact .inr (.inr h1)
 ·show K.used=K0.used+(made.filter fun d=>(o5 K.T ⟨y,t0,t1⟩ (some c.r) d).isSome).length
  have hnm:(⟨y,t0,t1⟩:Nd)∉made:=fun hm=>by
   obtain⟨⟨c',kQ,hk⟩,_⟩:=(b.Xb.mem _).1 hm
   simp only[keys,List.mem_cons,List.not_mem_nil,or_false,Nd.mk.injEq]at hk
   rcases hk with⟨e,_⟩|⟨e,_⟩
   ·exact b.nb.ne e.symm
   ·exact b.nb.ne e.symm
  rw[mN b.Xb.nd hT,if_neg hnm,h.used];rfl
theorem TI.levels(b:TB K0 S0 ax x y l all made)(h:TI K0 S0 ax x y l made K S all [] P){s:Nat}{d:Nd}(hs:K.N s=some d):
  rZ ax x y l d.v<dep K0.n (rZ ax x y l) K.N d.lo∧rZ ax x y l d.v<dep K0.n (rZ ax x y l) K.N d.hi:=by
 have w:=b.ok.wf
 have hd:∀c∈all,c∈all:=fun _ h=>h
 have Uv:l+1<K0.n:=by have:=b.ok.lv.lt y b.nb.yn;rw[b.nb.ly]at this;exact this
 have sx:rZ ax x y l x=l+1:=by simp[rZ]
 have sy:rZ ax x y l y=l:=by unfold rZ;rw[if_neg (Ne.symm b.nb.ne),if_pos rfl]
 have so:∀v,v<K0.n→ax v≠l→ax v≠l+1→rZ ax x y l v=ax v:=fun v hv h1 h2=>by
  unfold rZ
  rw[if_neg (fun e=>h1 (by rw[e];exact b.nb.lx)),if_neg (fun e=>h2 (by rw[e];exact b.nb.ly))]
 have low:∀{t},rV K0 ax l t→l+1<dep K0.n (rZ ax x y l) K.N t:=fun{t} ht=>by
  have e:=h.Qk b hd ht
  cases e2:K0.N t with
  |none=>rw[cQ (by rw[e,e2])];exact Uv
  |some e'=>
   have:=b.xK ht e2
   rw[aM (by rw[e,e2]),so _ (w.var e2) (by omega) (by omega)];exact this
 have wq:∀{t},vE K0 K ax x l t→l<dep K0.n (rZ ax x y l) K.N t:=fun{t} ht=>by
  rcases ht with ht|⟨e,he,hx,_⟩
  ·have:=low ht;omega
  ·rw[aM he,hx,sx];omega
 rcases h.new hs with⟨h1,h2⟩|⟨_,h2,h3,h4⟩|⟨_,h2,h3,h4⟩
 ·have hv:=w.var h1
  have q1:=w.lo h1
  have q2:=w.hi h1
  rcases Nat.lt_trichotomy (ax d.v) l with hlt|heq|hgt
  ·rw[so _ hv (by omega) (by omega)]
   have up':∀{t},live K0.N t→ax d.v<dep K0.n ax K0.N t→ax d.v<dep K0.n (rZ ax x y l) K.N t:=fun{t} ht pT=>by
    cases e:K.N t with
    |none=>rw[cQ e];exact Nat.lt_of_lt_of_le pT (w.iA b.ok.lv t)
    |some e'=>
     rw[aM e]
     rcases h.new e with⟨g1,_⟩|⟨_,g2,_⟩|⟨g1,_⟩
     ·rw[aM g1]at pT
      have hve:=w.var g1
      by_cases e1:ax e'.v=l
      ·have:e'.v=x:=b.ok.lv.inj _ _ hve b.nb.xn (by rw[b.nb.lx];exact e1)
       rw[this,sx];omega
      ·by_cases e2:ax e'.v=l+1
       ·have:e'.v=y:=b.ok.lv.inj _ _ hve b.nb.yn (by rw[b.nb.ly];exact e2)
        rw[this,sy];exact hlt
       ·rw[so _ hve e1 e2];exact pT
     ·rw[g2,sy];exact hlt
     ·rcases ht with ht|⟨f,hf⟩
      ·have:=(h.mid.two e).1;omega
      ·rw[g1]at hf;cases hf
   exact⟨up' q1.1 q1.2,up' q2.1 q2.2⟩
  ·have hx:d.v=x:=b.ok.lv.inj _ _ hv b.nb.xn (by rw[b.nb.lx];exact heq)
   rw[hx,sx]
   have nc:∀t,t=d.lo∨t=d.hi→∀e,K0.N t=some e→e.v≠y:=fun t ht e he hv=>h2 (List.mem_map.2 ⟨mP K0.N y s d,(b.cx.mem _).2 ⟨⟨h1,hx,by
    rcases ht with rfl|rfl
    ·exact .inl ⟨e,he,hv⟩
    ·exact .inr ⟨e,he,hv⟩⟩,rfl⟩,rfl⟩)
   have lw:∀t,t=d.lo∨t=d.hi→live K0.N t→ax d.v<dep K0.n ax K0.N t→rV K0 ax l t:=fun t ht hlv hlt=>by
    refine⟨hlv,?_⟩
    have:=(w.half b.ok.lv b.ok.mid.int b.nb.yy hlv (by omega:l<dep K0.n ax K0.N t)).1.2
    rwa [(P6 (nc t ht)).1]at this
   exact⟨low (lw _ (.inl rfl) q1.1 q1.2),low (lw _ (.inr rfl) q2.1 q2.2)⟩
  ·by_cases e:ax d.v=l+1
   ·have hy:d.v=y:=b.ok.lv.inj _ _ hv b.nb.yn (by rw[b.nb.ly];exact e)
    rw[hy,sy]
    have a1:=low ⟨q1.1,by omega⟩
    have a2:=low ⟨q2.1,by omega⟩
    exact⟨by omega,by omega⟩
   ·rw[so _ hv (by omega) e]
    have deep:∀{t},live K0.N t→ax d.v<dep K0.n ax K0.N t→ax d.v<dep K0.n (rZ ax x y l) K.N t:=fun{t} ht pT=>by
     have hl:rV K0 ax l t:=⟨ht,by omega⟩
     have e':=h.Qk b hd hl
     cases e2:K0.N t with
     |none=>rw[cQ (by rw[e',e2])];exact b.ok.lv.lt _ hv
     |some f=>
      rw[aM e2]at pT
      rw[aM (by rw[e',e2]),so _ (w.var e2) (by omega) (by omega)];exact pT
    exact⟨deep q1.1 q1.2,deep q2.1 q2.2⟩
 ·rw[h2,sy];exact⟨wq h3,wq h4⟩
 ·rw[h2,sx];exact⟨low h3,low h4⟩
theorem TI.fin(b:TB K0 S0 ax x y l all made)(h:TI K0 S0 ax x y l made K S all [] P){K':Kd}(hm:jt K' S iH zero')(hp:Pos K')(hN:∀{s d},K'.N s=some d→K.N s=some d)(hn:K'.n=K.n)(hh:∀r,K'.hold r=K.hold r):
  Ok K' S (rZ ax x y l)∧(∀g,K'.held S g↔K0.held S0 g)∧∀r,K0.hold r≠0→S r=S0 r:=by
 have Yr:∀r,K0.hold r≠0→S r=S0 r:=fun r hr=>h.ext r (.inr (b.ok.mid.held r hr))
 refine⟨⟨hm,hp,by rw[hn,h.n];exact PS b.ok.lv b.nb,hm.wf fun{s d} hs=>?_⟩,fun g=>?_,Yr⟩
 ·have hl:=h.levels b (hN hs)
  have same:∀{t},live K'.N t→dep K'.n (rZ ax x y l) K'.N t=dep K0.n (rZ ax x y l) K.N t:=fun{t} ht=>by
   cases e:K'.N t with
   |some f=>rw[aM e,aM (hN e)]
   |none=>
    have Sp:t<2:=by
     rcases ht with ht|⟨f,hf⟩
     ·exact ht
     ·rw[e]at hf;cases hf
    have:K.N t=none:=by
     cases e2:K.N t with
     |none=>rfl
     |some f=>have:=(h.mid.two e2).1;omega
    rw[cQ e,cQ this,hn,h.n]
  rw[same (hm.lo hs),same (hm.hi hs)];exact hl
 ·constructor
  ·rintro⟨r,hr,rfl⟩
   have hr':K0.hold r≠0:=by rw[←h.hold,←hh];exact hr
   exact⟨r,hr',Yr r hr'⟩
  ·rintro⟨r,hr,rfl⟩
   exact⟨r,by show K'.hold r≠0;rw[hh,h.hold];exact hr,(Yr r hr).symm⟩
end
end aZ
namespace aZ
open aj
variable {n cap l:Nat} {ord:List Nat} {F G:Fn→Prop}
open Classical in
noncomputable def sz(n:Nat)(ord:List Nat)(F:Fn→Prop):Nat:=if h:∃k,pc (cr n ord F) k then Classical.choose h else 0
theorem R2{k:Nat}(h:pc (cr n ord F) k):sz n ord F=k:=by
 unfold sz
 rw[dif_pos ⟨k,h⟩]
 exact(Classical.choose_spec (⟨k,h⟩:∃k,pc (cr n ord F) k)).uniq h
def FR(n:Nat)(ord:List Nat)(l:Nat)(F:Fn→Prop):Fn→Prop:=fun g=>cr n ord F g∨cr n (eG ord l) F g
open Classical in
noncomputable def yJ(n:Nat)(ord:List Nat)(l:Nat)(F:Fn→Prop):Nat:=if h:∃k,pc (FR n ord l F) k then Classical.choose h else 0
theorem Bw{k:Nat}(h:pc (FR n ord l F) k):yJ n ord l F=k:=by
 unfold yJ
 rw[dif_pos ⟨k,h⟩]
 exact(Classical.choose_spec (⟨k,h⟩:∃k,pc (FR n ord l F) k)).uniq h
theorem Lw(e:∀g,F g↔G g):sz n ord F=sz n ord G:=by
 have:F=G:=funext fun g=>propext (e g)
 rw[this]
theorem Hz(e:∀g,F g↔G g):yJ n ord l F=yJ n ord l G:=by
 have:F=G:=funext fun g=>propext (e g)
 rw[this]
theorem Aq{a b:List Nat}(hl:a.length=b.length)(h:∀i,i<a.length→a.getD i 0=b.getD i 0):a=b:=by
 refine List.ext_getElem hl fun i h1 h2=>?_
 have:=h i h1
 simpa[List.getD,List.getElem?_eq_getElem h1,List.getElem?_eq_getElem h2]using this
theorem pz(hl:l+1<ord.length):eG (eG ord l) l=ord:=by
 refine Aq (by rw[jM,jM]) fun i _=>?_
 have h2:l+1<(eG ord l).length:=by rw[jM];exact hl
 rw[eS h2,eS hl,eS hl,eS hl]
 by_cases e:i=l
 ·subst e;simp
 ·by_cases e2:i=l+1
  ·subst e2;simp
  ·simp[e,e2]
theorem PF(hl:l+1<ord.length):yJ n (eG ord l) l F=yJ n ord l F:=by
 have:FR n (eG ord l) l F=FR n ord l F:=by
  funext g
  unfold FR
  rw[pz hl]
  exact propext or_comm
 unfold yJ
 rw[this]
def vC(n cap:Nat)(F:Fn→Prop):List Nat→List Nat→Prop
 |_,[]=>True
 |ord,l::r=>l+1<n∧yJ n ord l F+2≤cap∧vC n cap F (eG ord l) r
theorem vC.congr(e:∀g,F g↔G g):∀{tr ord:List Nat},vC n cap F ord tr→vC n cap G ord tr:=by
 have:F=G:=funext fun g=>propext (e g)
 subst this
 exact fun{tr ord} h=>h
theorem vC.aea(hlen:ord.length=n)(hl:l+1<n)(hfit:yJ n ord l F+2≤cap){tr:List Nat}(h:vC n cap F ord tr.reverse):vC n cap F (eG ord l) (tr++[l]).reverse:=by
 rw[List.reverse_append]
 exact⟨hl,by rw[PF (by omega)];exact hfit,by rw[pz (by omega)];exact h⟩
end aZ
namespace aZ
open aj
variable {n l:Nat} {ord:List Nat} {L:aj.Fs} {F:Fn→Prop}
def eL(n:Nat)(ws:List Nat):Fn:=fun x=>bit ws (x%2^n)
theorem mw{x v n:Nat}{b:Bool}(hv:v<n):aI x v b%2^n=aI (x%2^n) v b:=by
 apply Nat.eq_of_testBit_eq;intro k
 rw[Nat.testBit_mod_two_pow,au,au,Nat.testBit_mod_two_pow]
 by_cases e:k=v
 ·subst e;simp[hv]
 ·simp[e]
theorem jR{v:Nat}{ws:List Nat}(hf:cB n ws)(hv:v<n)(b:Bool):eL n (ed n ws v b)=fun x=>eL n ws (aI x v b):=by
 funext x
 unfold eL
 rw[eV hf hv (Nat.mod_lt _ (Nat.two_pow_pos n)),mw hv]
theorem NO{ws:List Nat}{x:Nat}(h:x<2^n):eL n ws x=bit ws x:=by unfold eL;rw[Nat.mod_eq_of_lt h]
theorem lC{a b:List Nat}(ha:cB n a)(hb:cB n b)(h:eL n a=eL n b):a=b:=ha.ext hb fun x hx=>by rw[←NO hx,←NO hx,h]
theorem iZ{v:Nat}{ws:List Nat}(hf:cB n ws)(hv:v<n):gQ (eL n ws) v↔aj.dep n ws v=true:=by
 rw[sD hf hv]
 constructor
 ·rintro⟨x,hx⟩
  refine⟨x%2^n,Nat.mod_lt _ (Nat.two_pow_pos n),?_⟩
  unfold eL at hx
  rwa [mw hv,mw hv]at hx
 ·rintro⟨x,hx,hne⟩
  refine⟨x,?_⟩
  unfold eL
  rwa [mw hv,mw hv,Nat.mod_eq_of_lt hx]
def cur(n:Nat)(ord:List Nat)(L:aj.Fs):Nat→aj.Fs
 |0=>dS L
 |k+1=>given n (cur n ord L k) (ord.getD k 0)
def FT(n:Nat)(L:aj.Fs):Fn→Prop:=fun g=>∃t∈L,g=eL n t
theorem wG:∀k,(cur n ord L k).Nodup
 |0=>iO L
 |k+1=>mM _ _ _
theorem nM(hL:∀t∈L,cB n t)(hn:n≤16):∀k,∀t∈cur n ord L k,cB n t
 |0,t,h=>hL t (cX.1 h)
 |k+1,t,h=>by obtain⟨u,_,b,rfl⟩:=bY.1 h;exact cH hn
theorem CM(hL:∀t∈L,cB n t)(hn:n≤16)(ho:∀i,i<n→ord.getD i 0<n):∀k,k≤n→∀g,fs ord (FT n L) k g↔∃t∈cur n ord L k,g=eL n t
 |0,_,g=>by
  show(∃t∈L,g=eL n t)↔_
  constructor
  ·rintro⟨t,h,e⟩;exact⟨t,cX.2 h,e⟩
  ·rintro⟨t,h,e⟩;exact⟨t,cX.1 h,e⟩
 |k+1,hk,g=>by
  have ih:=CM hL hn ho k (by omega)
  constructor
  ·rintro⟨f,hf,b,rfl⟩
   obtain⟨t,ht,rfl⟩:=(ih f).1 hf
   exact⟨ed n t (ord.getD k 0) b,bY.2 ⟨t,ht,b,rfl⟩,(jR (nM hL hn k t ht) (ho k (by omega)) b).symm⟩
  ·rintro⟨t,ht,rfl⟩
   obtain⟨u,hu,b,rfl⟩:=bY.1 ht
   exact⟨eL n u,(ih _).2 ⟨u,hu,rfl⟩,b,jR (nM hL hn k u hu) (ho k (by omega)) b⟩
theorem tW:∀k g,fs ord F k g→∀j,j<k→¬gQ g (ord.getD j 0)
 |0,_,_,_,h=>absurd h (Nat.not_lt_zero _)
 |k+1,g,h,j,hj=>by
  obtain⟨f,hf,b,rfl⟩:=h
  rintro⟨x,hx⟩
  apply hx
  by_cases e:ord.getD j 0=ord.getD k 0
  ·show f (aI (aI x _ false) _ b)=f (aI (aI x _ true) _ b)
   congr 1
   apply Nat.eq_of_testBit_eq;intro i
   simp only[au,e]
   split<;>rfl
  ·have hlt:j<k:=by
    rcases Nat.lt_succ_iff_lt_or_eq.1 hj with h|h
    ·exact h
    ·subst h;exact(e rfl).elim
   have:=tW k f hf j hlt
   show f (aI (aI x _ false) _ b)=f (aI (aI x _ true) _ b)
   rw[eI e,eI e]
   exact Classical.byContradiction fun hne=>this ⟨_,hne⟩
def oO(n:Nat)(ord:List Nat)(L:aj.Fs)(k:Nat):aj.Fs:=nodes n (cur n ord L k) (ord.getD k 0)
def dW(n:Nat)(ord:List Nat)(L:aj.Fs):Nat→Nat
 |0=>0
 |k+1=>dW n ord L k+(oO n ord L k).length
def iU(n:Nat)(ord:List Nat)(L:aj.Fs):Nat→aj.Fs
 |0=>[]
 |k+1=>iU n ord L k++oO n ord L k
theorem m0:∀k,(iU n ord L k).length=dW n ord L k
 |0=>rfl
 |k+1=>by rw[iU,dW,List.length_append,m0 k]
theorem pJ{k:Nat}{t:List Nat}:t∈oO n ord L k↔t∈cur n ord L k∧aj.dep n t (ord.getD k 0)=true:=by
 unfold oO nodes;rw[List.mem_filter]
theorem kK(hL:∀t∈L,cB n t)(hn:n≤16):∀k,∀t∈iU n ord L k,cB n t
 |0,t,h=>by cases h
 |k+1,t,h=>by
  rcases List.mem_append.1 h with h|h
  ·exact kK hL hn k t h
  ·exact nM hL hn k t (pJ.1 h).1
theorem mZ(hL:∀t∈L,cB n t)(hn:n≤16)(ho:∀i,i<n→ord.getD i 0<n):∀m,m≤n→∀g,(∃k,k<m∧fs ord (FT n L) k g∧gQ g (ord.getD k 0))↔∃t∈iU n ord L m,g=eL n t
 |0,_,g=>by simp[iU]
 |m+1,hm,g=>by
  have ih:=mZ hL hn ho m (by omega) g
  have ax:(fs ord (FT n L) m g∧gQ g (ord.getD m 0))↔∃t∈oO n ord L m,g=eL n t:=by
   rw[CM hL hn ho m (by omega)]
   constructor
   ·rintro⟨⟨t,ht,rfl⟩,hh⟩
    exact⟨t,pJ.2 ⟨ht,(iZ (nM hL hn m t ht) (ho m (by omega))).1 hh⟩,rfl⟩
   ·rintro⟨t,ht,rfl⟩
    obtain⟨h1,h2⟩:=pJ.1 ht
    exact⟨⟨t,h1,rfl⟩,(iZ (nM hL hn m t h1) (ho m (by omega))).2 h2⟩
  constructor
  ·rintro⟨k,hk,h1,h2⟩
   by_cases e:k=m
   ·subst e
    obtain⟨t,ht,rfl⟩:=ax.1 ⟨h1,h2⟩
    exact⟨t,List.mem_append_right _ ht,rfl⟩
   ·obtain⟨t,ht,rfl⟩:=ih.1 ⟨k,by omega,h1,h2⟩
    exact⟨t,List.mem_append_left _ ht,rfl⟩
  ·rintro⟨t,ht,rfl⟩
   rcases List.mem_append.1 ht with ht|ht
   ·obtain⟨k,hk,h⟩:=ih.2 ⟨t,ht,rfl⟩
    exact⟨k,by omega,h⟩
   ·exact⟨m,by omega,ax.2 ⟨t,ht,rfl⟩⟩
theorem ux(hL:∀t∈L,cB n t)(hn:n≤16)(ho:∀i,i<n→ord.getD i 0<n):∀m,m≤n→(iU n ord L m).Nodup
 |0,_=>List.nodup_nil
 |m+1,hm=>by
  refine List.nodup_append.2 ⟨ux hL hn ho m (by omega),(wG m).filter _,fun a ha b hb e=>?_⟩
  subst e
  obtain⟨k,hk,h1,h2⟩:=(mZ hL hn ho m (by omega) (eL n a)).2 ⟨a,ha,rfl⟩
  have h3:=(CM hL hn ho m (by omega) (eL n a)).2 ⟨a,(pJ.1 hb).1,rfl⟩
  exact tW m _ h3 k hk h2
theorem Az{P:Fn→Prop}{l:aj.Fs}(hf:∀t∈l,cB n t)(hn:l.Nodup)(h:∀g,P g↔∃t∈l,g=eL n t):pc P l.length:=by
 refine⟨l.map (eL n),?_,by simp,fun g=>?_⟩
 ·refine List.pairwise_map.2 (hn.imp_of_mem fun{a b} ha hb hne heq=>hne (lC (hf a ha) (hf b hb) heq))
 ·rw[h,List.mem_map]
  constructor
  ·rintro⟨t,ht,rfl⟩;exact⟨t,ht,rfl⟩
  ·rintro⟨t,ht,rfl⟩;exact⟨t,ht,rfl⟩
theorem Oa(hL:∀t∈L,cB n t)(hn:n≤16)(ho:∀i,i<n→ord.getD i 0<n):pc (cr n ord (FT n L)) (dW n ord L n):=by
 rw[←m0]
 exact Az (kK hL hn n) (ux hL hn ho n (Nat.le_refl _)) (mZ hL hn ho n (Nat.le_refl _))
theorem Gd(hL:∀t∈L,cB n t)(hn:n≤16)(ho:∀i,i<n→ord.getD i 0<n):sz n ord (FT n L)=dW n ord L n:=R2 (Oa hL hn ho)
def rU(n:Nat)(ord:List Nat)(l:Nat)(L:aj.Fs):aj.Fs:=dS (iU n ord L n++iU n (eG ord l) L n)
theorem Ly(hl:l+1<n)(hlen:ord.length=n)(ho:∀i,i<n→ord.getD i 0<n):∀i,i<n→(eG ord l).getD i 0<n:=fun i hi=>by
 rw[eS (by omega)]
 split
 ·exact ho _ hl
 ·split
  ·exact ho _ (by omega)
  ·exact ho i hi
theorem Ll(hL:∀t∈L,cB n t)(hn:n≤16)(ho:∀i,i<n→ord.getD i 0<n)(hl:l+1<n)(hlen:ord.length=n):yJ n ord l (FT n L)=(rU n ord l L).length:=by
 have bX:=Ly hl hlen ho
 refine Bw (Az (n:=n) (fun t ht=>?_) (iO _) fun g=>?_)
 ·rcases List.mem_append.1 (cX.1 ht)with h|h
  ·exact kK hL hn n t h
  ·exact kK hL hn n t h
 ·unfold FR rU
  rw[show cr n ord (FT n L) g↔_ from mZ hL hn ho n (Nat.le_refl _) g,show cr n (eG ord l) (FT n L) g↔_ from mZ hL hn bX n (Nat.le_refl _) g]
  constructor
  ·rintro(⟨t,h,rfl⟩|⟨t,h,rfl⟩)
   ·exact⟨t,cX.2 (List.mem_append_left _ h),rfl⟩
   ·exact⟨t,cX.2 (List.mem_append_right _ h),rfl⟩
  ·rintro⟨t,h,rfl⟩
   rcases List.mem_append.1 (cX.1 h)with h|h
   ·exact .inl ⟨t,h,rfl⟩
   ·exact .inr ⟨t,h,rfl⟩
end aZ
set_option maxRecDepth 100000
namespace Go.Proofs
open Go Go.Sx
open aZ
def u32(r:Nat):Value:=.int .u32 (r:Int)
def aT(d:Nd):List Value:=[.int .i64 (d.v:Int),u32 d.lo,u32 d.hi]
structure nW where
 v:Int
 lo:Nat
 hi:Nat
 tk:Bool
 c:Nat
def nW.row(p:nW):List Value:=[.int .i64 p.v,u32 p.lo,u32 p.hi,.bool p.tk,.int .u8 (p.c:Int)]
def gu(N:gK)(r:Nat):Bool:=decide (r<2)||(N r).isSome
theorem cU{N:gK}{r:Nat}:gu N r=true↔live N r:=by
 unfold gu live
 rw[Bool.or_eq_true,decide_eq_true_eq,Option.isSome_iff_exists]
def got(N:gK)(r:Nat):List Value:=
 if r<2 then [.int .i64 (-1),u32 r,u32 r]else match N r with|some d=>aT d|none=>[.int .i64 0,u32 0,u32 0]
theorem kE{N:gK}{r:Nat}{d:Nd}(h:N r=some d)(h2:2≤r):got N r=aT d:=by unfold got;rw[if_neg (by omega),h]
theorem qN{N:gK}{r:Nat}(h2:r<2):got N r=[.int .i64 (-1),u32 r,u32 r]:=by unfold got;rw[if_pos h2]
theorem Ac{N:gK}{r:Nat}(h:gu N r=false):got N r=[.int .i64 0,u32 0,u32 0]:=by
 unfold gu at h
 rw[Bool.or_eq_false_iff,decide_eq_false_iff_not]at h
 unfold got;rw[if_neg h.1]
 cases hN:N r with
 |none=>rfl
 |some d=>rw[hN]at h;simp at h
def Ii(p:nW):Option Nd:=if p.tk then some ⟨p.v.toNat,p.lo,p.hi⟩else none
structure yD(l:List nW)(fr:List Nat)(cap used:Nat)(N:gK):Prop where
 cap:l.length≤cap∧cap≤1048576
 two:2≤l.length
 const:∀r,r<2→∃p,l[r]? =some p∧p.v= -1∧p.lo=r∧p.hi=r∧p.tk=true
 nd:∀r,2≤r→N r=(l[r]?).bind Ii
 n0:∀r,r<2→N r=none
 nn:∀(r:Nat) p,2≤r→l[r]? =some p→p.tk=true→0≤p.v
 Pe:fr.Nodup
 kR:∀r,r∈fr↔∃p,l[r]? =some p∧p.tk=false
 used:used+fr.length=l.length
theorem yD.zF{l:List nW}{fr:List Nat}{cap used:Nat}{N:gK}(h:yD l fr cap used N)(r:Nat):gu N r=(match l[r]? with|some p=>p.tk|none=>false):=by
 unfold gu
 by_cases h2:r<2
 ·obtain⟨p,hp,_,_,_,ht⟩:=h.const r h2
  simp[h2,hp,ht]
 ·rw[h.nd r (by omega)]
  cases hl:l[r]? with
  |none=>simp[h2]
  |some p=>cases ht:p.tk<;>simp[h2,Ii,ht]
theorem yD.ad7{l:List nW}{fr:List Nat}{cap used:Nat}{N:gK}(h:yD l fr cap used N){r:Nat}{p:nW}(hp:l[r]? =some p)(ht:p.tk=true):got N r=p.row.take 3:=by
 by_cases h2:r<2
 ·obtain⟨p',UG,h1,o8,h3,_⟩:=h.const r h2
  rw[hp]at UG;cases UG
  rw[qN h2];simp[nW.row,h1,o8,h3]
 ·have hn:=h.nn r p (by omega) hp ht
  rw[kE (d:=⟨p.v.toNat,p.lo,p.hi⟩) (by rw[h.nd r (by omega),hp];simp[Ii,ht]) (by omega)]
  simp[aT,nW.row,Int.toNat_of_nonneg hn]
theorem yD.lt{l:List nW}{fr:List Nat}{cap used:Nat}{N:gK}(h:yD l fr cap used N){r:Nat}(hr:live N r):r<l.length:=by
 have:=cU.2 hr
 rw[h.zF]at this
 cases hl:l[r]? with
 |none=>rw[hl]at this;simp at this
 |some p=>exact(List.getElem?_eq_some_iff.1 hl).1
def ir(pa cap used:Nat)(N:gK)(C:Hp):Prop:=
 ∃vl vf l fr Cl Cf,C=(pa,.cells #[.int .i64 (cap:Int),vl,vf,.int .i64 (used:Int)] 198 (0,0))::(Cl++Cf)∧
  aS 291 5 vl (l.map nW.row) Cl∧aQ 77 .u32 vf (fr.map (Nat.cast:Nat→Int)) Cf∧yD l fr cap used N
abbrev ptr(b:Nat):Value:=.pointer (some ⟨b,0,none⟩)
theorem row_one(p:nW):∀x∈p.row,x.oneCell'=true:=by intro x hx;simp[nW.row,u32]at hx;rcases hx with rfl|rfl|rfl|rfl|rfl<;>rfl
theorem py{pa cap used r:Nat}{N:gK}{C:Hp}(h:ir pa cap used N C)(hr:r<4294967296):
  Rd Tryz.prog 253 #[ptr pa,u32 r] C (· =.bool (gu N r)):=by
 obtain⟨vl,vf,l,fr,Cl,Cf,rfl,hl,hf,ho⟩:=h
 intro g
 refine DO (R:=aF _) ?_
 unfold L253
 refine bL.nat (by simp[aB];omega) ?_
 refine Nil.ptr ?_
 refine aa.mk (Ld.mk zM rfl ?_)
 refine hl.aR ?_
 refine ae.dz ?_
 rw[List.length_map]
 rw[ho.zF r]
 refine bM.and (match l[r]? with|some p=>p.tk|none=>false) (fun hlt=>?_) rfl fun _=>bO.mk (.refl _) ?_
 ·have pT:=of_decide_eq_true hlt
  refine Nil.ptr ?_
  refine aa.mk (Ld.mk zM rfl ?_)
  have hg:l[r]? =some l[r]:=List.getElem?_eq_getElem pT
  refine hl.BY (r:=l[r].row) (x:=.bool l[r].tk) (by rw[List.getElem?_map,hg];rfl) rfl (fun _ h=>by exact .tail _ (List.mem_append_left _ h)) ?_
  exact⟨rfl,by rw[hg]⟩
 ·congr 1
  by_cases hlt:r<l.length
  ·simp[hlt]
  ·rw[List.getElem?_eq_none (by omega)];simp
theorem NJ{pa cap used r:Nat}{N:gK}{C:Hp}(h:ir pa cap used N C)(hr:r<4294967296):
  Rd Tryz.prog 231 #[ptr pa,u32 r] C (· =.tuple #[.agg (got N r).toArray,.int .i64 (if gu N r then 0 else 3)]):=by
 have h0:=h
 obtain⟨vl,vf,l,fr,Cl,Cf,rfl,hl,hf,ho⟩:=h
 intro g
 refine D1 (R:=aF _) ?_
 unfold L231
 intro b1 _
 refine ae.aJ (Br.no ?_)
 refine ag.rd (.cons .here) (py h0 hr) ?_
 rintro v rfl
 refine Un.not ?_
 refine Br.mk (fun hb=>?_) (fun hb=>?_)
 ·have hb':gu N r=false:=by simpa using hb
  refine Build.mk (cs:=[.int .i64 0,.int .u32 0,.int .u32 0]) (by kernel_rfl) ?_
  refine St.whole (r:=[.int .i64 0,.int .u32 0,.int .u32 0]) (by exact .head _) rfl rfl (by simp[Value.oneCell']) ?_
  refine az.whole (r:=[.int .i64 0,.int .u32 0,.int .u32 0]) (by exact .head _) rfl ?_
  exact bO.mk .tail (by rw[Ac hb',hb'];rfl)
 ·have hb':gu N r=true:=by simpa using hb
  have hx:=hb'
  rw[ho.zF]at hx
  cases hg:l[r]? with
  |none=>rw[hg]at hx;simp at hx
  |some p=>
  rw[hg]at hx
  simp only at hx
  refine Nil.ptr ?_
  refine aa.mk (Ld.mk zM rfl ?_)
  refine hl.Mq (r:=p.row) (by rw[List.getElem?_map,hg];rfl) (by decide) (fun _ h=>by exact .tail _ (.tail _ (List.mem_append_left _ h))) ?_
  refine St.whole (r:=p.row.take 3) (by exact .head _) rfl rfl (fun x hx=>row_one p x (List.mem_of_mem_take hx)) ?_
  refine az.whole (r:=p.row.take 3) (by exact .head _) rfl ?_
  exact bO.mk .tail (by rw[ho.ad7 hg hx,hb'];rfl)
structure Zt(N:gK)(d:Nd):Prop where
 v:d.v<64
 lo:live N d.lo
 hi:live N d.hi
theorem ir.lt{pa cap used r:Nat}{N:gK}{C:Hp}(h:ir pa cap used N C)(hr:live N r):r<cap∧cap≤1048576:=by
 obtain⟨vl,vf,l,fr,Cl,Cf,rfl,hl,hf,ho⟩:=h
 exact⟨Nat.lt_of_lt_of_le (ho.lt hr) ho.cap.1,ho.cap.2⟩
theorem wP{pa cap used:Nat}{N:gK}{C:Hp}{d:Nd}(h:ir pa cap used N C)(hd:Zt N d):
  Rd Tryz.prog 208 #[ptr pa,.agg (aT d).toArray] C (· =.int .i64 0):=by
 have hlo:=h.lt hd.lo
 have hhi:=h.lt hd.hi
 intro g
 refine Em (R:=aF _) ?_
 unfold L208
 intro b1 _
 refine aa.mk (Ld.mk (v:=.int .i64 (d.v:Int)) (by exact .head _) rfl ?_)
 refine ae.lss ?_
 refine bM.or (decide (64≤d.v)) (fun _=>?_) rfl fun _=>?_
 ·refine aa.mk (Ld.mk (v:=.int .i64 (d.v:Int)) (by exact .head _) rfl ?_)
  exact ae.qP (b:=64) ⟨rfl,rfl⟩
 have hv:=hd.v
 refine Br.no' (by simp;omega) ?_
 intro J hJ
 refine aa.mk (Ld.mk (v:=u32 d.lo) (by exact .head _) rfl ?_)
 refine ag.rd (.cons .here) (py h (by omega)) ?_
 rintro v rfl
 rw[cU.2 hd.lo]
 refine Un.not (Split.go rfl ?_)
 refine aa.mk (Ld.mk (v:=u32 d.hi) (by exact .head _) rfl ?_)
 refine ag.rd (.cons .here) (py h (by omega)) ?_
 rintro v rfl
 rw[cU.2 hd.hi]
 refine Un.not (aA.mk (JE.mk (hJ _ _ fun gs=>Br.no (bO.mk .tail rfl))))
theorem L6{pa cap used r:Nat}{N:gK}{C:Hp}(h:ir pa cap used N C)(hr:∃d,N r=some d)(h2:2≤r):
  Rd Tryz.prog 209 #[ptr pa,u32 r] C (· =.int .i64 0):=by
 have hl:=h.lt (.inr hr)
 intro g
 refine El (R:=aF _) ?_
 unfold L209
 intro J hJ
 refine ae.zI (b:=1) ?_
 refine Split.go (by simp;omega) ?_
 refine ag.rd .here (py h (by omega)) ?_
 rintro v rfl
 rw[cU.2 (.inr hr)]
 refine Un.not (aA.mk (JE.mk (hJ _ _ fun gs=>Br.no (bO.mk (.refl _) rfl))))
theorem AG{pa cap used:Nat}{N:gK}{C:Hp}(h:ir pa cap used N C):Rd Tryz.prog 58 #[ptr pa] C (· =.int .i64 (used:Int)):=by
 obtain⟨vl,vf,l,fr,Cl,Cf,rfl,hl,hf,ho⟩:=h
 intro g
 refine JM (R:=aF _) ?_
 unfold L58
 refine ae.aJ (Br.no (Nil.ptr ?_))
 refine aa.mk (Ld.mk zM rfl ?_)
 exact bO.mk (.refl _) rfl
theorem Dh{pa cap used:Nat}{N:gK}{C:Hp}(h:ir pa cap used N C):Rd Tryz.prog 146 #[ptr pa] C (· =.int .i64 (cap:Int)):=by
 obtain⟨vl,vf,l,fr,Cl,Cf,rfl,hl,hf,ho⟩:=h
 intro g
 refine E8 (R:=aF _) ?_
 unfold L146
 refine ae.aJ (Br.no (Nil.ptr ?_))
 refine aa.mk (Ld.mk zM rfl ?_)
 exact bO.mk (.refl _) rfl
end Go.Proofs
set_option maxRecDepth 100000
namespace Go.Proofs
open Go Go.Sx
open aZ
section
variable {l:List nW} {fr:List Nat} {cap used:Nat} {N:gK}
theorem BO(d:Nd){c:Nat}:Ii ⟨(d.v:Int),d.lo,d.hi,true,c⟩=some d:=by simp[Ii]
theorem yD.reuse(h:yD l fr cap used N){r:Nat}(hr:r∈fr){fr':List Nat}(hf:fr.Perm (r::fr'))(d:Nd):
  2≤r∧r<cap∧N r=none∧yD (l.set r ⟨(d.v:Int),d.lo,d.hi,true,0⟩) fr' cap (used+1) (up N r (some d)):=by
 obtain⟨p,hp,ht⟩:=(h.kR r).1 hr
 have hlt:=(List.getElem?_eq_some_iff.1 hp).1
 have h2:2≤r:=by
  apply Decidable.byContradiction
  intro hn
  obtain⟨p',UG,_,_,_,ht'⟩:=h.const r (by omega)
  rw[hp]at UG;cases UG;rw[ht]at ht';cases ht'
 have g8:=hf.nodup_iff.1 h.Pe
 rw[List.nodup_cons]at g8
 refine⟨h2,Nat.lt_of_lt_of_le hlt h.cap.1,by rw[h.nd r h2,hp];simp[Ii,ht],?_⟩
 have gX:∀s,s≠r→(l.set r ⟨(d.v:Int),d.lo,d.hi,true,0⟩)[s]? =l[s]? :=fun s hs=>List.getElem?_set_ne (Ne.symm hs)
 have qL:(l.set r ⟨(d.v:Int),d.lo,d.hi,true,0⟩)[r]? =some ⟨(d.v:Int),d.lo,d.hi,true,0⟩:=List.getElem?_set_self hlt
 exact {
  cap:=by simpa using h.cap
  two:=by simpa using h.two
  const:=fun s hs=>by rw[gX s (by omega)];exact h.const s hs
  nd:=fun s hs=>by
   by_cases e:s=r
   ·subst e;rw[aN,qL];exact(BO d).symm
   ·rw[aP e,gX s e];exact h.nd s hs
  n0:=fun s hs=>by rw[aP (by omega)];exact h.n0 s hs
  nn:=fun s q hs hq MN=>by
   by_cases e:s=r
   ·subst e;rw[qL]at hq;cases hq;exact Int.natCast_nonneg _
   ·rw[gX s e]at hq;exact h.nn s q hs hq MN
  Pe:=g8.2
  kR:=fun s=>by
   by_cases e:s=r
   ·subst e
    rw[qL]
    simp[g8.1]
   ·rw[gX s e,←h.kR s,hf.mem_iff]
    simp[e]
  used:=by have:=h.used;have:=hf.length_eq;simp only[List.length_cons,List.length_set]at*;omega}
theorem yD.grow(h:yD l [] cap used N)(hlt:l.length<cap)(d:Nd):
  2≤l.length∧N l.length=none∧yD (l++[⟨(d.v:Int),d.lo,d.hi,true,0⟩]) [] cap (used+1) (up N l.length (some d)):=by
 have h2:=h.two
 refine⟨h2,by rw[h.nd _ h2,List.getElem?_eq_none (Nat.le_refl _)];rfl,?_⟩
 have gX:∀s,s≠l.length→(l++[(⟨(d.v:Int),d.lo,d.hi,true,0⟩:nW)])[s]? =l[s]? :=fun s hs=>by
  rw[List.getElem?_append]
  split
  ·rfl
  ·rw[List.getElem?_eq_none (by simp;omega),List.getElem?_eq_none (by omega)]
 have qL:(l++[(⟨(d.v:Int),d.lo,d.hi,true,0⟩:nW)])[l.length]? =some ⟨(d.v:Int),d.lo,d.hi,true,0⟩:=by simp
 exact {
  cap:=by simp;exact⟨hlt,h.cap.2⟩
  two:=by simp;omega
  const:=fun s hs=>by rw[gX s (by omega)];exact h.const s hs
  nd:=fun s hs=>by
   by_cases e:s=l.length
   ·subst e;rw[aN,qL];exact(BO d).symm
   ·rw[aP e,gX s e];exact h.nd s hs
  n0:=fun s hs=>by rw[aP (by omega)];exact h.n0 s hs
  nn:=fun s q hs hq MN=>by
   by_cases e:s=l.length
   ·subst e;rw[qL]at hq;cases hq;exact Int.natCast_nonneg _
   ·rw[gX s e]at hq;exact h.nn s q hs hq MN
  Pe:=h.Pe
  kR:=fun s=>by
   by_cases e:s=l.length
   ·subst e
    rw[qL]
    simp
   ·rw[gX s e];exact h.kR s
  used:=by have:=h.used;simp at*;omega}
theorem yD.xu(h:yD l fr cap used N){r:Nat}{p:nW}(h2:2≤r)(hp:l[r]? =some p)(ht:p.tk=true)(d:Nd):
  yD (l.set r ⟨(d.v:Int),d.lo,d.hi,true,p.c⟩) fr cap used (up N r (some d)):=by
 have hlt:=(List.getElem?_eq_some_iff.1 hp).1
 have gX:∀s,s≠r→(l.set r ⟨(d.v:Int),d.lo,d.hi,true,p.c⟩)[s]? =l[s]? :=fun s hs=>List.getElem?_set_ne (Ne.symm hs)
 have qL:(l.set r ⟨(d.v:Int),d.lo,d.hi,true,p.c⟩)[r]? =some ⟨(d.v:Int),d.lo,d.hi,true,p.c⟩:=List.getElem?_set_self hlt
 exact {
  cap:=by simpa using h.cap
  two:=by simpa using h.two
  const:=fun s hs=>by rw[gX s (by omega)];exact h.const s hs
  nd:=fun s hs=>by
   by_cases e:s=r
   ·subst e;rw[aN,qL];exact(BO d).symm
   ·rw[aP e,gX s e];exact h.nd s hs
  n0:=fun s hs=>by rw[aP (by omega)];exact h.n0 s hs
  nn:=fun s q hs hq MN=>by
   by_cases e:s=r
   ·subst e;rw[qL]at hq;cases hq;exact Int.natCast_nonneg _
   ·rw[gX s e]at hq;exact h.nn s q hs hq MN
  Pe:=h.Pe
  kR:=fun s=>by
   by_cases e:s=r
   ·subst e
    rw[h.kR,qL,hp]
    simp[ht]
   ·rw[gX s e];exact h.kR s
  used:=by simpa using h.used}
theorem yD.free(h:yD l fr cap used N){r:Nat}{p:nW}(h2:2≤r)(hp:l[r]? =some p)(ht:p.tk=true):
  yD (l.set r ⟨0,0,0,false,0⟩) (fr++[r]) cap (used-1) (up N r none)∧0<used:=by
 have hlt:=(List.getElem?_eq_some_iff.1 hp).1
 have gX:∀s,s≠r→(l.set r ⟨0,0,0,false,0⟩)[s]? =l[s]? :=fun s hs=>List.getElem?_set_ne (Ne.symm hs)
 have qL:(l.set r ⟨0,0,0,false,0⟩)[r]? =some ⟨0,0,0,false,0⟩:=List.getElem?_set_self hlt
 have hnf:r∉fr:=fun hm=>by obtain⟨q,hq,MN⟩:=(h.kR r).1 hm;rw[hp]at hq;cases hq;rw[ht]at MN;cases MN
 have hu:fr.length<l.length:=by
  have hn:(r::fr).Nodup:=List.nodup_cons.2 ⟨hnf,h.Pe⟩
  have:=bZ (l:=r::fr) (l':=List.range l.length) hn fun s hs=>by
   rw[List.mem_range]
   rcases List.mem_cons.1 hs with rfl|hs
   ·exact hlt
   ·obtain⟨q,hq,_⟩:=(h.kR s).1 hs;exact(List.getElem?_eq_some_iff.1 hq).1
  rw[List.length_range]at this;exact this
 have hu2:=h.used
 refine⟨?_,by omega⟩
 exact {
  cap:=by simpa using h.cap
  two:=by simpa using h.two
  const:=fun s hs=>by rw[gX s (by omega)];exact h.const s hs
  nd:=fun s hs=>by
   by_cases e:s=r
   ·subst e;rw[aN,qL];rfl
   ·rw[aP e,gX s e];exact h.nd s hs
  n0:=fun s hs=>by rw[aP (by omega)];exact h.n0 s hs
  nn:=fun s q hs hq MN=>by
   by_cases e:s=r
   ·subst e;rw[qL]at hq;cases hq;cases MN
   ·rw[gX s e]at hq;exact h.nn s q hs hq MN
  Pe:=by rw[List.nodup_append];exact⟨h.Pe,by simp,fun a ha c hc=>by simp at hc;subst hc;intro e;subst e;exact hnf ha⟩
  kR:=fun s=>by
   rw[List.mem_append,List.mem_singleton]
   by_cases e:s=r
   ·subst e
    rw[qL]
    simp
   ·rw[gX s e,←h.kR];simp[e]
  used:=by simp;omega}
end
theorem mD(l:List nW)(r:Nat)(p:nW):(l.map nW.row).set r p.row=(l.set r p).map nW.row:=by rw[List.map_set]
theorem Ou{pa cap used:Nat}{N:gK}{C:Hp}{d:Nd}(h:ir pa cap used N C)(hd:Zt N d)(hroom:used<cap):
  Fc Tryz.prog 252 #[ptr pa,.agg (aT d).toArray] C (fun v C'=>∃r,v=.tuple #[u32 r,.int .i64 0]∧2≤r∧r<cap∧N r=none∧ir pa cap (used+1) (up N r (some d)) C'):=by
 have h0:=h
 obtain⟨vl,vf,l,fr,Cl,Cf,rfl,hl,hf,ho⟩:=h
 have hcap:=ho.cap
 have GA:=ho.used
 intro g
 refine DP (R:=aF _) ?_
 unfold L252
 intro b1 _
 refine ae.aJ (Br.no ?_)
 refine az.whole (r:=aT d) (by exact .head _) rfl ?_
 refine ag.rd (.cons .here) (wP h0 hd) ?_
 rintro v rfl
 refine ae.dX (Br.cq (by simp) ?_)
 refine Nil.ptr ?_
 refine aa.mk (Ld.mk zM rfl ?_)
 refine hf.aR ?_
 rw[List.length_map]
 refine ae.me (b:=0) (Br.dec (fun hp=>?_) (fun hp=>?_))
 ·obtain⟨fr',r,rfl⟩:∃fr' r,fr=fr'++[r]:=⟨fr.dropLast,fr.getLast (by intro e;simp[e]at hp),(List.dropLast_concat_getLast _).symm⟩
  simp only[List.length_append,List.length_cons,List.length_nil]at hp GA⊢
  obtain⟨g1,g2,g3,hok⟩:=ho.reuse (r:=r) (by simp) (fr':=fr') (by exact List.perm_append_singleton _ _) d
  refine Nil.ptr ?_
  refine aa.mk (Ld.mk zM rfl ?_)
  refine ae.bH (a:=fr'.length+1) (b:=1) (by simp[aB];omega) (by omega) ?_
  rw[Nat.add_sub_cancel]
  refine hf.ld (i:=fr'.length) (x:=(r:Int)) (by simp) (fun _ h=>by exact .tail _ (.tail _ (List.mem_append_right _ h))) ?_
  refine Nil.ptr ?_
  refine aa.mk (Ld.mk zM rfl ?_)
  refine ae.bH (a:=fr'.length+1) (b:=1) (by simp[aB];omega) (by omega) ?_
  rw[Nat.add_sub_cancel]
  refine hf.cut (i:=fr'.length) (by simp) fun v' O9=>?_
  have O8:aQ 77 .u32 v' (fr'.map (Nat.cast:Nat→Int)) Cf:=by
   rw[List.map_append,List.take_left' (by simp)]at O9;exact O9
  have hone:v'.oneCell'=true:=by obtain⟨a,c,e⟩:=aS.len O8;rw[e];rfl
  refine Nil.ptr (aa.mk ?_)
  refine St.one (by exact .tail (.head _)) hone (by simp) rfl ?_
  refine DR.self ?_
  refine Nil.ptr ?_
  refine aa.mk (Ld.mk (by exact .tail _ (.head _)) rfl ?_)
  refine az.whole (r:=aT d) (by exact .head _) rfl ?_
  refine Build.mk (cs:=(nW.mk (d.v:Int) d.lo d.hi true 0).row) (by kernel_rfl) ?_
  refine hl.LX (A:=[_,_]) (B:=Cf) (i:=r) (by rw[List.length_map];have:=(ho.kR r).1 (by simp);obtain⟨p,hp,_⟩:=this;exact(List.getElem?_eq_some_iff.1 hp).1) rfl (row_one _) fun C' hl'=>?_
  rw[mD]at hl'
  simp only[List.cons_append,List.nil_append]
  refine Nil.ptr ?_
  refine aa.mk (Ld.mk (by exact .tail _ (.head _)) rfl ?_)
  refine ae.aH (b:=1) (by simp[aB];omega) ?_
  refine Nil.ptr (aa.mk ?_)
  refine St.one (by exact .tail (.head _)) rfl (by simp) rfl ?_
  exact aF.mk .tail ⟨r,rfl,g1,g2,g3,vl,v',_,fr',C',Cf,rfl,hl',O8,hok⟩
 ·obtain rfl:fr=[]:=List.eq_nil_of_length_eq_zero (by omega)
  simp only[List.length_nil]at GA
  obtain⟨g1,g3,hok⟩:=ho.grow (by omega) d
  refine Nil.ptr ?_
  refine aa.mk (Ld.mk zM rfl ?_)
  refine hl.aR ?_
  rw[List.length_map]
  refine Nil.ptr ?_
  refine aa.mk (Ld.mk zM rfl ?_)
  refine ae.qP (Br.cq (by omega) ?_)
  refine DR.of (R:=(b1,.cells (List.toArray (aT d)) 161 (0,0))::(pa,.cells #[.int .i64 (cap:Int),vl,vf,.int .i64 (used:Int)] 198 (0,0))::[]) (.cons (.cons .nil)) ?_
  refine Nil.ptr ?_
  refine aa.mk (Ld.mk zM rfl ?_)
  refine az.whole (r:=aT d) (by exact .head _) rfl ?_
  refine Build.mk (cs:=(nW.mk (d.v:Int) d.lo d.hi true 0).row) (by kernel_rfl) ?_
  refine av.one (z:=.agg #[.int .i64 0,.int .u32 0,.int .u32 0,.bool false,.int .u8 0]) (e:=291) (k:=5) (by kernel_rfl) (by kernel_rfl) (by kernel_rfl) (by decide) rfl fun bx=>?_
  refine⟨.skip (.cons (.cons .nil)),?_⟩
  refine hl.Dg (A:=[_,_,_]) (B:=Cf) (r:=(nW.mk (d.v:Int) d.lo d.hi true 0).row) (by exact .head _) rfl (row_one _) (by exact⟨[.int .i64 0,.int .u32 0,.int .u32 0,.bool false,.int .u8 0],rfl,rfl⟩) (by simp;omega) (by simp;omega) fun v' C' hl'=>?_
  have rK:aS 291 5 v' ((l++[(⟨(d.v:Int),d.lo,d.hi,true,0⟩:nW)]).map nW.row) C':=by rw[List.map_append];exact hl'
  simp only[List.cons_append,List.nil_append]
  refine⟨.skip (.cons (.cons .nil)),?_⟩
  have hone:v'.oneCell'=true:=by obtain⟨a,c,e⟩:=rK.len;rw[e];rfl
  refine Nil.ptr (aa.mk ?_)
  refine St.one (by exact .tail (.tail (.head _))) hone (by simp) rfl ?_
  refine Nil.ptr ?_
  refine aa.mk (Ld.mk (by exact .tail _ (.tail _ (.head _))) rfl ?_)
  refine ae.aH (b:=1) (by simp[aB];omega) ?_
  refine Nil.ptr (aa.mk ?_)
  refine St.one (by exact .tail (.tail (.head _))) rfl (by simp) rfl ?_
  refine Nil.ptr ?_
  refine aa.mk (Ld.mk (by exact .tail _ (.tail _ (.head _))) rfl ?_)
  refine rK.aR ?_
  refine ae.bH (b:=1) (by simp[aB];omega) (by simp) ?_
  refine bL.nat (by simp[aB];omega) ?_
  refine aF.mk (.skip .tail) ⟨l.length,by simp[u32],g1,by omega,g3,v',vf,_,[],C',Cf,rfl,rK,hf,hok⟩
theorem RF{pa cap used r:Nat}{N:gK}{C:Hp}{d:Nd}(h:ir pa cap used N C)(hd:Zt N d)(hr:∃e,N r=some e)(h2:2≤r):
  Fc Tryz.prog 140 #[ptr pa,u32 r,.agg (aT d).toArray] C (fun v C'=>v=.int .i64 0∧ir pa cap used (up N r (some d)) C'):=by
 have h0:=h
 obtain⟨vl,vf,l,fr,Cl,Cf,rfl,hl,hf,ho⟩:=h
 have hx:=cU.2 (.inr hr:live N r)
 rw[ho.zF]at hx
 obtain⟨p,hg,hx⟩:∃p,l[r]? =some p∧p.tk=true:=by
  cases hg:l[r]? with
  |none=>rw[hg]at hx;simp at hx
  |some p=>rw[hg]at hx;exact⟨p,rfl,hx⟩
 intro g
 refine Ff (R:=aF _) ?_
 unfold L140
 intro b1 _
 refine ae.aJ (Br.no ?_)
 refine az.whole (r:=aT d) (by exact .head _) rfl ?_
 refine ag.rd (.cons .here) (wP h0 hd) ?_
 rintro v rfl
 refine ae.dX (Br.cq (by simp) ?_)
 refine ag.rd (.cons .here) (L6 h0 hr h2) ?_
 rintro v rfl
 refine ae.dX (Br.cq (by simp) ?_)
 refine DR.self ?_
 refine Nil.ptr ?_
 refine aa.mk (Ld.mk zM rfl ?_)
 refine az.whole (r:=aT d) (by exact .head _) rfl ?_
 refine hl.P3 (A:=[_,_]) (B:=Cf) (r:=p.row) (xs:=aT d) (n:=3) (by rw[List.getElem?_map,hg];rfl) ⟨rfl,by omega⟩ (by intro x hx;simp[aT,u32]at hx;rcases hx with rfl|rfl|rfl<;>rfl) fun C' hl'=>?_
 have e:(aT d++p.row.drop 3)=(nW.mk (d.v:Int) d.lo d.hi true p.c).row:=by simp[aT,nW.row,hx]
 rw[e,mD]at hl'
 exact aF.mk .tail ⟨rfl,vl,vf,_,fr,C',Cf,rfl,hl',hf,ho.xu h2 hg hx d⟩
theorem OA{pa cap used r:Nat}{N:gK}{C:Hp}(h:ir pa cap used N C)(hr:∃e,N r=some e)(h2:2≤r):
  Fc Tryz.prog 210 #[ptr pa,u32 r] C (fun v C'=>v=.int .i64 0∧ir pa cap (used-1) (up N r none) C'):=by
 have h0:=h
 obtain⟨vl,vf,l,fr,Cl,Cf,rfl,hl,hf,ho⟩:=h
 have hx:=cU.2 (.inr hr:live N r)
 rw[ho.zF]at hx
 obtain⟨p,hg,hx⟩:∃p,l[r]? =some p∧p.tk=true:=by
  cases hg:l[r]? with
  |none=>rw[hg]at hx;simp at hx
  |some p=>rw[hg]at hx;exact⟨p,rfl,hx⟩
 obtain⟨hok,hu0⟩:=ho.free h2 hg hx
 have hcap:=ho.cap
 have GA:=ho.used
 intro g
 refine Ek (R:=aF _) ?_
 unfold L210
 refine ae.aJ (Br.no ?_)
 refine ag.rd .here (L6 h0 hr h2) ?_
 rintro v rfl
 refine ae.dX (Br.cq (by simp) ?_)
 refine Nil.ptr ?_
 refine aa.mk (Ld.mk zM rfl ?_)
 refine Build.mk (cs:=(nW.mk 0 0 0 false 0).row) (by kernel_rfl) ?_
 refine hl.LX (A:=[_]) (B:=Cf) (i:=r) (by rw[List.length_map];exact(List.getElem?_eq_some_iff.1 hg).1) rfl (row_one _) fun C' hl'=>?_
 rw[mD]at hl'
 simp only[List.cons_append,List.nil_append]
 refine Nil.ptr ?_
 refine aa.mk (Ld.mk (by exact .head _) rfl ?_)
 refine av.int (e:=77) (by kernel_rfl) (by kernel_rfl) (by kernel_rfl) fun bx=>?_
 have e1:(bx,Obj.cells (aC .u32 [(r:Int)]) 77 (0,0))::(pa,Obj.cells #[.int .i64 (cap:Int),vl,vf,.int .i64 (used:Int)] 198 (0,0))::(C'++Cf)=(bx,Obj.cells (aC .u32 [(r:Int)]) 77 (0,0))::(pa,Obj.cells #[.int .i64 (cap:Int),vl,vf,.int .i64 (used:Int)] 198 (0,0))::C'++(Cf++[]):=by simp
 rw[e1]
 refine hf.app (x:=(r:Int)) (B:=[]) (by exact .head _) (by simp;omega) (by simp;omega) fun v' Cf' O9=>?_
 have O8:aQ 77 .u32 v' ((fr++[r]).map (Nat.cast:Nat→Int)) Cf':=by rw[List.map_append];exact O9
 have hone:v'.oneCell'=true:=by obtain⟨a,c,e⟩:=aS.len O8;rw[e];rfl
 simp only[List.cons_append,List.append_nil]
 refine Nil.ptr (aa.mk ?_)
 refine St.one (by exact .tail (.head _)) hone (by simp) rfl ?_
 refine Nil.ptr ?_
 refine aa.mk (Ld.mk (by exact .tail _ (.head _)) rfl ?_)
 refine ae.bH (b:=1) (by simp[aB];omega) (by omega) ?_
 refine Nil.ptr (aa.mk ?_)
 refine St.one (by exact .tail (.head _)) rfl (by simp) rfl ?_
 exact aF.mk .tail ⟨rfl,vl,v',_,_,C',Cf',rfl,hl',O8,hok⟩
def nK(d:Nd):Value:=.agg (aT d).toArray
abbrev WJ(v:Value)(r:Nat):Prop:=v=u32 r
theorem Gu:Tryz.prog.underlying 161=some (.struct (Tryz.prog.fieldsOf 161)):=by kernel_rfl
theorem pI(a b:Nd):FO Tryz.prog 161 (nK a) (nK b) (decide (a=b)):=by
 refine FO.flat (fs:=#[⟨"Var",3,0,false, "", "",0⟩,⟨"Lo",77,1,false, "", "",8⟩,⟨"Hi",77,2,false, "", "",12⟩]) (by kernel_rfl) (by kernel_rfl) ?_ ?_
 ·intro f hf
  simp only[List.mem_cons,List.not_mem_nil,or_false]at hf
  rcases hf with rfl|rfl|rfl
  ·exact⟨by decide,_,_,rfl,rfl,.inl ⟨.i64,_,_,by kernel_rfl,rfl,rfl⟩⟩
  ·exact⟨by decide,_,_,rfl,rfl,.inl ⟨.u32,_,_,by kernel_rfl,rfl,rfl⟩⟩
  ·exact⟨by decide,_,_,rfl,rfl,.inl ⟨.u32,_,_,by kernel_rfl,rfl,rfl⟩⟩
 ·obtain⟨a1,a2,a3⟩:=a
  obtain⟨b1,b2,b3⟩:=b
  simp[aT,u32]
  omega
theorem k9(a:Nd):nX Tryz.prog 161 (nK a):=by
 refine nX.flat (fs:=#[⟨"Var",3,0,false, "", "",0⟩,⟨"Lo",77,1,false, "", "",8⟩,⟨"Hi",77,2,false, "", "",12⟩]) (by kernel_rfl) ?_
 intro f hf
 simp only[List.mem_cons,List.not_mem_nil,or_false]at hf
 rcases hf with rfl|rfl|rfl
 ·exact⟨by decide,_,rfl,.inl ⟨.i64,_,_,by kernel_rfl,rfl,rfl⟩⟩
 ·exact⟨by decide,_,rfl,.inl ⟨.u32,_,_,by kernel_rfl,rfl,rfl⟩⟩
 ·exact⟨by decide,_,rfl,.inl ⟨.u32,_,_,by kernel_rfl,rfl,rfl⟩⟩
theorem Gw(a:Nd):Instr.sameBits 10000 (nK a) (nK a)=true:=vk 9998 (by intro x hx;simp[aT,u32]at hx;rcases hx with rfl|rfl|rfl<;>exact .inl ⟨_,_,rfl⟩)
structure UM where
 b:Nat
 es:Array MapEntry
 ck:Nat
 l:List (Nd×Nat)
def Il(ms:List UM):Hp:=ms.map fun m=>(m.b,.map m.es m.ck)
structure Pg(ms:List UM)(n:Nat)(T:Nd→Option Nat):Prop where
 len:ms.length=n
 rR:∀(v:Nat) m,ms[v]? =some m→bu nK WJ m.es m.ck m.l
 var:∀(v:Nat) m,ms[v]? =some m→∀x∈m.l,x.1.v=v
 T:∀d,T d=(ms[d.v]?).bind fun m=>er m.l d
def ni(pt n:Nat)(T:Nd→Option Nat)(C:Hp):Prop:=
 ∃vs Cs ms,C=(pt,.cells #[vs] 265 (0,0))::(Cs++Il ms)∧aS 266 1 vs (ms.map fun m=>[.map (some m.b)]) Cs∧Pg ms n T
theorem pL{ms:List UM}{v:Nat}{m:UM}(h:ms[v]? =some m):(m.b,Obj.map m.es m.ck)∈Il ms:=List.mem_map.2 ⟨m,List.mem_of_getElem? h,rfl⟩
theorem xJ{es':Array MapEntry}{eU:Nat}{l':List (Nd×Nat)}:∀{ms:List UM} {v:Nat} {m:UM},ms[v]? =some m→cJ m.b (.map m.es m.ck) (.map es' eU) (Il ms) (Il (ms.set v ⟨m.b,es',eU,l'⟩))
 | [],v,m,h=>by simp at h
 |x::ms,0,m,h=>by simp at h;subst h;exact .head _
 |x::ms,v+1,m,h=>by simp at h;exact .tail (xJ h)
theorem we{ms:List UM}{v:Nat}{m m':UM}(h:ms[v]? =some m)(hb:m'.b=m.b):(ms.set v m').map (fun m=>[Value.map (some m.b)])=ms.map fun m=>[Value.map (some m.b)]:=by
 rw[List.map_set]
 apply List.ext_getElem?
 intro j
 rw[List.getElem?_set]
 split
 ·rename_i e;subst e
  have hlt:=(List.getElem?_eq_some_iff.1 h).1
  have e2:ms[v]=m:=by rw[List.getElem?_eq_getElem hlt]at h;exact Option.some.inj h
  simp[hb,hlt,e2]
 ·rfl
theorem Pg.add{ms:List UM}{n:Nat}{T:Nd→Option Nat}(h:Pg ms n T){d:Nd}{m:UM}(hm:ms[d.v]? =some m){es':Array MapEntry}{eU r:Nat}(he:bu nK WJ es' eU (gU m.l d r)):Pg (ms.set d.v ⟨m.b,es',eU,gU m.l d r⟩) n (o5 T d (some r)) where
 len:=by rw[List.length_set];exact h.len
 rR:=fun v m' hm'=>by
  rw[List.getElem?_set]at hm'
  split at hm'
  ·split at hm'
   ·cases hm';exact he
   ·cases hm'
  ·exact h.rR v m' hm'
 var:=fun v m' hm' x hx=>by
  rw[List.getElem?_set]at hm'
  split at hm'
  ·rename_i e
   split at hm'
   ·cases hm'
    subst e
    simp only[gU]at hx
    split at hx
    ·obtain⟨y,hy,rfl⟩:=List.mem_map.1 hx
     split
     ·rfl
     ·exact h.var _ m hm y hy
    ·rcases List.mem_append.1 hx with hx|hx
     ·exact h.var _ m hm x hx
     ·simp at hx;subst hx;rfl
   ·cases hm'
  ·exact h.var v m' hm' x hx
 T:=fun e=>by
  have hlt:=(List.getElem?_eq_some_iff.1 hm).1
  by_cases ee:e=d
  ·subst ee;rw[jb,List.getElem?_set_self hlt];simp[gp]
  ·rw[ot ee,h.T e]
   by_cases ev:d.v=e.v
   ·rw[←ev,List.getElem?_set_self hlt,hm];simp[gp,ee]
   ·rw[List.getElem?_set_ne ev]
theorem Pg.del{ms:List UM}{n:Nat}{T:Nd→Option Nat}(h:Pg ms n T){d:Nd}{m:UM}(hm:ms[d.v]? =some m){es':Array MapEntry}{eU:Nat}(he:bu nK WJ es' eU (vp m.l d)):Pg (ms.set d.v ⟨m.b,es',eU,vp m.l d⟩) n (o5 T d none) where
 len:=by rw[List.length_set];exact h.len
 rR:=fun v m' hm'=>by
  rw[List.getElem?_set]at hm'
  split at hm'
  ·split at hm'
   ·cases hm';exact he
   ·cases hm'
  ·exact h.rR v m' hm'
 var:=fun v m' hm' x hx=>by
  rw[List.getElem?_set]at hm'
  split at hm'
  ·rename_i e
   split at hm'
   ·cases hm'
    subst e
    exact h.var _ m hm x (List.mem_filter.1 hx|>.1)
   ·cases hm'
  ·exact h.var v m' hm' x hx
 T:=fun e=>by
  have hlt:=(List.getElem?_eq_some_iff.1 hm).1
  by_cases ee:e=d
  ·subst ee;rw[jb,List.getElem?_set_self hlt];simp[wc]
  ·rw[ot ee,h.T e]
   by_cases ev:d.v=e.v
   ·rw[←ev,List.getElem?_set_self hlt,hm];simp[wc,ee]
   ·rw[List.getElem?_set_ne ev]
theorem j8{pt n v:Nat}{T:Nd→Option Nat}{C:Hp}(h:ni pt n T C)(hv:v<n):Rd Tryz.prog 206 #[ptr pt,.int .i64 (v:Int)] C (· =.int .i64 0):=by
 obtain⟨vs,Cs,ms,rfl,hs,ho⟩:=h
 intro g
 refine Eo (R:=aF _) ?_
 unfold L206
 refine ae.aJ (Br.no ?_)
 refine ae.lss ?_
 rw[decide_eq_false (by omega:¬((v:Int)<0))]
 refine bM.or false (fun _=>?_) rfl fun _=>Br.no (bO.mk (.refl _) rfl)
 refine Nil.ptr ?_
 refine aa.mk (Ld.mk zM rfl ?_)
 refine hs.aR ?_
 rw[List.length_map,ho.len]
 exact ae.qP ⟨rfl,by rw[decide_eq_false (by omega)]⟩
theorem sB{pt n:Nat}{T:Nd→Option Nat}{C:Hp}{d:Nd}(h:ni pt n T C)(hv:d.v<n):
  Rd Tryz.prog 205 #[ptr pt,nK d] C (· =.tuple #[u32 ((T d).getD 0),.bool (T d).isSome]):=by
 have h0:=h
 obtain⟨vs,Cs,ms,rfl,hs,ho⟩:=h
 obtain⟨m,hm⟩:∃m,ms[d.v]? =some m:=⟨_,List.getElem?_eq_getElem (by rw[ho.len];exact hv)⟩
 intro g
 refine Ep (R:=aF _) ?_
 unfold L205
 intro b1 _
 refine aa.mk (Ld.mk (v:=.int .i64 (d.v:Int)) (by exact .head _) rfl ?_)
 refine ag.rd (.cons .here) (j8 h0 hv) ?_
 rintro v rfl
 refine ae.dX (Br.cq (by simp) ?_)
 refine Nil.ptr ?_
 refine aa.mk (Ld.mk zM rfl ?_)
 refine aa.mk (Ld.mk (v:=.int .i64 (d.v:Int)) (by exact .head _) rfl ?_)
 refine hs.Se (x:=.map (some m.b)) (by rw[List.getElem?_map,hm];rfl) (fun _ h=>by exact .tail _ (.tail _ (List.mem_append_left _ h))) ?_
 refine az.whole (r:=aT d) (by exact .head _) rfl ?_
 have hmem:(m.b,Obj.map m.es m.ck)∈(b1,Obj.cells (Value.cells (nK d)) 161 (0,0))::(pt,.cells #[vs] 265 (0,0))::(Cs++Il ms):=.tail _ (.tail _ (List.mem_append_right _ (pL hm)))
 have hT:T d=er m.l d:=by rw[ho.T,hm];rfl
 rw[hT]
 cases hg:er m.l d with
 |some r=>
  refine bu.QR (ke:=nK) (k:=d) pI k9 (ho.rR _ m hm) hmem hg ?_
  rintro v rfl
  exact Ext.mk rfl (Ext.mk rfl (bO.mk .tail rfl))
 |none=>
  refine bu.Gx (ke:=nK) (k:=d) pI k9 (ho.rR _ m hm) hmem hg ?_
  exact Ext.mk rfl (Ext.mk rfl (bO.mk .tail rfl))
theorem F6{pt n r:Nat}{T:Nd→Option Nat}{C:Hp}{d:Nd}(h:ni pt n T C)(hv:d.v<n)(hT:T d=none):
  Fc Tryz.prog 141 #[ptr pt,nK d,u32 r] C (fun v C'=>v=.int .i64 0∧ni pt n (o5 T d (some r)) C'):=by
 have h0:=h
 obtain⟨vs,Cs,ms,rfl,hs,ho⟩:=h
 obtain⟨m,hm⟩:∃m,ms[d.v]? =some m:=⟨_,List.getElem?_eq_getElem (by rw[ho.len];exact hv)⟩
 have hTm:er m.l d=none:=by rw[ho.T,hm]at hT;exact hT
 intro g
 refine Fe (R:=aF _) ?_
 unfold L141
 intro b1 _
 refine aa.mk (Ld.mk (v:=.int .i64 (d.v:Int)) (by exact .head _) rfl ?_)
 refine ag.rd (.cons .here) (j8 h0 hv) ?_
 rintro v rfl
 refine ae.dX (Br.cq (by simp) ?_)
 refine Nil.ptr ?_
 refine aa.mk (Ld.mk zM rfl ?_)
 refine aa.mk (Ld.mk (v:=.int .i64 (d.v:Int)) (by exact .head _) rfl ?_)
 refine hs.Se (x:=.map (some m.b)) (by rw[List.getElem?_map,hm];rfl) (fun _ h=>by exact .tail _ (.tail _ (List.mem_append_left _ h))) ?_
 refine az.whole (r:=aT d) (by exact .head _) rfl ?_
 have hmem:(m.b,Obj.map m.es m.ck)∈(b1,Obj.cells (Value.cells (nK d)) 161 (0,0))::(pt,.cells #[vs] 265 (0,0))::(Cs++Il ms):=.tail _ (.tail _ (List.mem_append_right _ (pL hm)))
 refine bu.Gx (ke:=nK) (k:=d) pI k9 (ho.rR _ m hm) hmem hTm ?_
 refine Ext.mk rfl (Ext.mk rfl (Br.no ?_))
 refine DR.self ?_
 refine Nil.ptr ?_
 refine aa.mk (Ld.mk zM rfl ?_)
 refine aa.mk (Ld.mk (v:=.int .i64 (d.v:Int)) (by exact .head _) rfl ?_)
 refine hs.Se (x:=.map (some m.b)) (by rw[List.getElem?_map,hm];rfl) (fun _ h=>by exact .tail _ (.tail _ (List.mem_append_left _ h))) ?_
 refine az.whole (r:=aT d) (by exact .head _) rfl ?_
 refine bu.WO (ke:=nK) (k:=d) (vr:=WJ) (x:=r) pI k9 Gw (ho.rR _ m hm) rfl fun es' eU he=>⟨_,.tail (.tail ((xJ (l':=gU m.l d r) hm).bI Cs)),?_⟩
 exact aF.mk .tail ⟨rfl,vs,Cs,_,rfl,by rw[we hm];exact hs;rfl,ho.add hm he⟩
theorem vY{pt n r:Nat}{T:Nd→Option Nat}{C:Hp}{d:Nd}(h:ni pt n T C)(hv:d.v<n)(hT:T d=some r):
  Fc Tryz.prog 137 #[ptr pt,nK d] C (fun v C'=>v=.int .i64 0∧ni pt n (o5 T d none) C'):=by
 have h0:=h
 obtain⟨vs,Cs,ms,rfl,hs,ho⟩:=h
 obtain⟨m,hm⟩:∃m,ms[d.v]? =some m:=⟨_,List.getElem?_eq_getElem (by rw[ho.len];exact hv)⟩
 have hTm:er m.l d=some r:=by rw[ho.T,hm]at hT;exact hT
 intro g
 refine Fh (R:=aF _) ?_
 unfold L137
 intro b1 _
 refine aa.mk (Ld.mk (v:=.int .i64 (d.v:Int)) (by exact .head _) rfl ?_)
 refine ag.rd (.cons .here) (j8 h0 hv) ?_
 rintro v rfl
 refine ae.dX (Br.cq (by simp) ?_)
 refine Nil.ptr ?_
 refine aa.mk (Ld.mk zM rfl ?_)
 refine aa.mk (Ld.mk (v:=.int .i64 (d.v:Int)) (by exact .head _) rfl ?_)
 refine hs.Se (x:=.map (some m.b)) (by rw[List.getElem?_map,hm];rfl) (fun _ h=>by exact .tail _ (.tail _ (List.mem_append_left _ h))) ?_
 refine az.whole (r:=aT d) (by exact .head _) rfl ?_
 have hmem:(m.b,Obj.map m.es m.ck)∈(b1,Obj.cells (Value.cells (nK d)) 161 (0,0))::(pt,.cells #[vs] 265 (0,0))::(Cs++Il ms):=.tail _ (.tail _ (List.mem_append_right _ (pL hm)))
 refine bu.QR (ke:=nK) (k:=d) pI k9 (ho.rR _ m hm) hmem hTm ?_
 rintro v rfl
 refine Ext.mk rfl (Ext.mk rfl (Un.not (Br.no ?_)))
 refine DR.of (R:=(b1,Obj.cells (Value.cells (nK d)) 161 (0,0))::(pt,.cells #[vs] 265 (0,0))::Cs) (.cons (.cons .left)) ?_
 refine Nil.ptr ?_
 refine aa.mk (Ld.mk zM rfl ?_)
 refine aa.mk (Ld.mk (v:=.int .i64 (d.v:Int)) (by exact .head _) rfl ?_)
 refine hs.Se (x:=.map (some m.b)) (by rw[List.getElem?_map,hm];rfl) (fun _ h=>by exact .tail _ (.tail _ h)) ?_
 refine az.whole (r:=aT d) (by exact .head _) rfl ?_
 refine bu.aed (ke:=nK) (k:=d) pI k9 (ho.rR _ m hm) hmem fun es' he=>⟨_,.tail (.tail ((xJ (l':=vp m.l d) hm).bI Cs)),?_⟩
 exact⟨.cons (.cons .left),aF.mk .tail ⟨rfl,vs,Cs,_,rfl,by rw[we hm];exact hs;rfl,ho.del hm he⟩⟩
theorem Pg.start(n:Nat)(bs:List Nat)(h:bs.length=n):Pg (bs.map fun b=>⟨b,#[],0,[]⟩) n (fun _=>none) where
 len:=by simpa using h
 rR:=fun v m hm=>by
  rw[List.getElem?_map]at hm
  obtain⟨b,_,rfl⟩:=Option.map_eq_some_iff.1 hm
  exact bu.empty
 var:=fun v m hm x hx=>by
  rw[List.getElem?_map]at hm
  obtain⟨b,_,rfl⟩:=Option.map_eq_some_iff.1 hm
  simp at hx
 T:=fun d=>by
  rw[List.getElem?_map]
  cases bs[d.v]? <;>simp[er]
theorem Aj(x:Value):∀n:Nat,(List.replicate n [x]).flatten=List.replicate n x
 |0=>rfl
 |n+1=>by rw[List.replicate_succ,List.flatten_cons,List.replicate_succ,Aj x n];rfl
theorem PJ{n:Nat}(hn:1≤n∧n≤64):Fc Tryz.prog 117 #[.int .i64 (n:Int)] [] (fun v H=>∃pt,v=.tuple #[ptr pt,.int .i64 0]∧ni pt n (fun _=>none) H):=by
 intro g
 refine Ft (R:=aF _) ?_
 unfold L117
 refine ae.lss ?_
 rw[decide_eq_false (by omega)]
 refine bM.or false (fun _=>ae.gtr ⟨rfl,by rw[decide_eq_false (by omega)]⟩) rfl fun _=>Br.no ?_
 refine⟨.i64,.i64,n,n,rfl,rfl,Nat.le_refl _,by omega,by omega,?_⟩
 intro bs _
 refine Build.mk (cs:=[.slice (some ⟨bs,0,none⟩) n n]) (by kernel_rfl) ?_
 intro pt _
 have hz:madeCells (Value.cells (.map none)) (n*1)=rows ((List.replicate n [Value.map none])++[]):=by
  apply Array.ext'
  apply List.ext_getElem?
  intro i
  have:=Aj (.map none) n
  simp only[madeCells,rows,Value.cells,Array.toList_map,Array.toList_range,List.getElem?_map,List.toList_toArray,Nat.mul_one,List.append_nil]
  rw[this,List.getElem?_replicate]
  by_cases hi:i<n
  ·simp[hi,Nat.mod_one]
  ·simp[hi]
 rw[hz]
 have hs0:aS 266 1 (.slice (some ⟨bs,0,none⟩) n n) (List.replicate n [Value.map none]) [(bs,.cells (rows ((List.replicate n [Value.map none])++[])) 266 (0,0))]:=
  aS.mk' (fun r hr=>by rw[List.append_nil]at hr;rw[List.eq_of_mem_replicate hr];rfl) (by simp) (by simp)
 refine⟨fun vs H=>∃(j:Nat) (bl:List Nat) (Cs:Hp),vs=[.int .i64 (j:Int)]∧bl.length=j∧j≤n∧H=(pt,.cells #[.slice (some ⟨bs,0,none⟩) n n] 265 (0,0))::(Cs++Il (bl.map fun b=>⟨b,#[],0,[]⟩))∧
  aS 266 1 (.slice (some ⟨bs,0,none⟩) n n) ((bl.map fun b=>[Value.map (some b)])++List.replicate (n-j) [Value.map none]) Cs,fun vs _=>n-bg vs 0,JE.mk ⟨0,[],_,rfl,rfl,by omega,by simp only[Il,List.map_nil,List.append_nil];rfl,by simpa using hs0⟩,?_⟩
 rintro w H ⟨j,bl,Cs,hw,SS,hj,rfl,hs⟩ gs
 simp only[List.cons.injEq,and_true]at hw
 subst hw
 refine ae.dz (Br.dec (fun hlt=>?_) (fun hlt=>?_))
 ·refine Nil.ptr ?_
  refine aa.mk (Ld.mk (by exact .head _) rfl ?_)
  intro b _
  have hlen:((bl.map fun b=>[Value.map (some b)])++List.replicate (n-j) [Value.map none]).length=n:=by simp;omega
  refine aS.abV (A:=[_,_]) (B:=Il (bl.map fun b=>⟨b,#[],0,[]⟩)) hs (i:=j) (y:=.map none) (by omega) ?_ rfl fun C' hs'=>?_
  ·rw[List.getElem?_append_right (by simp[SS])]
   simp only[List.length_map,SS,Nat.sub_self]
   rw[List.getElem?_replicate,if_pos (by omega)]
  refine ae.aH (b:=1) (by simp[aB];omega) ?_
  have e:((bl.map fun b=>[Value.map (some b)])++List.replicate (n-j) [Value.map none]).set j [Value.map (some b)]=((bl++[b]).map fun b=>[Value.map (some b)])++List.replicate (n-(j+1)) [Value.map none]:=by
   rw[List.set_append_right _ _ (by simp[SS])]
   simp only[List.length_map,SS,Nat.sub_self]
   rw[show n-j=(n-(j+1))+1 by omega,List.replicate_succ,List.set_cons_zero,List.map_append]
   simp
  rw[e]at hs'
  refine ay.of ?_ ⟨j+1,bl++[b],C',rfl,by simp[SS],by omega,rfl,hs'⟩ (by show n-(((j+1:Nat):Int).toNat)<n-(((j:Nat):Int).toNat);omega)
  refine aO.perm ?_
  simp only[List.cons_append,List.nil_append,Il,List.map_append,List.map_map]
  refine(List.Perm.swap _ _ _).trans (.cons _ ?_)
  rw[←List.append_assoc]
  exact(List.perm_append_singleton _ _).symm
 ·obtain rfl:j=n:=by omega
  refine aF.here ⟨pt,rfl,_,Cs,_,rfl,?_,Pg.start _ bl SS⟩
  rw[Nat.sub_self]at hs
  simpa[List.map_map,Function.comp_def]using hs
theorem RH{n:Nat}(hn:2≤n∧n≤1048576):Fc Tryz.prog 186 #[.int .i64 (n:Int)] [] (fun v H=>∃pa,v=.tuple #[ptr pa,.int .i64 0]∧ir pa n 2 (fun _=>none) H):=by
 intro g
 refine Ez (R:=aF _) ?_
 unfold L186
 refine ae.lss ?_
 rw[decide_eq_false (by omega)]
 refine bM.or false (fun _=>ae.gtr ⟨rfl,by rw[decide_eq_false (by omega)]⟩) rfl fun _=>Br.no ?_
 refine Build.mk (cs:=[.int .i64 (n:Int),.slice none 0 0,.slice none 0 0,.int .i64 2]) (by kernel_rfl) ?_
 intro pa _
 refine⟨fun vs H=>∃(j:Nat) (vl:Value) (Cl:Hp),vs=[u32 j]∧j≤2∧H=(pa,.cells #[.int .i64 (n:Int),vl,.slice none 0 0,.int .i64 2] 198 (0,0))::Cl∧
  aS 291 5 vl ((List.range j).map fun r=>(nW.mk (-1) r r true 255).row) Cl,fun vs _=>2-bg vs 0,JE.mk ⟨0,_,[],rfl,by omega,rfl,aS.nil _ _⟩,?_⟩
 rintro w H ⟨j,vl,Cl,hw,hj,rfl,hs⟩ gs
 simp only[List.cons.injEq,and_true]at hw
 subst hw
 refine ae.dz (b:=2) (Br.dec (fun hlt=>?_) (fun hlt=>?_))
 ·refine Nil.ptr ?_
  refine aa.mk (Ld.mk (by exact .head _) rfl ?_)
  refine Build.mk (cs:=[.int .i64 (-1),u32 j,u32 j]) (by kernel_rfl) ?_
  refine Build.mk (cs:=(nW.mk (-1) j j true 255).row) (by kernel_rfl) ?_
  refine av.one (z:=.agg #[.int .i64 0,.int .u32 0,.int .u32 0,.bool false,.int .u8 0]) (e:=291) (k:=5) (by kernel_rfl) (by kernel_rfl) (by kernel_rfl) (by decide) rfl fun bx=>?_
  have e1:∀x y:Nat×Obj,x::y::Cl=[x,y]++(Cl++[]):=fun x y=>by simp
  rw[e1]
  refine hs.Dg (A:=[_,_]) (B:=[]) (r:=(nW.mk (-1) j j true 255).row) (by exact .head _) rfl (row_one _) (by exact⟨[.int .i64 0,.int .u32 0,.int .u32 0,.bool false,.int .u8 0],rfl,rfl⟩) (by simp;omega) (by simp;omega) fun v' C' hs'=>?_
  simp only[List.cons_append,List.nil_append,List.append_nil]
  have hone:v'.oneCell'=true:=by obtain⟨a,c,e⟩:=hs'.len;rw[e];rfl
  refine Nil.ptr (aa.mk ?_)
  refine St.one (by exact .tail (.head _)) hone (by simp) rfl ?_
  refine ae.aH (b:=1) (by simp[aB];omega) ?_
  refine ay.of .tail ⟨j+1,v',C',rfl,by omega,rfl,?_⟩ (by show 2-(((j+1:Nat):Int).toNat)<2-(((j:Nat):Int).toNat);omega)
  rw[List.range_succ,List.map_append];exact hs'
 ·obtain rfl:j=2:=by omega
  refine aF.here ⟨pa,rfl,vl,_,[⟨-1,0,0,true,255⟩,⟨-1,1,1,true,255⟩],[],Cl,[],by rw[List.append_nil];rfl,hs,aQ.nil,?_⟩
  exact {
   cap:=by simp;omega
   two:=by simp
   const:=fun r hr=>by
    have:r=0∨r=1:=by omega
    rcases this with rfl|rfl
    ·exact⟨_,rfl,rfl,rfl,rfl,rfl⟩
    ·exact⟨_,rfl,rfl,rfl,rfl,rfl⟩
   nd:=fun r hr=>by rw[List.getElem?_eq_none (by simp;omega)];rfl
   n0:=fun _ _=>rfl
   nn:=fun r p hr hp _=>by rw[List.getElem?_eq_none (by simp;omega)]at hp;cases hp
   Pe:=by simp
   kR:=fun r=>by
    simp only[List.not_mem_nil,false_iff,not_exists,not_and]
    intro p hp
    have hlt:=(List.getElem?_eq_some_iff.1 hp).1
    simp at hlt
    have:r=0∨r=1:=by omega
    rcases this with rfl|rfl<;>(simp at hp;subst hp;simp)
   used:=rfl}
structure ve where
 pa:Nat
 pt:Nat
 vu:Value
 vh:Value
 vo:Value
 vl:Value
 vt:Value
 CA:Hp
 CT:Hp
 CU:Hp
 CH:Hp
 CO:Hp
 CL:Hp
 CR:Hp
def ve.cells(b:ve)(n:Nat):Array Value:=#[ptr b.pa,ptr b.pt,b.vu,b.vh,.int .i64 (n:Int),b.vo,b.vl,b.vt]
def ve.hp(b:ve)(kp n:Nat):Hp:=(kp,.cells (b.cells n) 117 (0,0))::(b.CA++(b.CT++(b.CU++(b.CH++(b.CO++(b.CL++b.CR))))))
structure Vu(b:ve)(K:Kd)(ord ax tr:List Nat):Prop where
 ar:ir b.pa K.cap K.used K.N b.CA
 ut:ni b.pt K.n K.T b.CT
 us:aQ 21 .i32 b.vu (iw K.us) b.CU
 ho:aQ 21 .i32 b.vh (iw K.ho) b.CH
 od:aQ 3 .i64 b.vo (iw ord) b.CO
 lv:aQ 3 .i64 b.vl (iw ax) b.CL
 tr:aQ 3 .i64 b.vt (iw tr) b.CR
 ul:K.us.length=K.ho.length∧K.us.length≤1048576
 uY:K.n≤64
 ol:ord.length=K.n∧ax.length=K.n
def c6(kp:Nat)(K:Kd)(ord ax tr:List Nat)(C:Hp):Prop:=∃b:ve,C=b.hp kp K.n∧Vu b K ord ax tr
section
variable {kp:Nat} {K:Kd} {ord ax tr:List Nat} {C:Hp}
theorem c6.cap(h:c6 kp K ord ax tr C):K.cap≤1048576:=by
 obtain⟨b,rfl,hb⟩:=h
 exact(hb.ar.lt (r:=0) (.inl (by decide))).2
theorem c6.lt(h:c6 kp K ord ax tr C){r:Nat}(hr:live K.N r):r<1048576:=by
 obtain⟨b,rfl,hb⟩:=h
 have:=hb.ar.lt hr
 omega
theorem dH(N:gK)(r:Nat):(got N r).length=3∧∀x∈got N r,x.oneCell'=true:=by
 unfold got
 split
 ·exact⟨rfl,by intro x hx;simp[u32]at hx;rcases hx with rfl|rfl|rfl<;>rfl⟩
 ·split
  ·exact⟨rfl,by intro x hx;simp[aT,u32]at hx;rcases hx with rfl|rfl|rfl<;>rfl⟩
  ·exact⟨rfl,by intro x hx;simp[u32]at hx;rcases hx with rfl|rfl|rfl<;>rfl⟩
theorem mH(h:c6 kp K ord ax tr C){r:Nat}(hr:r<4294967296):Rd Tryz.prog 173 #[ptr kp,u32 r] C (· =.bool (gu K.N r)):=by
 obtain⟨b,rfl,hb⟩:=h
 intro g
 refine EI (R:=aF _) ?_
 unfold L173
 refine Nil.ptr ?_
 refine aa.mk (Ld.mk (v:=ptr b.pa) (by exact .head _) rfl ?_)
 refine ag.rd (.cons .left) (NJ hb.ar hr) ?_
 rintro v rfl
 refine Ext.mk rfl (Ext.mk rfl ?_)
 intro b8 _
 refine St.whole (r:=got K.N r) (by exact .head _) rfl (dH _ _).1 (dH _ _).2 ?_
 refine ae.jG ?_
 refine bO.mk .tail ?_
 cases gu K.N r<;>rfl
theorem mG(h:c6 kp K ord ax tr C){r:Nat}(hr:r<4294967296):Rd Tryz.prog 174 #[ptr kp,u32 r] C (· =.agg (got K.N r).toArray):=by
 obtain⟨b,rfl,hb⟩:=h
 intro g
 refine EH (R:=aF _) ?_
 unfold L174
 intro b1 _
 refine Nil.ptr ?_
 refine aa.mk (Ld.mk (v:=ptr b.pa) (by exact .tail _ (.head _)) rfl ?_)
 refine ag.rd (.cons (.cons .left)) (NJ hb.ar hr) ?_
 rintro v rfl
 refine Ext.mk rfl (Ext.mk rfl ?_)
 intro qZ _
 refine St.whole (r:=got K.N r) (by exact .head _) rfl (dH _ _).1 (dH _ _).2 ?_
 refine az.whole (r:=got K.N r) (by exact .head _) (dH _ _).1 ?_
 refine St.whole (r:=got K.N r) (by exact .tail (.head _)) rfl (dH _ _).1 (dH _ _).2 ?_
 refine az.whole (r:=got K.N r) (by exact .tail _ (.head _)) (dH _ _).1 ?_
 exact bO.mk (.skip .tail) rfl
theorem zL(h:c6 kp K ord ax tr C){m:Nat}(hm:m≤1099511627776)(hu:K.used≤1048576):Rd Tryz.prog 135 #[ptr kp,.int .i64 (m:Int)] C (· =.bool (decide (K.used+m≤K.cap))):=by
 obtain⟨b,rfl,hb⟩:=h
 intro g
 refine Fj (R:=aF _) ?_
 unfold L135
 refine DR.self ?_
 refine Nil.ptr ?_
 refine aa.mk (Ld.mk (v:=ptr b.pa) (by exact .head _) rfl ?_)
 refine Nil.ptr ?_
 refine aa.mk (Ld.mk (v:=ptr b.pa) (by exact .head _) rfl ?_)
 refine ag.rd (.cons .left) (AG hb.ar) ?_
 rintro v rfl
 refine⟨.refl _,?_⟩
 refine ae.aH (by simp[aB];omega) ?_
 refine ag.rd (.cons .left) (Dh hb.ar) ?_
 rintro v rfl
 refine⟨.refl _,?_⟩
 refine ae.zI ?_
 exact bO.mk (.refl _) rfl
def rq(K:Kd)(r:Nat):List Nat:=if r<2 then K.us else K.us.set r (K.use r+1)
theorem iN(r:Nat):(rq K r).length=K.us.length:=by unfold rq;split<;>simp
theorem mj{r:Nat}(h2:2≤r)(hr:r<K.us.length):(rq K r).getD r 0=K.use r+1:=by
 unfold rq;rw[if_neg (by omega)];simp[List.getD,hr]
theorem sS{r s:Nat}(h:s≠r):(rq K r).getD s 0=K.use s:=by
 unfold rq Kd.use
 split
 ·rfl
 ·simp[List.getD,List.getElem?_set_ne (Ne.symm h)]
theorem By(h:c6 kp K ord ax tr C){r:Nat}(hr:r<2∨r<K.us.length)(hb:K.use r+1<2147483648):
  Fc Tryz.prog 139 #[ptr kp,u32 r] C (fun v C'=>v=.tuple #[]∧c6 kp {K with us:=rq K r} ord ax tr C'):=by
 obtain⟨b,rfl,hO⟩:=h
 intro g
 refine Fg (R:=aF _) ?_
 unfold L139
 refine ae.me (b:=1) (Br.dec (fun h1=>?_) (fun h1=>?_))
 ·have hr':r<K.us.length:=by omega
  refine Nil.ptr ?_
  refine aa.mk (Ld.mk (v:=b.vu) (by exact .head _) rfl ?_)
  refine hO.us.ld (x:=((K.use r:Nat):Int)) (bF hr') (cy.sub (.cons (.app (.app .left)))) ?_
  refine ae.aH (b:=1) (by simp[aB];omega) ?_
  refine hO.us.jD (.cons (.app (.app .left))) (by simpa using hr') fun C' ho=>?_
  refine aF.here ⟨rfl,{b with CU:=C'},rfl,?_⟩
  have e:rq K r=K.us.set r (K.use r+1):=by unfold rq;rw[if_neg (by omega)]
  exact {hO with us:=by rw[fZ]at ho;rw[e];exact ho,ul:=by simp only[e,List.length_set];exact hO.ul}
 ·refine aF.here ⟨rfl,b,rfl,?_⟩
  have e:rq K r=K.us:=by unfold rq;rw[if_pos (by omega)]
  rw[e];exact hO
end
section
variable {kp:Nat} {K:Kd} {ord ax tr:List Nat} {C:Hp}
theorem ij{l:List Nat}{r s x:Nat}(hr:r<l.length):(l.set r x).getD s 0=if s=r then x else l.getD s 0:=by
 simp only[List.getD,List.getElem?_set]
 by_cases e:r=s
 ·subst e;simp[hr]
 ·rw[if_neg e,if_neg (Ne.symm e)]
theorem tV(l:List Nat)(s:Nat):(l++[0]).getD s 0=l.getD s 0:=by
 simp only[List.getD,List.getElem?_append]
 split
 ·rfl
 ·rename_i h
  rw[List.getElem?_eq_none (by omega:l.length≤s)]
  cases hs:s-l.length<;>simp[hs]
def Lo:Hp→Nat
 |_::(_,Obj.cells c _ _)::_=>(match c[2]? with|some (Value.slice _ n _)=>n|_=>0)
 |_=>0
theorem y2{b:ve}{x:Nat×Obj}{n m:Nat}{a:Option Addr}{cp:Nat}(h:b.vu=.slice a m cp):Lo (x::b.hp kp n)=m:=by simp[Lo,ve.hp,ve.cells,h]
theorem Gc(h:c6 kp K ord ax tr C){d:Nd}(hd:Zt K.N d)(hv:d.v<K.n)(hT:K.T d=none)(hroom:K.used<K.cap)(hlo:d.lo<2∨d.lo<K.us.length)(hhi:d.hi<2∨d.hi<K.us.length)
 (hb:∀s,K.use s+2<2147483648):
  Fc Tryz.prog 207 #[ptr kp,nK d] C (fun v C'=>∃r dr bX,v=u32 r∧K.N r=none∧2≤r∧r<K.cap∧dr.length=bX.length∧r<dr.length∧K.us.length≤dr.length∧dr.getD r 0=0∧
   (∀s,2≤s→s≠r→dr.getD s 0=K.use s+e1 (some d) s)∧(∀s,s<2→dr.getD s 0=K.use s)∧bX.getD r 0=0∧(∀s,s≠r→bX.getD s 0=K.hold s)∧
   c6 kp {K with N:=up K.N r (some d),T:=o5 K.T d (some r),used:=K.used+1,us:=dr,ho:=bX} ord ax tr C'):=by
 have hcap:=h.cap
 obtain⟨b,rfl,hO⟩:=h
 have xR:=hO.ul
 intro g
 refine En (R:=aF _) ?_
 unfold L207
 intro b1 _
 refine DR.of (R:=(b1,.cells (Value.cells (nK d)) 161 (0,0))::(kp,.cells (b.cells K.n) 117 (0,0))::[]) (.cons (.cons .nil)) ?_
 refine Nil.ptr ?_
 refine aa.mk (Ld.mk (v:=ptr b.pa) (by exact .tail _ (.head _)) rfl ?_)
 refine az.whole (r:=aT d) (by exact .head _) rfl ?_
 refine ag.fn (.cons (.cons .left)) (Ou hO.ar hd hroom) ?_
 rintro v ZO ⟨r,rfl,h2,hrc,hN,Yh⟩
 refine⟨.cons (.cons .nil),Ext.mk rfl (Ext.mk rfl ?_)⟩
 refine⟨fun _ H=>∃(b':ve) (dr bX:List Nat),H=(b1,.cells (Value.cells (nK d)) 161 (0,0))::b'.hp kp K.n∧Vu b' {K with N:=up K.N r (some d),used:=K.used+1,us:=dr,ho:=bX} ord ax tr∧
   K.us.length≤dr.length∧(∀s,dr.getD s 0=K.use s)∧∀s,bX.getD s 0=K.hold s,
  fun _ H=>r+1-Lo H,JE.mk ⟨{b with CA:=ZO},K.us,K.ho,rfl,{hO with ar:=Yh,ul:=xR},Nat.le_refl _,fun _=>rfl,fun _=>rfl⟩,?_⟩
 rintro H ⟨b',dr,bX,rfl,x7,hle,hu,hh⟩ gs
 have Xr:=x7.ul
 simp only at Xr
 refine bL.nat (by simp[aB];omega) (Nil.ptr ?_)
 refine aa.mk (Ld.mk (v:=b'.vu) (by exact .tail _ (.head _)) rfl ?_)
 refine x7.us.aR ?_
 rw[an]
 refine ae.qP (Br.dec (fun hge=>?_) (fun hge=>?_))
 ·have hge:dr.length≤r:=hge
  refine Nil.ptr ?_
  refine aa.mk (Ld.mk (v:=b'.vu) (by exact .tail _ (.head _)) rfl ?_)
  refine av.int (e:=21) (by kernel_rfl) (by kernel_rfl) (by kernel_rfl) fun bx=>?_
  refine x7.us.mW (.cons (.cons (.cons (.app (.app .left))))) (by exact .head _) (by simp;omega) (by simp;omega) fun vu' Pp xS=>?_
  refine Nil.ptr (aa.mk ?_)
  refine St.one (by exact .tail (.tail (.head _))) xS.one (by simp[ve.cells]) rfl ?_
  refine Nil.ptr ?_
  refine aa.mk (Ld.mk (v:=b'.vh) (by exact .tail _ (.tail _ (.head _))) rfl ?_)
  refine av.int (e:=21) (by kernel_rfl) (by kernel_rfl) (by kernel_rfl) fun by'=>?_
  refine x7.ho.mW (.cons (.cons (.cons (.cons (.app (.app (.app .left))))))) (by exact .head _) (by simp;omega) (by simp;omega) fun vh' Kp qk=>?_
  refine Nil.ptr (aa.mk ?_)
  refine St.one (by exact .tail (.tail (.tail (.head _)))) qk.one (by simp[ve.cells]) rfl ?_
  have e0:∀l:List Nat,iw l++[0]=iw (l++[0]):=fun l=>by rw[bT];rfl
  rw[e0]at xS qk
  refine ay.of (.skip (.skip (.refl _))) ⟨{b' with vu:=vu',vh:=vh',CU:=Pp,CH:=Kp},dr++[0],bX++[0],rfl,{x7 with us:=xS,ho:=qk,ul:=by simp at Xr⊢;omega},by simp;omega,fun s=>by rw[tV,hu],fun s=>by rw[tV,hh]⟩ ?_
  obtain⟨a1,c1,e1⟩:=aS.len x7.us
  obtain⟨a2,c2,e2⟩:=aS.len xS
  have f1:=y2 (b:=b') (x:=(b1,.cells (Value.cells (nK d)) 161 (0,0))) (kp:=kp) (n:=K.n) e1
  have f2:=y2 (b:={b' with vu:=vu',vh:=vh',CU:=Pp,CH:=Kp}) (x:=(b1,.cells (Value.cells (nK d)) 161 (0,0))) (kp:=kp) (n:=K.n) e2
  rw[f1]
  refine Nat.lt_of_le_of_lt (Nat.le_of_eq (congrArg (fun z=>r+1-z) f2)) ?_
  simp
  omega
 ·have hge:¬dr.length≤r:=hge
  have hr1:r<dr.length:=by omega
  have nS:r<bX.length:=by omega
  refine DR.of (R:=(kp,.cells (b'.cells K.n) 117 (0,0))::[]) (.skip (.cons .nil)) ?_
  refine Nil.ptr ?_
  refine aa.mk (Ld.mk (v:=b'.vu) (by exact .head _) rfl ?_)
  refine Nil.ptr ?_
  refine aa.mk (Ld.mk (v:=b'.vh) (by exact .head _) rfl ?_)
  refine x7.us.jD (x:=0) (.cons (.cons (.app (.app .left)))) (by simpa using hr1) fun Pp xS=>?_
  refine x7.ho.jD (x:=0) (.cons (.cons (.app (.app (.app .left))))) (by simpa using nS) fun Kp qk=>?_
  have e0:∀l:List Nat,(iw l).set r 0=iw (l.set r 0):=fun l=>fZ l r 0
  rw[e0]at xS qk
  have lor:d.lo≠r:=fM hd.lo h2 hN
  have hir:d.hi≠r:=fM hd.hi h2 hN
  refine aa.mk (Ld.mk (v:=u32 d.lo) (by exact .head _) rfl ?_)
  have u0:∀s,(dr.set r 0).getD s 0=if s=r then 0 else K.use s:=fun s=>by rw[ij hr1];split;rfl;exact hu s
  have h0:∀s,(bX.set r 0).getD s 0=if s=r then 0 else K.hold s:=fun s=>by rw[ij nS];split;rfl;exact hh s
  have u7:c6 kp {K with N:=up K.N r (some d),used:=K.used+1,us:=dr.set r 0,ho:=bX.set r 0} ord ax tr (({b' with CU:=Pp,CH:=Kp}:ve).hp kp K.n):=⟨_,rfl,{x7 with us:=xS,ho:=qk,ul:=by simp;omega}⟩
  refine ag.fn (.cons .here) (By u7 (by simp;omega) (by have:=hb d.lo;show(dr.set r 0).getD d.lo 0+1<_;rw[u0,if_neg lor];omega)) ?_
  rintro v C1 ⟨rfl,tR⟩
  refine aa.mk (Ld.mk (v:=u32 d.hi) (by exact .head _) rfl ?_)
  have u1:∀s,(rq {K with N:=up K.N r (some d),used:=K.used+1,us:=dr.set r 0,ho:=bX.set r 0} d.lo).getD s 0=(if s=r then 0 else K.use s)+(if 2≤s∧s=d.lo then 1 else 0):=fun s=>by
   by_cases e:s=d.lo
   ·by_cases h2:2≤s
    ·rw[if_pos (show 2≤s∧s=d.lo from⟨h2,e⟩),e,mj (by omega) (by simp;omega)]
     show(dr.set r 0).getD d.lo 0+1=_
     rw[u0]
    ·rw[if_neg (show¬(2≤s∧s=d.lo)by omega)]
     unfold rq
     rw[if_pos (by omega)]
     show(dr.set r 0).getD s 0=_
     rw[u0];rfl
   ·rw[if_neg (show¬(2≤s∧s=d.lo)by omega),sS e]
    show(dr.set r 0).getD s 0=_
    rw[u0];rfl
  refine ag.fn (.cons .here) (By tR (by rw[iN];simp;omega) (by
   have:=hb d.hi
   show(rq _ d.lo).getD d.hi 0+1<_
   rw[u1,if_neg hir];split<;>omega)) ?_
  rintro v C2 ⟨rfl,CB⟩
  have ajm:=CB
  obtain⟨b3,rfl,hO3⟩:=CB
  refine DR.self ?_
  refine Nil.ptr ?_
  refine aa.mk (Ld.mk (v:=ptr b3.pt) (by exact .tail _ (.head _)) rfl ?_)
  refine az.whole (r:=aT d) (by exact .head _) rfl ?_
  refine ag.fn (.cons (.cons (.app .left))) (F6 hO3.ut hv hT) ?_
  rintro v Pq ⟨rfl,Uy⟩
  have u2:∀s,(rq {K with N:=up K.N r (some d),used:=K.used+1,us:=rq {K with N:=up K.N r (some d),used:=K.used+1,us:=dr.set r 0,ho:=bX.set r 0} d.lo,ho:=bX.set r 0} d.hi).getD s 0=(if s=r then 0 else K.use s)+(if 2≤s∧s=d.lo then 1 else 0)+(if 2≤s∧s=d.hi then 1 else 0):=fun s=>by
   by_cases e:s=d.hi
   ·by_cases h2:2≤s
    ·rw[if_pos (show 2≤s∧s=d.hi from⟨h2,e⟩),e,mj (by omega) (by rw[iN];simp;omega)]
     show(rq _ d.lo).getD d.hi 0+1=_
     rw[u1]
    ·rw[if_neg (show¬(2≤s∧s=d.hi)by omega)]
     unfold rq
     rw[if_pos (by omega)]
     show(rq _ d.lo).getD s 0=_
     rw[u1];rfl
   ·rw[if_neg (show¬(2≤s∧s=d.hi)by omega),sS e]
    show(rq _ d.lo).getD s 0=_
    rw[u1];rfl
  refine aF.mk .tail ⟨r,_,_,rfl,hN,h2,hrc,?_,?_,?_,?_,?_,?_,?_,?_,{b3 with CT:=Pq},rfl,{hO3 with ut:=Uy}⟩
  ·rw[iN,iN];simp;omega
  ·rw[iN,iN];simp;omega
  ·rw[iN,iN];simp;omega
  ·rw[u2,if_pos rfl,if_neg (show¬(2≤r∧r=d.lo)by omega),if_neg (show¬(2≤r∧r=d.hi)by omega)]
  ·intro s Wk hne
   rw[u2,if_neg hne,eu]
   have c1:(2≤s∧s=d.lo)↔d.lo=s:=⟨fun h=>h.2.symm,fun h=>⟨Wk,h.symm⟩⟩
   have c2:(2≤s∧s=d.hi)↔d.hi=s:=⟨fun h=>h.2.symm,fun h=>⟨Wk,h.symm⟩⟩
   simp only[c1,c2]
   omega
  ·intro s hs
   rw[u2,if_neg (show¬s=r by omega),if_neg (show¬(2≤s∧s=d.lo)by omega),if_neg (show¬(2≤s∧s=d.hi)by omega)]
   try simp
  ·rw[h0,if_pos rfl]
  ·intro s hne;rw[h0,if_neg hne]
end
section
variable {kp:Nat} {K:Kd} {ord ax tr:List Nat} {C:Hp} {S:Nat→aZ.Fn}
theorem Rf(B:Hp)(v:Int)(r:Nat)(kv:Value):Rd Tryz.prog 138 #[kv,.int .i64 v,u32 r,u32 r] B (· =u32 r):=by
 intro g
 refine oY (R:=aF _) ?_
 unfold L138
 exact ae.gz (Br.gf rfl (bO.mk (.refl _) rfl))
theorem Rh(h:c6 kp K ord ax tr C){v lo hi r:Nat}(hne:lo≠hi)(hv:v<K.n)(hT:K.T ⟨v,lo,hi⟩=some r):
  Rd Tryz.prog 138 #[ptr kp,.int .i64 (v:Int),u32 lo,u32 hi] C (· =u32 r):=by
 obtain⟨b,rfl,hO⟩:=h
 intro g
 refine oY (R:=aF _) ?_
 unfold L138
 refine ae.gz (Br.cq hne ?_)
 refine Build.mk (cs:=aT ⟨v,lo,hi⟩) (by kernel_rfl) ?_
 intro b3 _
 refine St.whole (r:=aT ⟨v,lo,hi⟩) (by exact .head _) rfl rfl (fun x hx=>by simp[aT,u32]at hx;rcases hx with rfl|rfl|rfl<;>rfl) ?_
 refine DR.self ?_
 refine Nil.ptr ?_
 refine aa.mk (Ld.mk (v:=ptr b.pt) (by exact .tail _ (.head _)) rfl ?_)
 refine az.whole (r:=aT ⟨v,lo,hi⟩) (by exact .head _) rfl ?_
 refine ag.rd (.cons (.cons (.app .left))) (sB (d:=⟨v,lo,hi⟩) hO.ut hv) ?_
 rintro w rfl
 rw[hT]
 exact⟨.refl _,Ext.mk rfl (Ext.mk rfl (Br.yes (bO.mk .tail rfl)))⟩
theorem Rg(h:c6 kp K ord ax tr C){d:Nd}(hne:d.lo≠d.hi)(hd:Zt K.N d)(hv:d.v<K.n)(hT:K.T d=none)(hroom:K.used<K.cap)(hlo:d.lo<2∨d.lo<K.us.length)(hhi:d.hi<2∨d.hi<K.us.length)
 (hb:∀s,K.use s+2<2147483648):
  Fc Tryz.prog 138 #[ptr kp,.int .i64 (d.v:Int),u32 d.lo,u32 d.hi] C (fun v C'=>∃r dr bX,v=u32 r∧K.N r=none∧2≤r∧r<K.cap∧dr.length=bX.length∧r<dr.length∧K.us.length≤dr.length∧dr.getD r 0=0∧
   (∀s,2≤s→s≠r→dr.getD s 0=K.use s+e1 (some d) s)∧(∀s,s<2→dr.getD s 0=K.use s)∧bX.getD r 0=0∧(∀s,s≠r→bX.getD s 0=K.hold s)∧
   c6 kp {K with N:=up K.N r (some d),T:=o5 K.T d (some r),used:=K.used+1,us:=dr,ho:=bX} ord ax tr C'):=by
 have h0:=h
 obtain⟨b,rfl,hO⟩:=h
 intro g
 refine oY (R:=aF _) ?_
 unfold L138
 refine ae.gz (Br.cq hne ?_)
 refine Build.mk (cs:=aT d) (by kernel_rfl) ?_
 intro b3 _
 refine St.whole (r:=aT d) (by exact .head _) rfl rfl (fun x hx=>by simp[aT,u32]at hx;rcases hx with rfl|rfl|rfl<;>rfl) ?_
 refine DR.self ?_
 refine Nil.ptr ?_
 refine aa.mk (Ld.mk (v:=ptr b.pt) (by exact .tail _ (.head _)) rfl ?_)
 refine az.whole (r:=aT d) (by exact .head _) rfl ?_
 refine ag.rd (.cons (.cons (.app .left))) (sB (d:=d) hO.ut hv) ?_
 rintro w rfl
 rw[hT]
 refine⟨.refl _,Ext.mk rfl (Ext.mk rfl (Br.no ?_))⟩
 refine az.whole (r:=aT d) (by exact .head _) rfl ?_
 refine ag.fn (.cons .here) (Gc h0 hd hv hT hroom hlo hhi hb) ?_
 rintro v C' ⟨r,dr,bX,rfl,hh⟩
 exact aF.mk .tail ⟨r,dr,bX,rfl,hh⟩
structure vD(K' K:Kd):Prop where
 N:∀{s d},K'.N s=some d→K.N s=some d
 n:K'.n=K.n
 cap:K'.cap=K.cap
 ho:K'.ho=K.ho
 us:∀s,K'.use s≤K.use s
 idle:(∀s,K.N s=none→K.use s=0)→∀s,K'.N s=none→K'.use s=0
theorem vD.refl(K:Kd):vD K K:=⟨fun h=>h,rfl,rfl,rfl,fun _=>Nat.le_refl _,fun h=>h⟩
theorem vD.trans{A B C:Kd}(h:vD A B)(h':vD B C):vD A C:=⟨fun x=>h'.N (h.N x),h.n.trans h'.n,h.cap.trans h'.cap,h.ho.trans h'.ho,fun s=>Nat.le_trans (h.us s) (h'.us s),fun hi=>h.idle (h'.idle hi)⟩
def PL(P:Nat→Nat)(N:gK):Prop:=∀t,2≤t→0<P t→∃d,N t=some d
def gY(P0:Nat→Nat)(l:List Nat):Nat→Nat:=fun s=>P0 s+l.count s
theorem Jg{P0:Nat→Nat}{l:List Nat}{t:Nat}:up (gY P0 (l++[t])) t (gY P0 (l++[t]) t-1)=gY P0 l:=by
 funext s
 unfold up gY
 split
 ·rename_i e;subst e;simp
 ·rename_i e;simp[List.count_append,List.count_singleton,Ne.symm e]
theorem oF{P0:Nat→Nat}(h:c6 kp K ord ax tr C){r:Nat}(hm:jt K S iH (gY P0 [r]))(hp:Pos K)(hl:PL (gY P0 [r]) K.N)(hr:r<1048576)(hbu:∀s,K.use s<2147483648):
  Fc Tryz.prog 142 #[ptr kp,u32 r] C (fun v C'=>v=.tuple #[]∧∃K',c6 kp K' ord ax tr C'∧jt K' S iH P0∧Pos K'∧PL P0 K'.N∧vD K' K):=by
 intro g
 refine Fb (R:=aF _) ?_
 unfold L142
 refine av.int (e:=77) (by kernel_rfl) (by kernel_rfl) (by kernel_rfl) fun bx=>?_
 refine Xd (fun k vs H=>∃(w:Value) (Ct C':Hp) (todo:List Nat) (K':Kd),vs=[w]∧H=Ct++C'∧aQ 77 .u32 w (iw todo) Ct∧c6 kp K' ord ax tr C'∧jt K' S iH (gY P0 todo)∧Pos K'∧PL (gY P0 todo) K'.N∧vD K' K∧(∀t∈todo,t<1048576)∧k=3*K'.used+todo.length∧k≤3*K.used+1)
  _ ⟨_,[_],C,[r],K,rfl,rfl,aQ.made [(r:Int)],h,hm,hp,hl,.refl K,by simpa using hr,rfl,by simp⟩ ?_
 rintro w H hJ gs
 obtain⟨k,⟨w',Ct,C',todo,K',hw,rfl,ht,hK,hM,Nv,KA,ob,hT,hk,hkb⟩,hkm⟩:=hJ.open
 simp only[List.cons.injEq,and_true]at hw
 subst hw
 refine ht.aR ?_
 rw[an]
 refine ae.me (b:=0) (Br.dec (fun hpos=>?_) (fun hpos=>?_))
 ·have hc1:=hm.cap
  obtain⟨pre,t,rfl⟩:∃pre t,todo=pre++[t]:=⟨todo.dropLast,todo.getLast (by intro e;simp[e]at hpos),(List.dropLast_concat_getLast _).symm⟩
  have htl:(pre++[t]).length=pre.length+1:=by simp
  have VX:=hT t (by simp)
  refine ht.aR ?_
  rw[an,htl]
  refine ae.bH (b:=1) ?_ (by omega) ?_
  ·simp[aB];omega
  rw[Nat.add_sub_cancel]
  refine ht.ld (i:=pre.length) (x:=(t:Int)) (by rw[bT];simp[iw]) (cy.sub .left) ?_
  refine ht.cut (i:=pre.length) (by simp) fun w' ht'=>?_
  have Sp:aQ 77 .u32 w' (iw pre) Ct:=by
   rw[bT,List.take_left' (by simp)]at ht';exact ht'
  have hTp:∀s∈pre,s<1048576:=fun s hs=>hT s (List.mem_append_left _ hs)
  refine ae.zI (b:=1) (Br.dec (fun h1=>?_) (fun h1=>?_))
  ·have hc:∀s,2≤s→gY P0 (pre++[t]) s=gY P0 pre s:=fun s hs=>by
    unfold gY;rw[List.count_append,List.count_singleton];simp;omega
   exact nj.back (.refl _) hkm (3*K'.used+pre.length) ⟨w',Ct,C',pre,K',rfl,rfl,Sp,hK,hM.congr (fun _=>Iff.rfl) hc,Nv,fun s hs h0=>KA s hs (by rw[hc s hs];exact h0),ob,hTp,rfl,by simp at hk;omega⟩ (by rw[hk];simp)
  ·have hPt:0<gY P0 (pre++[t]) t:=by unfold gY;simp;omega
   obtain⟨d,hd⟩:=KA t (by omega) hPt
   have hfit:=hM.fit hd
   have O4:=Nv t d hd
   obtain⟨b,rfl,hO⟩:=hK
   refine Nil.ptr ?_
   refine aa.mk (Ld.mk (v:=b.vu) (List.mem_append_right _ (by exact .head _)) rfl ?_)
   refine hO.us.ld (x:=((K'.use t:Nat):Int)) (bF hfit) (cy.sub (.app (.cons (.app (.app .left))))) ?_
   refine ae.bH (b:=1) ?_ (by omega) ?_
   ·have:=ob.us t
    have:=hbu t
    simp[aB];omega
   refine hO.us.jD (x:=((K'.use t-1:Nat):Int)) (.app (.cons (.app (.app .left)))) (by simpa using hfit) fun Pp xS=>?_
   rw[fZ]at xS
   have g1:∀s,(K'.us.set t (K'.use t-1)).getD s 0=if s=t then K'.use t-1 else K'.use s:=fun s=>ij hfit
   have IM:=hM.less (r:=t) (dr:=K'.us.set t (K'.use t-1)) hPt (by simp) (by rw[g1,if_pos rfl];omega) (fun s hs=>by rw[g1,if_neg hs])
   rw[Jg]at IM
   have SZ:Vu {b with CU:=Pp} {K' with us:=K'.us.set t (K'.use t-1)} ord ax tr:={hO with us:=xS,ul:=by simp;exact hO.ul}
   have Nx:vD {K' with us:=K'.us.set t (K'.use t-1)} K:=⟨ob.N,ob.n,ob.cap,ob.ho,fun s=>by
    show(K'.us.set t (K'.use t-1)).getD s 0≤_
    rw[g1]
    have:=ob.us s
    split
    ·rename_i e;subst e;omega
    ·exact this,fun hi s hs=>by
    show(K'.us.set t (K'.use t-1)).getD s 0=0
    have hs':K'.N s=none:=hs
    rw[g1,if_neg (fun e=>by subst e;rw[hd]at hs';cases hs')]
    exact ob.idle hi s hs'⟩
   have Yw:PL (gY P0 pre) K'.N:=fun s hs h0=>KA s hs (by unfold gY at h0⊢;rw[List.count_append];omega)
   refine Nil.ptr ?_
   refine aa.mk (Ld.mk (v:=b.vu) (List.mem_append_right _ (by exact .head _)) rfl ?_)
   refine xS.ld (x:=((K'.use t-1:Nat):Int)) (by rw[←fZ];simp[hfit]) (cy.sub (.app (.cons (.app (.app .left))))) ?_
   refine ae.me (b:=0) (Br.dec (fun h3=>?_) (fun h3=>?_))
   ·refine nj.back (.refl _) hkm (3*K'.used+pre.length) ⟨w',Ct,_,pre,_,rfl,rfl,Sp,⟨_,rfl,SZ⟩,IM,fun s e hs=>?_,Yw,Nx,hTp,rfl,by simp at hk;omega⟩ (by rw[hk];simp)
    show 0<(K'.us.set t (K'.use t-1)).getD s 0
    rw[g1]
    split
    ·exact h3
    ·exact Nv s e hs
   ·have hu0:K'.use t=1:=by omega
    have u7:c6 kp {K' with us:=K'.us.set t (K'.use t-1)} ord ax tr (({b with CU:=Pp}:ve).hp kp K'.n):=⟨_,rfl,SZ⟩
    refine ag.rd (.app .here) (mG u7 (by omega)) ?_
    rintro v rfl
    have Pc:2≤t:=by omega
    have ac5:got K'.N t=aT d:=kE hd Pc
    show bq _ _ _
    intro Y6 _
    rw[ac5]
    refine St.whole (r:=aT d) (by exact .head _) rfl rfl (fun x hx=>by simp[aT,u32]at hx;rcases hx with rfl|rfl|rfl<;>rfl) ?_
    refine DR.self ?_
    refine Nil.ptr ?_
    refine aa.mk (Ld.mk (v:=ptr b.pt) (.tail _ (List.mem_append_right _ (by exact .head _))) rfl ?_)
    refine az.whole (r:=aT d) (by exact .head _) rfl ?_
    have hTd:K'.T d=some t:=(hM.jL d t).2 ⟨hd,fun h=>h⟩
    refine ag.fn (.cons (.app (.cons (.app .left)))) (vY SZ.ut (hM.var hd) hTd) ?_
    rintro v Pq ⟨rfl,Uy⟩
    refine Nil.ptr ?_
    refine aa.mk (Ld.mk (v:=ptr b.pa) (.tail _ (List.mem_append_right _ (by exact .head _))) rfl ?_)
    refine ag.fn (.cons (.app (.cons .left))) (OA SZ.ar ⟨d,hd⟩ Pc) ?_
    rintro v ZO ⟨rfl,Yh⟩
    refine aa.mk (Ld.mk (v:=u32 d.lo) (by exact .head _) rfl ?_)
    refine aa.mk (Ld.mk (v:=u32 d.hi) (by exact .head _) rfl ?_)
    refine av.Xk (e:=77) (by kernel_rfl) (by kernel_rfl) (by kernel_rfl) fun bz=>?_
    refine Sp.qc (.cons (.cons .left)) (bW.block (l:=[(d.lo:Int),(d.hi:Int)]) (by exact .head _) (by simp)) (by simp at hk⊢;omega) (by simp at hk⊢;omega) fun w2 Ct2 UB=>?_
    have e0:iw pre++[(d.lo:Int),(d.hi:Int)]=iw (pre++[d.lo,d.hi]):=by rw[bT];rfl
    rw[e0]at UB
    have Z7:({K' with us:=K'.us.set t (K'.use t-1)}:Kd).use t=0:=by show(K'.us.set t (K'.use t-1)).getD t 0=0;rw[g1,if_pos rfl];omega
    have KB:=IM.free (r:=t) (d:=d) hd (fun h=>h) Z7
    have hed:dj K'.N t K'.cap=0:=by have:=IM.use hd;rw[Z7]at this;exact(by have h5:dj K'.N t K'.cap+_+_=0:=this.symm;omega)
    have jW:=jo hed t (hM.two hd).2 d hd
    have adz:gY P0 pre t=0:=by have:=IM.use hd;rw[Z7]at this;omega
    have hroom:0<K'.used:=by have:=hM.room;omega
    have hlt:∀x,live K'.N x→x<1048576:=fun x hx=>u7.lt hx
    have nT:∀s,2≤s→gY P0 pre s+e1 (some d) s=gY P0 (pre++[d.lo,d.hi]) s:=fun s _=>by
     unfold gY
     rw[eu,List.count_append,List.count_cons,List.count_cons,List.count_nil]
     simp only[beq_iff_eq]
     omega
    refine nj.back (.skip (.skip (.refl _))) hkm (3*(K'.used-1)+(pre++[d.lo,d.hi]).length) ⟨w2,Ct2,_,pre++[d.lo,d.hi],{K' with us:=K'.us.set t (K'.use t-1),N:=up K'.N t none,T:=o5 K'.T d none,used:=K'.used-1},rfl,rfl,UB,
     ⟨{b with CU:=Pp,CT:=Pq,CA:=ZO},rfl,{SZ with ar:=Yh,ut:=Uy}⟩,KB.congr (fun _=>Iff.rfl) nT,fun s e hs=>?_,fun s hs h0=>?_,⟨fun{s e} hs=>?_,Nx.n,Nx.cap,Nx.ho,Nx.us,fun hi s hs=>?_⟩,fun s hs=>?_,rfl,by simp at hk⊢;omega⟩ (by simp at hk⊢;omega)
    ·have hne:s≠t:=fun e2=>by subst e2;have rJ:up K'.N s none s=some e:=hs;rw[aN]at rJ;cases rJ
     show 0<(K'.us.set t (K'.use t-1)).getD s 0
     rw[g1,if_neg hne]
     have rJ:up K'.N t none s=some e:=hs
     rw[aP hne]at rJ
     exact Nv s e rJ
    ·have hne:s≠t:=fun e2=>by
      subst e2
      rw[←nT s hs,adz]at h0
      rw[eu,if_neg jW.1,if_neg jW.2]at h0
      omega
     show∃e,up K'.N t none s=some e
     rw[aP hne]
     rw[←nT s hs]at h0
     by_cases h5:0<gY P0 pre s
     ·exact Yw s hs h5
     ·rw[eu]at h0
      have:d.lo=s∨d.hi=s:=by
       by_cases h6:d.lo=s
       ·exact .inl h6
       ·by_cases h7:d.hi=s
        ·exact .inr h7
        ·rw[if_neg h6,if_neg h7]at h0;omega
      rcases this with rfl|rfl
      ·rcases hM.lo hd with h8|h8
       ·omega
       ·exact h8
      ·rcases hM.hi hd with h8|h8
       ·omega
       ·exact h8
    ·have rJ:up K'.N t none s=some e:=hs
     by_cases e2:s=t
     ·subst e2;rw[aN]at rJ;cases rJ
     ·rw[aP e2]at rJ;exact ob.N rJ
    ·have rJ:up K'.N t none s=none:=hs
     show(K'.us.set t (K'.use t-1)).getD s 0=0
     by_cases e2:s=t
     ·subst e2;rw[g1,if_pos rfl];omega
     ·rw[aP e2]at rJ
      exact Nx.idle hi s rJ
    ·rcases List.mem_append.1 hs with hs|hs
     ·exact hTp s hs
     ·simp at hs
      rcases hs with rfl|rfl
      ·exact hlt _ (hM.lo hd)
      ·exact hlt _ (hM.hi hd)
 ·obtain rfl:todo=[]:=List.eq_nil_of_length_eq_zero (by omega)
  exact aF.mk .right ⟨rfl,K',hK,hM.congr (fun _=>Iff.rfl) (fun s _=>by simp[gY]),Nv,fun s hs h0=>KA s hs (by simpa[gY]using h0),ob⟩
end
abbrev lv(ax:List Nat):Nat→Nat:=fun v=>ax.getD v 0
section
variable {kp:Nat} {K:Kd} {ord ax tr:List Nat} {C:Hp} {S:Nat→aZ.Fn}
theorem xM(h:c6 kp K ord ax tr C)(v:Int):Rd Tryz.prog 113 #[ptr kp,.int .i64 v] C (· =.bool (decide (0≤v∧v<K.n))):=by
 obtain⟨b,rfl,hO⟩:=h
 intro g
 refine Fw (R:=aF _) ?_
 unfold L113
 refine ae.geq ?_
 refine bM.and (decide (v<K.n)) (fun _=>?_) rfl fun _=>bO.mk (.refl _) (by rw[Bool.decide_and])
 refine Nil.ptr ?_
 refine aa.mk (Ld.mk (v:=.int .i64 (K.n:Int)) (by exact .head _) rfl ?_)
 exact ae.lss ⟨rfl,rfl⟩
theorem wv(h:c6 kp K ord ax tr C){r:Nat}(hl:live K.N r)(hv:∀d,K.N r=some d→d.v<K.n)(h01:r<2→K.N r=none):Rd Tryz.prog 257 #[ptr kp,u32 r] C (· =.int .i64 ((dep K.n (lv ax) K.N r:Nat):Int)):=by
 have h0:=h
 have hr:=h.lt hl
 obtain⟨b,rfl,hO⟩:=h
 intro g
 refine DK (R:=aF _) ?_
 unfold L257
 refine Nil.ptr (aa.mk ?_)
 refine ag.rd .here (mG h0 (by omega)) ?_
 rintro v rfl
 intro b5 _
 refine St.whole (r:=got K.N r) (by exact .head _) rfl (dH _ _).1 (dH _ _).2 ?_
 by_cases h2:r<2
 ·rw[qN h2,cQ (h01 h2)]
  refine aa.mk (Ld.mk (v:=.int .i64 (-1)) (by exact .head _) rfl ?_)
  refine ae.geq (Br.no' (by decide) ?_)
  refine Nil.ptr ?_
  refine aa.mk (Ld.mk (v:=.int .i64 (K.n:Int)) (by exact .tail _ (.head _)) rfl ?_)
  exact bO.mk .tail rfl
 ·obtain⟨d,hd⟩:∃d,K.N r=some d:=by rcases hl with hl|hl;omega;exact hl
  rw[kE hd (by omega),aM hd]
  have Cr:=hv d hd
  have hlen:=hO.ol.2
  refine aa.mk (Ld.mk (v:=.int .i64 (d.v:Int)) (by exact .head _) rfl ?_)
  refine ae.geq (Br.WE (by simp) ?_)
  refine Nil.ptr ?_
  refine aa.mk (Ld.mk (v:=b.vl) (by exact .tail _ (.head _)) rfl ?_)
  refine aa.mk (Ld.mk (v:=.int .i64 (d.v:Int)) (by exact .head _) rfl ?_)
  refine hO.lv.ld (x:=((ax.getD d.v 0:Nat):Int)) (bF (by omega)) (cy.sub (.cons (.cons (.app (.app (.app (.app (.app .left)))))))) ?_
  exact bO.mk .tail rfl
def rP(K:Kd)(ax:List Nat)(v:Int)(lo hi:Nat):Int:=
 if¬(0≤v∧v<K.n)then 2 else if gu K.N lo=false∨gu K.N hi=false then 3 else if lo≠hi∧min (dep K.n (lv ax) K.N lo) (dep K.n (lv ax) K.N hi)≤ax.getD v.toNat 0 then 4 else 0
theorem Rp(h:c6 kp K ord ax tr C)(v:Int){lo hi:Nat}(hlo:lo<4294967296)(hhi:hi<4294967296)(hv:∀r d,K.N r=some d→d.v<K.n∧2≤r):
  Rd Tryz.prog 225 #[ptr kp,.int .i64 v,u32 lo,u32 hi] C (· =.int .i64 (rP K ax v lo hi)):=by
 have h0:=h
 have h01:∀r,r<2→K.N r=none:=fun r hr=>by
  cases e:K.N r with
  |none=>rfl
  |some d=>have:=(hv r d e).2;omega
 obtain⟨b,rfl,hO⟩:=h
 intro g
 refine D6 (R:=aF _) ?_
 unfold L225
 refine ag.rd .here (xM h0 v) ?_
 rintro x rfl
 refine Un.not ?_
 by_cases Sk:0≤v∧v<K.n
 rotate_left
 ·rw[decide_eq_false Sk]
  exact Br.yes (bO.mk (.refl _) (by unfold rP;rw[if_pos Sk]))
 rw[decide_eq_true Sk]
 refine Br.no ?_
 obtain⟨n,rfl⟩:∃n:Nat,v=n:=⟨v.toNat,by omega⟩
 have hnv:n<K.n:=by omega
 intro J hJ
 refine Nil.ptr (aa.mk ?_)
 refine ag.rd .here (mH h0 hlo) ?_
 rintro x rfl
 refine Un.not ?_
 by_cases A0:gu K.N lo=true
 rotate_left
 ·have XT:gu K.N lo=false:=by simpa using A0
  rw[XT]
  exact Split.Ud rfl (aA.mk (JE.mk (hJ _ _ fun gs=>Br.yes (bO.mk (.refl _) (by unfold rP;rw[if_neg (by simpa using Sk),if_pos (.inl XT)])))))
 rw[A0]
 refine Split.go rfl ?_
 refine Nil.ptr (aa.mk ?_)
 refine ag.rd .here (mH h0 hhi) ?_
 rintro x rfl
 refine Un.not ?_
 by_cases hhl:gu K.N hi=true
 rotate_left
 ·have X1:gu K.N hi=false:=by simpa using hhl
  rw[X1]
  exact aA.mk (JE.mk (hJ _ _ fun gs=>Br.yes (bO.mk (.refl _) (by unfold rP;rw[if_neg (by simpa using Sk),if_pos (.inr X1)]))))
 rw[hhl]
 refine aA.mk (JE.mk (hJ _ _ fun gs=>Br.no ?_))
 intro J2 A1
 have hE:rP K ax n lo hi=if lo≠hi∧min (dep K.n (lv ax) K.N lo) (dep K.n (lv ax) K.N hi)≤ax.getD n 0 then 4 else 0:=by
  unfold rP
  rw[if_neg (by simpa using Sk),if_neg (by rw[A0,hhl];simp)]
  rfl
 refine DR.self ?_
 refine ae.pH ?_
 by_cases hne:lo≠hi
 rotate_left
 ·rw[decide_eq_false hne]
  exact Br.no (JE.mk (A1 _ _ fun gs=>Br.no (bO.mk (.refl _) (by rw[hE,if_neg (fun h=>hne h.1)]))))
 rw[decide_eq_true hne]
 refine Br.yes ?_
 refine Nil.ptr ?_
 refine aa.mk (Ld.mk (v:=b.vl) (by exact .head _) rfl ?_)
 have hlen:=hO.ol.2
 refine hO.lv.ld (x:=((ax.getD n 0:Nat):Int)) (bF (by omega)) (cy.sub (.cons (.app (.app (.app (.app (.app .left))))))) ?_
 intro F
 refine ag.rd .here (wv h0 (cU.1 A0) (fun d hd=>(hv _ _ hd).1) (h01 _)) ?_
 rintro x rfl
 refine⟨.refl _,?_⟩
 intro F2
 refine ag.rd .here (wv h0 (cU.1 hhl) (fun d hd=>(hv _ _ hd).1) (h01 _)) ?_
 rintro x rfl
 refine⟨.refl _,?_⟩
 refine⟨_,_,_,rfl,rfl,?_⟩
 have hmin:(if((dep K.n (lv ax) K.N hi:Nat):Int)<((dep K.n (lv ax) K.N lo:Nat):Int)then((dep K.n (lv ax) K.N hi:Nat):Int)else((dep K.n (lv ax) K.N lo:Nat):Int))=((min (dep K.n (lv ax) K.N lo) (dep K.n (lv ax) K.N hi):Nat):Int):=by
  split<;>omega
 rw[hmin]
 refine ae.qP ?_
 refine aA.mk ?_
 by_cases hm:min (dep K.n (lv ax) K.N lo) (dep K.n (lv ax) K.N hi)≤ax.getD n 0
 ·rw[decide_eq_true hm]
  exact JE.mk (A1 _ _ fun gs=>Br.yes (bO.mk (.refl _) (by rw[hE,if_pos ⟨hne,hm⟩])))
 ·rw[decide_eq_false hm]
  exact JE.mk (A1 _ _ fun gs=>Br.no (bO.mk (.refl _) (by rw[hE,if_neg (fun h=>hm h.2)])))
theorem P1(h:c6 kp K ord ax tr C){v lo hi:Nat}(hv:v<K.n):
  Rd Tryz.prog 226 #[ptr kp,.int .i64 (v:Int),u32 lo,u32 hi] C (· =if lo=hi then .tuple #[u32 lo,.bool true]else .tuple #[u32 ((K.T ⟨v,lo,hi⟩).getD 0),.bool (K.T ⟨v,lo,hi⟩).isSome]):=by
 obtain⟨b,rfl,hO⟩:=h
 intro g
 refine D5 (R:=aF _) ?_
 unfold L226
 refine ae.gz (Br.dec (fun he=>bO.mk (.refl _) (by rw[if_pos he])) (fun he=>?_))
 refine Nil.ptr (aa.mk ?_)
 refine aa.mk (Ld.mk (v:=ptr b.pt) (by exact .head _) rfl ?_)
 refine Build.mk (cs:=aT ⟨v,lo,hi⟩) (by kernel_rfl) ?_
 refine ag.rd (.cons (.app .left)) (sB (d:=⟨v,lo,hi⟩) hO.ut hv) ?_
 rintro x rfl
 exact Ext.mk rfl (Ext.mk rfl (bO.mk (.refl _) (by rw[if_neg he];rfl)))
theorem tE(h:c6 kp K ord ax tr C){r:Nat}(hr:r<4294967296)(hb:∀s,K.hold s<2147483648):Rd Tryz.prog 95 #[ptr kp,u32 r] C (· =.int .i64 ((K.hold r:Nat):Int)):=by
 obtain⟨b,rfl,hO⟩:=h
 intro g
 refine Js (R:=aF _) ?_
 unfold L95
 refine ae.aJ ?_
 refine bM.or (decide (K.ho.length≤r)) (fun _=>?_) (by simp) fun _=>?_
 ·refine bL.nat (by simp[aB];omega) (Nil.ptr (aa.mk ?_))
  refine aa.mk (Ld.mk (v:=b.vh) (by exact .head _) rfl ?_)
  refine hO.ho.aR ?_
  rw[an]
  exact ae.qP ⟨rfl,rfl⟩
 ·rw[Bool.false_or]
  refine Br.dec (fun hge=>?_) (fun hlt=>?_)
  ·refine bO.mk (.refl _) ?_
   unfold Kd.hold;rw[List.getD,List.getElem?_eq_none hge];rfl
  ·refine Nil.ptr (aa.mk ?_)
   refine aa.mk (Ld.mk (v:=b.vh) (by exact .head _) rfl ?_)
   refine hO.ho.ld (x:=((K.hold r:Nat):Int)) (bF (by omega)) (cy.sub (.cons (.app (.app (.app .left))))) ?_
   refine bL.nat (by have:=hb r;simp[aB];omega) ?_
   exact bO.mk (.refl _) rfl
theorem Qs(h:c6 kp K ord ax tr C)(h2:2≤K.used)(hu:K.used≤1048576):Rd Tryz.prog 15 #[ptr kp] C (· =.int .i64 ((K.used-2:Nat):Int)):=by
 obtain⟨b,rfl,hO⟩:=h
 intro g
 refine Kf (R:=aF _) ?_
 unfold L15
 refine ae.aJ (Br.no (Nil.ptr (aa.mk ?_)))
 refine aa.mk (Ld.mk (v:=ptr b.pa) (by exact .head _) rfl ?_)
 refine ag.rd (.cons .left) (AG hO.ar) ?_
 rintro v rfl
 refine ae.bH (b:=2) (by simp[aB];omega) h2 ?_
 exact bO.mk (.refl _) rfl
theorem Ix(h:c6 kp K ord ax tr C):Rd Tryz.prog 34 #[ptr kp] C (· =.int .i64 ((tr.length:Nat):Int)):=by
 obtain⟨b,rfl,hO⟩:=h
 intro g
 refine JY (R:=aF _) ?_
 unfold L34
 refine ae.aJ (Br.no (Nil.ptr ?_))
 refine aa.mk (Ld.mk (v:=b.vt) (by exact .head _) rfl ?_)
 refine hO.tr.aR ?_
 rw[an]
 exact bO.mk (.refl _) rfl
theorem zJ(h:c6 kp K ord ax tr C):Rd Tryz.prog 61 #[ptr kp] C (· =.int .i64 ((K.n:Nat):Int)):=by
 obtain⟨b,rfl,hO⟩:=h
 intro g
 refine JJ (R:=aF _) ?_
 unfold L61
 refine ae.aJ (Br.no (Nil.ptr ?_))
 refine aa.mk (Ld.mk (v:=.int .i64 (K.n:Int)) (by exact .head _) rfl ?_)
 exact bO.mk (.refl _) rfl
theorem tF(h:c6 kp K ord ax tr C){r:Nat}(hr:r<4294967296):Rd Tryz.prog 97 #[ptr kp,u32 r] C (· =.tuple #[.agg (got K.N r).toArray,.int .i64 (if gu K.N r then 0 else 3)]):=by
 have h0:=h
 obtain⟨b,rfl,hO⟩:=h
 intro g
 refine Jq (R:=aF _) ?_
 unfold L97
 intro b1 _
 refine ae.aJ (Br.no (Nil.ptr (aa.mk ?_)))
 refine ag.rd (.cons .here) (mH h0 hr) ?_
 rintro v rfl
 refine Un.not ?_
 cases hb:gu K.N r with
 |false=>
  refine Br.yes ?_
  refine Build.mk (cs:=[.int .i64 0,.int .u32 0,.int .u32 0]) (by kernel_rfl) ?_
  refine St.whole (r:=[.int .i64 0,.int .u32 0,.int .u32 0]) (by exact .head _) rfl rfl (by simp[Value.oneCell']) ?_
  refine az.whole (r:=[.int .i64 0,.int .u32 0,.int .u32 0]) (by exact .head _) rfl ?_
  exact bO.mk .tail (by rw[Ac hb];rfl)
 |true=>
  refine Br.no (Nil.ptr (aa.mk ?_))
  refine ag.rd (.cons .here) (mG h0 hr) ?_
  rintro v rfl
  refine St.whole (r:=got K.N r) (by exact .head _) rfl (dH _ _).1 (dH _ _).2 ?_
  refine az.whole (r:=got K.N r) (by exact .head _) (dH _ _).1 ?_
  exact bO.mk .tail rfl
end
theorem uj{B:Hp}{v:Value}{l:List Int}(h:bW .i64 B v l)(hl:l.length≤1099511627776):Fc Tryz.prog 57 #[v] B (fun r H=>∃C,H=C++B∧aQ 3 .i64 r l C):=by
 intro g
 refine JN (R:=aF _) ?_
 unfold L57
 obtain⟨a,c,rfl,hc⟩:=h.shape
 refine⟨.bool a.isNone,by simp[gA],?_⟩
 refine Br.mk (fun ha=>?_) (fun ha=>?_)
 ·have:l=[]:=by
   rcases h.2 with⟨_,_,h1,h2⟩|⟨b,o,cap,cs,T,fz,h1,_⟩
   ·simpa using h2
   ·simp at h1;rw[h1.1]at ha;simp at ha
  subst this
  exact aF.here ⟨[],rfl,aQ.nil⟩
 ·refine av.none (z:=.int .i64 0) (e:=3) (k:=1) (by kernel_rfl) (by kernel_rfl) (by kernel_rfl) fun b=>?_
  refine(aQ.made (T:=3) (kd:=.i64) (b:=b) []).qc (l2:=l) .left ((show bW .i64 B _ l from h).mono fun _ h=>.tail _ h) (by simp;omega) (by simp;omega) fun v' C' ho=>?_
  exact aF.here ⟨C',rfl,by simpa using ho⟩
theorem Iy{kp:Nat}{K:Kd}{ord ax tr:List Nat}{C:Hp}(h:c6 kp K ord ax tr C):Fc Tryz.prog 13 #[ptr kp] C (fun r H=>∃N,H=N++C∧aQ 3 .i64 r (iw ord) N):=by
 obtain⟨b,rfl,hO⟩:=h
 intro g
 refine Kh (R:=aF _) ?_
 unfold L13
 refine ae.aJ (Br.no (Nil.ptr ?_))
 refine aa.mk (Ld.mk (v:=b.vo) (by exact .head _) rfl ?_)
 refine ag.fn .here (uj (hO.od.ints.mono (cy.sub (.cons (.app (.app (.app (.app .left))))))) (by have:=hO.ol.1;have:=hO.uY;simp;omega)) ?_
 rintro v C' ⟨N,rfl,ho⟩
 exact aF.here ⟨N,rfl,ho⟩
end Go.Proofs
set_option maxRecDepth 100000
namespace Go.Proofs
open Go Go.Sx
def wZ(x r:Nat):Prop:=x<2^r∧(r=0∨2^(r-1)≤x)
theorem wZ.up{x s t:Nat}(h:wZ (x>>>s) t)(h0:s=0∨x>>>s≠0):wZ x (s+t):=by
 rw[Nat.shiftRight_eq_div_pow]at h h0
 have hp:=Nat.two_pow_pos s
 refine⟨?_,?_⟩
 ·have:=h.1
  rw[Nat.div_lt_iff_lt_mul hp]at this
  rw[Nat.pow_add,Nat.mul_comm];exact this
 ·rcases h.2 with h2|h2
  ·subst h2
   have:=h.1
   rcases h0 with h0|h0
   ·exact .inl (by omega)
   ·rw[Nat.pow_zero]at this;exact absurd (Nat.lt_one_iff.1 this) h0
  ·by_cases ht:t=0
   ·subst ht
    rcases h0 with h0|h0
    ·exact .inl (by omega)
    ·have:=h.1;rw[Nat.pow_zero]at this;exact absurd (Nat.lt_one_iff.1 this) h0
   ·right
    have:=(Nat.le_div_iff_mul_le hp).1 h2
    rw[show s+t-1=(t-1)+s by omega,Nat.pow_add];exact this
theorem Qo:∀y:Fin 256,∃b:UInt8,(ByteArray.mk #[0,1,2,2,3,3,3,3,4,4,4,4,4,4,4,4,5,5,5,5,5,5,5,5,5,5,5,5,5,5,5,5,6,6,6,6,6,6,6,6,6,6,6,6,6,6,6,6,6,6,6,6,6,6,6,6,6,6,6,6,6,6,6,6,7,7,7,7,7,7,7,7,7,7,7,7,7,7,7,7,7,7,7,7,7,7,7,7,7,7,7,7,7,7,7,7,7,7,7,7,7,7,7,7,7,7,7,7,7,7,7,7,7,7,7,7,7,7,7,7,7,7,7,7,7,7,7,7,8,8,8,8,8,8,8,8,8,8,8,8,8,8,8,8,8,8,8,8,8,8,8,8,8,8,8,8,8,8,8,8,8,8,8,8,8,8,8,8,8,8,8,8,8,8,8,8,8,8,8,8,8,8,8,8,8,8,8,8,8,8,8,8,8,8,8,8,8,8,8,8,8,8,8,8,8,8,8,8,8,8,8,8,8,8,8,8,8,8,8,8,8,8,8,8,8,8,8,8,8,8,8,8,8,8,8,8,8,8,8,8,8,8,8,8,8,8,8,8,8,8,8,8,8,8,8,8])[y.1]? =some b∧(y.1<2^b.toNat∧(b.toNat=0∨2^(b.toNat-1)≤y.1)):=by
 have h:∀y:Fin 256,(match(ByteArray.mk #[0,1,2,2,3,3,3,3,4,4,4,4,4,4,4,4,5,5,5,5,5,5,5,5,5,5,5,5,5,5,5,5,6,6,6,6,6,6,6,6,6,6,6,6,6,6,6,6,6,6,6,6,6,6,6,6,6,6,6,6,6,6,6,6,7,7,7,7,7,7,7,7,7,7,7,7,7,7,7,7,7,7,7,7,7,7,7,7,7,7,7,7,7,7,7,7,7,7,7,7,7,7,7,7,7,7,7,7,7,7,7,7,7,7,7,7,7,7,7,7,7,7,7,7,7,7,7,7,8,8,8,8,8,8,8,8,8,8,8,8,8,8,8,8,8,8,8,8,8,8,8,8,8,8,8,8,8,8,8,8,8,8,8,8,8,8,8,8,8,8,8,8,8,8,8,8,8,8,8,8,8,8,8,8,8,8,8,8,8,8,8,8,8,8,8,8,8,8,8,8,8,8,8,8,8,8,8,8,8,8,8,8,8,8,8,8,8,8,8,8,8,8,8,8,8,8,8,8,8,8,8,8,8,8,8,8,8,8,8,8,8,8,8,8,8,8,8,8,8,8,8,8,8,8,8,8])[y.1]? with|some b=>decide (y.1<2^b.toNat∧(b.toNat=0∨2^(b.toNat-1)≤y.1))|none=>false)=true:=by decide+kernel
 intro y
 have:=h y
 split at this
 ·rename_i b hb
  exact⟨b,hb,by simpa using this⟩
 ·cases this
theorem Mp{x:Nat}(hx:x<18446744073709551616)(B:Hp):Rd Tryz.prog 75 #[.int .u64 (x:Int)] B (fun v=>∃r:Nat,wZ x r∧v=.int .i64 (r:Int)):=by
 intro g
 refine JB (R:=aF _) ?_
 unfold L75
 intro J1 hJ1
 have h1:∀s,s≤32→x>>>s<4294967296→(s=0∨x>>>s≠0)→J1 [.int .u64 ((x>>>s:Nat):Int),.int .i64 (s:Int)] B:=by
  intro s hs hlt h0
  refine hJ1 _ _ _ fun gs=>?_
  intro J2 A1
  have h2:∀s,s≤48→x>>>s<65536→(s=0∨x>>>s≠0)→J2 [.int .u64 ((x>>>s:Nat):Int),.int .i64 (s:Int)] B:=by
   intro s hs hlt h0
   refine A1 _ _ _ fun gs=>?_
   intro J3 Wj
   have h3:∀s,s≤56→x>>>s<256→(s=0∨x>>>s≠0)→J3 [.int .u64 ((x>>>s:Nat):Int),.int .i64 (s:Int)] B:=by
    intro s hs hlt h0
    refine Wj _ _ _ fun gs=>?_
    refine bL.nat (show x>>>s<256 from hlt) ?_
    obtain⟨b,hb,hl⟩:=Qo ⟨x>>>s,hlt⟩
    refine⟨_,_,_,b,rfl,rfl,Int.natCast_nonneg _,by rw[Int.toNat_natCast];exact hb,?_⟩
    have SS:b.toNat<256:=b.toNat_lt
    refine bL.nat (by simp[aB];omega) ?_
    refine ae.aH (by simp[aB];omega) ?_
    exact bO.mk (.refl _) ⟨s+b.toNat,wZ.up (t:=b.toNat) hl h0,rfl⟩
   refine ae.qP (b:=256) (Br.dec (fun hge=>?_) (fun hge=>JE.mk (h3 s (by omega) (by omega) h0)))
   refine ae.jU (b:=8) (by simp only[aB];omega) ?_
   refine ae.aH (b:=8) (by simp[aB];omega) ?_
   rw[←Nat.shiftRight_add]
   have e:x>>>(s+8)=x>>>s/256:=by rw[Nat.shiftRight_add,Nat.shiftRight_eq_div_pow (x>>>s) 8]
   exact JE.mk (h3 (s+8) (by omega) (by omega) (.inr (by omega)))
  refine ae.qP (b:=65536) (Br.dec (fun hge=>?_) (fun hge=>JE.mk (h2 s (by omega) (by omega) h0)))
  refine ae.jU (b:=16) (by simp only[aB];omega) ?_
  refine ae.aH (b:=16) (by simp[aB];omega) ?_
  rw[←Nat.shiftRight_add]
  have e:x>>>(s+16)=x>>>s/65536:=by rw[Nat.shiftRight_add,Nat.shiftRight_eq_div_pow (x>>>s) 16]
  exact JE.mk (h2 (s+16) (by omega) (by omega) (.inr (by omega)))
 refine ae.qP (b:=4294967296) (Br.dec (fun hge=>?_) (fun hge=>JE.mk (h1 0 (by omega) (by simp;omega) (.inl rfl))))
 refine ae.jU (b:=32) (by simp only[aB];exact hx) ?_
 have e:x>>>32=x/4294967296:=by rw[Nat.shiftRight_eq_div_pow]
 exact JE.mk (h1 32 (by omega) (by omega) (.inr (by omega)))
end Go.Proofs
namespace Go.Sx
open Go
section
variable {P:Program} {H C:Hp} {c:Hp→Hp}
theorem cy.re(h:cy C H c)(X:Hp):cy X (c X) c:=by
 induction h with
 |here=>exact .here
 |left=>exact .left
 |cons _ ih=>exact .cons ih
 |app _ ih=>exact .app ih
def Dt(T:TypeId)(kd:IntKind)(v:Value)(l0:List Int)(C:Hp):Prop:=∃l:List Int,l.Perm l0∧aQ T kd v l C
theorem swap_perm{l:List Int}{i j:Nat}{x y:Int}(hi:l[i]? =some x)(hj:l[j]? =some y):((l.set i y).set j x).Perm l:=by
 have h1:=(List.getElem?_eq_some_iff.1 hi).1
 have h2:=(List.getElem?_eq_some_iff.1 hj).1
 rw[List.perm_iff_count]
 intro a
 by_cases e:i=j
 ·subst e
  rw[hi]at hj;cases hj
  rw[List.set_set]
  have:l.set i x=l:=by
   have hx:l[i]=x:=by rw[List.getElem?_eq_getElem h1]at hi;exact Option.some.inj hi
   rw[←hx];exact List.set_getElem_self h1
  rw[this]
 ·have hx:l[i]=x:=by rw[List.getElem?_eq_getElem h1]at hi;exact Option.some.inj hi
  have hy:l[j]=y:=by rw[List.getElem?_eq_getElem h2]at hj;exact Option.some.inj hj
  rw[List.count_set (by simpa using h2),List.count_set h1]
  have:(l.set i y)[j]'(by simpa using h2)=y:=by rw[List.getElem_set_ne e];exact hy
  rw[this,hx]
  have c1:l.count x≥1:=List.one_le_count_iff.2 (hx▸List.getElem_mem h1)
  have c2:l.count y≥1:=List.one_le_count_iff.2 (hy▸List.getElem_mem h2)
  by_cases e1:x=a
  ·subst e1
   by_cases e2:y=x
   ·subst e2;simp<;>omega
   ·simp[e2,Ne.symm e2]<;>omega
  ·by_cases e2:y=a
   ·subst e2;simp[e1]<;>omega
   ·simp[e1,e2]<;>omega
theorem Dt.ld{T:TypeId}{kd xP:IntKind}{v:Value}{l0:List Int}(h:Dt T kd v l0 C)(hC:∀y∈C,y∈H){i:Nat}(hi:i<l0.length){K:Value→Prop}(hk:∀x,K (.int kd x)):ah 1 v (.int xP (i:Int)) fun p=>Ld H p K:=by
 obtain⟨l,hp,ho⟩:=h
 have:i<l.length:=by rw[hp.length_eq];exact hi
 exact ho.ld (List.getElem?_eq_getElem this) hC (hk _)
theorem Dt.swap{T:TypeId}{kd k1 k2 k3 k4:IntKind}{v:Value}{l0:List Int}(h:Dt T kd v l0 C)(hh:cy C H c){i j:Nat}(hi:i<l0.length)(hj:j<l0.length){K:Hp→Prop}(hk:∀C',Dt T kd v l0 C'→K (c C')):
  ah 1 v (.int k1 (j:Int)) fun p1=>Ld H p1 fun x=>ah 1 v (.int k2 (i:Int)) fun p2=>Ld H p2 fun y=>ah 1 v (.int k3 (i:Int)) fun p3=>St 1 H p3 x fun H1=>ah 1 v (.int k4 (j:Int)) fun p4=>St 1 H1 p4 y K:=by
 obtain⟨l,hp,ho⟩:=h
 have hl:=hp.length_eq
 have hi':l[i]? =some l[i]:=List.getElem?_eq_getElem (by omega)
 have hj':l[j]? =some l[j]:=List.getElem?_eq_getElem (by omega)
 refine ho.ld hj' hh.sub ?_
 refine ho.ld hi' hh.sub ?_
 refine ho.jD hh (by omega) fun C1 h1=>?_
 refine h1.jD (hh.re C1) (by simp;omega) fun C2 h2=>?_
 exact hk C2 ⟨_,(swap_perm hi' hj').trans hp,h2⟩
theorem Dt.WV{T:TypeId}{kd k1 k2 k3 k4:IntKind}{v:Value}{l0:List Int}(h:Dt T kd v l0 C)(hh:cy C H c){i j:Nat}(hi:i<l0.length)(hj:j<l0.length){B:(Value→Prop)→Prop}
 (hB:∀k:Value→Prop,k (.int k2 (i:Int))→B k){K:Hp→Prop}(hk:∀C',Dt T kd v l0 C'→K (c C')):
  ah 1 v (.int k1 (j:Int)) fun p1=>Ld H p1 fun x=>B fun u=>ah 1 v u fun p2=>Ld H p2 fun y=>ah 1 v (.int k3 (i:Int)) fun p3=>St 1 H p3 x fun H1=>ah 1 v (.int k4 (j:Int)) fun p4=>St 1 H1 p4 y K:=by
 obtain⟨l,hp,ho⟩:=h
 have hl:=hp.length_eq
 have hi':l[i]? =some l[i]:=List.getElem?_eq_getElem (by omega)
 have hj':l[j]? =some l[j]:=List.getElem?_eq_getElem (by omega)
 refine ho.ld hj' hh.sub (hB _ ?_)
 refine ho.ld hi' hh.sub ?_
 refine ho.jD hh (by omega) fun C1 h1=>?_
 refine h1.jD (hh.re C1) (by simp;omega) fun C2 h2=>?_
 exact hk C2 ⟨_,(swap_perm hi' hj').trans hp,h2⟩
theorem aQ.dt{T:TypeId}{kd:IntKind}{v:Value}{l:List Int}(h:aQ T kd v l C):Dt T kd v l C:=⟨l,.refl _,h⟩
def up1(vs:List Value):Nat:=match vs with
 | .int _ q::_=>(q+1).toNat
 |_=>0
theorem xp{k:IntKind}{q:Int}{r:List Value}:up1 (.int k q::r)=(q+1).toNat:=rfl
end
end Go.Sx
set_option maxRecDepth 100000
namespace Go.Proofs
open Go Go.Sx
abbrev DT(v:Value)(l0:List Int)(C:Hp):Prop:=Dt 77 .u32 v l0 C
def SQ(v:Value)(l0:List Int):Value→Hp→Prop:=fun r C'=>r=.tuple #[]∧DT v l0 C'
section
variable {v:Value} {l0:List Int} {C:Hp}
theorem Ug(x:Int)(B:Hp):Rd Tryz.prog 304 #[.int .u32 x] B (· =.bool false):=by
 intro g
 refine Dn (R:=aF _) ?_
 unfold L304
 refine ae.dX ?_
 exact bO.mk (.refl _) (by simp)
theorem eT(x y:Int)(B:Hp):Rd Tryz.prog 295 #[.int .u32 x,.int .u32 y] B (· =.bool (decide (x<y))):=by
 intro g
 refine Dx (R:=aF _) ?_
 unfold L295
 intro J1 hJ1
 refine ag.rd .here (Ug x B) ?_
 rintro w rfl
 refine Split.Ud rfl ?_
 refine aA.mk ?_
 refine ae.lss ?_
 refine aA.mk ?_
 exact JE.mk (hJ1 _ _ fun gs=>bO.mk (.refl _) rfl)
theorem zR(h:DT v l0 C){a b:Nat}(hab:a≤b)(hb:b≤l0.length)(bE:l0.length<1152921504606846976):Fc Tryz.prog 289 #[v,.int .i64 (a:Int),.int .i64 (b:Int)] C (SQ v l0):=by
 intro g
 refine DD (R:=aF _) ?_
 unfold L289
 refine ae.aH (b:=1) (by simp[aB];omega) ?_
 refine⟨fun vs H=>∃i:Nat,vs=[.int .i64 (i:Int)]∧a<i∧DT v l0 H,fun vs _=>l0.length-bg vs 0,JE.mk ⟨a+1,rfl,by omega,h⟩,?_⟩
 rintro w H ⟨i,hw,hi,hd⟩ gs
 simp only[List.cons.injEq,and_true]at hw
 subst hw
 refine ae.dz (Br.dec (fun hlt=>?_) (fun _=>aF.here ⟨rfl,hd⟩))
 refine⟨fun vs H=>∃j:Nat,vs=[.int .i64 (j:Int)]∧a≤j∧j≤i∧DT v l0 H,fun vs _=>bg vs 0,JE.mk ⟨i,rfl,by omega,Nat.le_refl _,hd⟩,?_⟩
 rintro w H ⟨j,hw,SV,UQ,hd⟩ gs
 simp only[List.cons.injEq,and_true]at hw
 subst hw
 intro J hJ
 have no:J [.bool false] H:=hJ _ _ fun gs=>Br.no (ae.aH (b:=1) (by simp[aB];omega) (ay.mk ⟨i+1,rfl,by omega,hd⟩ (by simp[bg];omega)))
 have yes:a<j→J [.bool true] H:=fun SV=>hJ _ _ fun gs=>Br.yes (DR.self (ae.bH (b:=1) (by simp[aB];omega) (by omega) (ae.bH (b:=1) (by simp[aB];omega) (by omega)
  (hd.swap .here (by omega) (by omega) fun C' ej=>ae.bH (b:=1) (by simp[aB];omega) (by omega) (ay.mk ⟨j-1,rfl,by omega,by omega,ej⟩ (by simp[bg];omega))))))
 refine DR.self (ae.me (Br.dec (fun hgt=>?_) fun _=>JE.mk no))
 refine hd.ld (fun _ h=>h) (by omega) fun x=>?_
 refine ae.bH (b:=1) (by simp[aB];omega) (by omega) ?_
 refine hd.ld (fun _ h=>h) (by omega) fun y=>?_
 intro F
 refine ag.rd .here (eT x y _) ?_
 rintro w rfl
 refine aA.mk ?_
 by_cases e:x<y
 ·rw[decide_eq_true e];exact JE.mk (yes hgt)
 ·rw[decide_eq_false e];exact JE.mk no
theorem T7(h:DT v l0 C){a b:Nat}(hab:a<b)(hb:b≤l0.length)(bE:l0.length<1152921504606846976):Fc Tryz.prog 293 #[v,.int .i64 (a:Int),.int .i64 (b:Int)] C (SQ v l0):=by
 intro g
 refine Dz (R:=aF _) ?_
 unfold L293
 refine ae.bH (b:=1) (by simp[aB];omega) (by omega) ?_
 refine⟨fun vs H=>∃i j:Nat,vs=[.int .i64 (i:Int),.int .i64 (j:Int)]∧j<l0.length∧DT v l0 H,fun vs _=>bg vs 1-bg vs 0,JE.mk ⟨a,b-1,rfl,by omega,h⟩,?_⟩
 rintro w w' H ⟨i,j,hw,hj,hd⟩ gs
 simp only[List.cons.injEq,and_true]at hw
 obtain⟨rfl,rfl⟩:=hw
 refine ae.dz (Br.dec (fun hlt=>?_) (fun _=>aF.here ⟨rfl,hd⟩))
 refine DR.self (hd.swap .here (by omega) (by omega) fun C' ej=>?_)
 refine ae.aH (b:=1) (by simp[aB];omega) ?_
 refine ae.bH (b:=1) (by simp[aB];omega) (by omega) ?_
 exact ay.mk ⟨i+1,j-1,rfl,by omega,ej⟩ (by simp[bg];omega)
theorem P7(h:DT v l0 C){a b:Nat}(hab:a<b)(hb:b≤l0.length)(bE:l0.length<1152921504606846976):Fc Tryz.prog 294 #[v,.int .i64 (a:Int),.int .i64 (b:Int)] C (fun r C'=>(∃t,r=.bool t)∧DT v l0 C'):=by
 intro g
 refine Dy (R:=aF _) ?_
 unfold L294
 refine ae.aH (b:=1) (by simp[aB];omega) ?_
 refine⟨fun vs H=>∃i k:Nat,vs=[.int .i64 (i:Int),.int .i64 (k:Int)]∧a<i∧i≤b∧DT v l0 H,fun vs _=>5-bg vs 1,JE.mk ⟨a+1,0,rfl,by omega,by omega,h⟩,?_⟩
 rintro w w' H ⟨i,k,hw,Pa,tM,hd⟩ gs
 simp only[List.cons.injEq,and_true]at hw
 obtain⟨rfl,rfl⟩:=hw
 refine ae.dz (b:=5) (Br.dec (fun hk=>?_) (fun _=>aF.here ⟨⟨_,rfl⟩,hd⟩))
 intro J9 Ny
 have next:∀(i':Nat) H',a<i'→i'≤b→DT v l0 H'→J9 [.int .i64 (i':Int)] H':=fun i' H' h1 h2 ej=>Ny _ _ fun gs=>ae.aH (b:=1) (by simp[aB];omega) (ay.mk ⟨i',k+1,rfl,h1,h2,ej⟩ (by simp[bg];omega))
 refine⟨fun vs H=>∃i:Nat,vs=[.int .i64 (i:Int)]∧a<i∧i≤b∧DT v l0 H,fun vs _=>b-bg vs 0,JE.mk ⟨i,rfl,Pa,tM,hd⟩,?_⟩
 clear hd Pa tM
 rintro w H ⟨i,hw,Pa,tM,hd⟩ gs
 simp only[List.cons.injEq,and_true]at hw
 subst hw
 intro Pm YI
 have yes:i<b→Pm [.bool true] H:=fun hlt=>YI _ _ fun gs=>Br.yes (ae.aH (b:=1) (by simp[aB];omega) (ay.mk ⟨i+1,rfl,by omega,by omega,hd⟩ (by simp[bg];omega)))
 have no:Pm [.bool false] H:=by
  refine YI _ _ fun gs=>Br.no ?_
  refine ae.gz (Br.dec (fun he=>aF.here ⟨⟨_,rfl⟩,hd⟩) (fun hne=>?_))
  refine ae.bH (by simp[aB];omega) (by omega) ?_
  refine ae.dz (b:=50) (Br.dec (fun he=>aF.here ⟨⟨_,rfl⟩,hd⟩) (fun _=>?_))
  refine DR.self ?_
  refine ae.bH (b:=1) (by simp[aB];omega) (by omega) ?_
  refine ae.bH (b:=1) (by simp[aB];omega) (by omega) ?_
  refine hd.swap .here (by omega) (by omega) fun C1 Nh=>?_
  intro Wx adE
  have tail:∀H',DT v l0 H'→Wx [] H':=fun H' ej=>by
   refine adE _ fun gs=>?_
   refine ae.bH (by simp[aB];omega) (by omega) ?_
   refine ae.qP (b:=2) (Br.dec (fun h2=>?_) (fun _=>JE.mk (next i _ Pa tM ej)))
   refine ae.aH (b:=1) (by simp[aB];omega) ?_
   refine⟨fun vs H=>∃j:Nat,vs=[.int .i64 (j:Int)]∧0<j∧DT v l0 H,fun vs _=>b-bg vs 0,JE.mk ⟨i+1,rfl,by omega,ej⟩,?_⟩
   rintro w H ⟨j,hw,UR,Cu⟩ gs
   simp only[List.cons.injEq,and_true]at hw
   subst hw
   refine ae.dz (Br.dec (fun hlt=>?_) (fun _=>JE.mk (next i _ Pa tM Cu)))
   refine DR.self ?_
   refine Cu.ld (fun _ h=>h) (by omega) fun x=>?_
   refine ae.bH (b:=1) (by simp[aB];omega) (by omega) ?_
   refine Cu.ld (fun _ h=>h) (by omega) fun y=>?_
   refine ag.rd .here (eT x y _) ?_
   rintro w rfl
   refine Un.not ?_
   refine Br.mk (fun _=>JE.mk (next i _ Pa tM Cu)) (fun _=>?_)
   refine DR.self ?_
   refine ae.bH (b:=1) (by simp[aB];omega) (by omega) ?_
   refine ae.bH (b:=1) (by simp[aB];omega) (by omega) ?_
   refine Cu.swap .here (by omega) (by omega) fun C2 wz=>?_
   refine ae.aH (b:=1) (by simp[aB];omega) ?_
   exact ay.mk ⟨j+1,rfl,by omega,wz⟩ (by simp[bg];omega)
  refine ae.bH (by simp[aB];omega) (by omega) ?_
  refine ae.qP (b:=2) (Br.dec (fun h2=>?_) (fun _=>JE.mk (tail _ Nh)))
  refine ae.bH (b:=1) (by simp[aB];omega) (by omega) ?_
  refine⟨fun vs H=>∃j:Nat,vs=[.int .i64 (j:Int)]∧j<l0.length∧DT v l0 H,fun vs _=>bg vs 0,JE.mk ⟨i-1,rfl,by omega,Nh⟩,?_⟩
  rintro w H ⟨j,hw,UR,Cu⟩ gs
  simp only[List.cons.injEq,and_true]at hw
  subst hw
  refine ae.qP (b:=1) (Br.dec (fun hlt=>?_) (fun _=>JE.mk (tail _ Cu)))
  refine DR.self ?_
  refine Cu.ld (fun _ h=>h) (by omega) fun x=>?_
  refine ae.bH (b:=1) (by simp[aB];omega) (by omega) ?_
  refine Cu.ld (fun _ h=>h) (by omega) fun y=>?_
  refine ag.rd .here (eT x y _) ?_
  rintro w rfl
  refine Un.not ?_
  refine Br.mk (fun _=>JE.mk (tail _ Cu)) (fun _=>?_)
  refine DR.self ?_
  refine ae.bH (b:=1) (by simp[aB];omega) (by omega) ?_
  refine ae.bH (b:=1) (by simp[aB];omega) (by omega) ?_
  refine Cu.swap .here (by omega) (by omega) fun C2 wz=>?_
  refine ae.bH (b:=1) (by simp[aB];omega) (by omega) ?_
  exact ay.mk ⟨j-1,rfl,by omega,wz⟩ (by simp[bg];omega)
 refine DR.self (ae.dz (Br.dec (fun hlt=>?_) fun _=>JE.mk no))
 refine hd.ld (fun _ h=>h) (by omega) fun x=>?_
 refine ae.bH (b:=1) (by simp[aB];omega) (by omega) ?_
 refine hd.ld (fun _ h=>h) (by omega) fun y=>?_
 intro F
 refine ag.rd .here (eT x y _) ?_
 rintro w rfl
 refine Un.not ?_
 refine aA.mk ?_
 by_cases e:x<y
 ·rw[decide_eq_true e];exact JE.mk no
 ·rw[decide_eq_false e];exact JE.mk (yes hlt)
theorem HZ(h:DT v l0 C){a b p:Nat}(hp:a≤p∧p<b)(hb:b≤l0.length)(bE:l0.length<1152921504606846976):Fc Tryz.prog 296 #[v,.int .i64 (a:Int),.int .i64 (b:Int),.int .i64 (p:Int)] C
  (fun r C'=>(∃m:Nat,r=.int .i64 (m:Int)∧a<m∧m≤b)∧DT v l0 C'):=by
 intro g
 refine Dw (R:=aF _) ?_
 unfold L296
 refine DR.self (h.swap .here (by omega) (by omega) fun C1 hd=>?_)
 refine ae.aH (b:=1) (by simp[aB];omega) ?_
 refine ae.bH (b:=1) (by simp[aB];omega) (by omega) ?_
 refine⟨fun vs H=>∃i j:Nat,vs=[.int .i64 (i:Int),.int .i64 (j:Int)]∧a<i∧i≤b∧a≤j∧j<b∧DT v l0 H,fun vs _=>b-bg vs 0,JE.mk ⟨a+1,b-1,rfl,by omega,by omega,by omega,by omega,hd⟩,?_⟩
 clear hd
 rintro w w' H0 ⟨i0,j0,hw,Pa,tM,SV,V6,hd⟩ gs
 simp only[List.cons.injEq,and_true]at hw
 obtain⟨rfl,rfl⟩:=hw
 refine⟨fun vs H=>∃i:Nat,vs=[.int .i64 (i:Int)]∧i0≤i∧i≤b∧DT v l0 H,fun vs _=>b-bg vs 0,JE.mk ⟨i0,rfl,Nat.le_refl _,tM,hd⟩,?_⟩
 clear hd tM
 rintro w H ⟨i,hw,M7,tM,hd⟩ gs
 simp only[List.cons.injEq,and_true]at hw
 subst hw
 intro Wy YG
 have yes:i≤j0→Wy [.bool true] H:=fun hle=>YG _ _ fun gs=>Br.yes (ae.aH (b:=1) (by simp[aB];omega) (ay.mk ⟨i+1,rfl,by omega,by omega,hd⟩ (by simp[bg];omega)))
 have no:Wy [.bool false] H:=by
  refine YG _ _ fun gs=>Br.no ?_
  refine⟨fun vs H=>∃j:Nat,vs=[.int .i64 (j:Int)]∧a≤j∧j<b∧DT v l0 H,fun vs _=>bg vs 0,JE.mk ⟨j0,rfl,SV,V6,hd⟩,?_⟩
  rintro w H' ⟨j,hw,Yj,XZ,ej⟩ gs
  simp only[List.cons.injEq,and_true]at hw
  subst hw
  intro KH Q7
  have Hh:i≤j→KH [.bool true] H':=fun hle=>Q7 _ _ fun gs=>Br.yes (ae.bH (b:=1) (by simp[aB];omega) (by omega) (ay.mk ⟨j-1,rfl,by omega,by omega,ej⟩ (by simp[bg];omega)))
  have Sc:KH [.bool false] H':=by
   refine Q7 _ _ fun gs=>Br.no ?_
   refine ae.me (Br.dec (fun _=>aF.here ⟨⟨i,rfl,by omega,tM⟩,ej⟩) (fun hle=>?_))
   refine DR.self (ej.swap .here (by omega) (by omega) fun C2 wz=>?_)
   refine ae.aH (b:=1) (by simp[aB];omega) ?_
   refine ae.bH (b:=1) (by simp[aB];omega) (by omega) ?_
   exact ay.mk ⟨i+1,j-1,rfl,by omega,by omega,by omega,by omega,wz⟩ (by simp[bg];omega)
  refine DR.self (ae.zI (Br.dec (fun hle=>?_) fun _=>JE.mk Sc))
  refine ej.ld (fun _ h=>h) (by omega) fun x=>?_
  refine ej.ld (fun _ h=>h) (by omega) fun y=>?_
  intro F
  refine ag.rd .here (eT x y _) ?_
  rintro w rfl
  refine aA.mk ?_
  by_cases e:x<y
  ·rw[decide_eq_true e];exact JE.mk (Hh hle)
  ·rw[decide_eq_false e];exact JE.mk Sc
 refine DR.self (ae.zI (Br.dec (fun hle=>?_) fun _=>JE.mk no))
 refine hd.ld (fun _ h=>h) (by omega) fun x=>?_
 refine hd.ld (fun _ h=>h) (by omega) fun y=>?_
 intro F
 refine ag.rd .here (eT x y _) ?_
 rintro w rfl
 refine Un.not ?_
 refine aA.mk ?_
 by_cases e:x<y
 ·rw[decide_eq_true e];exact JE.mk no
 ·rw[decide_eq_false e];exact JE.mk (yes hle)
end
end Go.Proofs
set_option maxRecDepth 100000
namespace Go.Proofs
open Go Go.Sx
section
variable {v:Value} {l0:List Int} {C:Hp}
def PQ(v:Value)(l0:List Int)(a b:Nat):Value→Hp→Prop:=fun r C'=>(∃(m:Nat) (t:Bool),r=.tuple #[.int .i64 (m:Int),.bool t]∧a≤m∧m<b)∧DT v l0 C'
theorem Qa(h:DT v l0 C){a b p:Nat}(hp:a≤p∧p<b)(hb:b≤l0.length)(bE:l0.length<1152921504606846976):Fc Tryz.prog 297 #[v,.int .i64 (a:Int),.int .i64 (b:Int),.int .i64 (p:Int)] C (PQ v l0 a b):=by
 intro g
 refine Dv (R:=aF _) ?_
 unfold L297
 refine DR.self (h.swap .here (by omega) (by omega) fun C1 hd=>?_)
 refine ae.aH (b:=1) (by simp[aB];omega) ?_
 refine ae.bH (b:=1) (by simp[aB];omega) (by omega) ?_
 refine⟨fun vs H=>∃i:Nat,vs=[.int .i64 (i:Int)]∧a<i∧i≤b∧DT v l0 H,fun vs _=>b-bg vs 0,JE.mk ⟨a+1,rfl,by omega,by omega,hd⟩,?_⟩
 clear hd
 rintro w H ⟨i,hw,Pa,tM,hd⟩ gs
 simp only[List.cons.injEq,and_true]at hw
 subst hw
 intro uT CC
 have yes:i<b→uT [.bool true] H:=fun hle=>CC _ _ fun gs=>Br.yes (ae.aH (b:=1) (by simp[aB];omega) (ay.mk ⟨i+1,rfl,by omega,by omega,hd⟩ (by simp[bg];omega)))
 have no:uT [.bool false] H:=by
  refine CC _ _ fun gs=>Br.no ?_
  refine⟨fun vs H=>∃j:Nat,vs=[.int .i64 (j:Int)]∧a≤j∧j<b∧DT v l0 H,fun vs _=>bg vs 0,JE.mk ⟨b-1,rfl,by omega,by omega,hd⟩,?_⟩
  clear hd
  rintro w H ⟨j,hw,SV,V6,hd⟩ gs
  simp only[List.cons.injEq,and_true]at hw
  subst hw
  intro OG U9
  have Hh:i≤j→OG [.bool true] H:=fun hle=>U9 _ _ fun gs=>Br.yes (ae.bH (b:=1) (by simp[aB];omega) (by omega) (ay.mk ⟨j-1,rfl,by omega,by omega,hd⟩ (by simp[bg];omega)))
  have Sc:OG [.bool false] H:=by
   refine U9 _ _ fun gs=>Br.no ?_
   refine ae.me (Br.dec (fun _=>?_) (fun hle=>?_))
   ·refine DR.self (hd.swap .here (by omega) (by omega) fun C2 wz=>?_)
    exact aF.here ⟨⟨j,true,rfl,SV,V6⟩,wz⟩
   ·refine DR.self (hd.swap .here (by omega) (by omega) fun C2 wz=>?_)
    refine ae.aH (b:=1) (by simp[aB];omega) ?_
    refine ae.bH (b:=1) (by simp[aB];omega) (by omega) ?_
    refine⟨fun vs H=>∃i j:Nat,vs=[.int .i64 (i:Int),.int .i64 (j:Int)]∧a<i∧i≤b∧a≤j∧j<b∧DT v l0 H,fun vs _=>b-bg vs 0,JE.mk ⟨i+1,j-1,rfl,by omega,by omega,by omega,by omega,wz⟩,?_⟩
    clear wz hd Pa tM SV V6 hle Hh U9 OG CC uT yes
    rintro w w' H0 ⟨i0,j0,hw,Pa,tM,SV,V6,hd⟩ gs
    simp only[List.cons.injEq,and_true]at hw
    obtain⟨rfl,rfl⟩:=hw
    refine⟨fun vs H=>∃i:Nat,vs=[.int .i64 (i:Int)]∧i0≤i∧i≤b∧DT v l0 H,fun vs _=>b-bg vs 0,JE.mk ⟨i0,rfl,Nat.le_refl _,tM,hd⟩,?_⟩
    clear hd tM
    rintro w H ⟨i,hw,M7,tM,hd⟩ gs
    simp only[List.cons.injEq,and_true]at hw
    subst hw
    intro Ww YE
    have yes:i≤j0→Ww [.bool true] H:=fun hle=>YE _ _ fun gs=>Br.yes (ae.aH (b:=1) (by simp[aB];omega) (ay.mk ⟨i+1,rfl,by omega,by omega,hd⟩ (by simp[bg];omega)))
    have no:Ww [.bool false] H:=by
     refine YE _ _ fun gs=>Br.no ?_
     refine⟨fun vs H=>∃j:Nat,vs=[.int .i64 (j:Int)]∧a≤j∧j<b∧DT v l0 H,fun vs _=>bg vs 0,JE.mk ⟨j0,rfl,SV,V6,hd⟩,?_⟩
     rintro w H' ⟨j,hw,Yj,XZ,ej⟩ gs
     simp only[List.cons.injEq,and_true]at hw
     subst hw
     intro Wv YD
     have Hh:i≤j→Wv [.bool true] H':=fun hle=>YD _ _ fun gs=>Br.yes (ae.bH (b:=1) (by simp[aB];omega) (by omega) (ay.mk ⟨j-1,rfl,by omega,by omega,ej⟩ (by simp[bg];omega)))
     have Sc:Wv [.bool false] H':=by
      refine YD _ _ fun gs=>Br.no ?_
      refine ae.me (Br.dec (fun _=>?_) (fun hle=>?_))
      ·refine DR.self (ej.swap .here (by omega) (by omega) fun C2 wz=>?_)
       exact aF.here ⟨⟨j,false,rfl,Yj,XZ⟩,wz⟩
      ·refine DR.self (ej.swap .here (by omega) (by omega) fun C2 wz=>?_)
       refine ae.aH (b:=1) (by simp[aB];omega) ?_
       refine ae.bH (b:=1) (by simp[aB];omega) (by omega) ?_
       exact ay.mk ⟨i+1,j-1,rfl,by omega,by omega,by omega,by omega,wz⟩ (by simp[bg];omega)
     refine DR.self (ae.zI (Br.dec (fun hle=>?_) fun _=>JE.mk Sc))
     refine ej.ld (fun _ h=>h) (by omega) fun x=>?_
     refine ej.ld (fun _ h=>h) (by omega) fun y=>?_
     intro F
     refine ag.rd .here (eT x y _) ?_
     rintro w rfl
     refine Un.not ?_
     refine aA.mk ?_
     by_cases e:x<y
     ·rw[decide_eq_true e];exact JE.mk Sc
     ·rw[decide_eq_false e];exact JE.mk (Hh hle)
    refine DR.self (ae.zI (Br.dec (fun hle=>?_) fun _=>JE.mk no))
    refine hd.ld (fun _ h=>h) (by omega) fun x=>?_
    refine hd.ld (fun _ h=>h) (by omega) fun y=>?_
    intro F
    refine ag.rd .here (eT x y _) ?_
    rintro w rfl
    refine aA.mk ?_
    by_cases e:x<y
    ·rw[decide_eq_true e];exact JE.mk (yes hle)
    ·rw[decide_eq_false e];exact JE.mk no
  refine DR.self (ae.zI (Br.dec (fun hle=>?_) fun _=>JE.mk Sc))
  refine hd.ld (fun _ h=>h) (by omega) fun x=>?_
  refine hd.ld (fun _ h=>h) (by omega) fun y=>?_
  intro F
  refine ag.rd .here (eT x y _) ?_
  rintro w rfl
  refine Un.not ?_
  refine aA.mk ?_
  by_cases e:x<y
  ·rw[decide_eq_true e];exact JE.mk Sc
  ·rw[decide_eq_false e];exact JE.mk (Hh hle)
 refine DR.self (ae.zI (Br.dec (fun hle=>?_) fun _=>JE.mk no))
 refine hd.ld (fun _ h=>h) (by omega) fun x=>?_
 refine hd.ld (fun _ h=>h) (by omega) fun y=>?_
 intro F
 refine ag.rd .here (eT x y _) ?_
 rintro w rfl
 refine aA.mk ?_
 by_cases e:x<y
 ·rw[decide_eq_true e];exact JE.mk (yes (by omega))
 ·rw[decide_eq_false e];exact JE.mk no
theorem Gi(h:DT v l0 C){lo hi f:Nat}(hlo:lo≤l0.length)(hb:f+hi≤l0.length)(bE:l0.length<1152921504606846976):Fc Tryz.prog 299 #[v,.int .i64 (lo:Int),.int .i64 (hi:Int),.int .i64 (f:Int)] C (SQ v l0):=by
 intro g
 refine Du (R:=aF _) ?_
 unfold L299
 refine⟨fun vs H=>∃i:Nat,vs=[.int .i64 (i:Int)]∧i≤l0.length∧DT v l0 H,fun vs _=>l0.length-bg vs 0,JE.mk ⟨lo,rfl,hlo,h⟩,?_⟩
 rintro w H ⟨r,hw,hr,hd⟩ gs
 simp only[List.cons.injEq,and_true]at hw
 subst hw
 refine ae.lg (a:=2) (by simp[aB];omega) ?_
 refine ae.aH (b:=1) (by simp[aB];omega) ?_
 refine ae.qP (Br.dec (fun _=>aF.here ⟨rfl,hd⟩) (fun hlt=>?_))
 intro J9 Ny
 have go:∀c:Nat,r<c→c<hi→J9 [.int .i64 (c:Int)] H:=fun c hrc ai1=>by
  refine Ny _ _ fun gs=>?_
  refine DR.self ?_
  refine ae.aH (by simp[aB];omega) ?_
  refine hd.ld (fun _ h=>h) (by omega) fun x=>?_
  refine ae.aH (by simp[aB];omega) ?_
  refine hd.ld (fun _ h=>h) (by omega) fun y=>?_
  refine ag.rd .here (eT x y _) ?_
  rintro w rfl
  refine Un.not ?_
  refine Br.mk (fun _=>aF.here ⟨rfl,hd⟩) (fun _=>?_)
  refine DR.self ?_
  refine ae.aH (by simp[aB];omega) ?_
  refine ae.aH (by simp[aB];omega) ?_
  refine ae.aH (by simp[aB];omega) ?_
  refine hd.WV .here (i:=f+r) (j:=f+c) (B:=fun k=>ae .num .add (.int .i64 (f:Int)) (.int .i64 (r:Int)) k) (by omega) (by omega) (fun k hk=>ae.aH (by simp[aB];omega) hk) fun C1 Nh=>?_
  exact ay.mk ⟨c,rfl,by omega,Nh⟩ (by simp[bg];omega)
 intro yP YF
 have stay:yP [.bool false] H:=YF _ _ fun gs=>Br.no (JE.mk (go _ (by omega) (by omega)))
 refine DR.self ?_
 refine ae.aH (b:=1) (by simp[aB];omega) ?_
 refine ae.dz (Br.dec (fun hc=>?_) fun _=>JE.mk stay)
 refine ae.aH (by simp[aB];omega) ?_
 refine hd.ld (fun _ h=>h) (by omega) fun x=>?_
 refine ae.aH (by simp[aB];omega) ?_
 refine ae.aH (b:=1) (by simp[aB];omega) ?_
 refine hd.ld (fun _ h=>h) (by omega) fun y=>?_
 intro F
 refine ag.rd .here (eT x y _) ?_
 rintro w rfl
 refine aA.mk ?_
 by_cases e:x<y
 ·rw[decide_eq_true e]
  exact JE.mk (YF _ _ fun gs=>Br.yes (ae.aH (b:=1) (by simp[aB];omega) (JE.mk (go _ (by omega) hc))))
 ·rw[decide_eq_false e];exact JE.mk stay
theorem ML(h:DT v l0 C){a b:Nat}(hab:a<b)(hb:b≤l0.length)(bE:l0.length<1152921504606846976):Fc Tryz.prog 290 #[v,.int .i64 (a:Int),.int .i64 (b:Int)] C (SQ v l0):=by
 intro g
 refine DC (R:=aF _) ?_
 unfold L290
 refine ae.bH (by simp[aB];omega) (by omega) ?_
 refine ae.bH (b:=1) (by simp[aB];omega) (by omega) ?_
 refine ae.vy (b:=2) (by simp[aB];omega) (by omega) ?_
 refine⟨fun vs H=>∃q:Int,vs=[.int .i64 q]∧ -1≤q∧q<(b:Int) -a∧DT v l0 H,fun vs _=>up1 vs,JE.mk ⟨(((b-a-1) /2:Nat):Int),rfl,by omega,by omega,h⟩,?_⟩
 rintro w H ⟨q,hw,UE,hq2,hd⟩ gs
 simp only[List.cons.injEq,and_true]at hw
 subst hw
 refine ae.geq (Br.dec (fun h0=>?_) (fun _=>?_))
 ·obtain⟨i,rfl⟩:∃i:Nat,q=i:=⟨q.toNat,by omega⟩
  refine ag.fn .here (Gi hd (by omega) (by omega) bE) ?_
  rintro w C1 ⟨rfl,Nh⟩
  refine ae.mq (c:=(i:Int) -1) rfl (by omega) ?_
  exact ay.mk ⟨(i:Int) -1,rfl,by omega,by omega,Nh⟩ (by rw[xp,xp];omega)
 ·refine ae.bH (b:=1) (by simp[aB];omega) (by omega) ?_
  refine⟨fun vs H=>∃q:Int,vs=[.int .i64 q]∧ -1≤q∧q<(b:Int) -a∧DT v l0 H,fun vs _=>up1 vs,JE.mk ⟨((b-a-1:Nat):Int),rfl,by omega,by omega,hd⟩,?_⟩
  clear hd
  rintro w H ⟨q,hw,UE,hq2,hd⟩ gs
  simp only[List.cons.injEq,and_true]at hw
  subst hw
  refine ae.geq (Br.dec (fun h0=>?_) (fun _=>aF.here ⟨rfl,hd⟩))
  obtain⟨i,rfl⟩:∃i:Nat,q=i:=⟨q.toNat,by omega⟩
  refine DR.self ?_
  refine ae.aH (by simp[aB];omega) ?_
  refine ae.aH (by simp[aB];omega) ?_
  refine hd.swap .here (by omega) (by omega) fun C1 Nh=>?_
  refine ag.fn .here (Gi Nh (lo:=0) (by omega) (by omega) bE) ?_
  rintro w C2 ⟨rfl,wz⟩
  refine ae.mq (c:=(i:Int) -1) rfl (by omega) ?_
  exact ay.mk ⟨(i:Int) -1,rfl,by omega,by omega,wz⟩ (by rw[xp,xp];omega)
end
section
variable {v:Value} {l0:List Int} {C:Hp}
theorem xlt{a b:Nat}(ha:a<18446744073709551616)(hb:b<18446744073709551616):a^^^b<18446744073709551616:=Nat.xor_lt_two_pow (n:=64) ha hb
theorem KL(b x:Nat)(hx:x<18446744073709551616):Fc Tryz.prog 301 #[ptr b] [(b,.cells #[.int .u64 (x:Int)] 373 (0,0))]
  (fun r H=>∃y:Nat,y<18446744073709551616∧r=.int .u64 (y:Int)∧H=[(b,.cells #[.int .u64 (y:Int)] 373 (0,0))]):=by
 intro g
 refine Dr (R:=aF _) ?_
 unfold L301
 refine DR.self ?_
 refine Nil.ptr (Ld.mk (by exact .head _) rfl ?_)
 refine Nil.ptr (Ld.mk (by exact .head _) rfl ?_)
 refine ae.pB (b:=13) ?_
 refine ae.To hx (Nat.mod_lt _ (by decide)) ?_
 have h1:=xlt hx (Nat.mod_lt (x<<<13) (show 0<18446744073709551616 by decide))
 generalize x^^^x<<<13%18446744073709551616=x1 at h1
 refine Nil.ptr (St.one (by exact .head _) rfl (by simp) rfl ?_)
 refine DR.self ?_
 refine Nil.ptr (Ld.mk (by exact .head _) rfl ?_)
 refine Nil.ptr (Ld.mk (by exact .head _) rfl ?_)
 refine ae.jU (b:=7) h1 ?_
 have h2:x1>>>7<18446744073709551616:=by rw[Nat.shiftRight_eq_div_pow];omega
 refine ae.To h1 h2 ?_
 have h3:=xlt h1 h2
 generalize x1^^^x1>>>7=x2 at h3
 refine Nil.ptr (St.one (by exact .head _) rfl (by simp) rfl ?_)
 refine DR.self ?_
 refine Nil.ptr (Ld.mk (by exact .head _) rfl ?_)
 refine Nil.ptr (Ld.mk (by exact .head _) rfl ?_)
 refine ae.pB (b:=17) ?_
 refine ae.To h3 (Nat.mod_lt _ (by decide)) ?_
 have h4:=xlt h3 (Nat.mod_lt (x2<<<17) (show 0<18446744073709551616 by decide))
 generalize x2^^^x2<<<17%18446744073709551616=x3 at h4
 refine Nil.ptr (St.one (by exact .head _) rfl (by simp) rfl ?_)
 refine Nil.ptr (Ld.mk (by exact .head _) rfl ?_)
 exact aF.here ⟨x3,h4,rfl,rfl⟩
theorem GW{x:Nat}(hx:x<18446744073709551616)(B:Hp):Rd Tryz.prog 286 #[.int .u64 (x:Int)] B (fun v=>∃r:Nat,wZ x r∧v=.int .i64 (r:Int)):=by
 intro g
 refine DE (R:=aF _) ?_
 unfold L286
 refine Br.no ?_
 refine ag.rd .here (Mp hx B) ?_
 rintro w hw
 exact bO.mk (.refl _) hw
theorem Qc{x:Nat}(h0:0<x)(hx:x<1152921504606846976)(B:Hp):Rd Tryz.prog 300 #[.int .i64 (x:Int)] B (fun v=>∃r:Nat,0<r∧r≤2*x∧v=.int .u64 (r:Int)):=by
 intro g
 refine Ds (R:=aF _) ?_
 unfold L300
 refine bL.nat (by simp[aB];omega) ?_
 refine ag.rd .here (GW (by omega) B) ?_
 rintro w ⟨r,hr,rfl⟩
 have hr1:0<r:=by
  rcases Nat.eq_zero_or_pos r with e|e
  ·subst e;have:=hr.1;omega
  ·exact e
 have h2:2^(r-1)≤x:=by
  rcases hr.2 with e|e
  ·omega
  ·exact e
 have h3:2^r=2*2^(r-1):=by
  obtain⟨k,rfl⟩:∃k,r=k+1:=⟨r-1,by omega⟩
  rw[Nat.add_sub_cancel,Nat.pow_succ];omega
 refine ae.pB (a:=1) ?_
 have e:1<<<r%18446744073709551616=2^r:=by
  rw[Nat.shiftLeft_eq,Nat.one_mul]
  exact Nat.mod_eq_of_lt (by omega)
 rw[e]
 exact bO.mk (.refl _) ⟨2^r,Nat.two_pow_pos r,by omega,rfl⟩
theorem Vj(h:DT v l0 C){a b:Nat}(hab:a<b)(hb:b≤l0.length)(bE:l0.length<1152921504606846976):Fc Tryz.prog 291 #[v,.int .i64 (a:Int),.int .i64 (b:Int)] C (SQ v l0):=by
 intro g
 refine DB (R:=aF _) ?_
 unfold L291
 refine ae.bH (by simp[aB];omega) (by omega) ?_
 refine ae.qP (b:=8) (Br.dec (fun h8=>?_) (fun _=>aF.here ⟨rfl,h⟩))
 refine bL.nat (by simp[aB];omega) ?_
 intro b4 _
 refine St.one (by exact .head _) rfl (by simp) rfl ?_
 refine ag.rd (.cons .here) (Qc (by omega) (by omega) C) ?_
 rintro w ⟨m,hm0,hm,rfl⟩
 refine ae.vy (b:=4) (by simp[aB];omega) (by omega) ?_
 refine ae.lg (b:=2) (by simp[aB];omega) ?_
 refine ae.aH (by simp[aB];omega) ?_
 refine ae.bH (b:=1) (by simp[aB];omega) (by omega) ?_
 refine⟨fun vs H=>∃(i x:Nat) (C':Hp),vs=[.int .i64 (i:Int)]∧x<18446744073709551616∧H=(b4,.cells #[.int .u64 (x:Int)] 373 (0,0))::C'∧DT v l0 C',fun vs _=>b-bg vs 0,
  JE.mk ⟨_,b-a,C,rfl,by omega,rfl,h⟩,?_⟩
 rintro w H ⟨i,x,C',hw,hx,rfl,hd⟩ gs
 simp only[List.cons.injEq,and_true]at hw
 subst hw
 refine ae.vy (b:=4) (by simp[aB];omega) (by omega) ?_
 refine ae.lg (b:=2) (by simp[aB];omega) ?_
 refine ae.aH (by simp[aB];omega) ?_
 refine ae.aH (b:=1) (by simp[aB];omega) ?_
 refine ae.zI (Br.dec (fun hle=>?_) (fun _=>aF.mk .tail ⟨rfl,hd⟩))
 refine ag.fn (.left (A:=C')) (KL b4 x hx) ?_
 rintro w H' ⟨y,hy,rfl,rfl⟩
 refine ae.bH (b:=1) (by simp[aB];omega) (by omega) ?_
 refine ae.jr (by simp[aB];omega) (by simp[aB];omega) ?_
 have hand:y&&& (m-1)<m:=by have:=Nat.and_le_right (n:=y) (m:=m-1);omega
 generalize y&&& (m-1)=z at hand
 refine bL.nat (by simp[aB];omega) ?_
 intro yQ adI
 have go:∀o:Nat,o<b-a→yQ [.int .i64 (o:Int)] ([(b4,Obj.cells #[.int .u64 (y:Int)] 373 (0,0))]++C'):=fun o ho=>by
  refine adI _ _ fun gs=>?_
  refine DR.self ?_
  refine ae.aH (by simp[aB];omega) ?_
  refine ae.aH (by simp[aB];omega) ?_
  refine hd.swap (.cons .here) (by omega) (by omega) fun C1 Nh=>?_
  refine ae.aH (b:=1) (by simp[aB];omega) ?_
  exact ay.mk ⟨i+1,y,C1,rfl,hy,rfl,Nh⟩ (by simp[bg];omega)
 refine ae.qP (Br.dec (fun hge=>?_) (fun hlt=>JE.mk (go z (by omega))))
 refine ae.bH (by simp[aB];omega) (by omega) ?_
 exact JE.mk (go _ (by omega))
def OQ(b:Nat)(C:Hp)(i j:Nat):Value→Hp→Prop:=fun r H=>(r=.tuple #[.int .i64 (i:Int),.int .i64 (j:Int)]∨r=.tuple #[.int .i64 (j:Int),.int .i64 (i:Int)])∧∃z:Int,H=(b,.cells #[.int .i64 z] 3 (0,0))::C
theorem xF(h:DT v l0 C){b:Nat}{z:Int}{i j:Nat}(hi:i<l0.length)(hj:j<l0.length):
  Fc Tryz.prog 305 #[v,.int .i64 (i:Int),.int .i64 (j:Int),ptr b] ((b,.cells #[.int .i64 z] 3 (0,0))::C) (OQ b C i j):=by
 intro g
 refine Dm (R:=aF _) ?_
 unfold L305
 refine DR.self ?_
 refine h.ld (fun _ h=>.tail _ h) hj fun x=>?_
 refine h.ld (fun _ h=>.tail _ h) hi fun y=>?_
 refine ag.rd .here (eT x y _) ?_
 rintro w rfl
 refine Br.mk (fun _=>?_) (fun _=>aF.here ⟨.inl rfl,z,rfl⟩)
 refine Nil.ptr (Ld.mk (by exact .head _) rfl ?_)
 refine ae.add ?_
 refine Nil.ptr (St.one (by exact .head _) rfl (by simp) rfl ?_)
 exact aF.here ⟨.inr rfl,_,rfl⟩
def MQ(b:Nat)(C:Hp)(p:Nat→Prop):Value→Hp→Prop:=fun r H=>(∃m:Nat,r=.int .i64 (m:Int)∧p m)∧∃z:Int,H=(b,.cells #[.int .i64 z] 3 (0,0))::C
theorem Mi(h:DT v l0 C){b:Nat}{z:Int}{i j k:Nat}(hi:i<l0.length)(hj:j<l0.length)(hk:k<l0.length):
  Fc Tryz.prog 303 #[v,.int .i64 (i:Int),.int .i64 (j:Int),.int .i64 (k:Int),ptr b] ((b,.cells #[.int .i64 z] 3 (0,0))::C) (MQ b C fun m=>m=i∨m=j∨m=k):=by
 intro g
 refine Dp (R:=aF _) ?_
 unfold L303
 refine ag.fn .here (xF h hi hj) ?_
 rintro w H ⟨hw,z1,rfl⟩
 obtain⟨i1,j1,rfl,hij⟩:∃i1 j1:Nat,w=.tuple #[.int .i64 (i1:Int),.int .i64 (j1:Int)]∧((i1=i∧j1=j)∨(i1=j∧j1=i)):=by
  rcases hw with rfl|rfl
  ·exact⟨i,j,rfl,.inl ⟨rfl,rfl⟩⟩
  ·exact⟨j,i,rfl,.inr ⟨rfl,rfl⟩⟩
 refine Ext.mk rfl (Ext.mk rfl ?_)
 refine ag.fn .here (xF h (i:=j1) (j:=k) (by omega) hk) ?_
 rintro w H ⟨hw,z2,rfl⟩
 obtain⟨j2,k2,rfl,SF⟩:∃j2 k2:Nat,w=.tuple #[.int .i64 (j2:Int),.int .i64 (k2:Int)]∧((j2=j1∧k2=k)∨(j2=k∧k2=j1)):=by
  rcases hw with rfl|rfl
  ·exact⟨_,_,rfl,.inl ⟨rfl,rfl⟩⟩
  ·exact⟨_,_,rfl,.inr ⟨rfl,rfl⟩⟩
 refine Ext.mk rfl (Ext.mk rfl ?_)
 refine ag.fn .here (xF h (i:=i1) (j:=j2) (by omega) (by omega)) ?_
 rintro w H ⟨hw,z3,rfl⟩
 rcases hw with rfl|rfl
 ·exact Ext.mk rfl (Ext.mk rfl (aF.here ⟨⟨_,rfl,by omega⟩,_,rfl⟩))
 ·exact Ext.mk rfl (Ext.mk rfl (aF.here ⟨⟨_,rfl,by omega⟩,_,rfl⟩))
theorem xI(h:DT v l0 C){b:Nat}{z:Int}{i:Nat}(h0:0<i)(hi:i+1<l0.length)(bE:l0.length<1152921504606846976):
  Fc Tryz.prog 302 #[v,.int .i64 (i:Int),ptr b] ((b,.cells #[.int .i64 z] 3 (0,0))::C) (MQ b C fun m=>i≤m+1∧m≤i+1):=by
 intro g
 refine Dq (R:=aF _) ?_
 unfold L302
 refine ae.bH (b:=1) (by simp[aB];omega) (by omega) ?_
 refine ae.aH (b:=1) (by simp[aB];omega) ?_
 refine ag.fn .here (Mi h (by omega) (by omega) hi) ?_
 rintro w H ⟨⟨m,rfl,hm⟩,z',rfl⟩
 exact aF.here ⟨⟨m,rfl,by omega⟩,z',rfl⟩
theorem Ub(h:DT v l0 C){a b:Nat}(hab:a<b)(hb:b≤l0.length)(bE:l0.length<1152921504606846976):
  Rd Tryz.prog 292 #[v,.int .i64 (a:Int),.int .i64 (b:Int)] C (fun r=>∃(p:Nat) (q:Int),r=.tuple #[.int .i64 (p:Int),.int .i64 q]∧a≤p∧p<b):=by
 intro g
 refine DA (R:=aF _) ?_
 unfold L292
 refine ae.bH (by simp[aB];omega) (by omega) ?_
 intro b2 _
 refine ae.vy (b:=4) (by simp[aB];omega) (by omega) ?_
 refine ae.lg (b:=1) (by simp[aB];omega) ?_
 refine ae.aH (by simp[aB];omega) ?_
 refine ae.vy (b:=4) (by simp[aB];omega) (by omega) ?_
 refine ae.lg (b:=2) (by simp[aB];omega) ?_
 refine ae.aH (by simp[aB];omega) ?_
 refine ae.vy (b:=4) (by simp[aB];omega) (by omega) ?_
 refine ae.lg (b:=3) (by simp[aB];omega) ?_
 refine ae.aH (by simp[aB];omega) ?_
 intro uU adL
 have fin:∀(p:Nat) (z:Int),a≤p→p<b→uU [.int .i64 (p:Int)] ((b2,.cells #[.int .i64 z] 3 (0,0))::C):=fun p z vw lA=>by
  refine adL _ _ fun gs=>?_
  refine Ld.mk (by exact .head _) rfl ?_
  refine ae.jG (Br.dec (fun _=>bO.mk .tail ⟨p,_,rfl,vw,lA⟩) (fun _=>?_))
  exact ae.jG (Br.dec (fun _=>bO.mk .tail ⟨p,_,rfl,vw,lA⟩) (fun _=>bO.mk .tail ⟨p,_,rfl,vw,lA⟩))
 refine ae.qP (b:=8) (Br.dec (fun h8=>?_) (fun _=>JE.mk (fin _ _ (by omega) (by omega))))
 intro ZD adK
 have three:∀(x y u:Nat) (z:Int),a≤x∧x<b→a≤y∧y<b→a≤u∧u<b→ZD [.int .i64 (x:Int),.int .i64 (y:Int),.int .i64 (u:Int)] ((b2,.cells #[.int .i64 z] 3 (0,0))::C):=fun x y u z hx hy hu=>by
  refine adK _ _ _ _ fun gs=>?_
  refine ag.fn .here (Mi h (by omega) (by omega) (by omega)) ?_
  rintro w H ⟨⟨m,rfl,hm⟩,z',rfl⟩
  exact JE.mk (fin _ _ (by omega) (by omega))
 refine ae.qP (b:=50) (Br.dec (fun h50=>?_) (fun _=>JE.mk (three _ _ _ _ (by omega) (by omega) (by omega))))
 refine ag.fn .here (xI h (by omega) (by omega) bE) ?_
 rintro w H ⟨⟨m1,rfl,GC⟩,z1,rfl⟩
 refine ag.fn .here (xI h (by omega) (by omega) bE) ?_
 rintro w H ⟨⟨m2,rfl,wy⟩,z2,rfl⟩
 refine ag.fn .here (xI h (by omega) (by omega) bE) ?_
 rintro w H ⟨⟨m3,rfl,hm3⟩,z3,rfl⟩
 exact JE.mk (three _ _ _ _ (by omega) (by omega) (by omega))
theorem Uc:∀(N:Nat) {C:Hp} (h:DT v l0 C) {a b:Nat} (hN:b-a≤N) (hab:a≤b) (hb:b≤l0.length) (bE:l0.length<1152921504606846976) (z:Int),Fc Tryz.prog 285 #[v,.int .i64 (a:Int),.int .i64 (b:Int),.int .i64 z] C (SQ v l0):=by
 intro N
 induction N with
 |zero=>
  intro C h a b hN hab hb bE z g
  refine uG (R:=aF _) ?_
  unfold L285
  refine⟨fun vs H=>vs=[.int .i64 (a:Int),.int .i64 (b:Int),.int .i64 z,.bool true,.bool true]∧H=C,fun _ _=>0,JE.mk ⟨rfl,rfl⟩,?_⟩
  rintro w1 w2 w3 w4 w5 H ⟨hw,rfl⟩ gs
  simp only[List.cons.injEq,and_true]at hw
  obtain⟨rfl,rfl,rfl,rfl,rfl⟩:=hw
  refine ae.bH (by simp[aB];omega) (by omega) ?_
  refine ae.zI (b:=12) (Br.gf (by omega) ?_)
  refine ag.fn .here (zR h hab hb bE) ?_
  rintro w C' ⟨rfl,hd⟩
  exact aF.here ⟨rfl,hd⟩
 |succ N ih=>
  intro C h a b hN hab hb bE z g
  refine uG (R:=aF _) ?_
  unfold L285
  refine⟨fun vs H=>∃(a b:Nat) (z:Int) (t1 t2:Bool),vs=[.int .i64 (a:Int),.int .i64 (b:Int),.int .i64 z,.bool t1,.bool t2]∧b-a≤N+1∧a≤b∧b≤l0.length∧DT v l0 H,fun vs _=>bg vs 1-bg vs 0,JE.mk ⟨a,b,z,true,true,rfl,hN,hab,hb,h⟩,?_⟩
  clear h hN hab hb
  rintro w1 w2 w3 w4 w5 H ⟨a,b,z,t1,t2,hw,hN,hab,hb,h⟩ gs
  simp only[List.cons.injEq,and_true]at hw
  obtain⟨rfl,rfl,rfl,rfl,rfl⟩:=hw
  refine ae.bH (by simp[aB];omega) (by omega) ?_
  refine ae.zI (b:=12) (Br.dec (fun Vc=>?_) (fun Vc=>?_))
  ·refine ag.fn .here (zR h hab hb bE) ?_
   rintro w C' ⟨rfl,hd⟩
   exact aF.here ⟨rfl,hd⟩
  refine ae.jG (Br.dec (fun _=>?_) (fun _=>?_))
  ·refine ag.fn .here (ML h (by omega) hb bE) ?_
   rintro w C' ⟨rfl,hd⟩
   exact aF.here ⟨rfl,hd⟩
  intro uT CC
  have k17:∀(z1:Int) H1,DT v l0 H1→uT [.int .i64 z1] H1:=fun z1 H1 h1=>by
   refine CC _ _ fun gs=>?_
   refine ag.rd .here (Ub h1 (a:=a) (b:=b) (by omega) hb bE) ?_
   rintro w ⟨p,q,rfl,vw,lA⟩
   refine Ext.mk rfl (Ext.mk rfl ?_)
   intro Pk adJ
   have k25:∀(p:Nat) (q:Int) H2,a≤p→p<b→DT v l0 H2→Pk [.int .i64 (p:Int),.int .i64 q] H2:=fun p q H2 vw lA h2=>by
    refine adJ _ _ _ fun gs=>?_
    intro ZC adH
    have k30:∀H3,DT v l0 H3→ZC [] H3:=fun H3 h3=>by
     refine adH _ fun gs=>?_
     intro KH Q7
     have k33:∀(t:Bool),KH [.bool t] H3:=fun t=>by
      refine Q7 _ _ fun gs=>?_
      refine Br.mk (fun _=>?_) (fun _=>?_)
      ·refine ag.fn .here (HZ h3 ⟨vw,lA⟩ hb bE) ?_
       rintro w C' ⟨⟨m,rfl,GC,wy⟩,hd⟩
       exact ay.mk ⟨m,b,z1,t1,t2,rfl,by omega,by omega,hb,hd⟩ (by simp[bg];omega)
      ·refine ag.fn .here (Qa h3 ⟨vw,lA⟩ hb bE) ?_
       rintro w C' ⟨⟨m,t,rfl,GC,wy⟩,hd⟩
       refine Ext.mk rfl (Ext.mk rfl ?_)
       refine ae.bH (by simp[aB];omega) (by omega) ?_
       refine ae.bH (by simp[aB];omega) (by omega) ?_
       refine ae.vy (b:=8) (by simp[aB];omega) (by omega) ?_
       refine ae.dz (Br.dec (fun _=>?_) (fun _=>?_))
       ·refine ae.qP ?_
        refine ag.fn .here (ih hd (a:=a) (b:=m) (by omega) (by omega) (by omega) bE z1) ?_
        rintro w C' ⟨rfl,ej⟩
        refine ae.aH (b:=1) (by simp[aB];omega) ?_
        exact ay.mk ⟨m+1,b,z1,_,t,rfl,by omega,by omega,hb,ej⟩ (by simp[bg];omega)
       ·refine ae.qP ?_
        refine ae.aH (b:=1) (by simp[aB];omega) ?_
        refine ag.fn .here (ih hd (a:=m+1) (b:=b) (by omega) (by omega) (by omega) bE z1) ?_
        rintro w C' ⟨rfl,ej⟩
        exact ay.mk ⟨a,m,z1,_,t,rfl,by omega,by omega,by omega,ej⟩ (by simp[bg];omega)
     refine DR.self ?_
     refine ae.me (b:=0) (Br.dec (fun h0=>?_) (fun _=>JE.mk (k33 false)))
     refine ae.bH (b:=1) (by simp[aB];omega) (by omega) ?_
     refine h3.ld (fun _ h=>h) (by omega) fun x=>?_
     refine h3.ld (fun _ h=>h) (by omega) fun y=>?_
     intro F
     refine ag.rd .here (eT x y _) ?_
     rintro w rfl
     exact Un.not (aA.mk (JE.mk (k33 _)))
    refine bM.and t2 (fun _=>⟨rfl,rfl⟩) rfl fun gs=>?_
    refine bM.and (decide (q=1)) (fun _=>ae.jG ⟨rfl,rfl⟩) rfl fun gs=>?_
    refine Br.mk (fun _=>?_) (fun _=>JE.mk (k30 _ h2))
    refine ag.fn .here (P7 h2 (by omega) hb bE) ?_
    rintro w C' ⟨⟨t,rfl⟩,hd⟩
    exact Br.mk (fun _=>aF.here ⟨rfl,hd⟩) (fun _=>JE.mk (k30 _ hd))
   refine ae.jG (Br.dec (fun _=>?_) (fun _=>JE.mk (k25 p q _ vw lA h1)))
   refine ag.fn .here (T7 h1 (a:=a) (b:=b) (by omega) hb bE) ?_
   rintro w C' ⟨rfl,hd⟩
   refine ae.bH (b:=1) (by simp[aB];omega) (by omega) ?_
   refine ae.bH (by simp[aB];omega) (by omega) ?_
   refine ae.bH (by simp[aB];omega) (by omega) ?_
   exact JE.mk (k25 _ _ _ (by omega) (by omega) hd)
  refine Un.not ?_
  refine Br.mk (fun _=>?_) (fun _=>JE.mk (k17 _ _ h))
  refine ag.fn .here (Vj h (a:=a) (b:=b) (by omega) hb bE) ?_
  rintro w C' ⟨rfl,hd⟩
  exact ae.sub (JE.mk (k17 _ _ hd))
theorem PY{l:List Int}(h:aQ 77 .u32 v l C)(bE:l.length<1152921504606846976):Fc Tryz.prog 274 #[v] C (fun r C'=>r=.tuple #[]∧∃l',l'.Perm l∧aQ 77 .u32 v l' C'):=by
 intro g
 refine DF (R:=aF _) ?_
 unfold L274
 refine h.aR ?_
 refine bL.nat (by simp[aB];omega) ?_
 refine ag.rd .here (GW (by omega) C) ?_
 rintro w ⟨r,_,rfl⟩
 refine ag.fn .here (Uc l.length h.dt (a:=0) (b:=l.length) (by omega) (by omega) (Nat.le_refl _) bE _) ?_
 rintro w C' ⟨rfl,hd⟩
 exact aF.here ⟨rfl,hd⟩
end
end Go.Proofs
namespace Go.Sx
open Go
section
variable {P:Program} {g:Gh} {F:Fence} {n:Nat} {ops:Array Oper} {Q:Exit→Act→World→Prop} {rest:List Oper} {o:Oper} {a:Act} {fr:Fr} {w:World} {H:Hp}
abbrev AR(ds:List Deferred)(n:Nat)(a:Act)(fr:Fr):Prop:=cD ds n a fr
variable {ds:List Deferred}
theorem AR.put(h:AR ds n a fr){d:Option Nat}(hd:eA n d=true)(v:Value):AR ds n (a.put d v) (cz fr d v):=cD.put h hd v
theorem je{v0:Value}(hF:∀f,F.fn f)(hg:o.guard=none)(g8:∀c,o.op≠.defer c)(hd:eA n o.dst=true)(ha:AR ds n a fr)(hw:Own g H w)(h:AY P g o (ev fr) H (· =v0))
 (k:∀a',AR ds n a' (cz fr o.dst v0)→wpListIn F 0 P ops Q rest a' w):wpListIn F 0 P ops Q (o::rest) a w:=by
 refine wpListIn_plain hg fun K hK=>⟨fun f _=>hF f,?_⟩
 rw[Oper.semAt_eq _ _ _ g8,ha.eval]
 obtain⟨v,hv,hr,_⟩:=nB h
 rw[hr w hw]
 subst hv
 exact hK _ _ (k _ (ha.put hd _))
theorem Gf{s:Sem Value}{K:Value→Hp→Prop}(hF:∀f,F.fn f)(hg:o.guard=none)(g8:∀c,o.op≠.defer c)(hd:eA n o.dst=true)(ha:AR ds n a fr)(he:execOp (ev fr) o=(do pure (.value (←s))))
 (h:∃v w' H',s.run P w=.ok v w'∧Own g H' w'∧K v H')
 (k:∀v H' w' a',K v H'→Own g H' w'→AR ds n a' (cz fr o.dst v)→wpListIn F 0 P ops Q rest a' w'):wpListIn F 0 P ops Q (o::rest) a w:=by
 refine wpListIn_plain hg fun K hK=>⟨fun f _=>hF f,?_⟩
 rw[Oper.semAt_eq _ _ _ g8,ha.eval,he]
 obtain⟨v,w',H',hr,ho,hk⟩:=h
 simp only[Sem.run_bind,hr,Result.andThen_ok,Sem.run_pure]
 exact hK _ _ (k v H' w' _ hk ho (ha.put hd _))
theorem LC{s:Sem Value}{K:Value→Hp→Prop}(hF:∀f,F.fn f)(hg:o.guard=none)(g8:∀c,o.op≠.defer c)(hd:eA n o.dst=true)(ha:AR ds n a fr)(hw:Own g H w)(he:execOp (ev fr) o=(do pure (.value (←s))))
 (h:O1 P g o (ev fr) H K (fun _ _=>False))
 (k:∀v H' w' a',K v H'→Own g H' w'→AR ds n a' (cz fr o.dst v)→wpListIn F 0 P ops Q rest a' w'):wpListIn F 0 P ops Q (o::rest) a w:=by
 have h1:=tu (nJ fr) h w hw
 rw[he]at h1
 refine Gf (g:=g) (K:=K) hF hg g8 hd ha he ?_ k
 cases hs:s.run P w with
 |ok v w'=>
  simp only[Sem.run_bind,hs,Result.andThen_ok,Sem.run_pure,nq]at h1
  obtain⟨H',ho,hk⟩:=h1
  exact⟨v,w',H',rfl,ho,hk⟩
 |halt x w'=>
  simp only[Sem.run_bind,hs,Result.andThen]at h1
  cases x<;>simp only[nq]at h1
  obtain⟨_,_,hk⟩:=h1;exact hk.elim
theorem WZ{s:Sem Unit}{K:Value→Hp→Prop}(hF:∀f,F.fn f)(hg:o.guard=none)(g8:∀c,o.op≠.defer c)(hd:eA n o.dst=true)(ha:AR ds n a fr)(hw:Own g H w)(he:execOp (ev fr) o=(do s;pure .skip))
 (h:O1 P g o (ev fr) H K (fun _ _=>False))
 (k:∀H' w' a',K undef H'→Own g H' w'→AR ds n a' (cz fr o.dst undef)→wpListIn F 0 P ops Q rest a' w'):wpListIn F 0 P ops Q (o::rest) a w:=by
 have h1:=tu (nJ fr) h w hw
 rw[he]at h1
 refine wpListIn_plain hg fun K hK=>⟨fun f _=>hF f,?_⟩
 rw[Oper.semAt_eq _ _ _ g8,ha.eval,he]
 cases hs:s.run P w with
 |ok v w'=>
  simp only[Sem.run_bind,hs,Result.andThen_ok,Sem.run_pure,nq]at h1⊢
  obtain⟨H',ho,hk⟩:=h1
  exact hK _ _ (k H' w' _ hk ho (ha.put hd _))
 |halt x w'=>
  simp only[Sem.run_bind,hs,Result.andThen]at h1
  cases x<;>simp only[nq]at h1
  obtain⟨_,_,hk⟩:=h1;exact hk.elim
theorem uA{m:Nat}{args:List Value}(hl:args.length≤m):AR [] m {tmps:=args.toArray++Array.replicate (m-args.toArray.size) undef,defers:=[]} (jk args 0):=by
 refine⟨rfl,by simp;omega,fun s=>?_⟩
 rw[lq,Array.getD_eq_getD_getElem?,Array.getElem?_append]
 simp only[List.size_toArray,Nat.not_lt_zero,if_false,Nat.sub_zero]
 by_cases hs:s<args.length
 ·simp[hs,List.getD]
 ·rw[if_neg hs,Array.getElem?_replicate]
  have:args.getD s undef=undef:=by simp[List.getD,List.getElem?_eq_none (Nat.le_of_not_lt hs)]
  rw[this]
  split<;>rfl
theorem Own.putObj{g:Gh}{H H':Hp}{w:World}{b:Nat}{o o':Obj}(h:Own g H w)(u:cJ b o o' H H'):Own g H' (w.putObj b o'):=by
 have hb:=h.lt u.mem
 exact h.cz u rfl rfl rfl (World.putObj_heap_same hb) fun c hc=>World.putObj_heap_other hc
def G8{α:Type}(P:Program)(f:FuncId)(cap:Array Value)(B:Hp)(enc:α→Value)(N:Nat)(S:List α→Prop):Prop:=
 ∀(g:Gh) (l:Nat) (G:List α→Hp→Prop),
  (∀ss x A X W,G ss A→ss.length<N→Own g (A++X) W→YieldAt Fence.wide 0 P l #[enc x] W (fun e W'=>e=.returned (.bool true)∧∃A',G (ss++[x]) A'∧Own g (A'++X) W'))→
  ∀A W,G [] A→Own g (A++B) W→CallsIn Fence.wide 0 P f (#[.func (.yield l) #[] #[]]++cap) W (fun e W'=>(∃v,e=.returned v)∧∃ss A',S ss∧G ss A'∧Own g (A'++B) W')
open Classical in
noncomputable def pO(p:Nat→Prop):Nat:=if h:∃k,p k then Classical.choose (kz h)else 0
theorem BW{p:Nat→Prop}{k:Nat}(h:p k):pO p≤k:=by
 unfold pO
 rw[dif_pos ⟨k,h⟩]
 exact(Classical.choose_spec (kz ⟨k,h⟩)).2 k h
theorem xL{p:Nat→Prop}(h:∃k,p k):p (pO p):=by
 unfold pO
 rw[dif_pos h]
 exact(Classical.choose_spec (kz h)).1
theorem Bc{c:Code}(J:Nat→Act→World→Prop){k:Nat}(h0:J k a w)
 (round:∀k a w,J k a w→c.wpIn F 0 P (Exit.then (fun a' w'=>∃k',k'<k∧J k' a' w') Q) a w):(Code.loop c).wpIn F 0 P Q a w:=by
 refine wpIn_loop (fun a w=>∃k,J k a w) (fun a w=>pO fun k=>J k a w) ⟨k,h0⟩ fun a w h=>?_
 refine Code.wpIn_mono (fun e a' w' hq=>?_) (round _ a w (xL h))
 cases e with
 |normal=>
  obtain⟨k',hlt,hj⟩:=hq
  exact⟨⟨k',hj⟩,Nat.lt_of_le_of_lt (BW hj) hlt⟩
 |_=>exact hq
end
end Go.Sx
set_option maxRecDepth 100000
namespace Go.Proofs
open Go Go.Sx
open aZ
section
variable {es:Array MapEntry} {ck b:Nat} {m:List (Nd×Nat)}
theorem Ht(B:Hp):Fc Tryz.prog 251 #[.map (some b)] B
  (fun v H=>∃bm,v=.func (.func 275) #[] #[ptr bm]∧H=(bm,.cells #[.map (some b)] 266 (0,0))::B):=by
 intro g
 refine DQ (R:=aF _) ?_
 unfold L251
 intro b1 _
 exact aF.here ⟨b1,rfl,rfl⟩
noncomputable abbrev VF:Func:=Tryz.f275
def VAt(g:Gh)(bi b:Nat)(l:Nat)(es:Array MapEntry)(ck:Nat)(m:List (Nd×Nat))(G:List Nat→Hp→Prop)(B:Hp)(k:Nat)(a:Act)(w:World):Prop:=
 ∃(fr:Fr) (ss:List Nat) (A:Hp) (seen:Array Nat),AR [] 15 a fr∧fr 0=.func (.yield l) #[] #[]∧fr 6=ptr bi∧G ss A∧Own g (A++((bi,.mapIter (some b) ck seen ck)::B)) w∧
  (ss++(dL es m seen).map Prod.snd).Perm (m.map Prod.snd)∧k=(dL es m seen).length
theorem Bi{bm:Nat}{fz:Nat×Nat}(h:bu nK WJ es ck m):G8 Tryz.prog 275 #[ptr bm] [(bm,.cells #[.map (some b)] 266 fz),(b,.map es ck)] u32 m.length
  (fun ss=>ss.Perm (m.map Prod.snd)):=by
 intro g l G hY A W h0 hW
 have hF:∀f,Fence.wide.fn f:=fun _=>trivial
 refine callsIn_of_wp Tryz.func275 rfl trivial ?_
 have ha:=uA (m:=15) (args:=[.func (.yield l) #[] #[],ptr bm]) (by simp)
 refine wpIn_seq ?_
 refine wpIn_region_lit ?_
 obtain⟨B,hB⟩:∃B,B=[(bm,Obj.cells #[.map (some b)] 266 fz),(b,.map es ck)]:=⟨_,rfl⟩
 rw[←hB]at hW
 have GC:(bm,Obj.cells #[.map (some b)] 266 fz)∈A++B:=by rw[hB];exact List.mem_append_right _ (.head _)
 have wy:(b,Obj.map es ck)∈A++B:=by rw[hB];exact List.mem_append_right _ (.tail _ (.head _))
 have hmB:∀{X:Hp},(b,Obj.map es ck)∈X++B:=by intro X;rw[hB];exact List.mem_append_right _ (.tail _ (.head _))
 rw[←hB]
 have e0:AY Tryz.prog g (fX VF 0 0) (ev (jk [.func (.yield l) #[] #[],ptr bm] 0)) (A++B) (fun x=>x=.map (some b))=Ld (A++B) (ptr bm) (fun x=>x=.map (some b)):=by kernel_rfl
 refine je (g:=g) (n:=15) (v0:=.map (some b)) hF rfl (by intro c h;cases h) rfl ha hW (e0.mpr (Ld.mk GC rfl rfl)) fun a1 Cz=>?_
 refine Gf (g:=g) (n:=15) (s:=Instr.range 266 (.map (some b))) (K:=fun v H=>∃bi,v=ptr bi∧H=(bi,.mapIter (some b) ck #[] ck)::(A++B)) hF rfl (by intro c h;cases h) rfl Cz rfl
  (Zg.run (.inr ⟨b,es,ck,rfl,wy,fun bi _=>⟨bi,rfl,rfl⟩⟩) hW (t:=266) (kt:=161) (e:=77) (by kernel_rfl)) fun v H' w1 a2 hv jz z8=>?_
 obtain⟨bi,rfl,rfl⟩:=hv
 refine wpListIn_nil ?_
 have mI:Own g (A++((bi,.mapIter (some b) ck #[] ck)::B)) w1:=jz.perm (List.perm_middle).symm
 clear jz Cz ha hW GC wy
 refine wpIn_block ?_
 refine Bc (VAt g bi b l es ck m G B) (k:=(dL es m #[]).length) ⟨_,[],A,#[],z8,rfl,rfl,h0,mI,by rw[sV h];exact .refl _,rfl⟩ ?_
 clear z8 mI h0 e0 A
 rintro k a w ⟨fr,ss,A,seen,ha,f0,f6,hG,hw,dP,hk⟩
 refine wpIn_seq ?_
 refine wpIn_region_lit ?_
 have e6:ev fr (.tmp 6)=ptr bi:=f6
 refine Gf (g:=g) (n:=15) (s:=Instr.next (ptr bi) false 0)
  (K:=fun v H=>(dL es m seen=[]∧v=.tuple #[.bool false]∧H=A++((bi,.mapIter (some b) ck seen ck)::B))∨
   ∃(e:MapEntry) (x:Nd×Nat) (seen':Array Nat),v=.tuple #[.bool true,e.key,e.val]∧e.val=u32 x.2∧(dL es m seen).Perm (x::dL es m seen')∧seen'.back?=some e.born∧es.find? (·.born==e.born)=some e∧
    H=A++((bi,.mapIter (some b) ck seen' ck)::B)) hF rfl (by intro c h;cases h) rfl ha ?_
  (Ws.run (h.next (bi:=bi) (bm:=b) (seen:=seen) (H:=A++((bi,.mapIter (some b) ck seen ck)::B)) (List.mem_append_right _ (.tail _ (by rw[hB];exact .tail _ (.head _)))) (List.mem_append_right _ (.head _))
   (fun e x seen' he hk hv hp hb hf=>⟨_,(cJ.head _).bI A,.inr ⟨e,x,seen',rfl,hv,hp,hb,hf,rfl⟩⟩) (fun hu=>.inl ⟨hu,rfl,rfl⟩)) hw) fun v H' w1 a1 hv jz Cz=>?_
 ·rw[e6.symm];rfl
 rcases hv with⟨hu,rfl,rfl⟩|⟨e,x,seen',rfl,hev,hp,Wd,X5,rfl⟩
 ·refine je (g:=g) (n:=15) (v0:=.bool false) hF rfl (by intro c h;cases h) rfl Cz jz ⟨_,_,rfl,rfl,rfl⟩ fun a2 z8=>?_
  refine wpListIn_nil ?_
  refine wpIn_seq ?_
  refine wpIn_cond_false (by rw[z8.eval];rfl) ?_
  refine wpIn_exit ?_
  simp only[Exit.then,Exit.inBlock,if_true,bodyPost]
  refine⟨z8.defers,_,results_none rfl _ _ _,⟨_,rfl⟩,ss,A,?_,hG,(jz.perm List.perm_middle).tail⟩
  rw[hu,List.map_nil,List.append_nil]at dP
  exact dP
 ·refine je (g:=g) (n:=15) (v0:=.bool true) hF rfl (by intro c h;cases h) rfl Cz jz ⟨_,_,rfl,rfl,rfl⟩ fun a2 z8=>?_
  refine wpListIn_nil ?_
  refine wpIn_seq ?_
  refine wpIn_cond_true (by rw[z8.eval];rfl) ?_
  refine wpIn_skip ?_
  refine wpIn_block ?_
  refine wpIn_seq ?_
  refine wpIn_region_lit ?_
  refine Gf (g:=g) (n:=15) (s:=Instr.entry (ptr bi)) (K:=fun v H=>v=.tuple #[e.key,e.val]∧H=A++((bi,.mapIter (some b) ck seen' ck)::B)) hF rfl (by intro c h;cases h) rfl z8 ?_ ?_ fun v H' w2 a3 hv mI IK=>?_
  ·rw[e6.symm];rfl
  ·obtain⟨v,hr,hv⟩:=OO.run (P:=Tryz.prog) (k:=fun v=>v=.tuple #[e.key,e.val]) ⟨bi,b,ck,seen',e.born,ck,es,e,rfl,List.mem_append_right _ (.head _),Wd,List.mem_append_right _ (.tail _ (by rw[hB];exact .tail _ (.head _))),X5,rfl⟩ jz
   exact⟨v,w1,_,hr,jz,hv,rfl⟩
  obtain⟨rfl,rfl⟩:=hv
  refine je (g:=g) (n:=15) (v0:=u32 x.2) hF rfl (by intro c h;cases h) rfl IK mI ⟨_,_,rfl,rfl,hev⟩ fun a4 Q1=>?_
  refine je (g:=g) (n:=15) (v0:=u32 x.2) hF rfl (by intro c h;cases h) rfl Q1 mI (show u32 x.2=u32 x.2 from rfl) fun a5 Q0=>?_
  refine wpListIn_nil ?_
  refine wpIn_seq ?_
  refine wpIn_region_lit ?_
  refine je (g:=g) (n:=15) (v0:=.func (.yield l) #[] #[]) hF rfl (by intro c h;cases h) rfl Q0 mI f0 fun a6 QZ=>?_
  refine je (g:=g) (n:=15) (v0:=u32 x.2) hF rfl (by intro c h;cases h) rfl QZ mI (show u32 x.2=u32 x.2 from rfl) fun a7 Wg=>?_
  have hlen:(dL es m seen).length=(dL es m seen').length+1:=by rw[hp.length_eq];rfl
  have hlt:ss.length<m.length:=by
   have:=dP.length_eq
   simp only[List.length_append,List.length_map]at this⊢
   omega
  obtain⟨fn,tmps,assign,body,hy,hR⟩:=hY _ x.2 A _ w2 hG hlt mI
  refine wpListIn_plain rfl fun K hK=>⟨fun _ _=>trivial,?_⟩
  rw[Oper.semAt_eq _ _ _ (by intro c h;cases h),Wg.eval]
  have hex:∀F7:Fr,F7=cz (cz (cz (cz (cz (cz (cz fr (some 7) (.tuple #[.bool true,e.key,e.val])) (some 8) (.bool true)) (some 9) (.tuple #[e.key,e.val])) (some 10) (u32 x.2)) (some 4) (u32 x.2)) (some 11) (.func (.yield l) #[] #[])) (some 12) (u32 x.2)→(execOp (ev F7) (fX VF 3 2)).run Tryz.prog w2=.ok (.round l fn tmps assign body) w2:=fun F7 hF7=>by
   have v11:ev F7 (.tmp 11)=.func (.yield l) #[] #[]:=by rw[hF7];rfl
   have bc:ev F7 (.tmp 12)=u32 x.2:=by rw[hF7];rfl
   have e11:execOp (ev F7) (fX VF 3 2)=(do let d ←resolve (ev F7) {callee:=.value (.tmp 11),args:=#[.tmp 12],argTypes:=#[77]} 4;invoke d.target d.args):=rfl
   rw[e11]
   simp[resolve,Deferred.ofValue,v11,bc,invoke,go_sem,hy]
  refine(congrArg (Oper.uponIn Fence.wide 0 Tryz.prog (fX VF 3 2) a7 K _) (hex _ rfl)).mpr ⟨fun h=>(by cases h),hR.mono ?_⟩
  rintro e' w3 ⟨rfl,A',hG',Ux⟩
  refine hK _ _ ?_
  have ha8:=Wg.put (d:=some 13) rfl (.bool true)
  refine je (g:=g) (n:=15) (v0:=.bool false) hF rfl (by intro c h;cases h) rfl ha8 Ux ⟨_,rfl,rfl⟩ fun a9 ha9=>?_
  refine wpListIn_nil ?_
  refine wpIn_cond_false (by rw[ha9.eval];rfl) ?_
  refine wpIn_skip ?_
  refine⟨(dL es m seen').length,by omega,_,ss++[x.2],A',seen',ha9,f0,f6,hG',Ux,?_,rfl⟩
  rw[List.append_assoc]
  exact((hp.map Prod.snd).append_left ss).symm.trans dP
end
end Go.Proofs
set_option maxRecDepth 100000
namespace Go.Proofs
open Go Go.Sx
open aZ
section
noncomputable abbrev AF:Func:=Tryz.f284
variable {f:FuncId} {cap:Array Value} {B:Hp} {N:Nat} {S:List Nat→Prop}
noncomputable def dk:Code:=match AF.body with|some (.seq _ (.seq (.seq _ (.block _ (.rangeFunc _ _ c _))) _))=>c|_=>.skip
noncomputable def fE:Code:=match AF.body with|some (.seq _ (.seq (.seq _ (.block _ (.rangeFunc _ _ _ c))) _))=>c|_=>.skip
noncomputable def RG(i:Nat):Oper:=match fE with| .block _ (.region _ ops _)=>(match ops[i]? with|some o=>o|none=>default)|_=>default
def kJ(fn:FuncId)(tmps:Array Value)(assign body:Code)(D:Nat):Loop:={state:=.ready,pending:=none,fn,tmps,params:=#[7],assign,body,defers:=D}
def APG(l D bs:Nat)(fn:FuncId)(tmps:Array Value)(assign body:Code)(ss:List Nat)(A:Hp):Prop:=
 ∃v C',A=(l,.loop (kJ fn tmps assign body D))::(D,.deferred (some []))::(bs,.cells #[v] 27 (0,0))::C'∧aQ 77 .u32 v (iw ss) C'
theorem Ot{g:Gh}{l D bs:Nat}{fn:FuncId}{tmps:Array Value}{fr:Fr}(hsz:tmps.size=13)(gX:∀s,tmps.getD s undef=fr s)(f2:fr 2=ptr bs){ss:List Nat}{x:Nat}{A X:Hp}{W:World}
 (hG:APG l D bs fn tmps dk fE ss A)(hl:ss.length<1099511627776)(hW:Own g (A++X) W):
  YieldAt Fence.wide 0 Tryz.prog l #[u32 x] W (fun e W'=>e=.returned (.bool true)∧∃A',APG l D bs fn tmps dk fE (ss++[x]) A'∧Own g (A'++X) W'):=by
 obtain⟨v,C',rfl,ho⟩:=hG
 have hF:∀f,(Fence.wide.inRound l).fn f:=fun _=>trivial
 have hL:W.heap[l]? =some (.loop (kJ fn tmps dk fE D)):=hW.has _ (.head _)
 refine⟨fn,_,dk,fE,run_yield hL rfl,roundIn_of_wpIn trivial ?_⟩
 have ha:AR [] 13 {tmps:=tmps.setIfInBounds 7 (u32 x),defers:=[]} (cz fr (some 7) (u32 x)):=(AR.put (a:={tmps:=tmps,defers:=[]}) (d:=some 7) ⟨rfl,hsz,gX⟩ rfl (u32 x))
 have ha:AR [] 13 {tmps:=(#[7].zip #[u32 x]).foldl (fun tmps (t,a)=>tmps.setIfInBounds t a) tmps,defers:=[]} (cz fr (some 7) (u32 x)):=by simpa using ha
 change Code.wpIn _ 0 Tryz.prog (.region _ #[_] false) _ _ _
 refine wpIn_region_lit ?_
 refine je (g:=g) (n:=13) (v0:=u32 x) hF rfl (by intro c h;cases h) rfl ha hW rfl fun a1 Cz=>?_
 refine wpListIn_nil ?_
 have hbr:=run_beginRound (P:=Tryz.prog) hL rfl
 refine⟨_,hbr,?_⟩
 have SX:=hW.putObj (o':=.loop {kJ fn tmps dk fE D with state:=.busy}) (.head _)
 change Code.wpIn _ 0 Tryz.prog (.block _ (.region _ #[_,_,_,_,_] false)) _ _ _
 refine wpIn_block ?_
 refine wpIn_region_lit ?_
 obtain⟨H1,hH1⟩:∃H1,H1=(l,Obj.loop {kJ fn tmps dk fE D with state:=.busy})::(((D,.deferred (some []))::(bs,.cells #[v] 27 (0,0))::C')++X):=⟨_,rfl⟩
 replace SX:Own g H1 (W.putObj l (.loop {kJ fn tmps dk fE D with state:=.busy})):=by rw[hH1];exact SX
 have e0:AY Tryz.prog g (RG 0) (ev (cz (cz fr (some 7) (u32 x)) (some 5) (u32 x))) H1 (fun z=>z=v)=Ld H1 (fr 2) (fun z=>z=v):=by kernel_rfl
 refine je (g:=g) (n:=13) (v0:=v) hF rfl (by intro c h;cases h) rfl Cz SX (e0.mpr (by rw[f2];exact Ld.mk (by rw[hH1];exact .tail _ (.tail _ (.head _))) rfl rfl)) fun a2 z8=>?_
 refine je (g:=g) (n:=13) (v0:=u32 x) hF rfl (by intro c h;cases h) rfl z8 SX rfl fun a3 IK=>?_
 have eb:∀K:Value→Hp→Prop,av Tryz.prog 27 1 [(0,.int .u32 (x:Int))] H1 K=O1 Tryz.prog g (RG 2) (ev (cz (cz (cz (cz fr (some 7) (u32 x)) (some 5) (u32 x)) (some 8) v) (some 9) (u32 x))) H1 K (fun _ _=>False):=fun K=>by kernel_rfl
 refine LC (g:=g) (n:=13) (s:=_) (K:=fun v H=>∃b,v=.slice (some ⟨b,0,none⟩) 1 1∧H=(b,.cells (aC .u32 [(x:Int)]) 77 (0,0))::H1) hF rfl (by intro c h;cases h) rfl IK SX rfl
  ((eb _).mp (av.int (by kernel_rfl) (by kernel_rfl) (by kernel_rfl) fun b=>⟨b,rfl,rfl⟩)) fun v1 H2 w2 a4 hv Ym Q1=>?_
 obtain⟨b,rfl,rfl⟩:=hv
 have hn:(iw ss).length=ss.length:=an ss
 obtain⟨H2,hH2⟩:∃H2,H2=(b,Obj.cells (aC .u32 [(x:Int)]) 77 (0,0))::H1:=⟨_,rfl⟩
 rw[←hH2]at Ym
 refine LC (g:=g) (n:=13) (s:=_) (K:=fun v' H=>∃C2,aQ 77 .u32 v' (iw (ss++[x])) C2∧H=(b,Obj.cells (aC .u32 [(x:Int)]) 77 (0,0))::(l,Obj.loop {kJ fn tmps dk fE D with state:=.busy})::(D,.deferred (some []))::(bs,.cells #[v] 27 (0,0))::(C2++X))
  hF rfl (by intro c h;cases h) rfl Q1 Ym (by simp only[execOp,resolve,invoke,builtin];simp[bind,Sem.bind];rfl) ?_ fun v2 H3 w3 a5 hv Q2 Q0=>?_
 ·have e1:∀K:Value→Hp→Prop,App Tryz.prog 77 1 4 (.int .u32 0) H2 v (.slice (some ⟨b,0,none⟩) 1 1) K=
   O1 Tryz.prog g (RG 3) (ev (cz (cz (cz (cz (cz fr (some 7) (u32 x)) (some 5) (u32 x)) (some 8) v) (some 9) (u32 x)) (some 10) (.slice (some ⟨b,0,none⟩) 1 1))) H2 K (fun _ _=>False):=fun K=>by kernel_rfl
  refine(e1 _).mp ?_
  rw[hH2,hH1]
  refine ho.mW (.cons (.cons (.cons (.cons .left)))) (by exact .head _) (by omega) (by omega) fun v' C2 nI=>⟨C2,?_,rfl⟩
  rw[bT];exact nI
 obtain⟨C2,nI,rfl⟩:=hv
 have es:∀(H:Hp) (K:Value→Hp→Prop),St 1 H (fr 2) v2 (fun H'=>K undef H')=O1 Tryz.prog g (RG 4) (ev (cz (cz (cz (cz (cz (cz fr (some 7) (u32 x)) (some 5) (u32 x)) (some 8) v) (some 9) (u32 x)) (some 10) (.slice (some ⟨b,0,none⟩) 1 1)) (some 11) v2)) H K (fun _ _=>False):=fun H K=>by kernel_rfl
 refine WZ (g:=g) (n:=13) (s:=_) (K:=fun _ H=>H=(b,Obj.cells (aC .u32 [(x:Int)]) 77 (0,0))::(l,Obj.loop {kJ fn tmps dk fE D with state:=.busy})::(D,.deferred (some []))::(bs,.cells #[v2] 27 (0,0))::(C2++X))
  hF rfl (by intro c h;cases h) rfl Q0 Q2 rfl ((es _ _).mp ?_) fun H4 w4 a6 hv hW4 QZ=>?_
 ·rw[f2]
  exact St.one (.tail (.tail (.tail (.head _)))) nI.one (by simp) rfl rfl
 subst hv
 refine wpListIn_nil ?_
 simp only[Exit.inBlock,roundPost]
 refine⟨_,_,run_endRound none (hW4.has _ (.tail _ (.head _))),rfl,_,⟨v2,C2,rfl,nI⟩,?_⟩
 exact(hW4.putObj (.tail (.head _))).tail
theorem Jm(hg:G8 Tryz.prog f cap B u32 N S)(hc:cR Tryz.prog f=true)(hN:N≤1099511627776):
  Fc Tryz.prog 284 #[.slice none 0 0,.func (.func f) #[] cap] B (fun v H=>∃ss C',S ss∧H=C'++B∧aQ 77 .u32 v (iw ss) C'):=by
 intro g w hw
 rw[←callsIn_wide (n:=0)]
 have hF:∀f,Fence.wide.fn f:=fun _=>trivial
 refine callsIn_of_wp_marks Tryz.func284 rfl trivial ?_
 have ha:=uA (m:=13) (args:=[.slice none 0 0,.func (.func f) #[] cap]) (by simp)
 refine wpIn_seq ?_
 refine wpIn_region_lit ?_
 refine LC (g:=g) (n:=13) (s:=_) (K:=fun v H=>∃bs,v=ptr bs∧H=(bs,.cells #[.slice none 0 0] 27 (0,0))::B) hF rfl (by intro c h;cases h) rfl ha hw rfl (fun bs _=>⟨bs,rfl,rfl⟩) fun v H1 w1 a1 hv jz Cz=>?_
 obtain⟨bs,rfl,rfl⟩:=hv
 refine je (g:=g) (n:=13) (v0:=.slice none 0 0) hF rfl (by intro c h;cases h) rfl Cz jz rfl fun a2 z8=>?_
 refine wpListIn_nil ?_
 refine wpIn_seq ?_
 refine wpIn_seq ?_
 refine wpIn_region_lit ?_
 refine je (g:=g) (n:=13) (v0:=.func (.func f) #[] cap) hF rfl (by intro c h;cases h) rfl z8 jz rfl fun a3 IK=>?_
 refine wpListIn_nil ?_
 refine wpIn_block ?_
 refine wpIn_rangeFunc fun fn hfn=>?_
 have Cd:=(jz.alloc (.deferred (some []))).alloc (.loop (kJ fn a3.tmps dk fE w1.heap.size))
 have f6:a3.tmps[6]?.getD undef=.func (.func f) #[] cap:=by have:=IK.get 6;rw[Array.getD_eq_getD_getElem?]at this;exact this
 obtain⟨W1,SX⟩:∃W1,W1=(w1.alloc (.deferred (some []))).alloc (.loop (kJ fn a3.tmps dk fE w1.heap.size)):=⟨_,rfl⟩
 rw[←SX]at Cd
 refine⟨w1.heap.size+1,[{target:=.collected w1.heap.size,args:=#[]}],W1,{target:=.fn (.func f) cap,args:=#[.func (.yield (w1.heap.size+1)) #[] #[]]},W1,f,#[.func (.yield (w1.heap.size+1)) #[] #[]]++cap,W1,?_,?_,fun _ _=>trivial,?_,fun h=>(by cases h),?_⟩
 ·rw[SX];exact run_enterLoop_outer fn a3.tmps #[7] _ _
 ·simp[resolve,Deferred.ofValue,f6,go_sem]
 ·simp[invoke,go_sem]
  exact fp hc _ _
 have hsz:(w1.alloc (.deferred (some []))).heap.size=w1.heap.size+1:=by simp
 rw[hsz]at Cd
 refine CallsIn.mono (hg g (w1.heap.size+1) (APG (w1.heap.size+1) w1.heap.size bs fn a3.tmps dk fE) (fun ss x A X W hG hl hW=>Ot IK.size IK.get rfl hG (by omega) hW) [_,_,_] W1 ⟨_,[],rfl,aQ.nil⟩ Cd) ?_
 rintro e W2 ⟨⟨v0,rfl⟩,ss,A',hS,⟨v,C',rfl,ho⟩,Ym⟩
 refine⟨none,_,run_endLoop (Ym.has _ (.head _)) (by simp[kJ]),?_⟩
 have Q2:=Ym.putObj (o':=.loop {kJ fn a3.tmps dk fE w1.heap.size with state:=.exhausted}) (.head _)
 simp only[Exit.then,Exit.inBlock]
 have Q1:AR [{target:=.collected w1.heap.size,args:=#[]}] 13 {a3 with defers:=[{target:=.collected w1.heap.size,args:=#[]}]++a3.defers} (cz (cz (cz (jk [.slice none 0 0,.func (.func f) #[] cap] 0) (some 2) (ptr bs)) (some 4) (.slice none 0 0)) (some 6) (.func (.func f) #[] cap)):=
  ⟨by rw[IK.defers];rfl,IK.size,IK.get⟩
 refine wpIn_seq ?_
 refine wpIn_region_lit ?_
 obtain⟨H3,Va⟩:∃H3,H3=(w1.heap.size+1,Obj.loop {kJ fn a3.tmps dk fE w1.heap.size with state:=.exhausted})::(((w1.heap.size,.deferred (some []))::(bs,.cells #[v] 27 (0,0))::C')++B):=⟨_,rfl⟩
 replace Q2:Own g H3 (W2.putObj (w1.heap.size+1) (.loop {kJ fn a3.tmps dk fE w1.heap.size with state:=.exhausted})):=by rw[Va];exact Q2
 have e0:AY Tryz.prog g (fX AF 4 0) (ev (cz (cz (cz (jk [.slice none 0 0,.func (.func f) #[] cap] 0) (some 2) (ptr bs)) (some 4) (.slice none 0 0)) (some 6) (.func (.func f) #[] cap))) H3 (fun z=>z=v)=Ld H3 (ptr bs) (fun z=>z=v):=by kernel_rfl
 refine je (g:=g) (n:=13) (v0:=v) hF rfl (by intro c h;cases h) rfl Q1 Q2 (e0.mpr (Ld.mk (by rw[Va];exact .tail _ (.tail _ (.head _))) rfl rfl)) fun a5 Q0=>?_
 refine je (g:=g) (n:=13) (v0:=v) hF rfl (by intro c h;cases h) rfl Q0 Q2 rfl fun a6 QZ=>?_
 refine wpListIn_nil ?_
 refine wpIn_ret ?_
 simp only[Exit.then,bodyPostM]
 rw[QZ.defers]
 rw[Va]at Q2
 refine⟨by simp,.inl ⟨w1.heap.size,_,rfl,run_takeDeferred (Q2.has _ (.tail _ (.head _))),?_⟩⟩
 have hW4:=Q2.putObj (o':=.deferred none) (.tail (.head _))
 refine⟨_,results_tmp rfl _ _ _,C'++B,hW4.tail.tail.tail,v,C'++B,?_,.refl _,ss,C',hS,rfl,ho⟩
 have:=QZ.get 4
 rw[this]
 rfl
end
section
variable {f:FuncId} {cap:Array Value} {B:Hp} {N:Nat} {S:List Nat→Prop}
theorem C7(hg:G8 Tryz.prog f cap B u32 N S)(hc:cR Tryz.prog f=true)(hN:N≤1099511627776):
  Fc Tryz.prog 273 #[.func (.func f) #[] cap] B (fun v H=>∃ss C',S ss∧H=C'++B∧aQ 77 .u32 v (iw ss) C'):=by
 intro g
 refine DG (R:=aF _) ?_
 unfold L273
 refine ag.fn .here (Jm hg hc hN) ?_
 rintro v H h
 exact aF.here h
theorem Gm{l':List Int}{ss:List Nat}(h:l'.Perm (iw ss)):∃l:List Nat,l.Perm ss∧l'=iw l:=by
 refine⟨l'.map Int.toNat,?_,?_⟩
 ·have:=h.map Int.toNat
  rw[iw,List.map_map]at this
  have e:(Int.toNat∘(Nat.cast:Nat→Int))=id:=by funext x;simp
  rw[e,List.map_id]at this
  exact this
 ·unfold iw
  rw[List.map_map]
  have:∀x∈l',((Nat.cast:Nat→Int)∘Int.toNat) x=x:=fun x hx=>by
   obtain⟨n,_,rfl⟩:=List.mem_map.1 (h.mem_iff.1 hx)
   simp
  rw[List.map_congr_left this,List.map_id']
theorem HD(hg:G8 Tryz.prog f cap B u32 N S)(hS:∀ss,S ss→ss.length≤N)(hc:cR Tryz.prog f=true)(hN:N≤1099511627776):
  Fc Tryz.prog 250 #[.func (.func f) #[] cap] B (fun v H=>∃ss l C',S ss∧l.Perm ss∧H=C'++B∧aQ 77 .u32 v (iw l) C'):=by
 intro g
 refine DS (R:=aF _) ?_
 unfold L250
 refine ag.fn .here (C7 hg hc hN) ?_
 rintro v H ⟨ss,C',hs,rfl,ho⟩
 have hlen:=hS ss hs
 refine ag.fn (.left (A:=B)) (PY ho (by rw[an];omega)) ?_
 rintro w C2 ⟨rfl,l',hp,bX⟩
 obtain⟨l,hl,rfl⟩:=Gm hp
 exact aF.here ⟨ss,l,C2,hs,hl,rfl,bX⟩
end
theorem P2{pt n v:Nat}{T:Nd→Option Nat}{C:Hp}(h:ni pt n T C)(hv:v<n)(hinj:∀d d' r,T d=some r→T d'=some r→d=d')(hb:∀d r,T d=some r→r<1048576):
  Fc Tryz.prog 203 #[ptr pt,.int .i64 (v:Int)] C (fun r H=>∃w l N,r=.tuple #[w,.int .i64 0]∧H=N++C∧aQ 77 .u32 w (iw l) N∧l.Nodup∧∀r,r∈l↔∃d,T d=some r∧d.v=v):=by
 have h0:=h
 obtain⟨vs,Cs,ms,rfl,hs,ho⟩:=h
 obtain⟨m,hm⟩:∃m,ms[v]? =some m:=⟨_,List.getElem?_eq_getElem (by rw[ho.len];exact hv)⟩
 have he:=ho.rR v m hm
 have hT:∀d:Nd,d.v=v→T d=er m.l d:=fun d hd=>by rw[ho.T,hd,hm];rfl
 have hmem:∀d r,(d,r)∈m.l↔T d=some r∧d.v=v:=fun d r=>by
  constructor
  ·intro hx
   have hd:=ho.var v m hm _ hx
   exact⟨by rw[hT d hd];exact(jj he.nd).2 hx,hd⟩
  ·rintro⟨h1,h2⟩
   rw[hT d h2]at h1
   exact(jj he.nd).1 h1
 have g8:(m.l.map Prod.snd).Nodup:=by
  refine List.pairwise_map.2 ((List.pairwise_map.1 he.nd).imp_of_mem fun{a b} ha hb' hne e=>hne ?_)
  have h1:=((hmem a.1 a.2).1 ha).1
  have h2:=((hmem b.1 b.2).1 hb').1
  rw[←e]at h2
  exact hinj _ _ _ h1 h2
 have hlen:m.l.length≤1048576:=by
  have:=bZ (l':=List.range 1048576) g8 fun x hx=>by
   obtain⟨y,hy,rfl⟩:=List.mem_map.1 hx
   exact List.mem_range.2 (hb _ _ ((hmem y.1 y.2).1 hy).1)
  simpa using this
 intro g
 refine Es (R:=aF _) ?_
 unfold L203
 refine ag.rd .here (j8 h0 hv) ?_
 rintro w rfl
 refine ae.dX (Br.cq (by simp) ?_)
 refine Nil.ptr ?_
 refine aa.mk (Ld.mk zM rfl ?_)
 refine hs.Se (x:=.map (some m.b)) (by rw[List.getElem?_map,hm];rfl) (fun _ h=>by exact .tail _ (List.mem_append_left _ h)) ?_
 refine ag.fn .here (Ht (b:=m.b) _) ?_
 rintro w H ⟨bm,rfl,rfl⟩
 obtain⟨X,Y,hXY⟩:=List.append_of_mem (pL hm)
 have dP:((bm,Obj.cells #[.map (some m.b)] 266 (0,0))::(pt,.cells #[vs] 265 (0,0))::(Cs++Il ms)).Perm
   ([(bm,.cells #[.map (some m.b)] 266 (0,0)),(m.b,.map m.es m.ck)]++((pt,.cells #[vs] 265 (0,0))::(Cs++(X++Y)))):=by
  rw[hXY]
  refine .cons _ ?_
  show((pt,_)::(Cs++(X++(m.b,_)::Y))).Perm ((m.b,_)::(pt,_)::(Cs++(X++Y)))
  refine .trans (.cons _ ?_) (.swap _ _ _)
  rw[←List.append_assoc,←List.append_assoc]
  exact List.perm_middle
 refine ag.pre (.perm dP) ?_
 refine ag.fn .left (HD (Bi he) (fun ss hss=>by rw[hss.length_eq,List.length_map];exact Nat.le_refl _) (by kernel_rfl) (by omega)) ?_
 rintro w H ⟨ss,l,C',hss,hl,rfl,hown⟩
 have rK:l.Perm (m.l.map Prod.snd):=hl.trans hss
 refine aF.mk (lT:=C'++((pt,.cells #[vs] 265 (0,0))::(Cs++Il ms))) ?_ ⟨w,l,C',rfl,rfl,hown,rK.nodup_iff.2 g8,fun r=>?_⟩
 ·rw[List.append_assoc]
  refine aO.cL ?_ C'
  exact(aO.perm dP.symm).trans .tail
 ·rw[rK.mem_iff,List.mem_map]
  constructor
  ·rintro⟨y,hy,rfl⟩;exact⟨y.1,(hmem y.1 y.2).1 hy⟩
  ·rintro⟨d,hd⟩;exact⟨(d,r),(hmem d r).2 hd,rfl⟩
end Go.Proofs
namespace Go.Sx
open Go
section
variable {P:Program} {g:Gh} {H:Hp} {κ β:Type} [DecidableEq κ] {ke:κ→Value} {vr:Value→β→Prop} {es:Array MapEntry} {ck b:Nat} {m:List (κ×β)} {K:Value→Hp→Prop} {KP:List PanicEntry→Hp→Prop}
omit [DecidableEq κ] in
theorem bu.sameKey(h:bu ke vr es ck m){i:Nat}{k:κ}{x:β}(hi:m[i]? =some (k,x)):es.modify i (fun e=>{e with key:=ke k})=es:=by
 apply Array.ext_getElem?
 intro j
 rw[Array.getElem?_modify]
 split
 ·rename_i e;subst e
  cases he:es[i]? with
  |none=>rfl
  |some e0=>rw[Option.map_some,←(h.key i e0 _ he hi).1]
 ·rfl
theorem bu.Ru{o:Oper}{ρ:Operand→Value}{t kt e:TypeId}{kd:TypeDesc}{mo ko:Operand}{z:Value}{k:κ}{y0:β}(hk:∀a b,FO P kt (ke a) (ke b) (decide (a=b)))(hc:∀a,nX P kt (ke a))(hb:∀a,Instr.sameBits 10000 (ke a) (ke a)=true)
 (ho:o.op=.mapEntry t mo ko)(hm':ρ mo=.map (some b))(hk':ρ ko=ke k)(ht:P.underlying t=some (.map kt e))(GD:P.underlying kt=some kd)(Yk:cO kd=true)(hzd:fu P e=some z)(hvz:vr z y0)
 (h:bu ke vr es ck m){c:Obj→Hp}(Ni:∀o o',cJ b o o' (c o) (c o'))
 (h1:∀es' eU v st,bu ke vr es' eU (if k∈m.map Prod.fst then m else m++[(k,y0)])→(∃e∈es'.toList,e.born=st)→K (.tuple #[v,.int .i64 (st:Int)]) (c (.map es' eU))):nk P g o ρ (c (.map es ck)) K KP:=by
 have hmm:(b,Obj.map es ck)∈c (.map es ck):=(Ni _ (.map es ck)).mem
 obtain⟨i,hi,vx⟩:=de hzd
 refine nk.ofValue (s:=Instr.mapEntry t (.map (some b)) (ke k)) (by simp only[execOp,ho,hm',hk']) fun w hw=>?_
 have fo:=fun b=>hc k b w
 rcases h.Ak hk k with⟨j,x,e0,g1,g2,g3,g4⟩|⟨g1,g2⟩
 ·have jF:=gC (P:=P) GD Yk g4 w
  have hj:=(Array.getElem?_eq_some_iff.1 g1).1
  have hkey:es[j].key=ke k:=(h.key j _ _ (Array.getElem?_eq_getElem hj) g2).1
  have hmem:k∈m.map Prod.fst:=List.mem_map.2 ⟨_,List.mem_of_getElem? g2,rfl⟩
  obtain⟨w',hs,hown⟩:=bV (P:=P) hw (es.modify j fun e=>{e with key:=ke k}) ck (by rw[h.sameKey g2];exact Ni _ (.map es ck))
  refine⟨.tuple #[e0.val,.int .i64 (es[j].born:Int)],w',_,?_,hown,h1 es ck e0.val es[j].born (by rw[if_pos hmem];exact h) ⟨es[j],by simp,rfl⟩⟩
  simp[Instr.mapEntry,run_underlying ht,aY hw hmm,fo,jF,hj,Instr.keyThatStays,hkey,hb k,hs,goInt]
 ·have jF:=gC (P:=P) GD Yk g2 w
  obtain⟨w',hs,hown⟩:=bV (P:=P) hw (es.push {key:=ke k,val:=z,born:=ck}) (ck+1) (Ni _ _)
  have wy:=h.more (k:=k) g1 hvz
  have e2:gU m k y0=m++[(k,y0)]:=by unfold gU;rw[if_neg g1]
  rw[e2]at wy
  refine⟨.tuple #[z,.int .i64 (ck:Int)],w',_,?_,hown,h1 _ _ z ck (by rw[if_neg g1];exact wy) ⟨_,by rw[Array.toList_push];exact List.mem_append_right _ (.head _),rfl⟩⟩
  simp[Instr.mapEntry,run_underlying ht,aY hw hmm,fo,jF,eZ hi vx,hs,goInt]
omit [DecidableEq κ] in
theorem bu.PV{o:Oper}{ρ:Operand→Value}{t:TypeId}{mo so xo:Operand}{st:Nat}(ho:o.op=.entryStore t mo so xo)(hm':ρ mo=.map (some b))(hs':ρ so=.int .i64 (st:Int))
 (h:bu ke vr es ck m)(hst:∃e∈es.toList,e.born=st)(hv:∀x,vr (ρ xo) x){c:Obj→Hp}(Ni:∀o o',cJ b o o' (c o) (c o'))
 (h1:∀es',bu ke vr es' ck m→K undef (c (.map es' ck))):nk P g o ρ (c (.map es ck)) K KP:=by
 have hmm:(b,Obj.map es ck)∈c (.map es ck):=(Ni _ (.map es ck)).mem
 refine nk.qB (s:=Instr.entryStore t (.map (some b)) (.int .i64 (st:Int)) (ρ xo)) (by simp only[execOp,ho,hm',hs']) fun w hw=>?_
 obtain⟨i,hi⟩:∃i,es.findIdx? (fun e=>(e.born:Int)==(st:Int))=some i:=by
  obtain⟨e,he,rfl⟩:=hst
  rw[←Option.isSome_iff_exists,Array.findIdx?_isSome]
  rw[Array.any_eq_true']
  exact⟨e,by simpa using he,by simp⟩
 obtain⟨w',hs,hown⟩:=bV (P:=P) hw (es.modify i fun e=>{e with val:=ρ xo}) ck (Ni _ _)
 have Wc:((es.modify i fun e=>{e with val:=ρ xo}).toList.map MapEntry.born)=es.toList.map MapEntry.born:=by
  apply List.ext_getElem?;intro j
  simp only[List.getElem?_map,Array.getElem?_toList,Array.getElem?_modify]
  split
  ·cases es[j]? <;>rfl
  ·rfl
 refine⟨w',_,?_,hown,h1 _ ⟨by simp[h.len],fun j e x he hx=>?_,h.nd,by rw[Wc];exact h.born,fun e he=>?_⟩⟩
 ·simp only[Instr.entryStore,Sem.run_bind,aY hw hmm,Result.andThen_ok,asInt,asIntOf,Sem.run_pure]
  simp only[hi,hs]
 ·rw[Array.getElem?_modify]at he
  split at he
  ·cases h0:es[j]? with
   |none=>rw[h0]at he;simp at he
   |some e0=>
    rw[h0]at he
    simp only[Option.map_some,Option.some.injEq]at he
    subst he
    exact⟨(h.key j _ _ h0 hx).1,hv _⟩
  ·exact h.key j _ _ he hx
 ·have:e.born∈(es.modify i fun e=>{e with val:=ρ xo}).toList.map MapEntry.born:=List.mem_map_of_mem he
  rw[Wc]at this
  obtain⟨e0,h1,h2⟩:=List.mem_map.1 this
  rw[←h2];exact h.lt e0 h1
end
theorem cy.out{C H:Hp}{c:Hp→Hp}(h:cy C H c)(N:Hp):aO (c (N++C)) (N++H):=by
 obtain⟨e,F,hp⟩:=h.spec
 refine .perm ((hp (N++C)).trans ?_)
 rw[List.append_assoc]
 refine List.Perm.append_left N ?_
 have:=hp C
 rw[←e]at this
 exact this.symm
end Go.Sx
set_option maxRecDepth 100000
namespace Go.Proofs
open Go Go.Sx
open aZ
section
variable {kp:Nat} {K:Kd} {ord ax tr:List Nat} {C:Hp} {S:Nat→aZ.Fn}
def yF(N:gK)(r:Nat):Int:=match N r with|some d=>(d.v:Int)|none=> -1
theorem Ad{N:gK}{r:Nat}(hl:live N r)(h2:∀d,N r=some d→2≤r):∃lo hi,got N r=[.int .i64 (yF N r),u32 lo,u32 hi]∧∀e,N r=some e→lo=e.lo∧hi=e.hi:=by
 cases h:N r with
 |some d=>
  refine⟨d.lo,d.hi,?_,fun e he=>by cases he;exact⟨rfl,rfl⟩⟩
  rw[kE h (h2 d h)];simp[aT,yF,h]
 |none=>
  have hr:r<2:=by
   rcases hl with hl|⟨d,hd⟩
   ·exact hl
   ·rw[h]at hd;cases hd
  refine⟨r,r,?_,fun e he=>by cases he⟩
  rw[qN hr];simp[yF,h]
theorem zl(h:c6 kp K ord ax tr C){r:Nat}(hr:r<4294967296)(hl:live K.N r)(h2:∀d,K.N r=some d→2≤r)(y:Nat):
  Rd Tryz.prog 204 #[ptr kp,u32 r,.int .i64 (y:Int)] C (· =.tuple #[u32 (pl K.N y r),u32 (ph K.N y r)]):=by
 have h0:=h
 obtain⟨b,rfl,hO⟩:=h
 obtain⟨lo,hi,hg,he⟩:=Ad hl h2
 intro g
 refine Er (R:=aF _) ?_
 unfold L204
 refine Nil.ptr (aa.mk ?_)
 refine ag.rd .here (mG h0 hr) ?_
 rintro v rfl
 intro b5 _
 refine St.whole (r:=got K.N r) (by exact .head _) rfl (dH _ _).1 (dH _ _).2 ?_
 rw[hg]
 refine aa.mk (Ld.mk (by exact .head _) rfl ?_)
 refine ae.jG (Br.dec (fun e=>?_) (fun e=>?_))
 ·refine aa.mk (Ld.mk (by exact .head _) rfl ?_)
  refine aa.mk (Ld.mk (by exact .head _) rfl ?_)
  cases hN:K.N r with
  |none=>simp[yF,hN]at e<;>omega
  |some d=>
   obtain⟨rfl,rfl⟩:=he d hN
   have hv:d.v=y:=by simp[yF,hN]at e;omega
   obtain⟨e1,e2⟩:=P5 hN hv
   exact bO.mk .tail (by rw[e1,e2];rfl)
 ·obtain⟨e1,e2⟩:=P6 (N:=K.N) (y:=y) (r:=r) fun d hd=>by simp[yF,hd]at e<;>omega
  exact bO.mk .tail (by rw[e1,e2])
def iE(c:Cx):List Value:=[u32 c.r,.int .i64 (c.d.v:Int),u32 c.d.lo,u32 c.d.hi,u32 c.vB,u32 c.vA,u32 c.si,u32 c.sg]
theorem kH(c:Cx):∀x∈iE c,x.oneCell'=true:=by intro x hx;simp[iE,u32]at hx;rcases hx with rfl|rfl|rfl|rfl|rfl|rfl|rfl|rfl<;>rfl
structure vG(N:gK)(x y:Nat)(l:List Nat)(all:List Cx):Prop where
 nd:(all.map Cx.r).Nodup
 mem:∀c,c∈all↔c.r∈l∧lE N x y c.r c.d∧c=mP N y c.r c.d
theorem vG.skip{N:gK}{x y r:Nat}{l:List Nat}{all:List Cx}{d:Nd}(h:vG N x y l all)(hd:N r=some d)(hn:¬lE N x y r d):vG N x y (l++[r]) all where
 nd:=h.nd
 mem:=fun c=>by
  rw[h.mem,List.mem_append]
  constructor
  ·rintro⟨h1,h2⟩;exact⟨.inl h1,h2⟩
  ·rintro⟨h1|h1,h2,h3⟩
   ·exact⟨h1,h2,h3⟩
   ·simp at h1
    have:=h2.1
    rw[h1,hd]at this;cases this
    rw[h1]at h2;exact absurd h2 hn
theorem vG.more{N:gK}{x y r:Nat}{l:List Nat}{all:List Cx}{d:Nd}(h:vG N x y l all)(hr:r∉l)(hn:lE N x y r d):vG N x y (l++[r]) (all++[mP N y r d]) where
 nd:=by
  rw[List.map_append]
  refine List.nodup_append.2 ⟨h.nd,by simp,fun a ha b hb e=>?_⟩
  simp[mP]at hb
  subst e
  obtain⟨c,hc,rfl⟩:=List.mem_map.1 ha
  exact hr (hb▸((h.mem c).1 hc).1)
 mem:=fun c=>by
  rw[List.mem_append,h.mem,List.mem_append,List.mem_singleton,List.mem_singleton]
  constructor
  ·rintro(⟨h1,h2⟩|rfl)
   ·exact⟨.inl h1,h2⟩
   ·exact⟨.inr rfl,hn,rfl⟩
  ·rintro⟨h1|h1,h2,h3⟩
   ·exact .inl ⟨h1,h2,h3⟩
   ·right
    have h4:=h2.1
    rw[h1,hn.1]at h4;cases h4
    exact h3.trans (by rw[h1])
theorem vG.all{N:gK}{x y:Nat}{l:List Nat}{all:List Cx}(h:vG N x y l all)(hl:∀r d,N r=some d→d.v=x→r∈l):G9 N x y all where
 nd:=h.nd
 mem:=fun c=>by
  rw[h.mem]
  exact⟨fun h=>h.2,fun h=>⟨hl _ _ h.1.1 h.1.2.1,h⟩⟩
theorem xH(h:c6 kp K ord ax tr C){r:Nat}(hl:live K.N r)(h2:∀d,K.N r=some d→2≤r){H:Hp}{c:Hp→Hp}(hh:cy C H c){g:Gh}{Q:Value→Hp→Prop}{KP:List PanicEntry→Hp→Prop}
 (hk:∀lo hi,got K.N r=[.int .i64 (yF K.N r),u32 lo,u32 hi]→(∀e,K.N r=some e→lo=e.lo∧hi=e.hi)→Q (.agg #[.int .i64 (yF K.N r),u32 lo,u32 hi]) H):ag Tryz.prog g 174 #[ptr kp,u32 r] H Q KP:=by
 have hr:=h.lt hl
 obtain⟨lo,hi,hg,he⟩:=Ad hl h2
 refine ag.rd hh (mG h (by omega)) ?_
 rintro v rfl
 have:=hk lo hi hg he
 rw[hg]
 exact this
theorem ye(h:c6 kp K ord ax tr C)(hok:Ok K S (lv ax)){x y:Nat}(hx:x<K.n):
  Fc Tryz.prog 134 #[ptr kp,.int .i64 (x:Int),.int .i64 (y:Int)] C (fun r H=>∃all Na,H=Na++C∧aS 203 8 r (all.map iE) Na∧G9 K.N x y all∧all.length≤1048576):=by
 have hcap:=h.cap
 have h0:=h
 obtain⟨b,hC,hO⟩:=h
 have QC:∀d r,K.T d=some r↔K.N r=some d:=fun d r=>by rw[hok.mid.jL];exact⟨fun h=>h.1,fun h=>⟨h,fun x=>x⟩⟩
 have two:∀{r d},K.N r=some d→2≤r:=fun hd=>(hok.mid.two hd).1
 intro g
 refine Fk (R:=aF _) ?_
 unfold L134
 rw[hC]
 refine Nil.ptr (aa.mk (aa.mk ?_))
 refine Ld.mk (v:=ptr b.pt) (by exact .head _) rfl ?_
 refine ag.fn (.cons (.app .left)) (P2 hO.ut hx (fun d d' r h1 h2=>by rw[QC]at h1 h2;rw[h1]at h2;cases h2;rfl) (fun d r h1=>by have:=(hok.mid.two ((QC d r).1 h1)).2;omega)) ?_
 rintro w H ⟨sl,l,Nr,rfl,rfl,Z9,g8,hmem⟩
 refine Ext.mk rfl (Ext.mk rfl ?_)
 refine Z9.aR ?_
 rw[an]
 have hl:∀r∈l,∃d,K.N r=some d∧d.v=x:=fun r hr=>by obtain⟨d,h1,h2⟩:=(hmem r).1 hr;exact⟨d,(QC d r).1 h1,h2⟩
 have hlen:l.length≤1048576:=by
  have:=bZ (l':=List.range 1048576) g8 fun r hr=>by
   obtain⟨d,hd,_⟩:=hl r hr
   have:=(hok.mid.two hd).2
   exact List.mem_range.2 (by omega)
  simpa using this
 refine⟨fun vs H=>∃(v:Value) (i:Nat) (all:List Cx) (Na:Hp),vs=[v,.int .i64 (i:Int)]∧H=Na++(Nr++C)∧i≤l.length∧aS 203 8 v (all.map iE) Na∧vG K.N x y (l.take i) all∧all.length≤i,
  fun vs _=>l.length-bg vs 1,JE.of (cy.out (C:=b.CT) (.cons (.app .left)) Nr) ⟨_,0,[],[],rfl,by rw[hC];rfl,Nat.zero_le _,aS.nil _ _,⟨by simp,by simp⟩,Nat.le_refl _⟩,?_⟩
 rintro w w' H ⟨v,i,all,Na,hw,rfl,hi,ho,II,ql⟩ gs
 simp only[List.cons.injEq,and_true]at hw
 obtain⟨rfl,rfl⟩:=hw
 refine ae.dz (Br.dec (fun hlt=>?_) (fun hge=>?_))
 rotate_left
 ·have:i=l.length:=by omega
  subst this
  rw[List.take_length]at II
  refine aF.mk (lT:=Na++C) ?_ ⟨all,Na,by rw[hC],ho,II.all fun r d hd hv=>(hmem r).2 ⟨d,(QC d r).2 hd,hv⟩,by omega⟩
  exact aO.cL .right Na
 obtain⟨r,xU⟩:∃r,l[i]? =some r:=⟨_,List.getElem?_eq_getElem hlt⟩
 have l8:l.take (i+1)=l.take i++[r]:=by rw[List.take_add_one,xU];rfl
 have hrn:r∉l.take i:=fun hm=>by
  have:(l.take (i+1)).Nodup:=g8.sublist (List.take_sublist _ _)
  rw[l8]at this
  exact(List.nodup_append.1 this).2.2 r hm r (by simp) rfl
 obtain⟨d,hd,Cr⟩:=hl r (List.mem_of_getElem? xU)
 have UX:=hok.mid.lo hd
 have UY:=hok.mid.hi hd
 intro uT CC
 have next:∀v' Oy Wt,aS 203 8 v' (Oy.map iE) Wt→vG K.N x y (l.take (i+1)) Oy→Oy.length≤i+1→uT [v'] (Wt++(Nr++C)):=fun v' Oy Wt h1 h2 h3=>
  CC _ _ fun gs=>ae.aH (b:=1) (by simp[aB];omega) (ay.mk ⟨v',i+1,Oy,Wt,rfl,rfl,by omega,h1,h2,h3⟩ (by simp[bg];omega))
 refine Z9.ld (x:=(r:Int)) (cj xU) (fun y hy=>List.mem_append_right _ (List.mem_append_left _ hy)) ?_
 refine Nil.ptr (aa.mk ?_)
 refine xH h0 (.inr ⟨d,hd⟩) (fun _ h=>two h) (.app (.app .here)) fun lo hi hg he=>?_
 obtain⟨rfl,rfl⟩:=he d hd
 have hvr:yF K.N r=(x:Int):=by simp[yF,hd,Cr]
 rw[hvr]
 intro A4 _
 refine St.whole (r:=[.int .i64 (x:Int),u32 d.lo,u32 d.hi]) (by exact .head _) rfl rfl (by intro z hz;simp[u32]at hz;rcases hz with rfl|rfl|rfl<;>rfl) ?_
 obtain⟨H0,Q8⟩:∃H0,H0=(A4,Obj.cells #[.int .i64 (x:Int),u32 d.lo,u32 d.hi] 161 (0,0))::(Na++(Nr++C)):=⟨_,rfl⟩
 have hEq:((A4,Obj.cells [Value.int .i64 (x:Int),u32 d.lo,u32 d.hi].toArray 161 (0,0))::(Na++(Nr++C)))=H0:=Q8.symm
 rw[hEq]
 intro OF Nz
 have skip:¬lE K.N x y r d→OF [.bool true] H0:=fun hn=>Nz _ _ fun gs=>Br.yes (JE.of (by rw[Q8];exact .tail) (next w all Na ho (by rw[l8];exact II.skip hd hn) (by omega)))
 have take:lE K.N x y r d→OF [.bool false] H0:=fun hn=>by
  refine Nz _ _ fun gs=>Br.no ?_
  rw[Q8]
  refine az.whole (r:=[.int .i64 (x:Int),u32 d.lo,u32 d.hi]) (by exact .head _) rfl ?_
  refine Build.mk (cs:=iE ⟨r,⟨x,d.lo,d.hi⟩,0,0,0,0⟩) (by kernel_rfl) ?_
  intro On _
  refine St.whole (r:=iE ⟨r,⟨x,d.lo,d.hi⟩,0,0,0,0⟩) (by exact .head _) rfl rfl (kH _) ?_
  refine aa.mk (Ld.mk (by exact .tail _ (.head _)) rfl ?_)
  refine ag.rd (.cons (.cons (.app (.app .here)))) (zl h0 (by have:=h0.lt UX;omega) UX (fun _ h=>two h) y) ?_
  rintro w rfl
  refine Ext.mk rfl (Ext.mk rfl ?_)
  refine aa.mk (St.one (by exact .head _) rfl (by simp[iE]) rfl ?_)
  refine aa.mk (St.one (by exact .head _) rfl (by simp[iE]) rfl ?_)
  refine aa.mk (Ld.mk (by exact .tail _ (.head _)) rfl ?_)
  refine ag.rd (.cons (.cons (.app (.app .here)))) (zl h0 (by have:=h0.lt UY;omega) UY (fun _ h=>two h) y) ?_
  rintro w rfl
  refine Ext.mk rfl (Ext.mk rfl ?_)
  refine aa.mk (St.one (by exact .head _) rfl (by simp[iE]) rfl ?_)
  refine aa.mk (St.one (by exact .head _) rfl (by simp[iE]) rfl ?_)
  have ej:d=⟨x,d.lo,d.hi⟩:=by cases d;simp at Cr;subst Cr;rfl
  have hcell:iE (mP K.N y r d)=[u32 r,.int .i64 (x:Int),u32 d.lo,u32 d.hi,u32 (pl K.N y d.lo),u32 (ph K.N y d.lo),u32 (pl K.N y d.hi),u32 (ph K.N y d.hi)]:=by
   simp[iE,mP,Cr]
  refine az.whole (r:=iE (mP K.N y r d)) (by rw[hcell];exact .head _) rfl ?_
  refine av.one (e:=203) (z:=.agg #[.int .u32 0,.int .i64 0,.int .u32 0,.int .u32 0,.int .u32 0,.int .u32 0,.int .u32 0,.int .u32 0]) (k:=8) (r:=iE (mP K.N y r d)) (by kernel_rfl) (by kernel_rfl) (by kernel_rfl) (by decide) rfl fun xb=>?_
  refine ho.mW (.cons (.cons (.cons .left))) (by exact .head _) rfl (kH _) ⟨_,rfl,rfl⟩ (by simp;omega) (by simp;omega) fun v' Wt bX=>?_
  refine JE.of (.skip (.skip .tail)) (next v' (all++[mP K.N y r d]) Wt (by rw[List.map_append];exact bX) (by rw[l8];exact II.more hrn hn) (by simp;omega))
 refine DR.of (R:=[(A4,Obj.cells #[.int .i64 (x:Int),u32 d.lo,u32 d.hi] 161 (0,0))]) (by rw[Q8];exact .left (A:=[_])) ?_
 refine Nil.ptr (aa.mk (aa.mk (Ld.mk (by exact .head _) rfl ?_)))
 have heR:aO H0 [(A4,Obj.cells #[.int .i64 (x:Int),u32 d.lo,u32 d.hi] 161 (0,0))]:=by rw[Q8];exact .left (A:=[_])
 intro F
 rw[Q8]
 refine xH h0 UX (fun _ h=>two h) (.cons (.app (.app .here))) fun lo1 V8 hg1 Wa=>?_
 rw[←Q8]
 refine⟨heR,Bb.mk rfl (ae.dX (Br.dec (fun hne=>?_) (fun he=>?_)))⟩
 ·refine Nil.ptr (aa.mk (aa.mk (Ld.mk (by exact .head _) rfl ?_)))
  intro F2
  rw[Q8]
  refine xH h0 UY (fun _ h=>two h) (.cons (.app (.app .here))) fun lo2 Cn SK V9=>?_
  rw[←Q8]
  refine⟨heR,Bb.mk rfl (ae.dX (aA.mk ?_))⟩
  by_cases e2:yF K.N d.hi=(y:Int)
  ·rw[decide_eq_false (by simpa using e2)]
   refine JE.mk (take ⟨hd,Cr,.inr ?_⟩)
   cases hN:K.N d.hi with
   |none=>simp[yF,hN]at e2<;>omega
   |some f=>exact⟨f,rfl,by simp[yF,hN]at e2;omega⟩
  ·rw[decide_eq_true (by simpa using e2)]
   refine JE.mk (skip ?_)
   rintro⟨_,_,⟨f,hf,X4⟩|⟨f,hf,X4⟩⟩
   ·exact hne (by simp[yF,hf,X4])
   ·exact e2 (by simp[yF,hf,X4])
 ·have e1:yF K.N d.lo=(y:Int):=by simpa using he
  refine JE.mk (take ⟨hd,Cr,.inl ?_⟩)
  cases hN:K.N d.lo with
  |none=>simp[yF,hN]at e1<;>omega
  |some f=>exact⟨f,rfl,by simp[yF,hN]at e1;omega⟩
end
end Go.Proofs
set_option maxRecDepth 100000
namespace Go.Proofs
open Go Go.Sx
open aZ
section
def zOf:Value→Int
 | .int _ z=>z
 |_=>0
abbrev vrZ(v:Value)(z:Int):Prop:=v=.int .i64 z
def uE(es:Array MapEntry)(ck:Nat)(ks:List Nd):Prop:=∃m:List (Nd×Int),bu nK vrZ es ck m∧m.map Prod.fst=ks
theorem uE.empty:uE #[] 0 []:=⟨[],bu.empty,rfl⟩
theorem uE.of{es:Array MapEntry}{ck:Nat}{m:List (Nd×Int)}(h:bu nK (fun v _=>∃z,v=.int .i64 z) es ck m):uE es ck (m.map Prod.fst):=by
 have hlen:es.toList.length=m.length:=by simpa using h.len
 have hz:((es.toList.zip m).map fun p=>((p.2.1,zOf p.1.val):Nd×Int)).map Prod.fst=m.map Prod.fst:=by
  rw[List.map_map]
  have:(Prod.fst∘fun(p:MapEntry×(Nd×Int))=>((p.2.1,zOf p.1.val):Nd×Int))=Prod.fst∘Prod.snd:=rfl
  rw[this,←List.map_map,List.map_snd_zip (by omega)]
 refine⟨_,⟨?_,fun i e x he hx=>?_,by rw[hz];exact h.nd,h.born,h.lt⟩,hz⟩
 ·simp[h.len]
 ·have hi:=(Array.getElem?_eq_some_iff.1 he).1
  have Cn:i<m.length:=by rw[←h.len];exact hi
  have hm:m[i]? =some m[i]:=List.getElem?_eq_getElem Cn
  obtain⟨h1,z,h2⟩:=h.key i e _ he hm
  have hx':x=(m[i].1,zOf e.val):=by
   have e1:es.toList[i]? =some e:=by rw[Array.getElem?_toList];exact he
   rw[List.getElem?_map,(List.getElem?_zip_eq_some (z:=(e,m[i]))).2 ⟨e1,hm⟩]at hx
   simpa using hx.symm
  subst hx'
  exact⟨h1,by rw[h2];rfl⟩
theorem Own.sub{g:Gh}{H:Hp}{w:World}(h:Own g H w){y:Nat×Obj}(hy:y∈H):Own g [y] w:=by
 obtain⟨X,Y,rfl⟩:=List.append_of_mem hy
 exact(h.perm List.perm_middle).left (A:=[y])
noncomputable abbrev FF:Func:=Tryz.f136
theorem six{i:Nat}(hi:i<6):¬Mb .any (nR FF 10) i 6:=fun h=>by
 have e6:(nR FF 10)[6]? =some (fX FF 10 6):=by kernel_rfl
 have:=h _ e6
 have hm:(⟨i,.phase⟩:Edge)∈(fX FF 10 6).after:=by
  have ea:(fX FF 10 6).after=#[⟨0,.data⟩,⟨5,.data⟩,⟨3,.data⟩,⟨4,.chain⟩,⟨0,.phase⟩,⟨1,.phase⟩,⟨2,.phase⟩,⟨3,.phase⟩,⟨4,.phase⟩,⟨5,.phase⟩]:=by kernel_rfl
  rw[ea]
  rcases i with _|_|_|_|_|_|i
  all_goals first|omega|simp
 exact this _ hm rfl rfl
end
end Go.Proofs
