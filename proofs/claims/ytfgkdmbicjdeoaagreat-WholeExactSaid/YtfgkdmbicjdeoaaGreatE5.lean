import Derived.Test.YtfgkdmbicjdeoaaGreatE4
import Derived.Test.YtfgkdmbicjdeoaaGreatE3
import Derived.Test.YtfgkdmbicjdeoaaGreatE1
import Derived.Deep.Slices
import Derived.SizedLaws
import Derived.Test.YtfgkdmbicjdeoaaGreatE2
set_option linter.unusedVariables false
set_option linter.unusedSimpArgs false
set_option linter.unusedSectionVars false
set_option maxRecDepth 100000
namespace Go.Proofs
open Go Go.Sx
open aE
section
variable {kp gb n:Nat} {vr vf:Value} {refs:List Nat} {fs:List (List Nat)} {K:Kd} {S:Nat→aE.Fn} {ord ah tr:List Nat} {C B:Hp}
theorem cK.perm(hK:cK kp K S ord ah tr C):ord.Perm (List.range K.n):=by
 have jD:=hK.od
 refine jq ?_ (fun x hx=>?_) (by rw[List.length_range,jD.len];exact Nat.le_refl _)
 ·refine List.pairwise_iff_getElem.2 fun i j hi hj hij e=>?_
  have g1:=(jD.kC i (by rw[←jD.len];exact hi)).2
  have g2:=(jD.kC j (by rw[←jD.len];exact hj)).2
  rw[List.getD_eq_getElem?_getD,List.getElem?_eq_getElem hi,e]at g1
  rw[List.getD_eq_getElem?_getD,List.getElem?_eq_getElem hj]at g2
  omega
 ·obtain⟨i,hi,rfl⟩:=List.mem_iff_getElem.1 hx
  rw[jD.len]at hi
  have:=(jD.kC i hi).1
  rw[List.getD_eq_getElem?_getD,List.getElem?_eq_getElem (by rw[jD.len];exact hi)]at this
  exact List.mem_range.2 this
theorem tI{p:List Nat}{m:Nat}(h:p.Perm (List.range m)):mJ (iw p):=by
 rw[ny,ak,h.length_eq,List.length_range]
 exact h.map _
def oO(kp:Nat)(K:Kd)(S:Nat→aE.Fn)(ord ah tr:List Nat)(lo hi f:aE.Fn)(w:Value)(H:Hp):Prop:=
 (∃x K' S',w=.tuple #[u32 x,.int .i64 0]∧cK kp K' S' ord ah [] H∧pU K S K' S' f x)∨
 (w=.tuple #[u32 0,.int .i64 9]∧(∃K' S' uH,cK kp K' S' ord ah uH H∧(uH=[]∨uH=tr)∧Kept K S K' S')∧¬Fits (aO K.n ord (fun g=>((K.held S g∨g=lo)∨g=hi)∨g=f)) K.cap)
theorem oN.ask{lo hi f:aE.Fn}{w:Value}{H:Hp}(h:oN kp K S ord ah tr f w H):oO kp K S ord ah tr lo hi f w H:=by
 rcases h with h|⟨h1,h2,h3⟩
 ·exact .inl h
 ·exact .inr ⟨h1,h2,fun hf=>h3 (Fits.mono (fun g hg=>bU (fun g h=>h.imp (fun h=>.inl (.inl h)) id) hg) hf)⟩
theorem x4.ask{lo hi f:aE.Fn}{w:Value}{H:Hp}(h:x4 kp K S ord ah tr lo hi f w H):oO kp K S ord ah tr lo hi f w H:=by
 rcases h with h|⟨h1,h2,h3⟩
 ·exact .inl h
 ·refine .inr ⟨h1,h2,fun hf=>?_⟩
  rcases h3 with h3|h3|h3
  ·exact h3 (Fits.mono (fun g hg=>bU (fun g h=>.inl (.inl h)) hg) hf)
  ·exact h3 (Fits.mono (fun g hg=>bU (fun g h=>.inl h) hg) hf)
  ·exact h3 hf
theorem oO.two{lo hi f:aE.Fn}{w:Value}{H:Hp}(h:oO kp K S ord ah tr lo hi f w H):∃x y,w=.tuple #[x,y]:=by
 rcases h with⟨x,K',S',rfl,_⟩|⟨rfl,_⟩
 ·exact⟨_,_,rfl⟩
 ·exact⟨_,_,rfl⟩
theorem MG{c:Hp→Hp}(hc:bS C B c)(hcell:∀Z,gW gb kp K.n vr vf∈c Z)(hK:cK kp K S ord ah tr C)(um:1≤K.n){o:ur}(ho:o.Ok){r h i:Nat}(hr:live K.N r)(hh:live K.N h)(hi:live K.N i)(hB:∀s,K.hold s+2+2^K.n≤65535):
  Fc Tryz.prog 128 #[ptr gb,.agg o.cells.toArray,u32 r,u32 h,u32 i] B (fun w H=>∃C',H=c C'∧oO kp K S ord ah tr (fun x=>S r (an.az x (o.v%K.n) false)) (fun x=>S r (an.az x (o.v%K.n) true)) (RJ (o.k%9) (o.v%K.n) o.x (S r) (S h) (S i)) w C'):=by
 have rA:1≤2^K.n:=Nat.one_le_two_pow
 have zk:=hK.kC.Ax
 have V7:gW gb kp K.n vr vf∈B:=by rw[hc.spec.1];exact hcell C
 have Jj:∀s,K.hold s+2^K.n≤65535:=fun s=>by have:=hB s;omega
 have HD:∀s,K.hold s+2<65535:=fun s=>by have:=hB s;omega
 have Jf:∀s,K.hold s+1<65535:=fun s=>by have:=hB s;omega
 intro g
 refine EA (R:=aA _) ?_
 unfold L128
 intro b1 _
 refine aa.mk (Ld.mk (v:=.int .u8 (o.v:Int)) (by exact .head _) rfl ?_)
 refine aW.nat (by have:=ho.v;simp[aB];omega) ?_
 refine Nil.ptr (aa.mk (Ld.mk (v:=.int .i64 (K.n:Int)) (by exact .tail _ V7) rfl ?_))
 refine ae.ry (by omega) ?_
 have hv:=Nat.mod_lt o.v (show 0<K.n by omega)
 generalize o.v%K.n=v at*
 have hx:=ho.x
 refine aa.mk (Ld.mk (v:=.int .u8 (o.k:Int)) (by exact .head _) rfl ?_)
 refine ae.ry (b:=9) (by decide) ?_
 have hk9:=Nat.mod_lt o.k (show 0<9 by decide)
 generalize o.k%9=k at*
 obtain⟨Q,hQ⟩:∃Q:Value→Hp→Prop,Q=fun w H=>∃C',H=c C'∧oO kp K S ord ah tr (fun x=>S r (an.az x v false)) (fun x=>S r (an.az x v true)) (RJ k v o.x (S r) (S h) (S i)) w C':=⟨_,rfl⟩
 rw[←hQ]
 have fin:∀w C',oO kp K S ord ah tr (fun x=>S r (an.az x v false)) (fun x=>S r (an.az x v true)) (RJ k v o.x (S r) (S h) (S i)) w C'→
   Ext 0 w fun u=>Ext 1 w fun u'=>aA Q (.returned (.tuple #[u,u'])) ((b1,.cells o.cells.toArray 106 (0,0))::c C'):=fun w C' hA=>by
  obtain⟨x,y,rfl⟩:=hA.two
  refine Ext.mk rfl (Ext.mk rfl (aA.mk .tail ?_))
  rw[hQ];exact⟨C',rfl,hA⟩
 have jb:∀C',aQ ((b1,.cells o.cells.toArray 106 (0,0))::c C') [(b1,.cells o.cells.toArray 106 (0,0)),gW gb kp K.n vr vf]:=fun C'=>.cons (.Zt (hcell C'))
 refine ae.eB (b:=0) (Br.dec (fun h0=>?_) (fun h0=>?_))
 ·subst h0
  refine Nil.ptr (aa.mk (Ld.mk (v:=ptr kp) (by exact .tail _ V7) rfl ?_))
  refine af.fn (.cons hc) (PI hK hv (fun s=>by have:=hB s;omega)) ?_
  intro w C' hD
  exact fin w C' hD.ask
 refine ae.eB (b:=1) (Br.dec (fun h0=>?_) (fun h0=>?_))
 ·subst h0
  refine Nil.ptr (aa.mk (Ld.mk (v:=ptr kp) (by exact .tail _ V7) rfl ?_))
  refine af.fn (.cons hc) (PO hK hr Jj) ?_
  intro w C' hD
  exact fin w C' hD.ask
 intro J hJ
 have BL:J [.bool (decide (k=2∨k=3))] ((b1,.cells o.cells.toArray 106 (0,0))::B):=by
  refine hJ _ _ fun gs=>?_
  refine Br.dec (fun WW=>?_) (fun WW=>?_)
  ·refine DR.of (R:=[(b1,.cells o.cells.toArray 106 (0,0)),gW gb kp K.n vr vf]) (by have:=jb C;rwa [←hc.spec.1]at this) ?_
   refine Nil.ptr (aa.mk (Ld.mk (v:=ptr kp) (by exact .tail _ (.head _)) rfl ?_))
   refine aa.mk (Ld.mk (v:=.int .u64 (o.x:Int)) (by exact .head _) rfl ?_)
   refine ae.ry (b:=16) (by decide) ?_
   have h16:=Nat.mod_lt o.x (show 0<16 by decide)
   refine aW.nat (by simp[aB];omega) ?_
   refine af.fn (.cons hc) (tL hK h16 hr hh Jj) ?_
   intro w C' hD
   refine⟨jb C',fin w C' ?_⟩
   rcases WW with rfl|rfl
   ·exact hD.ask
   ·exact hD.ask
  refine ae.eB (b:=4) (Br.dec (fun h0=>?_) (fun h0=>?_))
  ·subst h0
   refine Nil.ptr (aa.mk (Ld.mk (v:=ptr kp) (by exact .tail _ V7) rfl ?_))
   refine af.fn (.cons hc) (F9 hK hr hh hi Jj) ?_
   intro w C' hD
   exact fin w C' hD.ask
  refine ae.eB (b:=5) (Br.dec (fun h0=>?_) (fun h0=>?_))
  ·subst h0
   refine DR.of (R:=[(b1,.cells o.cells.toArray 106 (0,0)),gW gb kp K.n vr vf]) (by have:=jb C;rwa [←hc.spec.1]at this) ?_
   refine Nil.ptr (aa.mk (Ld.mk (v:=ptr kp) (by exact .tail _ (.head _)) rfl ?_))
   refine aa.mk (Ld.mk (v:=.int .u64 (o.x:Int)) (by exact .head _) rfl ?_)
   refine ae.ry (b:=2) (by decide) ?_
   refine ae.eB (b:=1) ?_
   refine af.fn (.cons hc) (wS hK hr hv Jf) ?_
   intro w C' hD
   exact⟨jb C',fin w C' hD.ask⟩
  have yc:2^v<18446744073709551616:=Nat.lt_of_lt_of_le (jr hv) (Nat.pow_le_pow_right (n:=2) (by decide) zk)
  have eq6:∀e:Bool,qf e v (S r)=fun y=>G8 (if e then 14 else 8) (S r (an.az y v false)) (S r (an.az y v true)):=fun e=>by
   funext y
   show(if e then S r (an.az y v false)||S r (an.az y v true)else S r (an.az y v false) &&S r (an.az y v true))=_
   cases e<;>cases S r (an.az y v false)<;>cases S r (an.az y v true)<;>rfl
  refine ae.eB (b:=6) (Br.dec (fun h0=>?_) (fun h0=>?_))
  ·subst h0
   refine DR.of (R:=[(b1,.cells o.cells.toArray 106 (0,0)),gW gb kp K.n vr vf]) (by have:=jb C;rwa [←hc.spec.1]at this) ?_
   refine Nil.ptr (aa.mk (Ld.mk (v:=ptr kp) (by exact .tail _ (.head _)) rfl ?_))
   refine ae.uI (a:=1) (by simp[IntKind.bits];omega) (by rw[Nat.one_shiftLeft];simpa[aB]using yc) ?_
   rw[Nat.one_shiftLeft]
   refine af.fn (.cons hc) (HP hK hr (jr hv) HD) ?_
   intro w C' hD
   have:=(iI.one hv hD).ask (lo:=fun x=>S r (an.az x v false)) (hi:=fun x=>S r (an.az x v true))
   rw[eq6 true]at this
   exact⟨jb C',fin w C' this⟩
  refine ae.eB (b:=7) (Br.dec (fun h0=>?_) (fun h0=>?_))
  ·subst h0
   refine DR.of (R:=[(b1,.cells o.cells.toArray 106 (0,0)),gW gb kp K.n vr vf]) (by have:=jb C;rwa [←hc.spec.1]at this) ?_
   refine Nil.ptr (aa.mk (Ld.mk (v:=ptr kp) (by exact .tail _ (.head _)) rfl ?_))
   refine ae.uI (a:=1) (by simp[IntKind.bits];omega) (by rw[Nat.one_shiftLeft];simpa[aB]using yc) ?_
   rw[Nat.one_shiftLeft]
   refine af.fn (.cons hc) (HN hK hr (jr hv) HD) ?_
   intro w C' hD
   have:=(iI.one hv hD).ask (lo:=fun x=>S r (an.az x v false)) (hi:=fun x=>S r (an.az x v true))
   rw[eq6 false]at this
   exact⟨jb C',fin w C' this⟩
  ·have:k=8:=by omega
   subst this
   refine Nil.ptr (aa.mk (Ld.mk (v:=ptr kp) (by exact .tail _ V7) rfl ?_))
   refine af.fn (.cons hc) (Py hK hr hv hh hB) ?_
   intro w C' hD
   exact fin w C' hD.ask
 refine ae.eB (b:=2) (Br.dec (fun h2=>?_) (fun h2=>?_))
 ·have:decide (k=2)=decide (k=2∨k=3):=by simp[h2]
  rw[this];exact JE.mk BL
 ·refine ae.eB (b:=3) ?_
  have:decide (k=3)=decide (k=2∨k=3):=by simp[h2]
  rw[this];exact JE.mk BL
theorem zz(hG:AM gb kp K.n vr vf refs fs C B)(hfr:∀t∈fs,an.dj K.n t)(hK:cK kp K S ord ah tr C)(hm:fs.length<65536){more:Value}{ms:List (List Nat)}(hmo:eL B more (ms.map fun ws=>⟨K.n,ws⟩))(hmf:∀t∈ms,an.dj K.n t)(hml:ms.length≤1)(hne:fs++ms≠[]):
  Px Tryz.prog 64 #[ptr gb,more] B (fun w H=>w=.int .i64 ((dA K.n ord (fs++ms) K.n:Nat):Int)):=by
 intro g
 refine Iw (R:=aA _) ?_
 unfold L64
 refine av.none (e:=57) (k:=2) (z:=.agg #[.int .i64 0,.slice none 0 0]) (by kernel_rfl) (by kernel_rfl) (by kernel_rfl) fun bx=>?_
 refine Nil.ptr (aa.mk (Ld.mk (v:=vf) (by exact .tail _ hG.cell) rfl ?_))
 obtain⟨rf,hSf,hEf⟩:=hG.fn
 obtain⟨rm,hSm,hEm⟩:=hmo
 have lf:rf.length=fs.length:=by rw[hEf.1,List.length_map]
 have lm:rm.length=ms.length:=by rw[hEm.1,List.length_map]
 have KE:∀{X:Hp} {rs:List (List Value)} {ts:List Tb},k7 (xU X) rs ts→∀r∈rs,∀u∈r,u.oneCell'=true:=fun hE r hr u hu=>by
  obtain⟨i,hi,rfl⟩:=List.mem_iff_getElem.1 hr
  obtain⟨s,hs,hw⟩:=hE.2 i _ _ (List.getElem?_eq_getElem hi) (List.getElem?_eq_getElem (by rw[←hE.1];exact hi))
  rw[hs]at hu
  simp only[List.mem_cons,List.not_mem_nil,or_false]at hu
  rcases hu with rfl|rfl
  ·rfl
  ·exact aH hw
 have Nq:aR 57 2 (.slice (some ⟨bx,0,none⟩) 0 0) [] [(bx,.cells (rows []) 57 (0,0))]:=aR.made [] (by simp)
 refine Nq.Af (C:=[(bx,.cells (rows []) 57 (0,0))]) (c:=fun X=>X++B) (bS.left (C:=[(bx,.cells (rows []) 57 (0,0))])) (hSf.mono zS) (KE hEf) ⟨[.int .i64 0,.slice none 0 0],rfl,rfl⟩ (by simp only[List.length_nil];omega) (by simp only[List.length_nil];omega) fun v8 C8 h8=>?_
 refine h8.Af .left (hSm.mono fun _ h=>List.mem_append_right _ h) (KE hEm) ⟨[.int .i64 0,.slice none 0 0],rfl,rfl⟩ (by simp only[List.nil_append];omega) (by simp only[List.nil_append];omega) fun bf C12 Uz=>?_
 refine Nil.ptr (aa.mk (Ld.mk (v:=ptr kp) (by exact List.mem_append_right _ hG.cell) rfl ?_))
 obtain⟨c,hc,_⟩:=hG.hole
 refine af.top (Q:=fun r N=>aN 3 .i64 r (iw ord) N) (.app hc) (qi hK.rep) ?_
 intro vo N ho
 have hT:eL (N++(C12++B)) bf ((fs++ms).map fun ws=>⟨K.n,ws⟩):=by
  refine⟨[]++rf++rm,(Sl.lj Uz (by decide)).mono fun _ h=>List.mem_append_right _ (List.mem_append_left _ h),?_,fun i r x hr hx=>?_⟩
  ·simp only[List.nil_append,List.length_append,List.length_map];omega
  ·rw[List.nil_append]at hr
   rw[List.map_append]at hx
   by_cases hi:i<rf.length
   ·rw[List.getElem?_append_left hi]at hr
    rw[List.getElem?_append_left (by rw[List.length_map];omega)]at hx
    obtain⟨s,h1,h2⟩:=hEf.2 i r x hr hx
    exact⟨s,h1,h2.mono zS⟩
   ·rw[List.getElem?_append_right (by omega)]at hr
    rw[List.getElem?_append_right (by rw[List.length_map];omega)]at hx
    rw[List.length_map,←lf]at hx
    obtain⟨s,h1,h2⟩:=hEm.2 _ r x hr hx
    exact⟨s,h1,h2.mono zS⟩
 refine af.px .here (Fa hT (fun t ht=>(List.mem_append.1 ht).elim (hfr t) (hmf t)) hne (by rw[List.length_append];omega) (ho.ints.mono fun _ h=>List.mem_append_left _ h) hK.od.len (tI hK.perm)) ?_
 rintro w N2 rfl
 refine Ext.mk rfl (Ext.mk rfl ?_)
 refine ae.dO (Br.bt (by decide) ?_)
 exact tM.mk (by repeat (first|exact aV.refl _|apply aV.cons|apply aV.app)) rfl
end
section
variable {kp gb n:Nat} {vr vf:Value} {refs:List Nat} {fs:List (List Nat)} {K:Kd} {S:Nat→aE.Fn} {ord ah tr:List Nat} {C B:Hp}
theorem aR.one{T:TypeId}{k:Nat}{v:Value}{l:List (List Value)}(h:aR T k v l C):v.oneCell'=true:=by obtain⟨a,c,e⟩:=aR.len h;rw[e];rfl
theorem Pj{r:Nat}(h2:r<2){s:Value}(B:Hp):Fc Tryz.prog 129 #[ptr gb,u32 r,.agg #[.int .i64 (n:Int),s]] B (fun _ H=>H=B):=by
 intro g
 refine tY (R:=aA _) ?_
 unfold L129
 intro b1 _
 exact ae.kB (b:=1) (Br.bt (by omega) (aA.mk .tail rfl))
theorem Ph{r:Nat}(h2:2≤r){s:Value}{CR CF D:Hp}{rs:List (List Value)}(hr:aN 77 .u32 vr (iw refs) CR)(hf:aR 57 2 vf rs CF)(hs:s.oneCell'=true)(HA:refs.length<1048576)(xw:rs.length<1048576):
  Fc Tryz.prog 129 #[ptr gb,u32 r,.agg #[.int .i64 (n:Int),s]] (gW gb kp n vr vf::(CR++(CF++D))) (fun _ H=>∃EY Nf Jx NH,H=gW gb kp n EY Nf::(Jx++(NH++D))∧aN 77 .u32 EY (iw (refs++[r])) Jx∧aR 57 2 Nf (rs++[[.int .i64 (n:Int),s]]) NH):=by
 intro g
 refine tY (R:=aA _) ?_
 unfold L129
 intro b1 _
 refine ae.kB (b:=1) (Br.fc (by omega) ?_)
 refine Nil.ptr (aa.mk (Ld.mk (v:=vr) (by exact .tail _ (.head _)) rfl ?_))
 refine av.int (e:=77) (by kernel_rfl) (by kernel_rfl) (by kernel_rfl) fun bx=>?_
 refine hr.oK (x:=(r:Int)) (.cons (.cons (.cons .left))) (by exact .head _) (by rw[ak];omega) (by rw[ak];omega) fun EY Jx hr'=>?_
 refine Nil.ptr (aa.mk (St.one (by exact .tail (.tail (.head _))) hr'.one (by simp) rfl ?_))
 refine DR.of (R:=[(b1,.cells #[.int .i64 (n:Int),s] 57 (0,0)),gW gb kp n EY vf]) (.skip (.cons (aQ.left (A:=[_])))) ?_
 refine Nil.ptr (aa.mk (Ld.mk (v:=vf) (by exact .tail _ (.head _)) rfl ?_))
 refine aC.whole (r:=[.int .i64 (n:Int),s]) (by exact .head _) rfl ?_
 refine j6 fun by'=>?_
 refine⟨.skip (.skip (.cons (aQ.left (A:=[_])))),?_⟩
 have h1:∀u∈[Value.int .i64 (n:Int),s],u.oneCell'=true:=by simpa[Value.oneCell']using hs
 refine hf.oK (r:=[.int .i64 (n:Int),s]) (.cons (.cons (.cons (.cons (.app .left))))) (by exact .head _) rfl h1 ⟨[.int .i64 0,.slice none 0 0],rfl,rfl⟩ (by omega) (by omega) fun Nf NH zo=>?_
 refine⟨.skip (.skip (.cons (aQ.left (A:=[_])))),?_⟩
 refine Nil.ptr (aa.mk (St.one (by exact .tail (.tail (.tail (.head _)))) (aR.one zo) (by simp) rfl ?_))
 refine aA.mk (.skip (.skip .tail)) ⟨EY,Nf,Jx,NH,rfl,?_,zo⟩
 rw[cm];exact hr'
structure P4(gb kp:Nat)(K:Kd)(S:Nat→aE.Fn)(ord ah tr:List Nat)(refs:List Nat)(fs:List (List Nat))(vr vf:Value)(M CR CF C:Hp)(rs:List (List Value)):Prop where
 ks:cK kp K S ord ah tr C
 L7:u5 K S refs fs
 rf:aN 77 .u32 vr (iw refs) CR
 fn:aR 57 2 vf rs CF
 row:k7 (xU M) rs (fs.map fun ws=>⟨K.n,ws⟩)
abbrev gG(gb kp n:Nat)(vr vf:Value)(CR CF C:Hp):Hp:=gW gb kp n vr vf::(CR++(CF++C))
theorem P4.look{rs:List (List Value)}{M CR CF:Hp}(h:P4 gb kp K S ord ah tr refs fs vr vf M CR CF C rs):mP gb kp K.n vr vf refs fs M (gG gb kp K.n vr vf CR CF C):=
 ⟨.head _,h.rf.ints.mono fun _ h=>.tail _ (List.mem_append_left _ h),rs,(Sl.lj h.fn (by decide)).mono fun _ h=>.tail _ (List.mem_append_right _ (List.mem_append_left _ h)),h.row⟩
theorem P4.Zj{rs:List (List Value)}{M CR CF:Hp}(h:P4 gb kp K S ord ah tr refs fs vr vf M CR CF C rs):rs.length=refs.length:=by
 rw[h.row.1,List.length_map,h.L7.len]
theorem Me(hn:K.n≤6)(hcap:K.cap=4000)(jD:aE.Ord K.n (lv ah) ord){L:List (List Nat)}(hf:∀t∈L,an.dj K.n t)(hl:L.length≤60):Fits (aO K.n ord (FT K.n L)) K.cap:=by
 refine⟨_,BU hf (by omega) (fun i hi=>(jD.kC i hi).1),?_⟩
 have h1:=jQ K.n ord L K.n
 have h2:2^K.n*L.length≤64*L.length:=Nat.mul_le_mul_right _ (Nat.pow_le_pow_right (n:=2) (by decide) hn)
 rw[hcap];omega
theorem u5.more(h:u5 K S refs fs)(hK:cK kp K S ord ah tr C){K':Kd}{S':Nat→aE.Fn}{f:aE.Fn}{x:Nat}{t:List Nat}(hg:pU K S K' S' f x)(hf:an.dj K.n t)(ht:eX K.n t=f):(2≤x→u5 K' S' (refs++[x]) (fs++[t]))∧(x<2→u5 K' S' refs fs):=by
 have old:∀i,i<refs.length→2≤refs.getD i 0∧eX K'.n (fs.getD i [])=S' (refs.getD i 0):=fun i hi=>by
  obtain⟨h1,h2⟩:=h.is i hi
  have hm:refs.getD i 0∈refs:=by rw[List.getD_eq_getElem?_getD,List.getElem?_eq_getElem hi];exact List.getElem_mem hi
  exact⟨h1,by rw[hg.n,h2,hg.fn _ (h.live hK hm)]⟩
 refine⟨fun h2=>⟨by simp[h.len],fun u hu=>?_,fun i hi=>?_,fun s=>?_⟩,fun h2=>⟨h.len,by rw[hg.n];exact h.nI,old,fun s=>by rw[hg.hold,h.hold,if_neg (by omega)];rfl⟩⟩
 ·rw[hg.n]
  rcases List.mem_append.1 hu with hu|hu
  ·exact h.nI u hu
  ·simp at hu;subst hu;exact hf
 ·by_cases hi':i<refs.length
  ·have e1:(refs++[x]).getD i 0=refs.getD i 0:=by rw[List.getD_eq_getElem?_getD,List.getElem?_append_left hi',←List.getD_eq_getElem?_getD]
   have e2:(fs++[t]).getD i []=fs.getD i []:=by rw[List.getD_eq_getElem?_getD,List.getElem?_append_left (by rw[←h.len];exact hi'),←List.getD_eq_getElem?_getD]
   rw[e1,e2];exact old i hi'
  ·have hie:i=refs.length:=by rw[List.length_append,List.length_singleton]at hi;omega
   have e1:(refs++[x]).getD i 0=x:=by rw[List.getD_eq_getElem?_getD,List.getElem?_append_right (by omega),hie,Nat.sub_self];rfl
   have e2:(fs++[t]).getD i []=t:=by rw[List.getD_eq_getElem?_getD,List.getElem?_append_right (by rw[←h.len];omega),hie,h.len,Nat.sub_self];rfl
   rw[e1,e2,hg.n,ht,hg.is]
   exact⟨h2,rfl⟩
 ·rw[hg.hold,h.hold,List.count_append,List.count_singleton]
  by_cases e:s=x
  ·subst e;simp[h2]
  ·have:(x==s)=false:=by simpa using fun e'=>e e'.symm
   simp[e,this]
def Xx(gb kp:Nat)(K:Kd)(S:Nat→aE.Fn)(ord ah:List Nat)(refs:List Nat)(M0:Hp)(o:ur)(w:Value)(H:Hp):Prop:=
 w=.bool true∧∃(x a b c:Nat) (K':Kd) (S':Nat→aE.Fn) (refs':List Nat) (fs':List (List Nat)) (vr vf:Value) (M CR CF C:Hp) (rs:List (List Value)),H=M++gG gb kp K.n vr vf CR CF C∧aV M0 M∧P4 gb kp K' S' ord ah [] refs' fs' vr vf M CR CF C rs∧K'.n=K.n∧K'.cap=K.cap∧
  refs'=refs++(if 2≤x then [x]else [])∧S' x=RJ (o.k%9) (o.v%K.n) o.x (S a) (S b) (S c)∧live K'.N x∧(∀s,live K.N s→S' s=S s)
set_option maxHeartbeats 1000000 in
theorem Qd{M CR CF:Hp}{rs:List (List Value)}(h:P4 gb kp K S ord ah tr refs fs vr vf M CR CF C rs)(um:1≤K.n)(hn:K.n≤6)(hcap:K.cap=4000)(hl:refs.length≤50){o:ur}(ho:o.Ok):
  Fc Tryz.prog 55 #[ptr gb,.agg o.cells.toArray] (M++gG gb kp K.n vr vf CR CF C) (Xx gb kp K S ord ah refs M o):=by
 have hK:=h.ks
 have jD:=hK.od
 have hlf:fs.length≤50:=by rw[←h.L7.len];exact hl
 have one:∀{X:Hp} {s:Value} {l:List Nat},Words X s l→∀x∈[Value.int .i64 (K.n:Int),s],x.oneCell'=true:=fun hw=>by have:=aH hw;simpa[Value.oneCell']using this
 intro g
 refine IB (R:=aA _) ?_
 unfold L55
 intro b1 _
 refine aa.mk (Ld.mk (v:=.int .u8 (o.a:Int)) (by exact .head _) rfl ?_)
 have Qj:mP gb kp K.n vr vf refs fs ((b1,Obj.cells o.cells.toArray 106 (0,0))::M) (gG gb kp K.n vr vf CR CF C):=h.look.grow fun _ h=>.tail _ h
 refine af.fn (C:=((b1,Obj.cells o.cells.toArray 106 (0,0))::M)++gG gb kp K.n vr vf CR CF C) .here (wU Qj h.L7 hK (by omega) (by omega) ho.a) ?_
 rintro w H ⟨M1,rfl,g1,r,_,rfl,lr,w1,⟨s1,rfl,jJ⟩,Jf,Jg⟩
 have m1:=g1.sub _ (List.Mem.head _)
 refine Ext.mk rfl (Ext.mk rfl ?_)
 intro b9 _
 refine St.whole (r:=[.int .i64 (K.n:Int),s1]) (by exact .head _) rfl rfl (one jJ) ?_
 refine aa.mk (Ld.mk (v:=.int .u8 (o.b:Int)) (by exact .tail _ (List.mem_append_left _ m1)) rfl ?_)
 have Qi:mP gb kp K.n vr vf refs fs ((b9,Obj.cells #[.int .i64 (K.n:Int),s1] 57 (0,0))::M1) (gG gb kp K.n vr vf CR CF C):=(Qj.grow g1.sub).grow fun _ h=>.tail _ h
 refine af.fn (C:=((b9,Obj.cells #[.int .i64 (K.n:Int),s1] 57 (0,0))::M1)++gG gb kp K.n vr vf CR CF C) .here (wU Qi h.L7 hK (by omega) (by omega) ho.b) ?_
 rintro w H ⟨M2,rfl,g2,q,_,rfl,lq,w2,⟨s2,rfl,pA⟩,HD,QC⟩
 have m1:=g2.sub _ (List.Mem.tail _ m1)
 have m9:=g2.sub _ (List.Mem.head _)
 refine Ext.mk rfl (Ext.mk rfl ?_)
 intro oI _
 refine St.whole (r:=[.int .i64 (K.n:Int),s2]) (by exact .head _) rfl rfl (one pA) ?_
 refine aa.mk (Ld.mk (v:=.int .u8 (o.c:Int)) (by exact .tail _ (List.mem_append_left _ m1)) rfl ?_)
 have Qh:mP gb kp K.n vr vf refs fs ((oI,Obj.cells #[.int .i64 (K.n:Int),s2] 57 (0,0))::M2) (gG gb kp K.n vr vf CR CF C):=(Qi.grow g2.sub).grow fun _ h=>.tail _ h
 refine af.fn (C:=((oI,Obj.cells #[.int .i64 (K.n:Int),s2] 57 (0,0))::M2)++gG gb kp K.n vr vf CR CF C) .here (wU Qh h.L7 hK (by omega) (by omega) ho.c) ?_
 rintro w H ⟨M3,rfl,g3,p,_,rfl,lp,w3,⟨s3,rfl,OF⟩,hf3,he3⟩
 have m1:=g3.sub _ (List.Mem.tail _ m1)
 have m9:=g3.sub _ (List.Mem.tail _ m9)
 have m18:=g3.sub _ (List.Mem.head _)
 refine Ext.mk rfl (Ext.mk rfl ?_)
 intro Q5 _
 refine St.whole (r:=[.int .i64 (K.n:Int),s3]) (by exact .head _) rfl rfl (one OF) ?_
 refine aC.whole (r:=o.cells) (by exact .tail _ (List.mem_append_left _ m1)) rfl ?_
 refine aC.whole (r:=[.int .i64 (K.n:Int),s1]) (by exact .tail _ (List.mem_append_left _ m9)) rfl ?_
 refine aC.whole (r:=[.int .i64 (K.n:Int),s2]) (by exact .tail _ (List.mem_append_left _ m18)) rfl ?_
 refine aC.whole (r:=[.int .i64 (K.n:Int),s3]) (by exact .head _) rfl ?_
 have Qg:mP gb kp K.n vr vf refs fs ((Q5,Obj.cells #[.int .i64 (K.n:Int),s3] 57 (0,0))::M3) (gG gb kp K.n vr vf CR CF C):=(Qh.grow g3.sub).grow fun _ h=>.tail _ h
 have t1:cJ ((Q5,Obj.cells #[.int .i64 (K.n:Int),s3] 57 (0,0))::M3) (.agg #[.int .i64 (K.n:Int),s1]) K.n (S r):=⟨w1,⟨s1,rfl,jJ.mono fun x hx=>.tail _ (g3.sub _ (.tail _ (g2.sub _ (.tail _ hx))))⟩,Jf,Jg⟩
 have t2:cJ ((Q5,Obj.cells #[.int .i64 (K.n:Int),s3] 57 (0,0))::M3) (.agg #[.int .i64 (K.n:Int),s2]) K.n (S q):=⟨w2,⟨s2,rfl,pA.mono fun x hx=>.tail _ (g3.sub _ (.tail _ hx))⟩,HD,QC⟩
 have t3:cJ ((Q5,Obj.cells #[.int .i64 (K.n:Int),s3] 57 (0,0))::M3) (.agg #[.int .i64 (K.n:Int),s3]) K.n (S p):=⟨w3,⟨s3,rfl,OF.mono fun x hx=>.tail _ hx⟩,hf3,he3⟩
 refine af.fn (C:=((Q5,Obj.cells #[.int .i64 (K.n:Int),s3] 57 (0,0))::M3)++gG gb kp K.n vr vf CR CF C) .here (J0 Qg (by omega) um ho t1 t2 t3) ?_
 rintro w H ⟨M4,rfl,g4,_,rfl,w4,⟨s4,rfl,Nk⟩,Wc,Yo⟩
 have m1:=g4.sub _ (List.Mem.tail _ m1)
 refine Ext.mk rfl (Ext.mk rfl ?_)
 intro Tz _
 refine St.whole (r:=[.int .i64 (K.n:Int),s4]) (by exact .head _) rfl rfl (one Nk) ?_
 refine aC.whole (r:=o.cells) (by exact .tail _ (List.mem_append_left _ m1)) rfl ?_
 have lJ:∀s,K.hold s≤50:=fun s=>by
  rw[h.L7.hold]
  have:=List.count_le_length (a:=s) (l:=refs)
  omega
 have yc:2^K.n≤64:=Nat.pow_le_pow_right (n:=2) (by decide) hn
 have hv:=Nat.mod_lt o.v (show 0<K.n by omega)
 obtain⟨M5,WH⟩:∃M5:Hp,M5=(Tz,Obj.cells #[.int .i64 (K.n:Int),s4] 57 (0,0))::M4:=⟨_,rfl⟩
 have Vl:mP gb kp K.n vr vf refs fs M5 (gG gb kp K.n vr vf CR CF C):=by rw[WH];exact(Qg.grow g4.sub).grow fun _ h=>.tail _ h
 have m38:(Tz,Obj.cells #[.int .i64 (K.n:Int),s4] 57 (0,0))∈M5:=by rw[WH];exact .head _
 have Ug:Words M5 s4 w4:=by rw[WH];exact Nk.mono fun _ h=>.tail _ h
 have gM:aV M M5:=by rw[WH];exact .cons ((((aV.refl M).cons.trans g1).cons.trans g2).cons.trans g3|>.cons.trans g4)
 change af Tryz.prog g _ _ (((Tz,Obj.cells #[.int .i64 (K.n:Int),s4] 57 (0,0))::M4)++gG gb kp K.n vr vf CR CF C) _ _
 rw[←WH]
 refine af.fn (args:=#[ptr gb,.agg o.cells.toArray,u32 r,u32 q,u32 p]) .here (MG (gb:=gb) (vr:=vr) (vf:=vf) (c:=fun Z=>M5++gG gb kp K.n vr vf CR CF Z) (.app (.cons (.app (.app .here)))) (fun Z=>List.mem_append_right _ (.head _)) hK um ho lr lq lp (fun s=>by have:=lJ s;omega)) ?_
 rintro w H ⟨C',rfl,(⟨x,K',S',rfl,iO,jj⟩|⟨rfl,_,hno⟩)⟩
 rotate_left
 ·exfalso
  refine hno (Fits.mono (fun g hg=>bU (fun g h'=>?_) hg) (Me hn hcap jD (L:=fs++[an.fu K.n w1 (o.v%K.n) false,an.fu K.n w1 (o.v%K.n) true,w4]) (fun t ht=>?_) (by rw[List.length_append];simp;omega)))
  ·rcases h' with((h'|h')|h')|h'
   ·obtain⟨t,ht,e⟩:=(h.L7.held g).1 h'
    exact⟨t,List.mem_append_left _ ht,e⟩
   ·exact⟨an.fu K.n w1 (o.v%K.n) false,by simp,by rw[nq Jf hv,Jg];exact h'⟩
   ·exact⟨an.fu K.n w1 (o.v%K.n) true,by simp,by rw[nq Jf hv,Jg];exact h'⟩
   ·exact⟨w4,by simp,by rw[Yo];exact h'⟩
  ·rcases List.mem_append.1 ht with ht|ht
   ·exact h.L7.nI t ht
   ·simp only[List.mem_cons,List.not_mem_nil,or_false]at ht
    rcases ht with rfl|rfl|rfl
    ·exact an.cW (by omega)
    ·exact an.cW (by omega)
    ·exact Wc
 refine Ext.mk rfl (Ext.mk rfl ?_)
 refine ae.dO (Br.bt (by decide) ?_)
 refine DR.self ?_
 refine aC.whole (r:=[.int .i64 (K.n:Int),s4]) (by exact List.mem_append_left _ m38) rfl ?_
 refine Nil.ptr (aa.mk (Ld.mk (v:=ptr kp) (by exact List.mem_append_right _ (.head _)) rfl ?_))
 refine j6 fun bs=>?_
 refine⟨.tail,?_⟩
 obtain⟨X3,hSl,hE⟩:=Vl.fn
 have aay:AM gb kp K'.n vr vf refs fs C' ((bs,Obj.cells #[.int .i64 (K.n:Int),s4] 57 (0,0))::(M5++gG gb kp K.n vr vf CR CF C')):=by
  rw[jj.n]
  refine AM.cons ?_ _
  refine⟨List.mem_append_right _ (.head _),h.rf.ints.mono fun _ h=>List.mem_append_right _ (.tail _ (List.mem_append_left _ h)),⟨rs,(Sl.lj h.fn (by decide)).mono fun _ h=>List.mem_append_right _ (.tail _ (List.mem_append_right _ (List.mem_append_left _ h))),h.row.mono fun _ _ h=>h.mono fun _ h=>List.mem_append_left _ (gM.sub _ h)⟩,
   _,.app (.cons (.app (.app .here))),fun Z=>List.mem_append_right _ (.head _)⟩
 have Lm:eL ((bs,Obj.cells #[.int .i64 (K.n:Int),s4] 57 (0,0))::(M5++gG gb kp K.n vr vf CR CF C')) (.slice (some ⟨bs,0,none⟩) 1 1) ([w4].map fun ws=>⟨K'.n,ws⟩):=by
  rw[jj.n]
  exact eL.one (cap:=0) (t:=⟨K.n,w4⟩) (.head _) (Ug.mono fun _ h=>.tail _ (List.mem_append_left _ h))
 refine af.px .here (zz (ms:=[w4]) aay (by rw[jj.n];exact h.L7.nI) iO (by omega) Lm (by rw[jj.n];intro t ht;simp at ht;subst ht;exact Wc) (by simp) (by simp)) ?_
 rintro w N5 rfl
 refine⟨.fO .tail,?_⟩
 have hsz:=jQ K'.n ord (fs++[w4]) K'.n
 have afy:2^K'.n*(fs++[w4]).length≤64*51:=by rw[jj.n,List.length_append];exact Nat.mul_le_mul yc (by simp;omega)
 refine ae.aL (b:=2) (by simp only[aB];omega) ?_
 refine af.rd (.app (.cons (.app (.cons (.app (.app .here)))))) (qj iO.rep) ?_
 rintro w rfl
 refine⟨.fO .tail,?_⟩
 refine ae.Bp ?_
 rw[jj.cap,hcap,decide_eq_true (by omega)]
 refine ae.jF (Br.bt (by decide) ?_)
 refine ae.dO ?_
 refine bT.or (a:=decide ((0:Int)≠0)) false (fun _=>Un.not ⟨rfl,rfl⟩) (by simp) fun gs=>?_
 refine Br.mk (fun hb=>by simp at hb) (fun _=>?_)
 refine aC.whole (r:=[.int .i64 (K.n:Int),s4]) (by exact List.mem_append_right _ (.tail _ (List.mem_append_left _ m38))) rfl ?_
 have more:=h.L7.more hK jj Wc Yo
 have row':k7 (xU (N5++(bs,Obj.cells #[.int .i64 (K.n:Int),s4] 57 (0,0))::M5)) rs (fs.map fun ws=>⟨K'.n,ws⟩):=by
  rw[jj.n]
  exact h.row.mono fun _ _ h=>h.mono fun _ h=>List.mem_append_right _ (.tail _ (gM.sub _ h))
 have eH:N5++(bs,Obj.cells #[.int .i64 (K.n:Int),s4] 57 (0,0))::(M5++gG gb kp K.n vr vf CR CF C')=(N5++(bs,Obj.cells #[.int .i64 (K.n:Int),s4] 57 (0,0))::M5)++gG gb kp K.n vr vf CR CF C':=by rw[List.append_assoc];rfl
 rw[eH]
 by_cases Hw:2≤x
 ·refine af.fn (.app .here) (Ph (n:=K.n) Hw (s:=s4) h.rf h.fn (aH Nk) (by omega) (by rw[h.Zj];omega)) ?_
  rintro w H ⟨EY,Nf,Jx,NH,rfl,hr',zo⟩
  refine aA.here ⟨rfl,x,r,q,p,K',S',refs++[x],fs++[w4],EY,Nf,_,Jx,NH,C',rs++[[.int .i64 (K.n:Int),s4]],rfl,.app (.cons gM),⟨iO,more.1 Hw,hr',zo,?_⟩,jj.n,jj.cap,by rw[if_pos Hw],jj.is,jj.live,jj.fn⟩
  refine⟨by rw[List.length_append,row'.1,List.map_append,List.length_append];rfl,fun i row t hr ht=>?_⟩
  rw[List.map_append]at ht
  by_cases hi:i<rs.length
  ·rw[List.getElem?_append_left hi]at hr
   rw[List.getElem?_append_left (by rw[←row'.1];exact hi)]at ht
   exact row'.2 i row t hr ht
  ·rw[List.getElem?_append_right (by omega)]at hr
   rw[List.getElem?_append_right (by rw[←row'.1];omega),←row'.1]at ht
   have h0:i-rs.length=0:=by
    have:=(List.getElem?_eq_some_iff.1 hr).1
    simp at this;omega
   rw[h0]at hr ht
   simp at hr ht
   subst hr;subst ht
   exact⟨s4,by rw[jj.n],Ug.mono fun _ h=>List.mem_append_right _ (.tail _ h)⟩
 ·refine af.fn .here (Pj (gb:=gb) (n:=K.n) (r:=x) (by omega) _) ?_
  rintro w H rfl
  exact aA.here ⟨rfl,x,r,q,p,K',S',refs,fs,vr,vf,_,CR,CF,C',rs,rfl,.app (.cons gM),⟨iO,more.2 (by omega),h.rf,h.fn,row'⟩,jj.n,jj.cap,by rw[if_neg Hw,List.append_nil],jj.is,jj.live,jj.fn⟩
end
section
variable {kp gb n:Nat} {vr vf:Value} {refs:List Nat} {fs:List (List Nat)} {K:Kd} {S:Nat→aE.Fn} {ord ah tr:List Nat} {C B:Hp}
theorem z9(hG:AM gb kp K.n vr vf refs fs C B)(hK:cK kp K S ord ah tr C){r l:Nat}(hr:live K.N r)(hl:l<dep K.n (lv ah) K.N r):
  Rd Tryz.prog 149 #[ptr gb,u32 r,.int .i64 (l:Int)] B (· =.bool true):=by
 obtain⟨c,hc,_⟩:=hG.hole
 have hlt:=hK.bZ hr
 intro g
 refine Em (R:=aA _) ?_
 unfold L149
 refine Nil.ptr (aa.mk (Ld.mk (v:=ptr kp) (by exact hG.cell) rfl ?_))
 refine af.rd (args:=#[ptr kp,u32 r]) hc (fV hK.rep (by omega)) ?_
 rw[bM.2 hr]
 rintro w rfl
 refine Ext.mk rfl (Ext.mk rfl ?_)
 intro b8 _
 refine St.whole (r:=got K.N r) (by exact .head _) rfl (aG _ _).1 (aG _ _).2 ?_
 refine ae.dO ?_
 rw[show decide ((if true=true then(0:Int)else 3)≠0)=false by decide]
 refine bT.or (a:=false) (decide (r<2)) (fun _=>ae.eA (b:=2) ⟨rfl,rfl⟩) rfl fun gs=>?_
 rw[Bool.false_or]
 refine Br.dec (fun h2=>?_) (fun h2=>?_)
 ·exact ae.jF (cz.mk .tail rfl)
 ·obtain⟨d,hd⟩:∃d,K.N r=some d:=by rcases hr with h|h;exact absurd h h2;exact h
  have hv:=hK.ok.wf.var hd
  rw[ay hd]at hl
  refine DR.self ?_
  refine Nil.ptr (aa.mk (Ld.mk (v:=ptr kp) (by exact .tail _ hG.cell) rfl ?_))
  rw[df hd (by omega)]
  refine aa.mk (Ld.mk (v:=.int .i64 (d.v:Int)) (by exact .head _) rfl ?_)
  refine af.rd (.cons hc) (nh hK.rep (d.v:Int)) ?_
  rw[if_pos (by omega)]
  rintro w rfl
  refine⟨.refl _,?_⟩
  refine Ext.mk rfl (Ext.mk rfl ?_)
  refine ae.jF ?_
  refine bT.and (a:=decide ((0:Int)=0)) (decide (l<lv ah d.v)) (fun _=>ae.kB ⟨rfl,rfl⟩) (by simp) fun gs=>?_
  rw[decide_eq_true hl]
  exact cz.mk .tail rfl
set_option maxHeartbeats 1000000 in
theorem NZ(hn:K.n≤16)(hK:cK kp K S ord ah tr C):∀(k:Nat) (r deep:Nat),K.n-dep K.n (lv ah) K.N r≤k→k+1≤deep→deep≤1000→∀(B:Hp) (t:Value),AM gb kp K.n vr vf refs fs C B→live K.N r→cJ B t K.n (S r)→
  Px Tryz.prog 66 #[ptr gb,u32 r,t,.int .i64 (deep:Int)] B (fun w _=>w=.bool true):=by
 have hW:=hK.ok.wf
 have hL:=hK.ok.lv
 have hI:=hK.ok.mid.int
 intro k
 induction k with
 |zero=>
  intro r deep hk hd hdm B t hG hr ht
  obtain⟨c,hc,_⟩:=hG.hole
  have hlt:=hK.bZ hr
  obtain⟨ws,⟨s,rfl,hw⟩,hf,he⟩:=ht
  have h2:r<2:=by
   rcases hr with h|⟨d,cV⟩
   ·exact h
   ·rw[ay cV]at hk
    have:=hL.lt _ (hW.var cV);omega
  have h1:∀{s:Value} {X:Hp} {l:List Nat},Words X s l→∀x∈[Value.int .i64 (K.n:Int),s],x.oneCell'=true:=fun hw=>by have:=aH hw;simpa[Value.oneCell']using this
  intro g
  refine wo (R:=aA _) ?_
  unfold L66
  intro b1 _
  refine ae.eB (b:=0) (Br.bt (by omega) ?_)
  refine Nil.ptr (aa.mk (Ld.mk (v:=ptr kp) (by exact .tail _ hG.cell) rfl ?_))
  refine af.rd (args:=#[ptr kp,u32 r]) (.cons hc) (fV hK.rep (by omega)) ?_
  rw[bM.2 hr]
  rintro w rfl
  refine Ext.mk rfl (Ext.mk rfl ?_)
  intro B5 _
  refine St.whole (r:=got K.N r) (by exact .head _) rfl (aG _ _).1 (aG _ _).2 ?_
  rw[dY h2]
  refine ae.dO (Br.bt (by decide) ?_)
  refine ae.eA (b:=2) (Br.fc h2 ?_)
  refine Nil.ptr (aa.mk (Ld.mk (v:=.int .i64 (K.n:Int)) (by exact .tail _ (.tail _ hG.cell)) rfl ?_))
  refine ae.eB (b:=1) ?_
  refine af.px .here (mS hn (decide (r=1)) _) ?_
  rintro w N ⟨_,rfl,ws',⟨s',rfl,dw⟩,zo,he'⟩
  refine Ext.mk rfl (Ext.mk rfl ?_)
  intro TA _
  refine St.whole (r:=[.int .i64 (K.n:Int),s']) (by exact .head _) rfl rfl (h1 dw) ?_
  intro J hJ
  refine ae.jF ?_
  refine Split.go (by decide) ?_
  refine aa.mk (Ld.mk (v:=.int .i64 (-1)) (by exact .tail _ (List.mem_append_right _ (.head _))) rfl ?_)
  refine ae.jF (aF.mk ?_)
  refine Split.go (by decide) ?_
  refine aC.whole (r:=[.int .i64 (K.n:Int),s']) (by exact .head _) rfl ?_
  refine aC.whole (r:=[.int .i64 (K.n:Int),s]) (by exact .tail _ (List.mem_append_right _ (.tail _ (.head _)))) rfl ?_
  refine af.rd .here (oZ (n:=K.n) (f:=fun _=>decide (r=1)) (f':=S r) ⟨ws',⟨s',rfl,dw.mono zS⟩,zo,he'⟩ ⟨ws,⟨s,rfl,hw.mono zS⟩,hf,he⟩) ?_
  rintro w ⟨x,rfl,hx⟩
  have:x=true:=hx.2 (by
   have:r=0∨r=1:=by omega
   rcases this with rfl|rfl
   ·exact funext fun x=>(hI.zero x).symm
   ·exact funext fun x=>(hI.one x).symm)
  subst this
  refine aF.mk (JE.mk (hJ _ _ fun gs=>?_))
  exact tM.mk (by repeat (first|exact aV.refl _|apply aV.cons|apply aV.app)) rfl
 |succ k ih=>
  intro r deep hk hd hdm B t hG hr ht
  by_cases Qy:K.n-dep K.n (lv ah) K.N r≤k
  ·exact ih r deep Qy (by omega) hdm B t hG hr ht
  obtain⟨c,hc,_⟩:=hG.hole
  have hlt:=hK.bZ hr
  have h0:=ht
  obtain⟨ws,⟨s,hts,hw⟩,hf,he⟩:=ht
  have hts:t=.agg #[.int .i64 (K.n:Int),s]:=hts
  subst hts
  obtain⟨d,cV⟩:∃d,K.N r=some d:=by
   cases e:K.N r with
   |none=>rw[aU e]at Qy;omega
   |some d=>exact⟨d,rfl⟩
  have h2:=hW.two cV
  have hv:=hW.var cV
  have ed:=ay (n:=K.n) (ah:=lv ah) cV
  have hlo:=hW.lo cV
  have hhi:=hW.hi cV
  have hne:=hK.ok.mid.ne cV
  have h1:∀{s:Value} {X:Hp} {l:List Nat},Words X s l→∀x∈[Value.int .i64 (K.n:Int),s],x.oneCell'=true:=fun hw=>by have:=aH hw;simpa[Value.oneCell']using this
  intro g
  refine wo (R:=aA _) ?_
  unfold L66
  intro b1 _
  refine ae.eB (b:=0) (Br.bt (by omega) ?_)
  refine Nil.ptr (aa.mk (Ld.mk (v:=ptr kp) (by exact .tail _ hG.cell) rfl ?_))
  refine af.rd (args:=#[ptr kp,u32 r]) (.cons hc) (fV hK.rep (by omega)) ?_
  rw[bM.2 hr]
  rintro w rfl
  refine Ext.mk rfl (Ext.mk rfl ?_)
  intro B5 _
  refine St.whole (r:=got K.N r) (by exact .head _) rfl (aG _ _).1 (aG _ _).2 ?_
  rw[df cV h2]
  refine ae.dO (Br.bt (by decide) ?_)
  refine ae.eA (b:=2) (Br.bt (by omega) ?_)
  refine DR.self ?_
  refine Nil.ptr (aa.mk (Ld.mk (v:=ptr kp) (by exact .tail _ (.tail _ hG.cell)) rfl ?_))
  refine aa.mk (Ld.mk (v:=.int .i64 (d.v:Int)) (by exact .head _) rfl ?_)
  refine af.rd (.cons (.cons hc)) (nh hK.rep (d.v:Int)) ?_
  rw[if_pos (by omega)]
  rintro w rfl
  refine⟨.refl _,?_⟩
  refine Ext.mk rfl (Ext.mk rfl ?_)
  refine aC.whole (r:=[.int .i64 (K.n:Int),s]) (by exact .tail _ (.head _)) rfl ?_
  refine aa.mk (Ld.mk (v:=.int .i64 (d.v:Int)) (by exact .head _) rfl ?_)
  refine af.px .here (lV (c:=false) (h0.mono zS) hv) ?_
  rintro w N1 ⟨_,rfl,w1,⟨s1,rfl,jJ⟩,Jf,Jg⟩
  refine Ext.mk rfl (Ext.mk rfl ?_)
  intro Xb _
  refine St.whole (r:=[.int .i64 (K.n:Int),s1]) (by exact .head _) rfl rfl (h1 jJ) ?_
  refine aC.whole (r:=[.int .i64 (K.n:Int),s]) (by exact .tail _ (List.mem_append_right _ (.tail _ (.head _)))) rfl ?_
  refine aa.mk (Ld.mk (v:=.int .i64 (d.v:Int)) (by exact .tail _ (List.mem_append_right _ (.head _))) rfl ?_)
  refine af.px .here (lV (c:=true) (h0.mono zS) hv) ?_
  rintro w N2 ⟨_,rfl,w2,⟨s2,rfl,pA⟩,HD,QC⟩
  refine Ext.mk rfl (Ext.mk rfl ?_)
  intro Xa _
  refine St.whole (r:=[.int .i64 (K.n:Int),s2]) (by exact .head _) rfl rfl (h1 pA) ?_
  obtain⟨Q,hQ⟩:∃Q:Hp,Q=(Xa,Obj.cells #[.int .i64 (K.n:Int),s2] 57 (0,0))::(N2++((Xb,.cells #[.int .i64 (K.n:Int),s1] 57 (0,0))::(N1++((B5,.cells (aP d).toArray 161 (0,0))::(b1,.cells (Value.agg #[.int .i64 (K.n:Int),s]).cells 57 (0,0))::B)))):=⟨_,rfl⟩
  have gQ:aV B Q:=by rw[hQ];exact .cons (.app (.cons (.app (.cons (.cons (.refl _))))))
  have Ub:(B5,Obj.cells (aP d).toArray 161 (0,0))∈Q:=by rw[hQ];exact .tail _ (List.mem_append_right _ (.tail _ (List.mem_append_right _ (.head _))))
  have q61:(Xb,Obj.cells #[.int .i64 (K.n:Int),s1] 57 (0,0))∈Q:=by rw[hQ];exact .tail _ (List.mem_append_right _ (.head _))
  have q71:(Xa,Obj.cells #[.int .i64 (K.n:Int),s2] 57 (0,0))∈Q:=by rw[hQ];exact .head _
  have YA:=hG.grow gQ
  have tlo:cJ Q (.agg #[.int .i64 (K.n:Int),s1]) K.n (S d.lo):=by
   rw[hQ]
   exact⟨w1,⟨s1,rfl,jJ.mono zS⟩,Jf,Jg.trans (funext fun x=>hW.child hL hI cV x false)⟩
  have thi:cJ Q (.agg #[.int .i64 (K.n:Int),s2]) K.n (S d.hi):=by
   rw[hQ]
   exact⟨w2,⟨s2,rfl,pA.mono zS⟩,HD,QC.trans (funext fun x=>hW.child hL hI cV x true)⟩
  intro J hJ
  have BL:J [.bool false] Q:=by
   refine hJ _ _ fun gs=>Br.no ?_
   intro J2 zw
   refine aa.mk (Ld.mk (v:=u32 d.lo) (by exact Ub) rfl ?_)
   refine aC.whole (r:=[.int .i64 (K.n:Int),s1]) (by exact q61) rfl ?_
   refine ae.bH (b:=1) (by simp[aB];omega) (by omega) ?_
   refine af.px .here (ih d.lo (deep-1) (by omega) (by omega) (by omega) Q _ YA hlo.1 tlo) ?_
   rintro w N3 rfl
   refine Split.go rfl ?_
   refine aa.mk (Ld.mk (v:=u32 d.hi) (by exact List.mem_append_right _ Ub) rfl ?_)
   refine aC.whole (r:=[.int .i64 (K.n:Int),s2]) (by exact List.mem_append_right _ q71) rfl ?_
   refine ae.bH (b:=1) (by simp[aB];omega) (by omega) ?_
   refine af.px .here (ih d.hi (deep-1) (by omega) (by omega) (by omega) (N3++Q) _ (YA.app N3) hhi.1 (thi.mono zS)) ?_
   rintro w N4 rfl
   refine aF.mk (JE.mk (zw _ _ fun gs=>?_))
   exact tM.mk (.app (.app gQ)) rfl
  rw[←hQ]
  refine ae.dO ?_
  refine Split.go (by decide) ?_
  refine ae.dO (aF.mk ?_)
  refine Split.go (by decide) ?_
  refine ae.dO (aF.mk ?_)
  refine Split.go (by decide) ?_
  refine aa.mk (Ld.mk (v:=u32 d.lo) (by exact Ub) rfl ?_)
  refine aa.mk (Ld.mk (v:=u32 d.hi) (by exact Ub) rfl ?_)
  refine ae.eB (aF.mk ?_)
  rw[decide_eq_false hne]
  refine Split.go rfl ?_
  refine aa.mk (Ld.mk (v:=u32 d.lo) (by exact Ub) rfl ?_)
  refine af.rd .here (z9 YA hK hlo.1 hlo.2) ?_
  rintro w rfl
  refine Un.not (aF.mk ?_)
  refine Split.go rfl ?_
  refine aa.mk (Ld.mk (v:=u32 d.hi) (by exact Ub) rfl ?_)
  refine af.rd .here (z9 YA hK hhi.1 hhi.2) ?_
  rintro w rfl
  refine Un.not (aF.mk (JE.mk BL))
theorem Pq(hG:AM gb kp K.n vr vf refs fs C B)(hg:u5 K S refs fs)(hK:cK kp K S ord ah tr C)(hn:K.n≤16)(hm:refs.length<65536)(hne:refs≠[]):
  Px Tryz.prog 21 #[ptr gb] B (fun w _=>w=.bool true):=by
 obtain⟨c,hc,_⟩:=hG.hole
 have hcap:=hK.ok.mid.cap
 have hroom:=hK.ok.mid.room
 have hfl:fs.length=refs.length:=hg.len.symm
 have SI:fs≠[]:=fun e=>hne (List.length_eq_zero_iff.1 (by rw[←hfl,e];rfl))
 have hsize:K.used-2=dA K.n ord fs K.n:=by
  have h1:=hK.ok.size hK.od
  have h2:=BU (n:=K.n) (ord:=ord) (L:=fs) hg.nI hn (fun i hi=>(hK.od.kC i hi).1)
  rw[show K.held S=FT K.n fs from funext fun g=>propext (hg.held g)]at h1
  exact h1.uniq h2
 have inj:∀i j,i<refs.length→j<refs.length→(refs.getD i 0=refs.getD j 0↔eX K.n (fs.getD i [])=eX K.n (fs.getD j [])):=fun i j hi hj=>by
  obtain⟨_,e1⟩:=hg.is i hi
  obtain⟨_,e2⟩:=hg.is j hj
  have m1:refs.getD i 0∈refs:=by rw[List.getD_eq_getElem?_getD,List.getElem?_eq_getElem hi];exact List.getElem_mem hi
  have m2:refs.getD j 0∈refs:=by rw[List.getD_eq_getElem?_getD,List.getElem?_eq_getElem hj];exact List.getElem_mem hj
  rw[e1,e2]
  exact⟨fun h=>by rw[h],fun h=>hK.ok.wf.same hK.ok.lv hK.ok.mid.int (hg.live hK m1) (hg.live hK m2) (congrFun h)⟩
 have iJ:∀{X:Hp} {i:Nat} {k:Value→Prop} {R:Hp},eL X vf (fs.map fun ws=>⟨K.n,ws⟩)→i<refs.length→(∀x∈X,x∈R)→(∀t,cJ X t K.n (eX K.n (fs.getD i []))→k t)→ai 2 vf (.int .i64 (i:Int)) fun p=>aC 2 R p k:=fun{X i k R} hT hi hs hk=>by
  have hi':i<fs.length:=by omega
  have e':fs.getD i []=fs[i]:=by rw[List.getD_eq_getElem?_getD,List.getElem?_eq_getElem hi'];rfl
  refine hT.ld (i:=i) (t:=⟨K.n,fs[i]⟩) (by rw[List.getElem?_map,List.getElem?_eq_getElem hi'];rfl) hs fun s hw=>hk _ ?_
  exact⟨fs[i],⟨s,rfl,hw⟩,hg.nI _ (List.getElem_mem hi'),by rw[e']⟩
 intro g
 refine IN (R:=aA _) ?_
 unfold L21
 intro J1 Tc
 have hJ:∀N:Hp,J1 [.bool false] (N++B):=by
  intro N
  refine Tc _ _ fun gs=>Br.no ?_
  refine⟨fun vs H=>∃i:Nat,vs=[.int .i64 (i:Int)]∧i≤refs.length∧aV B H,fun vs _=>refs.length-bG vs 0,JE.mk ⟨0,rfl,Nat.zero_le _,.app (.refl _)⟩,?_⟩
  rintro w9 H ⟨i,hv,hi,jj⟩ gs
  simp only[List.cons.injEq,and_true]at hv
  subst hv
  have QT:=hG.grow jj
  refine Nil.ptr (aa.mk (Ld.mk (v:=vr) (by exact QT.cell) rfl ?_))
  refine QT.rf.bC ?_
  rw[ak]
  refine ae.eA (Br.dec (fun hlt=>?_) (fun hlt=>?_))
  rotate_left
  ·exact tM.mk jj rfl
  refine DR.self ?_
  refine Nil.ptr (aa.mk (Ld.mk (v:=vr) (by exact QT.cell) rfl ?_))
  refine QT.rf.ld (n:=((refs.getD i 0:Nat):Int)) (bc hlt) (fun _ h=>h) ?_
  refine Nil.ptr (aa.mk (Ld.mk (v:=vf) (by exact QT.cell) rfl ?_))
  refine iJ QT.fn hlt (fun _ h=>h) fun t ht=>?_
  refine Nil.ptr (aa.mk (Ld.mk (v:=.int .i64 (K.n:Int)) (by exact QT.cell) rfl ?_))
  refine ae.uN (a:=2) (by simp[aB];omega) ?_
  refine ae.aL (b:=2) (by simp[aB];omega) ?_
  obtain⟨_,e1⟩:=hg.is i hlt
  have mi:refs.getD i 0∈refs:=by rw[List.getD_eq_getElem?_getD,List.getElem?_eq_getElem hlt];exact List.getElem_mem hlt
  rw[e1]at ht
  refine af.px .here (NZ hn hK K.n (refs.getD i 0) (2*K.n+2) (by omega) (by omega) (by omega) H t QT (hg.live hK mi) ht) ?_
  rintro w N2 rfl
  refine⟨.right,Un.not (Br.no ?_)⟩
  refine⟨fun vs H'=>∃j:Nat,vs=[.int .i64 (j:Int)]∧j≤i∧aV B H',fun vs _=>i-bG vs 0,JE.mk ⟨0,rfl,Nat.zero_le _,.app jj⟩,?_⟩
  rintro Rg H2 ⟨j,hv,hj,SG⟩ gs
  simp only[List.cons.injEq,and_true]at hv
  subst hv
  have QU:=hG.grow SG
  refine ae.eA (Br.dec (fun oC=>?_) (fun oC=>?_))
  ·refine DR.self ?_
   have Lu:j<refs.length:=by omega
   refine Nil.ptr (aa.mk (Ld.mk (v:=vr) (by exact QU.cell) rfl ?_))
   refine QU.rf.ld (n:=((refs.getD i 0:Nat):Int)) (bc hlt) (fun _ h=>h) ?_
   refine Nil.ptr (aa.mk (Ld.mk (v:=vr) (by exact QU.cell) rfl ?_))
   refine QU.rf.ld (n:=((refs.getD j 0:Nat):Int)) (bc Lu) (fun _ h=>h) ?_
   refine ae.eB ?_
   refine Nil.ptr (aa.mk (Ld.mk (v:=vf) (by exact QU.cell) rfl ?_))
   refine iJ QU.fn hlt (fun _ h=>h) fun t1 Qt=>?_
   refine Nil.ptr (aa.mk (Ld.mk (v:=vf) (by exact QU.cell) rfl ?_))
   refine iJ QU.fn Lu (fun _ h=>h) fun t2 Nl=>?_
   refine af.rd .here (oZ Qt Nl) ?_
   rintro w ⟨x,rfl,hx⟩
   refine⟨.refl _,?_⟩
   have ex:x=decide (refs.getD i 0=refs.getD j 0):=by
    by_cases e:refs.getD i 0=refs.getD j 0
    ·rw[decide_eq_true e];exact hx.2 ((inj i j hlt Lu).1 e)
    ·rw[decide_eq_false e]
     cases x with
     |false=>rfl
     |true=>exact absurd ((inj i j hlt Lu).2 (hx.1 rfl)) e
   rw[ex]
   refine ae.Zq (Br.mk (fun hb=>by simp at hb) fun _=>?_)
   refine ae.aL (b:=1) (by simp[aB];omega) ?_
   exact aD.mk ⟨j+1,rfl,by omega,SG⟩ (by simp only[bG];omega)
  ·refine ae.aL (b:=1) (by simp[aB];omega) ?_
   exact aD.mk ⟨i+1,rfl,hlt,SG⟩ (by simp only[bG];omega)
 refine DR.self ?_
 refine Nil.ptr (aa.mk (Ld.mk (v:=ptr kp) (by exact hG.cell) rfl ?_))
 intro F
 refine af.rd hc (rR hK.rep (by omega) (by omega)) ?_
 rintro w rfl
 refine⟨.refl _,?_⟩
 intro F
 have Lm:eL B (.slice none 0 0) (([]:List (List Nat)).map fun ws=>⟨K.n,ws⟩):=⟨[],Sl.nil _ _,k7.nil⟩
 refine af.px .here (zz (ms:=[]) hG hg.nI hK (by omega) Lm (by simp) (by simp) (by simpa using SI)) ?_
 rintro w N1 rfl
 rw[List.append_nil,←hsize]
 refine⟨.right,?_⟩
 refine ae.wZ (Br.bt (by simp) ?_)
 refine Nil.ptr (aa.mk (Ld.mk (v:=ptr kp) (by exact hG.cell) rfl ?_))
 refine Nil.ptr (aa.mk (Ld.mk (v:=ptr kp) (by exact hG.cell) rfl ?_))
 intro F
 refine af.rd (.app hc) (rR hK.rep (by omega) (by omega)) ?_
 rintro w rfl
 refine⟨.right,?_⟩
 refine ae.aL (b:=2) (by simp only[aB];omega) ?_
 intro F
 refine af.rd (.app hc) (qj hK.rep) ?_
 rintro w rfl
 refine⟨.right,?_⟩
 refine ae.kB ?_
 rw[decide_eq_false (by omega)]
 exact aF.mk (JE.mk (hJ N1))
end
section
variable {B:Hp}
theorem G3{L:List Nat}{j z:Nat}(hj:j<L.length)(hz:L[L.length-1]? =some z):((L.set j z).take (L.length-1)++[L.getD j 0]).Perm L:=by
 obtain⟨L',z',rfl⟩:∃L' z',L=L'++[z']:=⟨L.dropLast,L.getLast (List.ne_nil_of_length_pos (by omega)),(List.dropLast_concat_getLast _).symm⟩
 have hl:(L'++[z']).length-1=L'.length:=by simp
 rw[hl]at hz⊢
 have ez:z'=z:=by rw[List.getElem?_append_right (Nat.le_refl _),Nat.sub_self]at hz;simpa using hz
 subst ez
 by_cases hj':j<L'.length
 ·rw[List.set_append_left _ _ hj',List.take_left' (by simp)]
  have e:(L'++[z']).getD j 0=L'[j]:=by rw[List.getD_eq_getElem?_getD,List.getElem?_append_left hj',List.getElem?_eq_getElem hj'];rfl
  rw[e]
  classical
  rw[List.perm_iff_count]
  intro x
  rw[List.count_append,List.count_append,List.count_set hj',List.count_singleton,List.count_singleton]
  have hc:(L'[j]==x)=true→0<L'.count x:=fun h=>by
   have:L'[j]=x:=by simpa using h
   exact List.count_pos_iff.2 (this▸List.getElem_mem hj')
  split<;>split<;>simp_all<;>omega
 ·have:j=L'.length:=by rw[List.length_append,List.length_singleton]at hj;omega
  subst this
  rw[List.set_append_right _ _ (Nat.le_refl _),Nat.sub_self,List.take_left' rfl]
  have e:(L'++[z']).getD L'.length 0=z':=by rw[List.getD_eq_getElem?_getD,List.getElem?_append_right (Nat.le_refl _),Nat.sub_self];rfl
  rw[e]
theorem GL{n:Nat}(hn:n≤1048576){v:Value}{l:List Nat}(hl:cT .u8 B v (iw l))(h8:∀x∈l,x<256)(bQ:l.length<9223372036854775808):
  Fc Tryz.prog 43 #[.int .i64 (n:Int),v] B (fun w H=>∃p N,H=N++B∧p.Perm (List.range n)∧aN 3 .i64 w (iw p) N):=by
 intro g
 refine IF (R:=aA _) ?_
 unfold L43
 refine⟨fun vs H=>∃(i:Nat) (s:Value) (CL:Hp),vs=[s,.int .i64 (i:Int)]∧i≤n∧H=CL++B∧aN 3 .i64 s (iw (List.range i)) CL,fun vs _=>n-bG vs 1,JE.mk ⟨0,_,[],rfl,Nat.zero_le _,rfl,aN.nil⟩,?_⟩
 rintro w5 w6 H ⟨i,s,CL,hv,hi,rfl,hL⟩ gs
 simp only[List.cons.injEq,and_true]at hv
 obtain⟨rfl,rfl⟩:=hv
 refine ae.eA (Br.dec (fun hlt=>?_) (fun hlt=>?_))
 ·refine av.int (e:=3) (by kernel_rfl) (by kernel_rfl) (by kernel_rfl) fun bx=>?_
  refine hL.oK (x:=(i:Int)) (.cons .left) (by exact .head _) (by rw[ak,List.length_range];omega) (by rw[ak,List.length_range];omega) fun s' XU QS=>?_
  refine ae.aL (b:=1) (by simp[aB];omega) ?_
  refine aD.of .tail ⟨i+1,s',XU,rfl,hlt,rfl,?_⟩ (by simp only[bG];omega)
  rw[List.range_succ,cm];exact QS
 obtain rfl:i=n:=by omega
 refine⟨fun vs H=>∃(k:Nat) (s t:Value) (L p:List Nat) (CL CP:Hp),vs=[s,t,.int .i64 (k:Int)]∧k≤i∧H=CL++(CP++B)∧aN 3 .i64 s (iw L) CL∧aN 3 .i64 t (iw p) CP∧L.length=i-k∧p.length=k∧(p++L).Perm (List.range i),fun vs _=>i-bG vs 2,
  JE.mk ⟨0,_,_,_,[],CL,[],rfl,Nat.zero_le _,rfl,hL,aN.nil,by simp,rfl,.refl _⟩,?_⟩
 clear hL
 rintro q8 nN yl H ⟨k,s,t,L,p,CL,CP,hv,hk,rfl,hL,hP,Ux,rS,fW⟩ gs
 simp only[List.cons.injEq,and_true]at hv
 obtain⟨rfl,rfl,rfl⟩:=hv
 refine ae.eA (Br.dec (fun hlt=>?_) (fun hlt=>?_))
 rotate_left
 ·obtain rfl:k=i:=by omega
  have:L=[]:=List.length_eq_zero_iff.1 (by omega)
  subst this
  rw[List.append_nil]at fW
  exact aA.mk .right ⟨p,CP,rfl,fW,hP⟩
 intro J hJ
 have BL:∀j,j<L.length→J [.int .i64 (j:Int)] (CL++(CP++B)):=fun j hj=>by
  refine hJ _ _ fun gs=>?_
  refine hL.ld (x:=((L.getD j 0:Nat):Int)) (bc hj) (fun _ h=>List.mem_append_left _ h) ?_
  refine av.int (e:=3) (by kernel_rfl) (by kernel_rfl) (by kernel_rfl) fun bx=>?_
  refine hP.oK (x:=((L.getD j 0:Nat):Int)) (.cons (.app .left)) (by exact .head _) (by rw[ak];omega) (by rw[ak];omega) fun t' CP' hP'=>?_
  refine hL.bC ?_
  rw[ak]
  refine ae.bH (b:=1) (by simp[aB];omega) (by omega) ?_
  obtain⟨z,hz⟩:∃z,L[L.length-1]? =some z:=⟨_,List.getElem?_eq_getElem (by omega)⟩
  refine hL.ld (x:=(z:Int)) (cr hz) (fun _ h=>.tail _ (List.mem_append_left _ h)) ?_
  refine hL.jC (x:=(z:Int)) (.cons .left) (by rw[ak];exact hj) fun XU QS=>?_
  rw[e7]at QS
  refine QS.bC ?_
  rw[ak,List.length_set]
  refine ae.bH (b:=1) (by simp[aB];omega) (by omega) ?_
  refine QS.cut (i:=L.length-1) (by rw[ak,List.length_set];omega) fun s' hs'=>?_
  refine ae.aL (b:=1) (by simp[aB];omega) ?_
  have e:(iw (L.set j z)).take (L.length-1)=iw ((L.set j z).take (L.length-1)):=by unfold iw;rw[List.map_take]
  rw[e]at hs'
  refine aD.of .tail ⟨k+1,s',t',(L.set j z).take (L.length-1),p++[L.getD j 0],XU,CP',rfl,hlt,rfl,hs',by rw[cm];exact hP',by rw[List.length_take,List.length_set];omega,by simp[rS],?_⟩ (by simp only[bG];omega)
  refine List.Perm.trans ?_ fW
  rw[List.append_assoc]
  refine List.Perm.append_left _ ?_
  exact List.perm_append_comm.trans (G3 hj hz)
 refine hl.bC ?_
 rw[ak]
 refine ae.eA (Br.dec (fun h1=>?_) (fun h1=>?_))
 ·refine hl.ld (n:=((l[k]:Nat):Int)) (cr (List.getElem?_eq_getElem h1)) (fun _ h=>List.mem_append_right _ (List.mem_append_right _ h)) ?_
  have:=h8 _ (List.getElem_mem h1)
  refine aW.nat (by simp[aB];omega) ?_
  refine hL.bC ?_
  rw[ak]
  refine ae.ry (by omega) ?_
  exact JE.mk (BL _ (Nat.mod_lt _ (by omega)))
 ·exact JE.mk (BL 0 (by omega))
end
section
variable {Y:Hp}
theorem Bf{n cap:Nat}(hn:1≤n∧n≤64)(hc:2≤cap∧cap≤1048576):Fc Tryz.prog 54 #[.int .i64 (n:Int),.int .i64 (cap:Int)] Y (fun w H=>∃gb kp C,w=ptr gb∧H=Y++gG gb kp n (.slice none 0 0) (.slice none 0 0) [] [] C∧cK kp (K0 n cap) S0 (List.range n) (List.range n) [] C):=by
 intro g
 refine IC (R:=aA _) ?_
 unfold L54
 refine af.fn (bS.left (C:=[]) (A:=Y)) (RM hn hc) ?_
 rintro w C ⟨kp,rfl,hK⟩
 refine Ext.mk rfl (Ext.mk rfl ?_)
 intro J hJ
 have BL:J [.bool false] (C++Y):=by
  refine hJ _ _ fun gs=>Br.no ?_
  refine Build.mk (cs:=[ptr kp,.int .i64 (n:Int),.slice none 0 0,.slice none 0 0]) (by kernel_rfl) ?_
  intro gb _
  refine aA.mk ?_ ⟨gb,kp,C,rfl,rfl,hK⟩
  refine .perm ?_
  show((gb,_)::(C++Y)).Perm (Y++(gW gb kp n (.slice none 0 0) (.slice none 0 0)::C))
  exact(List.perm_append_comm (l₁:=_::C) (l₂:=Y))
 refine ae.dO ?_
 refine Split.go (by decide) ?_
 refine ae.bJ (aF.mk ?_)
 refine Split.go rfl ?_
 refine af.rd .left (gU hK.rep) ?_
 rintro w rfl
 refine ae.dO (aF.mk ?_)
 refine Split.go (by show decide _=false;exact decide_eq_false (fun h=>h rfl)) ?_
 refine af.rd .left (qj hK.rep) ?_
 rintro w rfl
 refine ae.dO (aF.mk ?_)
 refine Split.go (by show decide _=false;exact decide_eq_false (fun h=>h rfl)) ?_
 refine af.rd .left (rR hK.rep (by show 2≤2;omega) (by show 2≤1048576;omega)) ?_
 rintro w rfl
 refine ae.dO (aF.mk ?_)
 exact JE.mk BL
def Grown(n:Nat)(Y:Hp)(w:Value)(H:Hp):Prop:=
 ∃(gb kp:Nat) (K:Kd) (S:Nat→aE.Fn) (refs:List Nat) (fs:List (List Nat)) (vr vf:Value) (M CR CF C:Hp) (rs:List (List Value)) (tr:List Nat),w=ptr gb∧H=M++gG gb kp n vr vf CR CF C∧aV Y M∧P4 gb kp K S (List.range n) (List.range n) tr refs fs vr vf M CR CF C rs∧K.n=n∧K.cap=4000∧n≤refs.length∧refs.length≤n+30∧tr=[]
theorem abB{n cap:Nat}:u5 (K0 n cap) S0 [] []:=⟨rfl,by simp,fun i hi=>absurd hi (by simp),fun s=>by simp[K0,Kd.hold]⟩
theorem A3{kp:Nat}{K:Kd}{S:Nat→aE.Fn}{ord ah tr:List Nat}{C:Hp}(hK:cK kp K S ord ah tr C){x v:Nat}(h:S x=fun y=>y.testBit v):2≤x:=by
 refine Classical.byContradiction fun h2=>?_
 have hint:=hK.ok.mid.int
 have UA:x=0∨x=1:=by omega
 rcases UA with rfl|rfl
 ·have:=congrFun h (2^v)
  rw[hint.zero,Nat.testBit_two_pow_self]at this
  cases this
 ·have:=congrFun h 0
  rw[hint.one,Nat.zero_testBit]at this
  cases this
theorem L0{n:Nat}(hn:1≤n∧n≤6){sv:Value}{ops:List ur}(hs:Sl 6 Y sv (ops.map ur.cells))(ho:∀o∈ops,o.Ok)(bQ:ops.length<9223372036854775808):
  Fc Tryz.prog 12 #[.int .i64 (n:Int),sv] Y (Grown n Y):=by
 intro g
 refine IU (R:=aA _) ?_
 unfold L12
 refine af.fn (args:=#[.int .i64 (n:Int),.int .i64 ((4000:Nat):Int)]) .here (Bf (Y:=Y) (n:=n) (cap:=4000) ⟨hn.1,by omega⟩ (by decide)) ?_
 rintro w H ⟨gb,kp,C0,rfl,rfl,hK0⟩
 refine ae.bJ (Br.no ?_)
 obtain⟨St0,SW⟩:∃St0:Nat→Hp→Prop,St0=fun m H=>∃(K:Kd) (S:Nat→aE.Fn) (refs:List Nat) (fs:List (List Nat)) (vr vf:Value) (M CR CF C:Hp) (rs:List (List Value)),H=M++gG gb kp n vr vf CR CF C∧aV Y M∧P4 gb kp K S (List.range n) (List.range n) [] refs fs vr vf M CR CF C rs∧K.n=n∧K.cap=4000∧n≤refs.length∧refs.length≤m:=⟨_,rfl⟩
 refine⟨fun vs H=>∃(i:Nat) (K:Kd) (S:Nat→aE.Fn) (refs:List Nat) (fs:List (List Nat)) (vr vf:Value) (M CR CF C:Hp) (rs:List (List Value)),vs=[.int .i64 (i:Int)]∧i≤n∧H=M++gG gb kp n vr vf CR CF C∧aV Y M∧P4 gb kp K S (List.range n) (List.range n) [] refs fs vr vf M CR CF C rs∧K.n=n∧K.cap=4000∧refs.length=i,fun vs _=>n-bG vs 0,
  JE.mk ⟨0,K0 n 4000,S0,[],[],_,_,Y,[],[],C0,[],rfl,Nat.zero_le _,rfl,.refl _,⟨hK0,abB,aN.nil,aR.nil _ _,k7.nil⟩,rfl,rfl,rfl⟩,?_⟩
 rintro w8 H ⟨i,K,S,refs,fs,vr,vf,M,CR,CF,C,rs,hv,hi,rfl,hY,hG,LV,Ns,Hy⟩ gs
 simp only[List.cons.injEq,and_true]at hv
 subst hv
 refine ae.eA (Br.dec (fun hlt=>?_) (fun hlt=>?_))
 ·refine aW.nat (by simp[aB];omega) ?_
  refine Build.mk (cs:=(ur.mk 0 i 0 0 0 0).cells) (by kernel_rfl) ?_
  subst LV
  refine af.fn (args:=#[ptr gb,.agg (ur.mk 0 i 0 0 0 0).cells.toArray]) .here (Qd hG hn.1 hn.2 Ns (by omega) (o:=ur.mk 0 i 0 0 0 0) ⟨by show 0<256;omega,by show i<256;omega,by show 0<256;omega,by show 0<256;omega,by show 0<256;omega,by show 0<18446744073709551616;omega⟩) ?_
  rintro w H ⟨rfl,x,a,b,c,K',S',refs',fs',EY,Nf,M',Jx,NH,C',X3,rfl,gM,Td,hn',lB,rfl,hx,Nm,_⟩
  refine Un.not (Br.no ?_)
  refine ae.aL (b:=1) (by simp[aB];omega) ?_
  have h2:2≤x:=A3 Td.ks hx
  rw[if_pos h2]at Td
  exact aD.mk ⟨i+1,K',S',refs++[x],fs',EY,Nf,M',Jx,NH,C',X3,rfl,hlt,rfl,hY.trans gM,Td,hn',lB.trans Ns,by simp[Hy]⟩ (by simp only[bG];omega)
 obtain rfl:i=n:=by omega
 refine Nil.ptr (aa.mk (Ld.mk (v:=vr) (by exact List.mem_append_right _ (.head _)) rfl ?_))
 refine hG.rf.bC ?_
 rw[ak,Hy]
 refine ae.wZ (Br.bt (by simp) ?_)
 refine⟨fun vs H=>∃k:Nat,vs=[.int .i64 (k:Int)]∧k≤ops.length∧k≤30∧St0 (i+k) H,fun vs _=>30-bG vs 0,JE.mk ⟨0,rfl,Nat.zero_le _,by omega,by rw[SW];exact⟨K,S,refs,fs,vr,vf,M,CR,CF,C,rs,rfl,hY,hG,LV,Ns,by omega,by omega⟩⟩,?_⟩
 clear hY hG LV Ns Hy
 rintro lS H ⟨k,hv,hk,afU,hst⟩ gs
 simp only[List.cons.injEq,and_true]at hv
 subst hv
 rw[SW]at hst
 obtain⟨K,S,refs,fs,vr,vf,M,CR,CF,C,rs,rfl,hY,hG,LV,Ns,Fz,uk⟩:=hst
 refine(hs.mono (B':=Y) fun _ h=>h).bC ?_
 rw[List.length_map]
 refine ae.eA ?_
 refine bT.and (a:=decide (k<ops.length)) (decide (k<30)) (fun _=>ae.eA (b:=30) ⟨rfl,rfl⟩) rfl fun gs=>?_
 refine Br.mk (fun hb=>?_) (fun hb=>?_)
 ·simp only[Bool.and_eq_true,decide_eq_true_eq]at hb
  obtain⟨h1,h3⟩:=hb
  refine ai.sl hs (i:=k) (r:=ops[k].cells) (by rw[List.getElem?_map,List.getElem?_eq_getElem h1];rfl) fun p hp=>?_
  refine aC.at hp rfl (by decide) (fun _ h=>List.mem_append_left _ (hY.sub _ h)) ?_
  subst LV
  refine af.fn (args:=#[ptr gb,.agg ops[k].cells.toArray]) .here (Qd hG hn.1 hn.2 Ns (by omega) (ho _ (List.getElem_mem h1))) ?_
  rintro w H ⟨rfl,x,a,b,c,K',S',refs',fs',EY,Nf,M',Jx,NH,C',X3,rfl,gM,Td,hn',lB,rfl,hx,Nm,_⟩
  refine Un.not (Br.no ?_)
  refine ae.aL (b:=1) (by simp[aB];omega) ?_
  refine aD.mk ⟨k+1,rfl,h1,by omega,?_⟩ (by simp only[bG];omega)
  rw[SW]
  refine⟨K',S',_,fs',EY,Nf,M',Jx,NH,C',X3,rfl,hY.trans gM,Td,hn',lB.trans Ns,?_,?_⟩
  ·rw[List.length_append];omega
  ·rw[List.length_append];split<;>simp<;>omega
 ·exact aA.here ⟨gb,kp,K,S,refs,fs,vr,vf,M,CR,CF,C,rs,[],rfl,rfl,hY,hG,LV,Ns,Fz,by omega,rfl⟩
end
theorem Kv{B:Hp}{v1 v2:Value}{p q:List Nat}{n:Nat}(h1:cT .i64 B v1 (iw p))(h2:cT .i64 B v2 (iw q))(hp:p.Perm (List.range n))(hq:q.Perm (List.range n))(hn:n≤64):
  Fc Tryz.prog 102 #[v1,v2] B (fun r H=>∃s C,r=.tuple #[s,.int .i64 0]∧H=C++B∧aN 3 .i64 s (iw (path p q)) C):=by
 have e1:p.length=n:=by rw[hp.length_eq,List.length_range]
 have e2:q.length=n:=by rw[hq.length_eq,List.length_range]
 have g7:q.Nodup:=hq.nodup_iff.2 List.nodup_range
 have hpq:=hp.trans hq.symm
 intro g
 refine EK (R:=aA _) ?_
 unfold L102
 refine af.rd .here (PC h1 h2 hp hq hn) ?_
 rintro v rfl
 refine ae.dO (Br.bt (by decide) ?_)
 refine af.fn .here (tw h1 (by rw[ak];omega)) ?_
 rintro va H ⟨CA,rfl,hA⟩
 refine h2.bC ?_
 rw[ak]
 refine⟨fun vs H=>∃(i:Nat) (w9:Value) (C N:Hp),vs=[w9,.int .i64 (i:Int)]∧i≤n∧H=C++(N++B)∧aN 3 .i64 w9 (iw (dP p q i)) C∧aN 3 .i64 va (iw (cE p (dP p q i))) N,fun vs _=>n-bG vs 1,
  JE.mk ⟨0,_,[],CA,rfl,Nat.zero_le _,rfl,aN.nil,hA⟩,?_⟩
 rintro w9 r7 H ⟨i,u9,C,N,hv,hi,rfl,ho,hw⟩ gs
 simp only[List.cons.injEq,and_true]at hv
 obtain⟨rfl,rfl⟩:=hv
 refine ae.eA (Br.dec (fun hlt=>?_) (fun hlt=>?_))
 rotate_left
 ·obtain rfl:i=q.length:=by omega
  exact aA.mk (.dr .right _) ⟨w9,C,rfl,rfl,ho⟩
 have spec:=iT g7 hpq i (by omega)
 obtain⟨s1,s2,s3⟩:=spec
 obtain⟨s4,s5⟩:=s3 hlt
 have adv:=qc g7 hpq (i+1) (by omega)
 have xw:(i+1)*p.length≤64*64:=Nat.mul_le_mul (by omega) (by omega)
 refine h2.ld (n:=((q.getD i 0:Nat):Int)) (bc hlt) (fun _ h=>List.mem_append_right _ (List.mem_append_right _ h)) ?_
 have hmem:q.getD i 0∈cE p (dP p q i):=by
  have:q.getD i 0∈q:=by rw[List.getD_eq_getElem?_getD,List.getElem?_eq_getElem hlt];exact List.getElem_mem _
  exact((jO s1).trans hpq).mem_iff.2 this
 refine af.rd (.app .left) (GQ hw.ints (by rw[ak,gO];omega)) ?_
 rintro v rfl
 rw[if_pos (RO.2 hmem),Sd]
 refine⟨fun vs H=>∃(j:Nat) (u9:Value) (P:List Nat) (C N:Hp),vs=[u9,.int .i64 (j:Int)]∧i≤j∧j<n∧P++BX i j=dP p q (i+1)∧H=C++(N++B)∧aN 3 .i64 u9 (iw P) C∧aN 3 .i64 va (iw (cE p P)) N,fun vs _=>bG vs 1,
  JE.mk ⟨Uc (cE p (dP p q i)) (q.getD i 0),w9,dP p q i,C,N,rfl,s4,by omega,rfl,rfl,ho,hw⟩,?_⟩
 rintro n8 oP H ⟨j,u9,P,C2,N2,hv,hij,Qz,hP,rfl,zh,pA⟩ gs
 simp only[List.cons.injEq,and_true]at hv
 obtain⟨rfl,rfl⟩:=hv
 refine ae.kB (Br.dec (fun hgt=>?_) (fun hgt=>?_))
 ·obtain⟨j,rfl⟩:∃k,j=k+1:=⟨j-1,by omega⟩
  have hPl:P.length≤4096:=by
   have:=congrArg List.length hP
   rw[List.length_append]at this;omega
  have hlen:(cE p P).length=n:=by rw[gO,e1]
  refine DR.self ?_
  refine ae.bH (b:=1) (by simp[aB];omega) (by omega) ?_
  rw[Nat.add_sub_cancel]
  refine pA.ld (x:=(((cE p P).getD (j+1) 0:Nat):Int)) (bc (by omega)) (fun _ h=>List.mem_append_right _ (List.mem_append_left _ h)) ?_
  refine ae.bH (b:=1) (by simp[aB];omega) (by omega) ?_
  rw[Nat.add_sub_cancel]
  refine pA.ld (x:=(((cE p P).getD j 0:Nat):Int)) (bc (by omega)) (fun _ h=>List.mem_append_right _ (List.mem_append_left _ h)) ?_
  refine pA.jC (x:=(((cE p P).getD (j+1) 0:Nat):Int)) (.app .left) (by rw[ak];omega) fun N3 OF=>?_
  refine OF.jC (x:=(((cE p P).getD j 0:Nat):Int)) (.app .left) (by rw[List.length_set,ak];omega) fun N4 Nk=>?_
  have e:((iw (cE p P)).set j (((cE p P).getD (j+1) 0:Nat):Int)).set (j+1) (((cE p P).getD j 0:Nat):Int)=iw (cE p (P++[j])):=by
   rw[p6];unfold ik;rw[e7,e7]
  rw[e]at Nk
  refine ae.bH (b:=1) (by simp[aB];omega) (by omega) ?_
  rw[Nat.add_sub_cancel]
  refine av.int (e:=3) (by kernel_rfl) (by kernel_rfl) (by kernel_rfl) fun bx=>?_
  refine zh.oK (.cons .left) (by exact .head _) (by rw[ak];omega) (by rw[ak];omega) fun v' C3 BD=>?_
  refine ae.bH (b:=1) (by simp[aB];omega) (by omega) ?_
  rw[Nat.add_sub_cancel]
  refine aD.of .tail ⟨j,v',P++[j],C3,N4,rfl,by omega,by omega,?_,rfl,by rw[cm];exact BD,Nk⟩ ?_
  ·rw[←hP,pM (show i≤j by omega),List.append_assoc];rfl
  ·simp only[bG];omega
 ·obtain rfl:j=i:=by omega
  rw[xN (Nat.le_refl _),List.append_nil]at hP
  subst hP
  refine ae.aL (b:=1) (by simp[aB];omega) ?_
  exact aD.of (.refl _) ⟨j+1,n8,C2,N2,rfl,by omega,rfl,zh,pA⟩ (by simp only[bG];omega)
def wk(b kp f d:Nat)(ok:Bool):Nat×Obj:=(b,.cells #[ptr kp,.int .i64 (f:Int),.int .i64 (d:Int),.bool ok] 260 (0,0))
section
variable {kp b f d:Nat} {K:Kd} {S:Nat→aE.Fn} {ord tr:List Nat} {C:Hp}
theorem Gw(h:At kp K S ord tr C):Fc Tryz.prog 104 #[ptr kp] C (fun r H=>∃b,r=ptr b∧H=wk b kp tr.length 0 false::C):=by
 intro g
 refine EI (R:=aA _) ?_
 unfold L104
 refine af.rd .here (tD h) ?_
 rintro v rfl
 refine Build.mk (cs:=[ptr kp,.int .i64 ((tr.length:Nat):Int),.int .i64 0,.bool false]) (by kernel_rfl) ?_
 intro b _
 exact aA.here ⟨b,rfl,rfl⟩
theorem Jz(h:At kp K S ord tr C){l:Nat}(hl:l+1<K.n)(qR:tr.length<1099511627776)(hf:nD K S ord l)(hd:d<4611686018427387904):
  Fc Tryz.prog 107 #[ptr b,.int .i64 (l:Int)] (wk b kp f d false::C) (fun r H=>r=.int .i64 0∧∃C',H=wk b kp f (d+1) false::C'∧At kp K S (ik ord l) (tr++[l]) C'):=by
 intro g
 refine ua (R:=aA _) ?_
 unfold L107
 refine Nil.ptr (aa.mk (Ld.mk (v:=ptr kp) (by exact .head _) rfl ?_))
 refine af.fn (.cons .here) (PK h hl qR hf) ?_
 rintro v C' ⟨rfl,h'⟩
 intro J hJ
 refine ae.jF (Br.fc rfl ?_)
 refine Nil.ptr (aa.mk (Ld.mk (v:=.int .i64 (d:Int)) (by exact .head _) rfl ?_))
 refine ae.aL (b:=1) (by simp[aB];omega) ?_
 refine Nil.ptr (aa.mk (St.one (by exact .head _) rfl (by simp) rfl ?_))
 exact JE.mk (hJ _ fun gs=>aA.here ⟨rfl,C',rfl,h'⟩)
theorem JA(h:At kp K S ord tr C){l:Nat}(hl:l+1<K.n)(qR:tr.length<1099511627776)(hf:¬nD K S ord l):
  Rd Tryz.prog 107 #[ptr b,.int .i64 (l:Int)] (wk b kp f d false::C) (· =.int .i64 9):=by
 intro g
 refine ua (R:=aA _) ?_
 unfold L107
 refine Nil.ptr (aa.mk (Ld.mk (v:=ptr kp) (by exact .head _) rfl ?_))
 refine af.rd (.cons .here) (B7 h hl qR hf) ?_
 rintro v rfl
 intro J hJ
 refine ae.jF (Br.bt (by decide) ?_)
 exact JE.mk (hJ _ fun gs=>cz.mk (.refl _) rfl)
theorem JC{ok:Bool}{path:List Nat}(h:At kp K S (cE ord path) (tr++path) C)(hp:∀l∈path,l+1<K.n)(qR:(tr++path).length<1099511627776)(hd:d<4611686018427387904):
  Fc Tryz.prog 108 #[ptr b] (wk b kp tr.length d ok::C) (fun r H=>r=.tuple #[]∧∃C',H=wk b kp tr.length (d+path.length) ok::C'∧At kp K S ord tr C'):=by
 have rS:path.length<1099511627776:=by rw[List.length_append]at qR;omega
 intro g
 refine EH (R:=aA _) ?_
 unfold L108
 refine DR.of (R:=[wk b kp tr.length d ok]) (aQ.left (A:=[_]) (B:=C)) ?_
 refine Nil.ptr (aa.mk (Ld.mk (v:=ptr kp) (by exact .head _) rfl ?_))
 refine Nil.ptr (aa.mk (Ld.mk (v:=.int .i64 ((tr.length:Nat):Int)) (by exact .head _) rfl ?_))
 refine af.fn (args:=#[ptr kp,.int .i64 ((tr.length+0:Nat):Int)]) (.cons .here) (PF h hp (Nat.zero_le _) qR) ?_
 rintro v C' ⟨rfl,h'⟩
 rw[List.take_zero,List.append_nil]at h'
 refine⟨aQ.left (A:=[_]) (B:=C'),?_⟩
 refine Ext.mk rfl (Ext.mk rfl ?_)
 refine Nil.ptr (aa.mk (Ld.mk (v:=.int .i64 (d:Int)) (by exact .head _) rfl ?_))
 refine ae.aL (by simp[aB];omega) ?_
 refine Nil.ptr (aa.mk (St.one (by exact .head _) rfl (by simp) rfl ?_))
 exact aA.here ⟨rfl,C',rfl,h'⟩
theorem Gu:Rd Tryz.prog 105 #[ptr b] (wk b kp f d true::C) (· =.tuple #[]):=by
 intro g
 refine uc (R:=aA _) ?_
 unfold L105
 refine Nil.ptr (aa.mk (Ld.mk (v:=.bool true) (by exact .head _) rfl ?_))
 exact Un.not (Br.no (cz.mk (.refl _) rfl))
theorem Gv{path:List Nat}(h:At kp K S (cE ord path) (tr++path) C)(hp:∀l∈path,l+1<K.n)(qR:(tr++path).length<1099511627776)(hd:d<4611686018427387904):
  Fc Tryz.prog 105 #[ptr b] (wk b kp tr.length d false::C) (fun r H=>r=.tuple #[]∧∃C',H=wk b kp tr.length (d+path.length) false::C'∧At kp K S ord tr C'):=by
 intro g
 refine uc (R:=aA _) ?_
 unfold L105
 refine Nil.ptr (aa.mk (Ld.mk (v:=.bool false) (by exact .head _) rfl ?_))
 refine Un.not (Br.yes ?_)
 refine af.fn .here (JC h hp qR hd) ?_
 rintro v H ⟨rfl,C',rfl,h'⟩
 exact aA.here ⟨rfl,C',rfl,h'⟩
def Gd(kp:Nat)(K:Kd)(S:Nat→aE.Fn)(ord tr ls:List Nat)(r:Value)(C:Hp):Prop:=
 ((rm K S).can ord ls=true∧r=.tuple #[.int .i64 ((ls.length:Nat):Int),.int .i64 0]∧At kp K S (cE ord ls) (tr++ls) C)∨
 ((rm K S).can ord ls=false∧r=.tuple #[.int .i64 ((2*((rm K S).dH 0 ls ord).length:Nat):Int),.int .i64 9]∧At kp K S ord tr C)
theorem Oj{Y:Hp}{v:Value}{ls:List Nat}(h:At kp K S ord tr C)(hI:cT .i64 Y v (iw ls))(hp:∀l∈ls,l+1<K.n)(qR:tr.length+ls.length<1099511627776):
  Fc Tryz.prog 103 #[ptr kp,v] (Y++C) (fun r H=>∃C',H=Y++C'∧Gd kp K S ord tr ls r C'):=by
 let m:=rm K S
 have hgl:=m.zD 0 ls ord
 have hpt:∀i,∀l∈ls.take i,l+1<K.n:=fun i l hl=>hp l (List.mem_of_mem_take hl)
 intro g
 refine EJ (R:=aA _) ?_
 unfold L103
 intro b1 _
 refine af.fn (.cons (.app .here)) (Gw h) ?_
 rintro v3 H ⟨b,rfl,rfl⟩
 intro b5 _
 refine St.one (by exact .head _) rfl (by simp) rfl ?_
 refine hI.bC ?_
 rw[ak]
 refine⟨fun vs H=>∃i C2,i≤(m.dH 0 ls ord).length∧vs=[.int .i64 (i:Int)]∧H=(b5,.cells #[ptr b] 169 (0,0))::(b1,.cells #[.int .i64 0] 3 (0,0))::(Y++(wk b kp tr.length i false::C2))∧At kp K S (cE ord (ls.take i)) (tr++ls.take i) C2,
  fun vs _=>ls.length-bG vs 0,JE.mk ⟨0,C,Nat.zero_le _,rfl,rfl,by simpa[cE]using h⟩,?_⟩
 rintro Gy H ⟨i,C2,hi,hv,rfl,h2⟩ gs
 simp only[List.cons.injEq,and_true]at hv
 subst hv
 have Ls:(tr++ls.take i).length<1099511627776:=by rw[List.length_append,List.length_take];omega
 refine ae.eA (Br.dec (fun hlt=>?_) (fun hlt=>?_))
 ·refine hI.ld (n:=((ls.getD i 0:Nat):Int)) (bc hlt) (fun _ h=>.tail _ (.tail _ (List.mem_append_left _ h))) ?_
  have eg:ls.getD i 0=ls[i]:=by rw[List.getD_eq_getElem?_getD,List.getElem?_eq_getElem hlt];rfl
  have HA:ls.getD i 0+1<K.n:=by rw[eg];exact hp _ (List.getElem_mem hlt)
  have eq:ls[i]? =some (ls.getD i 0):=by rw[eg];exact List.getElem?_eq_getElem hlt
  refine Ld.mk (v:=ptr b) (by exact .head _) rfl ?_
  by_cases hg:i<(m.dH 0 ls ord).length
  ·have hf:nD K S (cE ord (ls.take i)) (ls.getD i 0):=Ba.1 (m.L1 hg eq)
   refine af.fn (.cons (.cons (.app .here))) (Jz h2 HA Ls hf (by omega)) ?_
   rintro r H ⟨rfl,C3,rfl,h3⟩
   refine ae.dO (Br.bt (by decide) ?_)
   refine ae.aL (b:=1) (by simp[aB];omega) ?_
   refine aD.mk ⟨i+1,C3,hg,rfl,rfl,?_⟩ (by simp only[bG];omega)
   have e:ls.take (i+1)=ls.take i++[ls.getD i 0]:=by rw[List.take_add_one,eq];rfl
   rw[e,p6,←List.append_assoc];exact h3
  ·obtain rfl:i=(m.dH 0 ls ord).length:=by omega
   have hf:¬nD K S (cE ord (ls.take (m.dH 0 ls ord).length)) (ls.getD (m.dH 0 ls ord).length 0):=fun hf=>by
    have h8:=m.HM eq
    have h9:=Ba.2 hf
    rw[show(rm K S).fit _ _=false from h8]at h9;cases h9
   refine af.rd (.cons (.cons (.app .here))) (JA h2 HA Ls hf) ?_
   rintro r rfl
   refine ae.dO (Br.fc (by decide) ?_)
   refine St.one (by exact .tail (.head _)) rfl (by simp) rfl ?_
   refine qZ (R:=_) ?_
   unfold L180
   refine Ld.mk (v:=ptr b) (by exact .head _) rfl ?_
   refine af.fn (.cons (.cons (.app .here))) (Gv h2 (hpt _) Ls (by omega)) ?_
   rintro r H ⟨rfl,C3,rfl,h3⟩
   refine Ld.mk (v:=ptr b) (by exact .head _) rfl ?_
   have eD:(m.dH 0 ls ord).length+(ls.take (m.dH 0 ls ord).length).length=2*(m.dH 0 ls ord).length:=by rw[List.length_take];omega
   rw[eD]
   refine Nil.ptr (aa.mk (Ld.mk (v:=.int .i64 ((2*(m.dH 0 ls ord).length:Nat):Int)) (by exact .tail _ (.tail _ (List.mem_append_right _ (.head _)))) rfl ?_))
   refine St.one (by exact .tail (.head _)) rfl (by simp) rfl ?_
   refine⟨⟨_,rfl⟩,?_⟩
   refine Ld.mk (v:=.int .i64 ((2*(m.dH 0 ls ord).length:Nat):Int)) (by exact .tail _ (.head _)) rfl ?_
   refine aA.mk (.skip (.skip (.dr .tail _))) ⟨C3,rfl,.inr ⟨decide_eq_false (show¬(m.dH 0 ls ord).length=ls.length by omega),rfl,h3⟩⟩
 ·have hil:i=ls.length:=by omega
  subst hil
  rw[List.take_length]at h2
  have hcan:(rm K S).can ord ls=true:=decide_eq_true (show(m.dH 0 ls ord).length=ls.length by omega)
  refine Ld.mk (v:=ptr b) (by exact .head _) rfl ?_
  refine Nil.ptr (aa.mk (St.one (dR.tail (dR.tail (dR.dK (.head _) _))) rfl (by simp) rfl ?_))
  refine St.one (by exact .tail (.head _)) rfl (by simp) rfl ?_
  refine qZ (R:=_) ?_
  unfold L180
  refine Ld.mk (v:=ptr b) (by exact .head _) rfl ?_
  refine af.rd (B:=wk b kp tr.length ls.length true::C2) (.cons (.cons (.app .here))) Gu ?_
  rintro r rfl
  refine Ld.mk (v:=ptr b) (by exact .head _) rfl ?_
  refine Nil.ptr (aa.mk (Ld.mk (v:=.int .i64 ((ls.length:Nat):Int)) (by exact .tail _ (.tail _ (List.mem_append_right _ (.head _)))) rfl ?_))
  refine St.one (by exact .tail (.head _)) rfl (by simp) rfl ?_
  refine⟨⟨_,rfl⟩,?_⟩
  refine Ld.mk (v:=.int .i64 ((ls.length:Nat):Int)) (by exact .tail _ (.head _)) rfl ?_
  refine aA.mk (.skip (.skip (.dr .tail _))) ⟨C2,rfl,.inl ⟨hcan,rfl,h2⟩⟩
end
section
variable {kp b f d:Nat} {K:Kd} {S:Nat→aE.Fn} {ord tr:List Nat} {C:Hp}
theorem Gd.tup{ls:List Nat}{r:Value}(h:Gd kp K S ord tr ls r C):∃x y,r=.tuple #[x,y]:=by
 rcases h with⟨_,rfl,_⟩|⟨_,rfl,_⟩<;>exact⟨_,_,rfl⟩
theorem KB{Y:Hp}{v:Value}{q:List Nat}(h:At kp K S ord tr C)(hI:cT .i64 Y v (iw q))(So:ord.Perm (List.range K.n))(hpq:q.Perm (List.range K.n))(qR:tr.length<549755813888):
  Fc Tryz.prog 42 #[ptr kp,v] (Y++C) (fun r H=>∃C',H=Y++C'∧Gd kp K S ord tr (path ord q) r C'):=by
 have hn:=h.Ax
 have vL:ord.length=K.n:=by rw[So.length_eq,List.length_range]
 have hql:q.length=K.n:=by rw[hpq.length_eq,List.length_range]
 have g7:q.Nodup:=hpq.nodup_iff.2 List.nodup_range
 intro g
 refine IG (R:=aA _) ?_
 unfold L42
 refine ae.bJ (Br.no ?_)
 intro J2 zw
 refine af.rd .left (mX hI (by rw[ak];omega)) ?_
 rintro r (⟨rfl,ha,hl⟩|⟨_,_,hl⟩|⟨_,hno⟩)
 rotate_left
 ·rw[ak]at hl;omega
 ·exact absurd (tJ hpq) hno
 refine ae.dO (Split.go (by decide) ?_)
 refine hI.bC ?_
 refine af.rd (.app .here) (F5 h) ?_
 rintro r rfl
 refine ae.wZ ?_
 rw[decide_eq_false (by rw[ak];omega)]
 refine aF.mk (JE.mk (zw _ _ fun gs=>Br.no ?_))
 refine af.fn (.app .here) (MF h) ?_
 rintro vo H ⟨N,rfl,ho⟩
 refine af.pre (H':=(N++Y)++C) (.perm (by rw[List.append_assoc,←List.append_assoc,←List.append_assoc];exact List.perm_append_comm.append_right C)) ?_
 refine af.fn .left (Kv (ho.ints.mono fun _ h=>List.mem_append_left _ h) (hI.mono fun _ h=>List.mem_append_right _ h) So hpq hn) ?_
 rintro r H ⟨s,CP,rfl,rfl,hP⟩
 refine Ext.mk rfl (Ext.mk rfl (ae.dO (Br.bt (by decide) ?_)))
 obtain⟨_,rS⟩:=wW g7 (So.trans hpq.symm)
 have ads:(path ord q).length≤4096:=by
  have:=qc g7 (So.trans hpq.symm) q.length (Nat.le_refl _)
  have h2:q.length*ord.length≤64*64:=Nat.mul_le_mul (by omega) (by omega)
  unfold path;omega
 refine af.fn .here (Oj h (hP.ints.mono fun _ h=>List.mem_append_left _ h) (fun x hx=>by have:=rS x hx;omega) (by omega)) ?_
 rintro r H ⟨C',rfl,hM⟩
 obtain⟨x,y,rfl⟩:=hM.tup
 refine Ext.mk rfl (Ext.mk rfl ?_)
 refine aA.mk ?_ ⟨C',rfl,hM⟩
 rw[List.append_assoc,List.append_assoc]
 exact aQ.right.trans .right
def Oq(p:Nat):Nat→Nat→Nat
 |0,_=>p
 |_,k=>p-k
def HC(n p:Nat):Nat→Nat→Nat
 |0,k=>p+k
 |_,_=>n-1
end
end Go.Proofs
namespace aE
open an
section
variable {n:Nat} {ord:List Nat} {L:an.Fs}
theorem KD{n v:Nat}{t:List Nat}(hn:n≤16)(hf:dj n t)(hv:v<n)(h:∀u,u<n→u≠v→¬dk (eX n t) u)(x:Nat):eX n t x=eX n t (az 0 v (x.testBit v)):=by
 have key:∀b,eX n t (az x v b)=eX n t (az 0 v b):=fun b=>by
  have e:=nq hf hv b
  have Wa:=Md (n:=n) (ws:=fu n t v b) (fun u hu=>by
   rw[e]
   rintro⟨y,hy⟩
   simp only at hy
   by_cases Vv:u=v
   ·subst Vv
    rw[p8,p8]at hy;exact hy rfl
   ·rw[cF Vv,cF Vv]at hy
    exact h u hu Vv ⟨_,hy⟩)
  have:=Wa x
  rw[e]at this;exact this
 have:=key (x.testBit v)
 rwa [iL]at this
theorem KQ(hL:∀t∈L,dj n t)(hn:n≤16)(um:1≤n)(hp:ord.Perm (List.range n)):(jl n ord L (n-1)).length≤2:=by
 have vL:ord.length=n:=by rw[hp.length_eq,List.length_range]
 have hmem:∀i,i<n→ord.getD i 0<n:=fun i hi=>by
  have:ord.getD i 0∈ord:=by rw[List.getD_eq_getElem?_getD,List.getElem?_eq_getElem (by omega)];exact List.getElem_mem _
  exact List.mem_range.1 (hp.mem_iff.1 this)
 have aK:∀u,u<n→∃j,j<n∧ord.getD j 0=u:=fun u hu=>by
  obtain⟨j,hj,e⟩:=List.mem_iff_getElem.1 (hp.mem_iff.2 (List.mem_range.2 hu))
  exact⟨j,by omega,by rw[List.getD_eq_getElem?_getD,List.getElem?_eq_getElem hj];exact e⟩
 have hv:=hmem (n-1) (by omega)
 have facts:∀t∈jl n ord L (n-1),dj n t∧(∀x,eX n t x=if x.testBit (ord.getD (n-1) 0)then !eX n t 0 else eX n t 0):=by
  intro t ht
  obtain⟨h1,h2⟩:=l9.1 ht
  have hf:=nt hL hn (n-1) t h1
  have nS:=(xG hL hn hmem (n-1) (by omega) (eX n t)).2 ⟨t,h1,rfl⟩
  have hone:=KD hn hf hv (fun u hu hne=>by
   obtain⟨j,hj,e⟩:=aK u hu
   rw[←e]
   exact pG (n-1) _ nS j (by
    have:j≠n-1:=fun h=>hne (by rw[←e,h])
    omega))
  have h0:eX n t (az 0 (ord.getD (n-1) 0) false)=eX n t 0:=by
   have:=hone 0
   rw[Nat.zero_testBit]at this;exact this.symm
  obtain⟨x,hx⟩:=(qt hf hv).2 h2
  have e1:=hone (az x (ord.getD (n-1) 0) false)
  have e2:=hone (az x (ord.getD (n-1) 0) true)
  rw[aq,if_pos rfl]at e1 e2
  rw[e1,e2,h0]at hx
  refine⟨hf,fun y=>?_⟩
  rw[hone y]
  cases hb:y.testBit (ord.getD (n-1) 0)
  ·rw[h0];simp
  ·rw[if_pos rfl]
   have key:∀a b:Bool,a≠b→b= !a:=by decide
   exact key _ _ hx
 have g7:(jl n ord L (n-1)).Nodup:=(j4 (n-1)).filter _
 have h1:((jl n ord L (n-1)).map fun t=>eX n t 0).Nodup:=by
  refine List.pairwise_map.2 (g7.imp_of_mem fun{a b} ha hb hne heq=>hne ?_)
  obtain⟨fa,ga⟩:=facts a ha
  obtain⟨fb,gb⟩:=facts b hb
  exact xH fa fb (funext fun x=>by rw[ga,gb,heq])
 have:=bN h1 (l':=[true,false]) fun b _=>by cases b<;>simp
 simpa using this
end
end aE
namespace aE
theorem FV(m:Rm){Q:List Nat→Prop}(hs:∀ord l,Q ord→l+1<m.n→Q (ik ord l))(hf:∀ord l,Q ord→l+1<m.n→m.fit ord l=true):∀{ls:List Nat} {ord:List Nat},Q ord→(∀x∈ls,x+1<m.n)→m.can ord ls=true
 | [],_,_,_=>decide_eq_true rfl
 |l::ls,ord,hq,hl=>by
  have h1:=hl l (by simp)
  have ih:=FV m hs hf (ls:=ls) (hs ord l hq h1) (fun x hx=>hl x (by simp[hx]))
  unfold Rm.can at ih⊢
  have:=of_decide_eq_true ih
  rw[Rm.dH,Nat.zero_add,if_pos (hf ord l hq h1),List.length_cons,List.length_cons,this]
  exact decide_eq_true rfl
end aE
set_option maxRecDepth 100000
namespace Go.Proofs
open Go Go.Sx
open aE
section
variable {kp gb n:Nat} {vr vf:Value} {refs:List Nat} {fs:List (List Nat)} {K:Kd} {S:Nat→aE.Fn} {ord tr:List Nat} {C Z:Hp}
theorem rO{ord:List Nat}(hp:ord.Perm (List.range n)):∀i,i<n→ord.getD i 0<n:=fun i hi=>by
 have vL:ord.length=n:=by rw[hp.length_eq,List.length_range]
 have:ord.getD i 0∈ord:=by rw[List.getD_eq_getElem?_getD,List.getElem?_eq_getElem (by omega)];exact List.getElem_mem _
 exact List.mem_range.1 (hp.mem_iff.1 this)
theorem yB{L:List (List Nat)}(hn:n≤6)(um:1≤n)(hf:∀t∈L,an.dj n t)(hl:L.length≤36)(hp:ord.Perm (List.range n)):dA n ord L n≤1118:=by
 have h1:=jQ n ord L (n-1)
 have h2:=KQ (L:=L) hf (by omega) um hp
 have h3:2^(n-1)*L.length≤32*36:=Nat.mul_le_mul (Nat.le_trans (Nat.pow_le_pow_right (by decide) (show n-1≤5 by omega)) (by decide)) hl
 have h4:2^(n-1)*L.length≤32*L.length:=Nat.mul_le_mul_right _ (Nat.le_trans (Nat.pow_le_pow_right (by decide) (show n-1≤5 by omega)) (by decide))
 have e:dA n ord L n=dA n ord L (n-1)+(jl n ord L (n-1)).length:=by
  obtain⟨m,rfl⟩:∃m,n=m+1:=⟨n-1,by omega⟩
  rfl
 rw[e]
 omega
theorem vg{l:Nat}(hp:ord.Perm (List.range n))(hl:l+1<n):(ik ord l).Perm (List.range n):=by
 have:=jO (path:=[l]) (ord:=ord) (fun x hx=>by simp at hx;subst hx;rw[hp.length_eq,List.length_range];exact hl)
 exact this.trans hp
theorem KW(hg:u5 K S refs fs)(hn:K.n≤6)(um:1≤K.n)(hcap:K.cap=4000)(hl:refs.length≤36)(hp:ord.Perm (List.range K.n)){l:Nat}(uQ:l+1<K.n):nD K S ord l:=by
 have vL:ord.length=K.n:=by rw[hp.length_eq,List.length_range]
 unfold nD
 rw[show K.held S=FT K.n fs from funext fun g=>propext (hg.held g),Rw hg.nI (by omega) (rO hp) uQ vL]
 have h1:=yB (ord:=ord) (L:=fs) hn um hg.nI (by rw[←hg.len];exact hl) hp
 have h2:=yB (ord:=ik ord l) (L:=fs) hn um hg.nI (by rw[←hg.len];exact hl) (vg hp uQ)
 have h3:(Mv K.n ord l fs).length≤(tH K.n ord fs K.n++tH K.n (ik ord l) fs K.n).length:=bN (an.fM _) fun x hx=>an.cv.1 hx
 rw[List.length_append,jy,jy]at h3
 omega
theorem PA(hg:u5 K S refs fs)(hn:K.n≤6)(um:1≤K.n)(hcap:K.cap=4000)(hl:refs.length≤36)(hp:ord.Perm (List.range K.n)){ls:List Nat}(hls:∀x∈ls,x+1<K.n):(rm K S).can ord ls=true:=
 FV (rm K S) (Q:=fun ord=>ord.Perm (List.range K.n)) (fun o l hq h=>vg hq h) (fun o l hq h=>Ba.2 (KW hg hn um hcap hl hq h)) hp hls
theorem u5.kept{K':Kd}{S':Nat→aE.Fn}(h:u5 K S refs fs)(hk:Kept K S K' S'):u5 K' S' refs fs:=by
 refine⟨h.len,by rw[hk.n];exact h.nI,fun i hi=>?_,fun s=>by rw[hk.hold,h.hold]⟩
 obtain⟨h1,h2⟩:=h.is i hi
 have hm:refs.getD i 0∈refs:=by rw[List.getD_eq_getElem?_getD,List.getElem?_eq_getElem hi];exact List.getElem_mem hi
 exact⟨h1,by rw[hk.n,h2,hk.fn _ (h.mem.2 hm)]⟩
structure GZ(gb kp n:Nat)(vr vf:Value)(refs:List Nat)(fs:List (List Nat))(Z:Hp):Prop where
 cell:gW gb kp n vr vf∈Z
 rf:cT .u32 Z vr (iw refs)
 fn:eL Z vf (fs.map fun ws=>⟨n,ws⟩)
theorem GZ.mono{Z':Hp}(h:GZ gb kp n vr vf refs fs Z)(hs:∀x∈Z,x∈Z'):GZ gb kp n vr vf refs fs Z':=⟨hs _ h.cell,h.rf.mono hs,h.fn.mono hs⟩
theorem GZ.gin(h:GZ gb kp n vr vf refs fs Z)(C:Hp):AM gb kp n vr vf refs fs C (Z++C):=
 ⟨List.mem_append_left _ h.cell,h.rf.mono fun _ h=>List.mem_append_left _ h,h.fn.mono fun _ h=>List.mem_append_left _ h,_,.app .here,fun X=>List.mem_append_left _ h.cell⟩
theorem Pr(hz:GZ gb kp K.n vr vf refs fs Z)(hg:u5 K S refs fs)(hA:At kp K S ord tr C)(hn:K.n≤16)(hm:refs.length<65536)(hne:refs≠[]):Px Tryz.prog 21 #[ptr gb] (Z++C) (fun w _=>w=.bool true):=by
 obtain⟨K',S',dL,h,hk⟩:=hA
 refine Pq (vr:=vr) (vf:=vf) (K:=K') (S:=S') ?_ (hg.kept hk) h (by rw[hk.n];exact hn) hm hne
 rw[hk.n];exact hz.gin C
end
end Go.Proofs
namespace Go.Sx
open Go
theorem aQ.sub{H Y:Hp}(hn:(Y.map Prod.fst).Nodup)(hs:∀x∈Y,x∈H):aQ H Y:=by
 intro g w h
 refine⟨h.os,h.out,h.tape,?_,fun x hx=>h.uS x ?_⟩
 ·have h1:=h.nd
  rw[List.map_append,List.nodup_append]at h1⊢
  refine⟨hn,h1.2.1,fun a ha b hb=>h1.2.2 a ?_ b hb⟩
  obtain⟨x,hx,rfl⟩:=List.mem_map.1 ha
  exact List.mem_map_of_mem (hs x hx)
 ·rcases List.mem_append.1 hx with hx|hx
  ·exact List.mem_append_left _ (hs x hx)
  ·exact List.mem_append_right _ hx
end Go.Sx
set_option maxRecDepth 100000
namespace Go.Proofs
open Go Go.Sx
open aE
section
variable {kp gb n:Nat} {vr vf:Value} {refs:List Nat} {fs:List (List Nat)} {K:Kd} {S:Nat→aE.Fn} {ord tr:List Nat} {C Z Y:Hp}
theorem Grown.gz{n:Nat}{w:Value}{H:Hp}(h:Grown n Y w H):∃(gb kp:Nat) (K:Kd) (S:Nat→aE.Fn) (refs:List Nat) (fs:List (List Nat)) (vr vf:Value) (Z C:Hp),w=ptr gb∧H=Z++C∧(∀x∈Y,x∈Z)∧GZ gb kp n vr vf refs fs Z∧u5 K S refs fs∧At kp K S (List.range n) [] C∧K.n=n∧K.cap=4000∧n≤refs.length∧refs.length≤n+30:=by
 obtain⟨gb,kp,K,S,refs,fs,vr,vf,M,CR,CF,C,rs,tr,rfl,rfl,hY,hG,LV,Ns,h1,h2,rfl⟩:=h
 refine⟨gb,kp,K,S,refs,fs,vr,vf,M++(gW gb kp n vr vf::(CR++CF)),C,rfl,by simp[List.append_assoc],fun x hx=>List.mem_append_left _ (hY.sub _ hx),⟨List.mem_append_right _ (.head _),hG.rf.ints.mono fun _ h=>List.mem_append_right _ (.tail _ (List.mem_append_left _ h)),rs,(Sl.lj hG.fn (by decide)).mono fun _ h=>List.mem_append_right _ (.tail _ (List.mem_append_right _ h)),?_⟩,hG.L7,hG.ks.kC,LV,Ns,h1,h2⟩
 subst LV
 exact hG.row.mono fun _ _ h=>h.mono fun _ h=>List.mem_append_left _ h
end
end Go.Proofs
namespace Go.Sx
open Go Go.ChangeShapes Go.WideShapes Go.Deep
section
variable {H:Type} {enc:TypeId×Value→H} {P:Program} {W:World} {base:Nat} {spare:Nat→Bool} {held:Bool}
theorem qC(a:Addr)(n:Nat):(a.add n).block=a.block:=by unfold Addr.add;split<;>rfl
theorem xS(a:Addr)(n:Nat):(a.add n).off=a.off+n:=by unfold Addr.add;split<;>simp_all
theorem jw{b:Nat}{a:Addr}{k:Nat}{cs:List Value}(hk:0<k)(h:W.cells? b a k=some cs):
  a.spot=none∧∃c T fz,W.heap[a.block]? =some (.cells c T fz)∧a.off+k≤c.size∧c.extract a.off (a.off+k)=cs.toArray:=by
 obtain⟨_,hl,hg⟩:=World.cells?_some h
 have h0:=hg 0 hk
 have hc0:W.cell? a=some (cs[0]'(by omega)):=by
  have:a.add 0=a:=by simp[Addr.add]
  rw[this]at h0;rw[h0];exact List.getElem?_eq_getElem (by omega)
 unfold World.cell? at hc0
 split at hc0
 ·rename_i c T fz hb
  cases hs:a.spot with
  |some s=>rw[hs]at hc0;simp at hc0
  |none=>
   have hcell:∀i,i<k→c[a.off+i]? =cs[i]? :=fun i hi=>by
    have:=hg i hi
    unfold World.cell? at this
    rw[qC,hb]at this
    simp only[xS]at this
    have hsp:(a.add i).spot.isSome=false:=by unfold Addr.add;split<;>simp[hs]
    rw[hsp]at this
    simpa using this
   have hsz:a.off+k≤c.size:=by
    have:=hcell (k-1) (by omega)
    rw[List.getElem?_eq_getElem (by omega)]at this
    have:=(Array.getElem?_eq_some_iff.1 this).1
    omega
   refine⟨rfl,c,T,fz,hb,hsz,?_⟩
   apply Array.ext_getElem?
   intro i
   rw[Array.getElem?_extract]
   by_cases hi:i<k
   ·rw[if_pos (by omega),hcell i hi];simp
   ·rw[if_neg (by omega)];simp;omega
 ·simp at hc0
theorem Ud{t e:TypeId}{v:Value}{d:DataW H}{ps:List MemPlace}{r:Reach}{b0 k:Nat}(ht:P.underlying t=some (.slice e))(hk:P.cellsOf e=k)(Qy:0<k)(hv:Value.okWide P W r b0 t v)(h:DataW.Trod enc P W base spare held t v d ps):
  (v=.slice none 0 0∧d=.nil)∨∃(a:Addr) (n cap:Nat) (es sp:List (DataW H)),v=.slice (some a) n cap∧d=.slice es sp∧es.length=n∧n≤cap∧
   ∀i,i<n→∃c T fz cs,a.spot=none∧(a.block,Obj.cells c T fz)∈whole W∧a.off+i*k+k≤c.size∧c.extract (a.off+i*k) (a.off+i*k+k)=cs.toArray∧∃fuel y,DataW.trod enc P W base spare held fuel e cs=some y∧cs.length=k:=by
 obtain⟨a0,n0,c0,rfl⟩:=okWide_slice ht hv
 obtain⟨fuel,hf⟩:=h
 rcases open_slice ht hf with⟨h1,h2⟩|⟨a,len,cap,m,n,D,Pl,hcs,hb,hl,hm,uP,hx,hi⟩
 ·left
  simp only[Value.cells,List.cons.injEq,and_true]at h1
  simp only[Prod.mk.injEq]at h2
  exact⟨by simpa using h1,h2.1⟩
 ·right
  simp only[Prod.mk.injEq]at hx
  have Ay:Value.slice a0 n0 c0=.slice (some a) len cap:=by simpa[Value.cells]using hcs
  have Ul:len≤m:=by rw[uP];split<;>omega
  refine⟨a,len,cap,_,_,Ay,hx.1,by simp,hl,fun i hin=>?_⟩
  have hkk:=hk
  have ze:a.spot=none:=by
   obtain⟨cs0,hc0,_⟩:=hi 0 (by omega)
   rw[hk]at hc0
   rw[show a.add (0*k)=a by simp[Addr.add]]at hc0
   exact(jw Qy hc0).1
  obtain⟨cs,hc,hd⟩:=hi i (by omega)
  rw[hk]at hc
  obtain⟨_,hlen,_⟩:=World.cells?_some hc
  obtain⟨_,c,T,fz,h1,h2,h3⟩:=jw Qy hc
  rw[qC]at h1
  rw[xS]at h2 h3
  exact⟨c,T,fz,cs,ze,vB h1,h2,h3,n,_,hd,hlen⟩
theorem ve{t e:TypeId}{cs:List Value}{x:DataW H×List MemPlace}{fuel k:Nat}(ht:P.underlying t=some (.slice e))(hk:P.cellsOf e=k)(Qy:0<k)(h:DataW.trod enc P W base spare held fuel t cs=some x):
  ∃(v:Value) (rs:List (List Value)),cs=[v]∧Sl k (whole W) v rs∧((rs=[]∧x.1=.nil)∨∃es sp,x.1=.slice es sp∧es.length=rs.length)∧
   ∀(i:Nat) (r:List Value),rs[i]? =some r→∃(fuel:Nat) (y:DataW H×List MemPlace) (es sp:List (DataW H)),DataW.trod enc P W base spare held fuel e r=some y∧x.1=.slice es sp∧es[i]? =some y.1:=by
 rcases open_slice ht h with⟨h1,h2⟩|⟨a,len,cap,m,n,D,Pl,hcs,hb,hl,hm,uP,hx,hi⟩
 ·exact⟨_,[],h1,Sl.nil _ _,.inl ⟨rfl,by rw[h2]⟩,fun i r hr=>by simp at hr⟩
 ·have Ul:len≤m:=by rw[uP];split<;>omega
  have hex:∃rs:List (List Value),rs.length=len∧∀i r,rs[i]? =some r→W.cells? base (a.add (i*k)) k=some r∧DataW.trod enc P W base spare held n e r=some (D i,Pl i):=by
   clear hcs hx hl uP
   induction len with
   |zero=>exact⟨[],rfl,fun i r hr=>by simp at hr⟩
   |succ len ih=>
    obtain⟨rs,h1,h2⟩:=ih (by omega)
    obtain⟨r,h3,h4⟩:=hi len (by omega)
    rw[hk]at h3
    refine⟨rs++[r],by simp[h1],fun i r' hr=>?_⟩
    by_cases hlt:i<rs.length
    ·rw[List.getElem?_append_left hlt]at hr;exact h2 i r' hr
    ·rw[List.getElem?_append_right (by omega)]at hr
     have OS:i-rs.length=0:=by
      by_cases e:i-rs.length=0
      ·exact e
      ·rw[List.getElem?_eq_none (by simp;omega)]at hr;cases hr
     rw[OS]at hr
     simp only[List.getElem?_cons_zero,Option.some.injEq]at hr
     subst hr
     obtain rfl:i=len:=by omega
     exact⟨h3,h4⟩
  obtain⟨rs,Hy,Yf⟩:=hex
  have aK:∀r∈rs,r.length=k:=fun r hr=>by
   obtain⟨i,hi,e⟩:=List.mem_iff_getElem.1 hr
   obtain⟨hc,_⟩:=Yf i r (by rw[List.getElem?_eq_getElem hi,e])
   exact(World.cells?_some hc).2.1
  refine⟨.slice (some a) len cap,rs,hcs,⟨aK,?_⟩,.inr ⟨_,_,by rw[hx],by simp[Hy]⟩,fun i r hr=>?_⟩
  ·cases rs with
   |nil=>exact .inl ⟨some a,cap,by rw[←Hy];rfl,rfl⟩
   |cons r0 rest=>
    right
    obtain⟨hc0,_⟩:=Yf 0 r0 rfl
    obtain⟨ze,c,T,fz,hb0,_,_⟩:=jw Qy hc0
    rw[show a.add (0*k)=a by simp[Addr.add]]at ze hb0
    obtain⟨ab,ao,asp⟩:=a
    simp only at ze hb0
    subst ze
    have Wm:∀i r,(r0::rest)[i]? =some r→ao+i*k+k≤c.size∧c.extract (ao+i*k) (ao+i*k+k)=r.toArray:=fun i r hr=>by
     obtain⟨hc,_⟩:=Yf i r hr
     obtain⟨_,c',T',fz',h1,h2,h3⟩:=jw Qy hc
     rw[qC]at h1
     rw[xS]at h2 h3
     simp only at h1 h2 h3
     rw[hb0]at h1
     simp only[Option.some.injEq,Obj.cells.injEq]at h1
     obtain⟨rfl,_,_⟩:=h1
     exact⟨h2,h3⟩
    refine⟨ab,ao,cap,c,T,fz,by rw[Hy],by omega,vB hb0,?_,fun i r hr j v hj=>?_⟩
    ·have VY:=Wm (rest.length) ((r0::rest)[rest.length]'(by simp)) (List.getElem?_eq_getElem (by simp))
     have:=VY.1
     simp only[List.length_cons,Nat.succ_mul];omega
    ·obtain⟨h1,h2⟩:=Wm i r hr
     have OP:j<k:=by
      have:=(List.getElem?_eq_some_iff.1 hj).1
      rw[aK r (List.mem_of_getElem? hr)]at this;exact this
     have h3:=congrArg (fun z:Array Value=>z[j]?) h2
     simp only[Array.getElem?_extract,List.getElem?_toArray]at h3
     rw[hj]at h3
     rw[←h3,if_pos (by omega)]
  ·obtain⟨_,hd⟩:=Yf i r hr
   have hil:i<len:=by rw[←Hy];exact(List.getElem?_eq_some_iff.1 hr).1
   exact⟨n,_,_,_,hd,by rw[hx],by simp[hil]⟩
theorem GK{t e:TypeId}{q:IntKind}{cs:List Value}{x:DataW H×List MemPlace}{fuel:Nat}(ht:P.underlying t=some (.slice e))(he:P.underlying e=some (.int q))(hk:P.cellsOf e=1)(h:DataW.trod enc P W base spare held fuel t cs=some x):
  ∃(v:Value) (l:List Int),cs=[v]∧cT q (whole W) v l∧(∀n∈l,(Lit.int q n).wf=true)∧((l=[]∧x.1=.nil)∨∃es sp,x.1=.slice es sp∧es.length=l.length):=by
 obtain⟨v,rs,hcs,Lk,hx,hr⟩:=ve ht hk (by decide) h
 have hone:∀r∈rs,∃n,r=[.int q n]∧(Lit.int q n).wf=true:=fun r hm=>by
  obtain⟨i,hi,e⟩:=List.mem_iff_getElem.1 hm
  obtain⟨f,y,_,_,hy,_⟩:=hr i r (by rw[List.getElem?_eq_getElem hi,e])
  obtain⟨n,h1,_,h2⟩:=DataW.trod_int he hy
  exact⟨n,h1,h2⟩
 have hex:∃l:List Int,rs=l.map (fun n=>[Value.int q n])∧∀n∈l,(Lit.int q n).wf=true:=by
  clear Lk hx hr hcs
  induction rs with
  |nil=>exact⟨[],rfl,by simp⟩
  |cons r rest ih=>
   obtain⟨l,h1,h2⟩:=ih fun r hm=>hone r (by simp[hm])
   obtain⟨n,h3,h4⟩:=hone r (by simp)
   exact⟨n::l,by simp[h1,h3],fun m hm=>by rcases List.mem_cons.1 hm with rfl|hm;exact h4;exact h2 m hm⟩
 obtain⟨l,rfl,hwf⟩:=hex
 refine⟨v,l,hcs,Lk,hwf,?_⟩
 rcases hx with⟨h1,h2⟩|⟨es,sp,h1,h2⟩
 ·exact .inl ⟨by simpa using h1,h2⟩
 ·exact .inr ⟨es,sp,h1,by simpa using h2⟩
end
end Go.Sx
set_option maxRecDepth 100000
namespace Go.Proofs
open Go Go.Sx
section
open Go.ChangeShapes Go.WideShapes Go.Deep
variable {H:Type} {enc:TypeId×Value→H} {W:World} {base:Nat} {spare:Nat→Bool} {held:Bool}
theorem Ov{f:FuncId}{args:Array Value}{W:World}(h:Rd Tryz.prog f args (whole W) (· =.bool true)):
  Calls Tryz.prog f args W fun e W'=>e=.returned (.bool true)∧Go.RowKit.Below W.heap.size W W':=
 RZ (h.mono fun _ _ ⟨h1,h2⟩=>⟨by rw[h1];exact .refl _,h2⟩)
theorem yj(W:World):((whole W).map Prod.fst).Nodup:=by
 have:=(vw W).nd
 rwa [List.append_nil]at this
theorem He{l:List Int}(hb:∀x∈l,0≤x∧x≤255):iw (l.map Int.toNat)=l:=by
 unfold iw
 rw[List.map_map]
 conv=>rhs;rw[←List.map_id l]
 apply List.map_congr_left
 intro x hx
 have:=hb x hx
 show((x.toNat:Nat):Int)=x
 omega
theorem Mr{v:Value}{d:DataW H}{ps:List MemPlace}(h:DataW.Trod enc Tryz.prog W base spare held 87 v d ps)(hv:∃a n c,v=.slice a n c):
  ∃l:List Nat,cT .u8 (whole W) v (iw l)∧(∀x∈l,x<256)∧((∀n∈d.weights Tryz.prog 87,n≤reachBytes)→l.length≤140737488351232):=by
 obtain⟨fuel,hf⟩:=h
 have k3:Tryz.prog.cellsOf 5=1:=by kernel_rfl
 obtain⟨v',l,hcs,hi,hwf,hw⟩:=GK Tryz.underlying87 Tryz.underlying5 k3 hf
 have BA:v'=v:=by
  obtain⟨a,n,c,rfl⟩:=hv
  simpa[Value.cells]using hcs.symm
 subst BA
 have hb:∀x∈l,0≤x∧x≤255:=fun x hx=>bounds_u8 (hwf x hx)
 refine⟨l.map Int.toNat,by rw[He hb];exact hi,fun x hx=>?_,fun aK=>?_⟩
 ·obtain⟨y,hy,rfl⟩:=List.mem_map.1 hx
  have:=hb y hy;omega
 rw[List.length_map]
 rcases hw with⟨h1,_⟩|⟨es,sp,h1,h2⟩
 ·subst h1;simp
 ·simp only at h1
  have:=aK ((es.length+sp.length)*Tryz.prog.bytesOf 5) (by rw[h1,DataW.weights,Tryz.underlying87];exact List.mem_cons_self ..)
  rw[show Tryz.prog.bytesOf 5=1 by kernel_rfl]at this
  have h3:reachBytes=140737488351232:=rfl
  omega
theorem RH{fuel:Nat}{cs:List Value}{y:DataW H×List MemPlace}(hl:cs.length=6)(h:DataW.trod enc Tryz.prog W base spare held fuel 106 cs=some y):∃o:ur,cs=o.cells∧o.Ok:=by
 obtain⟨xs,n,_,_,_,hx,hf⟩:=DataW.trod_struct Tryz.underlying106 h
 match cs,hl with
 | [c0,c1,c2,c3,c4,c5],_=>
  have hx6:xs.length=6:=hx
  have k8:Tryz.prog.cellsOf 5=1:=by kernel_rfl
  have k64:Tryz.prog.cellsOf 50=1:=by kernel_rfl
  have g0:DataW.trod enc Tryz.prog W base spare held n 5 (List.take (Tryz.prog.cellsOf 5) [c0,c1,c2,c3,c4,c5])=xs[0]? :=hf 0 _ rfl
  have g1:DataW.trod enc Tryz.prog W base spare held n 5 (List.take (Tryz.prog.cellsOf 5) [c1,c2,c3,c4,c5])=xs[1]? :=hf 1 _ rfl
  have g2:DataW.trod enc Tryz.prog W base spare held n 5 (List.take (Tryz.prog.cellsOf 5) [c2,c3,c4,c5])=xs[2]? :=hf 2 _ rfl
  have g3:DataW.trod enc Tryz.prog W base spare held n 5 (List.take (Tryz.prog.cellsOf 5) [c3,c4,c5])=xs[3]? :=hf 3 _ rfl
  have g4:DataW.trod enc Tryz.prog W base spare held n 5 (List.take (Tryz.prog.cellsOf 5) [c4,c5])=xs[4]? :=hf 4 _ rfl
  have g5:DataW.trod enc Tryz.prog W base spare held n 50 (List.take (Tryz.prog.cellsOf 50) [c5])=xs[5]? :=hf 5 _ rfl
  rw[k8,List.getElem?_eq_getElem (by omega)]at g0 g1 g2 g3 g4
  rw[k64,List.getElem?_eq_getElem (by omega)]at g5
  simp only[List.take_succ_cons,List.take_zero]at g0 g1 g2 g3 g4 g5
  obtain⟨n0,e0,_,w0⟩:=DataW.trod_int Tryz.underlying5 g0
  obtain⟨n1,e1,_,w1⟩:=DataW.trod_int Tryz.underlying5 g1
  obtain⟨n2,e2,_,w2⟩:=DataW.trod_int Tryz.underlying5 g2
  obtain⟨n3,e3,_,w3⟩:=DataW.trod_int Tryz.underlying5 g3
  obtain⟨n4,e4,_,w4⟩:=DataW.trod_int Tryz.underlying5 g4
  obtain⟨n5,e5,_,w5⟩:=DataW.trod_int Tryz.underlying50 g5
  have b0:=bounds_u8 w0
  have b1:=bounds_u8 w1
  have b2:=bounds_u8 w2
  have b3:=bounds_u8 w3
  have b4:=bounds_u8 w4
  have b5:=bounds_u64 w5
  simp only[List.cons.injEq,and_true]at e0 e1 e2 e3 e4 e5
  refine⟨⟨n0.toNat,n1.toNat,n2.toNat,n3.toNat,n4.toNat,n5.toNat⟩,?_,⟨?_,?_,?_,?_,?_,?_⟩⟩
  ·have z0:((n0.toNat:Nat):Int)=n0:=by omega
   have z1:((n1.toNat:Nat):Int)=n1:=by omega
   have z2:((n2.toNat:Nat):Int)=n2:=by omega
   have z3:((n3.toNat:Nat):Int)=n3:=by omega
   have z4:((n4.toNat:Nat):Int)=n4:=by omega
   have z5:((n5.toNat:Nat):Int)=n5:=by omega
   unfold ur.cells
   simp only
   rw[e0,e1,e2,e3,e4,e5,z0,z1,z2,z3,z4,z5]
  all_goals simp only;omega
theorem RI{v:Value}{d:DataW H}{ps:List MemPlace}(h:DataW.Trod enc Tryz.prog W base spare held 22 v d ps)(hv:∃a n c,v=.slice a n c):
  ∃ops:List ur,Sl 6 (whole W) v (ops.map ur.cells)∧(∀o∈ops,o.Ok)∧((∀n∈d.weights Tryz.prog 22,n≤reachBytes)→ops.length≤140737488351232):=by
 obtain⟨fuel,hf⟩:=h
 have k6:Tryz.prog.cellsOf 106=6:=by kernel_rfl
 obtain⟨v',rs,hcs,Lk,hw,hr⟩:=ve Tryz.underlying22 k6 (by decide) hf
 have BA:v'=v:=by
  obtain⟨a,n,c,rfl⟩:=hv
  simpa[Value.cells]using hcs.symm
 subst BA
 have hone:∀r∈rs,∃o:ur,r=o.cells∧o.Ok:=fun r hm=>by
  obtain⟨i,hi,e⟩:=List.mem_iff_getElem.1 hm
  obtain⟨f,y,_,_,hy,_⟩:=hr i r (by rw[List.getElem?_eq_getElem hi,e])
  exact RH (Lk.1 r hm) hy
 have hex:∃ops:List ur,rs=ops.map ur.cells∧∀o∈ops,o.Ok:=by
  clear Lk hw hr hcs
  induction rs with
  |nil=>exact⟨[],rfl,by simp⟩
  |cons r rest ih=>
   obtain⟨l,h1,h2⟩:=ih fun r hm=>hone r (by simp[hm])
   obtain⟨o,h3,h4⟩:=hone r (by simp)
   exact⟨o::l,by simp[h1,h3],fun m hm=>by rcases List.mem_cons.1 hm with rfl|hm;exact h4;exact h2 m hm⟩
 obtain⟨ops,rfl,hok⟩:=hex
 refine⟨ops,Lk,hok,fun aK=>?_⟩
 rcases hw with⟨h1,_⟩|⟨es,sp,h1,h2⟩
 ·have:ops=[]:=by simpa using h1
  subst this;simp
 ·simp only at h1
  have:=aK ((es.length+sp.length)*Tryz.prog.bytesOf 106) (by rw[h1,DataW.weights,Tryz.underlying22];exact List.mem_cons_self ..)
  rw[show Tryz.prog.bytesOf 106=16 by kernel_rfl]at this
  have h3:reachBytes=140737488351232:=rfl
  rw[List.length_map]at h2
  omega
end
end Go.Proofs
namespace aE
def dst(x y:Nat):Nat:=(x-y)+(y-x)
end aE
set_option maxRecDepth 100000
namespace Go.Proofs
open Go Go.Sx
theorem Kr{n A:Nat}{L:List (List Nat)}(hn:n≤16)(hl:L.length<33554432){k:Nat}(hk:k≤n):(an.st n L A k).length<2199023255551:=by
 have h2:=an.p7 n L A k
 have h3:2^k≤2^16:=Nat.pow_le_pow_right (by decide) (by omega)
 have h4:2^k*L.length≤2^16*L.length:=Nat.mul_le_mul_right _ h3
 omega
end Go.Proofs
set_option maxRecDepth 100000
namespace Go.Proofs
open Go Go.Sx
theorem Mg{B:Hp}{v1 v2:Value}{a b:List Nat}(h1:Words B v1 a)(h2:Words B v2 b)(bQ:a.length<2^62):Rd Tryz.prog 222 #[v1,v2] B (· =.bool (decide (a=b))):=by
 intro g
 refine Dz (R:=aA _) ?_
 unfold L222
 refine h1.1.bC (h2.1.bC ?_)
 simp only[ak]
 refine ae.wZ (Br.dec (fun h=>?_) (fun h=>?_))
 ·exact cz.mk (.refl _) (by rw[decide_eq_false (fun e=>h (by rw[e]))])
 ·refine h1.1.bC ?_
  simp only[ak]
  have hlen:a.length=b.length:=by omega
  refine⟨fun vs H=>H=B∧∃j:Nat,vs=[.int .i64 (j:Int)]∧j≤a.length∧∀i,i<j→a[i]? =b[i]?,fun vs _=>a.length-bG vs 0,JE.mk ⟨rfl,0,rfl,by omega,by omega⟩,?_⟩
  rintro w H ⟨rfl,j,hv,hj,aK⟩ gs
  simp only[List.cons.injEq,and_true]at hv
  subst hv
  refine ae.eA (Br.dec (fun hlt=>?_) (fun hlt=>?_))
  ·have ga:a[j]? =some a[j]:=List.getElem?_eq_getElem hlt
   have gb:b[j]? =some b[j]:=List.getElem?_eq_getElem (by omega)
   refine h1.1.ld (cr ga) (fun _ h=>h) ?_
   refine h2.1.ld (cr gb) (fun _ h=>h) ?_
   refine ae.wZ (Br.dec (fun hne=>?_) (fun hne=>?_))
   ·exact cz.mk (.refl _) (by rw[decide_eq_false];rintro rfl;exact hne rfl)
   ·refine ae.aL (b:=1) (by simp[aB];omega) ?_
    refine aD.mk ⟨rfl,j+1,rfl,by omega,fun i hi=>?_⟩ (by simp[bG];omega)
    by_cases e:i=j
    ·subst e;rw[ga,gb];simp;omega
    ·exact aK i (by omega)
  ·refine cz.mk (.refl _) ?_
   rw[decide_eq_true]
   apply List.ext_getElem? 
   intro i
   by_cases hi:i<a.length
   ·exact aK i (by omega)
   ·rw[List.getElem?_eq_none (by omega),List.getElem?_eq_none (by omega)]
theorem KO{B:Hp}{v:Value}{n u A:Nat}{L:List (List Nat)}(ht:eL B v (L.map fun ws=>⟨n,ws⟩))(hf:∀ws∈L,an.dj n ws)(hne:L≠[])(bQ:L.length<4398046511104)(hA:A<2^n)(hu:u<n)(hAu:A.testBit u=false):
  Rd Tryz.prog 157 #[v,.int .u64 (A:Int),.int .i64 (u:Int)] B (· =.tuple #[.int .i64 ((an.lvl n L A u:Nat):Int),.int .i64 0]):=by
 obtain⟨w0,Bz⟩:∃w0,L[0]? =some w0:=⟨_,List.getElem?_eq_getElem (List.length_pos_iff.2 hne)⟩
 have qo:n≤16:=(hf w0 (List.mem_of_getElem? Bz)).pc
 have agP:A<65536:=Nat.lt_of_lt_of_le hA (Nat.pow_le_pow_right (n:=2) (by decide) qo)
 intro g
 refine Ee (R:=aA _) ?_
 unfold L157
 refine af.rd .here (om ht (by simp;omega)) ?_
 rintro v rfl
 rw[decide_eq_true (sK hf)]
 refine Un.not (Br.no ?_)
 intro J hJ
 refine ht.bC ?_
 rw[List.length_map]
 have hpos:0<L.length:=List.length_pos_iff.2 hne
 refine ae.kB (b:=0) (Br.fc hpos ?_)
 refine ht.Uf (i:=0) (t:=⟨n,w0⟩) (by rw[List.getElem?_map,Bz];rfl) (fun _ h=>h) ?_
 refine JE.mk (hJ _ _ fun gs=>?_)
 simp only
 refine ae.lss (bT.or (decide (n≤u)) (fun _=>?_) rfl fun gs=>?_)
 ·exact ae.rD ⟨trivial,rfl⟩
 rw[show(decide ((u:Int)<0)||decide (n≤u))=false by simp;omega]
 refine bT.or (decide (A>>>n≠0)) (fun _=>?_) rfl fun gs=>?_
 ·refine ae.kJ (by simp[aB];omega) ?_
  exact ae.wZ (b:=0) ⟨trivial,rfl⟩
 rw[show(false||decide (A>>>n≠0))=false by rw[Nat.shiftRight_eq_div_pow,Nat.div_eq_of_lt hA];rfl]
 refine Br.no ?_
 have VC:∀k,A>>>k<18446744073709551616:=fun k=>Nat.lt_of_le_of_lt (Nat.shiftRight_le _ _) (by omega)
 refine ae.kJ (by simp[aB];omega) (ae.jm (b:=1) (by simpa[aB]using VC u) (by decide) (ae.eB (b:=1) ?_))
 refine Br.bt (by rw[an.xP,hAu];simp) ?_
 refine af.fn .here (vx ht rfl hf (by omega)) ?_
 rintro r H ⟨b,es,ck,m,N,rfl,rfl,hE,hm⟩
 have hbound:∀k,k≤n→∀m:List (List UInt8×List Nat),(m.map Prod.snd).Nodup→(∀x,x∈m.map Prod.snd↔x∈an.st n L A k)→m.length<4611686018427387904:=by
  intro k hk m g7 hmem
  have h1:=(an.eR g7 (an.lX n L A k) hmem).length_eq
  have h2:=an.p7 n L A k
  have h3:2^k≤2^16:=Nat.pow_le_pow_right (by decide) (by omega)
  have h4:2^k*L.length≤2^16*L.length:=Nat.mul_le_mul_right _ h3
  rw[List.length_map]at h1
  omega
 refine⟨fun vs H=>∃(k:Nat) (b:Nat) (es:Array MapEntry) (ck:Nat) (m:List (List UInt8×List Nat)) (N:Hp),vs=[.map (some b),.int .i64 (k:Int)]∧k≤n∧H=(b,.map es ck)::(N++B)∧fk n (N++B) es ck m∧∀x,x∈m.map Prod.snd↔x∈an.st n L A k,
  fun vs _=>n-bG vs 1,JE.mk ⟨0,b,es,ck,m,N,rfl,by omega,rfl,hE,fun x=>by rw[hm];exact an.cv.symm⟩,?_⟩
 clear hm hE
 rintro lS lN H ⟨k,b,es,ck,m,N,hv,hk,rfl,hE,hm⟩ gs
 simp only[List.cons.injEq,and_true]at hv
 obtain⟨rfl,rfl⟩:=hv
 have vQ:=hE.mono (B':=(b,Obj.map es ck)::(N++B)) zS
 refine ae.eA (Br.dec (fun hlt=>?_) (fun hlt=>?_))
 ·intro J hJ
  refine ae.kJ (by simp[aB];omega) (ae.jm (b:=1) (by simpa[aB]using VC k) (by decide) (ae.eB (b:=1) ?_))
  refine Br.dec (fun h=>?_) (fun h=>?_)
  ·have hb:=(an.xP A k).1 h
   refine af.fn .here (tg (.head _) vQ hlt (hbound k hk m hE.nodup hm)) ?_
   rintro r H ⟨b',es',ct,m',N',rfl,rfl,zx,hm'⟩
   refine Ext.mk rfl (Ext.mk rfl (JE.mk (hJ _ _ fun gs=>?_)))
   refine ae.aL (b:=1) (by simp[aB];omega) ?_
   refine aD.mk ⟨k+1,b',es',ct,m',N'++(b,.map es ck)::N,rfl,by omega,by rw[List.append_assoc];rfl,by rw[List.append_assoc];exact zx,fun x=>?_⟩ (by simp[bG];omega)
   rw[hm',an.st,if_pos hb,an.bL]
   constructor
   ·rintro⟨t,h1,h2⟩;exact⟨t,(hm t).1 h1,h2⟩
   ·rintro⟨t,h1,h2⟩;exact⟨t,(hm t).2 h1,h2⟩
  ·have hb:A.testBit k=false:=by cases hh:A.testBit k;rfl;exact absurd ((an.xP A k).2 hh) h
   refine JE.mk (hJ _ _ fun gs=>?_)
   refine ae.aL (b:=1) (by simp[aB];omega) ?_
   refine aD.mk ⟨k+1,b,es,ck,m,N,rfl,by omega,rfl,hE,fun x=>?_⟩ (by simp[bG];omega)
   rw[hm,an.st,hb];simp
 ·have:k=n:=by omega
  subst this
  refine af.fn .here (tg (.head _) vQ hu (hbound k hk m hE.nodup hm)) ?_
  rintro r H ⟨b',es',ct,m',N',rfl,rfl,zx,hm'⟩
  refine Ext.mk rfl (Ext.mk rfl ?_)
  refine cz.mk ?_ ?_
  ·exact .skip (.fO (.skip .right))
  ·have:=an.iV (n:=k) (v:=u) (an.eR hE.nodup (an.lX k L A k) hm)
   unfold an.lvl;rw[←this];rfl
theorem su{B:Hp}{v:Value}{t:Tb}(ht:AI B v t):Rd Tryz.prog 156 #[v] B (· =.tuple (if TF t then#[.int .u64 ((an.oc t.n.toNat t.ws:Nat):Int),.int .i64 0]else#[.int .u64 0,.int .i64 5])):=by
 obtain⟨tn,ws⟩:=t
 obtain⟨s,rfl,hw⟩:=ht
 simp only at hw⊢
 intro g
 refine Ef (R:=aA _) ?_
 unfold L156
 intro b1 _
 refine aC.whole (r:=[.int .i64 tn,s]) (by exact .head _) rfl ?_
 refine j6 fun b2=>?_
 refine af.rd .here (oD (t:=⟨tn,ws⟩) (by exact .head _) (hw.mono zS)) ?_
 rintro v rfl
 refine Un.not ?_
 by_cases hT:TF ⟨tn,ws⟩
 case neg=>
  rw[decide_eq_false hT,if_neg hT]
  exact Br.yes (cz.mk (by repeat (first|exact aQ.refl _|apply aQ.cons|apply aQ.skip|apply aQ.dr|apply aQ.fO)) rfl)
 rw[decide_eq_true hT,if_pos hT]
 refine Br.no ?_
 obtain⟨n,rfl⟩:∃n:Nat,tn=n:=⟨tn.toNat,by have:=hT.1;simp only at this;omega⟩
 have hf:an.dj n ws:=by have:=hT.2;simpa using this
 refine aa.mk (Ld.mk zM rfl ?_)
 refine⟨fun vs H=>∃(k:Nat) (N:Hp),vs=[.int .u64 ((an.jP n ws k:Nat):Int),.int .i64 (k:Int)]∧k≤n∧H=(b1,.cells (Value.cells (.agg #[.int .i64 (n:Int),s])) 57 (0,0))::(N++B),
  fun vs _=>n-bG vs 1,JE.of .tail ⟨0,[],rfl,by omega,rfl⟩,?_⟩
 rintro rJ g8 H ⟨k,N,hv,hk,rfl⟩ gs
 simp only[List.cons.injEq,and_true]at hv
 obtain⟨rfl,rfl⟩:=hv
 have qo:=hf.pc
 have Lk:=an.lW n ws k
 have afA:an.jP n ws k<65536:=Nat.lt_of_lt_of_le Lk (Nat.pow_le_pow_right (n:=2) (by decide) (by omega:k≤16))
 refine ae.eA (Br.dec (fun hlt=>?_) (fun hlt=>?_))
 ·intro J hJ
  refine DR.self ?_
  refine aC.whole (r:=[.int .i64 (n:Int),s]) (by exact .head _) rfl (aC.whole (r:=[.int .i64 (n:Int),s]) (by exact .head _) rfl ?_)
  refine af.px (B:=N++B) (.cons .here) (xA (v:=.agg (List.toArray [.int .i64 (n:Int),s])) ⟨s,rfl,hw.mono zS⟩ hf hlt) ?_
  rintro v N1 ⟨s1,rfl,jJ⟩
  refine⟨.cons .right,Gl.mk rfl ?_⟩
  refine af.px (B:=N1++(N++B)) (.cons .here) (xA (v:=.agg (List.toArray [.int .i64 (n:Int),s])) ⟨s,rfl,hw.mono zS⟩ hf hlt) ?_
  rintro v N2 ⟨s2,rfl,pA⟩
  refine⟨.cons (.fO .right),Gl.mk rfl ?_⟩
  refine af.rd (B:=N2++(N1++(N++B))) (.cons .here) (Mg (jJ.mono zS) pA (by have:=rT (an.cW (v:=k) (ws:=ws) (b:=false) hf.pc);simp only;omega)) ?_
  rintro v rfl
  refine⟨.cons (.fO .right),Un.not ?_⟩
  have iF:JE J [.int .u64 ((an.jP n ws (k+1):Nat):Int)] ((b1,.cells (Value.cells (.agg #[.int .i64 (n:Int),s])) 57 (0,0))::(N2++(N1++(N++B)))):=by
   refine JE.mk (hJ _ _ fun gs=>?_)
   refine ae.aL (b:=1) (by simp[aB];omega) ?_
   exact aD.mk ⟨k+1,N2++(N1++N),rfl,by omega,by rw[List.append_assoc,List.append_assoc]⟩ (by simp[bG];omega)
  rw[an.jP]at iF
  by_cases hd:an.dep n ws k=true
  ·rw[if_pos hd]at iF
   have:an.fu n ws k false≠an.fu n ws k true:=by simpa[an.dep]using hd
   rw[decide_eq_false this]
   refine Br.yes ?_
   refine ae.wQ (a:=1) ?_
   have h2:2^k<65536:=Nat.lt_of_lt_of_le (Nat.pow_lt_pow_right (n:=16) (by decide) (by omega)) (by decide)
   rw[Nat.one_shiftLeft,Nat.mod_eq_of_lt (by omega)]
   exact ae.Jd (by simp[aB];omega) (by simp[aB];omega) iF
  ·rw[if_neg hd]at iF
   have:an.fu n ws k false=an.fu n ws k true:=by simpa[an.dep]using hd
   rw[decide_eq_true this]
   exact Br.no iF
 ·have:k=n:=by omega
  subst this
  refine cz.mk (.skip .right) ?_
  simp[an.oc]
theorem Kz{B:Hp}{v:Value}{ts:List Tb}(ht:eL B v ts)(bQ:ts.length<4398046511104):Px Tryz.prog 155 #[v] B (fun r _=>∃s,r=.tuple #[s,.int .i64 (if pR ts then 0 else 5)]):=by
 intro g
 refine Eg (R:=aA _) ?_
 unfold L155
 refine af.rd .here (om ht (by omega)) ?_
 rintro v rfl
 refine Un.not ?_
 by_cases hO:pR ts
 case neg=>rw[decide_eq_false hO,if_neg hO];exact Br.yes (tM.mk (.refl _) ⟨_,rfl⟩)
 rw[decide_eq_true hO,if_pos hO]
 refine Br.no (ht.bC (ae.eB (b:=0) (Br.dec (fun h0=>tM.mk (.refl _) ⟨_,rfl⟩) (fun h0=>?_))))
 obtain⟨n,L,qo,rfl,hne,hf⟩:=Fl hO (by intro e;rw[e]at h0;exact h0 rfl)
 rw[List.length_map]at bQ
 obtain⟨w0,Bz⟩:∃w0,L[0]? =some w0:=⟨_,List.getElem?_eq_getElem (List.length_pos_iff.2 hne)⟩
 refine ht.Uf (i:=0) (t:=⟨n,w0⟩) (by rw[List.getElem?_map,Bz];rfl) (fun _ h=>h) ?_
 simp only
 refine cX.ints (by omega) (by omega) fun bw=>?_
 refine ht.bC ?_
 refine⟨fun vs H=>∃(k:Nat) (l:List Nat),vs=[.int .i64 (k:Int)]∧k≤L.length∧H=(bw,.cells (ax .u64 (iw l)) 50 (0,0))::B∧l.length=n∧∀w∈l,w<18446744073709551616,
  fun vs _=>L.length-bG vs 0,JE.mk ⟨0,List.replicate n 0,rfl,by omega,by simp[iw],by simp,fun w hw=>by rw[List.eq_of_mem_replicate hw];decide⟩,?_⟩
 rintro w H ⟨k,l,hv,hk,rfl,hl,OO⟩ gs
 simp only[List.cons.injEq,and_true]at hv
 subst hv
 rw[List.length_map]
 refine ae.eA (Br.dec (fun hlt=>?_) (fun hlt=>?_))
 ·have hg:(L.map fun ws=>(⟨n,ws⟩:Tb))[k]? =some ⟨n,L[k]⟩:=by rw[List.getElem?_map,List.getElem?_eq_getElem hlt];rfl
  have nE:=hf L[k] (List.getElem_mem hlt)
  refine ht.ld hg zS fun s hw=>?_
  intro b2 _
  refine St.whole (r:=[.int .i64 (n:Int),s]) (by exact .head _) rfl rfl ?_ ?_
  ·have:=aH hw;simpa[Value.oneCell']using this
  refine aC.whole (r:=[.int .i64 (n:Int),s]) (by exact .head _) rfl ?_
  refine af.rd (B:=B) (.cons (.cons .here)) (su (v:=.agg (List.toArray [.int .i64 (n:Int),s])) (t:=⟨n,L[k]⟩) ⟨s,rfl,hw⟩) ?_
  rintro v rfl
  rw[if_pos (show TF ⟨(n:Int),L[k]⟩from⟨by simp,by simpa using nE⟩)]
  refine Ext.mk rfl (Ext.mk rfl (aY.mk ?_))
  simp only[Int.toNat_natCast]
  have VA:an.oc n L[k]<65536:=Nat.lt_of_lt_of_le (an.lW n L[k] n) (Nat.pow_le_pow_right (n:=2) (by decide) qo)
  refine⟨fun vs H=>∃(j:Nat) (l:List Nat),vs=[.int .i64 (j:Int)]∧j≤n∧H=(bw,.cells (ax .u64 (iw l)) 50 (0,0))::B∧l.length=n∧∀w∈l,w<18446744073709551616,
   fun vs _=>n-bG vs 0,JE.of .tail ⟨0,l,rfl,by omega,rfl,hl,OO⟩,?_⟩
  rintro w H ⟨j,l,hv,hj,rfl,hl,OO⟩ gs
  simp only[List.cons.injEq,and_true]at hv
  subst hv
  refine ae.eA (Br.dec (fun QA=>?_) (fun QA=>?_))
  ·intro J hJ
   have iF:∀l:List Nat,l.length=n→(∀w∈l,w<18446744073709551616)→JE J [] ((bw,.cells (ax .u64 (iw l)) 50 (0,0))::B):=fun l hl OO=>by
    refine JE.mk (hJ _ fun gs=>?_)
    refine ae.aL (b:=1) (by simp[aB];omega) ?_
    exact aD.mk ⟨j+1,l,rfl,by omega,rfl,hl,OO⟩ (by simp[bG];omega)
   have hsh:an.oc n L[k]>>>j<65536:=Nat.lt_of_le_of_lt (Nat.shiftRight_le _ _) VA
   refine ae.kJ (by simp[aB];omega) (ae.jm (b:=1) (by simp[aB];omega) (by decide) (ae.eB (b:=1) ?_))
   refine Br.dec (fun h=>?_) (fun h=>iF l hl OO)
   refine DR.self ?_
   have hgj:l[j]? =some l[j]:=List.getElem?_eq_getElem (by omega)
   have hlj:=OO _ (List.getElem_mem (show j<l.length by omega))
   refine ai.nat QA ?_
   refine Ld.mk (v:=.int .u64 (l[j]:Int)) (by exact .head _) (by simp[ax,iw,hgj]) ?_
   refine ae.wQ (a:=1) ?_
   have h2:2^j<65536:=Nat.lt_of_lt_of_le (Nat.pow_lt_pow_right (n:=16) (by decide) (by omega)) (by decide)
   rw[Nat.one_shiftLeft,Nat.mod_eq_of_lt (by omega)]
   refine ae.F8 (by simp[aB];omega) (by simp[aB];omega) ?_
   have h3:=nx (an.oc n L[k]) (2^j)
   refine ae.Jd (by simp only[aB];exact hlj) (by simp only[aB];omega) ?_
   refine ai.nat QA ?_
   refine St.ints (l:=iw l) (by exact .head _) (by simp;omega) ?_
   have e:(iw l).set j ((l[j]|||mG (an.oc n L[k]) (2^j):Nat):Int)=iw (l.set j (l[j]|||mG (an.oc n L[k]) (2^j))):=by simp[iw,List.map_set]
   rw[e]
   refine iF _ (by simp[hl]) fun w hw=>?_
   rcases List.mem_or_eq_of_mem_set hw with hw|rfl
   ·exact OO w hw
   ·exact Nat.or_lt_two_pow (n:=64) hlj (by omega)
  ·refine ae.aL (b:=1) (by simp[aB];omega) ?_
   exact aD.mk ⟨k+1,l,rfl,by omega,rfl,hl,OO⟩ (by simp[bG];omega)
 ·exact tM.mk (by repeat (first|exact aV.refl _|apply aV.cons|apply aV.app)) ⟨_,rfl⟩
end Go.Proofs
namespace an
open Go.Sx
def fF:List Nat→Nat
 | []=>0
 |x::r=>r.foldl min x
theorem pH:∀(r:List Nat) (x:Nat),r.foldl min x≤x∧∀y∈r,r.foldl min x≤y
 | [],x=>⟨Nat.le_refl _,by simp⟩
 |z::r,x=>by
  obtain⟨h1,h2⟩:=pH r (min x z)
  refine⟨by rw[List.foldl_cons];omega,fun y hy=>?_⟩
  rw[List.foldl_cons]
  rcases List.mem_cons.1 hy with rfl|hy
  ·omega
  ·exact h2 y hy
theorem nW:∀(r:List Nat) (x:Nat),r.foldl min x=x∨r.foldl min x∈r
 | [],x=>.inl rfl
 |z::r,x=>by
  rw[List.foldl_cons]
  rcases nW r (min x z)with h|h
  ·rw[h]
   rcases Nat.le_total x z with h'|h'
   ·left;omega
   ·right;rw[Nat.min_eq_right h'];simp
  ·right;exact List.mem_cons_of_mem _ h
theorem yT{l:List Nat}{y:Nat}(h:y∈l):fF l≤y:=by
 cases l with
 |nil=>simp at h
 |cons x r=>
  obtain⟨h1,h2⟩:=pH r x
  rcases List.mem_cons.1 h with rfl|h
  ·exact h1
  ·exact h2 y h
theorem m0{l:List Nat}(h:l≠[]):fF l∈l:=by
 cases l with
 |nil=>exact absurd rfl h
 |cons x r=>
  rcases nW r x with h|h
  ·show r.foldl min x∈_;rw[h];simp
  ·exact List.mem_cons_of_mem _ h
theorem yU{l:List Nat}{m:Nat}(h1:m∈l)(h2:∀y∈l,m≤y):fF l=m:=
 Nat.le_antisymm (yT h1) (h2 _ (m0 (by intro e;rw[e]at h1;simp at h1)))
theorem Bl(l:List Nat)(x:Nat):fF (l++[x])=if l=[]then x else min (fF l) x:=by
 cases l with
 |nil=>rfl
 |cons y r=>simp[fF,List.foldl_append]
def bK(n a:Nat):List Nat:=(List.range n).filter fun v=> !a.testBit v
def has(n a:Nat):List Nat:=(List.range n).filter fun v=>a.testBit v
theorem cA{n a v:Nat}:v∈bK n a↔v<n∧a.testBit v=false:=by simp[bK]
theorem pn{n a v:Nat}:v∈has n a↔v<n∧a.testBit v=true:=by simp[has]
theorem my{α:Type}(p q:α→Bool)(x:α):∀(l:List α),l.Nodup→x∈l→p x=true→q x=false→(∀y∈l,y≠x→q y=p y)→(l.filter q).length+1=(l.filter p).length
 | [],_,h,_,_,_=>by simp at h
 |y::l,nd,h,hp,hq,aK=>by
  rw[List.nodup_cons]at nd
  by_cases e:y=x
  ·subst e
   have hsame:l.filter q=l.filter p:=by
    apply List.filter_congr
    intro z hz
    exact aK z (by simp[hz]) (fun e=>nd.1 (e▸hz))
   rw[List.filter_cons,List.filter_cons,hp,hq,hsame];simp
  ·have Yb:x∈l:=by rcases List.mem_cons.1 h with h|h;exact absurd h.symm e;exact h
   have ih:=my p q x l nd.2 Yb hp hq fun z hz hne=>aK z (by simp[hz]) hne
   have hy:=aK y (by simp) e
   rw[List.filter_cons,List.filter_cons,hy]
   cases p y
   ·simpa using ih
   ·simp only[if_true,List.length_cons];omega
theorem oY{a u v:Nat}(h:v≠u):(az a u true).testBit v=a.testBit v:=by rw[aq,if_neg h]
theorem fS{n a v:Nat}(h:v∈bK n a):(bK n (az a v true)).length+1=(bK n a).length:=by
 obtain⟨h1,h2⟩:=cA.1 h
 refine my _ _ v (List.range n) List.nodup_range (List.mem_range.2 h1) (by simp[h2]) (by simp[aq]) fun y hy hne=>?_
 rw[oY hne]
def MB(n:Nat)(c:Nat→Nat→Nat):Nat→Nat→Nat
 |0,_=>0
 |f+1,a=>fF ((bK n a).map fun v=>c a v+MB n c f (az a v true))
def par(n:Nat)(c:Nat→Nat→Nat):Nat→Nat→Nat
 |0,_=>0
 |f+1,s=>fF ((has n s).map fun v=>c (az s v false) v+par n c f (az s v false))
theorem Aa{n:Nat}{c:Nat→Nat→Nat}:∀(f:Nat) (a:Nat),(bK n a).length≤f→MB n c (f+1) a=MB n c f a
 |0,a,h=>by
  have:bK n a=[]:=List.length_eq_zero_iff.1 (by omega)
  simp[MB,this,fF]
 |f+1,a,h=>by
  rw[MB,MB]
  congr 1
  apply List.map_congr_left
  intro v hv
  rw[Aa f _ (by have:=fS hv;omega)]
theorem Oi(n a:Nat):(bK n a).length≤n:=by have:=List.length_filter_le (fun v=> !a.testBit v) (List.range n);simpa[bK]using this
def B(n:Nat)(c:Nat→Nat→Nat)(a:Nat):Nat:=MB n c n a
def W(n:Nat)(c:Nat→Nat→Nat)(s:Nat):Nat:=par n c n s
theorem ES(n:Nat)(c:Nat→Nat→Nat)(a:Nat):B n c a=fF ((bK n a).map fun v=>c a v+B n c (az a v true)):=by
 unfold B
 rw[←Aa n a (Oi n a)]
 rfl
theorem XY{n:Nat}{c:Nat→Nat→Nat}{a v:Nat}(hv:v∈bK n a):B n c a≤c a v+B n c (az a v true):=by
 rw[ES n c a];exact yT (List.mem_map.2 ⟨v,hv,rfl⟩)
theorem XZ{n:Nat}{c:Nat→Nat→Nat}{a:Nat}(h:bK n a≠[]):∃v∈bK n a,B n c a=c a v+B n c (az a v true):=by
 have:=m0 (l:=(bK n a).map fun v=>c a v+B n c (az a v true)) (by simpa using h)
 rw[←ES]at this
 obtain⟨v,hv,e⟩:=List.mem_map.1 this
 exact⟨v,hv,e.symm⟩
theorem Gq{n:Nat}{c:Nat→Nat→Nat}{a:Nat}(h:bK n a=[]):B n c a=0:=by rw[ES,h];rfl
structure Used(n:Nat)(c:Nat→Nat→Nat)(U:Nat):Prop where
 zero:∀a v,v<n→a.testBit v=false→U.testBit v=false→c a v=0
 mask:∀a v,v<n→a.testBit v=false→c a v=c (a&&&U) v
theorem mH{a U v:Nat}{b:Bool}:(az a v b) &&&U=if U.testBit v then az (a&&&U) v b else a&&&U:=by
 apply Nat.eq_of_testBit_eq;intro k
 by_cases hU:U.testBit v=true
 ·rw[if_pos hU,Nat.testBit_and,aq,aq,Nat.testBit_and]
  by_cases e:k=v
  ·subst e;simp[hU]
  ·simp[e]
 ·rw[if_neg hU,Nat.testBit_and,aq,Nat.testBit_and]
  by_cases e:k=v
  ·subst e;simp[hU]
  ·simp[e]
def c8(n U a:Nat):List Nat:=(bK n a).filter fun v=>U.testBit v
theorem eS{n U a v:Nat}:v∈c8 n U a↔v<n∧a.testBit v=false∧U.testBit v=true:=by simp[c8,cA,and_assoc]
theorem jS(n U a:Nat):c8 n U (a&&&U)=c8 n U a:=by
 unfold c8 bK
 rw[List.filter_filter,List.filter_filter]
 apply List.filter_congr
 intro v _
 rw[Nat.testBit_and]
 cases a.testBit v<;>cases U.testBit v<;>rfl
theorem ER{n U:Nat}{c:Nat→Nat→Nat}(hU:Used n c U):∀(d a:Nat),(bK n a).length=d→B n c a=fF ((c8 n U a).map fun v=>c (a&&&U) v+B n c (az a v true))∧∀a',(bK n a').length≤d→a'&&&U=a&&&U→B n c a'=B n c a:=by
 intro d
 induction d using Nat.strongRecOn with
 |_ d ih=>
  have key:∀a,(bK n a).length=d→B n c a=fF ((c8 n U a).map fun v=>c (a&&&U) v+B n c (az a v true)):=by
   intro a hd
   by_cases hm:bK n a=[]
   ·have h1:c8 n U a=[]:=by unfold c8;rw[hm];rfl
    rw[h1,Gq hm];rfl
   ·have hle:∀v∈c8 n U a,B n c a≤c (a&&&U) v+B n c (az a v true):=fun v hv=>by
     obtain⟨h1,h2,h3⟩:=eS.1 hv
     rw[←hU.mask a v h1 h2];exact XY (cA.2 ⟨h1,h2⟩)
    obtain⟨v,hv,he⟩:=XZ (c:=c) hm
    obtain⟨h1,h2⟩:=cA.1 hv
    by_cases hu:U.testBit v=true
    ·symm
     refine yU (List.mem_map.2 ⟨v,eS.2 ⟨h1,h2,hu⟩,by rw[←hU.mask a v h1 h2];exact he.symm⟩) fun y hy=>?_
     obtain⟨w,hw,rfl⟩:=List.mem_map.1 hy
     exact hle w hw
    ·have xp:U.testBit v=false:=by simpa using hu
     rw[hU.zero a v h1 h2 xp,Nat.zero_add]at he
     have hlt:(bK n (az a v true)).length<d:=by have:=fS hv;omega
     have hand:az a v true&&&U=a&&&U:=by rw[mH,if_neg hu]
     obtain⟨k1,k2⟩:=ih _ hlt (az a v true) rfl
     have Qx:c8 n U (az a v true)=c8 n U a:=by rw[←jS,hand,jS]
     by_cases BE:c8 n U a=[]
     ·rw[Qx,BE]at k1
      rw[he,k1,BE];rfl
     ·symm
      rw[Qx,hand]at k1
      have hmem:=m0 (l:=(c8 n U a).map fun w=>c (a&&&U) w+B n c (az (az a v true) w true)) (by simpa using BE)
      rw[←k1]at hmem
      obtain⟨w,hw,ni⟩:=List.mem_map.1 hmem
      obtain⟨w1,w2,w3⟩:=eS.1 hw
      have hwv:w≠v:=fun e=>by rw[e]at w3;rw[xp]at w3;cases w3
      have QH:az (az a v true) w true=az (az a w true) v true:=by
       apply Nat.eq_of_testBit_eq;intro k
       rw[aq,aq,aq,aq]
       by_cases e1:k=w<;>by_cases e2:k=v<;>simp[e1,e2]
      have hmw:w∈bK n a:=cA.2 ⟨w1,w2⟩
      have hsub:B n c (az (az a v true) w true)=B n c (az a w true):=by
       have oC:(bK n (az a w true)).length<d:=by have:=fS hmw;omega
       refine(ih _ oC (az a w true) rfl).2 _ ?_ ?_
       ·have hvm:v∈bK n (az a w true):=cA.2 ⟨h1,by rw[aq,if_neg (Ne.symm hwv)];exact h2⟩
        have:=fS hvm
        rw[QH];omega
       ·rw[QH,mH,if_neg hu]
      have hval:c (a&&&U) w+B n c (az a w true)=B n c a:=by rw[he,←ni,hsub]
      refine yU (List.mem_map.2 ⟨w,hw,hval⟩) fun y hy=>?_
      obtain⟨z,hz,rfl⟩:=List.mem_map.1 hy
      exact hle z hz
  intro a hd
  refine⟨key a hd,fun a' cV hand=>?_⟩
  have Qx:c8 n U a'=c8 n U a:=by rw[←jS,hand,jS]
  have h':B n c a'=fF ((c8 n U a').map fun v=>c (a'&&&U) v+B n c (az a' v true)):=by
   rcases Nat.lt_or_ge (bK n a').length d with h|h
   ·exact(ih _ h a' rfl).1
   ·exact key a' (by omega)
  rw[h',key a hd,Qx,hand]
  congr 1
  apply List.map_congr_left
  intro v hv
  congr 1
  obtain⟨v1,v2,v3⟩:=eS.1 hv
  have hma:v∈bK n a:=cA.2 ⟨v1,v2⟩
  have aai:v∈bK n a':=by
   rw[←Qx]at hv
   exact cA.2 ⟨v1,(eS.1 hv).2.1⟩
  have hlt:(bK n (az a v true)).length<d:=by have:=fS hma;omega
  refine(ih _ hlt (az a v true) rfl).2 _ ?_ ?_
  ·have:=fS aai;have:=fS hma;omega
  ·rw[mH,mH,hand]
theorem Rb{n U:Nat}{c:Nat→Nat→Nat}(hU:Used n c U)(a:Nat):B n c (a&&&U)=B n c a:=by
 have e:(a&&&U) &&&U=a&&&U:=by rw[Nat.and_assoc,Nat.and_self]
 rcases Nat.le_total (bK n (a&&&U)).length (bK n a).length with h|h
 ·exact(ER hU _ a rfl).2 _ h e
 ·exact((ER hU _ (a&&&U) rfl).2 a h e.symm).symm
theorem XX{n U:Nat}{c:Nat→Nat→Nat}(hU:Used n c U)(a:Nat):B n c a=fF ((c8 n U a).map fun v=>c (a&&&U) v+B n c (az (a&&&U) v true)):=by
 rw[(ER hU _ a rfl).1]
 congr 1
 apply List.map_congr_left
 intro v hv
 obtain⟨v1,v2,v3⟩:=eS.1 hv
 congr 1
 rw[←Rb hU (az a v true),mH,if_pos v3]
def ord(n:Nat)(c:Nat→Nat→Nat):Nat→Nat→List Nat
 |0,_=>[]
 |f+1,a=>match(bK n a).find? fun v=>c a v+B n c (az a v true)==B n c a with
  |some v=>v::ord n c f (az a v true)
  |none=>[]
theorem sI{n:Nat}{c:Nat→Nat→Nat}{f a:Nat}(h:bK n a≠[]):∃v,v∈bK n a∧c a v+B n c (az a v true)=B n c a∧(∀u∈bK n a,u<v→c a u+B n c (az a u true)≠B n c a)∧ord n c (f+1) a=v::ord n c f (az a v true):=by
 obtain⟨w,hw,he⟩:=XZ (c:=c) h
 cases hf:(bK n a).find? fun v=>c a v+B n c (az a v true)==B n c a with
 |none=>
  rw[List.find?_eq_none]at hf
  exact absurd (by simpa using he.symm) (hf w hw)
 |some v=>
  have h1:=List.find?_some hf
  refine⟨v,List.mem_of_find?_eq_some hf,by simpa using h1,fun u hu Vv=>?_,by rw[ord,hf]⟩
  rw[List.find?_eq_some_iff_append]at hf
  obtain⟨_,as1,bs,hab,hno⟩:=hf
  have hs:(bK n a).Pairwise (· < ·):=List.Pairwise.filter _ List.pairwise_lt_range
  rw[hab]at hs hu
  rcases List.mem_append.1 hu with hu|hu
  ·have:=hno u hu;simpa using this
  ·rw[List.pairwise_append]at hs
   have h2:=hs.2.1
   rw[List.pairwise_cons]at h2
   rcases List.mem_cons.1 hu with rfl|hu
   ·omega
   ·have:=h2.1 u hu;omega
end an
namespace an
open Go.Sx
theorem cF{x u v:Nat}{b c:Bool}(h:u≠v):az (az x u b) v c=az (az x v c) u b:=by
 apply Nat.eq_of_testBit_eq;intro k
 rw[aq,aq,aq,aq]
 by_cases e1:k=u<;>by_cases e2:k=v
 ·exact absurd (e1.symm.trans e2) h
 ·simp[e1,h]
 ·simp[e2,Ne.symm h]
 ·simp[e1,e2]
theorem Pw{n u v:Nat}{ws:List Nat}{b:Bool}(hf:dj n ws)(hu:u<n)(hv:v<n)(h:dep n ws v=false):dep n (fu n ws u b) v=false:=by
 by_cases e:u=v
 ·subst e
  cases hd:dep n (fu n ws u b) u
  ·rfl
  ·obtain⟨x,hx,hne⟩:=(rX (cW hf.pc) hu).1 hd
   rw[er hf hu (fP hx hu),er hf hu (fP hx hu)]at hne
   refine absurd ?_ hne
   congr 1
   apply Nat.eq_of_testBit_eq;intro k
   rw[aq,aq,aq,aq]
   by_cases e:k=u<;>simp[e]
 ·cases hd:dep n (fu n ws u b) v
  ·rfl
  ·obtain⟨x,hx,hne⟩:=(rX (cW hf.pc) hv).1 hd
   rw[er hf hu (fP hx hv),er hf hu (fP hx hv),cF (Ne.symm e),cF (Ne.symm e)]at hne
   have:=(rX hf hv).2 ⟨az x u b,fP hx hu,hne⟩
   rw[h]at this;cases this
theorem wM{n:Nat}{L:Fs}{A:Nat}(hL:∀t∈L,dj n t)(hn:n≤16){v:Nat}(hv:v<n)(h:∀t∈L,dep n t v=false):∀k,k≤n→∀t∈st n L A k,dep n t v=false
 |0,_,t,ht=>h t (cv.1 ht)
 |k+1,hk,t,ht=>by
  rw[st]at ht
  split at ht
  ·obtain⟨u,hu,b,rfl⟩:=bL.1 ht
   exact Pw (A7 hL hn k u hu) (by omega) hv (wM hL hn hv h k (by omega) u hu)
  ·exact wM hL hn hv h k (by omega) t ht
def aS(n:Nat)(L:Fs):Nat:=L.foldl (fun u t=>u|||oc n t) 0
theorem nP(n v:Nat):∀(L:Fs) (u:Nat),(L.foldl (fun u t=>u|||oc n t) u).testBit v=(u.testBit v||L.any fun t=>(oc n t).testBit v)
 | [],u=>by simp
 |t::L,u=>by rw[List.foldl_cons,nP n v L,Nat.testBit_or,List.any_cons,Bool.or_assoc]
theorem wH{n v:Nat}{L:Fs}:(aS n L).testBit v=L.any fun t=>(oc n t).testBit v:=by
 unfold aS;rw[nP];simp
theorem sj{n v:Nat}{L:Fs}(hv:v<n)(h:(aS n L).testBit v=false):∀t∈L,dep n t v=false:=by
 rw[wH,List.any_eq_false]at h
 intro t ht
 have:=h t ht
 rw[oc,gJ]at this
 simpa[hv]using this
theorem zI(n:Nat):∀(L:Fs) (u:Nat),u<2^n→L.foldl (fun u t=>u|||oc n t) u<2^n
 | [],u,h=>h
 |t::L,u,h=>zI n L _ (Nat.or_lt_two_pow h (lW n t n))
theorem sk(n:Nat)(L:Fs):aS n L<2^n:=zI n L 0 (Nat.two_pow_pos n)
theorem E9{n:Nat}{L:Fs}{A:Nat}(hL:∀t∈L,dj n t)(hn:n≤16):∀k,k≤n→∀x,x∈st n L A k↔x∈st n L (A&&&aS n L) k
 |0,_,x=>Iff.rfl
 |k+1,hk,x=>by
  have ih:=E9 (A:=A) hL hn k (by omega)
  rw[st,st,Nat.testBit_and]
  cases hA:A.testBit k
  ·simpa using ih x
  ·cases hU:(aS n L).testBit k
   ·simp only[if_true,Bool.and_false,Bool.false_eq_true,if_false]
    rw[bL,←ih x]
    have hd:=wM (A:=A) hL hn (v:=k) (by omega) (sj (by omega) hU) k (by omega)
    have hf:=A7 (A:=A) hL hn k
    constructor
    ·rintro⟨t,ht,b,rfl⟩
     rw[mD (hf t ht) (by omega) (hd t ht)];exact ht
    ·intro hx
     exact⟨x,hx,false,(mD (hf x hx) (by omega) (hd x hx)).symm⟩
   ·simp only[Bool.and_true,if_true]
    rw[bL,bL]
    constructor
    ·rintro⟨t,ht,h⟩;exact⟨t,(ih t).1 ht,h⟩
    ·rintro⟨t,ht,h⟩;exact⟨t,(ih t).2 ht,h⟩
theorem E3{n:Nat}{L:Fs}(hL:∀t∈L,dj n t)(hn:n≤16):Used n (lvl n L) (aS n L):=by
 refine⟨fun a v hv _ hU=>?_,fun a v hv _=>?_⟩
 ·unfold lvl nodes
  rw[List.length_eq_zero_iff,List.filter_eq_nil_iff]
  intro t ht
  rw[wM hL hn hv (sj hv hU) n (Nat.le_refl _) t ht];simp
 ·exact iV (eR (lX n L a n) (lX n L _ n) (E9 hL hn n (Nat.le_refl _)))
end an
set_option maxRecDepth 100000
namespace Go.Proofs
open Go Go.Sx
def kp(x:Nat×Nat):Value:=.agg (ax .i64 [(x.1:Int),(x.2:Int)])
def ki(x:Nat):Value:=.int .i64 (x:Int)
theorem Bt(a b:Nat):Instr.sameNow (.int .i64) (ki a) (ki b)=some (decide (a=b)):=by
 simp only[Instr.sameNow,ki,if_true,Option.some.injEq]
 rw[Bool.eq_iff_iff];simp;omega
theorem Oz(a:Nat):Instr.sameBits 10000 (ki a) (ki a)=true:=by simp[Instr.sameBits,ki]
theorem KU(a b:Nat×Nat):xZ Tryz.prog 226 (kp a) (kp b) (decide (a=b)):=by
 have:=xZ.array (P:=Tryz.prog) (t:=226) (e:=3) (q:=.i64) (n:=2) (by kernel_rfl) (by kernel_rfl) (by kernel_rfl) [(a.1:Int),(a.2:Int)] [(b.1:Int),(b.2:Int)] rfl rfl
 have e:decide ([(a.1:Int),(a.2:Int)]=[(b.1:Int),(b.2:Int)])=decide (a=b):=by
  rw[decide_eq_decide]
  obtain⟨a1,a2⟩:=a;obtain⟨b1,b2⟩:=b
  simp;omega
 rw[e]at this;exact this
theorem Bq(a:Nat×Nat):kA Tryz.prog 226 (kp a):=kA.array (P:=Tryz.prog) (t:=226) (e:=3) (q:=.i64) (n:=2) (by kernel_rfl) (by kernel_rfl) (by kernel_rfl) _ rfl
theorem uJ(n:Nat)(q:IntKind)(l:List Int):Instr.sameBits (n+1+1) (.agg (ax q l)) (.agg (ax q l))=true:=by
 simp only[Instr.sameBits,ax,beq_self_eq_true,Bool.true_and,List.all_eq_true]
 intro x hx
 obtain⟨a,b⟩:=x
 have h:=List.of_mem_zip hx
 have e:a=b:=by
  rw[List.zip_eq_zip_take_min]at hx
  obtain⟨i,hi,he⟩:=List.mem_iff_getElem.1 hx
  simp at he
  exact he.1.symm.trans he.2
 subst e
 have:=h.1
 simp only[List.toList_toArray,List.mem_map]at this
 obtain⟨y,_,rfl⟩:=this
 simp[Instr.sameBits]
theorem Ox(a:Nat×Nat):Instr.sameBits 10000 (kp a) (kp a)=true:=uJ 9998 _ _
abbrev X1(v:Value)(x:Nat):Prop:=v=.int .i64 (x:Int)
structure Gc(n:Nat)(L:List (List Nat))(nJ:Array MapEntry)(lP:Nat)(mz:Array MapEntry)(nL:Nat):Prop where
 ah:∃m,aM kp X1 nJ lP m∧∀x∈m,x.2=an.lvl n L x.1.1 x.1.2
 dow:∃m,aM ki X1 mz nL m∧∀x∈m,x.2=an.B n (an.lvl n L) x.1
def lC(bp bl bd:Nat)(ug:Value)(n:Nat)(L:List (List Nat))(U:Nat)(B H:Hp):Prop:=
 ∃nJ lP mz nL,H=(bp,.cells #[ug,.int .i64 (n:Int),.int .i64 (U:Int),.map (some bl),.map (some bd)] 137 (0,0))::(bl,.map nJ lP)::(bd,.map mz nL)::B∧Gc n L nJ lP mz nL
theorem yR{κ:Type}[DecidableEq κ]{f:κ→Nat}{m:List (κ×Nat)}{k:κ}(h:∀x∈m,x.2=f x.1):∀x∈fA m k (f k),x.2=f x.1:=by
 intro x hx
 unfold fA at hx
 split at hx
 ·obtain⟨y,hy,rfl⟩:=List.mem_map.1 hx
  split
  ·rfl
  ·exact h y hy
 ·rcases List.mem_append.1 hx with hx|hx
  ·exact h x hx
  ·simp at hx;subst hx;rfl
theorem yV{κ:Type}[DecidableEq κ]{f:κ→Nat}{m:List (κ×Nat)}{k:κ}{x:Nat}(h:∀x∈m,x.2=f x.1)(hk:c9 m k=some x):x=f k:=by
 unfold c9 at hk
 obtain⟨y,hy,rfl⟩:=Option.map_eq_some_iff.1 hk
 have h1:=List.find?_some hy
 have h2:=h y (List.mem_of_find?_eq_some hy)
 simp only[decide_eq_true_eq]at h1
 rw[h2,h1]
structure tN(ug:Value)(n:Nat)(L:List (List Nat))(B:Hp):Prop where
 tb:eL B ug (GM n L)
 nI:∀ws∈L,an.dj n ws
 ne:L≠[]
 small:L.length<33554432
 X6:n≤12
theorem Bn{ug:Value}{n:Nat}{L:List (List Nat)}{B:Hp}(h:tN ug n L B)(a v:Nat):an.lvl n L a v<2199023255551:=by
 have h1:an.lvl n L a v≤(an.st n L a n).length:=List.length_filter_le _ _
 have h2:=Kr (n:=n) (A:=a) (L:=L) (by have:=h.X6;omega) h.small (Nat.le_refl n)
 omega
theorem yP{ug:Value}{n:Nat}{L:List (List Nat)}{B:Hp}(h:tN ug n L B){bp bl bd a v:Nat}{H:Hp}(hp:lC bp bl bd ug n L (an.aS n L) B H)(ha:a<2^n)(hv:v<n)(hav:a.testBit v=false):
  Fc Tryz.prog 73 #[.pointer (some ⟨bp,0,none⟩),.int .i64 (a:Int),.int .i64 (v:Int)] H (fun r H'=>r=.int .i64 ((an.lvl n L a v:Nat):Int)∧lC bp bl bd ug n L (an.aS n L) B H'):=by
 obtain⟨nJ,lP,mz,nL,rfl,hM⟩:=hp
 have hU:=an.sk n L
 have zl:=h.X6
 have nj:2^n≤2^12:=Nat.pow_le_pow_right (by decide) zl
 have zv:=an.E3 h.nI (by omega)
 have hsU:an.aS n L>>>v≤an.aS n L:=Nat.shiftRight_le _ _
 intro g
 refine Ip (R:=aA _) ?_
 unfold L73
 refine Nil.ptr ?_
 refine aa.mk (Ld.mk zM rfl ?_)
 refine ae.kJ (by simp[aB];omega) (ae.jm (b:=1) (by simp[aB];omega) (by decide) (ae.eB (b:=0) ?_))
 have zq:an.aS n L>>>v&&&1=0↔(an.aS n L).testBit v=false:=by
  rw[an.eJ,Nat.testBit_shiftRight,Nat.add_zero];cases (an.aS n L).testBit v<;>simp
 refine Br.dec (fun h0=>?_) (fun h0=>?_)
 ·refine aA.here ⟨?_,nJ,lP,mz,nL,rfl,hM⟩
  rw[zv.zero a v hv hav (zq.1 h0)];rfl
 have hUv:(an.aS n L).testBit v=true:=by cases hh:(an.aS n L).testBit v;exact absurd (zq.2 hh) h0;rfl
 refine Nil.ptr ?_
 refine aa.mk (Ld.mk zM rfl ?_)
 refine ae.jm (by simp[aB];omega) (by simp[aB];omega) ?_
 have hlv:an.lvl n L a v=an.lvl n L (a&&&an.aS n L) v:=zv.mask a v hv hav
 have QK:(a&&&an.aS n L).testBit v=false:=by rw[Nat.testBit_and,hav];rfl
 have Uu:a&&&an.aS n L<2^n:=Nat.lt_of_le_of_lt Nat.and_le_left ha
 rw[hlv]
 obtain⟨a',dX⟩:∃a',a'=a&&&an.aS n L:=⟨_,rfl⟩
 rw[←dX]at QK Uu⊢
 refine Build.two (q:=.i64) (e:=3) (by kernel_rfl) (by kernel_rfl) (by kernel_rfl) ?_
 rw[show ax .i64 [(a':Int),(v:Int)]=List.toArray [.int .i64 (a':Int),.int .i64 (v:Int)]from rfl]
 intro Ab _
 refine St.whole (r:=[.int .i64 (a':Int),.int .i64 (v:Int)]) (by exact .head _) rfl rfl (by simp[Value.oneCell']) ?_
 refine Nil.ptr ?_
 refine aa.mk (Ld.mk zM rfl ?_)
 refine aC.whole (r:=[.int .i64 (a':Int),.int .i64 (v:Int)]) (by exact .head _) rfl ?_
 obtain⟨⟨m1,QW,yb⟩,Wg⟩:=hM
 have VG:∀J:List Value→Hp→Prop,(∀lS:Value,∀gv:Hp,(∀Pa:Fr,aA (fun r H'=>r=.int .i64 ((an.lvl n L a' v:Nat):Int)∧lC bp bl bd ug n L (an.aS n L) B H') (.returned lS) gv)→J [lS] gv)→
   ∀Pt Pz,Gc n L Pt Pz mz nL→J [.int .i64 ((an.lvl n L a' v:Nat):Int)] ((bp,.cells #[ug,.int .i64 (n:Int),.int .i64 ((an.aS n L:Nat):Int),.map (some bl),.map (some bd)] 137 (0,0))::(bl,.map Pt Pz)::(bd,.map mz nL)::B):=
  fun J hJ Pt Pz hM=>hJ _ _ fun gs=>aA.here ⟨rfl,Pt,Pz,mz,nL,rfl,hM⟩
 cases hg:c9 m1 (a',v)with
 |some x=>
  have hx:=yV (f:=fun k=>an.lvl n L k.1 k.2) yb hg
  simp only at hx
  refine aM.BG (ke:=kp) (k:=(a',v)) KU Bq QW (by exact .tail _ (.tail _ (.head _))) hg fun y hy=>?_
  subst hy
  refine Ext.mk rfl (Ext.mk rfl ?_)
  intro J hJ
  refine Un.not (Br.no (JE.of .tail ?_))
  rw[hx]
  exact VG J hJ _ _ ⟨⟨m1,QW,yb⟩,Wg⟩
 |none=>
  refine aM.sP (ke:=kp) (k:=(a',v)) KU Bq QW (by exact .tail _ (.tail _ (.head _))) hg ?_
  refine Ext.mk rfl (Ext.mk rfl ?_)
  intro J hJ
  refine Un.not (Br.yes ?_)
  refine DR.self ?_
  refine Nil.ptr ?_
  refine aa.mk (Ld.mk zM rfl ?_)
  refine⟨Ab,0,.i64,0,rfl,rfl,by decide,by decide,?_⟩
  refine Ld.mk (v:=.int .i64 (a':Int)) (by exact .head _) rfl ?_
  refine aW.nat (by simp[aB];omega) ?_
  refine af.rd (B:=B) (.cons (.cons (.cons (.cons .here)))) (KO (n:=n) (L:=L) h.tb h.nI h.ne (by have:=h.small;omega) Uu hv QK) ?_
  rintro r rfl
  refine⟨.refl _,Ext.mk rfl (Ext.mk rfl ?_)⟩
  refine DR.of (R:=(Ab,.cells (List.toArray [.int .i64 (a':Int),.int .i64 (v:Int)]) 226 (0,0))::(bp,.cells #[ug,.int .i64 (n:Int),.int .i64 ((an.aS n L:Nat):Int),.map (some bl),.map (some bd)] 137 (0,0))::[]) (.cons (.cons (fun g w h=>(Own.left (B:=_) (A:=[]) h)))) ?_
  refine Nil.ptr ?_
  refine aa.mk (Ld.mk zM rfl ?_)
  refine aC.whole (r:=[.int .i64 (a':Int),.int .i64 (v:Int)]) (by exact .head _) rfl ?_
  refine aM.JU (ke:=kp) (vr:=X1) (b:=bl) (val:=.int .i64 ((an.lvl n L a' v:Nat):Int)) (k:=(a',v)) (x:=an.lvl n L a' v) KU Bq Ox QW rfl fun es' ct zx=>⟨_,.tail (.tail (.head _)),?_⟩
  have aal:∀x∈fA m1 (a',v) (an.lvl n L a' v),x.2=an.lvl n L x.1.1 x.1.2:=yR (f:=fun k:Nat×Nat=>an.lvl n L k.1 k.2) (k:=(a',v)) yb
  have S9:Gc n L es' ct mz nL:=⟨⟨fA m1 (a',v) (an.lvl n L a' v),zx,aal⟩,Wg⟩
  exact JE.of .tail (VG J hJ es' ct S9)
end Go.Proofs
namespace Go.Sx
open Go
theorem sL(n:Int):BitVec.ofInt 64 (IntKind.i64.wrap n)=BitVec.ofInt 64 n:=by
 apply BitVec.eq_of_toNat_eq
 simp only[BitVec.toNat_ofInt,IntKind.wrap,IntKind.bits,IntKind.signed,Bool.true_and,decide_eq_true_eq]
 congr 1
 split<;>omega
theorem wrap_toInt(x:BitVec 64):IntKind.i64.wrap (x.toNat:Int)=x.toInt:=by
 rw[BitVec.toInt_eq_toNat_cond]
 have:=x.isLt
 have e:(2:Int)^(64-1)=9223372036854775808:=rfl
 simp only[IntKind.wrap,IntKind.bits,IntKind.signed,Bool.true_and,decide_eq_true_eq,e]
 split<;>split<;>omega
theorem ow(op:BinOp)(x y:Int):BitVec.ofInt 64 (bits op .i64 x y)=(match op with
  | .and=>BitVec.ofInt 64 x&&&BitVec.ofInt 64 y
  | .or=>BitVec.ofInt 64 x|||BitVec.ofInt 64 y
  | .xor=>BitVec.ofInt 64 x^^^BitVec.ofInt 64 y
  |_=>BitVec.ofInt 64 x&&& ~~~BitVec.ofInt 64 y):=by
 unfold bits
 simp only[sL]
 rw[BitVec.ofInt_natCast]
 simp only[IntKind.bits]
 rw[BitVec.ofNat_toNat,BitVec.setWidth_eq]
 cases op<;>rfl
theorem tB(op:BinOp)(x y:Int):bits op .i64 x y=(BitVec.ofInt 64 (bits op .i64 x y)).toInt:=by
 unfold bits
 simp only[sL]
 rw[BitVec.ofInt_natCast]
 simp only[IntKind.bits]
 rw[BitVec.ofNat_toNat,BitVec.setWidth_eq]
 exact wrap_toInt _
theorem G6{a U v:Nat}(ha:a<4611686018427387904)(hU:U<4611686018427387904)(hv:v<62):
  bits .and .i64 ((bits .or .i64 a (bits .xor .i64 (-1) U)).fdiv (2^(min (v:Int).toNat IntKind.i64.bits))) 1=if a.testBit v=true∨U.testBit v=false then 1 else 0:=by
 have hX:=ow .or (a:Int) (bits .xor .i64 (-1) U)
 simp only at hX
 have hN:=ow .xor (-1) (U:Int)
 simp only at hN
 rw[hN]at hX
 generalize hx:bits .or .i64 a (bits .xor .i64 (-1) U)=x at hX
 have hxi:x=(BitVec.ofInt 64 x).toInt:=by rw[←hx];exact tB _ _ _
 have hm:min (v:Int).toNat IntKind.i64.bits=v:=by simp[IntKind.bits];omega
 rw[hm]
 have hs:x.fdiv (2^v)=((BitVec.ofInt 64 x).sshiftRight v).toInt:=by
  rw[BitVec.toInt_sshiftRight,←hxi,Int.shiftRight_eq_div_pow,Int.fdiv_eq_ediv_of_nonneg _ (Int.le_of_lt (Int.pow_pos (by decide)))]
  push_cast;rfl
 rw[hs,tB,ow]
 simp only[BitVec.ofInt_toInt]
 rw[hX]
 have h1:BitVec.ofInt 64 (1:Int)=1#64:=rfl
 have h2:BitVec.ofInt 64 (-1:Int)=BitVec.allOnes 64:=by decide
 rw[h1,h2]
 have zq:((BitVec.ofInt 64 (a:Int)|||BitVec.allOnes 64^^^BitVec.ofInt 64 (U:Int)).sshiftRight v).getLsbD 0=(a.testBit v|| !U.testBit v):=by
  rw[BitVec.getLsbD_sshiftRight]
  have e1:v+0<64:=by omega
  simp only[Nat.add_zero,show¬(64≤0)from by decide,decide_false,Bool.not_false,Bool.true_and,show v<64 by omega,if_true]
  rw[BitVec.getLsbD_or,BitVec.getLsbD_xor,BitVec.getLsbD_allOnes,BitVec.ofInt_natCast,BitVec.ofInt_natCast,BitVec.getLsbD_ofNat,BitVec.getLsbD_ofNat]
  simp[show v<64 by omega]
 have iF:∀y:BitVec 64,(y&&&1#64).toInt=if y.getLsbD 0 then 1 else 0:=by
  intro y
  have:y&&&1#64=if y.getLsbD 0 then 1#64 else 0#64:=by
   apply BitVec.eq_of_getLsbD_eq
   intro i hi
   rw[BitVec.getLsbD_and]
   by_cases h0:i=0
   ·subst h0;cases hb:y.getLsbD 0<;>simp[hb]
   ·have:(1#64).getLsbD i=false:=by simp[BitVec.getLsbD_one,h0]
    rw[this]
    cases y.getLsbD 0<;>simp[this]
  rw[this]
  cases y.getLsbD 0<;>decide
 rw[iF,zq]
 cases a.testBit v<;>cases U.testBit v<;>simp
theorem Vf{a U v:Nat}(ha:a<4611686018427387904)(hU:U<4611686018427387904)(hv:v<62){k:Value→Prop}(h:k (.bool (decide (a.testBit v=true∨U.testBit v=false)))):
  Un .xor (.int .i64 (U:Int)) fun eZ=>ae .num .or (.int .i64 (a:Int)) eZ fun eP=>ae .num .shr eP (.int .i64 (v:Int)) fun eW=>ae .num .and eW (.int .i64 1) fun dn=>ae .num .eql dn (.int .i64 1) k:=by
 refine⟨_,rfl,_,rfl,?_⟩
 have h0:¬((v:Int)<0):=by omega
 refine⟨_,by simp only[gp,h0,if_false];rfl,_,rfl,?_⟩
 refine ae.jF ?_
 have hs:(if IntKind.i64.signed=true then(-1:Int)else IntKind.i64.max)= -1:=rfl
 rw[hs,G6 ha hU hv]
 by_cases hc:a.testBit v=true∨U.testBit v=false
 ·rw[if_pos hc];rw[decide_eq_true hc]at h;exact h
 ·rw[if_neg hc];rw[decide_eq_false hc]at h;exact h
end Go.Sx
set_option maxRecDepth 100000
namespace Go.Proofs
open Go Go.Sx
theorem gT(x:Value)(r:List Value)(i:Nat):bG (x::r) (i+1)=bG r i:=by cases x<;>rfl
def iS(n:Nat)(L:List (List Nat))(U a k:Nat):List Nat:=((List.range k).filter fun v=> !a.testBit v&&U.testBit v).map fun v=>an.lvl n L a v+an.B n (an.lvl n L) (an.az a v true)
theorem GS{n:Nat}{L:List (List Nat)}{U a:Nat}:iS n L U a n=(an.c8 n U a).map fun v=>an.lvl n L a v+an.B n (an.lvl n L) (an.az a v true):=by
 unfold iS an.c8 an.bK
 rw[List.filter_filter]
 congr 1
 apply List.filter_congr
 intro v _
 cases a.testBit v<;>cases U.testBit v<;>rfl
theorem sE{n:Nat}{L:List (List Nat)}{U a k:Nat}:iS n L U a (k+1)=if a.testBit k=true∨U.testBit k=false then iS n L U a k else iS n L U a k++[an.lvl n L a k+an.B n (an.lvl n L) (an.az a k true)]:=by
 unfold iS
 rw[List.range_succ,List.filter_append,List.map_append]
 cases h1:a.testBit k<;>cases h2:U.testBit k<;>simp[h1,h2]
def we(l:List Nat):Value:=if l=[]then .int .i64 (-1)else .int .i64 ((an.fF l:Nat):Int)
theorem MA(n:Nat)(c:Nat→Nat→Nat)(M:Nat)(hc:∀a v,c a v≤M):∀f a,an.MB n c f a≤f*M
 |0,a=>by simp[an.MB]
 |f+1,a=>by
  rw[an.MB,Nat.succ_mul]
  by_cases h:an.bK n a=[]
  ·rw[h];simp[an.fF]
  ·have:=an.m0 (l:=(an.bK n a).map fun v=>c a v+an.MB n c f (an.az a v true)) (by simpa using h)
   obtain⟨v,_,e⟩:=List.mem_map.1 this
   rw[←e]
   have h1:=hc a v
   have h2:=MA n c M hc f (an.az a v true)
   omega
theorem Gp{ug:Value}{n:Nat}{L:List (List Nat)}{B:Hp}(h:tN ug n L B)(a:Nat):an.B n (an.lvl n L) a<35184372088832:=by
 have h1:=MA n (an.lvl n L) 2199023255551 (fun a v=>Nat.le_of_lt (Bn h a v)) n a
 have h2:n*2199023255551≤12*2199023255551:=Nat.mul_le_mul_right _ h.X6
 unfold an.B;omega
theorem xR{a U n:Nat}(hU:U<2^n)(h:∀v,v<n→¬(a.testBit v=false∧U.testBit v=true)):a&&&U=U:=by
 apply Nat.eq_of_testBit_eq;intro k
 rw[Nat.testBit_and]
 by_cases hk:k<n
 ·have:=h k hk
  cases h1:a.testBit k<;>cases h2:U.testBit k<;>simp_all
 ·have:U.testBit k=false:=Nat.testBit_lt_two_pow (Nat.lt_of_lt_of_le hU (Nat.pow_le_pow_right (by decide) (by omega)))
  rw[this];simp
theorem pZ{ug:Value}{n:Nat}{L:List (List Nat)}{B:Hp}(h:tN ug n L B){bp bl bd:Nat}:∀(d a:Nat),(an.c8 n (an.aS n L) a).length≤d→a<2^n→∀H,lC bp bl bd ug n L (an.aS n L) B H→
  Fc Tryz.prog 74 #[.pointer (some ⟨bp,0,none⟩),.int .i64 (a:Int)] H (fun r H'=>r=.int .i64 ((an.B n (an.lvl n L) a:Nat):Int)∧lC bp bl bd ug n L (an.aS n L) B H'):=by
 have hU:=an.sk n L
 have zl:=h.X6
 have nj:2^n≤2^12:=Nat.pow_le_pow_right (by decide) zl
 have zv:=an.E3 h.nI (by omega)
 intro d
 induction d using Nat.strongRecOn with
 |_ d ih=>
  intro a hd ha H hp
  obtain⟨nJ,lP,mz,nL,rfl,hM⟩:=hp
  intro g
  refine wm (R:=aA _) ?_
  unfold L74
  refine Nil.ptr ?_
  refine aa.mk (Ld.mk zM rfl ?_)
  refine ae.jm (by simp[aB];omega) (by simp[aB];omega) ?_
  refine Nil.ptr ?_
  refine aa.mk (Ld.mk zM rfl ?_)
  have hBa:an.B n (an.lvl n L) a=an.B n (an.lvl n L) (a&&&an.aS n L):=(an.Rb zv a).symm
  have Qx:an.c8 n (an.aS n L) (a&&&an.aS n L)=an.c8 n (an.aS n L) a:=an.jS _ _ _
  have Uu:a&&&an.aS n L<2^n:=Nat.lt_of_le_of_lt Nat.and_le_left ha
  have gV:(a&&&an.aS n L) &&&an.aS n L=a&&&an.aS n L:=by rw[Nat.and_assoc,Nat.and_self]
  rw[hBa]
  rw[←Qx]at hd
  obtain⟨a',dX⟩:∃a',a'=a&&&an.aS n L:=⟨_,rfl⟩
  rw[←dX]at Uu hd gV⊢
  clear hBa Qx ha dX
  have aK:=GS (n:=n) (L:=L) (U:=an.aS n L) (a:=a')
  have VH:an.B n (an.lvl n L) a'=an.fF (iS n L (an.aS n L) a' n):=by
   rw[aK]
   have:=an.XX zv a'
   rw[gV]at this
   exact this
  refine ae.eB (Br.dec (fun h0=>?_) (fun h0=>?_))
  ·refine aA.here ⟨?_,nJ,lP,mz,nL,rfl,hM⟩
   have:an.c8 n (an.aS n L) a'=[]:=by
    rw[List.eq_nil_iff_forall_not_mem]
    intro v hv
    obtain⟨_,h2,h3⟩:=an.eS.1 hv
    rw[h0,h3]at h2;cases h2
   rw[VH,aK,this];rfl
  have hne:iS n L (an.aS n L) a' n≠[]:=by
   rw[aK]
   intro e
   apply h0
   rw[←gV]
   refine xR hU fun v hv hh=>?_
   have:v∈an.c8 n (an.aS n L) a':=an.eS.2 ⟨hv,hh.1,hh.2⟩
   rw[List.map_eq_nil_iff.1 e]at this;simp at this
  refine Nil.ptr ?_
  refine aa.mk (Ld.mk zM rfl ?_)
  obtain⟨Lq,m2,vQ,uo⟩:=hM
  cases hg:c9 m2 a' with
  |some x=>
   have hx:=yV (f:=an.B n (an.lvl n L)) uo hg
   refine aM.hit (ke:=ki) (k:=a') Bt vQ (by exact .tail _ (.tail _ (.head _))) hg fun y hy=>?_
   subst hy
   refine Ext.mk rfl (Ext.mk rfl (Br.yes (aA.here ⟨?_,nJ,lP,mz,nL,rfl,Lq,m2,vQ,uo⟩)))
   rw[hx];rfl
  |none=>
   refine aM.bK (ke:=ki) (k:=a') Bt vQ (by exact .tail _ (.tail _ (.head _))) hg ?_
   refine Ext.mk rfl (Ext.mk rfl (Br.no (Nil.ptr ?_)))
   refine aa.mk (Ld.mk zM rfl ?_)
   refine⟨fun vs H=>∃k:Nat,vs=[we (iS n L (an.aS n L) a' k),.int .i64 (k:Int)]∧k≤n∧lC bp bl bd ug n L (an.aS n L) B H,fun vs _=>n-bG vs 1,
    JE.mk ⟨0,rfl,Nat.zero_le _,nJ,lP,mz,nL,rfl,Lq,m2,vQ,uo⟩,?_⟩
   clear vQ uo hg Lq nJ lP mz nL m2
   rintro n8 oP H ⟨k,hv,hk,hp⟩ gs
   simp only[List.cons.injEq,and_true]at hv
   obtain⟨rfl,rfl⟩:=hv
   refine ae.eA (Br.dec (fun hlt=>?_) (fun hlt=>?_))
   ·intro J hJ
    have BC:=hp
    obtain⟨nJ,lP,mz,nL,rfl,hM⟩:=hp
    refine Nil.ptr ?_
    refine aa.mk (Ld.mk zM rfl ?_)
    refine Vf (by omega) (by omega) (by omega) ?_
    have zj:∀l H,l=iS n L (an.aS n L) a' (k+1)→lC bp bl bd ug n L (an.aS n L) B H→J [we l] H:=fun l H hl hp=>hJ _ _ fun gs=>by
     refine ae.aL (b:=1) (by simp[aB];omega) ?_
     exact aD.mk ⟨k+1,by rw[hl],by omega,hp⟩ (by rw[gT,gT];show n-(((k:Int)+1).toNat)<n-((k:Int).toNat);omega)
    by_cases hc:a'.testBit k=true∨(an.aS n L).testBit k=false
    ·rw[decide_eq_true hc]
     refine Br.yes (JE.mk (zj _ _ ?_ BC))
     rw[sE,if_pos hc]
    ·rw[decide_eq_false hc]
     have Yq:a'.testBit k=false∧(an.aS n L).testBit k=true:=by
      cases h1:a'.testBit k<;>cases h2:(an.aS n L).testBit k<;>simp_all
     have hmem:k∈an.c8 n (an.aS n L) a':=an.eS.2 ⟨hlt,Yq.1,Yq.2⟩
     refine Br.no (DR.self ?_)
     have hpk:2^k≤2^12:=Nat.pow_le_pow_right (by decide) (by omega)
     refine ae.uI (a:=1) (by simp[IntKind.bits];omega) (by rw[Nat.one_shiftLeft];simp[aB];omega) ?_
     rw[Nat.one_shiftLeft]
     refine ae.Jd (by simp[aB];omega) (by simp[aB];omega) ?_
     have Ps:a'|||2^k=an.az a' k true:=rfl
     rw[Ps]
     refine af.fn .here (yP h BC Uu hlt Yq.1) ?_
     rintro r H1 ⟨rfl,rA⟩
     have hlen:(an.c8 n (an.aS n L) (an.az a' k true)).length<d:=by
      have h1:(an.c8 n (an.aS n L) (an.az a' k true)).length+1=(an.c8 n (an.aS n L) a').length:=by
       unfold an.c8 an.bK
       rw[List.filter_filter,List.filter_filter]
       refine an.my _ _ k (List.range n) List.nodup_range (List.mem_range.2 hlt) (by simp[Yq]) (by simp[an.aq]) fun y hy hne=>?_
       rw[an.oY hne]
      omega
     refine af.fn .here (ih _ hlen (an.az a' k true) (Nat.le_refl _) (an.fP Uu hlt) H1 rA) ?_
     rintro r H2 ⟨rfl,nj⟩
     have hb1:=Bn h a' k
     have Ys:=Gp h (an.az a' k true)
     refine ae.aL (by simp[aB];omega) ?_
     have hstep:=sE (n:=n) (L:=L) (U:=an.aS n L) (a:=a') (k:=k)
     rw[if_neg hc]at hstep
     generalize an.lvl n L a' k+an.B n (an.lvl n L) (an.az a' k true)=x at hstep
     unfold we
     by_cases hl:iS n L (an.aS n L) a' k=[]
     ·rw[if_pos hl]
      refine ae.lss (bT.mk true (fun e=>by simp at e) (fun _=>rfl) fun gs=>Br.yes (JE.mk ?_))
      have:=zj [x] _ (by rw[hstep,hl];rfl) nj
      simpa[we,an.fF]using this
     ·rw[if_neg hl]
      have hms:=an.Bl (iS n L (an.aS n L) a' k) x
      rw[if_neg hl,←hstep]at hms
      have aae:iS n L (an.aS n L) a' (k+1)≠[]:=by rw[hstep];simp
      have um:=zj _ H2 rfl nj
      unfold we at um
      rw[if_neg aae,hms]at um
      have hneg:decide (((an.fF (iS n L (an.aS n L) a' k):Nat):Int)<0)=false:=decide_eq_false (by omega)
      by_cases hx:x<an.fF (iS n L (an.aS n L) a' k)
      ·rw[Nat.min_eq_right (by omega)]at um
       refine ae.lss ?_
       rw[hneg]
       exact bT.mk true (fun _=>ae.eA ⟨rfl,by rw[decide_eq_true hx]⟩) (fun e=>by simp at e) fun gs=>Br.yes (JE.mk um)
      ·rw[Nat.min_eq_left (by omega)]at um
       refine ae.lss ?_
       rw[hneg]
       exact bT.mk false (fun _=>ae.eA ⟨rfl,by rw[decide_eq_false hx]⟩) (fun e=>by simp at e) fun gs=>Br.no (JE.mk um)
   ·have:k=n:=by omega
    subst this
    obtain⟨nJ,lP,mz,nL,rfl,Lq,m2,vQ,uo⟩:=hp
    refine Nil.ptr ?_
    refine aa.mk (Ld.mk zM rfl ?_)
    unfold we
    rw[if_neg hne,←VH]
    refine aM.bY (ke:=ki) (vr:=X1) (b:=bd) (val:=.int .i64 ((an.B k (an.lvl k L) a':Nat):Int)) (k:=a') (x:=an.B k (an.lvl k L) a') Bt Oz vQ rfl fun es' ct zx=>⟨_,.tail (.tail (.head _)),?_⟩
    have aak:∀x∈fA m2 a' (an.B k (an.lvl k L) a'),x.2=an.B k (an.lvl k L) x.1:=yR (f:=an.B k (an.lvl k L)) uo
    exact aA.here ⟨rfl,nJ,lP,es',ct,rfl,Lq,_,zx,aak⟩
end Go.Proofs
set_option maxRecDepth 100000
namespace Go.Proofs
open Go Go.Sx
def acV(v:Value)(ts:List Tb)(B:Hp)(r:Value)(H:Hp):Prop:=
 (pR ts∧∃(bp bl bd n:Nat) (L:List (List Nat)) (N:Hp),ts=GM n L∧(L=[]→n=0)∧n≤16∧(∀ws∈L,an.dj n ws)∧r=.tuple #[.pointer (some ⟨bp,0,none⟩),.int .i64 0]∧lC bp bl bd v n L (an.aS n L) (N++B) H)
 ∨(¬pR ts∧r=.tuple #[.pointer none,.int .i64 5])
theorem qM(n:Nat)(L:List (List Nat)):Gc n L #[] 0 #[] 0:=⟨⟨[],aM.empty,by simp⟩,⟨[],aM.empty,by simp⟩⟩
theorem A0{n:Nat}{L:List (List Nat)}{k:Nat}(h:k<L.length):an.aS n (L.take (k+1))=an.aS n (L.take k)|||an.oc n L[k]:=by
 unfold an.aS
 rw[List.take_add_one,List.getElem?_eq_getElem h,Option.toList_some,List.foldl_append];rfl
theorem HT{B:Hp}{v:Value}{ts:List Tb}(ht:eL B v ts)(bQ:ts.length<4398046511104):Px Tryz.prog 72 #[v] B (acV v ts B):=by
 obtain⟨va,vc,vl,rfl⟩:∃a c l,v=.slice a l c:=by
  obtain⟨rs,h1,_⟩:=ht
  obtain⟨a,c,e,_⟩:=h1.shape
  exact⟨a,c,_,e⟩
 intro g
 refine Iq (R:=aA _) ?_
 unfold L72
 intro b1 _ b2 _
 refine Build.mk (cs:=[.slice va vl vc,.int .i64 0,.int .i64 0,.map (some b1),.map (some b2)]) (by kernel_rfl) ?_
 intro bp _
 generalize hvs:Value.slice va vl vc=vv at ht⊢
 refine ht.bC (ae.eB (b:=0) (Br.dec (fun h0=>?_) (fun h0=>?_)))
 ·have BE:ts=[]:=List.eq_nil_of_length_eq_zero h0
  subst BE
  refine⟨_,_,rfl,aQ.cons aQ.swap,(by repeat (first|exact aV.refl _|apply aV.cons|apply aV.app)),Or.inl ⟨by simp[pR],bp,b1,b2,0,[],[],rfl,fun _=>rfl,by omega,by simp,rfl,_,_,_,_,?_,qM _ _⟩⟩
  subst hvs;rfl
 refine af.px (B:=B) (.cons (.cons (.cons .here))) (Kz ht bQ) ?_
 rintro r N ⟨s,rfl⟩
 refine Ext.mk rfl (Ext.mk rfl ?_)
 by_cases hO:pR ts
 case neg=>
  rw[if_neg hO]
  exact ae.wZ (a:=5) (b:=0) (Br.dec (fun _=>tM.mk (by repeat (first|exact aV.refl _|apply aV.cons|apply aV.app)) (.inr ⟨hO,rfl⟩)) (fun h=>absurd (by decide) h))
 rw[if_pos hO]
 refine ae.wZ (a:=0) (b:=0) (Br.dec (fun h=>absurd rfl h) (fun _=>?_))
 obtain⟨n,L,qo,rfl,hne,hf⟩:=Fl hO (by intro e;rw[e]at h0;exact h0 rfl)
 rw[List.length_map]at bQ h0
 obtain⟨w0,Bz⟩:∃w0,L[0]? =some w0:=⟨_,List.getElem?_eq_getElem (List.length_pos_iff.2 hne)⟩
 refine ht.Uf (i:=0) (t:=⟨n,w0⟩) (by rw[List.getElem?_map,Bz];rfl) zS ?_
 simp only
 refine Nil.ptr (aa.mk ?_)
 refine St.one (c:=#[vv,.int .i64 0,.int .i64 0,.map (some b1),.map (some b2)]) (c':=#[vv,.int .i64 (n:Int),.int .i64 0,.map (some b1),.map (some b2)]) (H':=(bp,.cells #[vv,.int .i64 (n:Int),.int .i64 0,.map (some b1),.map (some b2)] 137 (0,0))::(b2,.map #[] 0)::(b1,.map #[] 0)::(N++B)) (by subst hvs;exact .head _) rfl (by simp) rfl ?_
 refine ht.bC ?_
 rw[List.length_map]
 refine⟨fun vs H=>∃(k:Nat) (N:Hp),vs=[.int .i64 (k:Int)]∧k≤L.length∧H=(bp,.cells #[vv,.int .i64 (n:Int),.int .i64 ((an.aS n (L.take k):Nat):Int),.map (some b1),.map (some b2)] 137 (0,0))::(b2,.map #[] 0)::(b1,.map #[] 0)::(N++B),
  fun vs _=>L.length-bG vs 0,JE.mk ⟨0,N,rfl,by omega,rfl⟩,?_⟩
 clear N
 rintro w H ⟨k,N,hv,hk,rfl⟩ gs
 simp only[List.cons.injEq,and_true]at hv
 subst hv
 refine ae.eA (Br.dec (fun hlt=>?_) (fun hlt=>?_))
 ·have hg:(L.map fun ws=>(⟨n,ws⟩:Tb))[k]? =some ⟨n,L[k]⟩:=by rw[List.getElem?_map,List.getElem?_eq_getElem hlt];rfl
  have nE:=hf L[k] (List.getElem_mem hlt)
  refine ht.ld hg zS fun s hw=>?_
  intro b3 _
  refine St.whole (r:=[.int .i64 (n:Int),s]) (by exact .head _) rfl rfl ?_ ?_
  ·have:=aH hw;simpa[Value.oneCell']using this
  refine aC.whole (r:=[.int .i64 (n:Int),s]) (by exact .head _) rfl ?_
  refine af.rd (B:=B) (.cons (.cons (.cons (.cons (.app .here))))) (su (v:=.agg (List.toArray [.int .i64 (n:Int),s])) (t:=⟨n,L[k]⟩) ⟨s,rfl,hw⟩) ?_
  rintro v rfl
  rw[if_pos (show TF ⟨(n:Int),L[k]⟩from⟨by simp,by simpa using nE⟩)]
  refine Ext.mk rfl (Ext.mk rfl ?_)
  simp only[Int.toNat_natCast]
  have afF:2^n≤2^16:=Nat.pow_le_pow_right (n:=2) (by decide) qo
  have VA:an.oc n L[k]<2^n:=an.lW n L[k] n
  have hus:=an.sk n (L.take k)
  refine Nil.ptr ?_
  refine aa.mk (Ld.mk zM rfl ?_)
  refine aW.nat (by simp[aB];omega) ?_
  refine ae.Jd (by simp[aB];omega) (by simp[aB];omega) ?_
  rw[←A0 hlt]
  refine Nil.ptr (aa.mk ?_)
  refine St.one (c:=#[vv,.int .i64 (n:Int),.int .i64 ((an.aS n (L.take k):Nat):Int),.map (some b1),.map (some b2)]) (c':=#[vv,.int .i64 (n:Int),.int .i64 ((an.aS n (L.take (k+1)):Nat):Int),.map (some b1),.map (some b2)]) (by repeat (first|exact dR.head _|apply dR.tail|apply dR.dK)) rfl (by simp) rfl ?_
  refine ae.aL (b:=1) (by simp[aB];omega) ?_
  exact aD.of .tail ⟨k+1,N,rfl,by omega,rfl⟩ (by simp[bG];omega)
 ·have:k=L.length:=by omega
  subst this
  rw[List.take_length]
  refine⟨_,_,rfl,aQ.cons aQ.swap,(by repeat (first|exact aV.refl _|apply aV.cons|apply aV.app)),Or.inl ⟨hO,bp,b1,b2,n,L,N,rfl,fun e=>absurd e hne,qo,hf,rfl,_,_,_,_,rfl,qM _ _⟩⟩
theorem KC{n:Nat}{c:Nat→Nat→Nat}{f a v:Nat}(hv:v∈an.bK n a)(he:c a v+an.B n c (an.az a v true)=an.B n c a)(hm:∀u∈an.bK n a,u<v→c a u+an.B n c (an.az a u true)≠an.B n c a):
    an.ord n c (f+1) a=v::an.ord n c f (an.az a v true):=by
  obtain⟨u,h1,h2,h3,h4⟩:=an.sI (c:=c) (f:=f) (List.ne_nil_of_mem hv)
  rcases Nat.lt_trichotomy u v with h|h|h
  · exact absurd h2 (hm u h1 h)
  · rw[h4,h]
  · exact absurd he (h3 v hv h)
theorem Ib{ug:Value}{n:Nat}{L:List (List Nat)}{B:Hp}{bp bl bd a:Nat}(ha:a<4611686018427387904){H:Hp}(hp:lC bp bl bd ug n L 0 B H):
    Fc Tryz.prog 74 #[.pointer (some ⟨bp,0,none⟩),.int .i64 (a:Int)] H (fun r H'=>r=.int .i64 0∧H'=H):=by
  obtain⟨nJ,lP,mz,nL,rfl,hM⟩:=hp
  intro g
  refine wm (R:=aA _) ?_
  unfold L74
  refine Nil.ptr ?_
  refine aa.mk (Ld.mk zM rfl ?_)
  refine ae.jm (b:=0) (by simp[aB];omega) (by simp[aB]) ?_
  refine Nil.ptr ?_
  refine aa.mk (Ld.mk zM rfl ?_)
  exact ae.eB (b:=0) (Br.fc (by simp) (aA.here ⟨rfl,rfl⟩))
def XW(ts:List Tb)(B:Hp)(r:Value)(H:Hp):Prop:=
  (¬pR ts∧r=.tuple #[.int .i64 0,.slice none 0 0,.int .i64 5])∨
  (pR ts∧∃(n:Nat) (L:List (List Nat)),ts=GM n L∧(L=[]→n=0)∧n≤16∧(∀ws∈L,an.dj n ws)∧
    ((12<n∧r=.tuple #[.int .i64 0,.slice none 0 0,.int .i64 6])∨
     (n≤12∧∃(s:Value) (C N:Hp),r=.tuple #[.int .i64 ((an.B n (an.lvl n L) 0:Nat):Int),s,.int .i64 0]∧aN 3 .i64 s (iw (an.ord n (an.lvl n L) n 0)) C∧H=C++(N++B))))
structure BSt(n:Nat)(c:Nat→Nat→Nat)(s:Value)(a:Nat)(l:List Nat)(C:Hp):Prop where
  own:aN 3 .i64 s (iw l) C
  lt:a<2^n
  len:(an.bK n a).length+l.length=n
  pre:l++an.ord n c (n-l.length) a=an.ord n c n 0
theorem FZ{a v:Nat}:(a>>>v&&&1=0)↔a.testBit v=false:=by
  have:=Nat.testBit_eq_decide_div_mod_eq (x:=a) (i:=v)
  rw[this,Nat.and_one_is_mod,Nat.shiftRight_eq_div_pow]
  simp
theorem PD{B:Hp}{v:Value}{ts:List Tb}(ht:eL B v ts)(bQ:ts.length<33554432):Px Tryz.prog 26 #[v] B (XW ts B):=by
  intro g
  refine IL (R:=aA _) ?_
  unfold L26
  refine af.px .here (HT ht (by omega)) ?_
  rintro r N0 (⟨hO,bp,bl,bd,n,L,N,rfl,VU,qo,hf,rfl,hp⟩|⟨hO,rfl⟩)
  case inr=>exact Ext.mk rfl (Ext.mk rfl (ae.wZ (a:=5) (b:=0) (Br.dec (fun _=>tM.mk (by repeat (first|exact aV.refl _|apply aV.cons|apply aV.app)) (.inl ⟨hO,rfl⟩)) (fun h=>absurd (by decide) h))))
  generalize N0++B=H2 at hp⊢
  clear N0
  rw[ob]at bQ
  have BC:=hp
  obtain⟨nJ,lP,mz,nL,rfl,hM⟩:=hp
  refine Ext.mk rfl (Ext.mk rfl (ae.wZ (a:=0) (b:=0) (Br.dec (fun h=>absurd rfl h) (fun _=>?_))))
  refine Nil.ptr ?_
  refine aa.mk (Ld.mk zM rfl ?_)
  refine ae.kB (b:=12) (Br.dec (fun Uz=>tM.mk (by repeat (first|exact aV.refl _|apply aV.cons|apply aV.app)) (.inr ⟨hO,n,L,rfl,VU,qo,hf,.inl ⟨Uz,rfl⟩⟩)) (fun Uz=>?_))
  clear hM
  have zl:n≤12:=by omega
  have hOK:L≠[]→tN v n L (N++B):=fun hne=>⟨ht.mono zS,hf,hne,bQ,zl⟩
  have nj:2^n≤2^12:=Nat.pow_le_pow_right (by decide) zl
  have hm0:(an.bK n 0).length=n:=by
    have:an.bK n 0=List.range n:=by unfold an.bK;rw[List.filter_eq_self];simp
    rw[this,List.length_range]
  refine⟨fun vs H=>∃(s:Value) (a:Nat) (l:List Nat) (C H1:Hp),vs=[s,.int .i64 (a:Int)]∧BSt n (an.lvl n L) s a l C∧lC bp bl bd v n L (an.aS n L) (N++B) H1∧H=C++H1,
    fun vs _=>(an.bK n (bG vs 1)).length,JE.mk ⟨_,0,[],[],_,rfl,⟨aN.nil,Nat.two_pow_pos n,by rw[hm0];rfl,by simp⟩,BC,rfl⟩,?_⟩
  clear BC nJ lP mz nL
  rintro nB rJ H ⟨s,a,l,C,H1,hv,hb,hp,rfl⟩ gs
  simp only[List.cons.injEq,and_true]at hv
  obtain⟨rfl,rfl⟩:=hv
  have BC:=hp
  obtain⟨nJ,lP,mz,nL,rfl,hM⟩:=hp
  refine hb.own.bC ?_
  rw[ak]
  refine Nil.ptr ?_
  refine aa.mk (Ld.mk zM rfl ?_)
  have QJ:=hb.len
  refine ae.eA (Br.dec (fun hlt=>?_) (fun hlt=>?_))
  · have aah:an.bK n a≠[]:=by intro e;rw[e]at QJ;simp at QJ;omega
    have hne:L≠[]:=fun e=>by have:=VU e;omega
    have rS:=hOK hne
    have Yk:n-l.length=n-l.length-1+1:=by omega
    refine Nil.ptr ?_
    refine aa.mk (Ld.mk zM rfl ?_)
    refine⟨fun vs H=>∃(k:Nat) (H1:Hp),vs=[nB,.int .i64 (a:Int),.int .i64 (k:Int)]∧k≤n∧(∀u∈an.bK n a,u<k→an.lvl n L a u+an.B n (an.lvl n L) (an.az a u true)≠an.B n (an.lvl n L) a)∧lC bp bl bd v n L (an.aS n L) (N++B) H1∧H=C++H1,
      fun vs _=>n-bG vs 2,JE.mk ⟨0,_,rfl,by omega,fun u _ h=>by omega,BC,rfl⟩,?_⟩
    clear hM BC
    rintro EX Gx wy H ⟨k,H1,hv,hk,hmin,hp,rfl⟩ gs
    simp only[List.cons.injEq,and_true]at hv
    obtain⟨rfl,rfl,rfl⟩:=hv
    refine ae.eA (Br.dec (fun hlk=>?_) (fun hlk=>?_))
    · intro J hJ
      have hpk:2^k≤2^12:=Nat.pow_le_pow_right (by decide) (by omega)
      have hno:∀H1,¬(a.testBit k=false∧an.lvl n L a k+an.B n (an.lvl n L) (an.az a k true)=an.B n (an.lvl n L) a)→lC bp bl bd v n L (an.aS n L) (N++B) H1→J [.bool false] (C++H1):=fun H1 hx hp=>hJ _ _ fun gs=>by
        refine Br.no (ae.aL (b:=1) (by simp[aB];omega) ?_)
        refine aD.mk ⟨k+1,H1,rfl,by omega,fun u hu hlu=>?_,hp,rfl⟩ (by rw[gT,gT,gT,gT];show n-(((k:Int)+1).toNat)<n-((k:Int).toNat);omega)
        by_cases e:u=k
        · subst e;exact fun h=>hx ⟨(an.cA.1 hu).2,h⟩
        · exact hmin u hu (by omega)
      refine DR.self ?_
      have agn:a<4611686018427387904:=by have:=hb.lt;omega
      refine ae.kJ (by simp[aB];omega) (ae.jm (b:=1) (by simp[aB];exact Nat.lt_of_le_of_lt (Nat.shiftRight_le _ _) (by omega)) (by decide) (ae.eB (b:=0) ?_))
      refine Br.dec (fun h0=>?_) (fun h0=>JE.mk (hno H1 (fun h=>h0 (FZ.2 h.1)) hp))
      have hak:=FZ.1 h0
      refine ae.uI (a:=1) (by simp[IntKind.bits];omega) (by rw[Nat.one_shiftLeft];simp[aB];omega) ?_
      rw[Nat.one_shiftLeft]
      refine ae.Jd (by simp[aB];omega) (by simp[aB];omega) ?_
      have Ps:a|||2^k=an.az a k true:=rfl
      rw[Ps]
      intro F
      refine af.fn (.app .here) (yP rS hp hb.lt hlk hak) ?_
      rintro r H2 ⟨rfl,nj⟩
      intro F
      refine af.fn (.app .here) (pZ rS _ (an.az a k true) (Nat.le_refl _) (an.fP hb.lt hlk) H2 nj) ?_
      rintro r H3 ⟨rfl,Sp⟩
      have hb1:=Bn rS a k
      have Ys:=Gp rS (an.az a k true)
      refine ae.aL (by simp[aB];omega) ?_
      intro F
      refine af.fn (.app .here) (pZ rS _ a (Nat.le_refl _) hb.lt H3 Sp) ?_
      rintro r H4 ⟨rfl,Yi⟩
      refine ae.eB ?_
      by_cases he:an.lvl n L a k+an.B n (an.lvl n L) (an.az a k true)=an.B n (an.lvl n L) a
      · rw[decide_eq_true he]
        have hmem:k∈an.bK n a:=an.cA.2 ⟨hlk,hak⟩
        have OL:=KC (f:=n-l.length-1) hmem he hmin
        have hml:=an.fS hmem
        refine aF.mk (JE.mk (hJ _ _ fun gs=>Br.yes ?_))
        refine av.int (e:=3) (by kernel_rfl) (by kernel_rfl) (by kernel_rfl) fun xb=>?_
        refine aN.app (A:=[_]) hb.own (by exact .head _) (by simp;omega) (by simp;omega) fun v' C' ho=>?_
        refine ae.uI (a:=1) (by simp[IntKind.bits];omega) (by rw[Nat.one_shiftLeft];simp[aB];omega) ?_
        rw[Nat.one_shiftLeft]
        refine ae.Jd (by simp[aB];omega) (by simp[aB];omega) ?_
        rw[Ps]
        refine aD.of .right ⟨v',an.az a k true,l++[k],C',H4,rfl,⟨by simpa[iw]using ho,an.fP hb.lt hlk,by simp;omega,?_⟩,Yi,rfl⟩ (by rw[gT,gT];show(an.bK n (an.az a k true)).length<(an.bK n a).length;omega)
        have:=hb.pre
        rw[Yk,OL]at this
        rw[List.length_append,List.length_singleton,Nat.sub_add_eq,List.append_assoc]
        exact this
      · rw[decide_eq_false he]
        exact aF.mk (JE.mk (hno H4 (fun h=>he h.2) Yi))
    · obtain⟨u,h1,h2,_⟩:=an.sI (c:=an.lvl n L) (f:=0) aah
      exact absurd h2 (hmin u h1 (by have:=(an.cA.1 h1).1;omega))
  · have uQ:l.length=n:=by omega
    have hl:l=an.ord n (an.lvl n L) n 0:=by
      have:=hb.pre
      rw[uQ,Nat.sub_self]at this
      simpa[an.ord]using this
    have hown:=hb.own
    rw[hl]at hown
    by_cases hne:L=[]
    · have hn:=VU hne
      subst hne
      subst hn
      refine af.fn (.app .here) (Ib (a:=0) (by omega) BC) ?_
      rintro r H3 ⟨rfl,rfl⟩
      exact⟨_,_,rfl,.refl _,(by repeat (first|exact aV.refl _|apply aV.cons|apply aV.app)),.inr ⟨hO,0,[],rfl,VU,qo,hf,.inr ⟨zl,_,C,(_::_::_::N),rfl,hown,rfl⟩⟩⟩
    · refine af.fn (.app .here) (pZ (hOK hne) _ 0 (Nat.le_refl _) (Nat.two_pow_pos n) _ BC) ?_
      rintro r H3 ⟨rfl,rW,wc,es4,ck4,rfl,S9⟩
      exact⟨_,_,rfl,.refl _,(by repeat (first|exact aV.refl _|apply aV.cons|apply aV.app)),.inr ⟨hO,n,L,rfl,VU,qo,hf,.inr ⟨zl,_,C,(_::_::_::N),rfl,hown,rfl⟩⟩⟩
end Go.Proofs
namespace YJ
abbrev It:=Int×Int
def prec(a b:It):Bool:=decide (a.2<b.2)||(a.2==b.2&&decide (a.1<b.1))
def E(V:Nat→It)(j:Nat):Prop:=prec (V j) (V ((j-1) /2))=false
def Ord(n:Nat)(V:Nat→It):Prop:=∀j,0<j→j<n→E V j
def ZH(n:Nat)(V:Nat→It)(i:Nat):Nat:=if(decide (2*i+1+1<n) &&prec (V (2*i+1+1)) (V (2*i+1)))=true then 2*i+1+1 else 2*i+1
def kC(l:List It)(j:Nat):It:=l.getD j (0,0)
theorem swap_perm{l:List It}{i q:Nat}(hi:i<l.length)(hq:q<l.length)(hne:q≠i):((l.set i (kC l q)).set q (kC l i)).Perm l:=by
 rw[List.perm_iff_count]
 intro x
 have g1:l[i]=kC l i:=by simp[kC,List.getD,hi]
 have g2:l[q]=kC l q:=by simp[kC,List.getD,hq]
 have g3:(l.set i (kC l q))[q]'(by simp[hq])=kC l q:=by rw[List.getElem_set_ne (fun e=>hne e.symm)];exact g2
 rw[List.count_set (by simp[hq]),List.count_set hi,g1,g3]
 have hc:kC l i=x→0<l.count x:=fun e=>by rw[List.count_pos_iff,←e,←g1];exact List.getElem_mem hi
 by_cases e1:kC l i=x
 ·have:=hc e1
  by_cases e2:kC l q=x<;>simp[e1,e2]<;>omega
 ·by_cases e2:kC l q=x<;>simp[e1,e2]
end YJ
namespace YJ
open Go Go.Sx
def enc(kd:IntKind)(a:It):List Value:=[.int kd a.1,.int .i64 a.2]
end YJ
namespace an
open Go.Sx YJ
def nn(s k:Nat):It:=((s:Int),(k:Int))
variable {n:Nat} {c:Nat→Nat→Nat} {T:Nat} {D:List Nat} {l l':List It} {s i:Nat}
end an
set_option maxRecDepth 100000
namespace Go.Proofs
open Go Go.Sx
theorem ae.ry{kd:IntKind}{a b:Nat}{k:Value→Prop}(hb:b≠0)(h:k (.int kd ((a%b:Nat):Int))):ae .num .rem (.int kd a) (.int kd b) k:=
 ae.Qc (by omega) rfl (by have:((a:Int)).tmod (b:Int)=((a%b:Nat):Int):=rfl;rw[this];exact h)
end Go.Proofs
set_option maxRecDepth 100000
namespace Go.Proofs
open Go Go.Sx
open aE
section
variable {kp mb kX b1 b7 AH bn:Nat} {K:Kd} {S:Nat→aE.Fn} {ord ah tr:List Nat} {C:Hp}
def kr(r:Nat):Value:=u32 r
theorem sS(a b:Nat):Instr.sameNow (.int .u32) (kr a) (kr b)=some (decide (a=b)):=by
 simp only[Instr.sameNow,kr,u32,if_true,Option.some.injEq]
 rw[Bool.eq_iff_iff];simp;omega
theorem xk(a:Nat):Instr.sameBits 10000 (kr a) (kr a)=true:=by simp[Instr.sameBits,kr,u32]
structure Kn(n:Nat)(S:Nat→aE.Fn)(es:Array MapEntry)(ck:Nat)(m:List (Nat×Value))(Y:Hp):Prop where
 jb:aM kr (fun v x=>v=x) es ck m
 iJ:∀r v,c9 m r=some v→cJ Y v n (S r)
 low:∀r,r<2→c9 m r≠none
theorem Kn.mono{n:Nat}{S:Nat→aE.Fn}{es:Array MapEntry}{ck:Nat}{m:List (Nat×Value)}{Y Y':Hp}(h:Kn n S es ck m Y)(hs:∀x∈Y,x∈Y'):Kn n S es ck m Y':=⟨h.jb,fun r v hm=>(h.iJ r v hm).mono hs,h.low⟩
theorem cJ.one{B:Hp}{v:Value}{n:Nat}{f:aE.Fn}(h:cJ B v n f):∃s,v=.agg #[.int .i64 (n:Int),s]∧s.oneCell'=true:=by
 obtain⟨ws,⟨s,rfl,hw⟩,_,_⟩:=h
 exact⟨s,rfl,aH hw⟩
theorem cH{n:Nat}{s:Value}(h:s.oneCell'=true):∀u∈[Value.int .i64 (n:Int),s],u.oneCell'=true:=fun u hu=>by
 simp only[List.mem_cons,List.not_mem_nil,or_false]at hu
 rcases hu with rfl|rfl
 ·rfl
 ·exact h
theorem qe(d:Nd):∀u∈aP d,u.oneCell'=true:=fun u hu=>by
 simp only[aP,List.mem_cons,List.not_mem_nil,or_false]at hu
 rcases hu with rfl|rfl|rfl<;>rfl
theorem Mo{X:Hp}(h:cK kp K S ord ah tr C){r:Nat}{d:Nd}(hd:K.N r=some d):Px Tryz.prog 217 #[ptr kp,u32 r] (X++C) (fun v _=>v=.agg (aP d).toArray):=by
 have hlt:=h.bZ (.inr ⟨d,hd⟩)
 intro g
 refine DE (R:=aA _) ?_
 unfold L217
 intro b1 _
 refine af.rd (args:=#[ptr kp,u32 r]) (.cons (.app .here)) (fV h.rep (by omega)) ?_
 rintro v rfl
 rw[df hd (h.ok.mid.two hd).1]
 refine Ext.mk rfl (Ext.mk rfl ?_)
 intro b7 _
 refine St.whole (r:=aP d) (by exact .head _) rfl rfl (qe d) ?_
 refine aC.whole (r:=aP d) (by exact .head _) rfl ?_
 refine St.whole (r:=aP d) (by exact .tail (.head _)) rfl rfl (qe d) ?_
 refine aC.whole (r:=aP d) (by exact .tail _ (.head _)) rfl ?_
 exact tM.mk (by repeat (first|exact aV.refl _|apply aV.cons|apply aV.app)) rfl
theorem Mp{X:Hp}{v:Value}(h:cK kp K S ord ah tr C){rs:List Nat}(hv:cT .u32 (X++C) v (iw rs))(hr:∀r∈rs,live K.N r)(hl:rs.length<4611686018427387904):Px Tryz.prog 150 #[ptr kp,v] (X++C) (fun w _=>w=.int .i64 0):=by
 intro g
 refine El (R:=aA _) ?_
 unfold L150
 refine ae.bJ (Br.no ?_)
 refine hv.bC ?_
 rw[ak]
 refine⟨fun vs H=>∃(i:Nat) (N:Hp),vs=[.int .i64 (i:Int)]∧i≤rs.length∧H=N++(X++C),fun vs _=>rs.length-bG vs 0,JE.mk ⟨0,[],rfl,Nat.zero_le _,rfl⟩,?_⟩
 rintro w H ⟨i,N,hw,hi,rfl⟩ gs
 simp only[List.cons.injEq,and_true]at hw
 subst hw
 refine ae.eA (Br.dec (fun hlt=>?_) (fun hge=>?_))
 ·have Az:=hr _ (List.getElem_mem hlt)
  have oC:=h.bZ Az
  refine hv.ld (n:=((rs[i]:Nat):Int)) (cr (List.getElem?_eq_getElem hlt)) (fun _ h=>List.mem_append_right _ h) ?_
  refine af.rd (args:=#[ptr kp,u32 rs[i]]) (.app (.app .here)) (fV h.rep (by omega)) ?_
  rintro v rfl
  rw[if_pos (bM.2 Az)]
  refine Ext.mk rfl (Ext.mk rfl ?_)
  intro Nv _
  refine St.whole (r:=got K.N rs[i]) (by exact .head _) rfl (aG _ _).1 (aG _ _).2 ?_
  refine ae.dO (Br.bt (by simp) ?_)
  refine ae.aL (b:=1) (by simp[aB];omega) ?_
  exact aD.mk ⟨i+1,_::N,rfl,hlt,rfl⟩ (by simp only[bG];omega)
 ·exact tM.mk (by repeat (first|exact aV.refl _|apply aV.cons|apply aV.app)) rfl
theorem Mb{X:Hp}{n:Nat}(hn:n≤16){d:Nd}(hd:d.v<n){v1 v2:Value}{f1 f2:aE.Fn}(h1:cJ X v1 n f1)(h2:cJ X v2 n f2)(hm:(bn,Obj.cells #[.int .i64 (n:Int)] 3 (0,0))∈X):
  Px Tryz.prog 152 #[.agg (aP d).toArray,v1,v2,ptr bn] X (fun w H=>cJ H w n (fun x=>if x.testBit d.v then f2 x else f1 x)):=by
 obtain⟨s1,rfl,o1⟩:=h1.one
 obtain⟨s2,rfl,o2⟩:=h2.one
 intro g
 refine Ej (R:=aA _) ?_
 unfold L152
 intro c1 _ c3 _ c5 _ c7 _
 refine Ld.mk (v:=.int .i64 (n:Int)) (by exact .tail _ (.tail _ (.tail _ (.tail _ hm)))) rfl ?_
 refine aa.mk (Ld.mk (v:=.int .i64 (d.v:Int)) (by exact .tail _ (.tail _ (.tail _ (.head _)))) rfl ?_)
 refine af.px (bS.left (C:=[]) (A:=_)) (E5 hn hd []) ?_
 rintro w N ⟨t,rfl,ht⟩
 rw[List.append_nil]at ht⊢
 obtain⟨s3,rfl,o3⟩:=ht.one
 refine Ext.mk rfl (Ext.mk rfl ?_)
 intro Q2 _
 refine St.whole (r:=[.int .i64 (n:Int),s3]) (by exact .head _) rfl rfl (cH o3) ?_
 refine aC.whole (r:=[.int .i64 (n:Int),s3]) (by exact .head _) rfl ?_
 refine aC.whole (r:=[.int .i64 (n:Int),s2]) (by exact .tail _ (List.mem_append_right _ (.tail _ (.head _)))) rfl ?_
 refine aC.whole (r:=[.int .i64 (n:Int),s1]) (by exact .tail _ (List.mem_append_right _ (.tail _ (.tail _ (.head _))))) rfl ?_
 refine af.pre (.perm (.cons _ (List.perm_middle.trans (.cons _ (List.perm_middle.trans (.cons _ (List.perm_middle.trans (.cons _ List.perm_middle)))))))) ?_
 refine af.px (.cons (.cons (.cons (.cons (.cons .here))))) (wG (B:=N++X) (ht.mono fun _ h=>List.mem_append_left _ h) (h2.mono fun _ h=>List.mem_append_right _ h) (h1.mono fun _ h=>List.mem_append_right _ h)) ?_
 rintro w N2 ⟨t4,rfl,ht4⟩
 obtain⟨s4,rfl,o4⟩:=ht4.one
 refine Ext.mk rfl (Ext.mk rfl ?_)
 intro c26 _
 refine St.whole (r:=[.int .i64 (n:Int),s4]) (by exact .head _) rfl rfl (cH o4) ?_
 refine aC.whole (r:=[.int .i64 (n:Int),s4]) (by exact .head _) rfl ?_
 refine St.whole (r:=[.int .i64 (n:Int),s4]) (by exact .tail (.tail (.head _))) rfl rfl (cH o4) ?_
 refine aC.whole (r:=[.int .i64 (n:Int),s4]) (by exact .tail _ (.tail _ (.head _))) rfl ?_
 refine tM.mk (by repeat (first|exact aV.refl _|apply aV.cons|apply aV.app)) (ht4.mono ?_)
 intro x hx
 repeat (first|exact hx|apply List.mem_cons_of_mem)
theorem Xf(h:cK kp K S ord ah tr C)(hn:K.n≤16){Z0:Hp}(h19:(kX,Obj.cells #[.map (some mb)] 295 (0,0))∈Z0)(h1:(b1,Obj.cells #[ptr kp] 26 (0,0))∈Z0)(h7:(b7,Obj.cells #[.func (.func 152) #[] #[ptr bn]] 221 (0,0))∈Z0)
 (h22:(AH,Obj.cells #[.func (.func 216) #[] #[ptr kX,ptr b1,ptr b7,ptr AH]] 296 (0,0))∈Z0)(Us:(bn,Obj.cells #[.int .i64 (K.n:Int)] 3 (0,0))∈Z0):
  ∀(k r:Nat) (es:Array MapEntry) (ck:Nat) (m:List (Nat×Value)) (Z:Hp),K.n-dep K.n (lv ah) K.N r≤k→live K.N r→(∀x∈Z0,x∈Z)→Kn K.n S es ck m Z→
  Fc Tryz.prog 216 #[u32 r,ptr kX,ptr b1,ptr b7,ptr AH] ((mb,.map es ck)::(Z++C)) (fun v H=>∃es' ct m' N,H=(mb,.map es' ct)::(N++(Z++C))∧Kn K.n S es' ct m' (N++Z)∧cJ (N++Z) v K.n (S r)):=by
 have hit:∀{r:Nat} {es:Array MapEntry} {ck:Nat} {m:List (Nat×Value)} {Z:Hp} {v:Value},(∀x∈Z0,x∈Z)→Kn K.n S es ck m Z→c9 m r=some v→
   Fc Tryz.prog 216 #[u32 r,ptr kX,ptr b1,ptr b7,ptr AH] ((mb,.map es ck)::(Z++C)) (fun v H=>∃es' ct m' N,H=(mb,.map es' ct)::(N++(Z++C))∧Kn K.n S es' ct m' (N++Z)∧cJ (N++Z) v K.n (S r)):=by
  intro r es ck m Z v hZ hm hv g
  obtain⟨s,rfl,hs⟩:=(hm.iJ r v hv).one
  refine tW (R:=aA _) ?_
  unfold L216
  intro c1 _
  refine Ld.mk (v:=.map (some mb)) (by exact .tail _ (.tail _ (List.mem_append_left _ (hZ _ h19)))) rfl ?_
  refine hm.jb.hit (k:=r) sS (b:=mb) (by exact .tail _ (.head _)) hv fun v' e=>?_
  subst e
  refine Ext.mk rfl (Ext.mk rfl ?_)
  intro c7 _
  refine St.whole (r:=[.int .i64 (K.n:Int),s]) (by exact .head _) rfl rfl (cH hs) ?_
  refine Br.yes ?_
  refine aC.whole (r:=[.int .i64 (K.n:Int),s]) (by exact .head _) rfl ?_
  refine St.whole (r:=[.int .i64 (K.n:Int),s]) (by exact .tail (.head _)) rfl rfl (cH hs) ?_
  refine aC.whole (r:=[.int .i64 (K.n:Int),s]) (by exact .tail _ (.head _)) rfl ?_
  exact aA.mk (.skip .tail) ⟨es,ck,m,[],rfl,hm,hm.iJ r _ hv⟩
 intro k
 induction k with
 |zero=>
  intro r es ck m Z hk hr hZ hm
  have uk:r<2:=by
   cases hN:K.N r with
   |some d=>
    have:=h.ok.wf.jG h.ok.lv r
    rw[ay hN]at hk
    have:=h.ok.lv.lt _ (h.ok.mid.var hN);omega
   |none=>
    rcases hr with hr|⟨d,e⟩
    ·exact hr
    ·rw[hN]at e;cases e
  cases hv:c9 m r with
  |none=>exact absurd hv (hm.low r uk)
  |some v=>exact hit hZ hm hv
 |succ k ih=>
  intro r es ck m Z hk hr hZ hm
  cases hv:c9 m r with
  |some v=>exact hit hZ hm hv
  |none=>
  have uk:¬r<2:=fun h2=>hm.low r h2 hv
  obtain⟨d,hN⟩:∃d,K.N r=some d:=by
   rcases hr with hr|hr
   ·omega
   ·exact hr
  have nT:=h.ok.mid.var hN
  have hlo:=h.ok.wf.lo hN
  have hhi:=h.ok.wf.hi hN
  have hdl:=h.ok.wf.jG h.ok.lv r
  rw[ay hN]at hk
  have hvl:=h.ok.lv.lt _ nT
  have Wx:S r=fun x=>if x.testBit d.v then S d.hi x else S d.lo x:=funext fun x=>h.ok.mid.int.node hN x
  intro g
  refine tW (R:=aA _) ?_
  unfold L216
  intro c1 _
  refine Ld.mk (v:=.map (some mb)) (by exact .tail _ (.tail _ (List.mem_append_left _ (hZ _ h19)))) rfl ?_
  refine hm.jb.bK (k:=r) sS (b:=mb) (by exact .tail _ (.head _)) hv ?_
  refine Ext.mk rfl (Ext.mk rfl ?_)
  intro c7 _
  refine St.whole (r:=[.int .i64 0,.slice none 0 0]) (by exact .head _) rfl rfl (by simp[Value.oneCell']) ?_
  refine Br.no ?_
  refine Ld.mk (v:=ptr kp) (by exact .tail _ (.tail _ (.tail _ (List.mem_append_left _ (hZ _ h1))))) rfl ?_
  refine af.px (args:=#[ptr kp,u32 r]) (.cons (.cons (.cons .here))) (Mo (X:=Z) h hN) ?_
  rintro w N0 rfl
  intro Q2 _
  refine St.whole (r:=aP d) (by exact .head _) rfl rfl (qe d) ?_
  obtain⟨Z1,Wt⟩:∃Z1,Z1=(Q2,Obj.cells (aP d).toArray 161 (0,0))::(N0++Z):=⟨_,rfl⟩
  have LQ:∀x∈Z,x∈Z1:=fun x hx=>by rw[Wt];exact .tail _ (List.mem_append_right _ hx)
  have LC:aQ (Z1++C) ((Q2,Obj.cells (aP d).toArray 161 (0,0))::Z):=by rw[Wt];exact aQ.left.trans (.cons .right)
  have rA:((Q2,Obj.cells (aP d).toArray 161 (0,0))::(c7,.cells (List.toArray [.int .i64 0,.slice none 0 0]) 57 (0,0))::(c1,.cells #[.int .i64 0,.slice none 0 0] 57 (0,0))::(mb,Obj.map es ck)::(N0++(Z++C))).Perm
    ((c1,.cells #[.int .i64 0,.slice none 0 0] 57 (0,0))::(c7,.cells (List.toArray [.int .i64 0,.slice none 0 0]) 57 (0,0))::(mb,Obj.map es ck)::(Z1++C)):=by
   rw[Wt,List.cons_append,List.append_assoc]
   refine(List.Perm.swap _ _ _).trans ?_
   refine(List.Perm.cons _ (List.Perm.swap _ _ _)).trans ?_
   refine(List.Perm.swap _ _ _).trans (.cons _ (.cons _ (.swap _ _ _)))
  have hR0:aQ ((Q2,Obj.cells (aP d).toArray 161 (0,0))::(c7,.cells (List.toArray [.int .i64 0,.slice none 0 0]) 57 (0,0))::(c1,.cells #[.int .i64 0,.slice none 0 0] 57 (0,0))::(mb,Obj.map es ck)::(N0++(Z++C))) ((Q2,Obj.cells (aP d).toArray 161 (0,0))::Z):=
   .cons (.skip (.skip (.skip (.fO .left))))
  refine DR.of hR0 ?_
  refine Ld.mk (v:=.func (.func 152) #[] #[ptr bn]) (by exact .tail _ (hZ _ h7)) rfl ?_
  refine aC.whole (r:=aP d) (by exact .head _) rfl ?_
  refine Ld.mk (v:=.func (.func 216) #[] #[ptr kX,ptr b1,ptr b7,ptr AH]) (by exact .tail _ (hZ _ h22)) rfl ?_
  refine aa.mk (Ld.mk (v:=u32 d.lo) (by exact .head _) rfl ?_)
  refine Ld.mk (v:=.func (.func 216) #[] #[ptr kX,ptr b1,ptr b7,ptr AH]) (by exact .tail _ (hZ _ h22)) rfl ?_
  refine aa.mk (Ld.mk (v:=u32 d.hi) (by exact .head _) rfl ?_)
  intro F
  refine cc.of rfl (by kernel_rfl) ?_
  refine af.pre (.perm rA) ?_
  refine af.fn (args:=#[u32 d.lo,ptr kX,ptr b1,ptr b7,ptr AH]) (.cons (.cons .here)) (ih d.lo es ck m Z1 (by omega) hlo.1 (fun x hx=>LQ _ (hZ x hx)) (hm.mono LQ)) ?_
  rintro v1 H ⟨nJ,lP,m1,N1,rfl,yb,Qt⟩
  refine⟨.skip (.skip (.skip (.fO LC))),?_⟩
  rw[←List.append_assoc]
  intro F
  refine cc.of rfl (by kernel_rfl) ?_
  refine af.fn (args:=#[u32 d.hi,ptr kX,ptr b1,ptr b7,ptr AH]) (.cons (.cons .here)) (ih d.hi nJ lP m1 (N1++Z1) (by omega) hhi.1 (fun x hx=>List.mem_append_right _ (LQ _ (hZ x hx))) yb) ?_
  rintro v2 H ⟨mz,nL,m2,N2,rfl,uo,Nl⟩
  refine⟨.skip (.skip (.skip (.fO (aQ.assoc.trans (.fO LC))))),?_⟩
  rw[←List.append_assoc]
  intro F
  refine cc.of rfl (by kernel_rfl) ?_
  refine af.px (args:=#[.agg (aP d).toArray,v1,v2,ptr bn]) (.cons (.cons (.cons .left))) (Mb (bn:=bn) hn nT (Qt.mono fun _ h=>List.mem_append_right _ h) Nl (List.mem_append_right _ (List.mem_append_right _ (LQ _ (hZ _ Us))))) ?_
  intro v3 N3 OI
  rw[←Wx]at OI
  refine⟨.skip (.skip (.skip (aQ.assoc.trans (.fO (aQ.assoc.trans (.fO (aQ.assoc.trans (.fO LC)))))))),?_⟩
  obtain⟨s3,rfl,o3⟩:=OI.one
  intro c37 _
  intro F
  refine St.whole (r:=[.int .i64 (K.n:Int),s3]) (by exact .head _) rfl rfl (cH o3) ?_
  refine Ld.mk (v:=.map (some mb)) (by exact .tail _ (.tail _ (.tail _ (.tail _ (List.mem_append_left _ (List.mem_append_right _ (List.mem_append_right _ (List.mem_append_right _ (LQ _ (hZ _ h19)))))))))) rfl ?_
  refine aC.whole (r:=[.int .i64 (K.n:Int),s3]) (by exact .head _) rfl ?_
  refine uo.jb.bY (k:=r) (b:=mb) (x:=.agg #[.int .i64 (K.n:Int),s3]) sS xk rfl fun rW wc he=>⟨_,.tail (.tail (.tail (.head _))),?_⟩
  refine aC.whole (r:=[.int .i64 (K.n:Int),s3]) (by exact .head _) rfl ?_
  refine St.whole (r:=[.int .i64 (K.n:Int),s3]) (by exact .tail (.head _)) rfl rfl (cH o3) ?_
  refine aC.whole (r:=[.int .i64 (K.n:Int),s3]) (by exact .tail _ (.head _)) rfl ?_
  have hmem:∀x∈N3++(N2++(N1++Z1)),x∈(N3++(N2++(N1++((Q2,Obj.cells (aP d).toArray 161 (0,0))::N0))))++Z:=fun x hx=>by
   rw[Wt]at hx
   simpa only[List.append_assoc,List.cons_append]using hx
  refine aA.mk (.skip (.skip .tail)) ⟨rW,wc,fA m2 r (.agg #[.int .i64 (K.n:Int),s3]),N3++(N2++(N1++((Q2,Obj.cells (aP d).toArray 161 (0,0))::N0))),by rw[Wt];simp only[List.append_assoc,List.cons_append],⟨he,fun r' v' Ay=>?_,fun r' hr'=>?_⟩,OI.mono hmem⟩
  ·rw[fG]at Ay
   split at Ay
   ·rename_i e
    subst e
    cases Ay
    exact OI.mono hmem
   ·exact(uo.iJ r' v' Ay).mono fun x hx=>hmem x (List.mem_append_right _ hx)
  ·rw[fG]
   split
   ·simp
   ·exact uo.low r' hr'
end
section
variable {kp bn:Nat} {K:Kd} {S:Nat→aE.Fn} {ord ah tr:List Nat} {C:Hp}
theorem Po(h:cK kp K S ord ah tr C)(hn:K.n≤16){r:Nat}(hr:live K.N r){X:Hp}{v0 v1:Value}(hv0:cJ X v0 K.n (fun _=>false))(hv1:cJ X v1 K.n (fun _=>true))(Us:(bn,Obj.cells #[.int .i64 (K.n:Int)] 3 (0,0))∈X):
  Fc Tryz.prog 151 #[ptr kp,u32 r,v0,v1,.func (.func 152) #[] #[ptr bn]] (X++C) (fun v H=>∃N,H=N++(X++C)∧cJ (N++X) v K.n (S r)):=by
 obtain⟨s0,rfl,o0⟩:=hv0.one
 obtain⟨s1,rfl,o1⟩:=hv1.one
 have hi:=h.ok.mid.int
 intro g
 refine Ek (R:=aA _) ?_
 unfold L151
 intro b1 _ b3 _ b5 _ b7 _ b9 _ mb _
 refine aC.whole (r:=[.int .i64 (K.n:Int),s0]) (by exact .tail _ (.tail _ (.tail _ (.tail _ (.head _))))) rfl ?_
 refine aM.bY (ke:=kr) (vr:=fun v x=>v=x) (k:=0) (b:=mb) (x:=Value.agg #[.int .i64 (K.n:Int),s0]) sS xk aM.empty rfl fun nJ lP Jg=>⟨_,.head _,?_⟩
 refine aC.whole (r:=[.int .i64 (K.n:Int),s1]) (by exact .tail _ (.tail _ (.tail _ (.head _)))) rfl ?_
 refine aM.bY (ke:=kr) (vr:=fun v x=>v=x) (k:=1) (b:=mb) (x:=Value.agg #[.int .i64 (K.n:Int),s1]) sS xk Jg rfl fun mz nL QC=>⟨_,.head _,?_⟩
 intro kX _
 refine St.one (c':=#[.map (some mb)]) (by exact .head _) rfl (by simp) rfl ?_
 intro AH _
 refine St.one (c':=#[.func (.func 216) #[] #[ptr kX,ptr b1,ptr b7,ptr AH]]) (by exact .head _) rfl (by simp) rfl ?_
 refine Ld.mk (v:=.func (.func 216) #[] #[ptr kX,ptr b1,ptr b7,ptr AH]) (by exact .head _) rfl ?_
 refine cc.of rfl (by kernel_rfl) ?_
 obtain⟨Z0,QN⟩:∃Z0:Hp,Z0=(AH,Obj.cells #[.func (.func 216) #[] #[ptr kX,ptr b1,ptr b7,ptr AH]] 296 (0,0))::(kX,.cells #[.map (some mb)] 295 (0,0))::(b7,.cells #[.func (.func 152) #[] #[ptr bn]] 221 (0,0))::(b5,.cells (Value.cells (.agg #[.int .i64 (K.n:Int),s1])) 57 (0,0))::(b3,.cells (Value.cells (.agg #[.int .i64 (K.n:Int),s0])) 57 (0,0))::(b1,.cells #[ptr kp] 26 (0,0))::X:=⟨_,rfl⟩
 have hXZ:∀x∈X,x∈Z0:=fun x hx=>by rw[QN];exact .tail _ (.tail _ (.tail _ (.tail _ (.tail _ (.tail _ hx)))))
 refine af.pre (H':=(b9,Obj.cells #[.int .i64 0,.slice none 0 0] 57 (0,0))::(mb,Obj.map mz nL)::(Z0++C)) (.perm ?_) ?_
 ·rw[QN]
  simp only[List.cons_append]
  refine(List.Perm.cons _ (List.Perm.cons _ (List.Perm.swap _ _ _))).trans ?_
  refine(List.Perm.cons _ (List.Perm.swap _ _ _)).trans ?_
  refine(List.Perm.swap _ _ _).trans (.cons _ ?_)
  refine(List.Perm.cons _ (List.Perm.swap _ _ _)).trans ?_
  exact List.Perm.swap _ _ _
 refine af.fn (args:=#[u32 r,ptr kX,ptr b1,ptr b7,ptr AH]) (.cons .here) (Xf (Z0:=Z0) (bn:=bn) h hn (by rw[QN];exact .tail _ (.head _)) (by rw[QN];exact .tail _ (.tail _ (.tail _ (.tail _ (.tail _ (.head _)))))) (by rw[QN];exact .tail _ (.tail _ (.head _))) (by rw[QN];exact .head _) (hXZ _ Us) K.n r mz nL _ Z0 (Nat.sub_le _ _) hr (fun _ h=>h) ⟨QC,fun r v hm=>?_,fun r hr=>?_⟩) ?_
 ·rw[fG,fG]at hm
  split at hm
  ·rename_i e;subst e;cases hm
   have:=hv1.mono hXZ
   rwa [show(fun _=>true)=S 1 from funext fun x=>(hi.one x).symm]at this
  split at hm
  ·rename_i e;subst e;cases hm
   have:=hv0.mono hXZ
   rwa [show(fun _=>false)=S 0 from funext fun x=>(hi.zero x).symm]at this
  ·simp[c9]at hm
 ·rw[fG,fG]
  have:r=0∨r=1:=by omega
  rcases this with rfl|rfl<;>simp
 rintro v H ⟨rW,wc,m3,N,rfl,_,ht⟩
 obtain⟨s3,rfl,o3⟩:=ht.one
 refine St.whole (r:=[.int .i64 (K.n:Int),s3]) (by exact .head _) rfl rfl (cH o3) ?_
 refine aC.whole (r:=[.int .i64 (K.n:Int),s3]) (by exact .head _) rfl ?_
 refine aA.mk (.skip .tail) ⟨N++[(AH,Obj.cells #[.func (.func 216) #[] #[ptr kX,ptr b1,ptr b7,ptr AH]] 296 (0,0)),(kX,.cells #[.map (some mb)] 295 (0,0)),(b7,.cells #[.func (.func 152) #[] #[ptr bn]] 221 (0,0)),(b5,.cells (Value.cells (.agg #[.int .i64 (K.n:Int),s1])) 57 (0,0)),(b3,.cells (Value.cells (.agg #[.int .i64 (K.n:Int),s0])) 57 (0,0)),(b1,.cells #[ptr kp] 26 (0,0))],by rw[QN];simp,ht.mono fun x hx=>?_⟩
 rw[QN]at hx
 simpa using hx
theorem HX(h:cK kp K S ord ah tr C)(hn:K.n≤16){r:Nat}(hr:live K.N r):
  Fc Tryz.prog 71 #[ptr kp,u32 r] C (fun v H=>∃N t,H=N++C∧v=.tuple #[t,.int .i64 0]∧cJ N t K.n (S r)):=by
 intro g
 refine Ir (R:=aA _) ?_
 unfold L71
 intro b1 _
 refine av.int (e:=77) (by kernel_rfl) (by kernel_rfl) (by kernel_rfl) fun bx=>?_
 refine af.px .here (Mp (X:=[(bx,_),(b1,_)]) (rs:=[r]) h (cT.block (by exact .head _) (by simp)) (fun x hx=>by rw[List.mem_singleton.1 hx];exact hr) (by simp)) ?_
 rintro w N0 rfl
 refine ae.dO (Br.bt (by simp) ?_)
 refine af.rd (.app (.cons (.cons .here))) (gU h.rep) ?_
 rintro w rfl
 intro eY _
 refine St.one (c':=#[.int .i64 (K.n:Int)]) (by exact .head _) rfl (by simp) rfl ?_
 refine Ld.mk (v:=.int .i64 (K.n:Int)) (by exact .head _) rfl ?_
 refine ae.kB (b:=16) (Br.bt (by omega) ?_)
 refine Ld.mk (v:=.int .i64 (K.n:Int)) (by exact .head _) rfl ?_
 refine af.px (bS.left (C:=[]) (A:=_)) (mS hn false []) ?_
 rintro w N1 ⟨t0,rfl,OJ⟩
 rw[List.append_nil]at OJ⊢
 obtain⟨s0,rfl,o0⟩:=OJ.one
 refine Ext.mk rfl (Ext.mk rfl ?_)
 intro Q6 _
 refine St.whole (r:=[.int .i64 (K.n:Int),s0]) (by exact .head _) rfl rfl (cH o0) ?_
 refine Ld.mk (v:=.int .i64 (K.n:Int)) (by exact .tail _ (List.mem_append_right _ (.head _))) rfl ?_
 refine af.px (bS.left (C:=[]) (A:=_)) (mS hn true []) ?_
 rintro w N2 ⟨t1,rfl,Qt⟩
 rw[List.append_nil]at Qt⊢
 obtain⟨s1,rfl,o1⟩:=Qt.one
 refine Ext.mk rfl (Ext.mk rfl ?_)
 intro Xd _
 refine St.whole (r:=[.int .i64 (K.n:Int),s1]) (by exact .head _) rfl rfl (cH o1) ?_
 refine aC.whole (r:=[.int .i64 (K.n:Int),s0]) (by exact .tail _ (List.mem_append_right _ (.head _))) rfl ?_
 refine aC.whole (r:=[.int .i64 (K.n:Int),s1]) (by exact .head _) rfl ?_
 obtain⟨X,hX⟩:∃X:Hp,X=(Xd,Obj.cells (List.toArray [.int .i64 (K.n:Int),s1]) 57 (0,0))::(N2++((Q6,Obj.cells (List.toArray [.int .i64 (K.n:Int),s0]) 57 (0,0))::(N1++((eY,Obj.cells #[.int .i64 (K.n:Int)] 3 (0,0))::(N0++[(bx,Obj.cells (ax .u32 [(r:Int)]) 77 (0,0))]))))):=⟨_,rfl⟩
 refine af.pre (H':=(b1,Obj.cells #[.int .i64 0,.slice none 0 0] 57 (0,0))::(X++C)) (.perm ?_) ?_
 ·rw[hX]
  have:=List.perm_middle (a:=(b1,Obj.cells #[Value.int .i64 0,.slice none 0 0] 57 (0,0))) (l₂:=C) (l₁:=(Xd,Obj.cells (List.toArray [Value.int .i64 (K.n:Int),s1]) 57 (0,0))::(N2++((Q6,Obj.cells (List.toArray [Value.int .i64 (K.n:Int),s0]) 57 (0,0))::(N1++((eY,Obj.cells #[Value.int .i64 (K.n:Int)] 3 (0,0))::(N0++[(bx,Obj.cells (ax .u32 [(r:Int)]) 77 (0,0))]))))))
  simpa only[List.cons_append,List.append_assoc,List.nil_append]using this
 refine af.fn (.cons .here) (Po (X:=X) (bn:=eY) h hn hr (OJ.mono fun x hx=>?_) (Qt.mono fun x hx=>?_) ?_) ?_
 ·rw[hX];exact .tail _ (List.mem_append_right _ (.tail _ (List.mem_append_left _ hx)))
 ·rw[hX];exact .tail _ (List.mem_append_left _ hx)
 ·rw[hX];exact .tail _ (List.mem_append_right _ (.tail _ (List.mem_append_right _ (.head _))))
 rintro v H ⟨N,rfl,ht⟩
 obtain⟨s3,rfl,o3⟩:=ht.one
 refine St.whole (r:=[.int .i64 (K.n:Int),s3]) (by exact .head _) rfl rfl (cH o3) ?_
 refine aC.whole (r:=[.int .i64 (K.n:Int),s3]) (by exact .head _) rfl ?_
 exact aA.mk .tail ⟨N++X,_,by rw[List.append_assoc],rfl,ht⟩
def rts(K:Kd):List Nat:=(List.range K.ho.length).filter fun r=>decide (0<K.hold r)
theorem GY(h:cK kp K S ord ah tr C):Fc Tryz.prog 70 #[ptr kp] C (fun r H=>∃N,H=N++C∧aN 77 .u32 r (iw (rts K)) N):=by
 obtain⟨b,hC,hO⟩:=h.rep
 have hcap:=h.ok.mid.cap
 have hle:=h.ju
 have hfit:K.ho.length≤1048576:=by
  have:=hO.ul
  omega
 intro g
 refine Is (R:=aA _) ?_
 unfold L70
 refine ae.bJ (Br.no ?_)
 have VB:∀z∈b.CH,z∈C:=by rw[hC];exact bS.sub (.cons (.app (.app (.app .left))))
 refine Nil.ptr (aa.mk (aa.mk (Ld.mk (v:=b.vh) (by rw[hC];exact .head _) rfl ?_)))
 refine hO.ho.bC ?_
 rw[ak]
 let rk:Nat→List Nat:=fun k=>(List.range k).filter fun r=>decide (0<K.hold r)
 refine⟨fun vs H=>∃(k:Nat) (w:Value) (N:Hp),vs=[w,.int .i64 (k:Int)]∧k≤K.ho.length∧H=N++C∧aN 77 .u32 w (iw (rk k)) N,fun vs _=>K.ho.length-bG vs 1,JE.mk ⟨0,_,[],rfl,Nat.zero_le _,rfl,aN.nil⟩,?_⟩
 rintro kF fL H ⟨k,w,N,hv,hk,rfl,hN⟩ gs
 simp only[List.cons.injEq,and_true]at hv
 obtain⟨rfl,rfl⟩:=hv
 refine ae.eA (Br.dec (fun hlt=>?_) (fun hlt=>?_))
 ·intro J hJ
  have fin:∀w' N',aN 77 .u32 w' (iw (rk (k+1))) N'→J [w'] (N'++C):=fun w' N' h'=>hJ _ _ fun gs=>by
   refine ae.aL (b:=1) (by simp[aB];omega) ?_
   exact aD.of (.refl _) ⟨k+1,w',N',rfl,hlt,rfl,h'⟩ (by simp only[bG];omega)
  have e:rk (k+1)=rk k++if 0<K.hold k then [k]else []:=by
   show(List.range (k+1)).filter _=_
   rw[List.range_succ,List.filter_append]
   congr 1
   by_cases hp:0<K.hold k<;>simp[hp]
  refine hO.ho.ld (x:=((K.hold k:Nat):Int)) (bc hlt) (fun z hz=>List.mem_append_right _ (VB z hz)) ?_
  refine ae.kB (b:=0) (Br.dec (fun hp=>?_) (fun hp=>?_))
  ·rw[e,if_pos hp]at fin
   refine aW.nat (by simp[aB];omega) ?_
   have Hy:(rk k).length≤k:=by
    have:=List.length_filter_le (fun r=>decide (0<K.hold r)) (List.range k)
    rwa [List.length_range]at this
   refine av.int (e:=77) (by kernel_rfl) (by kernel_rfl) (by kernel_rfl) fun bx=>?_
   refine hN.oK (.cons .left) (by exact .head _) (by rw[ak];omega) (by rw[ak];omega) fun v' N' cI=>?_
   rw[cm]at fin
   exact JE.of .tail (fin v' N' cI)
  ·rw[e,if_neg hp,List.append_nil]at fin
   exact JE.mk (fin kF N hN)
 ·obtain rfl:k=K.ho.length:=by omega
  exact aA.here ⟨N,rfl,hN⟩
end
end Go.Proofs
namespace an
open Go.Sx
def AG(c:Nat→Nat→Nat):Nat→List Nat→Nat
 |_,[]=>0
 |a,v::o=>c a v+AG c (az a v true) o
def og(a:Nat)(o:List Nat):Nat:=o.foldl (fun a v=>az a v true) a
theorem yC(a:Nat)(o o':List Nat):og a (o++o')=og (og a o) o':=List.foldl_append ..
theorem tu(c:Nat→Nat→Nat):∀(o o':List Nat) (a:Nat),AG c a (o++o')=AG c a o+AG c (og a o) o'
 | [],o',a=>by simp[AG,og]
 |v::o,o',a=>by rw[List.cons_append,AG,tu c o o',AG,Nat.add_assoc];rfl
theorem oV:∀(o:List Nat) (a u:Nat),(og a o).testBit u=(a.testBit u||decide (u∈o))
 | [],a,u=>by simp[og]
 |v::o,a,u=>by
  show(og (az a v true) o).testBit u=_
  rw[oV o,aq]
  by_cases e:u=v
  ·simp[e]
  ·simp[e]
structure lE(n a:Nat)(o:List Nat):Prop where
 nd:o.Nodup
 mem:∀v,v∈o↔v∈bK n a
variable {n:Nat} {c:Nat→Nat→Nat}
theorem lE.nil{a:Nat}(h:lE n a []):bK n a=[]:=List.eq_nil_iff_forall_not_mem.2 fun v hv=>by simpa using(h.mem v).2 hv
theorem lE.tail{a v:Nat}{o:List Nat}(h:lE n a (v::o)):v∈bK n a∧lE n (az a v true) o:=by
 have h1:=List.nodup_cons.1 h.nd
 refine⟨(h.mem v).1 (by simp),h1.2,fun u=>?_⟩
 rw[cA,aq]
 have hu:=h.mem u
 rw[cA,List.mem_cons]at hu
 by_cases e:u=v
 ·subst e;simp[h1.1]
 ·simp only[e,false_or,if_false]at hu⊢;exact hu
theorem lE.cons{a v:Nat}{o:List Nat}(hv:v∈bK n a)(h:lE n (az a v true) o):lE n a (v::o):=by
 have hm:=h.mem
 refine⟨List.nodup_cons.2 ⟨fun hx=>?_,h.nd⟩,fun u=>?_⟩
 ·have:=(hm v).1 hx
  rw[cA,aq,if_pos rfl]at this
  exact absurd this.2 (by simp)
 ·rw[List.mem_cons,hm,cA,cA,aq]
  rw[cA]at hv
  by_cases e:u=v
  ·subst e;simp[hv]
  ·simp[e]
theorem Ap:∀(o:List Nat) (a:Nat),lE n a o→B n c a≤AG c a o
 | [],a,h=>by rw[Gq h.nil];exact Nat.zero_le _
 |v::o,a,h=>by
  obtain⟨h1,h2⟩:=h.tail
  exact Nat.le_trans (XY h1) (Nat.add_le_add_left (Ap o _ h2) _)
theorem Bi:∀(f a:Nat),(bK n a).length≤f→lE n a (ord n c f a)∧AG c a (ord n c f a)=B n c a
 |0,a,h=>by
  have hm:bK n a=[]:=List.eq_nil_of_length_eq_zero (by omega)
  rw[ord,Gq hm]
  exact⟨⟨by simp,fun v=>by rw[hm]⟩,rfl⟩
 |f+1,a,h=>by
  by_cases hm:bK n a=[]
  ·have:ord n c (f+1) a=[]:=by rw[ord,hm];rfl
   rw[this,Gq hm]
   exact⟨⟨by simp,fun v=>by rw[hm]⟩,rfl⟩
  ·obtain⟨v,hv,he,_,ho⟩:=sI (c:=c) (f:=f) hm
   have:=fS hv
   obtain⟨h1,h2⟩:=Bi f (az a v true) (by omega)
   rw[ho]
   exact⟨h1.cons hv,by rw[AG,h2,he]⟩
theorem mZ(n:Nat):bK n 0=List.range n:=by
 unfold bK;rw[List.filter_eq_self.2];simp
end an
namespace an
open Go.Sx
def NU(n:Nat)(l:Fs)(vs:List Nat):Fs:=vs.foldl (fun l v=>given n l v) l
theorem LM(A k:Nat):has (k+1) A=has k A++(if A.testBit k then [k]else []):=by
 unfold has;rw[List.range_succ,List.filter_append];congr 1;rw[List.filter_cons];simp
theorem sA(n:Nat)(l:Fs)(a b:List Nat):NU n l (a++b)=NU n (NU n l a) b:=List.foldl_append ..
theorem sC(n:Nat)(L:Fs)(A:Nat):∀k,st n L A k=NU n (g9 L) (has k A)
 |0=>rfl
 |k+1=>by
  rw[st,LM,sA,←sC n L A k]
  split<;>rfl
def Sm(a b:Fs):Prop:=∀x,x∈a↔x∈b
theorem Sm.trans{a b c:Fs}(h:Sm a b)(h':Sm b c):Sm a c:=fun x=>(h x).trans (h' x)
theorem Sm.symm{a b:Fs}(h:Sm a b):Sm b a:=fun x=>(h x).symm
theorem Sm.refl(a:Fs):Sm a a:=fun _=>Iff.rfl
def AF(n:Nat)(l:Fs):Prop:=∀t∈l,dj n t
variable {n:Nat}
theorem qT{a b:Fs}(h:Sm a b)(v:Nat):Sm (given n a v) (given n b v):=fun x=>by
 rw[bL,bL]
 constructor
 ·rintro⟨t,ht,h'⟩;exact⟨t,(h t).1 ht,h'⟩
 ·rintro⟨t,ht,h'⟩;exact⟨t,(h t).2 ht,h'⟩
theorem L4(hn:n≤16)(l:Fs)(v:Nat):AF n (given n l v):=fun t ht=>by
 obtain⟨u,_,b,rfl⟩:=bL.1 ht;exact cW hn
theorem zX{t:List Nat}{u v:Nat}{b c:Bool}(hf:dj n t)(hu:u<n)(hv:v<n)(h:u≠v):fu n (fu n t u b) v c=fu n (fu n t v c) u b:=
 (cW hf.pc).ext (cW hf.pc) fun x hx=>by
  rw[er (cW hf.pc) hv hx,er hf hu (fP hx hv),er (cW hf.pc) hu hx,er hf hv (fP hx hu),cF (Ne.symm h)]
theorem BM{l:Fs}{u v:Nat}(hl:AF n l)(hu:u<n)(hv:v<n)(h:u≠v):Sm (given n (given n l u) v) (given n (given n l v) u):=fun x=>by
 rw[bL,bL]
 constructor
 ·rintro⟨t,ht,c,rfl⟩
  obtain⟨s,hs,b,rfl⟩:=bL.1 ht
  exact⟨fu n s v c,bL.2 ⟨s,hs,c,rfl⟩,b,zX (hl s hs) hu hv h⟩
 ·rintro⟨t,ht,c,rfl⟩
  obtain⟨s,hs,b,rfl⟩:=bL.1 ht
  exact⟨fu n s u c,bL.2 ⟨s,hs,c,rfl⟩,b,zX (hl s hs) hv hu (Ne.symm h)⟩
theorem vj:∀(vs:List Nat) {a b:Fs},Sm a b→Sm (NU n a vs) (NU n b vs)
 | [],_,_,h=>h
 |v::vs,_,_,h=>vj vs (qT h v)
theorem Ko(hn:n≤16){vs vs':List Nat}(hp:vs.Perm vs'):(∀v∈vs,v<n)→∀l,AF n l→Sm (NU n l vs) (NU n l vs'):=by
 induction hp with
 |nil=>exact fun _ l _=>Sm.refl _
 |cons v _ ih=>exact fun h l hl=>ih (fun u hu=>h u (by simp[hu])) _ (L4 hn l v)
 |swap x y r=>
  intro h l hl
  by_cases e:x=y
  ·subst e;exact Sm.refl _
  ·exact vj r (BM hl (h y (by simp)) (h x (by simp)) (Ne.symm e))
 |trans rA _ ih1 ih2=>exact fun h l hl=>(ih1 h l hl).trans (ih2 (fun v hv=>h v (rA.mem_iff.2 hv)) l hl)
theorem vi:∀(vs:List Nat) {l:Fs},l.Nodup→(NU n l vs).Nodup
 | [],_,h=>h
 |v::vs,_,_=>vi vs (mu _ _ _)
theorem GJ{L:Fs}(h:AF n L):AF n (g9 L):=fun t ht=>h t (cv.1 ht)
theorem Bj{a b:Fs}(ha:a.Nodup)(hb:b.Nodup)(h:Sm a b)(v:Nat):(nodes n a v).length=(nodes n b v).length:=iV (eR ha hb h)
theorem vP(n a:Nat):(has n a).Nodup:=List.Pairwise.filter _ List.nodup_range
theorem SR{a v:Nat}(h:v∈has n a):v<n:=(pn.1 h).1
theorem LN{a v:Nat}(hv:v<n)(ha:a.testBit v=false):(has n (az a v true)).Perm (has n a++[v]):=by
 refine(List.perm_ext_iff_of_nodup (vP _ _) ?_).2 fun u=>?_
 ·rw[List.nodup_append]
  refine⟨vP _ _,by simp,fun x hx y hy=>?_⟩
  simp at hy;subst hy
  rintro rfl
  rw[(pn.1 hx).2]at ha;cases ha
 ·rw[pn,List.mem_append,List.mem_singleton,pn,aq]
  by_cases e:u=v
  ·subst e;simp[hv]
  ·simp[e]
theorem NW(hn:n≤16){L:Fs}(hL:AF n L){a v:Nat}(hv:v<n)(ha:a.testBit v=false):Sm (st n L (az a v true) n) (given n (st n L a n) v):=by
 rw[sC,sC]
 have h:=Ko hn (LN hv ha) (fun u hu=>SR hu) _ (GJ hL)
 rw[sA]at h
 exact h
variable {φ:List Nat→List Nat} {π:Nat→Nat}
def lay(n:Nat)(F:Nat→Nat):List Nat:=(List.range (wN n)).map fun i=>F i&&&dg n
def neg(n:Nat)(ws:List Nat):List Nat:=lay n fun i=>18446744073709551615-ws.getD i 0
end an
namespace aE
open an
section
variable {n:Nat} {ord:List Nat} {L:an.Fs}
theorem A8(a:Nat)(o:List Nat)(v:Nat):og a (o++[v])=az (og a o) v true:=by rw[yC];rfl
theorem Ml(hn:n≤16)(hL:∀t∈L,dj n t)(hp:ord.Perm (List.range n)):∀k,k≤n→Sm (cur n ord L k) (st n L (og 0 (ord.take k)) n)
 |0,_=>by
  have e:st n L (og 0 (ord.take 0)) n=g9 L:=by
   rw[sC]
   have:has n (og 0 (ord.take 0))=[]:=by
    show has n 0=[]
    rw[List.eq_nil_iff_forall_not_mem]
    intro v hv
    have:=(pn.1 hv).2
    rw[Nat.zero_testBit]at this;cases this
   rw[this];rfl
  rw[e];exact .refl _
 |k+1,hk=>by
  have vL:ord.length=n:=by rw[hp.length_eq,List.length_range]
  have g7:ord.Nodup:=hp.nodup_iff.2 List.nodup_range
  have hlt:k<ord.length:=by omega
  have hv:ord[k]<n:=List.mem_range.1 (hp.mem_iff.1 (List.getElem_mem hlt))
  have hg:ord.getD k 0=ord[k]:=by rw[List.getD_eq_getElem?_getD,List.getElem?_eq_getElem hlt];rfl
  have ht:ord.take (k+1)=ord.take k++[ord[k]]:=List.take_succ_eq_append_getElem hlt
  have hno:ord[k]∉ord.take k:=fun hm=>by
   have h2:(ord.take (k+1)).Nodup:=g7.sublist (List.take_sublist _ _)
   rw[ht]at h2
   exact(List.nodup_append.1 h2).2.2 _ hm _ (by simp) rfl
  have hb:(og 0 (ord.take k)).testBit ord[k]=false:=by
   rw[oV,Nat.zero_testBit,decide_eq_false hno];rfl
  rw[ht,A8]
  refine Sm.trans ?_ (Sm.symm (NW hn hL hv hb))
  rw[cur,hg]
  exact qT (Ml hn hL hp k (by omega)) _
theorem Ot(hn:n≤16)(hL:∀t∈L,dj n t)(hp:ord.Perm (List.range n)){k:Nat}(hk:k≤n)(v:Nat):(nodes n (cur n ord L k) v).length=lvl n L (og 0 (ord.take k)) v:=by
 unfold lvl
 refine Bj (j4 k) ?_ (Ml hn hL hp k hk) v
 rw[sC];exact vi _ (fM _)
theorem zR(hn:n≤16)(hL:∀t∈L,dj n t)(hp:ord.Perm (List.range n)):∀k,k≤n→AG (lvl n L) 0 (ord.take k)=dA n ord L k
 |0,_=>rfl
 |k+1,hk=>by
  have vL:ord.length=n:=by rw[hp.length_eq,List.length_range]
  have hlt:k<ord.length:=by omega
  have hg:ord.getD k 0=ord[k]:=by rw[List.getD_eq_getElem?_getD,List.getElem?_eq_getElem hlt];rfl
  rw[List.take_succ_eq_append_getElem hlt,tu,zR hn hL hp k (by omega),dA]
  congr 1
  unfold jl
  rw[Ot hn hL hp (by omega),hg]
  simp[AG]
theorem vX(hn:n≤16)(hL:∀t∈L,dj n t)(hp:ord.Perm (List.range n)):AG (lvl n L) 0 ord=dA n ord L n:=by
 have vL:ord.length=n:=by rw[hp.length_eq,List.length_range]
 rw[←zR hn hL hp n (Nat.le_refl n),←vL,List.take_length]
theorem Bw(hp:ord.Perm (List.range n)):lE n 0 ord:=⟨hp.nodup_iff.2 List.nodup_range,fun v=>by rw[mZ];exact hp.mem_iff⟩
theorem Bh(h:lE n 0 ord):ord.Perm (List.range n):=by
 refine(List.perm_ext_iff_of_nodup h.nd List.nodup_range).2 fun v=>?_
 rw[h.mem,mZ]
theorem qz(c:Nat→Nat→Nat):(an.ord n c n 0).Perm (List.range n):=Bh (Bi n 0 (by rw[mZ,List.length_range];exact Nat.le_refl n)).1
theorem qy(hn:n≤16)(hL:∀t∈L,dj n t):dA n (an.ord n (lvl n L) n 0) L n=B n (lvl n L) 0:=by
 rw[←vX hn hL (qz _)]
 exact(Bi n 0 (by rw[mZ,List.length_range];exact Nat.le_refl n)).2
theorem PE(hn:n≤16)(hL:∀t∈L,dj n t)(hp:ord.Perm (List.range n)):B n (lvl n L) 0≤dA n ord L n:=by
 rw[←vX hn hL hp]
 exact Ap ord 0 (Bw hp)
end
end aE
set_option maxRecDepth 100000
namespace Go.Proofs
open Go Go.Sx
open aE
section
variable {kp:Nat} {K:Kd} {S:Nat→aE.Fn} {ord tr:List Nat} {C:Hp}
theorem sD{n:Nat}{o:List Nat}:∀k,dA n o [] k=0:=by
  have hc:∀k,cur n o [] k=[]:=fun k=>by
    induction k with
    |zero=>rfl
    |succ k ih=>rw[cur,ih];rfl
  intro k
  induction k with
  |zero=>rfl
  |succ k ih=>rw[dA,ih];unfold jl;rw[hc];rfl
theorem A6{B:Hp}{v:Value}{n:Nat}{f:aE.Fn}(h:cJ B v n f):∃s ws,v=.agg #[.int .i64 (n:Int),s]∧Words B s ws∧an.dj n ws∧eX n ws=f:=by
  obtain⟨ws,⟨s,rfl,hw⟩,hf,he⟩:=h
  exact⟨s,ws,rfl,hw,hf,he⟩
def Xm(kp:Nat)(K:Kd)(S:Nat→aE.Fn)(ord tr:List Nat)(v:Value)(H:Hp):Prop:=
  ∃L:an.Fs,(∀t∈L,an.dj K.n t)∧K.held S=FT K.n L∧L.length≤1048576∧
   ((gm K S ord=an.B K.n (an.lvl K.n L) 0∧v=.tuple #[.agg #[.int .i64 ((gm K S ord:Nat):Int),.int .i64 ((gm K S ord:Nat):Int),.int .i64 0,.bool true],.int .i64 0]∧At kp K S ord tr H)∨
    (gm K S ord≠an.B K.n (an.lvl K.n L) 0∧∃o ls,o=an.ord K.n (an.lvl K.n L) K.n 0∧ls=path ord o∧
     (((rm K S).can ord ls=true∧v=.tuple #[.agg #[.int .i64 ((gm K S ord:Nat):Int),.int .i64 ((gm K S o:Nat):Int),.int .i64 ((ls.length:Nat):Int),.bool true],.int .i64 0]∧At kp K S o (tr++ls) H)∨
      ((rm K S).can ord ls=false∧v=.tuple #[.agg #[.int .i64 ((gm K S ord:Nat):Int),.int .i64 ((gm K S ord:Nat):Int),.int .i64 ((2*((rm K S).dH 0 ls ord).length:Nat):Int),.bool false],.int .i64 0]∧At kp K S ord tr H))))
theorem EU(h:At kp K S ord tr C)(hp:ord.Perm (List.range K.n))(hn:K.n≤12)(qR:tr.length<274877906944):
    Fc Tryz.prog 25 #[ptr kp] C (fun v H=>Xm kp K S ord tr v H):=by
  have h0:=h
  obtain⟨K',S',dL,hK,hk⟩:=h
  have LV:=hk.n
  have fJ:∀r,K'.hold r≠0→live K'.N r:=fun r hr=>(.inr (hK.ok.mid.held r hr))
  have hcap:=hK.ok.mid.cap
  have hle:=hK.ju
  have Hy:(rts K').length≤1048576:=by
    obtain⟨b,_,hO⟩:=hK.rep
    have:=hO.ul
    have h2:=List.length_filter_le (fun r=>decide (0<K'.hold r)) (List.range K'.ho.length)
    rw[List.length_range]at h2
    show(List.filter _ _).length≤_
    omega
  have OK:∀r,r∈rts K'↔K'.hold r≠0:=fun r=>by
    unfold rts
    rw[List.mem_filter,List.mem_range,decide_eq_true_iff]
    constructor
    · rintro⟨_,h⟩;omega
    · intro h
      refine⟨Classical.byContradiction fun h2=>h ?_,by omega⟩
      unfold Kd.hold
      rw[List.getD_eq_getElem?_getD,List.getElem?_eq_none (by omega)];rfl
  intro g
  refine IM (R:=aA _) ?_
  unfold L25
  intro b1 _
  refine ae.bJ (Br.no ?_)
  refine af.rd (.cons .here) (F5 h0) ?_
  rintro w rfl
  refine ae.kB (b:=12) (Br.bt (by omega) ?_)
  refine af.fn (.cons .here) (GY hK) ?_
  rintro vr H ⟨NR,rfl,hR⟩
  have SY:cT .u32 NR vr (iw (rts K')):=hR.ints
  refine hR.bC ?_
  rw[ak]
  refine⟨fun vs H=>∃(i:Nat) (s:Value) (L:an.Fs) (CS N:Hp),vs=[s,.int .i64 (i:Int)]∧i≤(rts K').length∧H=(b1,.cells #[.int .i64 0,.int .i64 0,.int .i64 0,.bool false] 42 (0,0))::(CS++(N++C))∧(∀x∈NR,x∈N)∧pQ 57 s (GM K'.n L) CS N∧L.length=i∧(∀t∈L,an.dj K'.n t)∧∀j t,L[j]? =some t→∃r,(rts K')[j]? =some r∧eX K'.n t=S' r,
    fun vs _=>(rts K').length-bG vs 1,JE.mk ⟨0,_,[],[],NR,rfl,Nat.zero_le _,rfl,fun _ h=>h,pQ.nil,rfl,fun t ht=>absurd ht (List.not_mem_nil),fun j t (hj:([]:List (List Nat))[j]? =some t)=>absurd hj (by rw[List.getElem?_nil];exact nofun)⟩,?_⟩
  rintro nN yl H ⟨i,s,L,CS,N,hv,hi,rfl,hN,hT,Ux,AD,Yy⟩ gs
  simp only[List.cons.injEq,and_true]at hv
  obtain⟨rfl,rfl⟩:=hv
  refine ae.eA (Br.dec (fun hlt=>?_) (fun hge=>?_))
  · refine SY.ld (n:=(((rts K')[i]:Nat):Int)) (cr (List.getElem?_eq_getElem hlt)) (fun x hx=>.tail _ (List.mem_append_right _ (List.mem_append_left _ (hN x hx)))) ?_
    refine af.fn (args:=#[ptr kp,u32 (rts K')[i]]) (.cons (.app (.app .here))) (HX hK (by omega) (fJ _ ((OK _).1 (List.getElem_mem hlt)))) ?_
    rintro w H ⟨Nt,t,rfl,rfl,ht⟩
    obtain⟨sw,ws,rfl,hw,hf,he⟩:=A6 ht
    refine Ext.mk rfl (Ext.mk rfl ?_)
    intro YF _
    refine St.whole (r:=[.int .i64 (K'.n:Int),sw]) (by exact .head _) rfl rfl (cH (aH hw)) ?_
    refine aC.whole (r:=[.int .i64 (K'.n:Int),sw]) (by exact .head _) rfl ?_
    refine j6 fun pN=>?_
    have hT':pQ 57 nN (GM K'.n L) CS (N++Nt):=hT.mono fun _ h=>List.mem_append_left _ h
    refine pQ.app hT' (A:=[(pN,_),(YF,_),(b1,_)]) (B:=N++(Nt++C)) (t:=⟨(K'.n:Int),ws⟩) (by exact .head _) (hw.mono fun _ h=>List.mem_append_right _ h) (by rw[ob];omega) fun v' CS' Ww=>?_
    refine ae.aL (b:=1) (by simp[aB];omega) ?_
    refine aD.of (.skip .tail) ⟨i+1,v',L++[ws],CS',N++Nt,rfl,hlt,by rw[List.append_assoc];rfl,fun x hx=>List.mem_append_left _ (hN x hx),by unfold GM at Ww⊢;rw[List.map_append];exact Ww,by rw[List.length_append,Ux];rfl,fun t ht=>?_,fun j t hj=>?_⟩ (by simp only[bG];omega)
    · rcases List.mem_append.1 ht with ht|ht
      · exact AD t ht
      · rw[List.mem_singleton.1 ht];exact hf
    · by_cases SC:j<L.length
      · rw[List.getElem?_append_left SC]at hj
        exact Yy j t hj
      · rw[List.getElem?_append_right (by omega)]at hj
        have:j=i:=by
          have:=(List.getElem?_eq_some_iff.1 hj).1
          rw[List.length_singleton]at this;omega
        subst this
        rw[Ux,Nat.sub_self]at hj
        simp at hj
        subst hj
        exact⟨_,List.getElem?_eq_getElem hlt,he⟩
  have hi':i=(rts K').length:=by omega
  subst hi'
  rw[LV]at hT AD Yy
  have vN:K.held S=FT K.n L:=by
    refine funext fun g=>propext ?_
    rw[←hk.held g]
    constructor
    · rintro⟨r,hr,rfl⟩
      obtain⟨j,hj,e⟩:=List.mem_iff_getElem.1 ((OK r).2 hr)
      obtain⟨r2,uk,he⟩:=Yy j L[j] (List.getElem?_eq_getElem (by omega))
      rw[List.getElem?_eq_getElem hj,e]at uk
      cases uk
      exact⟨L[j],List.getElem_mem _,he.symm⟩
    · rintro⟨t,ht,rfl⟩
      obtain⟨j,hj,e⟩:=List.mem_iff_getElem.1 ht
      obtain⟨r2,uk,he⟩:=Yy j t (by rw[List.getElem?_eq_getElem hj,e])
      exact⟨r2,(OK r2).1 (List.mem_of_getElem? uk),he⟩
  have hlt:=rO hp
  have hkz:gm K S ord=dA K.n ord L K.n:=by
    unfold gm;rw[vN];exact Kg AD (by omega) hlt
  have LU:L.length≤1048576:=by omega
  refine af.rd (.cons (.app (.app .here))) (pO h0) ?_
  rintro w rfl
  have hTb:eL (CS++N) nN (GM K.n L):=hT.Zi (fun _ h=>List.mem_append_left _ h) (fun _ h=>List.mem_append_right _ h)
  rw[←List.append_assoc]
  refine af.px (.cons .left) (PD hTb (by rw[ob];omega)) ?_
  intro w NB hB
  obtain⟨so,Y,hY,rfl,hI⟩:∃so Y,NB++(CS++N)=Y∧w=.tuple #[.int .i64 ((an.B K.n (an.lvl K.n L) 0:Nat):Int),so,.int .i64 0]∧(L≠[]→cT .i64 Y so (iw (an.ord K.n (an.lvl K.n L) K.n 0))):=by
    have hO:pR (GM K.n L):=sK AD
    rcases hB with⟨hno,_⟩|⟨_,n2,L2,e,hz,_,HD,hB⟩
    · exact absurd hO hno
    by_cases iN:L=[]
    · subst iN
      have hL2:L2=[]:=by cases L2 with
        |nil=>rfl
        |cons a b=>simp[GM]at e
      subst hL2
      obtain rfl:=hz rfl
      have hB0:an.B K.n (an.lvl K.n []) 0=0:=by rw[←qy (by omega) (by simp)];exact sD _
      rcases hB with⟨h,_⟩|⟨_,s2,C2,N2,rfl,_,_⟩
      · omega
      exact⟨s2,_,rfl,by rw[hB0];rfl,fun h=>absurd rfl h⟩
    · have OM:n2=K.n∧L2=L:=by
        cases L with
        |nil=>exact absurd rfl iN
        |cons a b=>
          cases L2 with
          |nil=>simp[GM]at e
          |cons a2 b2=>
            simp only[GM,List.map_cons,List.cons.injEq,Tb.mk.injEq]at e
            obtain⟨⟨e1,e2⟩,e3⟩:=e
            have e1:n2=K.n:=by omega
            subst e1
            refine⟨rfl,?_⟩
            rw[e2]
            congr 1
            refine((List.map_inj_right (f:=fun ws=>(⟨(K.n:Int),ws⟩:Tb)) ?_).1 e3).symm
            intro x y hxy
            simpa using hxy
      obtain⟨rfl,rfl⟩:=OM
      rcases hB with⟨h,_⟩|⟨_,s2,C2,N2,rfl,hown,hH⟩
      · omega
      exact⟨s2,_,rfl,rfl,fun _=>by rw[hH];exact hown.ints.mono fun _ h=>List.mem_append_left _ h⟩
  rw[hY]
  clear hB
  refine Ext.mk rfl (Ext.mk rfl (Ext.mk rfl ?_))
  refine ae.eB (Br.dec (fun heq=>?_) (fun hne=>?_))
  · refine Build.mk (cs:=[.int .i64 ((gm K S ord:Nat):Int),.int .i64 ((gm K S ord:Nat):Int),.int .i64 0,.bool true]) (by kernel_rfl) ?_
    refine St.whole (r:=[.int .i64 ((gm K S ord:Nat):Int),.int .i64 ((gm K S ord:Nat):Int),.int .i64 0,.bool true]) (by exact .head _) rfl rfl (by simp[Value.oneCell']) ?_
    refine aC.whole (r:=[.int .i64 ((gm K S ord:Nat):Int),.int .i64 ((gm K S ord:Nat):Int),.int .i64 0,.bool true]) (by exact .head _) rfl ?_
    exact aA.mk (.skip .right) ⟨L,AD,vN,LU,.inl ⟨heq,rfl,h0⟩⟩
  · have iN:L≠[]:=fun e=>by
      subst e
      refine hne ?_
      rw[hkz,←qy (by omega) (by simp),sD,sD]
    obtain⟨o,ho⟩:∃o,o=an.ord K.n (an.lvl K.n L) K.n 0:=⟨_,rfl⟩
    have hop:o.Perm (List.range K.n):=by rw[ho];exact qz _
    have hIo:=hI iN
    rw[←ho]at hIo
    refine af.fn (.cons .here) (KB h0 hIo hp hop (by omega)) ?_
    rintro w H ⟨C2,rfl,hM⟩
    have So:=(wW (hop.nodup_iff.2 List.nodup_range) (hp.trans hop.symm)).1
    rcases hM with⟨hc,rfl,hA⟩|⟨hc,rfl,hA⟩
    · rw[So]at hA
      refine Ext.mk rfl (Ext.mk rfl ?_)
      refine af.rd (.cons (.app .here)) (pO hA) ?_
      rintro w rfl
      refine ae.jF ?_
      rw[decide_eq_true rfl]
      refine Build.mk (cs:=[.int .i64 ((gm K S ord:Nat):Int),.int .i64 ((gm K S o:Nat):Int),.int .i64 (((path ord o).length:Nat):Int),.bool true]) (by kernel_rfl) ?_
      refine St.whole (r:=[.int .i64 ((gm K S ord:Nat):Int),.int .i64 ((gm K S o:Nat):Int),.int .i64 (((path ord o).length:Nat):Int),.bool true]) (by exact .head _) rfl rfl (by simp[Value.oneCell']) ?_
      refine aC.whole (r:=[.int .i64 ((gm K S ord:Nat):Int),.int .i64 ((gm K S o:Nat):Int),.int .i64 (((path ord o).length:Nat):Int),.bool true]) (by exact .head _) rfl ?_
      exact aA.mk (.skip .right) ⟨L,AD,vN,LU,.inr ⟨hne,o,_,ho,rfl,.inl ⟨hc,rfl,hA⟩⟩⟩
    · refine Ext.mk rfl (Ext.mk rfl ?_)
      refine af.rd (.cons (.app .here)) (pO hA) ?_
      rintro w rfl
      refine ae.jF ?_
      rw[decide_eq_false (by decide)]
      refine Build.mk (cs:=[.int .i64 ((gm K S ord:Nat):Int),.int .i64 ((gm K S ord:Nat):Int),.int .i64 ((2*((rm K S).dH 0 (path ord o) ord).length:Nat):Int),.bool false]) (by kernel_rfl) ?_
      refine St.whole (r:=[.int .i64 ((gm K S ord:Nat):Int),.int .i64 ((gm K S ord:Nat):Int),.int .i64 ((2*((rm K S).dH 0 (path ord o) ord).length:Nat):Int),.bool false]) (by exact .head _) rfl rfl (by simp[Value.oneCell']) ?_
      refine aC.whole (r:=[.int .i64 ((gm K S ord:Nat):Int),.int .i64 ((gm K S ord:Nat):Int),.int .i64 ((2*((rm K S).dH 0 (path ord o) ord).length:Nat):Int),.bool false]) (by exact .head _) rfl ?_
      exact aA.mk (.skip .right) ⟨L,AD,vN,LU,.inr ⟨hne,o,_,ho,rfl,.inr ⟨hc,rfl,hA⟩⟩⟩
end
end Go.Proofs
set_option maxRecDepth 100000
namespace Go.Proofs
open Go Go.Sx
open aE
section
variable {kp:Nat} {K:Kd} {S:Nat→aE.Fn} {ord tr:List Nat} {C:Hp}
theorem GN{n s:Nat}(hn:1≤n∧n≤64)(hs:s≤1048576):Rd Tryz.prog 40 #[.int .i64 (n:Int),.int .i64 (s:Int),.int .u8 6] C (· =.tuple #[.int .i64 ((n*(n-1):Nat):Int),.int .i64 0]):=by
 intro g
 refine II (R:=aA _) ?_
 unfold L40
 have Yj:n*(n-1)≤64*64:=Nat.mul_le_mul hn.2 (by omega)
 refine ae.eA (b:=1) ?_
 rw[decide_eq_false (by omega)]
 refine bT.or (a:=false) false (fun _=>ae.kB (b:=64) ⟨rfl,by simp;omega⟩) rfl fun _=>?_
 refine bT.or (a:=false) false (fun _=>ae.eA (b:=0) ⟨rfl,by simp⟩) rfl fun _=>?_
 refine bT.or (a:=false) false (fun _=>ae.kB (b:=1048576) ⟨rfl,by simp;omega⟩) rfl fun _=>?_
 refine bT.or (a:=false) false (fun _=>ae.kB (a:=6) (b:=6) ⟨rfl,by simp⟩) rfl fun _=>Br.no ?_
 refine ae.eB (a:=6) (b:=1) (Br.no ?_)
 refine ae.eB (a:=6) (b:=2) (Br.no ?_)
 intro XK h24
 refine ae.eB (a:=6) (b:=3) (Br.no ?_)
 refine ae.eB (a:=6) (b:=4) (Br.no ?_)
 refine ae.eB (a:=6) (b:=5) ?_
 refine JE.mk (h24 _ _ fun _=>Br.no ?_)
 refine ae.eB (a:=6) (b:=6) (Br.yes ?_)
 refine ae.bH (b:=1) (by simp[aB];omega) (by omega) ?_
 refine ae.uN (by simp[aB];omega) ?_
 exact cz.mk (.refl _) rfl
theorem sH{p q:List Nat}(hq:q.Nodup)(hp:p.Perm q):∀i,i≤q.length→(dP p q i).length≤i*(p.length-1)
 |0,_=>by simp[dP]
 |i+1,hi=>by
  have:=sH hq hp i (by omega)
  obtain⟨_,_,h3⟩:=iT hq hp i (by omega)
  rw[dP,List.length_append,xM,Nat.succ_mul]
  have:=(h3 (by omega)).2
  omega
def abP(kp:Nat)(K:Kd)(S:Nat→aE.Fn)(ord tr:List Nat)(v:Value)(H:Hp):Prop:=
 ∃o ls,o.Perm (List.range K.n)∧v=.tuple #[.agg #[.int .i64 ((gm K S ord:Nat):Int),.int .i64 ((gm K S o:Nat):Int),.int .i64 ((ls.length:Nat):Int),.bool true],.int .i64 0]∧At kp K S o (tr++ls) H∧(∀p:List Nat,p.Perm (List.range K.n)→gm K S o≤gm K S p)∧ls.length≤K.n*(K.n-1)∧((∀p:List Nat,p.Perm (List.range K.n)→gm K S ord≤gm K S p)→o=ord∧ls=[])
theorem U7{v:Value}{H:Hp}(h:Xm kp K S ord tr v H)(hn:K.n≤12)(hp:ord.Perm (List.range K.n))(hcan:∀ls:List Nat,(∀x∈ls,x+1<K.n)→(rm K S).can ord ls=true):abP kp K S ord tr v H:=by
 obtain⟨L,AD,vN,LU,hQ⟩:=h
 have hk:∀p:List Nat,p.Perm (List.range K.n)→gm K S p=dA K.n p L K.n:=fun p hp=>by
  unfold gm;rw[vN];exact Kg AD (by omega) (rO hp)
 have hB:∀p:List Nat,p.Perm (List.range K.n)→an.B K.n (an.lvl K.n L) 0≤gm K S p:=fun p hp=>by
  rw[hk p hp];exact PE (by omega) AD hp
 rcases hQ with⟨e,rfl,hA⟩|⟨hne,o,ls,ho,hls,hQ⟩
 ·exact⟨ord,[],hp,rfl,by rw[List.append_nil];exact hA,fun p hp=>by rw[e];exact hB p hp,Nat.zero_le _,fun _=>⟨rfl,rfl⟩⟩
 have hop:o.Perm (List.range K.n):=by rw[ho];exact qz _
 have hoB:gm K S o=an.B K.n (an.lvl K.n L) 0:=by rw[hk o hop,ho];exact qy (by omega) AD
 have VQ:o.Nodup:=hop.nodup_iff.2 List.nodup_range
 have vL:o.length=K.n:=by rw[hop.length_eq,List.length_range]
 have hdl:ord.length=K.n:=by rw[hp.length_eq,List.length_range]
 obtain⟨_,Ui⟩:=wW VQ (hp.trans hop.symm)
 have hc:(rm K S).can ord ls=true:=hcan ls fun x hx=>by rw[hls]at hx;have:=Ui x hx;omega
 rcases hQ with⟨_,rfl,hA⟩|⟨hc2,_⟩
 ·refine⟨o,ls,hop,rfl,hA,fun p hp=>by rw[hoB];exact hB p hp,?_,fun hl=>?_⟩
  ·have:=sH VQ (hp.trans hop.symm) o.length (Nat.le_refl _)
   rw[hls]
   unfold path
   rw[vL,hdl]at this
   rw[vL];exact this
  ·have h1:=hl o hop
   have h2:=hB ord hp
   exact absurd (by omega) hne
 ·rw[hc]at hc2;cases hc2
end
section
variable {Y:Hp}
theorem r5{a:Nat}{sv oB:Value}{ops:List ur}{l:List Nat}(ha:a<256)(hs:Sl 6 Y sv (ops.map ur.cells))(ho:∀o∈ops,o.Ok)(bQ:ops.length<9223372036854775808)(hl:cT .u8 Y oB (iw l))(h8:∀x∈l,x<256)(Ul:l.length<9223372036854775808)(hYn:(Y.map Prod.fst).Nodup):
  Rd Tryz.prog 10 #[.int .u8 (a:Int),sv,oB] Y (· =.bool true):=by
 intro g
 refine IV (R:=aA _) ?_
 unfold L10
 refine aW.nat (by simp[aB];omega) ?_
 refine ae.ry (b:=6) (by decide) ?_
 have hn6:=Nat.mod_lt a (show 0<6 by decide)
 refine ae.aL (a:=1) (by simp[aB];omega) ?_
 obtain⟨n,hn⟩:∃n,n=1+a%6:=⟨_,rfl⟩
 rw[←hn]
 refine af.fn .here (L0 (n:=n) ⟨by omega,by omega⟩ hs ho bQ) ?_
 intro w H jj
 obtain⟨gb,kp,K,S,refs,fs,vr,vf,Z0,C0,rfl,rfl,hYZ,Hv,hg,Te,rfl,hcap,Fz,uk⟩:=jj.gz
 have WJ:1≤K.n:=by omega
 have WI:K.n≤6:=by omega
 have hne:refs≠[]:=fun e=>by rw[e]at Fz;simp at Fz;omega
 have hs0:=B6 Te
 have hcan:∀o:List Nat,o.Perm (List.range K.n)→∀ls:List Nat,(∀x∈ls,x+1<K.n)→(rm K S).can o ls=true:=fun o hp ls h=>PA hg WI WJ hcap (by omega) hp h
 obtain⟨o0,ho0⟩:∃o,o=List.range K.n:=⟨_,rfl⟩
 have BC:o0.Perm (List.range K.n):=by rw[ho0]
 rw[←ho0]at Te
 rw[←ho0]at hs0
 refine ae.bJ (Br.no ?_)
 refine Nil.ptr (aa.mk (Ld.mk (v:=ptr kp) (by exact List.mem_append_left _ Hv.cell) rfl ?_))
 refine af.rd (.app .here) (pO Te) ?_
 rintro w rfl
 refine Nil.ptr (aa.mk (Ld.mk (v:=ptr kp) (by exact List.mem_append_left _ Hv.cell) rfl ?_))
 refine af.fn (.app .here) (EU Te BC (by omega) (by simp)) ?_
 intro w C1 hQ
 obtain⟨o1,X7,rA,rfl,Jk,hmin,yb,_⟩:=U7 hQ (by omega) BC (hcan o0 BC)
 have ZX:(([]:List Nat)++X7).length≤36:=by
  have:K.n*(K.n-1)≤6*5:=Nat.mul_le_mul WI (by omega)
  simp;omega
 refine Ext.mk rfl (Ext.mk rfl ?_)
 intro kX _
 refine St.whole (r:=[.int .i64 ((gm K S o0:Nat):Int),.int .i64 ((gm K S o1:Nat):Int),.int .i64 ((X7.length:Nat):Int),.bool true]) (by exact .head _) rfl rfl (by simp[Value.oneCell']) ?_
 obtain⟨PB,Wk⟩:∃c:Nat×Obj,c=(kX,Obj.cells (List.toArray [.int .i64 ((gm K S o0:Nat):Int),.int .i64 ((gm K S o1:Nat):Int),.int .i64 ((X7.length:Nat):Int),.bool true]) 42 (0,0)):=⟨_,rfl⟩
 rw[←Wk,←List.cons_append]
 have Qq:GZ gb kp K.n vr vf refs fs (PB::Z0):=Hv.mono fun _ h=>.tail _ h
 have pC:PB∈PB::Z0:=.head _
 have SV:∀y∈Y,y∈PB::Z0:=fun y hy=>.tail _ (hYZ y hy)
 generalize PB::Z0=Z1 at*
 clear Hv hYZ
 refine af.fn .here (GL (n:=K.n) (by omega) (B:=Z1++C1) (hl.mono fun _ h=>List.mem_append_left _ (SV _ h)) h8 Ul) ?_
 rintro w H ⟨p,N,rfl,hp,hN⟩
 rw[←List.append_assoc]
 have Fx:GZ gb kp K.n vr vf refs fs (N++Z1):=Qq.mono fun _ h=>List.mem_append_right _ h
 have hv7:cT .i64 (N++Z1) w (iw p):=hN.ints.mono fun _ h=>List.mem_append_left _ h
 have pC:PB∈N++Z1:=List.mem_append_right _ pC
 have Wu:∀y∈Y,y∈N++Z1:=fun y hy=>List.mem_append_right _ (SV y hy)
 generalize N++Z1=Z2 at*
 clear hN Qq SV
 have rS:p.length=K.n:=by rw[hp.length_eq,List.length_range]
 have hfl:=hg.len
 have SI:fs≠[]:=fun e=>by rw[e]at hfl;exact hne (List.eq_nil_of_length_eq_zero hfl)
 refine Nil.ptr (aa.mk (Ld.mk (v:=vf) (by exact List.mem_append_left _ Fx.cell) rfl ?_))
 refine af.px .here (Fa (B:=Z2++C1) (n:=K.n) (L:=fs) (ord:=p) (Fx.fn.mono fun _ h=>List.mem_append_left _ h) hg.nI SI (by omega) (hv7.mono fun _ h=>List.mem_append_left _ h) rS (tI hp)) ?_
 rintro w N3 rfl
 rw[←List.append_assoc]
 have Vs:GZ gb kp K.n vr vf refs fs (N3++Z2):=Fx.mono fun _ h=>List.mem_append_right _ h
 have pC:PB∈N3++Z2:=List.mem_append_right _ pC
 have SU:∀y∈Y,y∈N3++Z2:=fun y hy=>List.mem_append_right _ (Wu y hy)
 generalize N3++Z2=Z3 at*
 clear Fx Wu
 have hkp:gm K S p=dA K.n p fs K.n:=by
  unfold gm;rw[show K.held S=FT K.n fs from funext fun g=>propext (hg.held g)];exact Kg hg.nI (by omega) (rO hp)
 rw[←hkp]
 have h1p:=hmin p hp
 have h10:=hmin o0 BC
 refine Ext.mk rfl (Ext.mk rfl ?_)
 have ld:∀{kk:Value→Prop} {Zx Cx:Hp} {i:Nat} {v:Value},PB∈Zx→[Value.int .i64 ((gm K S o0:Nat):Int),.int .i64 ((gm K S o1:Nat):Int),.int .i64 ((X7.length:Nat):Int),.bool true][i]? =some v→kk v→Ld (Zx++Cx) (.pointer (some ⟨kX,i,none⟩)) kk:=fun h hi hk=>Ld.mk (by exact List.mem_append_left _ (Wk▸h)) (by simpa using hi) hk
 intro yf h31
 have good:∀N7:Hp,yf [.bool false] (N7++(Z3++C1)):=by
  intro N7
  rw[←List.append_assoc]
  have Vs:GZ gb kp K.n vr vf refs fs (N7++Z3):=Vs.mono fun _ h=>List.mem_append_right _ h
  have pC:PB∈N7++Z3:=List.mem_append_right _ pC
  have SU:∀y∈Y,y∈N7++Z3:=fun y hy=>List.mem_append_right _ (SU y hy)
  generalize N7++Z3=Z3 at*
  refine h31 _ _ fun gs=>Br.no ?_
  refine Nil.ptr (aa.mk (Ld.mk (v:=ptr kp) (by exact List.mem_append_left _ Vs.cell) rfl ?_))
  refine af.fn (.app .here) (EU Jk rA (by omega) (by simp at ZX⊢;omega)) ?_
  intro w C2 hQ
  obtain⟨o2,ls2,nj,rfl,FL,_,_,hst⟩:=U7 hQ (by omega) rA (hcan o1 rA)
  obtain⟨rfl,rfl⟩:=hst hmin
  refine Ext.mk rfl (Ext.mk rfl ?_)
  intro Xc _
  refine St.whole (r:=[.int .i64 ((gm K S o2:Nat):Int),.int .i64 ((gm K S o2:Nat):Int),.int .i64 ((([]:List Nat).length:Nat):Int),.bool true]) (by exact .head _) rfl rfl (by simp[Value.oneCell']) ?_
  refine af.rd .here (GN (n:=K.n) ⟨WJ,by omega⟩ (s:=gm K S o0) (by omega)) ?_
  rintro w rfl
  refine Ext.mk rfl (Ext.mk rfl ?_)
  refine ae.jF ?_
  rw[decide_eq_true rfl]
  refine bT.and (a:=true) true (fun _=>ae.jF ⟨rfl,rfl⟩) rfl fun _=>?_
  refine bT.and (a:=true) true (fun _=>?_) rfl fun _=>?_
  ·refine aa.mk (Ld.mk (by exact .head _) rfl ?_)
   exact ae.jF ⟨rfl,rfl⟩
  refine bT.and (a:=true) true (fun _=>?_) rfl fun _=>?_
  ·refine aa.mk (Ld.mk (by exact .head _) rfl ?_)
   exact⟨rfl,rfl⟩
  refine bT.and (a:=true) true (fun _=>?_) rfl fun _=>?_
  ·refine aa.mk (Ld.mk (by exact .head _) rfl ?_)
   rw[←List.cons_append]
   refine aa.mk (ld (.tail _ pC) rfl ?_)
   exact ae.eB ⟨rfl,by simp⟩
  refine bT.and (a:=true) true (fun _=>?_) rfl fun _=>?_
  ·rw[←List.cons_append]
   refine aa.mk (ld (.tail _ pC) rfl ?_)
   exact ae.Bp ⟨rfl,by simp;exact yb⟩
  exact cz.mk (.sub hYn fun x hx=>.tail _ (List.mem_append_left _ (SU x hx))) rfl
 refine DR.self ?_
 refine ae.dO (Br.bt (by simp) ?_)
 refine ae.dO (aF.mk (Br.RL (by simp) ?_))
 refine aa.mk (ld pC rfl ?_)
 refine Un.not (aF.mk (Br.no ?_))
 refine aa.mk (ld pC rfl ?_)
 refine ae.wZ (aF.mk (Br.RL (by simp) ?_))
 refine aa.mk (ld pC rfl ?_)
 refine Nil.ptr (aa.mk (Ld.mk (v:=ptr kp) (by exact List.mem_append_left _ Vs.cell) rfl ?_))
 intro F
 refine af.rd (.app .here) (pO Jk) ?_
 rintro w rfl
 refine⟨.refl _,?_⟩
 refine ae.wZ (aF.mk (Br.RL (by simp) ?_))
 refine aa.mk (ld pC rfl ?_)
 refine ae.kB (aF.mk (Br.RL (by simp;omega) ?_))
 refine aa.mk (ld pC rfl ?_)
 refine aa.mk (ld pC rfl ?_)
 refine ae.kB (aF.mk (Br.RL (by simp;omega) ?_))
 intro F
 refine af.px .here (Pr Vs hg Jk (by omega) (by omega) hne) ?_
 rintro w N7 rfl
 refine⟨.right,Un.not (aF.mk (JE.mk (good N7)))⟩
end
end Go.Proofs
