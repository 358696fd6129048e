import Derived.Test.YtfgkdmbicjdeoaaGreatJ4
import Derived.Test.YtfgkdmbicjdeoaaGreatJ3
import Derived.Test.YtfgkdmbicjdeoaaGreatJ1
import Derived.Deep.Slices
import Derived.SizedLaws
import Derived.Test.YtfgkdmbicjdeoaaGreatJ2
set_option linter.unusedVariables false
set_option linter.unusedSimpArgs false
set_option linter.unusedSectionVars false
set_option maxRecDepth 100000
namespace Go.Proofs
open Go Go.Sx
open aF
section
variable {kp gb n:Nat} {vr vf:Value} {refs:List Nat} {fs:List (List Nat)} {K:Kd} {S:Nat→aF.Fn} {ord aj tr:List Nat} {C B:Hp}
theorem cW.perm(hK:cW kp K S ord aj tr C):ord.Perm (List.range K.n):=by
 have jH:=hK.od
 refine jr ?_ (fun x hx=>?_) (by rw[List.length_range,jH.len];exact Nat.le_refl _)
 ·refine List.pairwise_iff_getElem.2 fun i j hi hj hij e=>?_
  have g1:=(jH.bc i (by rw[←jH.len];exact hi)).2
  have g2:=(jH.bc j (by rw[←jH.len];exact hj)).2
  rw[List.getD_eq_getElem?_getD,List.getElem?_eq_getElem hi,e]at g1
  rw[List.getD_eq_getElem?_getD,List.getElem?_eq_getElem hj]at g2
  omega
 ·obtain⟨i,hi,rfl⟩:=List.mem_iff_getElem.1 hx
  rw[jH.len]at hi
  have:=(jH.bc i hi).1
  rw[List.getD_eq_getElem?_getD,List.getElem?_eq_getElem (by rw[jH.len];exact hi)]at this
  exact List.mem_range.2 this
theorem Cn{p:List Nat}{m:Nat}(h:p.Perm (List.range m)):mN (iw p):=by
 rw[nI,an,h.length_eq,List.length_range]
 exact h.map _
def oW(kp:Nat)(K:Kd)(S:Nat→aF.Fn)(ord aj tr:List Nat)(lo hi f:aF.Fn)(w:Value)(H:Hp):Prop:=
 (∃x K' S',w=.tuple #[u32 x,.int .i64 0]∧cW kp K' S' ord aj [] H∧qd K S K' S' f x)∨
 (w=.tuple #[u32 0,.int .i64 9]∧(∃K' S' uP,cW kp K' S' ord aj uP H∧(uP=[]∨uP=tr)∧Kept K S K' S')∧¬Fits (aR K.n ord (fun g=>((K.held S g∨g=lo)∨g=hi)∨g=f)) K.cap)
theorem oV.ask{lo hi f:aF.Fn}{w:Value}{H:Hp}(h:oV kp K S ord aj tr f w H):oW kp K S ord aj tr lo hi f w H:=by
 rcases h with h|⟨h1,h2,h3⟩
 ·exact .inl h
 ·exact .inr ⟨h1,h2,fun hf=>h3 (Fits.mono (fun g hg=>bY (fun g h=>h.imp (fun h=>.inl (.inl h)) id) hg) hf)⟩
theorem yq.ask{lo hi f:aF.Fn}{w:Value}{H:Hp}(h:yq kp K S ord aj tr lo hi f w H):oW kp K S ord aj tr lo hi f w H:=by
 rcases h with h|⟨h1,h2,h3⟩
 ·exact .inl h
 ·refine .inr ⟨h1,h2,fun hf=>?_⟩
  rcases h3 with h3|h3|h3
  ·exact h3 (Fits.mono (fun g hg=>bY (fun g h=>.inl (.inl h)) hg) hf)
  ·exact h3 (Fits.mono (fun g hg=>bY (fun g h=>.inl h) hg) hf)
  ·exact h3 hf
theorem oW.two{lo hi f:aF.Fn}{w:Value}{H:Hp}(h:oW kp K S ord aj tr lo hi f w H):∃x y,w=.tuple #[x,y]:=by
 rcases h with⟨x,K',S',rfl,_⟩|⟨rfl,_⟩
 ·exact⟨_,_,rfl⟩
 ·exact⟨_,_,rfl⟩
theorem Nj{c:Hp→Hp}(hc:cc C B c)(hcell:∀Z,gm gb kp K.n vr vf∈c Z)(hK:cW kp K S ord aj tr C)(AX:1≤K.n){o:uK}(ho:o.Ok){r h i:Nat}(hr:live K.N r)(hh:live K.N h)(hi:live K.N i)(hB:∀s,K.hold s+2+2^K.n≤65535):
  Fc Tryz.prog 128 #[ptr gb,.agg o.cells.toArray,u32 r,u32 h,u32 i] B (fun w H=>∃C',H=c C'∧oW kp K S ord aj tr (fun x=>S r (aG.aI x (o.v%K.n) false)) (fun x=>S r (aG.aI x (o.v%K.n) true)) (Ss (o.k%9) (o.v%K.n) o.x (S r) (S h) (S i)) w C'):=by
 have zJ:1≤2^K.n:=Nat.one_le_two_pow
 have zN:=hK.bc.qA
 have WZ:gm gb kp K.n vr vf∈B:=by rw[hc.spec.1];exact hcell C
 have JO:∀s,K.hold s+2^K.n≤65535:=fun s=>by have:=hB s;omega
 have JJ:∀s,K.hold s+2<65535:=fun s=>by have:=hB s;omega
 have JK:∀s,K.hold s+1<65535:=fun s=>by have:=hB s;omega
 intro g
 refine EM (R:=aB _) ?_
 unfold L128
 intro b1 _
 refine aa.mk (Ld.mk (v:=.int .u8 (o.v:Int)) (by exact .head _) rfl ?_)
 refine aY.nat (by have:=ho.v;simp[aE];omega) ?_
 refine Nil.ptr (aa.mk (Ld.mk (v:=.int .i64 (K.n:Int)) (by exact .tail _ WZ) rfl ?_))
 refine ae.rY (by omega) ?_
 have hv:=Nat.mod_lt o.v (show 0<K.n by omega)
 generalize o.v%K.n=v at*
 have hx:=ho.x
 refine aa.mk (Ld.mk (v:=.int .u8 (o.k:Int)) (by exact .head _) rfl ?_)
 refine ae.rY (b:=9) (by decide) ?_
 have hk9:=Nat.mod_lt o.k (show 0<9 by decide)
 generalize o.k%9=k at*
 obtain⟨Q,hQ⟩:∃Q:Value→Hp→Prop,Q=fun w H=>∃C',H=c C'∧oW kp K S ord aj tr (fun x=>S r (aG.aI x v false)) (fun x=>S r (aG.aI x v true)) (Ss k v o.x (S r) (S h) (S i)) w C':=⟨_,rfl⟩
 rw[←hQ]
 have fin:∀w C',oW kp K S ord aj tr (fun x=>S r (aG.aI x v false)) (fun x=>S r (aG.aI x v true)) (Ss k v o.x (S r) (S h) (S i)) w C'→
   Ext 0 w fun u=>Ext 1 w fun u'=>aB Q (.returned (.tuple #[u,u'])) ((b1,.cells o.cells.toArray 106 (0,0))::c C'):=fun w C' hA=>by
  obtain⟨x,y,rfl⟩:=hA.two
  refine Ext.mk rfl (Ext.mk rfl (aB.mk .tail ?_))
  rw[hQ];exact⟨C',rfl,hA⟩
 have jK:∀C',aU ((b1,.cells o.cells.toArray 106 (0,0))::c C') [(b1,.cells o.cells.toArray 106 (0,0)),gm gb kp K.n vr vf]:=fun C'=>.cons (.BB (hcell C'))
 refine ae.gn (b:=0) (Br.dec (fun h0=>?_) (fun h0=>?_))
 ·subst h0
  refine Nil.ptr (aa.mk (Ld.mk (v:=ptr kp) (by exact .tail _ WZ) rfl ?_))
  refine ag.fn (.cons hc) (Qi hK hv (fun s=>by have:=hB s;omega)) ?_
  intro w C' hD
  exact fin w C' hD.ask
 refine ae.gn (b:=1) (Br.dec (fun h0=>?_) (fun h0=>?_))
 ·subst h0
  refine Nil.ptr (aa.mk (Ld.mk (v:=ptr kp) (by exact .tail _ WZ) rfl ?_))
  refine ag.fn (.cons hc) (Qm hK hr JO) ?_
  intro w C' hD
  exact fin w C' hD.ask
 intro J hJ
 have BW:J [.bool (decide (k=2∨k=3))] ((b1,.cells o.cells.toArray 106 (0,0))::B):=by
  refine hJ _ _ fun gs=>?_
  refine Br.dec (fun XQ=>?_) (fun XQ=>?_)
  ·refine DR.of (R:=[(b1,.cells o.cells.toArray 106 (0,0)),gm gb kp K.n vr vf]) (by have:=jK C;rwa [←hc.spec.1]at this) ?_
   refine Nil.ptr (aa.mk (Ld.mk (v:=ptr kp) (by exact .tail _ (.head _)) rfl ?_))
   refine aa.mk (Ld.mk (v:=.int .u64 (o.x:Int)) (by exact .head _) rfl ?_)
   refine ae.rY (b:=16) (by decide) ?_
   have h16:=Nat.mod_lt o.x (show 0<16 by decide)
   refine aY.nat (by simp[aE];omega) ?_
   refine ag.fn (.cons hc) (uf hK h16 hr hh JO) ?_
   intro w C' hD
   refine⟨jK C',fin w C' ?_⟩
   rcases XQ with rfl|rfl
   ·exact hD.ask
   ·exact hD.ask
  refine ae.gn (b:=4) (Br.dec (fun h0=>?_) (fun h0=>?_))
  ·subst h0
   refine Nil.ptr (aa.mk (Ld.mk (v:=ptr kp) (by exact .tail _ WZ) rfl ?_))
   refine ag.fn (.cons hc) (Gw hK hr hh hi JO) ?_
   intro w C' hD
   exact fin w C' hD.ask
  refine ae.gn (b:=5) (Br.dec (fun h0=>?_) (fun h0=>?_))
  ·subst h0
   refine DR.of (R:=[(b1,.cells o.cells.toArray 106 (0,0)),gm gb kp K.n vr vf]) (by have:=jK C;rwa [←hc.spec.1]at this) ?_
   refine Nil.ptr (aa.mk (Ld.mk (v:=ptr kp) (by exact .tail _ (.head _)) rfl ?_))
   refine aa.mk (Ld.mk (v:=.int .u64 (o.x:Int)) (by exact .head _) rfl ?_)
   refine ae.rY (b:=2) (by decide) ?_
   refine ae.gn (b:=1) ?_
   refine ag.fn (.cons hc) (xB hK hr hv JK) ?_
   intro w C' hD
   exact⟨jK C',fin w C' hD.ask⟩
  have xX:2^v<18446744073709551616:=Nat.lt_of_lt_of_le (js hv) (Nat.pow_le_pow_right (n:=2) (by decide) zN)
  have eq6:∀e:Bool,qf e v (S r)=fun y=>Hw (if e then 14 else 8) (S r (aG.aI y v false)) (S r (aG.aI y v true)):=fun e=>by
   funext y
   show(if e then S r (aG.aI y v false)||S r (aG.aI y v true)else S r (aG.aI y v false) &&S r (aG.aI y v true))=_
   cases e<;>cases S r (aG.aI y v false)<;>cases S r (aG.aI y v true)<;>rfl
  refine ae.gn (b:=6) (Br.dec (fun h0=>?_) (fun h0=>?_))
  ·subst h0
   refine DR.of (R:=[(b1,.cells o.cells.toArray 106 (0,0)),gm gb kp K.n vr vf]) (by have:=jK C;rwa [←hc.spec.1]at this) ?_
   refine Nil.ptr (aa.mk (Ld.mk (v:=ptr kp) (by exact .tail _ (.head _)) rfl ?_))
   refine ae.Bq (a:=1) (by simp[IntKind.bits];omega) (by rw[Nat.one_shiftLeft];simpa[aE]using xX) ?_
   rw[Nat.one_shiftLeft]
   refine ag.fn (.cons hc) (Ip hK hr (js hv) JJ) ?_
   intro w C' hD
   have:=(iF.one hv hD).ask (lo:=fun x=>S r (aG.aI x v false)) (hi:=fun x=>S r (aG.aI x v true))
   rw[eq6 true]at this
   exact⟨jK C',fin w C' this⟩
  refine ae.gn (b:=7) (Br.dec (fun h0=>?_) (fun h0=>?_))
  ·subst h0
   refine DR.of (R:=[(b1,.cells o.cells.toArray 106 (0,0)),gm gb kp K.n vr vf]) (by have:=jK C;rwa [←hc.spec.1]at this) ?_
   refine Nil.ptr (aa.mk (Ld.mk (v:=ptr kp) (by exact .tail _ (.head _)) rfl ?_))
   refine ae.Bq (a:=1) (by simp[IntKind.bits];omega) (by rw[Nat.one_shiftLeft];simpa[aE]using xX) ?_
   rw[Nat.one_shiftLeft]
   refine ag.fn (.cons hc) (Im hK hr (js hv) JJ) ?_
   intro w C' hD
   have:=(iF.one hv hD).ask (lo:=fun x=>S r (aG.aI x v false)) (hi:=fun x=>S r (aG.aI x v true))
   rw[eq6 false]at this
   exact⟨jK C',fin w C' this⟩
  ·have:k=8:=by omega
   subst this
   refine Nil.ptr (aa.mk (Ld.mk (v:=ptr kp) (by exact .tail _ WZ) rfl ?_))
   refine ag.fn (.cons hc) (Qd hK hr hv hh hB) ?_
   intro w C' hD
   exact fin w C' hD.ask
 refine ae.gn (b:=2) (Br.dec (fun h2=>?_) (fun h2=>?_))
 ·have:decide (k=2)=decide (k=2∨k=3):=by simp[h2]
  rw[this];exact JE.mk BW
 ·refine ae.gn (b:=3) ?_
  have:decide (k=3)=decide (k=2∨k=3):=by simp[h2]
  rw[this];exact JE.mk BW
theorem zY(hG:A6 gb kp K.n vr vf refs fs C B)(hfr:∀t∈fs,aG.fA K.n t)(hK:cW kp K S ord aj tr C)(hm:fs.length<65536){more:Value}{ms:List (List Nat)}(hmo:gi B more (ms.map fun ws=>⟨K.n,ws⟩))(hmf:∀t∈ms,aG.fA K.n t)(hml:ms.length≤1)(hne:fs++ms≠[]):
  Px Tryz.prog 64 #[ptr gb,more] B (fun w H=>w=.int .i64 ((g9 K.n ord (fs++ms) K.n:Nat):Int)):=by
 intro g
 refine IY (R:=aB _) ?_
 unfold L64
 refine au.none (e:=57) (k:=2) (z:=.agg #[.int .i64 0,.slice none 0 0]) (by kernel_rfl) (by kernel_rfl) (by kernel_rfl) fun bx=>?_
 refine Nil.ptr (aa.mk (Ld.mk (v:=vf) (by exact .tail _ hG.cell) rfl ?_))
 obtain⟨rf,hSf,hEf⟩:=hG.fn
 obtain⟨rm,hSm,hEm⟩:=hmo
 have lf:rf.length=fs.length:=by rw[hEf.1,List.length_map]
 have lm:rm.length=ms.length:=by rw[hEm.1,List.length_map]
 have Lf:∀{X:Hp} {rs:List (List Value)} {ts:List Tb},qe (AD X) rs ts→∀r∈rs,∀u∈r,u.oneCell'=true:=fun hE r hr u hu=>by
  obtain⟨i,hi,rfl⟩:=List.mem_iff_getElem.1 hr
  obtain⟨s,hs,hw⟩:=hE.2 i _ _ (List.getElem?_eq_getElem hi) (List.getElem?_eq_getElem (by rw[←hE.1];exact hi))
  rw[hs]at hu
  simp only[List.mem_cons,List.not_mem_nil,or_false]at hu
  rcases hu with rfl|rfl
  ·rfl
  ·exact aT hw
 have N6:aS 57 2 (.slice (some ⟨bx,0,none⟩) 0 0) [] [(bx,.cells (rows []) 57 (0,0))]:=aS.made [] (by simp)
 refine N6.Az (C:=[(bx,.cells (rows []) 57 (0,0))]) (c:=fun X=>X++B) (cc.left (C:=[(bx,.cells (rows []) 57 (0,0))])) (hSf.mono zS) (Lf hEf) ⟨[.int .i64 0,.slice none 0 0],rfl,rfl⟩ (by simp only[List.length_nil];omega) (by simp only[List.length_nil];omega) fun v8 C8 h8=>?_
 refine h8.Az .left (hSm.mono fun _ h=>List.mem_append_right _ h) (Lf hEm) ⟨[.int .i64 0,.slice none 0 0],rfl,rfl⟩ (by simp only[List.nil_append];omega) (by simp only[List.nil_append];omega) fun bf C12 h12=>?_
 refine Nil.ptr (aa.mk (Ld.mk (v:=ptr kp) (by exact List.mem_append_right _ hG.cell) rfl ?_))
 obtain⟨c,hc,_⟩:=hG.hole
 refine ag.top (Q:=fun r N=>aP 3 .i64 r (iw ord) N) (.app hc) (qD hK.rep) ?_
 intro vo N ho
 have hT:gi (N++(C12++B)) bf ((fs++ms).map fun ws=>⟨K.n,ws⟩):=by
  refine⟨[]++rf++rm,(Sl.mg h12 (by decide)).mono fun _ h=>List.mem_append_right _ (List.mem_append_left _ h),?_,fun i r x hr hx=>?_⟩
  ·simp only[List.nil_append,List.length_append,List.length_map];omega
  ·rw[List.nil_append]at hr
   rw[List.map_append]at hx
   by_cases hi:i<rf.length
   ·rw[List.getElem?_append_left hi]at hr
    rw[List.getElem?_append_left (by rw[List.length_map];omega)]at hx
    obtain⟨s,h1,h2⟩:=hEf.2 i r x hr hx
    exact⟨s,h1,h2.mono zS⟩
   ·rw[List.getElem?_append_right (by omega)]at hr
    rw[List.getElem?_append_right (by rw[List.length_map];omega)]at hx
    rw[List.length_map,←lf]at hx
    obtain⟨s,h1,h2⟩:=hEm.2 _ r x hr hx
    exact⟨s,h1,h2.mono zS⟩
 refine ag.px .here (OK hT (fun t ht=>(List.mem_append.1 ht).elim (hfr t) (hmf t)) hne (by rw[List.length_append];omega) (ho.ints.mono fun _ h=>List.mem_append_left _ h) hK.od.len (Cn hK.perm)) ?_
 rintro w N2 rfl
 refine Ext.mk rfl (Ext.mk rfl ?_)
 refine ae.dh (Br.bt (by decide) ?_)
 exact Gz.mk (by repeat (first|exact bR.refl _|apply bR.cons|apply bR.app)) rfl
end
section
variable {kp gb n:Nat} {vr vf:Value} {refs:List Nat} {fs:List (List Nat)} {K:Kd} {S:Nat→aF.Fn} {ord aj tr:List Nat} {C B:Hp}
theorem aS.one{T:TypeId}{k:Nat}{v:Value}{l:List (List Value)}(h:aS T k v l C):v.oneCell'=true:=by obtain⟨a,c,e⟩:=aS.len h;rw[e];rfl
theorem P2{r:Nat}(h2:r<2){s:Value}(B:Hp):Fc Tryz.prog 129 #[ptr gb,u32 r,.agg #[.int .i64 (n:Int),s]] B (fun _ H=>H=B):=by
 intro g
 refine uy (R:=aB _) ?_
 unfold L129
 intro b1 _
 exact ae.lP (b:=1) (Br.bt (by omega) (aB.mk .tail rfl))
theorem P1{r:Nat}(h2:2≤r){s:Value}{CR CF D:Hp}{rs:List (List Value)}(hr:aP 77 .u32 vr (iw refs) CR)(hf:aS 57 2 vf rs CF)(hs:s.oneCell'=true)(vb:refs.length<1048576)(qh:rs.length<1048576):
  Fc Tryz.prog 129 #[ptr gb,u32 r,.agg #[.int .i64 (n:Int),s]] (gm gb kp n vr vf::(CR++(CF++D))) (fun _ H=>∃Fl NN JX On,H=gm gb kp n Fl NN::(JX++(On++D))∧aP 77 .u32 Fl (iw (refs++[r])) JX∧aS 57 2 NN (rs++[[.int .i64 (n:Int),s]]) On):=by
 intro g
 refine uy (R:=aB _) ?_
 unfold L129
 intro b1 _
 refine ae.lP (b:=1) (Br.eU (by omega) ?_)
 refine Nil.ptr (aa.mk (Ld.mk (v:=vr) (by exact .tail _ (.head _)) rfl ?_))
 refine au.int (e:=77) (by kernel_rfl) (by kernel_rfl) (by kernel_rfl) fun bx=>?_
 refine hr.mL (x:=(r:Int)) (.cons (.cons (.cons .left))) (by exact .head _) (by rw[an];omega) (by rw[an];omega) fun Fl JX hr'=>?_
 refine Nil.ptr (aa.mk (St.one (by exact .tail (.tail (.head _))) hr'.one (by simp) rfl ?_))
 refine DR.of (R:=[(b1,.cells #[.int .i64 (n:Int),s] 57 (0,0)),gm gb kp n Fl vf]) (.skip (.cons (aU.left (A:=[_])))) ?_
 refine Nil.ptr (aa.mk (Ld.mk (v:=vf) (by exact .tail _ (.head _)) rfl ?_))
 refine aD.whole (r:=[.int .i64 (n:Int),s]) (by exact .head _) rfl ?_
 refine pX fun by'=>?_
 refine⟨.skip (.skip (.cons (aU.left (A:=[_])))),?_⟩
 have h1:∀u∈[Value.int .i64 (n:Int),s],u.oneCell'=true:=by simpa[Value.oneCell']using hs
 refine hf.mL (r:=[.int .i64 (n:Int),s]) (.cons (.cons (.cons (.cons (.app .left))))) (by exact .head _) rfl h1 ⟨[.int .i64 0,.slice none 0 0],rfl,rfl⟩ (by omega) (by omega) fun NN On zV=>?_
 refine⟨.skip (.skip (.cons (aU.left (A:=[_])))),?_⟩
 refine Nil.ptr (aa.mk (St.one (by exact .tail (.tail (.tail (.head _)))) (aS.one zV) (by simp) rfl ?_))
 refine aB.mk (.skip (.skip .tail)) ⟨Fl,NN,JX,On,rfl,?_,zV⟩
 rw[bG];exact hr'
structure QB(gb kp:Nat)(K:Kd)(S:Nat→aF.Fn)(ord aj tr:List Nat)(refs:List Nat)(fs:List (List Nat))(vr vf:Value)(M CR CF C:Hp)(rs:List (List Value)):Prop where
 ks:cW kp K S ord aj tr C
 ME:vA K S refs fs
 rf:aP 77 .u32 vr (iw refs) CR
 fn:aS 57 2 vf rs CF
 row:qe (AD M) rs (fs.map fun ws=>⟨K.n,ws⟩)
abbrev gG(gb kp n:Nat)(vr vf:Value)(CR CF C:Hp):Hp:=gm gb kp n vr vf::(CR++(CF++C))
theorem QB.look{rs:List (List Value)}{M CR CF:Hp}(h:QB gb kp K S ord aj tr refs fs vr vf M CR CF C rs):mU gb kp K.n vr vf refs fs M (gG gb kp K.n vr vf CR CF C):=
 ⟨.head _,h.rf.ints.mono fun _ h=>.tail _ (List.mem_append_left _ h),rs,(Sl.mg h.fn (by decide)).mono fun _ h=>.tail _ (List.mem_append_right _ (List.mem_append_left _ h)),h.row⟩
theorem QB.aaE{rs:List (List Value)}{M CR CF:Hp}(h:QB gb kp K S ord aj tr refs fs vr vf M CR CF C rs):rs.length=refs.length:=by
 rw[h.row.1,List.length_map,h.ME.len]
theorem MK(hn:K.n≤6)(hcap:K.cap=4000)(jH:aF.Ord K.n (lv aj) ord){L:List (List Nat)}(hf:∀t∈L,aG.fA K.n t)(hl:L.length≤60):Fits (aR K.n ord (FT K.n L)) K.cap:=by
 refine⟨_,MV hf (by omega) (fun i hi=>(jH.bc i hi).1),?_⟩
 have h1:=jX K.n ord L K.n
 have h2:2^K.n*L.length≤64*L.length:=Nat.mul_le_mul_right _ (Nat.pow_le_pow_right (n:=2) (by decide) hn)
 rw[hcap];omega
theorem vA.more(h:vA K S refs fs)(hK:cW kp K S ord aj tr C){K':Kd}{S':Nat→aF.Fn}{f:aF.Fn}{x:Nat}{t:List Nat}(hg:qd K S K' S' f x)(hf:aG.fA K.n t)(ht:fg K.n t=f):(2≤x→vA K' S' (refs++[x]) (fs++[t]))∧(x<2→vA K' S' refs fs):=by
 have old:∀i,i<refs.length→2≤refs.getD i 0∧fg K'.n (fs.getD i [])=S' (refs.getD i 0):=fun i hi=>by
  obtain⟨h1,h2⟩:=h.is i hi
  have hm:refs.getD i 0∈refs:=by rw[List.getD_eq_getElem?_getD,List.getElem?_eq_getElem hi];exact List.getElem_mem hi
  exact⟨h1,by rw[hg.n,h2,hg.fn _ (h.live hK hm)]⟩
 refine⟨fun h2=>⟨by simp[h.len],fun u hu=>?_,fun i hi=>?_,fun s=>?_⟩,fun h2=>⟨h.len,by rw[hg.n];exact h.qO,old,fun s=>by rw[hg.hold,h.hold,if_neg (by omega)];rfl⟩⟩
 ·rw[hg.n]
  rcases List.mem_append.1 hu with hu|hu
  ·exact h.qO u hu
  ·simp at hu;subst hu;exact hf
 ·by_cases hi':i<refs.length
  ·have e1:(refs++[x]).getD i 0=refs.getD i 0:=by rw[List.getD_eq_getElem?_getD,List.getElem?_append_left hi',←List.getD_eq_getElem?_getD]
   have e2:(fs++[t]).getD i []=fs.getD i []:=by rw[List.getD_eq_getElem?_getD,List.getElem?_append_left (by rw[←h.len];exact hi'),←List.getD_eq_getElem?_getD]
   rw[e1,e2];exact old i hi'
  ·have Vh:i=refs.length:=by rw[List.length_append,List.length_singleton]at hi;omega
   have e1:(refs++[x]).getD i 0=x:=by rw[List.getD_eq_getElem?_getD,List.getElem?_append_right (by omega),Vh,Nat.sub_self];rfl
   have e2:(fs++[t]).getD i []=t:=by rw[List.getD_eq_getElem?_getD,List.getElem?_append_right (by rw[←h.len];omega),Vh,h.len,Nat.sub_self];rfl
   rw[e1,e2,hg.n,ht,hg.is]
   exact⟨h2,rfl⟩
 ·rw[hg.hold,h.hold,List.count_append,List.count_singleton]
  by_cases e:s=x
  ·subst e;simp[h2]
  ·have:(x==s)=false:=by simpa using fun e'=>e e'.symm
   simp[e,this]
def Yp(gb kp:Nat)(K:Kd)(S:Nat→aF.Fn)(ord aj:List Nat)(refs:List Nat)(M0:Hp)(o:uK)(w:Value)(H:Hp):Prop:=
 w=.bool true∧∃(x a b c:Nat) (K':Kd) (S':Nat→aF.Fn) (refs':List Nat) (fs':List (List Nat)) (vr vf:Value) (M CR CF C:Hp) (rs:List (List Value)),H=M++gG gb kp K.n vr vf CR CF C∧bR M0 M∧QB gb kp K' S' ord aj [] refs' fs' vr vf M CR CF C rs∧K'.n=K.n∧K'.cap=K.cap∧
  refs'=refs++(if 2≤x then [x]else [])∧S' x=Ss (o.k%9) (o.v%K.n) o.x (S a) (S b) (S c)∧live K'.N x∧(∀s,live K.N s→S' s=S s)
set_option maxHeartbeats 1000000 in
theorem QL{M CR CF:Hp}{rs:List (List Value)}(h:QB gb kp K S ord aj tr refs fs vr vf M CR CF C rs)(AX:1≤K.n)(hn:K.n≤6)(hcap:K.cap=4000)(hl:refs.length≤50){o:uK}(ho:o.Ok):
  Fc Tryz.prog 55 #[ptr gb,.agg o.cells.toArray] (M++gG gb kp K.n vr vf CR CF C) (Yp gb kp K S ord aj refs M o):=by
 have hK:=h.ks
 have jH:=hK.od
 have hlf:fs.length≤50:=by rw[←h.ME.len];exact hl
 have one:∀{X:Hp} {s:Value} {l:List Nat},Words X s l→∀x∈[Value.int .i64 (K.n:Int),s],x.oneCell'=true:=fun hw=>by have:=aT hw;simpa[Value.oneCell']using this
 intro g
 refine Jc (R:=aB _) ?_
 unfold L55
 intro b1 _
 refine aa.mk (Ld.mk (v:=.int .u8 (o.a:Int)) (by exact .head _) rfl ?_)
 have QU:mU gb kp K.n vr vf refs fs ((b1,Obj.cells o.cells.toArray 106 (0,0))::M) (gG gb kp K.n vr vf CR CF C):=h.look.grow fun _ h=>.tail _ h
 refine ag.fn (C:=((b1,Obj.cells o.cells.toArray 106 (0,0))::M)++gG gb kp K.n vr vf CR CF C) .here (xD QU h.ME hK (by omega) (by omega) ho.a) ?_
 rintro w H ⟨M1,rfl,g1,r,_,rfl,lr,w1,⟨s1,rfl,kF⟩,JK,NZ⟩
 have m1:=g1.sub _ (List.Mem.head _)
 refine Ext.mk rfl (Ext.mk rfl ?_)
 intro b9 _
 refine St.whole (r:=[.int .i64 (K.n:Int),s1]) (by exact .head _) rfl rfl (one kF) ?_
 refine aa.mk (Ld.mk (v:=.int .u8 (o.b:Int)) (by exact .tail _ (List.mem_append_left _ m1)) rfl ?_)
 have QT:mU gb kp K.n vr vf refs fs ((b9,Obj.cells #[.int .i64 (K.n:Int),s1] 57 (0,0))::M1) (gG gb kp K.n vr vf CR CF C):=(QU.grow g1.sub).grow fun _ h=>.tail _ h
 refine ag.fn (C:=((b9,Obj.cells #[.int .i64 (K.n:Int),s1] 57 (0,0))::M1)++gG gb kp K.n vr vf CR CF C) .here (xD QT h.ME hK (by omega) (by omega) ho.b) ?_
 rintro w H ⟨M2,rfl,g2,q,_,rfl,lq,w2,⟨s2,rfl,qI⟩,JJ,Vk⟩
 have m1:=g2.sub _ (List.Mem.tail _ m1)
 have m9:=g2.sub _ (List.Mem.head _)
 refine Ext.mk rfl (Ext.mk rfl ?_)
 intro oO _
 refine St.whole (r:=[.int .i64 (K.n:Int),s2]) (by exact .head _) rfl rfl (one qI) ?_
 refine aa.mk (Ld.mk (v:=.int .u8 (o.c:Int)) (by exact .tail _ (List.mem_append_left _ m1)) rfl ?_)
 have QS:mU gb kp K.n vr vf refs fs ((oO,Obj.cells #[.int .i64 (K.n:Int),s2] 57 (0,0))::M2) (gG gb kp K.n vr vf CR CF C):=(QT.grow g2.sub).grow fun _ h=>.tail _ h
 refine ag.fn (C:=((oO,Obj.cells #[.int .i64 (K.n:Int),s2] 57 (0,0))::M2)++gG gb kp K.n vr vf CR CF C) .here (xD QS h.ME hK (by omega) (by omega) ho.c) ?_
 rintro w H ⟨M3,rfl,g3,p,_,rfl,lp,w3,⟨s3,rfl,Pg⟩,hf3,he3⟩
 have m1:=g3.sub _ (List.Mem.tail _ m1)
 have m9:=g3.sub _ (List.Mem.tail _ m9)
 have m18:=g3.sub _ (List.Mem.head _)
 refine Ext.mk rfl (Ext.mk rfl ?_)
 intro IF _
 refine St.whole (r:=[.int .i64 (K.n:Int),s3]) (by exact .head _) rfl rfl (one Pg) ?_
 refine aD.whole (r:=o.cells) (by exact .tail _ (List.mem_append_left _ m1)) rfl ?_
 refine aD.whole (r:=[.int .i64 (K.n:Int),s1]) (by exact .tail _ (List.mem_append_left _ m9)) rfl ?_
 refine aD.whole (r:=[.int .i64 (K.n:Int),s2]) (by exact .tail _ (List.mem_append_left _ m18)) rfl ?_
 refine aD.whole (r:=[.int .i64 (K.n:Int),s3]) (by exact .head _) rfl ?_
 have QR:mU gb kp K.n vr vf refs fs ((IF,Obj.cells #[.int .i64 (K.n:Int),s3] 57 (0,0))::M3) (gG gb kp K.n vr vf CR CF C):=(QS.grow g3.sub).grow fun _ h=>.tail _ h
 have t1:dS ((IF,Obj.cells #[.int .i64 (K.n:Int),s3] 57 (0,0))::M3) (.agg #[.int .i64 (K.n:Int),s1]) K.n (S r):=⟨w1,⟨s1,rfl,kF.mono fun x hx=>.tail _ (g3.sub _ (.tail _ (g2.sub _ (.tail _ hx))))⟩,JK,NZ⟩
 have t2:dS ((IF,Obj.cells #[.int .i64 (K.n:Int),s3] 57 (0,0))::M3) (.agg #[.int .i64 (K.n:Int),s2]) K.n (S q):=⟨w2,⟨s2,rfl,qI.mono fun x hx=>.tail _ (g3.sub _ (.tail _ hx))⟩,JJ,Vk⟩
 have t3:dS ((IF,Obj.cells #[.int .i64 (K.n:Int),s3] 57 (0,0))::M3) (.agg #[.int .i64 (K.n:Int),s3]) K.n (S p):=⟨w3,⟨s3,rfl,Pg.mono fun x hx=>.tail _ hx⟩,hf3,he3⟩
 refine ag.fn (C:=((IF,Obj.cells #[.int .i64 (K.n:Int),s3] 57 (0,0))::M3)++gG gb kp K.n vr vf CR CF C) .here (KE QR (by omega) AX ho t1 t2 t3) ?_
 rintro w H ⟨M4,rfl,g4,_,rfl,w4,⟨s4,rfl,NT⟩,W6,Zb⟩
 have m1:=g4.sub _ (List.Mem.tail _ m1)
 refine Ext.mk rfl (Ext.mk rfl ?_)
 intro Uh _
 refine St.whole (r:=[.int .i64 (K.n:Int),s4]) (by exact .head _) rfl rfl (one NT) ?_
 refine aD.whole (r:=o.cells) (by exact .tail _ (List.mem_append_left _ m1)) rfl ?_
 have lJ:∀s,K.hold s≤50:=fun s=>by
  rw[h.ME.hold]
  have:=List.count_le_length (a:=s) (l:=refs)
  omega
 have xX:2^K.n≤64:=Nat.pow_le_pow_right (n:=2) (by decide) hn
 have hv:=Nat.mod_lt o.v (show 0<K.n by omega)
 obtain⟨M5,XD⟩:∃M5:Hp,M5=(Uh,Obj.cells #[.int .i64 (K.n:Int),s4] 57 (0,0))::M4:=⟨_,rfl⟩
 have Wc:mU gb kp K.n vr vf refs fs M5 (gG gb kp K.n vr vf CR CF C):=by rw[XD];exact(QR.grow g4.sub).grow fun _ h=>.tail _ h
 have m38:(Uh,Obj.cells #[.int .i64 (K.n:Int),s4] 57 (0,0))∈M5:=by rw[XD];exact .head _
 have U6:Words M5 s4 w4:=by rw[XD];exact NT.mono fun _ h=>.tail _ h
 have gM:bR M M5:=by rw[XD];exact .cons ((((bR.refl M).cons.trans g1).cons.trans g2).cons.trans g3|>.cons.trans g4)
 change ag Tryz.prog g _ _ (((Uh,Obj.cells #[.int .i64 (K.n:Int),s4] 57 (0,0))::M4)++gG gb kp K.n vr vf CR CF C) _ _
 rw[←XD]
 refine ag.fn (args:=#[ptr gb,.agg o.cells.toArray,u32 r,u32 q,u32 p]) .here (Nj (gb:=gb) (vr:=vr) (vf:=vf) (c:=fun Z=>M5++gG gb kp K.n vr vf CR CF Z) (.app (.cons (.app (.app .here)))) (fun Z=>List.mem_append_right _ (.head _)) hK AX ho lr lq lp (fun s=>by have:=lJ s;omega)) ?_
 rintro w H ⟨C',rfl,(⟨x,K',S',rfl,iJ,gA⟩|⟨rfl,_,hno⟩)⟩
 rotate_left
 ·exfalso
  refine hno (Fits.mono (fun g hg=>bY (fun g h'=>?_) hg) (MK hn hcap jH (L:=fs++[aG.kz K.n w1 (o.v%K.n) false,aG.kz K.n w1 (o.v%K.n) true,w4]) (fun t ht=>?_) (by rw[List.length_append];simp;omega)))
  ·rcases h' with((h'|h')|h')|h'
   ·obtain⟨t,ht,e⟩:=(h.ME.held g).1 h'
    exact⟨t,List.mem_append_left _ ht,e⟩
   ·exact⟨aG.kz K.n w1 (o.v%K.n) false,by simp,by rw[nB JK hv,NZ];exact h'⟩
   ·exact⟨aG.kz K.n w1 (o.v%K.n) true,by simp,by rw[nB JK hv,NZ];exact h'⟩
   ·exact⟨w4,by simp,by rw[Zb];exact h'⟩
  ·rcases List.mem_append.1 ht with ht|ht
   ·exact h.ME.qO t ht
   ·simp only[List.mem_cons,List.not_mem_nil,or_false]at ht
    rcases ht with rfl|rfl|rfl
    ·exact aG.jx (by omega)
    ·exact aG.jx (by omega)
    ·exact W6
 refine Ext.mk rfl (Ext.mk rfl ?_)
 refine ae.dh (Br.bt (by decide) ?_)
 refine DR.self ?_
 refine aD.whole (r:=[.int .i64 (K.n:Int),s4]) (by exact List.mem_append_left _ m38) rfl ?_
 refine Nil.ptr (aa.mk (Ld.mk (v:=ptr kp) (by exact List.mem_append_right _ (.head _)) rfl ?_))
 refine pX fun bs=>?_
 refine⟨.tail,?_⟩
 obtain⟨YV,hSl,hE⟩:=Wc.fn
 have ab0:A6 gb kp K'.n vr vf refs fs C' ((bs,Obj.cells #[.int .i64 (K.n:Int),s4] 57 (0,0))::(M5++gG gb kp K.n vr vf CR CF C')):=by
  rw[gA.n]
  refine A6.cons ?_ _
  refine⟨List.mem_append_right _ (.head _),h.rf.ints.mono fun _ h=>List.mem_append_right _ (.tail _ (List.mem_append_left _ h)),⟨rs,(Sl.mg h.fn (by decide)).mono fun _ h=>List.mem_append_right _ (.tail _ (List.mem_append_right _ (List.mem_append_left _ h))),h.row.mono fun _ _ h=>h.mono fun _ h=>List.mem_append_left _ (gM.sub _ h)⟩,
   _,.app (.cons (.app (.app .here))),fun Z=>List.mem_append_right _ (.head _)⟩
 have my:gi ((bs,Obj.cells #[.int .i64 (K.n:Int),s4] 57 (0,0))::(M5++gG gb kp K.n vr vf CR CF C')) (.slice (some ⟨bs,0,none⟩) 1 1) ([w4].map fun ws=>⟨K'.n,ws⟩):=by
  rw[gA.n]
  exact gi.one (cap:=0) (t:=⟨K.n,w4⟩) (.head _) (U6.mono fun _ h=>.tail _ (List.mem_append_left _ h))
 refine ag.px .here (zY (ms:=[w4]) ab0 (by rw[gA.n];exact h.ME.qO) iJ (by omega) my (by rw[gA.n];intro t ht;simp at ht;subst ht;exact W6) (by simp) (by simp)) ?_
 rintro w N5 rfl
 refine⟨.ry .tail,?_⟩
 have hsz:=jX K'.n ord (fs++[w4]) K'.n
 have S7:2^K'.n*(fs++[w4]).length≤64*51:=by rw[gA.n,List.length_append];exact Nat.mul_le_mul xX (by simp;omega)
 refine ae.aN (b:=2) (by simp only[aE];omega) ?_
 refine ag.rd (.app (.cons (.app (.cons (.app (.app .here)))))) (qE iJ.rep) ?_
 rintro w rfl
 refine⟨.ry .tail,?_⟩
 refine ae.AU ?_
 rw[gA.cap,hcap,decide_eq_true (by omega)]
 refine ae.jR (Br.bt (by decide) ?_)
 refine ae.dh ?_
 refine bX.or (a:=decide ((0:Int)≠0)) false (fun _=>Un.not ⟨rfl,rfl⟩) (by simp) fun gs=>?_
 refine Br.mk (fun hb=>by simp at hb) (fun _=>?_)
 refine aD.whole (r:=[.int .i64 (K.n:Int),s4]) (by exact List.mem_append_right _ (.tail _ (List.mem_append_left _ m38))) rfl ?_
 have more:=h.ME.more hK gA W6 Zb
 have row':qe (AD (N5++(bs,Obj.cells #[.int .i64 (K.n:Int),s4] 57 (0,0))::M5)) rs (fs.map fun ws=>⟨K'.n,ws⟩):=by
  rw[gA.n]
  exact h.row.mono fun _ _ h=>h.mono fun _ h=>List.mem_append_right _ (.tail _ (gM.sub _ h))
 have eH:N5++(bs,Obj.cells #[.int .i64 (K.n:Int),s4] 57 (0,0))::(M5++gG gb kp K.n vr vf CR CF C')=(N5++(bs,Obj.cells #[.int .i64 (K.n:Int),s4] 57 (0,0))::M5)++gG gb kp K.n vr vf CR CF C':=by rw[List.append_assoc];rfl
 rw[eH]
 by_cases HT:2≤x
 ·refine ag.fn (.app .here) (P1 (n:=K.n) HT (s:=s4) h.rf h.fn (aT NT) (by omega) (by rw[h.aaE];omega)) ?_
  rintro w H ⟨Fl,NN,JX,On,rfl,hr',zV⟩
  refine aB.here ⟨rfl,x,r,q,p,K',S',refs++[x],fs++[w4],Fl,NN,_,JX,On,C',rs++[[.int .i64 (K.n:Int),s4]],rfl,.app (.cons gM),⟨iJ,more.1 HT,hr',zV,?_⟩,gA.n,gA.cap,by rw[if_pos HT],gA.is,gA.live,gA.fn⟩
  refine⟨by rw[List.length_append,row'.1,List.map_append,List.length_append];rfl,fun i row t hr ht=>?_⟩
  rw[List.map_append]at ht
  by_cases hi:i<rs.length
  ·rw[List.getElem?_append_left hi]at hr
   rw[List.getElem?_append_left (by rw[←row'.1];exact hi)]at ht
   exact row'.2 i row t hr ht
  ·rw[List.getElem?_append_right (by omega)]at hr
   rw[List.getElem?_append_right (by rw[←row'.1];omega),←row'.1]at ht
   have h0:i-rs.length=0:=by
    have:=(List.getElem?_eq_some_iff.1 hr).1
    simp at this;omega
   rw[h0]at hr ht
   simp at hr ht
   subst hr;subst ht
   exact⟨s4,by rw[gA.n],U6.mono fun _ h=>List.mem_append_right _ (.tail _ h)⟩
 ·refine ag.fn .here (P2 (gb:=gb) (n:=K.n) (r:=x) (by omega) _) ?_
  rintro w H rfl
  exact aB.here ⟨rfl,x,r,q,p,K',S',refs,fs,vr,vf,_,CR,CF,C',rs,rfl,.app (.cons gM),⟨iJ,more.2 (by omega),h.rf,h.fn,row'⟩,gA.n,gA.cap,by rw[if_neg HT,List.append_nil],gA.is,gA.live,gA.fn⟩
end
section
variable {kp gb n:Nat} {vr vf:Value} {refs:List Nat} {fs:List (List Nat)} {K:Kd} {S:Nat→aF.Fn} {ord aj tr:List Nat} {C B:Hp}
theorem Av(hG:A6 gb kp K.n vr vf refs fs C B)(hK:cW kp K S ord aj tr C){r l:Nat}(hr:live K.N r)(hl:l<dep K.n (lv aj) K.N r):
  Rd Tryz.prog 149 #[ptr gb,u32 r,.int .i64 (l:Int)] B (· =.bool true):=by
 obtain⟨c,hc,_⟩:=hG.hole
 have hlt:=hK.cu hr
 intro g
 refine Ez (R:=aB _) ?_
 unfold L149
 refine Nil.ptr (aa.mk (Ld.mk (v:=ptr kp) (by exact hG.cell) rfl ?_))
 refine ag.rd (args:=#[ptr kp,u32 r]) hc (iT hK.rep (by omega)) ?_
 rw[bT.2 hr]
 rintro w rfl
 refine Ext.mk rfl (Ext.mk rfl ?_)
 intro b8 _
 refine St.whole (r:=got K.N r) (by exact .head _) rfl (aL _ _).1 (aL _ _).2 ?_
 refine ae.dh ?_
 rw[show decide ((if true=true then(0:Int)else 3)≠0)=false by decide]
 refine bX.or (a:=false) (decide (r<2)) (fun _=>ae.fu (b:=2) ⟨rfl,rfl⟩) rfl fun gs=>?_
 rw[Bool.false_or]
 refine Br.dec (fun h2=>?_) (fun h2=>?_)
 ·exact ae.jR (cw.mk .tail rfl)
 ·obtain⟨d,hd⟩:∃d,K.N r=some d:=by rcases hr with h|h;exact absurd h h2;exact h
  have hv:=hK.ok.wf.var hd
  rw[ax hd]at hl
  refine DR.self ?_
  refine Nil.ptr (aa.mk (Ld.mk (v:=ptr kp) (by exact .tail _ hG.cell) rfl ?_))
  rw[dD hd (by omega)]
  refine aa.mk (Ld.mk (v:=.int .i64 (d.v:Int)) (by exact .head _) rfl ?_)
  refine ag.rd (.cons hc) (nv hK.rep (d.v:Int)) ?_
  rw[if_pos (by omega)]
  rintro w rfl
  refine⟨.refl _,?_⟩
  refine Ext.mk rfl (Ext.mk rfl ?_)
  refine ae.jR ?_
  refine bX.and (a:=decide ((0:Int)=0)) (decide (l<lv aj d.v)) (fun _=>ae.lP ⟨rfl,rfl⟩) (by simp) fun gs=>?_
  rw[decide_eq_true hl]
  exact cw.mk .tail rfl
set_option maxHeartbeats 1000000 in
theorem ON(hn:K.n≤16)(hK:cW kp K S ord aj tr C):∀(k:Nat) (r deep:Nat),K.n-dep K.n (lv aj) K.N r≤k→k+1≤deep→deep≤1000→∀(B:Hp) (t:Value),A6 gb kp K.n vr vf refs fs C B→live K.N r→dS B t K.n (S r)→
  Px Tryz.prog 66 #[ptr gb,u32 r,t,.int .i64 (deep:Int)] B (fun w _=>w=.bool true):=by
 have hW:=hK.ok.wf
 have hL:=hK.ok.lv
 have hI:=hK.ok.mid.int
 intro k
 induction k with
 |zero=>
  intro r deep hk hd hdm B t hG hr ht
  obtain⟨c,hc,_⟩:=hG.hole
  have hlt:=hK.cu hr
  obtain⟨ws,⟨s,rfl,hw⟩,hf,he⟩:=ht
  have h2:r<2:=by
   rcases hr with h|⟨d,c9⟩
   ·exact h
   ·rw[ax c9]at hk
    have:=hL.lt _ (hW.var c9);omega
  have h1:∀{s:Value} {X:Hp} {l:List Nat},Words X s l→∀x∈[Value.int .i64 (K.n:Int),s],x.oneCell'=true:=fun hw=>by have:=aT hw;simpa[Value.oneCell']using this
  intro g
  refine wS (R:=aB _) ?_
  unfold L66
  intro b1 _
  refine ae.gn (b:=0) (Br.bt (by omega) ?_)
  refine Nil.ptr (aa.mk (Ld.mk (v:=ptr kp) (by exact .tail _ hG.cell) rfl ?_))
  refine ag.rd (args:=#[ptr kp,u32 r]) (.cons hc) (iT hK.rep (by omega)) ?_
  rw[bT.2 hr]
  rintro w rfl
  refine Ext.mk rfl (Ext.mk rfl ?_)
  intro Cg _
  refine St.whole (r:=got K.N r) (by exact .head _) rfl (aL _ _).1 (aL _ _).2 ?_
  rw[dV h2]
  refine ae.dh (Br.bt (by decide) ?_)
  refine ae.fu (b:=2) (Br.eU h2 ?_)
  refine Nil.ptr (aa.mk (Ld.mk (v:=.int .i64 (K.n:Int)) (by exact .tail _ (.tail _ hG.cell)) rfl ?_))
  refine ae.gn (b:=1) ?_
  refine ag.px .here (vF hn (decide (r=1)) _) ?_
  rintro w N ⟨_,rfl,ws',⟨s',rfl,dx⟩,zV,he'⟩
  refine Ext.mk rfl (Ext.mk rfl ?_)
  intro Gq _
  refine St.whole (r:=[.int .i64 (K.n:Int),s']) (by exact .head _) rfl rfl (h1 dx) ?_
  intro J hJ
  refine ae.jR ?_
  refine Split.go (by decide) ?_
  refine aa.mk (Ld.mk (v:=.int .i64 (-1)) (by exact .tail _ (List.mem_append_right _ (.head _))) rfl ?_)
  refine ae.jR (az.mk ?_)
  refine Split.go (by decide) ?_
  refine aD.whole (r:=[.int .i64 (K.n:Int),s']) (by exact .head _) rfl ?_
  refine aD.whole (r:=[.int .i64 (K.n:Int),s]) (by exact .tail _ (List.mem_append_right _ (.tail _ (.head _)))) rfl ?_
  refine ag.rd .here (pq (n:=K.n) (f:=fun _=>decide (r=1)) (f':=S r) ⟨ws',⟨s',rfl,dx.mono zS⟩,zV,he'⟩ ⟨ws,⟨s,rfl,hw.mono zS⟩,hf,he⟩) ?_
  rintro w ⟨x,rfl,hx⟩
  have:x=true:=hx.2 (by
   have:r=0∨r=1:=by omega
   rcases this with rfl|rfl
   ·exact funext fun x=>(hI.zero x).symm
   ·exact funext fun x=>(hI.one x).symm)
  subst this
  refine az.mk (JE.mk (hJ _ _ fun gs=>?_))
  exact Gz.mk (by repeat (first|exact bR.refl _|apply bR.cons|apply bR.app)) rfl
 |succ k ih=>
  intro r deep hk hd hdm B t hG hr ht
  by_cases NW:K.n-dep K.n (lv aj) K.N r≤k
  ·exact ih r deep NW (by omega) hdm B t hG hr ht
  obtain⟨c,hc,_⟩:=hG.hole
  have hlt:=hK.cu hr
  have h0:=ht
  obtain⟨ws,⟨s,hts,hw⟩,hf,he⟩:=ht
  have hts:t=.agg #[.int .i64 (K.n:Int),s]:=hts
  subst hts
  obtain⟨d,c9⟩:∃d,K.N r=some d:=by
   cases e:K.N r with
   |none=>rw[aX e]at NW;omega
   |some d=>exact⟨d,rfl⟩
  have h2:=hW.two c9
  have hv:=hW.var c9
  have ed:=ax (n:=K.n) (aj:=lv aj) c9
  have hlo:=hW.lo c9
  have hhi:=hW.hi c9
  have hne:=hK.ok.mid.ne c9
  have h1:∀{s:Value} {X:Hp} {l:List Nat},Words X s l→∀x∈[Value.int .i64 (K.n:Int),s],x.oneCell'=true:=fun hw=>by have:=aT hw;simpa[Value.oneCell']using this
  intro g
  refine wS (R:=aB _) ?_
  unfold L66
  intro b1 _
  refine ae.gn (b:=0) (Br.bt (by omega) ?_)
  refine Nil.ptr (aa.mk (Ld.mk (v:=ptr kp) (by exact .tail _ hG.cell) rfl ?_))
  refine ag.rd (args:=#[ptr kp,u32 r]) (.cons hc) (iT hK.rep (by omega)) ?_
  rw[bT.2 hr]
  rintro w rfl
  refine Ext.mk rfl (Ext.mk rfl ?_)
  intro Cg _
  refine St.whole (r:=got K.N r) (by exact .head _) rfl (aL _ _).1 (aL _ _).2 ?_
  rw[dD c9 h2]
  refine ae.dh (Br.bt (by decide) ?_)
  refine ae.fu (b:=2) (Br.bt (by omega) ?_)
  refine DR.self ?_
  refine Nil.ptr (aa.mk (Ld.mk (v:=ptr kp) (by exact .tail _ (.tail _ hG.cell)) rfl ?_))
  refine aa.mk (Ld.mk (v:=.int .i64 (d.v:Int)) (by exact .head _) rfl ?_)
  refine ag.rd (.cons (.cons hc)) (nv hK.rep (d.v:Int)) ?_
  rw[if_pos (by omega)]
  rintro w rfl
  refine⟨.refl _,?_⟩
  refine Ext.mk rfl (Ext.mk rfl ?_)
  refine aD.whole (r:=[.int .i64 (K.n:Int),s]) (by exact .tail _ (.head _)) rfl ?_
  refine aa.mk (Ld.mk (v:=.int .i64 (d.v:Int)) (by exact .head _) rfl ?_)
  refine ag.px .here (lW (c:=false) (h0.mono zS) hv) ?_
  rintro w N1 ⟨_,rfl,w1,⟨s1,rfl,kF⟩,JK,NZ⟩
  refine Ext.mk rfl (Ext.mk rfl ?_)
  intro X5 _
  refine St.whole (r:=[.int .i64 (K.n:Int),s1]) (by exact .head _) rfl rfl (h1 kF) ?_
  refine aD.whole (r:=[.int .i64 (K.n:Int),s]) (by exact .tail _ (List.mem_append_right _ (.tail _ (.head _)))) rfl ?_
  refine aa.mk (Ld.mk (v:=.int .i64 (d.v:Int)) (by exact .tail _ (List.mem_append_right _ (.head _))) rfl ?_)
  refine ag.px .here (lW (c:=true) (h0.mono zS) hv) ?_
  rintro w N2 ⟨_,rfl,w2,⟨s2,rfl,qI⟩,JJ,Vk⟩
  refine Ext.mk rfl (Ext.mk rfl ?_)
  intro X4 _
  refine St.whole (r:=[.int .i64 (K.n:Int),s2]) (by exact .head _) rfl rfl (h1 qI) ?_
  obtain⟨Q,hQ⟩:∃Q:Hp,Q=(X4,Obj.cells #[.int .i64 (K.n:Int),s2] 57 (0,0))::(N2++((X5,.cells #[.int .i64 (K.n:Int),s1] 57 (0,0))::(N1++((Cg,.cells (aZ d).toArray 161 (0,0))::(b1,.cells (Value.agg #[.int .i64 (K.n:Int),s]).cells 57 (0,0))::B)))):=⟨_,rfl⟩
  have gQ:bR B Q:=by rw[hQ];exact .cons (.app (.cons (.app (.cons (.cons (.refl _))))))
  have U1:(Cg,Obj.cells (aZ d).toArray 161 (0,0))∈Q:=by rw[hQ];exact .tail _ (List.mem_append_right _ (.tail _ (List.mem_append_right _ (.head _))))
  have q61:(X5,Obj.cells #[.int .i64 (K.n:Int),s1] 57 (0,0))∈Q:=by rw[hQ];exact .tail _ (List.mem_append_right _ (.head _))
  have q71:(X4,Obj.cells #[.int .i64 (K.n:Int),s2] 57 (0,0))∈Q:=by rw[hQ];exact .head _
  have Zn:=hG.grow gQ
  have tlo:dS Q (.agg #[.int .i64 (K.n:Int),s1]) K.n (S d.lo):=by
   rw[hQ]
   exact⟨w1,⟨s1,rfl,kF.mono zS⟩,JK,NZ.trans (funext fun x=>hW.child hL hI c9 x false)⟩
  have thi:dS Q (.agg #[.int .i64 (K.n:Int),s2]) K.n (S d.hi):=by
   rw[hQ]
   exact⟨w2,⟨s2,rfl,qI.mono zS⟩,JJ,Vk.trans (funext fun x=>hW.child hL hI c9 x true)⟩
  intro J hJ
  have BW:J [.bool false] Q:=by
   refine hJ _ _ fun gs=>Br.no ?_
   intro J2 wy
   refine aa.mk (Ld.mk (v:=u32 d.lo) (by exact U1) rfl ?_)
   refine aD.whole (r:=[.int .i64 (K.n:Int),s1]) (by exact q61) rfl ?_
   refine ae.bF (b:=1) (by simp[aE];omega) (by omega) ?_
   refine ag.px .here (ih d.lo (deep-1) (by omega) (by omega) (by omega) Q _ Zn hlo.1 tlo) ?_
   rintro w N3 rfl
   refine Split.go rfl ?_
   refine aa.mk (Ld.mk (v:=u32 d.hi) (by exact List.mem_append_right _ U1) rfl ?_)
   refine aD.whole (r:=[.int .i64 (K.n:Int),s2]) (by exact List.mem_append_right _ q71) rfl ?_
   refine ae.bF (b:=1) (by simp[aE];omega) (by omega) ?_
   refine ag.px .here (ih d.hi (deep-1) (by omega) (by omega) (by omega) (N3++Q) _ (Zn.app N3) hhi.1 (thi.mono zS)) ?_
   rintro w N4 rfl
   refine az.mk (JE.mk (wy _ _ fun gs=>?_))
   exact Gz.mk (.app (.app gQ)) rfl
  rw[←hQ]
  refine ae.dh ?_
  refine Split.go (by decide) ?_
  refine ae.dh (az.mk ?_)
  refine Split.go (by decide) ?_
  refine ae.dh (az.mk ?_)
  refine Split.go (by decide) ?_
  refine aa.mk (Ld.mk (v:=u32 d.lo) (by exact U1) rfl ?_)
  refine aa.mk (Ld.mk (v:=u32 d.hi) (by exact U1) rfl ?_)
  refine ae.gn (az.mk ?_)
  rw[decide_eq_false hne]
  refine Split.go rfl ?_
  refine aa.mk (Ld.mk (v:=u32 d.lo) (by exact U1) rfl ?_)
  refine ag.rd .here (Av Zn hK hlo.1 hlo.2) ?_
  rintro w rfl
  refine Un.not (az.mk ?_)
  refine Split.go rfl ?_
  refine aa.mk (Ld.mk (v:=u32 d.hi) (by exact U1) rfl ?_)
  refine ag.rd .here (Av Zn hK hhi.1 hhi.2) ?_
  rintro w rfl
  refine Un.not (az.mk (JE.mk BW))
theorem P7(hG:A6 gb kp K.n vr vf refs fs C B)(hg:vA K S refs fs)(hK:cW kp K S ord aj tr C)(hn:K.n≤16)(hm:refs.length<65536)(hne:refs≠[]):
  Px Tryz.prog 21 #[ptr gb] B (fun w _=>w=.bool true):=by
 obtain⟨c,hc,_⟩:=hG.hole
 have hcap:=hK.ok.mid.cap
 have hroom:=hK.ok.mid.room
 have hfl:fs.length=refs.length:=hg.len.symm
 have ab2:fs≠[]:=fun e=>hne (List.length_eq_zero_iff.1 (by rw[←hfl,e];rfl))
 have hsize:K.used-2=g9 K.n ord fs K.n:=by
  have h1:=hK.ok.size hK.od
  have h2:=MV (n:=K.n) (ord:=ord) (L:=fs) hg.qO hn (fun i hi=>(hK.od.bc i hi).1)
  rw[show K.held S=FT K.n fs from funext fun g=>propext (hg.held g)]at h1
  exact h1.uniq h2
 have inj:∀i j,i<refs.length→j<refs.length→(refs.getD i 0=refs.getD j 0↔fg K.n (fs.getD i [])=fg K.n (fs.getD j [])):=fun i j hi hj=>by
  obtain⟨_,e1⟩:=hg.is i hi
  obtain⟨_,e2⟩:=hg.is j hj
  have m1:refs.getD i 0∈refs:=by rw[List.getD_eq_getElem?_getD,List.getElem?_eq_getElem hi];exact List.getElem_mem hi
  have m2:refs.getD j 0∈refs:=by rw[List.getD_eq_getElem?_getD,List.getElem?_eq_getElem hj];exact List.getElem_mem hj
  rw[e1,e2]
  exact⟨fun h=>by rw[h],fun h=>hK.ok.wf.same hK.ok.lv hK.ok.mid.int (hg.live hK m1) (hg.live hK m2) (congrFun h)⟩
 have jF:∀{X:Hp} {i:Nat} {k:Value→Prop} {R:Hp},gi X vf (fs.map fun ws=>⟨K.n,ws⟩)→i<refs.length→(∀x∈X,x∈R)→(∀t,dS X t K.n (fg K.n (fs.getD i []))→k t)→ah 2 vf (.int .i64 (i:Int)) fun p=>aD 2 R p k:=fun{X i k R} hT hi hs hk=>by
  have hi':i<fs.length:=by omega
  have e':fs.getD i []=fs[i]:=by rw[List.getD_eq_getElem?_getD,List.getElem?_eq_getElem hi'];rfl
  refine hT.ld (i:=i) (t:=⟨K.n,fs[i]⟩) (by rw[List.getElem?_map,List.getElem?_eq_getElem hi'];rfl) hs fun s hw=>hk _ ?_
  exact⟨fs[i],⟨s,rfl,hw⟩,hg.qO _ (List.getElem_mem hi'),by rw[e']⟩
 intro g
 refine Jn (R:=aB _) ?_
 unfold L21
 intro J1 TV
 have hJ:∀N:Hp,J1 [.bool false] (N++B):=by
  intro N
  refine TV _ _ fun gs=>Br.no ?_
  refine⟨fun vs H=>∃i:Nat,vs=[.int .i64 (i:Int)]∧i≤refs.length∧bR B H,fun vs _=>refs.length-bK vs 0,JE.mk ⟨0,rfl,Nat.zero_le _,.app (.refl _)⟩,?_⟩
  rintro w9 H ⟨i,hv,hi,gA⟩ gs
  simp only[List.cons.injEq,and_true]at hv
  subst hv
  have Rs:=hG.grow gA
  refine Nil.ptr (aa.mk (Ld.mk (v:=vr) (by exact Rs.cell) rfl ?_))
  refine Rs.rf.bQ ?_
  rw[an]
  refine ae.fu (Br.dec (fun hlt=>?_) (fun hlt=>?_))
  rotate_left
  ·exact Gz.mk gA rfl
  refine DR.self ?_
  refine Nil.ptr (aa.mk (Ld.mk (v:=vr) (by exact Rs.cell) rfl ?_))
  refine Rs.rf.ld (n:=((refs.getD i 0:Nat):Int)) (bg hlt) (fun _ h=>h) ?_
  refine Nil.ptr (aa.mk (Ld.mk (v:=vf) (by exact Rs.cell) rfl ?_))
  refine jF Rs.fn hlt (fun _ h=>h) fun t ht=>?_
  refine Nil.ptr (aa.mk (Ld.mk (v:=.int .i64 (K.n:Int)) (by exact Rs.cell) rfl ?_))
  refine ae.rZ (a:=2) (by simp[aE];omega) ?_
  refine ae.aN (b:=2) (by simp[aE];omega) ?_
  obtain⟨_,e1⟩:=hg.is i hlt
  have mi:refs.getD i 0∈refs:=by rw[List.getD_eq_getElem?_getD,List.getElem?_eq_getElem hlt];exact List.getElem_mem hlt
  rw[e1]at ht
  refine ag.px .here (ON hn hK K.n (refs.getD i 0) (2*K.n+2) (by omega) (by omega) (by omega) H t Rs (hg.live hK mi) ht) ?_
  rintro w N2 rfl
  refine⟨.right,Un.not (Br.no ?_)⟩
  refine⟨fun vs H'=>∃j:Nat,vs=[.int .i64 (j:Int)]∧j≤i∧bR B H',fun vs _=>i-bK vs 0,JE.mk ⟨0,rfl,Nat.zero_le _,.app gA⟩,?_⟩
  rintro Fk H2 ⟨j,hv,hj,BR⟩ gs
  simp only[List.cons.injEq,and_true]at hv
  subst hv
  have Ru:=hG.grow BR
  refine ae.fu (Br.dec (fun iA=>?_) (fun iA=>?_))
  ·refine DR.self ?_
   have FZ:j<refs.length:=by omega
   refine Nil.ptr (aa.mk (Ld.mk (v:=vr) (by exact Ru.cell) rfl ?_))
   refine Ru.rf.ld (n:=((refs.getD i 0:Nat):Int)) (bg hlt) (fun _ h=>h) ?_
   refine Nil.ptr (aa.mk (Ld.mk (v:=vr) (by exact Ru.cell) rfl ?_))
   refine Ru.rf.ld (n:=((refs.getD j 0:Nat):Int)) (bg FZ) (fun _ h=>h) ?_
   refine ae.gn ?_
   refine Nil.ptr (aa.mk (Ld.mk (v:=vf) (by exact Ru.cell) rfl ?_))
   refine jF Ru.fn hlt (fun _ h=>h) fun t1 ht1=>?_
   refine Nil.ptr (aa.mk (Ld.mk (v:=vf) (by exact Ru.cell) rfl ?_))
   refine jF Ru.fn FZ (fun _ h=>h) fun t2 Q6=>?_
   refine ag.rd .here (pq ht1 Q6) ?_
   rintro w ⟨x,rfl,hx⟩
   refine⟨.refl _,?_⟩
   have ex:x=decide (refs.getD i 0=refs.getD j 0):=by
    by_cases e:refs.getD i 0=refs.getD j 0
    ·rw[decide_eq_true e];exact hx.2 ((inj i j hlt FZ).1 e)
    ·rw[decide_eq_false e]
     cases x with
     |false=>rfl
     |true=>exact absurd ((inj i j hlt FZ).2 (hx.1 rfl)) e
   rw[ex]
   refine ae.aaM (Br.mk (fun hb=>by simp at hb) fun _=>?_)
   refine ae.aN (b:=1) (by simp[aE];omega) ?_
   exact aC.mk ⟨j+1,rfl,by omega,BR⟩ (by simp only[bK];omega)
  ·refine ae.aN (b:=1) (by simp[aE];omega) ?_
   exact aC.mk ⟨i+1,rfl,hlt,BR⟩ (by simp only[bK];omega)
 refine DR.self ?_
 refine Nil.ptr (aa.mk (Ld.mk (v:=ptr kp) (by exact hG.cell) rfl ?_))
 intro F
 refine ag.rd hc (sF hK.rep (by omega) (by omega)) ?_
 rintro w rfl
 refine⟨.refl _,?_⟩
 intro F
 have my:gi B (.slice none 0 0) (([]:List (List Nat)).map fun ws=>⟨K.n,ws⟩):=⟨[],Sl.nil _ _,qe.nil⟩
 refine ag.px .here (zY (ms:=[]) hG hg.qO hK (by omega) my (by simp) (by simp) (by simpa using ab2)) ?_
 rintro w N1 rfl
 rw[List.append_nil,←hsize]
 refine⟨.right,?_⟩
 refine ae.yB (Br.bt (by simp) ?_)
 refine Nil.ptr (aa.mk (Ld.mk (v:=ptr kp) (by exact hG.cell) rfl ?_))
 refine Nil.ptr (aa.mk (Ld.mk (v:=ptr kp) (by exact hG.cell) rfl ?_))
 intro F
 refine ag.rd (.app hc) (sF hK.rep (by omega) (by omega)) ?_
 rintro w rfl
 refine⟨.right,?_⟩
 refine ae.aN (b:=2) (by simp only[aE];omega) ?_
 intro F
 refine ag.rd (.app hc) (qE hK.rep) ?_
 rintro w rfl
 refine⟨.right,?_⟩
 refine ae.lP ?_
 rw[decide_eq_false (by omega)]
 exact az.mk (JE.mk (hJ N1))
end
section
variable {B:Hp}
theorem Hs{L:List Nat}{j z:Nat}(hj:j<L.length)(hz:L[L.length-1]? =some z):((L.set j z).take (L.length-1)++[L.getD j 0]).Perm L:=by
 obtain⟨L',z',rfl⟩:∃L' z',L=L'++[z']:=⟨L.dropLast,L.getLast (List.ne_nil_of_length_pos (by omega)),(List.dropLast_concat_getLast _).symm⟩
 have hl:(L'++[z']).length-1=L'.length:=by simp
 rw[hl]at hz⊢
 have ez:z'=z:=by rw[List.getElem?_append_right (Nat.le_refl _),Nat.sub_self]at hz;simpa using hz
 subst ez
 by_cases hj':j<L'.length
 ·rw[List.set_append_left _ _ hj',List.take_left' (by simp)]
  have e:(L'++[z']).getD j 0=L'[j]:=by rw[List.getD_eq_getElem?_getD,List.getElem?_append_left hj',List.getElem?_eq_getElem hj'];rfl
  rw[e]
  classical
  rw[List.perm_iff_count]
  intro x
  rw[List.count_append,List.count_append,List.count_set hj',List.count_singleton,List.count_singleton]
  have hc:(L'[j]==x)=true→0<L'.count x:=fun h=>by
   have:L'[j]=x:=by simpa using h
   exact List.count_pos_iff.2 (this▸List.getElem_mem hj')
  split<;>split<;>simp_all<;>omega
 ·have:j=L'.length:=by rw[List.length_append,List.length_singleton]at hj;omega
  subst this
  rw[List.set_append_right _ _ (Nat.le_refl _),Nat.sub_self,List.take_left' rfl]
  have e:(L'++[z']).getD L'.length 0=z':=by rw[List.getD_eq_getElem?_getD,List.getElem?_append_right (Nat.le_refl _),Nat.sub_self];rfl
  rw[e]
theorem G4{n:Nat}(hn:n≤1048576){v:Value}{l:List Nat}(hl:cX .u8 B v (iw l))(h8:∀x∈l,x<256)(ca:l.length<9223372036854775808):
  Fc Tryz.prog 43 #[.int .i64 (n:Int),v] B (fun w H=>∃p N,H=N++B∧p.Perm (List.range n)∧aP 3 .i64 w (iw p) N):=by
 intro g
 refine Jj (R:=aB _) ?_
 unfold L43
 refine⟨fun vs H=>∃(i:Nat) (s:Value) (CL:Hp),vs=[s,.int .i64 (i:Int)]∧i≤n∧H=CL++B∧aP 3 .i64 s (iw (List.range i)) CL,fun vs _=>n-bK vs 1,JE.mk ⟨0,_,[],rfl,Nat.zero_le _,rfl,aP.nil⟩,?_⟩
 rintro w5 w6 H ⟨i,s,CL,hv,hi,rfl,hL⟩ gs
 simp only[List.cons.injEq,and_true]at hv
 obtain⟨rfl,rfl⟩:=hv
 refine ae.fu (Br.dec (fun hlt=>?_) (fun hlt=>?_))
 ·refine au.int (e:=3) (by kernel_rfl) (by kernel_rfl) (by kernel_rfl) fun bx=>?_
  refine hL.mL (x:=(i:Int)) (.cons .left) (by exact .head _) (by rw[an,List.length_range];omega) (by rw[an,List.length_range];omega) fun s' YQ Rr=>?_
  refine ae.aN (b:=1) (by simp[aE];omega) ?_
  refine aC.of .tail ⟨i+1,s',YQ,rfl,hlt,rfl,?_⟩ (by simp only[bK];omega)
  rw[List.range_succ,bG];exact Rr
 obtain rfl:i=n:=by omega
 refine⟨fun vs H=>∃(k:Nat) (s t:Value) (L p:List Nat) (CL CP:Hp),vs=[s,t,.int .i64 (k:Int)]∧k≤i∧H=CL++(CP++B)∧aP 3 .i64 s (iw L) CL∧aP 3 .i64 t (iw p) CP∧L.length=i-k∧p.length=k∧(p++L).Perm (List.range i),fun vs _=>i-bK vs 2,
  JE.mk ⟨0,_,_,_,[],CL,[],rfl,Nat.zero_le _,rfl,hL,aP.nil,by simp,rfl,.refl _⟩,?_⟩
 clear hL
 rintro jE oX RP H ⟨k,s,t,L,p,CL,CP,hv,hk,rfl,hL,hP,hLl,tw,cG⟩ gs
 simp only[List.cons.injEq,and_true]at hv
 obtain⟨rfl,rfl,rfl⟩:=hv
 refine ae.fu (Br.dec (fun hlt=>?_) (fun hlt=>?_))
 rotate_left
 ·obtain rfl:k=i:=by omega
  have:L=[]:=List.length_eq_zero_iff.1 (by omega)
  subst this
  rw[List.append_nil]at cG
  exact aB.mk .right ⟨p,CP,rfl,cG,hP⟩
 intro J hJ
 have BW:∀j,j<L.length→J [.int .i64 (j:Int)] (CL++(CP++B)):=fun j hj=>by
  refine hJ _ _ fun gs=>?_
  refine hL.ld (x:=((L.getD j 0:Nat):Int)) (bg hj) (fun _ h=>List.mem_append_left _ h) ?_
  refine au.int (e:=3) (by kernel_rfl) (by kernel_rfl) (by kernel_rfl) fun bx=>?_
  refine hP.mL (x:=((L.getD j 0:Nat):Int)) (.cons (.app .left)) (by exact .head _) (by rw[an];omega) (by rw[an];omega) fun t' CP' hP'=>?_
  refine hL.bQ ?_
  rw[an]
  refine ae.bF (b:=1) (by simp[aE];omega) (by omega) ?_
  obtain⟨z,hz⟩:∃z,L[L.length-1]? =some z:=⟨_,List.getElem?_eq_getElem (by omega)⟩
  refine hL.ld (x:=(z:Int)) (cm hz) (fun _ h=>.tail _ (List.mem_append_left _ h)) ?_
  refine hL.jh (x:=(z:Int)) (.cons .left) (by rw[an];exact hj) fun YQ Rr=>?_
  rw[dY]at Rr
  refine Rr.bQ ?_
  rw[an,List.length_set]
  refine ae.bF (b:=1) (by simp[aE];omega) (by omega) ?_
  refine Rr.cut (i:=L.length-1) (by rw[an,List.length_set];omega) fun s' hs'=>?_
  refine ae.aN (b:=1) (by simp[aE];omega) ?_
  have e:(iw (L.set j z)).take (L.length-1)=iw ((L.set j z).take (L.length-1)):=by unfold iw;rw[List.map_take]
  rw[e]at hs'
  refine aC.of .tail ⟨k+1,s',t',(L.set j z).take (L.length-1),p++[L.getD j 0],YQ,CP',rfl,hlt,rfl,hs',by rw[bG];exact hP',by rw[List.length_take,List.length_set];omega,by simp[tw],?_⟩ (by simp only[bK];omega)
  refine List.Perm.trans ?_ cG
  rw[List.append_assoc]
  refine List.Perm.append_left _ ?_
  exact List.perm_append_comm.trans (Hs hj hz)
 refine hl.bQ ?_
 rw[an]
 refine ae.fu (Br.dec (fun h1=>?_) (fun h1=>?_))
 ·refine hl.ld (n:=((l[k]:Nat):Int)) (cm (List.getElem?_eq_getElem h1)) (fun _ h=>List.mem_append_right _ (List.mem_append_right _ h)) ?_
  have:=h8 _ (List.getElem_mem h1)
  refine aY.nat (by simp[aE];omega) ?_
  refine hL.bQ ?_
  rw[an]
  refine ae.rY (by omega) ?_
  exact JE.mk (BW _ (Nat.mod_lt _ (by omega)))
 ·exact JE.mk (BW 0 (by omega))
end
section
variable {Y:Hp}
theorem By{n cap:Nat}(hn:1≤n∧n≤64)(hc:2≤cap∧cap≤1048576):Fc Tryz.prog 54 #[.int .i64 (n:Int),.int .i64 (cap:Int)] Y (fun w H=>∃gb kp C,w=ptr gb∧H=Y++gG gb kp n (.slice none 0 0) (.slice none 0 0) [] [] C∧cW kp (K0 n cap) S0 (List.range n) (List.range n) [] C):=by
 intro g
 refine Jd (R:=aB _) ?_
 unfold L54
 refine ag.fn (cc.left (C:=[]) (A:=Y)) (Sv hn hc) ?_
 rintro w C ⟨kp,rfl,hK⟩
 refine Ext.mk rfl (Ext.mk rfl ?_)
 intro J hJ
 have BW:J [.bool false] (C++Y):=by
  refine hJ _ _ fun gs=>Br.no ?_
  refine Build.mk (cs:=[ptr kp,.int .i64 (n:Int),.slice none 0 0,.slice none 0 0]) (by kernel_rfl) ?_
  intro gb _
  refine aB.mk ?_ ⟨gb,kp,C,rfl,rfl,hK⟩
  refine .perm ?_
  show((gb,_)::(C++Y)).Perm (Y++(gm gb kp n (.slice none 0 0) (.slice none 0 0)::C))
  exact(List.perm_append_comm (l₁:=_::C) (l₂:=Y))
 refine ae.dh ?_
 refine Split.go (by decide) ?_
 refine ae.aH (az.mk ?_)
 refine Split.go rfl ?_
 refine ag.rd .left (iQ hK.rep) ?_
 rintro w rfl
 refine ae.dh (az.mk ?_)
 refine Split.go (by show decide _=false;exact decide_eq_false (fun h=>h rfl)) ?_
 refine ag.rd .left (qE hK.rep) ?_
 rintro w rfl
 refine ae.dh (az.mk ?_)
 refine Split.go (by show decide _=false;exact decide_eq_false (fun h=>h rfl)) ?_
 refine ag.rd .left (sF hK.rep (by show 2≤2;omega) (by show 2≤1048576;omega)) ?_
 rintro w rfl
 refine ae.dh (az.mk ?_)
 exact JE.mk BW
def Grown(n:Nat)(Y:Hp)(w:Value)(H:Hp):Prop:=
 ∃(gb kp:Nat) (K:Kd) (S:Nat→aF.Fn) (refs:List Nat) (fs:List (List Nat)) (vr vf:Value) (M CR CF C:Hp) (rs:List (List Value)) (tr:List Nat),w=ptr gb∧H=M++gG gb kp n vr vf CR CF C∧bR Y M∧QB gb kp K S (List.range n) (List.range n) tr refs fs vr vf M CR CF C rs∧K.n=n∧K.cap=4000∧n≤refs.length∧refs.length≤n+30∧tr=[]
theorem ac9{n cap:Nat}:vA (K0 n cap) S0 [] []:=⟨rfl,by simp,fun i hi=>absurd hi (by simp),fun s=>by simp[K0,Kd.hold]⟩
theorem Bm{kp:Nat}{K:Kd}{S:Nat→aF.Fn}{ord aj tr:List Nat}{C:Hp}(hK:cW kp K S ord aj tr C){x v:Nat}(h:S x=fun y=>y.testBit v):2≤x:=by
 refine Classical.byContradiction fun h2=>?_
 have hint:=hK.ok.mid.int
 have Vq:x=0∨x=1:=by omega
 rcases Vq with rfl|rfl
 ·have:=congrFun h (2^v)
  rw[hint.zero,Nat.testBit_two_pow_self]at this
  cases this
 ·have:=congrFun h 0
  rw[hint.one,Nat.zero_testBit]at this
  cases this
theorem Mz{n:Nat}(hn:1≤n∧n≤6){sv:Value}{ops:List uK}(hs:Sl 6 Y sv (ops.map uK.cells))(ho:∀o∈ops,o.Ok)(ca:ops.length<9223372036854775808):
  Fc Tryz.prog 12 #[.int .i64 (n:Int),sv] Y (Grown n Y):=by
 intro g
 refine Js (R:=aB _) ?_
 unfold L12
 refine ag.fn (args:=#[.int .i64 (n:Int),.int .i64 ((4000:Nat):Int)]) .here (By (Y:=Y) (n:=n) (cap:=4000) ⟨hn.1,by omega⟩ (by decide)) ?_
 rintro w H ⟨gb,kp,C0,rfl,rfl,hK0⟩
 refine ae.aH (Br.no ?_)
 obtain⟨St0,TO⟩:∃St0:Nat→Hp→Prop,St0=fun m H=>∃(K:Kd) (S:Nat→aF.Fn) (refs:List Nat) (fs:List (List Nat)) (vr vf:Value) (M CR CF C:Hp) (rs:List (List Value)),H=M++gG gb kp n vr vf CR CF C∧bR Y M∧QB gb kp K S (List.range n) (List.range n) [] refs fs vr vf M CR CF C rs∧K.n=n∧K.cap=4000∧n≤refs.length∧refs.length≤m:=⟨_,rfl⟩
 refine⟨fun vs H=>∃(i:Nat) (K:Kd) (S:Nat→aF.Fn) (refs:List Nat) (fs:List (List Nat)) (vr vf:Value) (M CR CF C:Hp) (rs:List (List Value)),vs=[.int .i64 (i:Int)]∧i≤n∧H=M++gG gb kp n vr vf CR CF C∧bR Y M∧QB gb kp K S (List.range n) (List.range n) [] refs fs vr vf M CR CF C rs∧K.n=n∧K.cap=4000∧refs.length=i,fun vs _=>n-bK vs 0,
  JE.mk ⟨0,K0 n 4000,S0,[],[],_,_,Y,[],[],C0,[],rfl,Nat.zero_le _,rfl,.refl _,⟨hK0,ac9,aP.nil,aS.nil _ _,qe.nil⟩,rfl,rfl,rfl⟩,?_⟩
 rintro w8 H ⟨i,K,S,refs,fs,vr,vf,M,CR,CF,C,rs,hv,hi,rfl,hY,hG,PN,N8,yF⟩ gs
 simp only[List.cons.injEq,and_true]at hv
 subst hv
 refine ae.fu (Br.dec (fun hlt=>?_) (fun hlt=>?_))
 ·refine aY.nat (by simp[aE];omega) ?_
  refine Build.mk (cs:=(uK.mk 0 i 0 0 0 0).cells) (by kernel_rfl) ?_
  subst PN
  refine ag.fn (args:=#[ptr gb,.agg (uK.mk 0 i 0 0 0 0).cells.toArray]) .here (QL hG hn.1 hn.2 N8 (by omega) (o:=uK.mk 0 i 0 0 0 0) ⟨by show 0<256;omega,by show i<256;omega,by show 0<256;omega,by show 0<256;omega,by show 0<256;omega,by show 0<18446744073709551616;omega⟩) ?_
  rintro w H ⟨rfl,x,a,b,c,K',S',refs',fs',Fl,NN,M',JX,On,C',YV,rfl,gM,TW,hn',lC,rfl,hx,NV,_⟩
  refine Un.not (Br.no ?_)
  refine ae.aN (b:=1) (by simp[aE];omega) ?_
  have h2:2≤x:=Bm TW.ks hx
  rw[if_pos h2]at TW
  exact aC.mk ⟨i+1,K',S',refs++[x],fs',Fl,NN,M',JX,On,C',YV,rfl,hlt,rfl,hY.trans gM,TW,hn',lC.trans N8,by simp[yF]⟩ (by simp only[bK];omega)
 obtain rfl:i=n:=by omega
 refine Nil.ptr (aa.mk (Ld.mk (v:=vr) (by exact List.mem_append_right _ (.head _)) rfl ?_))
 refine hG.rf.bQ ?_
 rw[an,yF]
 refine ae.yB (Br.bt (by simp) ?_)
 refine⟨fun vs H=>∃k:Nat,vs=[.int .i64 (k:Int)]∧k≤ops.length∧k≤30∧St0 (i+k) H,fun vs _=>30-bK vs 0,JE.mk ⟨0,rfl,Nat.zero_le _,by omega,by rw[TO];exact⟨K,S,refs,fs,vr,vf,M,CR,CF,C,rs,rfl,hY,hG,PN,N8,by omega,by omega⟩⟩,?_⟩
 clear hY hG PN N8 yF
 rintro uD H ⟨k,hv,hk,ahC,hst⟩ gs
 simp only[List.cons.injEq,and_true]at hv
 subst hv
 rw[TO]at hst
 obtain⟨K,S,refs,fs,vr,vf,M,CR,CF,C,rs,rfl,hY,hG,PN,N8,FX,FW⟩:=hst
 refine(hs.mono (B':=Y) fun _ h=>h).bQ ?_
 rw[List.length_map]
 refine ae.fu ?_
 refine bX.and (a:=decide (k<ops.length)) (decide (k<30)) (fun _=>ae.fu (b:=30) ⟨rfl,rfl⟩) rfl fun gs=>?_
 refine Br.mk (fun hb=>?_) (fun hb=>?_)
 ·simp only[Bool.and_eq_true,decide_eq_true_eq]at hb
  obtain⟨h1,h3⟩:=hb
  refine ah.sl hs (i:=k) (r:=ops[k].cells) (by rw[List.getElem?_map,List.getElem?_eq_getElem h1];rfl) fun p hp=>?_
  refine aD.at hp rfl (by decide) (fun _ h=>List.mem_append_left _ (hY.sub _ h)) ?_
  subst PN
  refine ag.fn (args:=#[ptr gb,.agg ops[k].cells.toArray]) .here (QL hG hn.1 hn.2 N8 (by omega) (ho _ (List.getElem_mem h1))) ?_
  rintro w H ⟨rfl,x,a,b,c,K',S',refs',fs',Fl,NN,M',JX,On,C',YV,rfl,gM,TW,hn',lC,rfl,hx,NV,_⟩
  refine Un.not (Br.no ?_)
  refine ae.aN (b:=1) (by simp[aE];omega) ?_
  refine aC.mk ⟨k+1,rfl,h1,by omega,?_⟩ (by simp only[bK];omega)
  rw[TO]
  refine⟨K',S',_,fs',Fl,NN,M',JX,On,C',YV,rfl,hY.trans gM,TW,hn',lC.trans N8,?_,?_⟩
  ·rw[List.length_append];omega
  ·rw[List.length_append];split<;>simp<;>omega
 ·exact aB.here ⟨gb,kp,K,S,refs,fs,vr,vf,M,CR,CF,C,rs,[],rfl,rfl,hY,hG,PN,N8,FX,by omega,rfl⟩
end
theorem K6{B:Hp}{v1 v2:Value}{p q:List Nat}{n:Nat}(h1:cX .i64 B v1 (iw p))(h2:cX .i64 B v2 (iw q))(hp:p.Perm (List.range n))(hq:q.Perm (List.range n))(hn:n≤64):
  Fc Tryz.prog 102 #[v1,v2] B (fun r H=>∃s C,r=.tuple #[s,.int .i64 0]∧H=C++B∧aP 3 .i64 s (iw (path p q)) C):=by
 have e1:p.length=n:=by rw[hp.length_eq,List.length_range]
 have e2:q.length=n:=by rw[hq.length_eq,List.length_range]
 have ig:q.Nodup:=hq.nodup_iff.2 List.nodup_range
 have hpq:=hp.trans hq.symm
 intro g
 refine E5 (R:=aB _) ?_
 unfold L102
 refine ag.rd .here (Qe h1 h2 hp hq hn) ?_
 rintro v rfl
 refine ae.dh (Br.bt (by decide) ?_)
 refine ag.fn .here (tQ h1 (by rw[an];omega)) ?_
 rintro va H ⟨CA,rfl,hA⟩
 refine h2.bQ ?_
 rw[an]
 refine⟨fun vs H=>∃(i:Nat) (w9:Value) (C N:Hp),vs=[w9,.int .i64 (i:Int)]∧i≤n∧H=C++(N++B)∧aP 3 .i64 w9 (iw (eX p q i)) C∧aP 3 .i64 va (iw (av p (eX p q i))) N,fun vs _=>n-bK vs 1,
  JE.mk ⟨0,_,[],CA,rfl,Nat.zero_le _,rfl,aP.nil,hA⟩,?_⟩
 rintro w9 oY H ⟨i,u9,C,N,hv,hi,rfl,ho,hw⟩ gs
 simp only[List.cons.injEq,and_true]at hv
 obtain⟨rfl,rfl⟩:=hv
 refine ae.fu (Br.dec (fun hlt=>?_) (fun hlt=>?_))
 rotate_left
 ·obtain rfl:i=q.length:=by omega
  exact aB.mk (.c8 .right _) ⟨w9,C,rfl,rfl,ho⟩
 have spec:=kS ig hpq i (by omega)
 obtain⟨s1,s2,s3⟩:=spec
 obtain⟨s4,s5⟩:=s3 hlt
 have ae7:=nj ig hpq (i+1) (by omega)
 have qh:(i+1)*p.length≤64*64:=Nat.mul_le_mul (by omega) (by omega)
 refine h2.ld (n:=((q.getD i 0:Nat):Int)) (bg hlt) (fun _ h=>List.mem_append_right _ (List.mem_append_right _ h)) ?_
 have hmem:q.getD i 0∈av p (eX p q i):=by
  have:q.getD i 0∈q:=by rw[List.getD_eq_getElem?_getD,List.getElem?_eq_getElem hlt];exact List.getElem_mem _
  exact((iG s1).trans hpq).mem_iff.2 this
 refine ag.rd (.app .left) (G9 hw.ints (by rw[an,dP];omega)) ?_
 rintro v rfl
 rw[if_pos (Lo.2 hmem),SS]
 refine⟨fun vs H=>∃(j:Nat) (u9:Value) (P:List Nat) (C N:Hp),vs=[u9,.int .i64 (j:Int)]∧i≤j∧j<n∧P++B8 i j=eX p q (i+1)∧H=C++(N++B)∧aP 3 .i64 u9 (iw P) C∧aP 3 .i64 va (iw (av p P)) N,fun vs _=>bK vs 1,
  JE.mk ⟨U2 (av p (eX p q i)) (q.getD i 0),w9,eX p q i,C,N,rfl,s4,by omega,rfl,rfl,ho,hw⟩,?_⟩
 rintro qk sn H ⟨j,u9,P,C2,N2,hv,hij,NX,hP,rfl,o7,qI⟩ gs
 simp only[List.cons.injEq,and_true]at hv
 obtain⟨rfl,rfl⟩:=hv
 refine ae.lP (Br.dec (fun hgt=>?_) (fun hgt=>?_))
 ·obtain⟨j,rfl⟩:∃k,j=k+1:=⟨j-1,by omega⟩
  have hPl:P.length≤4096:=by
   have:=congrArg List.length hP
   rw[List.length_append]at this;omega
  have hlen:(av p P).length=n:=by rw[dP,e1]
  refine DR.self ?_
  refine ae.bF (b:=1) (by simp[aE];omega) (by omega) ?_
  rw[Nat.add_sub_cancel]
  refine qI.ld (x:=(((av p P).getD (j+1) 0:Nat):Int)) (bg (by omega)) (fun _ h=>List.mem_append_right _ (List.mem_append_left _ h)) ?_
  refine ae.bF (b:=1) (by simp[aE];omega) (by omega) ?_
  rw[Nat.add_sub_cancel]
  refine qI.ld (x:=(((av p P).getD j 0:Nat):Int)) (bg (by omega)) (fun _ h=>List.mem_append_right _ (List.mem_append_left _ h)) ?_
  refine qI.jh (x:=(((av p P).getD (j+1) 0:Nat):Int)) (.app .left) (by rw[an];omega) fun N3 Pg=>?_
  refine Pg.jh (x:=(((av p P).getD j 0:Nat):Int)) (.app .left) (by rw[List.length_set,an];omega) fun N4 NT=>?_
  have e:((iw (av p P)).set j (((av p P).getD (j+1) 0:Nat):Int)).set (j+1) (((av p P).getD j 0:Nat):Int)=iw (av p (P++[j])):=by
   rw[eP];unfold gI;rw[dY,dY]
  rw[e]at NT
  refine ae.bF (b:=1) (by simp[aE];omega) (by omega) ?_
  rw[Nat.add_sub_cancel]
  refine au.int (e:=3) (by kernel_rfl) (by kernel_rfl) (by kernel_rfl) fun bx=>?_
  refine o7.mL (.cons .left) (by exact .head _) (by rw[an];omega) (by rw[an];omega) fun v' C3 u6=>?_
  refine ae.bF (b:=1) (by simp[aE];omega) (by omega) ?_
  rw[Nat.add_sub_cancel]
  refine aC.of .tail ⟨j,v',P++[j],C3,N4,rfl,by omega,by omega,?_,rfl,by rw[bG];exact u6,NT⟩ ?_
  ·rw[←hP,pY (show i≤j by omega),List.append_assoc];rfl
  ·simp only[bK];omega
 ·obtain rfl:j=i:=by omega
  rw[ye (Nat.le_refl _),List.append_nil]at hP
  subst hP
  refine ae.aN (b:=1) (by simp[aE];omega) ?_
  exact aC.of (.refl _) ⟨j+1,qk,C2,N2,rfl,by omega,rfl,o7,qI⟩ (by simp only[bK];omega)
theorem OO{a b:Nat}(ha:a≤1048576)(hb:b≤1048576):Fc Tryz.prog 106 #[.int .i64 (a:Int),.int .i64 (b:Int)] [] (fun r H=>aP 3 .i64 r (iw (road a b)) H):=by
 intro g
 refine E0 (R:=aB _) ?_
 unfold L106
 refine⟨fun vs H=>∃(i:Nat) (u:Value),vs=[.int .i64 ((a+i:Nat):Int),u]∧i≤b-a∧aP 3 .i64 u (iw (List.range' a i)) H,fun vs _=>b-bK vs 0,JE.mk ⟨0,_,rfl,Nat.zero_le _,aP.nil⟩,?_⟩
 rintro w5 w6 H ⟨i,u,hv,hi,ho⟩ gs
 simp only[List.cons.injEq,and_true]at hv
 obtain⟨rfl,rfl⟩:=hv
 refine ae.fu (Br.dec (fun hlt=>?_) (fun hlt=>?_))
 ·refine au.int (e:=3) (by kernel_rfl) (by kernel_rfl) (by kernel_rfl) fun bx=>?_
  refine ho.mL (.cons .here) (by exact .head _) (by rw[an];simp;omega) (by rw[an];simp;omega) fun v' C3 u6=>?_
  refine ae.aN (b:=1) (by simp[aE];omega) ?_
  refine aC.of .tail ⟨i+1,v',rfl,by omega,?_⟩ (by simp only[bK];omega)
  rw[List.range'_1_concat,bG];exact u6
 ·obtain rfl:i=b-a:=by omega
  refine⟨fun vs H=>∃(k:Nat) (u:Value),vs=[.int .i64 ((max a b-k:Nat):Int),u]∧k≤a-b∧aP 3 .i64 u (iw (List.range' a (b-a)++(List.range' (max a b-k) k).reverse)) H,fun vs _=>bK vs 0,
   JE.mk ⟨0,_,by rw[show a+(b-a)=max a b-0 by omega],Nat.zero_le _,by simpa using ho⟩,?_⟩
  rintro jE oX H ⟨k,u,hv,hk,o7⟩ gs
  simp only[List.cons.injEq,and_true]at hv
  obtain⟨rfl,rfl⟩:=hv
  refine ae.lP (Br.dec (fun iA=>?_) (fun iA=>?_))
  ·have e:max a b-k-1=max a b-(k+1):=by omega
   refine ae.bF (b:=1) (by simp[aE];omega) (by omega) ?_
   rw[e]
   refine au.int (e:=3) (by kernel_rfl) (by kernel_rfl) (by kernel_rfl) fun bx=>?_
   refine o7.mL (.cons .here) (by exact .head _) (by rw[an];simp;omega) (by rw[an];simp;omega) fun v' C3 u6=>?_
   refine ae.bF (b:=1) (by simp[aE];omega) (by omega) ?_
   rw[e]
   refine aC.of .tail ⟨k+1,v',rfl,by omega,?_⟩ (by simp only[bK];omega)
   have e2:List.range' (max a b-(k+1)) (k+1)=(max a b-(k+1))::List.range' (max a b-k) k:=by
    rw[List.range'_succ,show max a b-(k+1)+1=max a b-k by omega]
   rw[e2,List.reverse_cons,←List.append_assoc,bG];exact u6
  ·obtain rfl:k=a-b:=by omega
   refine aB.here ?_
   unfold road
   by_cases hab:a≤b
   ·have e0:a-b=0:=by omega
    rw[e0]at o7⊢;simpa using o7
   ·rw[show max a b-(a-b)=b by omega]at o7;exact o7
def wk(b kp f d:Nat)(ok:Bool):Nat×Obj:=(b,.cells #[ptr kp,.int .i64 (f:Int),.int .i64 (d:Int),.bool ok] 260 (0,0))
section
variable {kp b f d:Nat} {K:Kd} {S:Nat→aF.Fn} {ord tr:List Nat} {C:Hp}
theorem vC(h:At kp K S ord tr C):Fc Tryz.prog 104 #[ptr kp] C (fun r H=>∃b,r=ptr b∧H=wk b kp tr.length 0 false::C):=by
 intro g
 refine E3 (R:=aB _) ?_
 unfold L104
 refine ag.rd .here (tU h) ?_
 rintro v rfl
 refine Build.mk (cs:=[ptr kp,.int .i64 ((tr.length:Nat):Int),.int .i64 0,.bool false]) (by kernel_rfl) ?_
 intro b _
 exact aB.here ⟨b,rfl,rfl⟩
theorem yK(h:At kp K S ord tr C){l:Nat}(hl:l+1<K.n)(je:tr.length<1099511627776)(hf:iR K S ord l)(hd:d<4611686018427387904):
  Fc Tryz.prog 107 #[ptr b,.int .i64 (l:Int)] (wk b kp f d false::C) (fun r H=>r=.int .i64 0∧∃C',H=wk b kp f (d+1) false::C'∧At kp K S (gI ord l) (tr++[l]) C'):=by
 intro g
 refine uA (R:=aB _) ?_
 unfold L107
 refine Nil.ptr (aa.mk (Ld.mk (v:=ptr kp) (by exact .head _) rfl ?_))
 refine ag.fn (.cons .here) (Gu h hl je hf) ?_
 rintro v C' ⟨rfl,h'⟩
 intro J hJ
 refine ae.jR (Br.eU rfl ?_)
 refine Nil.ptr (aa.mk (Ld.mk (v:=.int .i64 (d:Int)) (by exact .head _) rfl ?_))
 refine ae.aN (b:=1) (by simp[aE];omega) ?_
 refine Nil.ptr (aa.mk (St.one (by exact .head _) rfl (by simp) rfl ?_))
 exact JE.mk (hJ _ fun gs=>aB.here ⟨rfl,C',rfl,h'⟩)
theorem J0(h:At kp K S ord tr C){l:Nat}(hl:l+1<K.n)(je:tr.length<1099511627776)(hf:¬iR K S ord l):
  Rd Tryz.prog 107 #[ptr b,.int .i64 (l:Int)] (wk b kp f d false::C) (· =.int .i64 9):=by
 intro g
 refine uA (R:=aB _) ?_
 unfold L107
 refine Nil.ptr (aa.mk (Ld.mk (v:=ptr kp) (by exact .head _) rfl ?_))
 refine ag.rd (.cons .here) (tW h hl je hf) ?_
 rintro v rfl
 intro J hJ
 refine ae.jR (Br.bt (by decide) ?_)
 exact JE.mk (hJ _ fun gs=>cw.mk (.refl _) rfl)
theorem sO{ok:Bool}{path:List Nat}(h:At kp K S (av ord path) (tr++path) C)(hp:∀l∈path,l+1<K.n)(je:(tr++path).length<1099511627776)(hd:d<4611686018427387904):
  Fc Tryz.prog 108 #[ptr b] (wk b kp tr.length d ok::C) (fun r H=>r=.tuple #[]∧∃C',H=wk b kp tr.length (d+path.length) ok::C'∧At kp K S ord tr C'):=by
 have tw:path.length<1099511627776:=by rw[List.length_append]at je;omega
 intro g
 refine EZ (R:=aB _) ?_
 unfold L108
 refine DR.of (R:=[wk b kp tr.length d ok]) (aU.left (A:=[_]) (B:=C)) ?_
 refine Nil.ptr (aa.mk (Ld.mk (v:=ptr kp) (by exact .head _) rfl ?_))
 refine Nil.ptr (aa.mk (Ld.mk (v:=.int .i64 ((tr.length:Nat):Int)) (by exact .head _) rfl ?_))
 refine ag.fn (args:=#[ptr kp,.int .i64 ((tr.length+0:Nat):Int)]) (.cons .here) (Qf h hp (Nat.zero_le _) je) ?_
 rintro v C' ⟨rfl,h'⟩
 rw[List.take_zero,List.append_nil]at h'
 refine⟨aU.left (A:=[_]) (B:=C'),?_⟩
 refine Ext.mk rfl (Ext.mk rfl ?_)
 refine Nil.ptr (aa.mk (Ld.mk (v:=.int .i64 (d:Int)) (by exact .head _) rfl ?_))
 refine ae.aN (by simp[aE];omega) ?_
 refine Nil.ptr (aa.mk (St.one (by exact .head _) rfl (by simp) rfl ?_))
 exact aB.here ⟨rfl,C',rfl,h'⟩
theorem GO:Rd Tryz.prog 105 #[ptr b] (wk b kp f d true::C) (· =.tuple #[]):=by
 intro g
 refine uB (R:=aB _) ?_
 unfold L105
 refine Nil.ptr (aa.mk (Ld.mk (v:=.bool true) (by exact .head _) rfl ?_))
 exact Un.not (Br.no (cw.mk (.refl _) rfl))
theorem GP{path:List Nat}(h:At kp K S (av ord path) (tr++path) C)(hp:∀l∈path,l+1<K.n)(je:(tr++path).length<1099511627776)(hd:d<4611686018427387904):
  Fc Tryz.prog 105 #[ptr b] (wk b kp tr.length d false::C) (fun r H=>r=.tuple #[]∧∃C',H=wk b kp tr.length (d+path.length) false::C'∧At kp K S ord tr C'):=by
 intro g
 refine uB (R:=aB _) ?_
 unfold L105
 refine Nil.ptr (aa.mk (Ld.mk (v:=.bool false) (by exact .head _) rfl ?_))
 refine Un.not (Br.yes ?_)
 refine ag.fn .here (sO h hp je hd) ?_
 rintro v H ⟨rfl,C',rfl,h'⟩
 exact aB.here ⟨rfl,C',rfl,h'⟩
theorem tV(h:At kp K S ord tr C){v:Nat}(hv:v<K.n):Rd Tryz.prog 46 #[ptr kp,.int .i64 (v:Int)] C (fun r=>∃p,p<K.n∧ord.getD p 0=v∧r=.tuple #[.int .i64 (p:Int),.int .i64 0]):=by
 obtain⟨K',S',dm,h,hk⟩:=h
 obtain⟨b,rfl,hO⟩:=h.rep
 have hn:=hO.qA
 have uX:v<K'.n:=by rw[hk.n];exact hv
 have hlen:v<dm.length:=by rw[hO.ol.2];exact uX
 intro g
 refine wT (R:=aB _) ?_
 unfold L46
 refine ae.aH (Br.no ?_)
 refine ag.rd .here (sE h.rep (v:Int)) ?_
 rintro r rfl
 rw[decide_eq_true (by omega)]
 refine Un.not (Br.no ?_)
 refine Nil.ptr (aa.mk (Ld.mk (v:=b.vl) (by exact .head _) rfl ?_))
 refine hO.lv.ld (x:=((dm.getD v 0:Nat):Int)) (bg hlen) (cc.sub (.cons (.app (.app (.app (.app (.app .left))))))) ?_
 refine cw.mk (.refl _) ⟨dm.getD v 0,?_,?_,rfl⟩
 ·rw[←hk.n];exact h.ok.lv.lt v uX
 ·exact h.od.of h.ok.lv uX
def GA(kp:Nat)(K:Kd)(S:Nat→aF.Fn)(ord tr ls:List Nat)(r:Value)(C:Hp):Prop:=
 ((rm K S).can ord ls=true∧r=.tuple #[.int .i64 ((ls.length:Nat):Int),.int .i64 0]∧At kp K S (av ord ls) (tr++ls) C)∨
 ((rm K S).can ord ls=false∧r=.tuple #[.int .i64 ((2*((rm K S).dZ 0 ls ord).length:Nat):Int),.int .i64 9]∧At kp K S ord tr C)
theorem O3{Y:Hp}{v:Value}{ls:List Nat}(h:At kp K S ord tr C)(hI:cX .i64 Y v (iw ls))(hp:∀l∈ls,l+1<K.n)(je:tr.length+ls.length<1099511627776):
  Fc Tryz.prog 103 #[ptr kp,v] (Y++C) (fun r H=>∃C',H=Y++C'∧GA kp K S ord tr ls r C'):=by
 let m:=rm K S
 have hgl:=m.z8 0 ls ord
 have hpt:∀i,∀l∈ls.take i,l+1<K.n:=fun i l hl=>hp l (List.mem_of_mem_take hl)
 intro g
 refine E4 (R:=aB _) ?_
 unfold L103
 intro b1 _
 refine ag.fn (.cons (.app .here)) (vC h) ?_
 rintro v3 H ⟨b,rfl,rfl⟩
 intro b5 _
 refine St.one (by exact .head _) rfl (by simp) rfl ?_
 refine hI.bQ ?_
 rw[an]
 refine⟨fun vs H=>∃i C2,i≤(m.dZ 0 ls ord).length∧vs=[.int .i64 (i:Int)]∧H=(b5,.cells #[ptr b] 169 (0,0))::(b1,.cells #[.int .i64 0] 3 (0,0))::(Y++(wk b kp tr.length i false::C2))∧At kp K S (av ord (ls.take i)) (tr++ls.take i) C2,
  fun vs _=>ls.length-bK vs 0,JE.mk ⟨0,C,Nat.zero_le _,rfl,rfl,by simpa[av]using h⟩,?_⟩
 rintro qg H ⟨i,C2,hi,hv,rfl,h2⟩ gs
 simp only[List.cons.injEq,and_true]at hv
 subst hv
 have L4:(tr++ls.take i).length<1099511627776:=by rw[List.length_append,List.length_take];omega
 refine ae.fu (Br.dec (fun hlt=>?_) (fun hlt=>?_))
 ·refine hI.ld (n:=((ls.getD i 0:Nat):Int)) (bg hlt) (fun _ h=>.tail _ (.tail _ (List.mem_append_left _ h))) ?_
  have eg:ls.getD i 0=ls[i]:=by rw[List.getD_eq_getElem?_getD,List.getElem?_eq_getElem hlt];rfl
  have vb:ls.getD i 0+1<K.n:=by rw[eg];exact hp _ (List.getElem_mem hlt)
  have eq:ls[i]? =some (ls.getD i 0):=by rw[eg];exact List.getElem?_eq_getElem hlt
  refine Ld.mk (v:=ptr b) (by exact .head _) rfl ?_
  by_cases hg:i<(m.dZ 0 ls ord).length
  ·have hf:iR K S (av ord (ls.take i)) (ls.getD i 0):=l7.1 (m.Aa hg eq)
   refine ag.fn (.cons (.cons (.app .here))) (yK h2 vb L4 hf (by omega)) ?_
   rintro r H ⟨rfl,C3,rfl,h3⟩
   refine ae.dh (Br.bt (by decide) ?_)
   refine ae.aN (b:=1) (by simp[aE];omega) ?_
   refine aC.mk ⟨i+1,C3,hg,rfl,rfl,?_⟩ (by simp only[bK];omega)
   have e:ls.take (i+1)=ls.take i++[ls.getD i 0]:=by rw[List.take_add_one,eq];rfl
   rw[e,eP,←List.append_assoc];exact h3
  ·obtain rfl:i=(m.dZ 0 ls ord).length:=by omega
   have hf:¬iR K S (av ord (ls.take (m.dZ 0 ls ord).length)) (ls.getD (m.dZ 0 ls ord).length 0):=fun hf=>by
    have h8:=m.Il eq
    have h9:=l7.2 hf
    rw[show(rm K S).fit _ _=false from h8]at h9;cases h9
   refine ag.rd (.cons (.cons (.app .here))) (J0 h2 vb L4 hf) ?_
   rintro r rfl
   refine ae.dh (Br.eU (by decide) ?_)
   refine St.one (by exact .tail (.head _)) rfl (by simp) rfl ?_
   refine rM (R:=_) ?_
   unfold L180
   refine Ld.mk (v:=ptr b) (by exact .head _) rfl ?_
   refine ag.fn (.cons (.cons (.app .here))) (GP h2 (hpt _) L4 (by omega)) ?_
   rintro r H ⟨rfl,C3,rfl,h3⟩
   refine Ld.mk (v:=ptr b) (by exact .head _) rfl ?_
   have eD:(m.dZ 0 ls ord).length+(ls.take (m.dZ 0 ls ord).length).length=2*(m.dZ 0 ls ord).length:=by rw[List.length_take];omega
   rw[eD]
   refine Nil.ptr (aa.mk (Ld.mk (v:=.int .i64 ((2*(m.dZ 0 ls ord).length:Nat):Int)) (by exact .tail _ (.tail _ (List.mem_append_right _ (.head _)))) rfl ?_))
   refine St.one (by exact .tail (.head _)) rfl (by simp) rfl ?_
   refine⟨⟨_,rfl⟩,?_⟩
   refine Ld.mk (v:=.int .i64 ((2*(m.dZ 0 ls ord).length:Nat):Int)) (by exact .tail _ (.head _)) rfl ?_
   refine aB.mk (.skip (.skip (.c8 .tail _))) ⟨C3,rfl,.inr ⟨decide_eq_false (show¬(m.dZ 0 ls ord).length=ls.length by omega),rfl,h3⟩⟩
 ·have Tv:i=ls.length:=by omega
  subst Tv
  rw[List.take_length]at h2
  have hcan:(rm K S).can ord ls=true:=decide_eq_true (show(m.dZ 0 ls ord).length=ls.length by omega)
  refine Ld.mk (v:=ptr b) (by exact .head _) rfl ?_
  refine Nil.ptr (aa.mk (St.one (cM.tail (cM.tail (cM.bW (.head _) _))) rfl (by simp) rfl ?_))
  refine St.one (by exact .tail (.head _)) rfl (by simp) rfl ?_
  refine rM (R:=_) ?_
  unfold L180
  refine Ld.mk (v:=ptr b) (by exact .head _) rfl ?_
  refine ag.rd (B:=wk b kp tr.length ls.length true::C2) (.cons (.cons (.app .here))) GO ?_
  rintro r rfl
  refine Ld.mk (v:=ptr b) (by exact .head _) rfl ?_
  refine Nil.ptr (aa.mk (Ld.mk (v:=.int .i64 ((ls.length:Nat):Int)) (by exact .tail _ (.tail _ (List.mem_append_right _ (.head _)))) rfl ?_))
  refine St.one (by exact .tail (.head _)) rfl (by simp) rfl ?_
  refine⟨⟨_,rfl⟩,?_⟩
  refine Ld.mk (v:=.int .i64 ((ls.length:Nat):Int)) (by exact .tail _ (.head _)) rfl ?_
  refine aB.mk (.skip (.skip (.c8 .tail _))) ⟨C2,rfl,.inl ⟨hcan,rfl,h2⟩⟩
end
end Go.Proofs
namespace aF
def Rm.uQ(m:Rm)(ord:List Nat)(p j:Nat):Nat:=if p≤j then m.size (av ord ((road p (m.n-1)).take (j-p)))else m.size (av ord ((road p 0).take (p-j)))
def Rm.yX(m:Rm)(ord:List Nat)(p lo hi:Nat):List Nat:=(List.range m.n).map fun j=>if lo≤j∧j≤hi then m.uQ ord p j else 0
def Rm.sizes(m:Rm)(ord:List Nat)(p:Nat):List Nat:=(List.range m.n).map fun j=>m.uQ ord p j
theorem Rm.mW(m:Rm)(ord:List Nat)(p lo hi:Nat):(m.yX ord p lo hi).length=m.n:=by simp[yX]
theorem Rm.OE(m:Rm)(ord:List Nat)(p:Nat):m.yX ord p 0 (m.n-1)=m.sizes ord p:=by
 refine List.map_congr_left fun j hj=>if_pos ?_
 have:=List.mem_range.1 hj;omega
theorem Rm.OC(m:Rm){ord:List Nat}{p lo hi j lo' hi':Nat}(hj:j<m.n)(h:∀k,(lo'≤k∧k≤hi')↔((lo≤k∧k≤hi)∨k=j)):(m.yX ord p lo hi).set j (m.uQ ord p j)=m.yX ord p lo' hi':=by
 apply List.ext_getElem?
 intro k
 by_cases hk:k<m.n
 ·by_cases e:j=k
  ·subst e
   rw[List.getElem?_set_self (by rw[mW];exact hj)]
   simp only[yX,List.getElem?_map,List.getElem?_range hk,Option.map_some]
   rw[if_pos ((h j).2 (.inr rfl))]
  ·rw[List.getElem?_set_ne e]
   simp only[yX,List.getElem?_map,List.getElem?_range hk,Option.map_some]
   congr 1
   have:=h k
   by_cases h1:lo≤k∧k≤hi
   ·rw[if_pos h1,if_pos (this.2 (.inl h1))]
   ·rw[if_neg h1,if_neg (fun h2=>(this.1 h2).elim h1 fun h3=>e h3.symm)]
 ·rw[List.getElem?_eq_none (by rw[List.length_set,mW];omega),List.getElem?_eq_none (by rw[mW];omega)]
theorem Rm.OD(m:Rm){ord:List Nat}{p:Nat}(hp:p<m.n):(List.replicate m.n 0).set p (m.size ord)=m.yX ord p p p:=by
 apply List.ext_getElem?
 intro k
 by_cases hk:k<m.n
 ·by_cases e:p=k
  ·subst e
   rw[List.getElem?_set_self (by simpa using hp)]
   simp[yX,hk,uQ,av]
  ·rw[List.getElem?_set_ne e]
   have:¬(p≤k∧k≤p):=by omega
   simp[yX,hk,this]
 ·rw[List.getElem?_eq_none (by simp;omega),List.getElem?_eq_none (by rw[mW];omega)]
theorem vM{p n k:Nat}(hp:p<n)(hk:k<(road p (n-1)).length):(road p (n-1))[k]? =some (p+k)∧p+k+1<n:=by
 unfold road at hk⊢
 have e:p-(n-1)=0:=by omega
 rw[e]at hk⊢
 simp only[List.range'_zero,List.reverse_nil,List.append_nil,List.length_range']at hk⊢
 exact⟨by rw[List.getElem?_range' hk,Nat.one_mul],by omega⟩
theorem sB{p k:Nat}(hk:k<(road p 0).length):(road p 0)[k]? =some (p-1-k)∧k<p:=by
 unfold road at hk⊢
 simp only[Nat.zero_sub,List.range'_zero,List.nil_append,List.length_reverse,List.length_range',Nat.sub_zero]at hk⊢
 refine⟨?_,hk⟩
 rw[List.getElem?_reverse (by simpa using hk),List.length_range',List.getElem?_range' (by omega)]
 congr 1;omega
theorem uS{p n:Nat}(hp:p<n):(road p (n-1)).length=n-1-p:=by rw[jZ];omega
theorem y8(p:Nat):(road p 0).length=p:=by rw[jZ];omega
end aF
set_option maxRecDepth 100000
namespace Go.Proofs
open Go Go.Sx
open aF
section
variable {kp b f d:Nat} {K:Kd} {S:Nat→aF.Fn} {ord tr:List Nat} {C:Hp}
theorem GA.tup{ls:List Nat}{r:Value}(h:GA kp K S ord tr ls r C):∃x y,r=.tuple #[x,y]:=by
 rcases h with⟨_,rfl,_⟩|⟨_,rfl,_⟩<;>exact⟨_,_,rfl⟩
theorem Lc{Y:Hp}{v:Value}{q:List Nat}(h:At kp K S ord tr C)(hI:cX .i64 Y v (iw q))(Wv:ord.Perm (List.range K.n))(hpq:q.Perm (List.range K.n))(je:tr.length<549755813888):
  Fc Tryz.prog 42 #[ptr kp,v] (Y++C) (fun r H=>∃C',H=Y++C'∧GA kp K S ord tr (path ord q) r C'):=by
 have hn:=h.qA
 have uZ:ord.length=K.n:=by rw[Wv.length_eq,List.length_range]
 have hql:q.length=K.n:=by rw[hpq.length_eq,List.length_range]
 have ig:q.Nodup:=hpq.nodup_iff.2 List.nodup_range
 intro g
 refine Jk (R:=aB _) ?_
 unfold L42
 refine ae.aH (Br.no ?_)
 intro J2 wy
 refine ag.rd .left (ni hI (by rw[an];omega)) ?_
 rintro r (⟨rfl,ha,hl⟩|⟨_,_,hl⟩|⟨_,hno⟩)
 rotate_left
 ·rw[an]at hl;omega
 ·exact absurd (uc hpq) hno
 refine ae.dh (Split.go (by decide) ?_)
 refine hI.bQ ?_
 refine ag.rd (.app .here) (nH h) ?_
 rintro r rfl
 refine ae.yB ?_
 rw[decide_eq_false (by rw[an];omega)]
 refine az.mk (JE.mk (wy _ _ fun gs=>Br.no ?_))
 refine ag.fn (.app .here) (Ni h) ?_
 rintro vo H ⟨N,rfl,ho⟩
 refine ag.pre (H':=(N++Y)++C) (.perm (by rw[List.append_assoc,←List.append_assoc,←List.append_assoc];exact List.perm_append_comm.append_right C)) ?_
 refine ag.fn .left (K6 (ho.ints.mono fun _ h=>List.mem_append_left _ h) (hI.mono fun _ h=>List.mem_append_right _ h) Wv hpq hn) ?_
 rintro r H ⟨s,CP,rfl,rfl,hP⟩
 refine Ext.mk rfl (Ext.mk rfl (ae.dh (Br.bt (by decide) ?_)))
 obtain⟨_,tw⟩:=FI ig (Wv.trans hpq.symm)
 have ae4:(path ord q).length≤4096:=by
  have:=nj ig (Wv.trans hpq.symm) q.length (Nat.le_refl _)
  have h2:q.length*ord.length≤64*64:=Nat.mul_le_mul (by omega) (by omega)
  unfold path;omega
 refine ag.fn .here (O3 h (hP.ints.mono fun _ h=>List.mem_append_left _ h) (fun x hx=>by have:=tw x hx;omega) (by omega)) ?_
 rintro r H ⟨C',rfl,hM⟩
 obtain⟨x,y,rfl⟩:=hM.tup
 refine Ext.mk rfl (Ext.mk rfl ?_)
 refine aB.mk ?_ ⟨C',rfl,hM⟩
 rw[List.append_assoc,List.append_assoc]
 exact aU.right.trans .right
def dF(n:Nat):Nat→Nat
 |0=>n-1
 |_=>0
def xM(p:Nat):Nat→Nat→Nat
 |0,_=>p
 |_,k=>p-k
def ve(n p:Nat):Nat→Nat→Nat
 |0,k=>p+k
 |_,_=>n-1
def me(p:Nat):Nat→Nat→Nat
 |0,k=>p+k
 |_,k=>p-k
theorem KQ(h:At kp K S ord tr C){v:Nat}(hv:v<K.n)(je:tr.length<549755813888)
 (hcan:∀p,p<K.n→ord.getD p 0=v→(rm K S).can ord (road p (K.n-1))=true∧(rm K S).can ord (road p 0)=true):
  Fc Tryz.prog 44 #[ptr kp,.int .i64 (v:Int)] C (fun r H=>∃p s CS C',p<K.n∧ord.getD p 0=v∧r=.tuple #[s,.int .i64 0]∧H=CS++C'∧aP 3 .i64 s (iw ((rm K S).sizes ord p)) CS∧At kp K S ord tr C'):=by
 let m:=rm K S
 have hmn:m.n=K.n:=rfl
 have hn:=h.qA
 intro g
 refine Ji (R:=aB _) ?_
 unfold L44
 refine ag.rd .here (tV h hv) ?_
 rintro r ⟨p,hp,he,rfl⟩
 have hc:∀e,m.can ord (road p (dF K.n e))=true:=fun e=>by
  cases e with
  |zero=>exact(hcan p hp he).1
  |succ e=>exact(hcan p hp he).2
 refine Ext.mk rfl (Ext.mk rfl (ae.dh (Br.bt (by decide) ?_)))
 refine ag.fn .here (vC h) ?_
 rintro r H ⟨b,rfl,rfl⟩
 refine ag.rd (.cons .here) (nH h) ?_
 rintro r rfl
 refine cZ.ints (by omega) (by omega) fun bs=>?_
 refine ag.rd (.cons (.cons .here)) (gK h) ?_
 rintro r rfl
 refine ah.nat hp ?_
 refine St.ints (l:=List.replicate K.n 0) (x:=((cS K S ord:Nat):Int)) (by exact .head _) (by simpa using hp) ?_
 have e1:(List.replicate K.n (0:Int)).set p ((cS K S ord:Nat):Int)=iw (m.yX ord p p p):=by
  have:List.replicate K.n (0:Int)=iw (List.replicate m.n 0):=by simp[iw,hmn]
  rw[this,dY,←m.OD hp];rfl
 rw[e1]
 refine ag.rd (.cons (.cons .here)) (nH h) ?_
 rintro r rfl
 refine ae.bF (b:=1) (by simp[aE];omega) (by omega) ?_
 refine au.FU (e:=3) (by kernel_rfl) (by kernel_rfl) (by kernel_rfl) fun Gs=>?_
 refine aO.mk ?_
 have hI2:∀{Z:Hp},cX .i64 ((Gs,.cells (aA .i64 [((K.n-1:Nat):Int),0]) 3 (0,0))::Z) (.slice (some ⟨Gs,0,none⟩) 2 2) [((K.n-1:Nat):Int),0]:=fun{Z}=>cX.block (l:=[((K.n-1:Nat):Int),0]) (cap:=2) (.head _) (by simp)
 have JH:=aP.made (T:=3) (kd:=.i64) (b:=bs) (iw (m.yX ord p p p))
 rw[an,m.mW,hmn]at JH
 generalize hsv:Value.slice (some ⟨bs,0,none⟩) K.n K.n=sv at*
 refine⟨fun vs H=>∃(i d:Nat) (CS C2:Hp),i≤2∧d≤200*i∧vs=[.int .i64 (i:Int)]∧H=(Gs,.cells (aA .i64 [((K.n-1:Nat):Int),0]) 3 (0,0))::(CS++(wk b kp tr.length d false::C2))∧aP 3 .i64 sv (iw (m.yX ord p (if i=2 then 0 else p) (if i=0 then p else K.n-1))) CS∧At kp K S ord tr C2,
  fun vs _=>2-bK vs 0,JE.mk ⟨0,0,_,C,by omega,by omega,rfl,rfl,JH,h⟩,?_⟩
 rintro pc H ⟨i,d,CS,C2,hi,hd,uX,rfl,hS,h2⟩ gs
 simp only[List.cons.injEq,and_true]at uX
 subst uX
 refine ae.fu (b:=2) (Br.dec (fun hlt=>?_) (fun hlt=>?_))
 ·refine hI2.ld (n:=((dF K.n i:Nat):Int)) (by rcases i with _|_|i<;>first|rfl|omega) (fun _ h=>h) ?_
  have hee:dF K.n i<K.n:=by rcases i with _|i<;>simp[dF]<;>omega
  refine ag.fn hnew (OO (a:=p) (b:=dF K.n i) (by omega) (by omega)) ?_
  rintro r CR hR
  have yF:(road p (dF K.n i)).length≤64:=by rw[jZ];omega
  refine hR.bQ ?_
  rw[an]
  refine⟨fun vs H=>∃(k:Nat) (CS C3:Hp),k≤(road p (dF K.n i)).length∧vs=[.int .i64 ((me p i k:Nat):Int),.int .i64 (k:Int)]∧H=CR++((Gs,.cells (aA .i64 [((K.n-1:Nat):Int),0]) 3 (0,0))::(CS++(wk b kp tr.length (d+k) false::C3)))∧
    aP 3 .i64 sv (iw (m.yX ord p (xM p i k) (ve K.n p i k))) CS∧At kp K S (av ord ((road p (dF K.n i)).take k)) (tr++(road p (dF K.n i)).take k) C3,
   fun vs _=>(road p (dF K.n i)).length-bK vs 1,JE.mk ⟨0,CS,C2,Nat.zero_le _,?_,rfl,?_,by simpa[av]using h2⟩,?_⟩
  ·rcases i with _|i<;>rfl
  ·rcases i with _|_|i
   ·exact hS
   ·exact hS
   ·omega
  rintro UY Fk H ⟨k,CS,C3,hk,uX,rfl,hS,h3⟩ gs
  simp only[List.cons.injEq,and_true]at uX
  obtain⟨rfl,rfl⟩:=uX
  have L3:(tr++(road p (dF K.n i)).take k).length<1099511627776:=by rw[List.length_append,List.length_take];omega
  refine ae.fu (Br.dec (fun iA=>?_) (fun iA=>?_))
  ·obtain⟨l,hl⟩:∃l,(road p (dF K.n i))[k]? =some l:=⟨_,List.getElem?_eq_getElem iA⟩
   have vb:l+1<K.n:=l6 hp hee (List.mem_of_getElem? hl)
   refine hR.ld (x:=(l:Int)) (cm hl) (fun _ h=>List.mem_append_left _ h) ?_
   have hgl:(m.dZ 0 (road p (dF K.n i)) ord).length=(road p (dF K.n i)).length:=of_decide_eq_true (hc i)
   have hf:iR K S (av ord ((road p (dF K.n i)).take k)) l:=l7.1 (m.Aa (by omega) hl)
   refine ag.fn (.app (.cons (.app .here))) (yK h3 vb L3 hf (by omega)) ?_
   rintro r H ⟨rfl,C4,rfl,h4⟩
   refine ae.dh (Br.bt (by decide) ?_)
   have tw:me p i k=l∨me p i k=l+1:=by
    rcases i with _|i
    ·have:=(vM hp iA).1;rw[show road p (K.n-1)=road p (dF K.n 0)from rfl,hl]at this;simp at this;left;exact this.symm
    ·have ⟨h8,h9⟩:=sB (p:=p) (k:=k) iA
     rw[show road p 0=road p (dF K.n (i+1))from rfl,hl]at h8;simp at h8;right
     show p-k=l+1;omega
   have aho:me p i (k+1)+me p i k=2*l+1:=by
    rcases i with _|i
    ·have:=(vM hp iA).1;rw[show road p (K.n-1)=road p (dF K.n 0)from rfl,hl]at this;simp at this
     show p+(k+1)+(p+k)=_;omega
    ·have ⟨h8,h9⟩:=sB (p:=p) (k:=k) iA
     rw[show road p 0=road p (dF K.n (i+1))from rfl,hl]at h8;simp at h8
     show p-(k+1)+(p-k)=_;omega
   have Wx:me p i (k+1)<K.n:=by omega
   refine ae.aN (by simp[aE];omega) (ae.aN (b:=1) (by simp[aE];omega) ?_)
   refine ae.nT (c:=((l+l+1:Nat):Int) -(me p i k:Nat)) rfl (by omega) (ae.nT (c:=((l+l+1:Nat):Int) -(me p i k:Nat) -(me p i k:Nat)) rfl (by omega) (ae.wL (c:=((me p i (k+1):Nat):Int)) (by omega) (by omega) ?_))
   have e:(road p (dF K.n i)).take (k+1)=(road p (dF K.n i)).take k++[l]:=by rw[List.take_add_one,hl];rfl
   rw[←eP,List.append_assoc,←e]at h4
   refine ag.rd (.app (.cons (.app (.cons .here)))) (gK h4) ?_
   rintro r rfl
   refine hS.jh (x:=((cS K S (av ord ((road p (dF K.n i)).take (k+1))):Nat):Int)) (.app (.cons .left)) (by rw[an,m.mW,hmn];exact Wx) fun CS' JL=>?_
   have ez:cS K S (av ord ((road p (dF K.n i)).take (k+1)))=m.uQ ord p (me p i (k+1)):=by
    unfold Rm.uQ
    rcases i with _|i
    ·rw[if_pos (show p≤me p 0 (k+1)from Nat.le_add_right _ _),show me p 0 (k+1) -p=k+1 from Nat.add_sub_cancel_left _ _];rfl
    ·have ⟨_,h9⟩:=sB (p:=p) (k:=k) iA
     rw[if_neg (show¬p≤me p (i+1) (k+1)from(show¬p≤p-(k+1)by omega)),show p-me p (i+1) (k+1)=k+1 from(show p-(p-(k+1))=k+1 by omega)];rfl
   have es:(m.yX ord p (xM p i k) (ve K.n p i k)).set (me p i (k+1)) (m.uQ ord p (me p i (k+1)))=m.yX ord p (xM p i (k+1)) (ve K.n p i (k+1)):=m.OC Wx fun j=>by
    rcases i with _|i
    ·show(p≤j∧j≤p+(k+1))↔((p≤j∧j≤p+k)∨j=p+(k+1));omega
    ·have ⟨_,h9⟩:=sB (p:=p) (k:=k) iA
     show(p-(k+1)≤j∧j≤K.n-1)↔((p-k≤j∧j≤K.n-1)∨j=p-(k+1));omega
   rw[dY,ez,es]at JL
   refine ae.aN (b:=1) (by simp[aE];omega) ?_
   exact aC.mk ⟨k+1,CS',C4,iA,rfl,rfl,JL,h4⟩ (by simp only[bK];omega)
  ·obtain rfl:k=(road p (dF K.n i)).length:=by omega
   rw[List.take_length]at h3 L3
   refine ag.fn (.app (.cons (.app .here))) (sO h3 (fun x hx=>l6 hp hee hx) L3 (by omega)) ?_
   rintro r H ⟨rfl,C4,rfl,h4⟩
   refine ae.aN (b:=1) (by simp[aE];omega) ?_
   refine aC.of .right ⟨i+1,_,CS,C4,by omega,?_,rfl,rfl,?_,h4⟩ (by simp only[bK];omega)
   ·omega
   ·rcases i with _|_|i
    ·have e2:xM p 0 (road p (dF K.n 0)).length=p:=rfl
     have e3:ve K.n p 0 (road p (dF K.n 0)).length=K.n-1:=by show p+(road p (K.n-1)).length=_;rw[uS hp];omega
     rw[e2,e3]at hS;exact hS
    ·have e2:xM p 1 (road p (dF K.n 1)).length=0:=by show p-(road p 0).length=_;rw[y8];omega
     rw[show(0+1:Nat)=1 from rfl,e2]at hS;exact hS
    ·omega
 ·obtain rfl:i=2:=by omega
  refine AI (R:=_) ?_
  unfold L105
  refine Nil.ptr (aa.mk (Ld.mk (v:=.bool false) (by exact .tail _ (List.mem_append_right _ (.head _))) rfl ?_))
  refine Un.not (Br.yes ?_)
  refine ag.fn (.cons (.app .here)) (sO (path:=[]) (by simpa[av]using h2) (by simp) (by rw[List.append_nil];omega) (by omega)) ?_
  rintro r H ⟨rfl,C4,rfl,h4⟩
  refine⟨⟨_,rfl⟩,?_⟩
  have e9:m.yX ord p 0 (K.n-1)=m.sizes ord p:=m.OE ord p
  refine aB.mk (.skip (.c8 .tail _)) ⟨p,sv,CS,C4,hp,he,rfl,rfl,?_,h4⟩
  rw[←e9];exact hS
end
end Go.Proofs
namespace aF
open aG
section
variable {n:Nat} {ord:List Nat} {L:aG.Fs}
theorem Le{n v:Nat}{t:List Nat}(hn:n≤16)(hf:fA n t)(hv:v<n)(h:∀u,u<n→u≠v→¬dr (fg n t) u)(x:Nat):fg n t x=fg n t (aI 0 v (x.testBit v)):=by
 have key:∀b,fg n t (aI x v b)=fg n t (aI 0 v b):=fun b=>by
  have e:=nB hf hv b
  have W4:=MJ (n:=n) (ws:=kz n t v b) (fun u hu=>by
   rw[e]
   rintro⟨y,hy⟩
   simp only at hy
   by_cases Y2:u=v
   ·subst Y2
    rw[qx,qx]at hy;exact hy rfl
   ·rw[dA Y2,dA Y2]at hy
    exact h u hu Y2 ⟨_,hy⟩)
  have:=W4 x
  rw[e]at this;exact this
 have:=key (x.testBit v)
 rwa [jY]at this
theorem Ls(hL:∀t∈L,fA n t)(hn:n≤16)(AX:1≤n)(hp:ord.Perm (List.range n)):(j4 n ord L (n-1)).length≤2:=by
 have uZ:ord.length=n:=by rw[hp.length_eq,List.length_range]
 have hmem:∀i,i<n→ord.getD i 0<n:=fun i hi=>by
  have:ord.getD i 0∈ord:=by rw[List.getD_eq_getElem?_getD,List.getElem?_eq_getElem (by omega)];exact List.getElem_mem _
  exact List.mem_range.1 (hp.mem_iff.1 this)
 have aJ:∀u,u<n→∃j,j<n∧ord.getD j 0=u:=fun u hu=>by
  obtain⟨j,hj,e⟩:=List.mem_iff_getElem.1 (hp.mem_iff.2 (List.mem_range.2 hu))
  exact⟨j,by omega,by rw[List.getD_eq_getElem?_getD,List.getElem?_eq_getElem hj];exact e⟩
 have hv:=hmem (n-1) (by omega)
 have facts:∀t∈j4 n ord L (n-1),fA n t∧(∀x,fg n t x=if x.testBit (ord.getD (n-1) 0)then !fg n t 0 else fg n t 0):=by
  intro t ht
  obtain⟨h1,h2⟩:=mj.1 ht
  have hf:=nF hL hn (n-1) t h1
  have nX:=(x6 hL hn hmem (n-1) (by omega) (fg n t)).2 ⟨t,h1,rfl⟩
  have hone:=Le hn hf hv (fun u hu hne=>by
   obtain⟨j,hj,e⟩:=aJ u hu
   rw[←e]
   exact pS (n-1) _ nX j (by
    have:j≠n-1:=fun h=>hne (by rw[←e,h])
    omega))
  have h0:fg n t (aI 0 (ord.getD (n-1) 0) false)=fg n t 0:=by
   have:=hone 0
   rw[Nat.zero_testBit]at this;exact this.symm
  obtain⟨x,hx⟩:=(qQ hf hv).2 h2
  have e1:=hone (aI x (ord.getD (n-1) 0) false)
  have e2:=hone (aI x (ord.getD (n-1) 0) true)
  rw[ay,if_pos rfl]at e1 e2
  rw[e1,e2,h0]at hx
  refine⟨hf,fun y=>?_⟩
  rw[hone y]
  cases hb:y.testBit (ord.getD (n-1) 0)
  ·rw[h0];simp
  ·rw[if_pos rfl]
   have key:∀a b:Bool,a≠b→b= !a:=by decide
   exact key _ _ hx
 have ig:(j4 n ord L (n-1)).Nodup:=(nE (n-1)).filter _
 have h1:((j4 n ord L (n-1)).map fun t=>fg n t 0).Nodup:=by
  refine List.pairwise_map.2 (ig.imp_of_mem fun{a b} ha hb hne heq=>hne ?_)
  obtain⟨fa,ga⟩:=facts a ha
  obtain⟨fb,gb⟩:=facts b hb
  exact x8 fa fb (funext fun x=>by rw[ga,gb,heq])
 have:=bP h1 (l':=[true,false]) fun b _=>by cases b<;>simp
 simpa using this
end
end aF
namespace aF
theorem G6(A D:List Nat)(a b:Nat):gI (A++a::b::D) A.length=A++b::a::D:=by
 unfold gI
 have h1:(A++a::b::D).getD (A.length+1) 0=b:=by rw[List.getD_eq_getElem?_getD,List.getElem?_append_right (by omega),Nat.add_sub_cancel_left];rfl
 have h2:(A++a::b::D).getD A.length 0=a:=by rw[List.getD_eq_getElem?_getD,List.getElem?_append_right (Nat.le_refl _),Nat.sub_self];rfl
 rw[h1,h2,List.set_append_right _ _ (Nat.le_refl _),Nat.sub_self,List.set_cons_zero,List.set_append_right _ _ (by omega),Nat.add_sub_cancel_left]
 rfl
theorem Sh{ord:List Nat}{l:Nat}(hl:l+1<ord.length):∃A D a b,ord=A++a::b::D∧A.length=l∧ord.getD l 0=a∧ord.getD (l+1) 0=b:=by
 refine⟨ord.take l,ord.drop (l+2),ord[l],ord[l+1],?_,by rw[List.length_take];omega,?_,?_⟩
 ·conv=>lhs;rw[←List.take_append_drop l ord,List.drop_eq_getElem_cons (show l<ord.length by omega),List.drop_eq_getElem_cons hl]
 ·rw[List.getD_eq_getElem?_getD,List.getElem?_eq_getElem (by omega)];rfl
 ·rw[List.getD_eq_getElem?_getD,List.getElem?_eq_getElem hl];rfl
theorem yY{ord:List Nat}{l x:Nat}(hl:l+1<ord.length)(hx:ord.getD l 0=x∨ord.getD (l+1) 0=x):(gI ord l).filter (fun y=>decide (y≠x))=ord.filter (fun y=>decide (y≠x)):=by
 obtain⟨A,D,a,b,e,hA,ha,hb⟩:=Sh hl
 rw[e,←hA,G6,List.filter_append,List.filter_append]
 congr 1
 rw[List.filter_cons,List.filter_cons,List.filter_cons,List.filter_cons]
 rw[ha,hb]at hx
 rcases hx with h|h
 ·subst h;simp
 ·subst h;simp
theorem nf{p j:Nat}(h:p≤j):road p (j+1)=road p j++[j]:=by
 unfold road
 rw[show p-(j+1)=0 by omega,show p-j=0 by omega,show j+1-p=(j-p)+1 by omega,List.range'_concat]
 simp;omega
theorem ng{p j:Nat}(h:j<p):road p j=road p (j+1)++[j]:=by
 unfold road
 rw[show j-p=0 by omega,show j+1-p=0 by omega,show p-j=(p-(j+1))+1 by omega,List.range'_succ]
 simp
theorem cQ(p:Nat):road p p=[]:=by unfold road;simp
theorem Lm{ord:List Nat}{p:Nat}(hp:p<ord.length):∀(k j:Nat),(j-p)+(p-j)=k→j<ord.length→(av ord (road p j)).getD j 0=ord.getD p 0∧(av ord (road p j)).filter (fun y=>decide (y≠ord.getD p 0))=ord.filter (fun y=>decide (y≠ord.getD p 0)):=by
 intro k
 induction k with
 |zero=>
  intro j hk hj
  obtain rfl:j=p:=by omega
  rw[cQ];exact⟨rfl,rfl⟩
 |succ k ih=>
  intro j hk hj
  by_cases h:p<j
  ·obtain⟨i,rfl⟩:∃i,j=i+1:=⟨j-1,by omega⟩
   obtain⟨h1,h2⟩:=ih i (by omega) (by omega)
   rw[nf (by omega),eP]
   have hl:i+1<(av ord (road p i)).length:=by rw[dP];exact hj
   refine⟨?_,?_⟩
   ·rw[dz hl,if_neg (by omega),if_pos rfl,h1]
   ·rw[yY hl (.inl h1),h2]
  ·obtain⟨h1,h2⟩:=ih (j+1) (by omega) (by omega)
   rw[ng (by omega),eP]
   have hl:j+1<(av ord (road p (j+1))).length:=by rw[dP];omega
   refine⟨?_,?_⟩
   ·rw[dz hl,if_pos rfl,h1]
   ·rw[yY hl (.inr h1),h2]
theorem y9(s n k:Nat)(h:k≤n):(List.range' s n).take k=List.range' s k:=by
 apply List.ext_getElem?
 intro i
 rw[List.getElem?_take]
 by_cases hi:i<k
 ·rw[if_pos hi,List.getElem?_range' (by omega),List.getElem?_range' hi]
 ·rw[if_neg hi,List.getElem?_eq_none (by simp;omega)]
theorem zc(s n k:Nat)(h:k≤n):(List.range' s n).drop k=List.range' (s+k) (n-k):=by
 apply List.ext_getElem?
 intro i
 rw[List.getElem?_drop]
 by_cases hi:i<n-k
 ·rw[List.getElem?_range' (by omega),List.getElem?_range' hi];congr 1;omega
 ·rw[List.getElem?_eq_none (by simp;omega),List.getElem?_eq_none (by simp;omega)]
theorem G5(m:Rm){ord:List Nat}{p j:Nat}(hp:p<m.n)(hj:j<m.n):m.uQ ord p j=m.size (av ord (road p j)):=by
 unfold Rm.uQ
 split
 ·rename_i h
  congr 2
  unfold road
  rw[show p-(m.n-1)=0 by omega,show p-j=0 by omega]
  simp only[List.range'_zero,List.reverse_nil,List.append_nil]
  rw[y9 _ _ _ (by omega)]
 ·rename_i h
  congr 2
  unfold road
  rw[show 0-p=0 by omega,show j-p=0 by omega,Nat.sub_zero]
  simp only[List.range'_zero,List.nil_append]
  rw[List.take_reverse,List.length_range',zc _ _ _ (by omega)]
  congr 2<;>omega
theorem Gg(m:Rm){Q:List Nat→Prop}(hs:∀ord l,Q ord→l+1<m.n→Q (gI ord l))(hf:∀ord l,Q ord→l+1<m.n→m.fit ord l=true):∀{ls:List Nat} {ord:List Nat},Q ord→(∀x∈ls,x+1<m.n)→m.can ord ls=true
 | [],_,_,_=>decide_eq_true rfl
 |l::ls,ord,hq,hl=>by
  have h1:=hl l (by simp)
  have ih:=Gg m hs hf (ls:=ls) (hs ord l hq h1) (fun x hx=>hl x (by simp[hx]))
  unfold Rm.can at ih⊢
  have:=of_decide_eq_true ih
  rw[Rm.dZ,Nat.zero_add,if_pos (hf ord l hq h1),List.length_cons,List.length_cons,this]
  exact decide_eq_true rfl
end aF
set_option maxRecDepth 100000
namespace Go.Proofs
open Go Go.Sx
open aF
section
variable {kp gb n:Nat} {vr vf:Value} {refs:List Nat} {fs:List (List Nat)} {K:Kd} {S:Nat→aF.Fn} {ord tr:List Nat} {C Z:Hp}
theorem OX{ord:List Nat}(hp:ord.Perm (List.range n)):∀i,i<n→ord.getD i 0<n:=fun i hi=>by
 have uZ:ord.length=n:=by rw[hp.length_eq,List.length_range]
 have:ord.getD i 0∈ord:=by rw[List.getD_eq_getElem?_getD,List.getElem?_eq_getElem (by omega)];exact List.getElem_mem _
 exact List.mem_range.1 (hp.mem_iff.1 this)
theorem y3{L:List (List Nat)}(hn:n≤6)(AX:1≤n)(hf:∀t∈L,aG.fA n t)(hl:L.length≤36)(hp:ord.Perm (List.range n)):g9 n ord L n≤1118:=by
 have h1:=jX n ord L (n-1)
 have h2:=Ls (L:=L) hf (by omega) AX hp
 have h3:2^(n-1)*L.length≤32*36:=Nat.mul_le_mul (Nat.le_trans (Nat.pow_le_pow_right (by decide) (show n-1≤5 by omega)) (by decide)) hl
 have h4:2^(n-1)*L.length≤32*L.length:=Nat.mul_le_mul_right _ (Nat.le_trans (Nat.pow_le_pow_right (by decide) (show n-1≤5 by omega)) (by decide))
 have e:g9 n ord L n=g9 n ord L (n-1)+(j4 n ord L (n-1)).length:=by
  obtain⟨m,rfl⟩:∃m,n=m+1:=⟨n-1,by omega⟩
  rfl
 rw[e]
 omega
theorem vG{l:Nat}(hp:ord.Perm (List.range n))(hl:l+1<n):(gI ord l).Perm (List.range n):=by
 have:=iG (path:=[l]) (ord:=ord) (fun x hx=>by simp at hx;subst hx;rw[hp.length_eq,List.length_range];exact hl)
 exact this.trans hp
theorem zz(hg:vA K S refs fs)(hn:K.n≤6)(AX:1≤K.n)(hcap:K.cap=4000)(hl:refs.length≤36)(hp:ord.Perm (List.range K.n)){l:Nat}(mz:l+1<K.n):iR K S ord l:=by
 have uZ:ord.length=K.n:=by rw[hp.length_eq,List.length_range]
 unfold iR
 rw[show K.held S=FT K.n fs from funext fun g=>propext (hg.held g),Sc hg.qO (by omega) (OX hp) mz uZ]
 have h1:=y3 (ord:=ord) (L:=fs) hn AX hg.qO (by rw[←hg.len];exact hl) hp
 have h2:=y3 (ord:=gI ord l) (L:=fs) hn AX hg.qO (by rw[←hg.len];exact hl) (vG hp mz)
 have h3:(M6 K.n ord l fs).length≤(ua K.n ord fs K.n++ua K.n (gI ord l) fs K.n).length:=bP (aG.kK _) fun x hx=>aG.dK.1 hx
 rw[List.length_append,jA,jA]at h3
 omega
theorem yd(hg:vA K S refs fs)(hn:K.n≤6)(AX:1≤K.n)(hcap:K.cap=4000)(hl:refs.length≤36)(hp:ord.Perm (List.range K.n)){ls:List Nat}(hls:∀x∈ls,x+1<K.n):(rm K S).can ord ls=true:=
 Gg (rm K S) (Q:=fun ord=>ord.Perm (List.range K.n)) (fun o l hq h=>vG hq h) (fun o l hq h=>l7.2 (zz hg hn AX hcap hl hq h)) hp hls
theorem vA.kept{K':Kd}{S':Nat→aF.Fn}(h:vA K S refs fs)(hk:Kept K S K' S'):vA K' S' refs fs:=by
 refine⟨h.len,by rw[hk.n];exact h.qO,fun i hi=>?_,fun s=>by rw[hk.hold,h.hold]⟩
 obtain⟨h1,h2⟩:=h.is i hi
 have hm:refs.getD i 0∈refs:=by rw[List.getD_eq_getElem?_getD,List.getElem?_eq_getElem hi];exact List.getElem_mem hi
 exact⟨h1,by rw[hk.n,h2,hk.fn _ (h.mem.2 hm)]⟩
structure GZ(gb kp n:Nat)(vr vf:Value)(refs:List Nat)(fs:List (List Nat))(Z:Hp):Prop where
 cell:gm gb kp n vr vf∈Z
 rf:cX .u32 Z vr (iw refs)
 fn:gi Z vf (fs.map fun ws=>⟨n,ws⟩)
theorem GZ.mono{Z':Hp}(h:GZ gb kp n vr vf refs fs Z)(hs:∀x∈Z,x∈Z'):GZ gb kp n vr vf refs fs Z':=⟨hs _ h.cell,h.rf.mono hs,h.fn.mono hs⟩
theorem GZ.gin(h:GZ gb kp n vr vf refs fs Z)(C:Hp):A6 gb kp n vr vf refs fs C (Z++C):=
 ⟨List.mem_append_left _ h.cell,h.rf.mono fun _ h=>List.mem_append_left _ h,h.fn.mono fun _ h=>List.mem_append_left _ h,_,.app .here,fun X=>List.mem_append_left _ h.cell⟩
theorem P8(hz:GZ gb kp K.n vr vf refs fs Z)(hg:vA K S refs fs)(hA:At kp K S ord tr C)(hn:K.n≤16)(hm:refs.length<65536)(hne:refs≠[]):Px Tryz.prog 21 #[ptr gb] (Z++C) (fun w _=>w=.bool true):=by
 obtain⟨K',S',dm,h,hk⟩:=hA
 refine P7 (vr:=vr) (vf:=vf) (K:=K') (S:=S') ?_ (hg.kept hk) h (by rw[hk.n];exact hn) hm hne
 rw[hk.n];exact hz.gin C
end
end Go.Proofs
namespace Go.Sx
open Go
theorem aU.sub{H Y:Hp}(hn:(Y.map Prod.fst).Nodup)(hs:∀x∈Y,x∈H):aU H Y:=by
 intro g w h
 refine⟨h.os,h.out,h.tape,?_,fun x hx=>h.vg x ?_⟩
 ·have h1:=h.nd
  rw[List.map_append,List.nodup_append]at h1⊢
  refine⟨hn,h1.2.1,fun a ha b hb=>h1.2.2 a ?_ b hb⟩
  obtain⟨x,hx,rfl⟩:=List.mem_map.1 ha
  exact List.mem_map_of_mem (hs x hx)
 ·rcases List.mem_append.1 hx with hx|hx
  ·exact List.mem_append_left _ (hs x hx)
  ·exact List.mem_append_right _ hx
end Go.Sx
set_option maxRecDepth 100000
namespace Go.Proofs
open Go Go.Sx
open aF
section
variable {kp gb n:Nat} {vr vf:Value} {refs:List Nat} {fs:List (List Nat)} {K:Kd} {S:Nat→aF.Fn} {ord tr:List Nat} {C Z Y:Hp}
theorem Grown.gz{n:Nat}{w:Value}{H:Hp}(h:Grown n Y w H):∃(gb kp:Nat) (K:Kd) (S:Nat→aF.Fn) (refs:List Nat) (fs:List (List Nat)) (vr vf:Value) (Z C:Hp),w=ptr gb∧H=Z++C∧(∀x∈Y,x∈Z)∧GZ gb kp n vr vf refs fs Z∧vA K S refs fs∧At kp K S (List.range n) [] C∧K.n=n∧K.cap=4000∧n≤refs.length∧refs.length≤n+30:=by
 obtain⟨gb,kp,K,S,refs,fs,vr,vf,M,CR,CF,C,rs,tr,rfl,rfl,hY,hG,PN,N8,h1,h2,rfl⟩:=h
 refine⟨gb,kp,K,S,refs,fs,vr,vf,M++(gm gb kp n vr vf::(CR++CF)),C,rfl,by simp[List.append_assoc],fun x hx=>List.mem_append_left _ (hY.sub _ hx),⟨List.mem_append_right _ (.head _),hG.rf.ints.mono fun _ h=>List.mem_append_right _ (.tail _ (List.mem_append_left _ h)),rs,(Sl.mg hG.fn (by decide)).mono fun _ h=>List.mem_append_right _ (.tail _ (List.mem_append_right _ h)),?_⟩,hG.ME,hG.ks.bc,PN,N8,h1,h2⟩
 subst PN
 exact hG.row.mono fun _ _ h=>h.mono fun _ h=>List.mem_append_left _ h
end
end Go.Proofs
namespace Go.Sx
open Go Go.ChangeShapes Go.WideShapes Go.Deep
section
variable {H:Type} {enc:TypeId×Value→H} {P:Program} {W:World} {base:Nat} {spare:Nat→Bool} {held:Bool}
theorem qY(a:Addr)(n:Nat):(a.add n).block=a.block:=by unfold Addr.add;split<;>rfl
theorem yj(a:Addr)(n:Nat):(a.add n).off=a.off+n:=by unfold Addr.add;split<;>simp_all
theorem jy{b:Nat}{a:Addr}{k:Nat}{cs:List Value}(hk:0<k)(h:W.cells? b a k=some cs):
  a.spot=none∧∃c T fz,W.heap[a.block]? =some (.cells c T fz)∧a.off+k≤c.size∧c.extract a.off (a.off+k)=cs.toArray:=by
 obtain⟨_,hl,hg⟩:=World.cells?_some h
 have h0:=hg 0 hk
 have hc0:W.cell? a=some (cs[0]'(by omega)):=by
  have:a.add 0=a:=by simp[Addr.add]
  rw[this]at h0;rw[h0];exact List.getElem?_eq_getElem (by omega)
 unfold World.cell? at hc0
 split at hc0
 ·rename_i c T fz hb
  cases hs:a.spot with
  |some s=>rw[hs]at hc0;simp at hc0
  |none=>
   have hcell:∀i,i<k→c[a.off+i]? =cs[i]? :=fun i hi=>by
    have:=hg i hi
    unfold World.cell? at this
    rw[qY,hb]at this
    simp only[yj]at this
    have hsp:(a.add i).spot.isSome=false:=by unfold Addr.add;split<;>simp[hs]
    rw[hsp]at this
    simpa using this
   have hsz:a.off+k≤c.size:=by
    have:=hcell (k-1) (by omega)
    rw[List.getElem?_eq_getElem (by omega)]at this
    have:=(Array.getElem?_eq_some_iff.1 this).1
    omega
   refine⟨rfl,c,T,fz,hb,hsz,?_⟩
   apply Array.ext_getElem?
   intro i
   rw[Array.getElem?_extract]
   by_cases hi:i<k
   ·rw[if_pos (by omega),hcell i hi];simp
   ·rw[if_neg (by omega)];simp;omega
 ·simp at hc0
theorem U4{t e:TypeId}{v:Value}{d:DataW H}{ps:List MemPlace}{r:Reach}{b0 k:Nat}(ht:P.underlying t=some (.slice e))(hk:P.cellsOf e=k)(NW:0<k)(hv:Value.okWide P W r b0 t v)(h:DataW.Trod enc P W base spare held t v d ps):
  (v=.slice none 0 0∧d=.nil)∨∃(a:Addr) (n cap:Nat) (es sp:List (DataW H)),v=.slice (some a) n cap∧d=.slice es sp∧es.length=n∧n≤cap∧
   ∀i,i<n→∃c T fz cs,a.spot=none∧(a.block,Obj.cells c T fz)∈whole W∧a.off+i*k+k≤c.size∧c.extract (a.off+i*k) (a.off+i*k+k)=cs.toArray∧∃fuel y,DataW.trod enc P W base spare held fuel e cs=some y∧cs.length=k:=by
 obtain⟨a0,n0,c0,rfl⟩:=okWide_slice ht hv
 obtain⟨fuel,hf⟩:=h
 rcases open_slice ht hf with⟨h1,h2⟩|⟨a,len,cap,m,n,D,Pl,hcs,hb,hl,hm,u7,hx,hi⟩
 ·left
  simp only[Value.cells,List.cons.injEq,and_true]at h1
  simp only[Prod.mk.injEq]at h2
  exact⟨by simpa using h1,h2.1⟩
 ·right
  simp only[Prod.mk.injEq]at hx
  have uX:Value.slice a0 n0 c0=.slice (some a) len cap:=by simpa[Value.cells]using hcs
  have Vb:len≤m:=by rw[u7];split<;>omega
  refine⟨a,len,cap,_,_,uX,hx.1,by simp,hl,fun i hin=>?_⟩
  have hkk:=hk
  have zI:a.spot=none:=by
   obtain⟨cs0,hc0,_⟩:=hi 0 (by omega)
   rw[hk]at hc0
   rw[show a.add (0*k)=a by simp[Addr.add]]at hc0
   exact(jy NW hc0).1
  obtain⟨cs,hc,hd⟩:=hi i (by omega)
  rw[hk]at hc
  obtain⟨_,hlen,_⟩:=World.cells?_some hc
  obtain⟨_,c,T,fz,h1,h2,h3⟩:=jy NW hc
  rw[qY]at h1
  rw[yj]at h2 h3
  exact⟨c,T,fz,cs,zI,vV h1,h2,h3,n,_,hd,hlen⟩
theorem vE{t e:TypeId}{cs:List Value}{x:DataW H×List MemPlace}{fuel k:Nat}(ht:P.underlying t=some (.slice e))(hk:P.cellsOf e=k)(NW:0<k)(h:DataW.trod enc P W base spare held fuel t cs=some x):
  ∃(v:Value) (rs:List (List Value)),cs=[v]∧Sl k (whole W) v rs∧((rs=[]∧x.1=.nil)∨∃es sp,x.1=.slice es sp∧es.length=rs.length)∧
   ∀(i:Nat) (r:List Value),rs[i]? =some r→∃(fuel:Nat) (y:DataW H×List MemPlace) (es sp:List (DataW H)),DataW.trod enc P W base spare held fuel e r=some y∧x.1=.slice es sp∧es[i]? =some y.1:=by
 rcases open_slice ht h with⟨h1,h2⟩|⟨a,len,cap,m,n,D,Pl,hcs,hb,hl,hm,u7,hx,hi⟩
 ·exact⟨_,[],h1,Sl.nil _ _,.inl ⟨rfl,by rw[h2]⟩,fun i r hr=>by simp at hr⟩
 ·have Vb:len≤m:=by rw[u7];split<;>omega
  have hex:∃rs:List (List Value),rs.length=len∧∀i r,rs[i]? =some r→W.cells? base (a.add (i*k)) k=some r∧DataW.trod enc P W base spare held n e r=some (D i,Pl i):=by
   clear hcs hx hl u7
   induction len with
   |zero=>exact⟨[],rfl,fun i r hr=>by simp at hr⟩
   |succ len ih=>
    obtain⟨rs,h1,h2⟩:=ih (by omega)
    obtain⟨r,h3,h4⟩:=hi len (by omega)
    rw[hk]at h3
    refine⟨rs++[r],by simp[h1],fun i r' hr=>?_⟩
    by_cases hlt:i<rs.length
    ·rw[List.getElem?_append_left hlt]at hr;exact h2 i r' hr
    ·rw[List.getElem?_append_right (by omega)]at hr
     have HZ:i-rs.length=0:=by
      by_cases e:i-rs.length=0
      ·exact e
      ·rw[List.getElem?_eq_none (by simp;omega)]at hr;cases hr
     rw[HZ]at hr
     simp only[List.getElem?_cons_zero,Option.some.injEq]at hr
     subst hr
     obtain rfl:i=len:=by omega
     exact⟨h3,h4⟩
  obtain⟨rs,yF,wq⟩:=hex
  have aJ:∀r∈rs,r.length=k:=fun r hr=>by
   obtain⟨i,hi,e⟩:=List.mem_iff_getElem.1 hr
   obtain⟨hc,_⟩:=wq i r (by rw[List.getElem?_eq_getElem hi,e])
   exact(World.cells?_some hc).2.1
  refine⟨.slice (some a) len cap,rs,hcs,⟨aJ,?_⟩,.inr ⟨_,_,by rw[hx],by simp[yF]⟩,fun i r hr=>?_⟩
  ·cases rs with
   |nil=>exact .inl ⟨some a,cap,by rw[←yF];rfl,rfl⟩
   |cons r0 rest=>
    right
    obtain⟨hc0,_⟩:=wq 0 r0 rfl
    obtain⟨zI,c,T,fz,hb0,_,_⟩:=jy NW hc0
    rw[show a.add (0*k)=a by simp[Addr.add]]at zI hb0
    obtain⟨ab,ao,asp⟩:=a
    simp only at zI hb0
    subst zI
    have Xg:∀i r,(r0::rest)[i]? =some r→ao+i*k+k≤c.size∧c.extract (ao+i*k) (ao+i*k+k)=r.toArray:=fun i r hr=>by
     obtain⟨hc,_⟩:=wq i r hr
     obtain⟨_,c',T',fz',h1,h2,h3⟩:=jy NW hc
     rw[qY]at h1
     rw[yj]at h2 h3
     simp only at h1 h2 h3
     rw[hb0]at h1
     simp only[Option.some.injEq,Obj.cells.injEq]at h1
     obtain⟨rfl,_,_⟩:=h1
     exact⟨h2,h3⟩
    refine⟨ab,ao,cap,c,T,fz,by rw[yF],by omega,vV hb0,?_,fun i r hr j v hj=>?_⟩
    ·have WN:=Xg (rest.length) ((r0::rest)[rest.length]'(by simp)) (List.getElem?_eq_getElem (by simp))
     have:=WN.1
     simp only[List.length_cons,Nat.succ_mul];omega
    ·obtain⟨h1,h2⟩:=Xg i r hr
     have Pt:j<k:=by
      have:=(List.getElem?_eq_some_iff.1 hj).1
      rw[aJ r (List.mem_of_getElem? hr)]at this;exact this
     have h3:=congrArg (fun z:Array Value=>z[j]?) h2
     simp only[Array.getElem?_extract,List.getElem?_toArray]at h3
     rw[hj]at h3
     rw[←h3,if_pos (by omega)]
  ·obtain⟨_,hd⟩:=wq i r hr
   have Tv:i<len:=by rw[←yF];exact(List.getElem?_eq_some_iff.1 hr).1
   exact⟨n,_,_,_,hd,by rw[hx],by simp[Tv]⟩
theorem G2{t e:TypeId}{q:IntKind}{cs:List Value}{x:DataW H×List MemPlace}{fuel:Nat}(ht:P.underlying t=some (.slice e))(he:P.underlying e=some (.int q))(hk:P.cellsOf e=1)(h:DataW.trod enc P W base spare held fuel t cs=some x):
  ∃(v:Value) (l:List Int),cs=[v]∧cX q (whole W) v l∧(∀n∈l,(Lit.int q n).wf=true)∧((l=[]∧x.1=.nil)∨∃es sp,x.1=.slice es sp∧es.length=l.length):=by
 obtain⟨v,rs,hcs,JH,hx,hr⟩:=vE ht hk (by decide) h
 have hone:∀r∈rs,∃n,r=[.int q n]∧(Lit.int q n).wf=true:=fun r hm=>by
  obtain⟨i,hi,e⟩:=List.mem_iff_getElem.1 hm
  obtain⟨f,y,_,_,hy,_⟩:=hr i r (by rw[List.getElem?_eq_getElem hi,e])
  obtain⟨n,h1,_,h2⟩:=DataW.trod_int he hy
  exact⟨n,h1,h2⟩
 have hex:∃l:List Int,rs=l.map (fun n=>[Value.int q n])∧∀n∈l,(Lit.int q n).wf=true:=by
  clear JH hx hr hcs
  induction rs with
  |nil=>exact⟨[],rfl,by simp⟩
  |cons r rest ih=>
   obtain⟨l,h1,h2⟩:=ih fun r hm=>hone r (by simp[hm])
   obtain⟨n,h3,h4⟩:=hone r (by simp)
   exact⟨n::l,by simp[h1,h3],fun m hm=>by rcases List.mem_cons.1 hm with rfl|hm;exact h4;exact h2 m hm⟩
 obtain⟨l,rfl,hwf⟩:=hex
 refine⟨v,l,hcs,JH,hwf,?_⟩
 rcases hx with⟨h1,h2⟩|⟨es,sp,h1,h2⟩
 ·exact .inl ⟨by simpa using h1,h2⟩
 ·exact .inr ⟨es,sp,h1,by simpa using h2⟩
end
end Go.Sx
set_option maxRecDepth 100000
namespace Go.Proofs
open Go Go.Sx
section
open Go.ChangeShapes Go.WideShapes Go.Deep
variable {H:Type} {enc:TypeId×Value→H} {W:World} {base:Nat} {spare:Nat→Bool} {held:Bool}
theorem O8{f:FuncId}{args:Array Value}{W:World}(h:Rd Tryz.prog f args (whole W) (· =.bool true)):
  Calls Tryz.prog f args W fun e W'=>e=.returned (.bool true)∧Go.RowKit.Below W.heap.size W W':=
 SJ (h.mono fun _ _ ⟨h1,h2⟩=>⟨by rw[h1];exact .refl _,h2⟩)
theorem yN(W:World):((whole W).map Prod.fst).Nodup:=by
 have:=(vP W).nd
 rwa [List.append_nil]at this
theorem Hz{l:List Int}(hb:∀x∈l,0≤x∧x≤255):iw (l.map Int.toNat)=l:=by
 unfold iw
 rw[List.map_map]
 conv=>rhs;rw[←List.map_id l]
 apply List.map_congr_left
 intro x hx
 have:=hb x hx
 show((x.toNat:Nat):Int)=x
 omega
theorem MX{v:Value}{d:DataW H}{ps:List MemPlace}(h:DataW.Trod enc Tryz.prog W base spare held 87 v d ps)(hv:∃a n c,v=.slice a n c):
  ∃l:List Nat,cX .u8 (whole W) v (iw l)∧(∀x∈l,x<256)∧((∀n∈d.weights Tryz.prog 87,n≤reachBytes)→l.length≤140737488351232):=by
 obtain⟨fuel,hf⟩:=h
 have k3:Tryz.prog.cellsOf 5=1:=by kernel_rfl
 obtain⟨v',l,hcs,hi,hwf,hw⟩:=G2 Tryz.underlying87 Tryz.underlying5 k3 hf
 have yE:v'=v:=by
  obtain⟨a,n,c,rfl⟩:=hv
  simpa[Value.cells]using hcs.symm
 subst yE
 have hb:∀x∈l,0≤x∧x≤255:=fun x hx=>bounds_u8 (hwf x hx)
 refine⟨l.map Int.toNat,by rw[Hz hb];exact hi,fun x hx=>?_,fun aJ=>?_⟩
 ·obtain⟨y,hy,rfl⟩:=List.mem_map.1 hx
  have:=hb y hy;omega
 rw[List.length_map]
 rcases hw with⟨h1,_⟩|⟨es,sp,h1,h2⟩
 ·subst h1;simp
 ·simp only at h1
  have:=aJ ((es.length+sp.length)*Tryz.prog.bytesOf 5) (by rw[h1,DataW.weights,Tryz.underlying87];exact List.mem_cons_self ..)
  rw[show Tryz.prog.bytesOf 5=1 by kernel_rfl]at this
  have h3:reachBytes=140737488351232:=rfl
  omega
theorem Sq{fuel:Nat}{cs:List Value}{y:DataW H×List MemPlace}(hl:cs.length=6)(h:DataW.trod enc Tryz.prog W base spare held fuel 106 cs=some y):∃o:uK,cs=o.cells∧o.Ok:=by
 obtain⟨xs,n,_,_,_,hx,hf⟩:=DataW.trod_struct Tryz.underlying106 h
 match cs,hl with
 | [c0,c1,c2,c3,c4,c5],_=>
  have hx6:xs.length=6:=hx
  have k8:Tryz.prog.cellsOf 5=1:=by kernel_rfl
  have k64:Tryz.prog.cellsOf 50=1:=by kernel_rfl
  have g0:DataW.trod enc Tryz.prog W base spare held n 5 (List.take (Tryz.prog.cellsOf 5) [c0,c1,c2,c3,c4,c5])=xs[0]? :=hf 0 _ rfl
  have g1:DataW.trod enc Tryz.prog W base spare held n 5 (List.take (Tryz.prog.cellsOf 5) [c1,c2,c3,c4,c5])=xs[1]? :=hf 1 _ rfl
  have g2:DataW.trod enc Tryz.prog W base spare held n 5 (List.take (Tryz.prog.cellsOf 5) [c2,c3,c4,c5])=xs[2]? :=hf 2 _ rfl
  have g3:DataW.trod enc Tryz.prog W base spare held n 5 (List.take (Tryz.prog.cellsOf 5) [c3,c4,c5])=xs[3]? :=hf 3 _ rfl
  have g4:DataW.trod enc Tryz.prog W base spare held n 5 (List.take (Tryz.prog.cellsOf 5) [c4,c5])=xs[4]? :=hf 4 _ rfl
  have g5:DataW.trod enc Tryz.prog W base spare held n 50 (List.take (Tryz.prog.cellsOf 50) [c5])=xs[5]? :=hf 5 _ rfl
  rw[k8,List.getElem?_eq_getElem (by omega)]at g0 g1 g2 g3 g4
  rw[k64,List.getElem?_eq_getElem (by omega)]at g5
  simp only[List.take_succ_cons,List.take_zero]at g0 g1 g2 g3 g4 g5
  obtain⟨n0,e0,_,w0⟩:=DataW.trod_int Tryz.underlying5 g0
  obtain⟨n1,e1,_,w1⟩:=DataW.trod_int Tryz.underlying5 g1
  obtain⟨n2,e2,_,w2⟩:=DataW.trod_int Tryz.underlying5 g2
  obtain⟨n3,e3,_,w3⟩:=DataW.trod_int Tryz.underlying5 g3
  obtain⟨n4,e4,_,w4⟩:=DataW.trod_int Tryz.underlying5 g4
  obtain⟨n5,e5,_,w5⟩:=DataW.trod_int Tryz.underlying50 g5
  have b0:=bounds_u8 w0
  have b1:=bounds_u8 w1
  have b2:=bounds_u8 w2
  have b3:=bounds_u8 w3
  have b4:=bounds_u8 w4
  have b5:=bounds_u64 w5
  simp only[List.cons.injEq,and_true]at e0 e1 e2 e3 e4 e5
  refine⟨⟨n0.toNat,n1.toNat,n2.toNat,n3.toNat,n4.toNat,n5.toNat⟩,?_,⟨?_,?_,?_,?_,?_,?_⟩⟩
  ·have z0:((n0.toNat:Nat):Int)=n0:=by omega
   have z1:((n1.toNat:Nat):Int)=n1:=by omega
   have z2:((n2.toNat:Nat):Int)=n2:=by omega
   have z3:((n3.toNat:Nat):Int)=n3:=by omega
   have z4:((n4.toNat:Nat):Int)=n4:=by omega
   have z5:((n5.toNat:Nat):Int)=n5:=by omega
   unfold uK.cells
   simp only
   rw[e0,e1,e2,e3,e4,e5,z0,z1,z2,z3,z4,z5]
  all_goals simp only;omega
theorem Sr{v:Value}{d:DataW H}{ps:List MemPlace}(h:DataW.Trod enc Tryz.prog W base spare held 22 v d ps)(hv:∃a n c,v=.slice a n c):
  ∃ops:List uK,Sl 6 (whole W) v (ops.map uK.cells)∧(∀o∈ops,o.Ok)∧((∀n∈d.weights Tryz.prog 22,n≤reachBytes)→ops.length≤140737488351232):=by
 obtain⟨fuel,hf⟩:=h
 have k6:Tryz.prog.cellsOf 106=6:=by kernel_rfl
 obtain⟨v',rs,hcs,JH,hw,hr⟩:=vE Tryz.underlying22 k6 (by decide) hf
 have yE:v'=v:=by
  obtain⟨a,n,c,rfl⟩:=hv
  simpa[Value.cells]using hcs.symm
 subst yE
 have hone:∀r∈rs,∃o:uK,r=o.cells∧o.Ok:=fun r hm=>by
  obtain⟨i,hi,e⟩:=List.mem_iff_getElem.1 hm
  obtain⟨f,y,_,_,hy,_⟩:=hr i r (by rw[List.getElem?_eq_getElem hi,e])
  exact Sq (JH.1 r hm) hy
 have hex:∃ops:List uK,rs=ops.map uK.cells∧∀o∈ops,o.Ok:=by
  clear JH hw hr hcs
  induction rs with
  |nil=>exact⟨[],rfl,by simp⟩
  |cons r rest ih=>
   obtain⟨l,h1,h2⟩:=ih fun r hm=>hone r (by simp[hm])
   obtain⟨o,h3,h4⟩:=hone r (by simp)
   exact⟨o::l,by simp[h1,h3],fun m hm=>by rcases List.mem_cons.1 hm with rfl|hm;exact h4;exact h2 m hm⟩
 obtain⟨ops,rfl,hok⟩:=hex
 refine⟨ops,JH,hok,fun aJ=>?_⟩
 rcases hw with⟨h1,_⟩|⟨es,sp,h1,h2⟩
 ·have:ops=[]:=by simpa using h1
  subst this;simp
 ·simp only at h1
  have:=aJ ((es.length+sp.length)*Tryz.prog.bytesOf 106) (by rw[h1,DataW.weights,Tryz.underlying22];exact List.mem_cons_self ..)
  rw[show Tryz.prog.bytesOf 106=16 by kernel_rfl]at this
  have h3:reachBytes=140737488351232:=rfl
  rw[List.length_map]at h2
  omega
end
end Go.Proofs
namespace aF
def Rm.uV(m:Rm)(g:Nat)(ord:List Nat)(p:Nat)(dn:Bool):Nat→Nat→Nat→Nat→Nat×Nat×Nat
 |0,j,b,q=>(j,b,q)
 |k+1,j,b,q=>
  if m.fit (av ord (road p j)) (bif dn then j else j-1)=true then
   if(if m.size (av ord (road p (bif dn then j+1 else j-1)))<b then m.size (av ord (road p (bif dn then j+1 else j-1)))else b)*g<m.size (av ord (road p (bif dn then j+1 else j-1)))*100 then
    (bif dn then j+1 else j-1,if m.size (av ord (road p (bif dn then j+1 else j-1)))<b then m.size (av ord (road p (bif dn then j+1 else j-1)))else b,if m.size (av ord (road p (bif dn then j+1 else j-1)))<b then(bif dn then j+1 else j-1)else q)
   else m.uV g ord p dn k (bif dn then j+1 else j-1) (if m.size (av ord (road p (bif dn then j+1 else j-1)))<b then m.size (av ord (road p (bif dn then j+1 else j-1)))else b) (if m.size (av ord (road p (bif dn then j+1 else j-1)))<b then(bif dn then j+1 else j-1)else q)
  else(j,b,q)
def dst(x y:Nat):Nat:=(x-y)+(y-x)
def Rm.rest(m:Rm)(dn:Bool)(j:Nat):Nat:=bif dn then m.n-1-j else j
def Rm.lY(m:Rm)(g:Nat)(ord:List Nat)(p:Nat):Nat×Nat:=
 let dn:=decide (m.n-1-p≤p)
 let a:=m.uV g ord p dn (m.rest dn p) p (m.size ord) p
 let b:=m.uV g ord p (!dn) (m.rest (!dn) p) p a.2.1 a.2.2
 (b.2.2,dst a.1 p+dst a.1 p+dst b.1 p+if b.2.2≠a.2.2 then dst b.1 b.2.2 else dst b.1 p+dst p b.2.2)
def Rm.bO(m:Rm)(g:Nat)(ord:List Nat):List Nat→List Nat×Nat
 | []=>([],0)
 |v::r=>let p:=ord.idxOf v;let a:=m.lY g ord p;let b:=m.bO g (av ord (road p a.1)) r;(road p a.1++b.1,a.2+b.2)
structure Ys(m:Rm)(ord:List Nat)(p:Nat)(dn:Bool)(k j b q:Nat)(r:Nat×Nat×Nat):Prop where
 way:bif dn then j≤r.1∧r.1≤j+k else r.1≤j∧j≤r.1+k
 size:r.2.1=m.size (av ord (road p r.2.2))
 new:(r.2.1=b∧r.2.2=q)∨(r.2.1<b∧bif dn then j<r.2.2∧r.2.2≤r.1 else r.1≤r.2.2∧r.2.2<j)
 fit:∀i,(bif dn then j≤i∧i<r.1 else r.1<i∧i≤j)→m.fit (av ord (road p i)) (bif dn then i else i-1)=true
theorem Rm.oH(m:Rm)(g:Nat)(ord:List Nat)(p:Nat)(dn:Bool):∀k j b q,(dn=false→k≤j)→b=m.size (av ord (road p q))→Ys m ord p dn k j b q (m.uV g ord p dn k j b q)
 |0,j,b,q,hk,hb=>⟨by cases dn<;>simp[uV],hb,.inl ⟨rfl,rfl⟩,fun i hi=>by cases dn<;>simp[uV]at hi<;>omega⟩
 |k+1,j,b,q,hk,hb=>by
  rw[uV]
  by_cases hf:m.fit (av ord (road p j)) (bif dn then j else j-1)=true
  ·rw[if_pos hf]
   obtain⟨J,hJ⟩:∃J,J=bif dn then j+1 else j-1:=⟨_,rfl⟩
   rw[←hJ]
   obtain⟨s,hs⟩:∃s,s=m.size (av ord (road p J)):=⟨_,rfl⟩
   rw[←hs]
   obtain⟨B,hB⟩:∃B,B=if s<b then s else b:=⟨_,rfl⟩
   obtain⟨Q,hQ⟩:∃Q,Q=if s<b then J else q:=⟨_,rfl⟩
   rw[←hB,←hQ]
   have hbq:(B=b∧Q=q)∨(B<b∧Q=J):=by
    by_cases h:s<b
    ·rw[if_pos h]at hB hQ;exact .inr ⟨by omega,hQ⟩
    ·rw[if_neg h]at hB hQ;exact .inl ⟨hB,hQ⟩
   have hb':B=m.size (av ord (road p Q)):=by
    by_cases h:s<b
    ·rw[if_pos h]at hB hQ;rw[hB,hQ,hs]
    ·rw[if_neg h]at hB hQ;rw[hB,hQ,hb]
   clear hB hQ
   by_cases hg:B*g<s*100
   ·rw[if_pos hg]
    refine⟨?_,hb',?_,fun i hi=>?_⟩
    ·cases dn
     ·simp only[cond_false]at hJ⊢;have:=hk rfl;omega
     ·simp only[cond_true]at hJ⊢;omega
    ·cases dn
     ·simp only[cond_false]at hJ⊢;have:=hk rfl;omega
     ·simp only[cond_true]at hJ⊢;omega
    ·have:i=j:=by
      cases dn
      ·simp only[cond_false]at hi hJ;omega
      ·simp only[cond_true]at hi hJ;omega
     subst this;exact hf
   ·rw[if_neg hg]
    have ih:=m.oH g ord p dn k J B Q (fun h=>by subst h;have:=hk rfl;simp only[cond_false]at hJ;omega) hb'
    obtain⟨w1,w2,w3,w4⟩:=ih
    refine⟨?_,w2,?_,fun i hi=>?_⟩
    ·cases dn
     ·simp only[cond_false]at w1 hJ⊢;have:=hk rfl;omega
     ·simp only[cond_true]at w1 hJ⊢;omega
    ·cases dn
     ·simp only[cond_false]at w3 w1 hJ⊢
      have:=hk rfl
      omega
     ·simp only[cond_true]at w3 w1 hJ⊢
      omega
    ·by_cases e:i=j
     ·subst e;exact hf
     ·refine w4 i ?_
      cases dn
      ·simp only[cond_false]at hi hJ⊢;omega
      ·simp only[cond_true]at hi hJ⊢;omega
  ·rw[if_neg hf]
   exact⟨by cases dn<;>simp,hb,.inl ⟨rfl,rfl⟩,fun i hi=>by cases dn<;>simp at hi<;>omega⟩
theorem Rm.tp(m:Rm){g:Nat}{ord:List Nat}{p:Nat}{dn:Bool}{A:Nat}(hfit:∀i,(bif dn then i+1<m.n else 0<i∧i<m.n)→m.fit (av ord (road p i)) (bif dn then i else i-1)=true)
 (hlo:∀i,i<m.n→A≤m.size (av ord (road p i)))(hhi:∀i,i<m.n→m.size (av ord (road p i))*100≤A*g):
  ∀k j b q,k=m.rest dn j→j<m.n→A≤b→(m.uV g ord p dn k j b q).2.1≤b∧∀i,(bif dn then j<i∧i<m.n else i<j)→(m.uV g ord p dn k j b q).2.1≤m.size (av ord (road p i))
 |0,j,b,q,hk,hj,hb=>⟨Nat.le_refl _,fun i hi=>by
  exfalso
  unfold Rm.rest at hk
  cases dn
  ·simp only[cond_false]at hk hi;omega
  ·simp only[cond_true]at hk hi;omega⟩
 |k+1,j,b,q,hk,hj,hb=>by
  unfold Rm.rest at hk
  rw[uV,if_pos (hfit j (by cases dn<;>simp only[cond_false,cond_true]at hk⊢ <;>omega))]
  have hj':(bif dn then j+1 else j-1)<m.n:=by cases dn<;>simp only[cond_false,cond_true]at hk⊢ <;>omega
  generalize hJ:(bif dn then j+1 else j-1)=J at*
  have h1:=hlo J hj'
  have h2:=hhi J hj'
  generalize hs:m.size (av ord (road p J))=s at*
  have hA:A≤(if s<b then s else b):=by split<;>assumption
  have hm:A*g≤(if s<b then s else b)*g:=Nat.mul_le_mul_right _ hA
  rw[if_neg (by omega)]
  obtain⟨i1,i2⟩:=m.tp hfit hlo hhi k J (if s<b then s else b) (if s<b then J else q) (by unfold Rm.rest;subst hJ;cases dn<;>simp only[cond_false,cond_true]at hk⊢ <;>omega) hj' hA
  have Y5:(if s<b then s else b)≤b∧(if s<b then s else b)≤s:=by split<;>omega
  refine⟨by omega,fun i hi=>?_⟩
  by_cases e:i=J
  ·subst e;rw[hs];omega
  ·refine i2 i ?_
   subst hJ
   cases dn<;>simp only[cond_false,cond_true]at hi⊢e<;>omega
structure Yd(m:Rm)(ord:List Nat)(p:Nat)(r:Nat×Nat):Prop where
 lt:r.1<m.n
 le:m.size (av ord (road p r.1))≤m.size ord
 stay:m.size (av ord (road p r.1))=m.size ord→r.1=p
 vH:r.2≤3*(m.n-1)
theorem Rm.xz(m:Rm)(g:Nat){ord:List Nat}{p:Nat}(hp:p<m.n):Yd m ord p (m.lY g ord p):=by
 have ha:=m.oH g ord p (decide (m.n-1-p≤p)) (m.rest (decide (m.n-1-p≤p)) p) p (m.size ord) p (fun h=>by unfold Rm.rest;rw[h];exact Nat.le_refl _) (by rw[cQ];rfl)
 unfold lY
 simp only
 generalize decide (m.n-1-p≤p)=dn at*
 generalize m.uV g ord p dn (m.rest dn p) p (m.size ord) p=a at*
 have hb:=m.oH g ord p (!dn) (m.rest (!dn) p) p a.2.1 a.2.2 (fun h=>by unfold Rm.rest;rw[h];exact Nat.le_refl _) ha.size
 generalize m.uV g ord p (!dn) (m.rest (!dn) p) p a.2.1 a.2.2=b at*
 obtain⟨a1,a2,a3,a4⟩:=ha
 obtain⟨b1,b2,b3,b4⟩:=hb
 unfold Rm.rest at a1 b1
 refine⟨?_,?_,fun h=>?_,?_⟩
 ·cases dn<;>simp only[cond_false,cond_true,Bool.not_false,Bool.not_true]at a1 b1 a3 b3<;>simp only<;>omega
 ·simp only;rw[←b2]
  cases dn<;>simp only[cond_false,cond_true,Bool.not_false,Bool.not_true]at a1 b1 a3 b3<;>omega
 ·simp only at h⊢;rw[←b2]at h
  cases dn<;>simp only[cond_false,cond_true,Bool.not_false,Bool.not_true]at a1 b1 a3 b3<;>omega
 ·unfold dst
  cases dn<;>simp only[cond_false,cond_true,Bool.not_false,Bool.not_true]at a1 b1 a3 b3<;>simp only<;>split<;>omega
theorem Rm.He(m:Rm){g:Nat}{ord:List Nat}{p:Nat}(hp:p<m.n)(hfit:∀i,i<m.n→∀l∈[i,i-1],l+1<m.n→m.fit (av ord (road p i)) l=true){A:Nat}
 (hlo:∀i,i<m.n→A≤m.size (av ord (road p i)))(hhi:∀i,i<m.n→m.size (av ord (road p i))*100≤A*g):∀i,i<m.n→m.size (av ord (road p (m.lY g ord p).1))≤m.size (av ord (road p i)):=by
 have hf:∀dn i,(bif dn then i+1<m.n else 0<i∧i<m.n)→m.fit (av ord (road p i)) (bif dn then i else i-1)=true:=fun dn i hi=>by
  cases dn<;>simp only[cond_false,cond_true]at hi⊢
  ·exact hfit i hi.2 _ (by simp) (by omega)
  ·exact hfit i (by omega) _ (by simp) hi
 have h0:=hlo p hp
 rw[cQ]at h0
 have Ry:A≤m.size ord:=h0
 have ha:=m.oH g ord p (decide (m.n-1-p≤p)) (m.rest (decide (m.n-1-p≤p)) p) p (m.size ord) p (fun h=>by unfold Rm.rest;rw[h];exact Nat.le_refl _) (by rw[cQ];rfl)
 have hA:=m.tp (dn:=decide (m.n-1-p≤p)) (hf _) hlo hhi (m.rest (decide (m.n-1-p≤p)) p) p (m.size ord) p rfl hp Ry
 unfold lY
 simp only
 generalize decide (m.n-1-p≤p)=dn at*
 generalize m.uV g ord p dn (m.rest dn p) p (m.size ord) p=a at*
 have hb:=m.oH g ord p (!dn) (m.rest (!dn) p) p a.2.1 a.2.2 (fun h=>by unfold Rm.rest;rw[h];exact Nat.le_refl _) ha.size
 have hAa:A≤a.2.1:=by
  rw[ha.size]
  refine hlo _ ?_
  obtain⟨a1,a2,a3,a4⟩:=ha
  unfold Rm.rest at a1
  cases dn<;>simp only[cond_false,cond_true]at a1 a3<;>omega
 have hB:=m.tp (dn:= !dn) (hf _) hlo hhi (m.rest (!dn) p) p a.2.1 a.2.2 rfl hp hAa
 generalize m.uV g ord p (!dn) (m.rest (!dn) p) p a.2.1 a.2.2=b at*
 intro i hi
 rw[←hb.size]
 by_cases e:i=p
 ·subst e;rw[cQ]
  have h1:b.2.1≤a.2.1:=hB.1
  have h2:a.2.1≤m.size ord:=hA.1
  exact Nat.le_trans h1 h2
 ·cases dn
  ·by_cases h:i<p
   ·exact Nat.le_trans hB.1 (hA.2 i h)
   ·exact hB.2 i ⟨by omega,hi⟩
  ·by_cases h:i<p
   ·exact hB.2 i h
   ·exact Nat.le_trans hB.1 (hA.2 i ⟨by omega,hi⟩)
end aF
namespace aF
section
variable {m:Rm} {g:Nat}
theorem FA{p q:Nat}(hp:p<m.n)(hq:q<m.n):∀x∈road p q,x+1<m.n:=fun x hx=>l6 hp hq hx
theorem LL{ord:List Nat}{v n:Nat}(hp:ord.Perm (List.range n))(hv:v<n):ord.idxOf v<n:=by
 have h1:v∈ord:=hp.mem_iff.2 (List.mem_range.2 hv)
 have h2:=List.idxOf_lt_length_of_mem h1
 rwa [hp.length_eq,List.length_range]at h2
theorem jl{ord path:List Nat}{n:Nat}(hp:ord.Perm (List.range n))(h:∀x∈path,x+1<n):(av ord path).Perm (List.range n):=
 (iG fun x hx=>by rw[hp.length_eq,List.length_range];exact h x hx).trans hp
structure Ul(m:Rm)(g:Nat)(ord l:List Nat)(r:List Nat×Nat):Prop where
 mem:∀x∈r.1,x+1<m.n
 le:m.size (av ord r.1)≤m.size ord
 stay:m.size (av ord r.1)=m.size ord→r.1=[]∧∀v∈l,(m.lY g ord (ord.idxOf v)).1=ord.idxOf v
 vH:r.2≤3*(m.n-1)*l.length
 len:r.1.length≤m.n*l.length
theorem kO:∀{l ord:List Nat},ord.Perm (List.range m.n)→(∀v∈l,v<m.n)→Ul m g ord l (m.bO g ord l)
 | [],ord,hp,hl=>⟨by simp[Rm.bO],Nat.le_refl _,fun _=>⟨rfl,by simp⟩,by simp[Rm.bO],by simp[Rm.bO]⟩
 |v::l,ord,hp,hl=>by
  have hv:=LL hp (hl v (by simp))
  have h1:=m.xz g (ord:=ord) hv
  rw[Rm.bO]
  generalize hq:ord.idxOf v=p at*
  generalize hr:m.lY g ord p=a at*
  obtain⟨a1,a2,a3,a4⟩:=h1
  have hin:=FA hv a1
  have h2:=kO (l:=l) (ord:=av ord (road p a.1)) (jl hp hin) (fun x hx=>hl x (by simp[hx]))
  generalize m.bO g (av ord (road p a.1)) l=b at*
  obtain⟨b1,b2,b3,b4,b5⟩:=h2
  have yF:=jZ p a.1
  refine⟨fun x hx=>?_,?_,fun h=>?_,?_,?_⟩
  ·rcases List.mem_append.1 hx with h|h
   ·exact hin x h
   ·exact b1 x h
  ·rw[df];omega
  ·rw[df]at h
   have e:=a3 (by omega)
   rw[e,cQ]at b3 h⊢
   obtain⟨c1,c2⟩:=b3 h
   refine⟨by rw[c1];rfl,fun u hu=>?_⟩
   rcases List.mem_cons.1 hu with rfl|hu
   ·rw[hq,hr];exact e
   ·exact c2 u hu
  ·rw[List.length_cons,Nat.mul_add,Nat.mul_one]
   show a.2+b.2≤_
   omega
  ·rw[List.length_append,List.length_cons,Nat.mul_add,Nat.mul_one];omega
theorem oo:∀{l ord:List Nat},(∀v∈l,(m.lY g ord (ord.idxOf v)).1=ord.idxOf v)→(m.bO g ord l).1=[]
 | [],ord,h=>rfl
 |v::l,ord,h=>by
  rw[Rm.bO]
  simp only
  rw[h v (by simp),cQ]
  have:=oo (l:=l) (ord:=av ord []) (fun u hu=>h u (by simp[hu]))
  simpa using this
def Rm.cy(m:Rm)(g:Nat)(ord:List Nat):List (List Nat)→List Nat×Nat
 | []=>([],0)
 |l::r=>let a:=m.bO g ord l;let b:=m.cy g (av ord a.1) r;(a.1++b.1,a.2+b.2)
def Rm.tI(m:Rm)(g:Nat)(ord:List Nat):List (List Nat)→Prop
 | []=>False
 | [l]=>¬m.size (av ord (m.bO g ord l).1)<m.size ord
 |l::r=>m.size (av ord (m.bO g ord l).1)<m.size ord∧m.tI g (av ord (m.bO g ord l).1) r
theorem oJ{ord l:List Nat}{r:List (List Nat)}(hr:r≠[]):m.tI g ord (l::r)↔m.size (av ord (m.bO g ord l).1)<m.size ord∧m.tI g (av ord (m.bO g ord l).1) r:=by
 cases r with
 |nil=>exact absurd rfl hr
 |cons a b=>exact Iff.rfl
structure Um(m:Rm)(g:Nat)(ord:List Nat)(ls:List (List Nat))(r:List Nat×Nat):Prop where
 mem:∀x∈r.1,x+1<m.n
 le:m.size (av ord r.1)≤m.size ord
 aaG:1≤ls.length∧ls.length+m.size (av ord r.1)≤m.size ord+1
 still:∀v,v<m.n→(m.lY g (av ord r.1) ((av ord r.1).idxOf v)).1=(av ord r.1).idxOf v
 vH:r.2≤3*(m.n-1)*m.n*ls.length
 len:r.1.length≤m.n*m.n*ls.length
theorem Fz:∀{ls:List (List Nat)} {ord:List Nat},ord.Perm (List.range m.n)→(∀l∈ls,l.Perm (List.range m.n))→m.tI g ord ls→Um m g ord ls (m.cy g ord ls)
 | [],ord,hp,hl,hg=>hg.elim
 | [l],ord,hp,hl,hg=>by
  have Pr:=hl l (by simp)
  have mz:l.length=m.n:=by rw[Pr.length_eq,List.length_range]
  obtain⟨a1,a2,a3,a4,a5⟩:=kO (g:=g) hp (fun v hv=>List.mem_range.1 (Pr.mem_iff.1 hv)) (l:=l)
  have Rg:¬m.size (av ord (m.bO g ord l).1)<m.size ord:=hg
  have h:m.cy g ord [l]=((m.bO g ord l).1++[],(m.bO g ord l).2+0):=rfl
  rw[h,List.append_nil,Nat.add_zero]
  have he:m.size (av ord (m.bO g ord l).1)=m.size ord:=by omega
  obtain⟨c1,c2⟩:=a3 he
  refine⟨a1,a2,⟨by simp,by simp;omega⟩,fun v hv=>?_,by rw[mz]at a4;simpa using a4,by rw[mz]at a5;simpa using a5⟩
  rw[c1]
  exact c2 v (Pr.mem_iff.2 (List.mem_range.2 hv))
 |l::l2::r,ord,hp,hl,hg=>by
  have Pr:=hl l (by simp)
  have mz:l.length=m.n:=by rw[Pr.length_eq,List.length_range]
  obtain⟨a1,a2,a3,a4,a5⟩:=kO (g:=g) hp (fun v hv=>List.mem_range.1 (Pr.mem_iff.1 hv)) (l:=l)
  obtain⟨g1,g2⟩:=(oJ (by simp)).1 hg
  have ih:=Fz (ls:=l2::r) (jl hp a1) (fun x hx=>hl x (by simp[List.mem_cons.1 hx])) g2
  have h:m.cy g ord (l::l2::r)=((m.bO g ord l).1++(m.cy g (av ord (m.bO g ord l).1) (l2::r)).1,(m.bO g ord l).2+(m.cy g (av ord (m.bO g ord l).1) (l2::r)).2):=rfl
  rw[h]
  generalize m.bO g ord l=a at*
  generalize m.cy g (av ord a.1) (l2::r)=b at*
  obtain⟨b1,b2,b3,b4,b5,b6⟩:=ih
  refine⟨fun x hx=>?_,by rw[df];omega,⟨by simp,?_⟩,?_,?_,?_⟩
  ·rcases List.mem_append.1 hx with h|h
   ·exact a1 x h
   ·exact b1 x h
  ·rw[df,List.length_cons];omega
  ·rw[df];exact b4
  ·show a.2+b.2≤_
   rw[mz]at a4
   rw[List.length_cons,Nat.mul_add,Nat.mul_one];omega
  ·rw[mz]at a5
   rw[List.length_append,List.length_cons,Nat.mul_add,Nat.mul_one];omega
theorem Ad{ord:List Nat}{ls:List (List Nat)}(hl:∀l∈ls,l.Perm (List.range m.n))(hs:∀v,v<m.n→(m.lY g ord (ord.idxOf v)).1=ord.idxOf v)(hg:m.tI g ord ls):ls.length=1∧(m.cy g ord ls).1=[]:=by
 match ls,hg with
 | [l],hg=>
  have h:=oo (m:=m) (g:=g) (ord:=ord) (l:=l) fun v hv=>hs v (List.mem_range.1 ((hl l (by simp)).mem_iff.1 hv))
  exact⟨rfl,by show(m.bO g ord l).1++[]=[];rw[h];rfl⟩
 |l::l2::r,hg=>
  exfalso
  have h:=oo (m:=m) (g:=g) (ord:=ord) (l:=l) fun v hv=>hs v (List.mem_range.1 ((hl l (by simp)).mem_iff.1 hv))
  have:=((oJ (by simp)).1 hg).1
  rw[h]at this
  exact Nat.lt_irrefl _ this
theorem vK{v:Nat}:∀{l ord:List Nat},m.bO g ord (l++[v])=((m.bO g ord l).1++road ((av ord (m.bO g ord l).1).idxOf v) (m.lY g (av ord (m.bO g ord l).1) ((av ord (m.bO g ord l).1).idxOf v)).1,(m.bO g ord l).2+(m.lY g (av ord (m.bO g ord l).1) ((av ord (m.bO g ord l).1).idxOf v)).2)
 | [],ord=>by simp[Rm.bO,av]
 |u::l,ord=>by
  rw[List.cons_append,Rm.bO,Rm.bO]
  simp only
  rw[vK (l:=l)]
  simp only[df,List.append_assoc,Nat.add_assoc]
theorem vL{l:List Nat}:∀{ls:List (List Nat)} {ord:List Nat},m.cy g ord (ls++[l])=((m.cy g ord ls).1++(m.bO g (av ord (m.cy g ord ls).1) l).1,(m.cy g ord ls).2+(m.bO g (av ord (m.cy g ord ls).1) l).2)
 | [],ord=>by simp[Rm.cy,av]
 |u::ls,ord=>by
  rw[List.cons_append,Rm.cy,Rm.cy]
  simp only
  rw[vL (ls:=ls)]
  simp only[df,List.append_assoc,Nat.add_assoc]
def Rm.qN(m:Rm)(g:Nat)(ord:List Nat):List (List Nat)→Prop
 | []=>True
 |l::r=>m.size (av ord (m.bO g ord l).1)<m.size ord∧m.qN g (av ord (m.bO g ord l).1) r
theorem rH{l:List Nat}:∀{ls:List (List Nat)} {ord:List Nat},m.qN g ord ls→m.size (av (av ord (m.cy g ord ls).1) (m.bO g (av ord (m.cy g ord ls).1) l).1)<m.size (av ord (m.cy g ord ls).1)→m.qN g ord (ls++[l])
 | [],ord,_,h=>⟨h,trivial⟩
 |u::ls,ord,h1,h=>by
  refine⟨h1.1,rH (ls:=ls) h1.2 ?_⟩
  rw[Rm.cy]at h
  simp only[df]at h
  exact h
theorem Ae{l:List Nat}:∀{ls:List (List Nat)} {ord:List Nat},m.qN g ord ls→¬m.size (av (av ord (m.cy g ord ls).1) (m.bO g (av ord (m.cy g ord ls).1) l).1)<m.size (av ord (m.cy g ord ls).1)→m.tI g ord (ls++[l])
 | [],ord,_,h=>h
 |u::ls,ord,h1,h=>by
  rw[List.cons_append,oJ (by simp)]
  refine⟨h1.1,Ae (ls:=ls) h1.2 ?_⟩
  rw[Rm.cy]at h
  simp only[df]at h
  exact h
structure NF(m:Rm)(g:Nat)(ord:List Nat)(ls:List (List Nat))(r:List Nat×Nat):Prop where
 mem:∀x∈r.1,x+1<m.n
 le:ls.length+m.size (av ord r.1)≤m.size ord
 vH:r.2≤3*(m.n-1)*m.n*ls.length
 len:r.1.length≤m.n*m.n*ls.length
theorem wz:∀{ls:List (List Nat)} {ord:List Nat},ord.Perm (List.range m.n)→(∀l∈ls,l.Perm (List.range m.n))→m.qN g ord ls→NF m g ord ls (m.cy g ord ls)
 | [],ord,hp,hl,hg=>⟨by simp[Rm.cy],by simp[Rm.cy,av],by simp[Rm.cy],by simp[Rm.cy]⟩
 |l::r,ord,hp,hl,hg=>by
  have Pr:=hl l (by simp)
  have mz:l.length=m.n:=by rw[Pr.length_eq,List.length_range]
  obtain⟨a1,a2,a3,a4,a5⟩:=kO (g:=g) hp (fun v hv=>List.mem_range.1 (Pr.mem_iff.1 hv)) (l:=l)
  have ih:=wz (ls:=r) (jl hp a1) (fun x hx=>hl x (by simp[hx])) hg.2
  have hg1:=hg.1
  rw[Rm.cy]
  generalize m.bO g ord l=a at*
  generalize m.cy g (av ord a.1) r=b at*
  obtain⟨b1,b2,b3,b4⟩:=ih
  rw[mz]at a4 a5
  refine⟨fun x hx=>?_,by rw[df,List.length_cons];omega,?_,?_⟩
  ·rcases List.mem_append.1 hx with h|h
   ·exact a1 x h
   ·exact b1 x h
  ·rw[List.length_cons,Nat.mul_add,Nat.mul_one]
   show a.2+b.2≤_
   omega
  ·rw[List.length_append,List.length_cons,Nat.mul_add,Nat.mul_one];omega
end
end aF
set_option maxRecDepth 100000
namespace Go.Proofs
open Go Go.Sx
open aF
def fY(kp a b q gr sw:Nat)(la:Int)(st:Value):Array Value:=#[ptr kp,.int .i64 (a:Int),.int .i64 (b:Int),.int .i64 (q:Int),.int .i64 (gr:Int),.int .i64 (sw:Int),.int .i64 la,st]
def eR(wp:Nat)(c:Array Value):Nat×Obj:=(wp,.cells c 175 (0,0))
def oh(bx wp:Nat):Nat×Obj:=(bx,.cells #[ptr wp] 172 (0,0))
def U0(dn:Bool):Nat:=bif dn then 181 else 183
def vI(dn:Bool)(bx:Nat):Value:=.func (.func (U0 dn)) #[] #[ptr bx]
def AO:Hp→Nat
 |(_,.cells c _ _)::_=>bK c.toList 1
 |_=>0
section
variable {kp wp bx a b q gr sw p:Nat} {la:Int} {st:Value} {K:Kd} {S:Nat→aF.Fn} {ord o tr:List Nat} {C:Hp} {dn:Bool}
theorem KJ{l a':Nat}{d:Int}(h:At kp K S ord tr C)(hl:l+1<K.n)(je:tr.length<1099511627776)(hf:iR K S ord l)(ha:(a:Int)+d=(a':Int))(hb:a'<1024)(AW:sw<4611686018427387904):
  Fc Tryz.prog 182 #[ptr wp,.int .i64 (l:Int),.int .i64 d] (eR wp (fY kp a b q gr sw la st)::C) (fun v H=>v=.int .i64 0∧∃C',H=eR wp (fY kp a' b q gr (sw+1) la st)::C'∧At kp K S (gI ord l) (tr++[l]) C'):=by
 intro g
 refine uv (R:=aB _) ?_
 unfold L182
 refine Nil.ptr (aa.mk (Ld.mk (v:=ptr kp) (by exact .head _) rfl ?_))
 refine ag.fn (.cons .here) (Gu h hl je hf) ?_
 rintro v C' ⟨rfl,h'⟩
 intro J6 h6
 refine ae.jR (Br.eU rfl ?_)
 refine Nil.ptr (aa.mk (Ld.mk (v:=.int .i64 (sw:Int)) (by exact .head _) rfl ?_))
 refine ae.aN (b:=1) (by simp[aE];omega) ?_
 refine Nil.ptr (aa.mk (St.one (c':=fY kp a b q gr (sw+1) la st) (by exact .head _) rfl (by simp[fY]) rfl ?_))
 refine Nil.ptr (aa.mk (Ld.mk (v:=.int .i64 (a:Int)) (by exact .head _) rfl ?_))
 refine ae.wL (c:=(a':Int)) ha (by omega) ?_
 refine Nil.ptr (aa.mk (St.one (c':=fY kp a' b q gr (sw+1) la st) (by exact .head _) rfl (by simp[fY]) rfl ?_))
 exact JE.mk (h6 _ fun gs=>aB.here ⟨rfl,C',rfl,h'⟩)
theorem QJ{l:Nat}{d:Int}(h:At kp K S ord tr C)(hl:l+1<K.n)(je:tr.length<1099511627776)(hf:¬iR K S ord l):
  Rd Tryz.prog 182 #[ptr wp,.int .i64 (l:Int),.int .i64 d] (eR wp (fY kp a b q gr sw la st)::C) (· =.int .i64 9):=by
 intro g
 refine uv (R:=aB _) ?_
 unfold L182
 refine Nil.ptr (aa.mk (Ld.mk (v:=ptr kp) (by exact .head _) rfl ?_))
 refine ag.rd (.cons .here) (tW h hl je hf) ?_
 rintro v rfl
 intro J6 h6
 refine ae.jR (Br.bt (by decide) ?_)
 exact JE.mk (h6 _ fun gs=>cw.mk (.refl _) rfl)
theorem qv(h:At kp K S ord tr C)(AX:1≤K.n):
  Fc Tryz.prog 110 #[ptr wp,.bool dn] (eR wp (fY kp a b q gr sw la st)::C) (fun v H=>v=.tuple #[]∧∃bx,H=eR wp (fY kp a b q gr sw (bif dn then((K.n-1:Nat):Int)else 0) (vI dn bx))::oh bx wp::C):=by
 have hn:=h.qA
 intro g
 refine EX (R:=aB _) ?_
 unfold L110
 intro b1 _
 cases dn
 ·refine Br.no ?_
  refine Ld.mk (v:=ptr wp) (by exact .head _) rfl ?_
  refine Nil.ptr (aa.mk (St.one (c':=fY kp a b q gr sw 0 st) (by exact .tail (.head _)) rfl (by simp[fY]) rfl ?_))
  refine Ld.mk (v:=ptr wp) (by exact .head _) rfl ?_
  refine Nil.ptr (aa.mk (St.one (c':=fY kp a b q gr sw 0 (vI false b1)) (by exact .tail (.head _)) rfl (by simp[fY]) rfl ?_))
  exact aB.mk .swap ⟨rfl,b1,rfl⟩
 ·refine Br.yes ?_
  refine DR.self ?_
  refine Ld.mk (v:=ptr wp) (by exact .head _) rfl ?_
  refine Ld.mk (v:=ptr wp) (by exact .head _) rfl ?_
  refine Nil.ptr (aa.mk (Ld.mk (v:=ptr kp) (by exact .tail _ (.head _)) rfl ?_))
  intro F
  refine ag.rd (.cons (.cons .here)) (nH h) ?_
  rintro v rfl
  refine⟨.refl _,?_⟩
  refine ae.bF (b:=1) (by simp[aE];omega) (by omega) ?_
  refine Nil.ptr (aa.mk fun F=>?_)
  refine St.one (c':=fY kp a b q gr sw ((K.n-1:Nat):Int) st) (by exact .tail (.head _)) rfl (by simp[fY]) rfl ?_
  refine Ld.mk (v:=ptr wp) (by exact .head _) rfl ?_
  refine Nil.ptr (aa.mk (St.one (c':=fY kp a b q gr sw ((K.n-1:Nat):Int) (vI true b1)) (by exact .tail (.head _)) rfl (by simp[fY]) rfl ?_))
  exact aB.mk .swap ⟨rfl,b1,rfl⟩
def nm(dn:Bool)(j:Nat):Nat:=bif dn then j+1 else j-1
def Sg(dn:Bool)(j:Nat):Nat:=bif dn then j else j-1
theorem KU{j:Nat}(hs:bif dn then p≤j else 0<j∧j≤p):road p (nm dn j)=road p j++[Sg dn j]:=by
 cases dn
 ·simp only[cond_false]at hs
  obtain⟨i,rfl⟩:∃i,j=i+1:=⟨j-1,by omega⟩
  exact ng hs.2
 ·exact nf hs
theorem y2{j:Nat}(h:At kp K S (av o (road p j)) (tr++road p j) C)(hp:p<K.n)(hs:bif dn then p≤j∧j+1<K.n else 0<j∧j≤p)(je:(tr++road p j).length<1099511627776)(hf:iR K S (av o (road p j)) (Sg dn j))(AW:sw<4611686018427387904):
  Fc Tryz.prog (U0 dn) #[ptr bx] (eR wp (fY kp j b q gr sw la st)::oh bx wp::C) (fun v H=>v=.int .i64 0∧∃C',H=eR wp (fY kp (nm dn j) b q gr (sw+1) la st)::oh bx wp::C'∧At kp K S (av o (road p (nm dn j))) (tr++road p (nm dn j)) C'):=by
 have hn:=h.qA
 have hr:=KU (p:=p) (dn:=dn) (j:=j) (by cases dn<;>simp only[cond_false,cond_true]at hs⊢ <;>omega)
 intro g
 rw[hr,eP,←List.append_assoc]
 cases dn
 ·simp only[cond_false]at hs
  refine uu (R:=aB _) ?_
  unfold L183
  refine DR.self ?_
  refine Ld.mk (v:=ptr wp) (by exact .tail _ (.head _)) rfl ?_
  refine Ld.mk (v:=ptr wp) (by exact .tail _ (.head _)) rfl ?_
  refine Nil.ptr (aa.mk (Ld.mk (v:=.int .i64 (j:Int)) (by exact .head _) rfl ?_))
  refine ae.bF (b:=1) (by simp[aE];omega) (by omega) ?_
  intro F
  refine ag.pre .swap ?_
  refine ag.fn (.cons .here) (KJ (a':=j-1) h (by omega) je hf (by omega) (by omega) AW) ?_
  rintro v H ⟨rfl,C',rfl,h'⟩
  exact aB.mk .swap ⟨rfl,C',rfl,h'⟩
 ·simp only[cond_true]at hs
  refine uw (R:=aB _) ?_
  unfold L181
  refine DR.self ?_
  refine Ld.mk (v:=ptr wp) (by exact .tail _ (.head _)) rfl ?_
  refine Ld.mk (v:=ptr wp) (by exact .tail _ (.head _)) rfl ?_
  refine Nil.ptr (aa.mk (Ld.mk (v:=.int .i64 (j:Int)) (by exact .head _) rfl ?_))
  intro F
  refine ag.pre .swap ?_
  refine ag.fn (.cons .here) (KJ (a':=j+1) h (by omega) je hf (by omega) (by omega) AW) ?_
  rintro v H ⟨rfl,C',rfl,h'⟩
  exact aB.mk .swap ⟨rfl,C',rfl,h'⟩
theorem OI{j:Nat}(h:At kp K S ord tr C)(hs:bif dn then j+1<K.n else 0<j∧j<K.n)(je:tr.length<1099511627776)(hf:¬iR K S ord (Sg dn j)):
  Rd Tryz.prog (U0 dn) #[ptr bx] (eR wp (fY kp j b q gr sw la st)::oh bx wp::C) (· =.int .i64 9):=by
 have hn:=h.qA
 intro g
 cases dn
 ·simp only[cond_false]at hs
  refine uu (R:=aB _) ?_
  unfold L183
  refine DR.self ?_
  refine Ld.mk (v:=ptr wp) (by exact .tail _ (.head _)) rfl ?_
  refine Ld.mk (v:=ptr wp) (by exact .tail _ (.head _)) rfl ?_
  refine Nil.ptr (aa.mk (Ld.mk (v:=.int .i64 (j:Int)) (by exact .head _) rfl ?_))
  refine ae.bF (b:=1) (by simp[aE];omega) (by omega) ?_
  intro F
  refine ag.pre .swap ?_
  refine ag.rd (.cons .here) (QJ h (by omega) je hf) ?_
  rintro v rfl
  exact cw.mk .swap rfl
 ·simp only[cond_true]at hs
  refine uw (R:=aB _) ?_
  unfold L181
  refine DR.self ?_
  refine Ld.mk (v:=ptr wp) (by exact .tail _ (.head _)) rfl ?_
  refine Ld.mk (v:=ptr wp) (by exact .tail _ (.head _)) rfl ?_
  refine Nil.ptr (aa.mk (Ld.mk (v:=.int .i64 (j:Int)) (by exact .head _) rfl ?_))
  intro F
  refine ag.pre .swap ?_
  refine ag.rd (.cons .here) (QJ h (by omega) je hf) ?_
  rintro v rfl
  exact cw.mk .swap rfl
theorem yZ(dn:Bool):bA Tryz.prog (U0 dn)=true:=by cases dn<;>kernel_rfl
theorem ov{n j:Nat}(hn:n≤64)(hp:p<n)(hj:j<n):(road p j).length≤64:=by rw[jZ];omega
theorem KS(h0:At kp K S o tr C)(hp:p<K.n)(gA:100≤gr∧gr≤1000)(hb:b≤1048576)(AW:sw<1099511627776)(je:tr.length<549755813888)(hla:la=bif dn then((K.n-1:Nat):Int)else 0){r:Nat×Nat×Nat}(hr:(rm K S).uV gr o p dn ((rm K S).rest dn p) p b q=r):
  Fc Tryz.prog 111 #[ptr wp] (eR wp (fY kp p b q gr sw la (vI dn bx))::oh bx wp::C) (fun v H=>v=.tuple #[]∧∃C',H=eR wp (fY kp r.1 r.2.1 r.2.2 gr (sw+dst r.1 p) la (vI dn bx))::oh bx wp::C'∧At kp K S (av o (road p r.1)) (tr++road p r.1) C'):=by
 have hn:=h0.qA
 intro g
 refine EW (R:=aB _) ?_
 unfold L111
 refine⟨fun vs H=>∃(k j b' q':Nat) (C':Hp),vs=[]∧H=eR wp (fY kp j b' q' gr (sw+dst j p) la (vI dn bx))::oh bx wp::C'∧At kp K S (av o (road p j)) (tr++road p j) C'∧k=(rm K S).rest dn j∧(bif dn then p≤j∧j<K.n else j≤p)∧b'≤1048576∧(rm K S).uV gr o p dn k j b' q'=r,
  fun _ H=>bif dn then K.n-AO H else AO H,JE.mk ⟨_,p,b,q,C,rfl,by simp[dst],by rw[cQ,List.append_nil];exact h0,rfl,by cases dn<;>simp[hp],hb,hr⟩,?_⟩
 rintro H ⟨k,j,b',q',C',_,rfl,hA,hk,hs,hb',r6⟩ gs
 have NX:j<K.n:=by cases dn<;>simp only[cond_false,cond_true]at hs<;>omega
 have BT:dst j p≤64:=by unfold dst;omega
 have yF:=ov hn hp NX
 have LO:(tr++road p j).length<1099511627776:=by rw[List.length_append];omega
 have uY:(rm K S).n=K.n:=rfl
 have hsz:∀o:List Nat,(rm K S).size o=cS K S o:=fun _=>rfl
 intro J5 h5
 have fin:r=(j,b',q')→J5 [.bool false] (eR wp (fY kp j b' q' gr (sw+dst j p) la (vI dn bx))::oh bx wp::C'):=fun e=>h5 _ _ fun gs=>Br.no (aB.here ⟨rfl,C',by rw[e],by rw[e];exact hA⟩)
 refine DR.self ?_
 refine Nil.ptr (aa.mk (Ld.mk (v:=.int .i64 (j:Int)) (by exact .head _) rfl ?_))
 refine Nil.ptr (aa.mk (Ld.mk (v:=.int .i64 la) (by exact .head _) rfl ?_))
 refine ae.dh (Br.dec (fun hne=>?_) (fun heq=>?_))
 rotate_left
 ·have NW:k=0:=by
   rw[hk];unfold Rm.rest
   cases dn<;>simp only[cond_false,cond_true]at hla⊢ <;>omega
  subst NW
  exact JE.mk (fin r6.symm)
 have my:bif dn then j+1<K.n else 0<j:=by
  cases dn<;>simp only[cond_false,cond_true]at hla⊢ <;>omega
 obtain⟨k',hk'⟩:∃k',k=k'+1:=by
  refine⟨k-1,?_⟩
  rw[hk];unfold Rm.rest
  cases dn<;>simp only[cond_false,cond_true]at my⊢ <;>omega
 subst hk'
 rw[Rm.uV]at r6
 change (if(rm K S).fit (av o (road p j)) (Sg dn j)=true then _ else _)=r at r6
 refine Nil.ptr (aa.mk (Ld.mk (v:=vI dn bx) (by exact .head _) rfl ?_))
 intro F
 refine cC.of (f:=U0 dn) rfl (yZ dn) ?_
 by_cases hf:iR K S (av o (road p j)) (Sg dn j)
 rotate_left
 ·refine ag.rd (args:=#[ptr bx]) .here (OI hA (by cases dn<;>simp only[cond_false,cond_true]at my⊢ <;>omega) LO hf) ?_
  rintro v rfl
  refine ae.jR (az.mk ?_)
  rw[if_neg (fun h=>hf (l7.1 h))]at r6
  exact JE.mk (fin r6.symm)
 refine ag.fn (args:=#[ptr bx]) .here (y2 hA hp (by cases dn<;>simp only[cond_false,cond_true]at my hs⊢ <;>omega) LO hf (by omega)) ?_
 rintro v H ⟨rfl,C2,rfl,kH⟩
 refine ae.jR (az.mk ?_)
 rw[if_pos (show(rm K S).fit (av o (road p j)) (Sg dn j)=true from l7.2 hf)]at r6
 change (if(if(rm K S).size (av o (road p (nm dn j)))<b' then(rm K S).size (av o (road p (nm dn j)))else b')*gr<(rm K S).size (av o (road p (nm dn j)))*100 then(nm dn j,if(rm K S).size (av o (road p (nm dn j)))<b' then(rm K S).size (av o (road p (nm dn j)))else b',if(rm K S).size (av o (road p (nm dn j)))<b' then nm dn j else q')else(rm K S).uV gr o p dn k' (nm dn j) (if(rm K S).size (av o (road p (nm dn j)))<b' then(rm K S).size (av o (road p (nm dn j)))else b') (if(rm K S).size (av o (road p (nm dn j)))<b' then nm dn j else q'))=r at r6
 have hle:=iZ kH
 rw[hsz]at r6
 have abj:sw+dst j p+1=sw+dst (nm dn j) p:=by unfold dst nm;cases dn<;>simp only[cond_false,cond_true]at my hs⊢ <;>omega
 rw[abj]
 have hnk:k'=(rm K S).rest dn (nm dn j):=by
  unfold Rm.rest at hk⊢;unfold nm
  cases dn<;>simp only[cond_false,cond_true]at my hk⊢ <;>omega
 have WE:bif dn then p≤nm dn j∧nm dn j<K.n else nm dn j≤p:=by
  unfold nm
  cases dn<;>simp only[cond_false,cond_true]at my hs⊢ <;>omega
 have hms:(bif dn then K.n-nm dn j else nm dn j)<(bif dn then K.n-j else j):=by
  unfold nm
  cases dn<;>simp only[cond_false,cond_true]at my⊢ <;>omega
 generalize hj':nm dn j=j' at*
 generalize hs':cS K S (av o (road p j'))=s at*
 have WG:∀b2 q2,AO (eR wp (fY kp j b' q' gr (sw+dst j p) la (vI dn bx))::oh bx wp::C')=j∧∀C2,AO (eR wp (fY kp j' b2 q2 gr (sw+dst j' p) la (vI dn bx))::oh bx wp::C2)=j':=fun b2 q2=>⟨by simp[AO,eR,fY,bK],fun C2=>by simp[AO,eR,fY,bK]⟩
 refine JE.mk (h5 _ _ fun gs=>Br.yes ?_)
 refine Nil.ptr (aa.mk (Ld.mk (v:=ptr kp) (by exact .head _) rfl ?_))
 refine ag.rd (.cons (.cons .here)) (gK kH) ?_
 rintro v rfl
 rw[hs']
 intro Qx h14
 have next:∀b2 q2,b2≤1048576→(if b2*gr<s*100 then(j',b2,q2)else(rm K S).uV gr o p dn k' j' b2 q2)=r→Qx [] (eR wp (fY kp j' b2 q2 gr (sw+dst j' p) la (vI dn bx))::oh bx wp::C2):=by
  intro b2 q2 Xk qh
  refine h14 _ fun gs=>?_
  have LZ:b2*gr≤1048576*1000:=Nat.mul_le_mul Xk gA.2
  refine ae.rZ (b:=100) (by simp only[aE];omega) ?_
  refine Nil.ptr (aa.mk (Ld.mk (v:=.int .i64 (b2:Int)) (by exact .head _) rfl ?_))
  refine Nil.ptr (aa.mk (Ld.mk (v:=.int .i64 (gr:Int)) (by exact .head _) rfl ?_))
  refine ae.rZ (by simp only[aE];omega) ?_
  refine ae.lP (Br.dec (fun hgt=>?_) (fun hgt=>?_))
  ·rw[if_pos hgt]at qh
   subst qh
   exact aB.here ⟨rfl,C2,rfl,kH⟩
  ·rw[if_neg hgt]at qh
   refine aC.mk ⟨k',j',b2,q2,C2,rfl,rfl,kH,hnk,WE,Xk,qh⟩ ?_
   rw[(WG b2 q2).1,(WG b2 q2).2]
   exact hms
 refine Nil.ptr (aa.mk (Ld.mk (v:=.int .i64 (b':Int)) (by exact .head _) rfl ?_))
 refine ae.fu (Br.dec (fun hlt=>?_) (fun hlt=>?_))
 ·rw[if_pos hlt,if_pos hlt]at r6
  refine Nil.ptr (aa.mk (Ld.mk (v:=.int .i64 (j':Int)) (by exact .head _) rfl ?_))
  refine Nil.ptr (aa.mk (St.one (c':=fY kp j' s q' gr (sw+dst j' p) la (vI dn bx)) (by exact .head _) rfl (by simp[fY]) rfl ?_))
  refine Nil.ptr (aa.mk (St.one (c':=fY kp j' s j' gr (sw+dst j' p) la (vI dn bx)) (by exact .head _) rfl (by simp[fY]) rfl ?_))
  exact JE.mk (next _ _ (by omega) r6)
 ·rw[if_neg hlt,if_neg hlt]at r6
  exact JE.mk (next _ _ hb' r6)
theorem xp{j t:Nat}(h:At kp K S (av o (road p j)) (tr++road p j) C)(uZ:o.length=K.n)(hp:p<K.n)(hjt:(p≤t∧t≤j∧j<K.n)∨(j≤t∧t≤p))(AW:sw<1099511627776)(je:tr.length<549755813888):
  Fc Tryz.prog 112 #[ptr wp,.int .i64 (t:Int)] (eR wp (fY kp j b q gr sw la st)::C) (fun v H=>v=.tuple #[]∧∃C',H=eR wp (fY kp t b q gr (sw+dst j t) la st)::C'∧At kp K S (av o (road p t)) (tr++road p t) C'):=by
 have hn:=h.qA
 intro g
 refine EV (R:=aB _) ?_
 unfold L112
 refine⟨fun vs H=>∃(i:Nat) (C':Hp),vs=[]∧H=eR wp (fY kp i b q gr (sw+dst j i) la st)::C'∧At kp K S (av o (road p i)) (tr++road p i) C'∧((p≤t∧t≤i∧i≤j∧j<K.n)∨(j≤i∧i≤t∧t≤p)),
  fun _ H=>dst (AO H) t,JE.mk ⟨j,C,rfl,by simp[dst],h,by omega⟩,?_⟩
 rintro H ⟨i,C',_,rfl,hA,hs⟩ gs
 have hin:i<K.n:=by omega
 have hdi:dst j i≤64:=by unfold dst;omega
 have yF:=ov hn hp hin
 have BN:∀i sw C',AO (eR wp (fY kp i b q gr sw la st)::C')=i:=fun i sw C'=>by simp[AO,eR,fY,bK]
 refine Nil.ptr (aa.mk (Ld.mk (v:=.int .i64 (i:Int)) (by exact .head _) rfl ?_))
 refine ae.yB (Br.dec (fun hne=>?_) (fun heq=>?_))
 rotate_left
 ·obtain rfl:i=t:=by omega
  exact aB.here ⟨rfl,C',rfl,hA⟩
 refine Nil.ptr (aa.mk (Ld.mk (v:=ptr kp) (by exact .head _) rfl ?_))
 rcases hs with hs|hs
 ·obtain⟨i,rfl⟩:∃i',i=i'+1:=⟨i-1,by omega⟩
  rw[nf (by omega),eP,←List.append_assoc]at hA
  refine ag.fn (.cons .here) (yh hA (by rw[nf (by omega),List.length_append,List.length_singleton]at yF;rw[List.length_append];omega)) ?_
  rintro w C2 ⟨rfl,kH⟩
  rw[po (by rw[dP,uZ];omega)]at kH
  refine Ext.mk rfl (Ext.mk rfl ?_)
  refine Nil.ptr (aa.mk (Ld.mk (v:=.int .i64 ((sw+dst j (i+1):Nat):Int)) (by exact .head _) rfl ?_))
  refine ae.aN (b:=1) (by simp[aE];omega) ?_
  refine Nil.ptr (aa.mk (St.one (c':=fY kp (i+1) b q gr (sw+dst j (i+1)+1) la st) (by exact .head _) rfl (by simp[fY]) rfl ?_))
  refine Nil.ptr (aa.mk (Ld.mk (v:=.int .i64 ((i+1:Nat):Int)) (by exact .head _) rfl ?_))
  refine ae.fu (Br.eU (by omega) ?_)
  refine Nil.ptr (aa.mk (St.one (c':=fY kp i b q gr (sw+dst j (i+1)+1) la st) (by exact .head _) rfl (by simp[fY]) rfl ?_))
  refine aC.mk ⟨i,C2,rfl,by rw[show sw+dst j (i+1)+1=sw+dst j i by unfold dst;omega];rfl,kH,by omega⟩ ?_
  show dst (AO (eR wp (fY kp i b q gr (sw+dst j (i+1)+1) la st)::C2)) t<dst (AO (eR wp (fY kp (i+1) b q gr (sw+dst j (i+1)) la st)::C')) t
  rw[BN,BN];unfold dst;omega
 ·rw[ng (by omega),eP,←List.append_assoc]at hA
  refine ag.fn (.cons .here) (yh hA (by rw[ng (by omega),List.length_append,List.length_singleton]at yF;rw[List.length_append];omega)) ?_
  rintro w C2 ⟨rfl,kH⟩
  rw[po (by rw[dP,uZ];omega)]at kH
  refine Ext.mk rfl (Ext.mk rfl ?_)
  refine Nil.ptr (aa.mk (Ld.mk (v:=.int .i64 ((sw+dst j i:Nat):Int)) (by exact .head _) rfl ?_))
  refine ae.aN (b:=1) (by simp[aE];omega) ?_
  refine Nil.ptr (aa.mk (St.one (c':=fY kp i b q gr (sw+dst j i+1) la st) (by exact .head _) rfl (by simp[fY]) rfl ?_))
  refine Nil.ptr (aa.mk (Ld.mk (v:=.int .i64 (i:Int)) (by exact .head _) rfl ?_))
  refine ae.fu (Br.bt (by omega) ?_)
  refine ae.aN (b:=1) (by simp[aE];omega) ?_
  refine Nil.ptr (aa.mk (St.one (c':=fY kp (i+1) b q gr (sw+dst j i+1) la st) (by exact .head _) rfl (by simp[fY]) rfl ?_))
  refine aC.mk ⟨i+1,C2,rfl,by rw[show sw+dst j i+1=sw+dst j (i+1)by unfold dst;omega];rfl,kH,by omega⟩ ?_
  show dst (AO (eR wp (fY kp (i+1) b q gr (sw+dst j i+1) la st)::C2)) t<dst (AO (eR wp (fY kp i b q gr (sw+dst j i) la st)::C')) t
  rw[BN,BN];unfold dst;omega
end
end Go.Proofs
set_option maxRecDepth 100000
namespace Go.Proofs
open Go Go.Sx
open aF
section
variable {kp v gr:Nat} {K:Kd} {S:Nat→aF.Fn} {ord tr:List Nat} {C:Hp}
theorem oq(kp:Nat){gr:Int}(C:Hp):Rd Tryz.prog 109 #[ptr kp,.int .i64 gr] C (· =.int .i64 (if gr<100∨1000<gr then 1 else 0)):=by
 intro g
 refine EY (R:=aB _) ?_
 unfold L109
 refine ae.aH (Br.no ?_)
 refine ae.lss ?_
 refine bX.or (decide (1000<gr)) (fun _=>ae.gtr ⟨rfl,rfl⟩) rfl fun gs=>?_
 by_cases h:gr<100∨1000<gr
 ·rw[if_pos h]
  refine Br.JY ?_ (cw.mk (.refl _) rfl)
  simpa using h
 ·rw[if_neg h]
  refine Br.U5 ?_ (cw.mk (.refl _) rfl)
  simpa using h
theorem K7(hp:ord.Perm (List.range K.n)){p:Nat}(NU:p<K.n)(hv:ord.getD p 0=v):ord.idxOf v=p:=by
 have uZ:ord.length=K.n:=by rw[hp.length_eq,List.length_range]
 have ig:ord.Nodup:=hp.nodup_iff.2 List.nodup_range
 have hm:v∈ord:=by
  rw[←hv,List.getD_eq_getElem?_getD,List.getElem?_eq_getElem (by omega)];exact List.getElem_mem _
 have h1:=List.idxOf_lt_length_of_mem hm
 refine getD_inj ig h1 (by omega) ?_
 rw[hv,List.getD_eq_getElem?_getD,List.getElem?_eq_getElem h1]
 exact List.getElem_idxOf h1
theorem Fx(h:At kp K S ord tr C)(hp:ord.Perm (List.range K.n))(hv:v<K.n)(gA:100≤gr∧gr≤1000)(je:tr.length<549755813888){r:Nat×Nat}(hr:(rm K S).lY gr ord (ord.idxOf v)=r):
  Fc Tryz.prog 45 #[ptr kp,.int .i64 (v:Int),.int .i64 (gr:Int)] C (fun w H=>w=.tuple #[rep (cS K S ord) (cS K S (av ord (road (ord.idxOf v) r.1))) r.2,.int .i64 0]∧At kp K S (av ord (road (ord.idxOf v) r.1)) (tr++road (ord.idxOf v) r.1) H):=by
 have hn:=h.qA
 have uZ:ord.length=K.n:=by rw[hp.length_eq,List.length_range]
 have hsz:=iZ h
 have uY:(rm K S).n=K.n:=rfl
 intro g
 refine Jh (R:=aB _) ?_
 unfold L45
 intro b1 _
 refine ag.rd (.cons .here) (oq kp (gr:=(gr:Int)) C) ?_
 rintro w rfl
 rw[if_neg (by omega)]
 refine ae.dh (Br.bt (by simp) ?_)
 refine ag.rd (.cons .here) (tV h hv) ?_
 rintro w ⟨p,NU,Te,rfl⟩
 have Po:=K7 hp NU Te
 rw[Po]at hr⊢
 have ah0:p<(rm K S).n:=NU
 refine Ext.mk rfl (Ext.mk rfl ?_)
 refine ae.dh (Br.bt (by simp) ?_)
 refine ag.rd (.cons .here) (gK h) ?_
 rintro w rfl
 refine Build.mk (cs:=[.int .i64 ((cS K S ord:Nat):Int),.int .i64 0,.int .i64 0,.bool false]) (by kernel_rfl) ?_
 intro RF _
 refine St.whole (r:=[.int .i64 ((cS K S ord:Nat):Int),.int .i64 0,.int .i64 0,.bool false]) (by exact .head _) rfl rfl (by simp[Value.oneCell']) ?_
 refine aa.mk (Ld.mk (v:=.int .i64 ((cS K S ord:Nat):Int)) (by exact .head _) rfl ?_)
 refine Build.mk (cs:=[ptr kp,.int .i64 (p:Int),.int .i64 ((cS K S ord:Nat):Int),.int .i64 (p:Int),.int .i64 (gr:Int),.int .i64 0,.int .i64 0,.nilFunc]) (by kernel_rfl) ?_
 intro wp _
 refine ag.rd (.cons (.cons (.cons .here))) (nH h) ?_
 rintro w rfl
 refine ae.bF (b:=1) (by simp[aE];omega) (by omega) ?_
 refine ae.bF (by simp[aE];omega) (by omega) ?_
 refine ae.AU ?_
 obtain⟨X,hX⟩:∃X:Hp,X=[(RF,Obj.cells (List.toArray [.int .i64 ((cS K S ord:Nat):Int),.int .i64 0,.int .i64 0,.bool false]) 42 (0,0)),(b1,Obj.cells #[.int .i64 0,.int .i64 0,.int .i64 0,.bool false] 42 (0,0))]:=⟨_,rfl⟩
 unfold Rm.lY at hr
 simp only[uY]at hr
 rw[show(rm K S).size ord=cS K S ord from rfl]at hr
 generalize hdn:decide (K.n-1-p≤p)=dn at*
 have adf:∀x:Nat×Obj,aU (x::(RF,Obj.cells (List.toArray [.int .i64 ((cS K S ord:Nat):Int),.int .i64 0,.int .i64 0,.bool false]) 42 (0,0))::(b1,Obj.cells #[.int .i64 0,.int .i64 0,.int .i64 0,.bool false] 42 (0,0))::C) (X++(x::C)):=fun x=>.perm (by rw[hX];exact(List.perm_middle (l₁:=[_,_])).symm)
 refine ag.pre (adf _) ?_
 refine ag.fn (.app .here) (qv (wp:=wp) (a:=p) (b:=cS K S ord) (q:=p) (gr:=gr) (sw:=0) (la:=0) (st:=.nilFunc) (dn:=dn) h (by omega)) ?_
 rintro w H ⟨rfl,bx,rfl⟩
 refine ag.fn (.app .here) (KS h NU gA (by omega) (by omega) je rfl rfl) ?_
 rintro w H ⟨rfl,C1,rfl,Ik⟩
 have vb:=(rm K S).oH gr ord p dn ((rm K S).rest dn p) p (cS K S ord) p (fun h=>by unfold Rm.rest;rw[h];exact Nat.le_refl _) (by rw[cQ];rfl)
 generalize (rm K S).uV gr ord p dn ((rm K S).rest dn p) p (cS K S ord) p=a at*
 have qh:=(rm K S).oH gr ord p (!dn) ((rm K S).rest (!dn) p) p a.2.1 a.2.2 (fun h=>by unfold Rm.rest;rw[h];exact Nat.le_refl _) vb.size
 obtain⟨a1,a2,a3,a4⟩:=vb
 unfold Rm.rest at a1
 rw[uY]at a1
 have BU:a.1<K.n∧((p≤a.1)∨(a.1≤p)):=by cases dn<;>simp only[cond_false,cond_true]at a1<;>omega
 have hab:a.2.1≤1048576:=by
  have:a.2.1≤cS K S ord:=by omega
  omega
 have Mh:dst a.1 p≤64:=by unfold dst;omega
 refine ag.pre (aU.c8 (.cons .tail) X) ?_
 refine ag.fn (.app .here) (xp (t:=p) Ik uZ NU (by omega) (by omega) je) ?_
 rintro w H ⟨rfl,C2,rfl,kH⟩
 rw[cQ,List.append_nil]at kH
 have kH:At kp K S ord tr C2:=kH
 refine Nil.ptr (aa.mk (Ld.mk (v:=.int .i64 ((a.2.2:Nat):Int)) (by exact List.mem_append_right _ (.head _)) rfl ?_))
 refine Un.not ?_
 refine ag.fn (.app .here) (qv (dn:= !dn) kH (by omega)) ?_
 rintro w H ⟨rfl,bx2,rfl⟩
 refine ag.fn (.app .here) (KS kH NU gA hab (by omega) je rfl rfl) ?_
 rintro w H ⟨rfl,C3,rfl,uJ⟩
 generalize (rm K S).uV gr ord p (!dn) ((rm K S).rest (!dn) p) p a.2.1 a.2.2=b at*
 obtain⟨e1,e2,e3,e4⟩:=qh
 unfold Rm.rest at e1
 rw[uY]at e1
 have tw:bif dn then p≤a.2.2∧a.2.2≤a.1 else a.1≤a.2.2∧a.2.2≤p:=by
  cases dn<;>simp only[cond_false,cond_true]at a3 a1⊢ <;>omega
 have hb1:b.1<K.n∧((p≤b.1)∨(b.1≤p)):=by cases dn<;>simp only[cond_false,cond_true,Bool.not_false,Bool.not_true]at e1<;>omega
 have wx:dst b.1 p≤64:=by unfold dst;omega
 intro YA h47
 have fin:∀(bb:Nat) (BG:Int) (st':Value) (Cf:Hp),At kp K S (av ord (road p r.1)) (tr++road p r.1) Cf→YA [] (X++(eR wp (fY kp r.1 bb r.1 gr r.2 BG st')::Cf)):=by
  intro bb BG st' Cf hAf
  rw[hX]
  refine h47 _ fun gs=>?_
  refine DR.of (R:=[eR wp (fY kp r.1 bb r.1 gr r.2 BG st')]) (aU.BB (.tail _ (.tail _ (.head _)))) ?_
  refine Nil.ptr (aa.mk (Ld.mk (v:=.int .i64 ((r.2:Nat):Int)) (by exact .head _) rfl ?_))
  intro F
  refine ag.rd (.cons (.cons (.cons .here))) (gK hAf) ?_
  rintro w rfl
  refine⟨aU.BB (.tail _ (.tail _ (.head _))),?_⟩
  refine aa.mk fun F=>?_
  refine St.one (c':=#[.int .i64 ((cS K S ord:Nat):Int),.int .i64 ((cS K S (av ord (road p r.1)):Nat):Int),.int .i64 0,.bool false]) (by exact .head _) rfl (by simp) rfl ?_
  refine⟨aU.BB (.tail _ (.tail _ (.head _))),?_⟩
  refine aa.mk fun F=>?_
  refine St.one (c':=#[.int .i64 ((cS K S ord:Nat):Int),.int .i64 ((cS K S (av ord (road p r.1)):Nat):Int),.int .i64 ((r.2:Nat):Int),.bool false]) (by exact .head _) rfl (by simp) rfl ?_
  refine aD.whole (r:=[.int .i64 ((cS K S ord:Nat):Int),.int .i64 ((cS K S (av ord (road p r.1)):Nat):Int),.int .i64 ((r.2:Nat):Int),.bool false]) (by exact .head _) rfl ?_
  refine St.whole (r:=[.int .i64 ((cS K S ord:Nat):Int),.int .i64 ((cS K S (av ord (road p r.1)):Nat):Int),.int .i64 ((r.2:Nat):Int),.bool false]) (by exact .tail (.head _)) rfl rfl (by simp[Value.oneCell']) ?_
  refine aD.whole (r:=[.int .i64 ((cS K S ord:Nat):Int),.int .i64 ((cS K S (av ord (road p r.1)):Nat):Int),.int .i64 ((r.2:Nat):Int),.bool false]) (by exact .tail _ (.head _)) rfl ?_
  exact aB.mk (.skip (.skip .tail)) ⟨rfl,hAf⟩
 refine Nil.ptr (aa.mk (Ld.mk (v:=.int .i64 ((b.2.2:Nat):Int)) (by exact List.mem_append_right _ (.head _)) rfl ?_))
 refine ae.yB (Br.dec (fun hne=>?_) (fun heq=>?_))
 ·-- the other way is better
  rw[if_pos hne]at hr
  refine Nil.ptr (aa.mk (Ld.mk (v:=.int .i64 ((b.2.2:Nat):Int)) (by exact List.mem_append_right _ (.head _)) rfl ?_))
  refine ag.pre (aU.c8 (.cons .tail) X) ?_
  have hbt:(p≤b.2.2∧b.2.2≤b.1∧b.1<K.n)∨(b.1≤b.2.2∧b.2.2≤p):=by
   cases dn<;>simp only[cond_false,cond_true,Bool.not_false,Bool.not_true]at e3 e1<;>omega
  refine ag.fn (.app .here) (xp (t:=b.2.2) uJ uZ NU hbt (by omega) je) ?_
  rintro w H ⟨rfl,C4,rfl,Oa⟩
  subst hr
  refine JE.mk ?_
  rw[Nat.zero_add]
  exact fin b.2.1 _ _ C4 Oa
 ·-- back again
  have heq:b.2.2=a.2.2:=Classical.not_not.1 heq
  rw[if_neg (fun h=>h heq)]at hr
  refine ag.pre (aU.c8 (.cons .tail) X) ?_
  refine ag.fn (.app .here) (xp (t:=p) uJ uZ NU (by omega) (by omega) je) ?_
  rintro w H ⟨rfl,C4,rfl,Oa⟩
  rw[cQ,List.append_nil]at Oa
  have Oa:At kp K S ord tr C4:=Oa
  refine ag.fn (.app .here) (qv (dn:=dn) Oa (by omega)) ?_
  rintro w H ⟨rfl,JR,rfl⟩
  obtain⟨s3,hs3⟩:∃s3,s3=0+dst a.1 p+dst a.1 p+dst b.1 p+dst b.1 p:=⟨_,rfl⟩
  rw[←hs3]
  obtain⟨QV,abN⟩:∃QV,QV=(bif dn then((K.n-1:Nat):Int)else 0):=⟨_,rfl⟩
  rw[←abN]
  refine⟨fun vs H=>∃(i:Nat) (C':Hp),vs=[]∧H=eR wp (fY kp i b.2.1 b.2.2 gr (s3+dst p i) QV (vI dn JR))::oh JR wp::(X++C')∧At kp K S (av ord (road p i)) (tr++road p i) C'∧(bif dn then p≤i∧i≤b.2.2 else b.2.2≤i∧i≤p),
   fun _ H=>dst (AO H) b.2.2,JE.of (H':=eR wp (fY kp p b.2.1 b.2.2 gr s3 QV (vI dn JR))::oh JR wp::(X++C4)) (.perm ?_) ⟨p,C4,rfl,by simp[dst],by rw[cQ,List.append_nil];exact Oa,?_⟩,?_⟩
  ·exact(List.perm_middle (l₁:=X)).trans (List.Perm.cons _ List.perm_middle)
  ·rw[heq]
   cases dn<;>simp only[cond_false,cond_true]at tw⊢ <;>omega
  rintro H ⟨i,C5,_,rfl,Zo,hi⟩ gs
  rw[heq]at hi
  have hin:i<K.n:=by cases dn<;>simp only[cond_false,cond_true]at hi tw<;>omega
  have hdi:dst p i≤64:=by unfold dst;omega
  have yF:=ov hn NU hin
  intro Zv h83
  refine DR.self ?_
  refine Nil.ptr (aa.mk (Ld.mk (v:=.int .i64 (i:Int)) (by exact .head _) rfl ?_))
  refine Nil.ptr (aa.mk (Ld.mk (v:=.int .i64 ((b.2.2:Nat):Int)) (by exact .head _) rfl ?_))
  refine ae.yB (Br.dec (fun hne=>?_) (fun Vh=>?_))
  ·refine Nil.ptr (aa.mk (Ld.mk (v:=vI dn JR) (by exact .head _) rfl ?_))
   intro F
   refine cC.of (f:=U0 dn) rfl (yZ dn) ?_
   have Rb:aU (eR wp (fY kp i b.2.1 b.2.2 gr (s3+dst p i) QV (vI dn JR))::oh JR wp::(X++C5)) (X++(eR wp (fY kp i b.2.1 b.2.2 gr (s3+dst p i) QV (vI dn JR))::oh JR wp::C5)):=
    .perm ((List.perm_middle (l₁:=X)).trans (List.Perm.cons _ List.perm_middle)).symm
   refine ag.pre Rb ?_
   have hstep:bif dn then p≤i∧i+1<K.n else 0<i∧i≤p:=by
    rw[heq]at hne
    cases dn<;>simp only[cond_false,cond_true]at hi tw⊢ <;>omega
   have hfit:iR K S (av ord (road p i)) (Sg dn i):=by
    refine l7.1 (a4 i ?_)
    rw[heq]at hne
    cases dn<;>simp only[cond_false,cond_true]at hi tw⊢ <;>omega
   refine ag.fn (args:=#[ptr JR]) (.app .here) (y2 Zo NU hstep (by rw[List.length_append];omega) hfit (by omega)) ?_
   rintro w H ⟨rfl,C6,rfl,TX⟩
   refine ae.jR (az.mk ?_)
   have hnx:s3+dst p i+1=s3+dst p (nm dn i):=by unfold dst nm;cases dn<;>simp only[cond_false,cond_true]at hstep⊢ <;>omega
   rw[hnx]
   refine JE.of (.perm ((List.perm_middle (l₁:=X)).trans (List.Perm.cons _ List.perm_middle))) (h83 _ _ fun gs=>Br.yes ?_)
   refine aC.mk ⟨nm dn i,C6,rfl,rfl,TX,?_⟩ ?_
   ·rw[heq]at hne⊢
    unfold nm
    cases dn<;>simp only[cond_false,cond_true]at hi hstep⊢ <;>omega
   ·have BN:∀i sw C',AO (eR wp (fY kp i b.2.1 b.2.2 gr sw QV (vI dn JR))::C')=i:=fun i sw C'=>by simp[AO,eR,fY,bK]
    rw[BN,BN,heq]
    rw[heq]at hne
    unfold nm dst
    cases dn<;>simp only[cond_false,cond_true]at hi hstep⊢ <;>omega
  ·have Vh:i=b.2.2:=Classical.not_not.1 Vh
   subst Vh
   subst hr
   refine JE.mk (h83 _ _ fun gs=>Br.no ?_)
   refine JE.of ?_ (fin b.2.1 QV (vI dn JR) C5 Zo)
   refine(aU.cons .tail).trans ?_
   refine(aU.perm (List.perm_middle (l₁:=X)).symm).trans ?_
   have e:s3+dst p b.2.2=dst a.1 p+dst a.1 p+dst b.1 p+(dst b.1 p+dst p b.2.2):=by omega
   rw[e]
   exact .refl _
end
end Go.Proofs
namespace aG
open Go.Sx
def QO:List Nat→Nat
 | []=>0
 |x::r=>r.foldl min x
def HA(n a:Nat):List Nat:=(List.range n).filter fun v=> !a.testBit v
def has(n a:Nat):List Nat:=(List.range n).filter fun v=>a.testBit v
def bel(n:Nat)(c:Nat→Nat→Nat):Nat→Nat→Nat
 |0,_=>0
 |f+1,a=>QO ((HA n a).map fun v=>c a v+bel n c f (aI a v true))
def par(n:Nat)(c:Nat→Nat→Nat):Nat→Nat→Nat
 |0,_=>0
 |f+1,s=>QO ((has n s).map fun v=>c (aI s v false) v+par n c f (aI s v false))
def B(n:Nat)(c:Nat→Nat→Nat)(a:Nat):Nat:=bel n c n a
def W(n:Nat)(c:Nat→Nat→Nat)(s:Nat):Nat:=par n c n s
structure Used(n:Nat)(c:Nat→Nat→Nat)(U:Nat):Prop where
 zero:∀a v,v<n→a.testBit v=false→U.testBit v=false→c a v=0
 mask:∀a v,v<n→a.testBit v=false→c a v=c (a&&&U) v
def ord(n:Nat)(c:Nat→Nat→Nat):Nat→Nat→List Nat
 |0,_=>[]
 |f+1,a=>match(HA n a).find? fun v=>c a v+B n c (aI a v true)==B n c a with
  |some v=>v::ord n c f (aI a v true)
  |none=>[]
end aG
namespace aG
open Go.Sx
theorem dA{x u v:Nat}{b c:Bool}(h:u≠v):aI (aI x u b) v c=aI (aI x v c) u b:=by
 apply Nat.eq_of_testBit_eq;intro k
 rw[ay,ay,ay,ay]
 by_cases e1:k=u<;>by_cases e2:k=v
 ·exact absurd (e1.symm.trans e2) h
 ·simp[e1,h]
 ·simp[e2,Ne.symm h]
 ·simp[e1,e2]
end aG
set_option maxRecDepth 100000
namespace Go.Proofs
open Go Go.Sx
def kp(x:Nat×Nat):Value:=.agg (aA .i64 [(x.1:Int),(x.2:Int)])
end Go.Proofs
namespace Of
abbrev It:=Int×Int
def prec(a b:It):Bool:=decide (a.2<b.2)||(a.2==b.2&&decide (a.1<b.1))
theorem ta{a b:It}:prec a b=true↔a.2<b.2∨a.2=b.2∧a.1<b.1:=by simp[prec]
theorem kR{a b:It}:prec a b=false↔¬(a.2<b.2∨a.2=b.2∧a.1<b.1):=by rw[←ta];simp
theorem mc(a:It):prec a a=false:=by rw[kR];omega
theorem oz{a b:It}(h:prec a b=true):prec b a=false:=by rw[ta]at h;rw[kR];omega
theorem le_trans{a b c:It}(h1:prec b a=false)(h2:prec c b=false):prec c a=false:=by rw[kR]at*;omega
theorem BF{a b c:It}(h1:prec a b=true)(h2:prec c b=false):prec c a=false:=by rw[ta]at h1;rw[kR]at*;omega
def gh(V:Nat→It)(i:Nat)(b:It):Nat→It:=fun j=>if j=i then b else V j
def E(V:Nat→It)(j:Nat):Prop:=prec (V j) (V ((j-1) /2))=false
def wP(n:Nat)(V:Nat→It)(i:Nat):Prop:=
 (∀j,0<j→j<n→j≠i→(j-1) /2≠i→E V j)∧(∀j,0<j→j<n→(j-1) /2=i→0<i→prec (V j) (V ((i-1) /2))=false)
def nJ(n:Nat)(V:Nat→It)(i:Nat):Prop:=∀j,0<j→j<n→(j-1) /2=i→E V j
def QD(n:Nat)(V:Nat→It)(i:Nat):Prop:=
 (∀j,0<j→j<n→(j-1) /2≠i→E V j)∧(∀j,0<j→j<n→(j-1) /2=i→0<i→prec (V j) (V ((i-1) /2))=false)
def Ord(n:Nat)(V:Nat→It):Prop:=∀j,0<j→j<n→E V j
theorem Ou{n i:Nat}{V:Nat→It}(hi:0<i)(hn:i<n)(h:wP n V i)(ha:prec (V i) (V ((i-1) /2))=true):
  wP n (gh (gh V i (V ((i-1) /2))) ((i-1) /2) (V i)) ((i-1) /2)∧nJ n (gh (gh V i (V ((i-1) /2))) ((i-1) /2) (V i)) ((i-1) /2):=by
 obtain⟨h1,h2⟩:=h
 have hq:(i-1) /2≠i:=by omega
 generalize hqd:(i-1) /2=q at*
 have hqi:q<i:=by omega
 refine⟨⟨?_,?_⟩,?_⟩
 ·intro j j0 jn jq jp
  unfold E gh
  rw[if_neg jq,if_neg jp]
  by_cases e1:j=i
  ·exact absurd (by rw[e1,hqd]) jp
  ·rw[if_neg e1]
   by_cases e2:(j-1) /2=i
   ·rw[if_pos e2];exact h2 j j0 jn e2 hi
   ·rw[if_neg e2];exact h1 j j0 jn e1 e2
 ·intro j j0 jn jp q0
  unfold gh
  have hqq:(q-1) /2≠q:=by omega
  have abo:(q-1) /2≠i:=by omega
  rw[if_neg hqq,if_neg abo]
  have Ve:j≠q:=by omega
  rw[if_neg Ve]
  have Td:E V q:=h1 q q0 (by omega) hq (by omega)
  by_cases e1:j=i
  ·rw[if_pos e1];exact Td
  ·rw[if_neg e1]
   have:=h1 j j0 jn e1 (by omega)
   unfold E at this Td
   rw[jp]at this
   exact le_trans Td this
 ·intro j j0 jn jp
  unfold E gh
  rw[jp,if_pos rfl]
  have Ve:j≠q:=by omega
  rw[if_neg Ve]
  by_cases e1:j=i
  ·rw[if_pos e1];exact oz ha
  ·rw[if_neg e1]
   have:=h1 j j0 jn e1 (by omega)
   unfold E at this
   rw[jp]at this
   exact BF ha this
theorem Ov{n i:Nat}{V:Nat→It}(h:wP n V i)(ha:i=0∨prec (V i) (V ((i-1) /2))=false):QD n V i:=by
 refine⟨fun j j0 jn jp=>?_,h.2⟩
 by_cases e:j=i
 ·subst e;rcases ha with ha|ha
  ·omega
  ·exact ha
 ·exact h.1 j j0 jn e jp
theorem wD{n i:Nat}{V:Nat→It}(h:QD n V i)(hc:nJ n V i):Ord n V:=fun j j0 jn=>by
 by_cases e:(j-1) /2=i
 ·exact hc j j0 jn e
 ·exact h.1 j j0 jn e
def wj(n:Nat)(V:Nat→It)(i:Nat):Nat:=if(decide (2*i+1+1<n) &&prec (V (2*i+1+1)) (V (2*i+1)))=true then 2*i+1+1 else 2*i+1
theorem qF(n:Nat)(V:Nat→It)(i:Nat):wj n V i=2*i+1∨wj n V i=2*i+2∧2*i+2<n:=by
 unfold wj;split
 ·rename_i h;simp only[Bool.and_eq_true,decide_eq_true_eq]at h;right;omega
 ·left;rfl
theorem wi{n i j:Nat}{V:Nat→It}(j0:0<j)(jn:j<n)(jp:(j-1) /2=i):prec (V j) (V (wj n V i))=false:=by
 unfold wj
 split
 ·rename_i h
  simp only[Bool.and_eq_true,decide_eq_true_eq]at h
  rcases(show j=2*i+1∨j=2*i+1+1 by omega)with rfl|rfl
  ·exact oz h.2
  ·exact mc _
 ·rename_i h
  rcases(show j=2*i+1∨j=2*i+1+1 by omega)with rfl|rfl
  ·exact mc _
  ·cases hh:prec (V (2*i+1+1)) (V (2*i+1))
   ·rfl
   ·exact absurd (by simp[hh,jn]) h
theorem Iw{n i:Nat}{V:Nat→It}(h:QD n V i)(hk:wj n V i<n)(ha:prec (V (wj n V i)) (V i)=true):
  QD n (gh (gh V i (V (wj n V i))) (wj n V i) (V i)) (wj n V i):=by
 have hl:∀j,0<j→j<n→(j-1) /2=i→prec (V j) (V (wj n V i))=false:=fun j=>wi
 have hkc:=qF n V i
 generalize wj n V i=c at*
 obtain⟨h1,h2⟩:=h
 have hcp:(c-1) /2=i:=by omega
 have hc0:0<c:=by omega
 have qj:c≠i:=by omega
 refine⟨?_,?_⟩
 ·intro j j0 jn jp
  unfold E gh
  rw[if_neg jp]
  by_cases e1:j=c
  ·rw[if_pos e1,if_pos (by rw[e1];exact hcp)];exact oz ha
  ·rw[if_neg e1]
   by_cases e2:j=i
   ·rw[if_pos e2]
    have:(j-1) /2≠i:=by omega
    rw[if_neg this,e2];exact h2 c hc0 hk hcp (by omega)
   ·rw[if_neg e2]
    by_cases e3:(j-1) /2=i
    ·rw[if_pos e3];exact hl j j0 jn e3
    ·rw[if_neg e3];exact h1 j j0 jn e3
 ·intro j j0 jn jp _
  unfold gh
  rw[hcp]
  have:j≠c:=by omega
  have e2:j≠i:=by omega
  rw[if_neg this,if_neg e2,if_neg (fun e=>qj e.symm),if_pos rfl]
  have:=h1 j j0 jn (by omega)
  unfold E at this
  rwa [jp]at this
theorem Ix{n i:Nat}{V:Nat→It}(h:QD n V i)(ha:n≤wj n V i∨prec (V (wj n V i)) (V i)=false):Ord n V:=by
 refine wD h fun j j0 jn jp=>?_
 have hl:=wi (V:=V) j0 jn jp
 rcases ha with ha|ha
 ·rcases qF n V i with h|h<;>omega
 ·unfold E;rw[jp];exact le_trans ha hl
theorem OZ{n:Nat}{V:Nat→It}(h:Ord n V):∀j,j<n→prec (V j) (V 0)=false:=by
 intro j
 induction j using Nat.strongRecOn with
 |_ j ih=>
  intro jn
  by_cases j0:j=0
  ·subst j0;exact mc _
  ·exact le_trans (ih ((j-1) /2) (by omega) (by omega)) (h j (by omega) jn)
def bc(l:List It)(j:Nat):It:=l.getD j (0,0)
theorem Qj{l:List It}{j:Nat}(h:j<l.length):l[j]? =some (bc l j):=by simp[bc,List.getD,h]
theorem fW{l:List It}{i:Nat}(b:It)(h:i<l.length):bc (l.set i b)=gh (bc l) i b:=by
 funext j
 unfold bc gh
 simp only[List.getD,List.getElem?_set]
 by_cases e:i=j
 ·subst e;simp[h]
 ·rw[if_neg e,if_neg (fun x=>e x.symm)]
theorem ou{l:List It}{i:Nat}(h:i<l.length):l.set i (bc l i)=l:=by
 apply List.ext_getElem?;intro j;rw[List.getElem?_set];by_cases e:i=j
 ·subst e;simp[h,bc,List.getD]
 ·simp[e]
theorem swap_perm{l:List It}{i q:Nat}(hi:i<l.length)(hq:q<l.length)(hne:q≠i):((l.set i (bc l q)).set q (bc l i)).Perm l:=by
 rw[List.perm_iff_count]
 intro x
 have g1:l[i]=bc l i:=by simp[bc,List.getD,hi]
 have g2:l[q]=bc l q:=by simp[bc,List.getD,hq]
 have g3:(l.set i (bc l q))[q]'(by simp[hq])=bc l q:=by rw[List.getElem_set_ne (fun e=>hne e.symm)];exact g2
 rw[List.count_set (by simp[hq]),List.count_set hi,g1,g3]
 have hc:bc l i=x→0<l.count x:=fun e=>by rw[List.count_pos_iff,←e,←g1];exact List.getElem_mem hi
 by_cases e1:bc l i=x
 ·have:=hc e1
  by_cases e2:bc l q=x<;>simp[e1,e2]<;>omega
 ·by_cases e2:bc l q=x<;>simp[e1,e2]
def ja(l:List It):Prop:=(l.map Prod.fst).Nodup
theorem ja.perm{l l':List It}(h:ja l)(p:l'.Perm l):ja l':=(p.map _).nodup_iff.2 h
theorem ja.inj{l:List It}(h:ja l){i j:Nat}(hi:i<l.length)(hj:j<l.length)(e:(bc l i).1=(bc l j).1):i=j:=by
 unfold ja at h
 have hp:=List.pairwise_iff_getElem.1 h
 have g:∀k (hk:k<l.length),(l.map Prod.fst)[k]'(by simpa using hk)=(bc l k).1:=fun k hk=>by simp[bc,List.getD,hk]
 rcases Nat.lt_trichotomy i j with hlt|rfl|hlt
 ·have:=hp i j (by simpa using hi) (by simpa using hj) hlt
  rw[g i hi,g j hj]at this;exact absurd e this
 ·rfl
 ·have:=hp j i (by simpa using hj) (by simpa using hi) hlt
  rw[g i hi,g j hj]at this;exact absurd e.symm this
theorem gx{l:List It}{x:Int}:x∈l.map Prod.fst↔∃j,j<l.length∧(bc l j).1=x:=by
 rw[List.mem_iff_getElem]
 constructor
 ·rintro⟨j,hj,e⟩
  have hj':j<l.length:=by simpa using hj
  exact⟨j,hj',by simpa[bc,List.getD,hj']using e⟩
 ·rintro⟨j,hj,e⟩
  exact⟨j,by simpa using hj,by simpa[bc,List.getD,hj]using e⟩
def AR(f:Int→Option Nat)(x:Int)(p:Option Nat):Int→Option Nat:=fun y=>if y=x then p else f y
def lF(l:List It)(f:Int→Option Nat)(i:Nat):Prop:=(∀j,j<l.length→j≠i→f (bc l j).1=some j)∧∀x,x∉l.map Prod.fst→f x=none
def Cons(l:List It)(f:Int→Option Nat):Prop:=(∀j,j<l.length→f (bc l j).1=some j)∧∀x,x∉l.map Prod.fst→f x=none
theorem lF.done{l:List It}{f:Int→Option Nat}{i:Nat}(h:lF l f i)(ho:ja l)(hi:i<l.length):Cons l (AR f (bc l i).1 (some i)):=by
 refine⟨fun j hj=>?_,fun x hx=>?_⟩
 ·unfold AR
  by_cases e:(bc l j).1=(bc l i).1
  ·rw[if_pos e,ho.inj hj hi e]
  ·rw[if_neg e];exact h.1 j hj (fun e2=>e (by rw[e2]))
 ·unfold AR
  rw[if_neg (fun e=>hx (gx.2 ⟨i,hi,e.symm⟩))]
  exact h.2 x hx
theorem lF.step{l:List It}{f:Int→Option Nat}{i q:Nat}(h:lF l f i)(ho:ja l)(hi:i<l.length)(hq:q<l.length)(hne:q≠i):
  lF ((l.set i (bc l q)).set q (bc l i)) (AR f (bc l q).1 (some i)) q:=by
 have yG:∀j,bc ((l.set i (bc l q)).set q (bc l i)) j=gh (gh (bc l) i (bc l q)) q (bc l i) j:=fun j=>by rw[fW _ (by simpa using hq),fW _ hi]
 refine⟨fun j hj Ve=>?_,fun x hx=>?_⟩
 ·rw[yG]
  simp only[List.length_set]at hj
  unfold gh AR
  rw[if_neg Ve]
  by_cases e:j=i
  ·rw[if_pos e,if_pos rfl,e]
  ·rw[if_neg e]
   rw[if_neg (fun e2=>Ve (ho.inj hj hq e2))]
   exact h.1 j hj e
 ·have hx':x∉l.map Prod.fst:=fun hm=>hx (by
   have:=(swap_perm hi hq hne).map Prod.fst
   exact this.mem_iff.2 hm)
  unfold AR
  rw[if_neg (fun e=>hx' (gx.2 ⟨q,hq,e.symm⟩))]
  exact h.2 x hx'
end Of
namespace Of
open Go Go.Sx
def enc(kd:IntKind)(a:It):List Value:=[.int kd a.1,.int .i64 a.2]
def ef(kd:IntKind)(l:List It):List (List Value):=l.map (enc kd)
theorem cH(kd:IntKind)(l:List It):(ef kd l).length=l.length:=by simp[ef]
theorem Iu(kd:IntKind)(l:List It):∀r∈ef kd l,r.length=2:=fun r hr=>by
 obtain⟨a,_,rfl⟩:=List.mem_map.1 hr;rfl
theorem fj{kd:IntKind}{l:List It}{i:Nat}(h:i<l.length)(aM:List (List Value)):(ef kd l++aM)[i]? =some (enc kd (bc l i)):=by
 rw[List.getElem?_append_left (by rw[cH];exact h),ef,List.getElem?_map,Qj h];rfl
theorem MO{kd:IntKind}{l:List It}{i:Nat}(h:i<l.length)(a:It)(aM:List (List Value)):(ef kd l++aM).set i (enc kd a)=ef kd (l.set i a)++aM:=by
 rw[List.set_append_left _ _ (by rw[cH];exact h),ef,ef,List.map_set]
def idx(i:Nat):Value:=.int .i64 (i:Int)
def HO(kd:IntKind)(TI TH:TypeId)(h:Value)(l:List It)(f:Int→Option Nat)(C:Hp):Prop:=
 ∃bh sv mv Cs Cm,h=.pointer (some ⟨bh,0,none⟩)∧C=(bh,Obj.cells #[sv,mv] TH (0,0))::(Cs++Cm)∧aS TI 2 sv (ef kd l) Cs∧jM kd idx mv f Cm∧(mv=.map none→l=[])
theorem HO.open{kd:IntKind}{TI TH:TypeId}{h:Value}{l:List It}{f:Int→Option Nat}{C:Hp}(H:HO kd TI TH h l f C)(hp:0<l.length):
  ∃bh la mb aM Cm,h=.pointer (some ⟨bh,0,none⟩)∧
   C=(bh,Obj.cells #[.slice (some ⟨la,0,none⟩) l.length (l.length+aM.length),.map (some mb)] TH (0,0))::(la,.cells (rows (ef kd l++aM)) TI (0,0))::Cm∧
   (∀r∈ef kd l++aM,r.length=2)∧jM kd idx (.map (some mb)) f Cm:=by
 obtain⟨bh,sv,mv,Cs,Cm,rfl,rfl,hs,hm,hne⟩:=H
 obtain⟨la,aM,rfl,rfl,aJ⟩:=hs.pos (by rw[cH];exact hp)
 rw[cH]
 rcases hm with⟨rfl,_⟩|⟨mb,m,ck,rfl,h2⟩
 ·rw[hne rfl]at hp;simp at hp
 ·exact⟨bh,la,mb,aM,Cm,rfl,rfl,aJ,.inr ⟨mb,m,ck,rfl,h2⟩⟩
theorem HO.shut{kd:IntKind}{TI TH:TypeId}{bh la mb n c:Nat}{aM:List (List Value)}{Cm:Hp}{l:List It}{f:Int→Option Nat}(aJ:∀r∈ef kd l++aM,r.length=2)(hn:n=l.length)(hc:c=l.length+aM.length)
 (hm:jM kd idx (.map (some mb)) f Cm):
  HO kd TI TH (.pointer (some ⟨bh,0,none⟩)) l f ((bh,Obj.cells #[.slice (some ⟨la,0,none⟩) n c,.map (some mb)] TH (0,0))::(la,.cells (rows (ef kd l++aM)) TI (0,0))::Cm):=
 ⟨bh,_,_,[_],Cm,rfl,rfl,aS.mk' aJ (by rw[cH];exact hn) (by rw[cH];exact hc),hm,fun h=>by simp at h⟩
theorem KT{l aM:List (List Value)}(h:∀r∈l++aM,r.length=2)(kd:IntKind)(l':List It):∀r∈ef kd l'++aM,r.length=2:=fun r hr=>by
 rcases List.mem_append.1 hr with hr|hr
 ·exact Iu kd l' r hr
 ·exact h r (by simp[hr])
theorem nD(kd:IntKind)(a:It):∀v∈enc kd a,v.oneCell'=true:=by simp[enc,Value.oneCell']
end Of
namespace Of
open Go Go.Sx
theorem Sk(j:Nat)(h:0<j):((j-1:Nat):Int).tdiv 2=(((j-1) /2:Nat):Int):=by
 rw[Int.tdiv_eq_ediv_of_nonneg (by omega)];omega
theorem sZ{l:List It}{i q:Nat}(a:It)(hi:i<l.length)(hq:q<l.length)(hne:q≠i):((l.set i a).set i (bc (l.set i a) q)).set q (bc (l.set i a) i)=(l.set i (bc l q)).set q a:=by
 rw[fW a hi,List.set_set]
 simp[gh,hne]
def HI(kd:IntKind)(TI TH:TypeId)(h:Value)(l:List It)(C:Hp):Prop:=∃f,HO kd TI TH h l f C∧Cons l f∧Ord l.length (bc l)∧ja l
theorem Ch{l:List It}{a:It}{j:Nat}(h:j<l.length):bc (l++[a]) j=bc l j:=by simp[bc,List.getD,List.getElem?_append_left h]
theorem KZ{l:List It}{f:Int→Option Nat}{a:It}(hc:Cons l f)(ho:Ord l.length (bc l))(h1:ja l)(hx:a.1∉l.map Prod.fst):
  wP (l++[a]).length (bc (l++[a])) l.length∧lF (l++[a]) f l.length∧ja (l++[a])∧nJ (l++[a]).length (bc (l++[a])) l.length:=by
 simp only[List.length_append,List.length_cons,List.length_nil,Nat.zero_add]
 refine⟨⟨fun j j0 jn jne jp=>?_,fun j j0 jn jp=>by omega⟩,⟨fun j jn jne=>?_,fun x hx'=>?_⟩,?_,fun j j0 jn jp=>by omega⟩
 ·unfold E;rw[Ch (by omega),Ch (by omega)];exact ho j j0 (by omega)
 ·simp only[List.length_append,List.length_cons,List.length_nil]at jn
  rw[Ch (by omega)];exact hc.1 j (by omega)
 ·exact hc.2 x (fun h=>hx' (by rw[List.map_append,List.mem_append];exact .inl h))
 ·unfold ja at*;rw[List.map_append,List.nodup_append];exact⟨h1,by simp,fun a' eA b hb=>by simp at hb;subst hb;intro e;subst e;exact hx eA⟩
theorem MS{l:List It}{f:Int→Option Nat}(hc:Cons l f){x:Int}:(x∉l.map Prod.fst∧f x=none)∨∃i,i<l.length∧(bc l i).1=x∧f x=some i:=by
 by_cases h:x∈l.map Prod.fst
 ·obtain⟨j,hj,e⟩:=gx.1 h
  exact .inr ⟨j,hj,e,by rw[←e];exact hc.1 j hj⟩
 ·exact .inl ⟨h,hc.2 x h⟩
theorem OS{l:List It}{f:Int→Option Nat}(hc:Cons l f)(ho:Ord l.length (bc l))(h1:ja l){n:Nat}(hn:l.length=n+1):
  let l':=l.take n
  ((0<n→(bc l n)::(l'.set 0 (bc l n)).tail=l'.set 0 (bc l n)∧(bc l 0::l'.set 0 (bc l n)).Perm l∧QD n (bc (l'.set 0 (bc l n))) 0∧ja (l'.set 0 (bc l n))∧
   lF (l'.set 0 (bc l n)) (AR f (bc l 0).1 none) 0)):=by
 intro l' hn0
 have hl':l'.length=n:=by simp[l',hn]
 have cG:(bc l 0::l'.set 0 (bc l n)).Perm l:=by
  rw[List.perm_iff_count]
  intro x
  have e:l=l'++[bc l n]:=by
   have:l=l.take n++l.drop n:=(List.take_append_drop n l).symm
   have h2:l.drop n=[bc l n]:=by
    rw[List.drop_eq_getElem_cons (by omega),List.drop_eq_nil_of_le (by omega)]
    simp[hn,bc,List.getD]
   rw[h2]at this;exact this
  have g0:l'[0]'(by omega)=bc l 0:=by simp[l',bc,List.getD,hn]
  conv=>rhs;rw[e]
  rw[List.count_cons,List.count_set (by omega),g0,List.count_append]
  have hc0:bc l 0=x→0<l'.count x:=fun e=>by rw[List.count_pos_iff,←e,←g0];exact List.getElem_mem _
  by_cases e1:bc l 0=x
  ·have:=hc0 e1
   by_cases e2:bc l n=x<;>simp[e1,e2]<;>omega
  ·by_cases e2:bc l n=x<;>simp[e1,e2]
 have yG:∀j,j<n→j≠0→bc (l'.set 0 (bc l n)) j=bc l j:=fun j hj h0=>by
  rw[fW _ (by omega)];simp[gh,h0,l',bc,List.getD,hj]
 have hO:ja (l'.set 0 (bc l n)):=by
  have:=(h1.perm cG:ja _)
  unfold ja at this⊢
  simp only[List.map_cons,List.nodup_cons]at this
  exact this.2
 refine⟨?_,cG,⟨fun j j0 jn jp=>?_,fun j j0 jn jp h=>by omega⟩,hO,fun j hj Tu=>?_,fun x hx=>?_⟩
 ·cases hh:l' with
  |nil=>rw[hh]at hl';simp at hl';omega
  |cons a r=>simp
 ·unfold E;rw[yG j jn (by omega),yG _ (by omega) jp];exact ho j j0 (by omega)
 ·simp only[List.length_set,hl']at hj
  rw[yG j hj Tu]
  unfold AR
  rw[if_neg (fun e=>Tu (h1.inj (by omega) (by omega) e))]
  exact hc.1 j (by omega)
 ·unfold AR
  by_cases e:x=(bc l 0).1
  ·rw[if_pos e]
  ·rw[if_neg e]
   refine hc.2 x fun hm=>hx ?_
   have:=(cG.map Prod.fst).mem_iff.2 hm
   simp only[List.map_cons,List.mem_cons]at this
   rcases this with h|h
   ·exact absurd h e
   ·exact h
end Of
set_option maxRecDepth 100000
namespace Go.Proofs
open Go Go.Sx
open Of
abbrev Og:=HO .i64 233 231
abbrev Qy:=HI .i64 233 231
theorem ud(a b:It)(B:Hp):Rd Tryz.prog 223 #[.agg #[.int .i64 a.1,.int .i64 a.2],.agg #[.int .i64 b.1,.int .i64 b.2]] B (· =.bool (prec a b)):=by
 intro g
 refine DN (R:=aB _) ?_
 unfold L223
 intro b1 _ b2 _
 (repeat (first|refine Nil.ptr ?_|refine aa.mk ?_|refine Ld.mk zM rfl ?_|refine aO.mk ?_|refine ae.eql ?_|refine ae.neq ?_|refine ae.lss ?_|refine ae.leq ?_|refine ae.gtr ?_|refine ae.geq ?_|refine Un.not ?_|refine Ext.mk rfl ?_|refine az.mk ?_|refine ae.aH ?_|refine ae.bE ?_|refine ae.bD ?_|refine Br.yes ?_|refine Br.no ?_))
 refine bX.or (a.2==b.2&&decide (a.1<b.1)) (fun _=>?_) rfl fun _=>cw.mk (.skip .tail) rfl
 (repeat (first|refine Nil.ptr ?_|refine aa.mk ?_|refine Ld.mk zM rfl ?_|refine aO.mk ?_|refine ae.eql ?_|refine ae.neq ?_|refine ae.lss ?_|refine ae.leq ?_|refine ae.gtr ?_|refine ae.geq ?_|refine Un.not ?_|refine Ext.mk rfl ?_|refine az.mk ?_|refine ae.aH ?_|refine ae.bE ?_|refine ae.bD ?_|refine Br.yes ?_|refine Br.no ?_))
 refine bX.and (decide (a.1<b.1)) (fun _=>?_) rfl fun _=>⟨rfl,rfl⟩
 (repeat (first|refine Nil.ptr ?_|refine aa.mk ?_|refine Ld.mk zM rfl ?_|refine aO.mk ?_|refine ae.eql ?_|refine ae.neq ?_|refine ae.lss ?_|refine ae.leq ?_|refine ae.gtr ?_|refine ae.geq ?_|refine Un.not ?_|refine Ext.mk rfl ?_|refine az.mk ?_|refine ae.aH ?_|refine ae.bE ?_|refine ae.bD ?_|refine Br.yes ?_|refine Br.no ?_))
 exact⟨rfl,rfl⟩
theorem pL{h:Value}{l:List It}{f:Int→Option Nat}{C:Hp}(ho:Og h l f C){i:Nat}(hi:i<l.length)(a:It):
  Fc Tryz.prog 159 #[h,.int .i64 (i:Int),.agg #[.int .i64 a.1,.int .i64 a.2]] C (fun v C'=>v=.tuple #[]∧Og h (l.set i a) (AR f a.1 (some i)) C'):=by
 obtain⟨bh,la,mb,aM,Cm,rfl,rfl,aJ,hm⟩:=ho.open (by omega)
 intro g
 refine Ev (R:=aB _) ?_
 unfold L159
 intro b1 _
 refine DR.self ?_
 (repeat (first|refine Nil.ptr ?_|refine aa.mk ?_|refine Ld.mk zM rfl ?_|refine aO.mk ?_|refine ae.eql ?_|refine ae.neq ?_|refine ae.lss ?_|refine ae.leq ?_|refine ae.gtr ?_|refine ae.geq ?_|refine Un.not ?_|refine Ext.mk rfl ?_|refine az.mk ?_|refine ae.aH ?_|refine ae.bE ?_|refine ae.bD ?_|refine Br.yes ?_|refine Br.no ?_))
 refine aD.whole (r:=enc .i64 a) zM rfl ?_
 refine ah.nat hi ?_
 refine St.row (l:=ef .i64 l++aM) (by repeat (first|exact cM.head _|apply cM.tail|apply cM.bW)) aJ (by rw[List.length_append,cH];omega) rfl (nD _ _) ?_
 refine DR.self ?_
 (repeat (first|refine Nil.ptr ?_|refine aa.mk ?_|refine Ld.mk zM rfl ?_|refine aO.mk ?_|refine ae.eql ?_|refine ae.neq ?_|refine ae.lss ?_|refine ae.leq ?_|refine ae.gtr ?_|refine ae.geq ?_|refine Un.not ?_|refine Ext.mk rfl ?_|refine az.mk ?_|refine ae.aH ?_|refine ae.bE ?_|refine ae.bD ?_|refine Br.yes ?_|refine Br.no ?_))
 rw[←List.append_nil Cm]
 refine jM.cg (p:=i) (A:=[_,_,_]) (B:=[]) hm fun C' hm'=>?_
 refine⟨_,_,rfl,.tail,rfl,?_⟩
 rw[MO hi,List.append_nil]
 exact .shut (KT aJ _ _) (by simp) (by simp) hm'
theorem SX{h:Value}{l:List It}{f:Int→Option Nat}{C:Hp}(ho:Og h l f C){i:Nat}(hi:i<l.length)(ca:l.length<4611686018427387904)(hu:wP l.length (bc l) i)(hc:lF l f i)(hO:ja l):
  Fc Tryz.prog 158 #[h,.int .i64 (i:Int)] C (fun v C'=>v=.tuple #[]∧∃l' f' p,Og h l' f' C'∧l'.Perm l∧Cons l' f'∧QD l'.length (bc l') p∧p<l'.length∧bc l' p=bc l i∧
   (nJ l.length (bc l) i→Ord l'.length (bc l'))):=by
 obtain⟨bh,la,mb,aM,Cm,rfl,rfl,aJ,hm⟩:=ho.open (by omega)
 obtain⟨n,hn⟩:∃n,n=l.length:=⟨_,rfl⟩
 obtain⟨a,ha⟩:∃a,a=bc l i:=⟨_,rfl⟩
 intro g
 refine Ew (R:=aB _) ?_
 unfold L158
 (repeat (first|refine Nil.ptr ?_|refine aa.mk ?_|refine Ld.mk zM rfl ?_|refine aO.mk ?_|refine ae.eql ?_|refine ae.neq ?_|refine ae.lss ?_|refine ae.leq ?_|refine ae.gtr ?_|refine ae.geq ?_|refine Un.not ?_|refine Ext.mk rfl ?_|refine az.mk ?_|refine ae.aH ?_|refine ae.bE ?_|refine ae.bD ?_|refine Br.yes ?_|refine Br.no ?_))
 refine ah.nat hi ?_
 refine aD.row (l:=ef .i64 l++aM) zM aJ (fj hi aM) ?_
 intro b6 _
 refine St.whole (r:=enc .i64 (bc l i)) (by repeat (first|exact cM.head _|apply cM.tail|apply cM.bW)) rfl rfl (nD _ _) ?_
 rw[←ha]
 refine⟨fun vs H=>∃(j:Nat) (L:List It) (f:Int→Option Nat) (C:Hp),vs=[.int .i64 (j:Int)]∧H=(b6,Obj.cells (enc .i64 a).toArray 233 (0,0))::C∧Og (.pointer (some ⟨bh,0,none⟩)) L f C∧L.length=n∧j<n∧
   (L.set j a).Perm l∧wP n (bc (L.set j a)) j∧lF (L.set j a) f j∧(nJ n (bc l) i→nJ n (bc (L.set j a)) j),
  fun vs _=>bK vs 0,.mk ⟨i,l,f,_,rfl,rfl,ho,hn.symm,by omega,?_,?_,?_,?_⟩,?_⟩
 ·exact(by rw[ha,ou hi])
 ·rw[ha,ou hi,hn];exact hu
 ·rw[ha,ou hi];exact hc
 ·rw[ha,ou hi];exact id
 rintro w H ⟨j,L,f,C,hw,rfl,ho,XE,hj,hp,hu,hc,kG⟩ gs
 simp only[List.cons.injEq,and_true]at hw
 subst hw
 have Va:=ho
 obtain⟨bh',la,mb,aM,Cm,Xh,rfl,aJ,hm⟩:=ho.open (by omega)
 simp only[Value.pointer.injEq,Option.some.injEq,Addr.mk.injEq,and_true]at Xh
 subst Xh
 have Xz:ja (L.set j a):=hO.perm hp
 have Vc:(L.set j a).length=n:=by simp[XE]
 have Rp:bc (L.set j a) j=a:=by rw[fW a (by omega)];simp[gh]
 have hVq:0<j→bc (L.set j a) ((j-1) /2)=bc L ((j-1) /2):=fun h0=>by rw[fW a (by omega)];simp[gh,show¬((j-1) /2=j)from by omega]
 intro J hJ
 have hend:¬(0<j∧prec a (bc L ((j-1) /2))=true)→J [.bool false] ((b6,Obj.cells (enc .i64 a).toArray 233 (0,0))::(bh,Obj.cells #[.slice (some ⟨la,0,none⟩) L.length (L.length+aM.length),.map (some mb)] 231 (0,0))::(la,.cells (rows (ef .i64 L++aM)) 233 (0,0))::Cm):=fun hno=>hJ _ _ fun gs=>by
  refine Br.no ?_
  refine aD.whole (r:=enc .i64 a) zM rfl ?_
  refine ag.fn (.cons .here) (pL Va (i:=j) (by omega) a) ?_
  rintro v C' ⟨rfl,cz⟩
  have hd:=hc.done Xz (by omega)
  rw[Rp]at hd
  have hex:=Ov hu (by
   by_cases h0:j=0
   ·exact .inl h0
   ·right
    rw[Rp,hVq (by omega)]
    cases h:prec a (bc L ((j-1) /2))
    ·rfl
    ·exact absurd ⟨by omega,h⟩ hno)
  rw[←Vc]at hex
  exact⟨_,_,rfl,.tail,rfl,_,_,j,cz,hp,hd,hex,by omega,by rw[Rp,ha],fun hk=>wD hex (by rw[Vc];exact kG (by rw[hn];exact hk))⟩
 refine DR.self ?_
 refine ae.gtr (Br.dec (fun h0=>?_) (fun h0=>JE.mk (hend (fun h=>h0 (by omega)))))
 have h0:0<j:=by omega
 refine aD.whole (r:=enc .i64 a) zM rfl ?_
 (repeat (first|refine Nil.ptr ?_|refine aa.mk ?_|refine Ld.mk zM rfl ?_|refine aO.mk ?_|refine ae.eql ?_|refine ae.neq ?_|refine ae.lss ?_|refine ae.leq ?_|refine ae.gtr ?_|refine ae.geq ?_|refine Un.not ?_|refine Ext.mk rfl ?_|refine az.mk ?_|refine ae.aH ?_|refine ae.bE ?_|refine ae.bD ?_|refine Br.yes ?_|refine Br.no ?_))
 refine ae.nT (c:=((j-1:Nat):Int)) (by omega) (by omega) ?_
 refine ae.KV (by decide) (Sk j h0) (by omega) ?_
 refine ah.nat (by omega) ?_
 refine aD.row (l:=ef .i64 L++aM) zM aJ (fj (by omega) aM) ?_
 intro F
 refine ag.rd .here (ud a _ _) ?_
 rintro v rfl
 refine⟨.refl _,?_⟩
 cases Ra:prec a (bc L ((j-1) /2))with
 |false=>exact az.mk (JE.mk (hend (fun h=>by rw[Ra]at h;exact absurd h.2 (by decide))))
 |true=>
 refine az.mk (JE.mk (hJ _ _ fun gs=>Br.yes ?_))
 (repeat (first|refine Nil.ptr ?_|refine aa.mk ?_|refine Ld.mk zM rfl ?_|refine aO.mk ?_|refine ae.eql ?_|refine ae.neq ?_|refine ae.lss ?_|refine ae.leq ?_|refine ae.gtr ?_|refine ae.geq ?_|refine Un.not ?_|refine Ext.mk rfl ?_|refine az.mk ?_|refine ae.aH ?_|refine ae.bE ?_|refine ae.bD ?_|refine Br.yes ?_|refine Br.no ?_))
 refine ae.nT (c:=((j-1:Nat):Int)) (by omega) (by omega) ?_
 refine ae.KV (by decide) (Sk j h0) (by omega) ?_
 refine ah.nat (by omega) ?_
 refine aD.row (l:=ef .i64 L++aM) zM aJ (fj (by omega) aM) ?_
 refine ag.fn (.cons .here) (pL Va (i:=j) (by omega) (bc L ((j-1) /2))) ?_
 rintro v C' ⟨rfl,cz⟩
 refine ae.nT (c:=((j-1:Nat):Int)) (by omega) (by omega) ?_
 refine ae.KV (by decide) (Sk j h0) (by omega) ?_
 have hst:=Ou h0 (by rw[←Vc]at hj;rw[Vc]at hj;exact hj) hu (by rw[Rp,hVq h0];exact Ra)
 have hcs:=hc.step Xz (i:=j) (q:=(j-1) /2) (by omega) (by omega) (by omega)
 have hpp:=(swap_perm (l:=L.set j a) (i:=j) (q:=(j-1) /2) (by omega) (by omega) (by omega)).trans hp
 have TN:(L.set j (bc L ((j-1) /2))).set ((j-1) /2) a=((L.set j a).set j (bc (L.set j a) ((j-1) /2))).set ((j-1) /2) (bc (L.set j a) j):=(sZ a (by omega) (by omega) (by omega)).symm
 have yG:bc ((L.set j (bc L ((j-1) /2))).set ((j-1) /2) a)=gh (gh (bc (L.set j a)) j (bc (L.set j a) ((j-1) /2))) ((j-1) /2) (bc (L.set j a) j):=by
  rw[TN,fW _ (by simp;omega),fW _ (by omega)]
 refine aC.mk ⟨(j-1) /2,_,_,C',rfl,rfl,cz,by simp[XE],by omega,?_,?_,?_,fun _=>?_⟩ ?_
 ·rw[TN];exact hpp
 ·rw[yG];exact hst.1
 ·rw[TN];rw[hVq h0]at hcs⊢;exact hcs
 ·rw[yG];exact hst.2
 ·simp only[bK,Int.toNat_natCast];omega
end Go.Proofs
set_option maxRecDepth 100000
namespace Go.Proofs
open Go Go.Sx
open Of
theorem Mg{h:Value}{l:List It}{f:Int→Option Nat}{C:Hp}(ho:Og h l f C){i:Nat}(hi:i<l.length)(ca:l.length<4611686018427387904)(hu:QD l.length (bc l) i)(hc:lF l f i)(hO:ja l):
  Fc Tryz.prog 160 #[h,.int .i64 (i:Int)] C (fun v C'=>v=.tuple #[]∧∃l' f',Og h l' f' C'∧l'.Perm l∧Cons l' f'∧Ord l'.length (bc l')):=by
 obtain⟨bh,la,mb,aM,Cm,rfl,rfl,aJ,hm⟩:=ho.open (by omega)
 obtain⟨n,hn⟩:∃n,n=l.length:=⟨_,rfl⟩
 obtain⟨a,ha⟩:∃a,a=bc l i:=⟨_,rfl⟩
 intro g
 refine Eu (R:=aB _) ?_
 unfold L160
 (repeat (first|refine Nil.ptr ?_|refine aa.mk ?_|refine Ld.mk zM rfl ?_|refine aO.mk ?_|refine ae.eql ?_|refine ae.neq ?_|refine ae.lss ?_|refine ae.leq ?_|refine ae.gtr ?_|refine ae.geq ?_|refine Un.not ?_|refine Ext.mk rfl ?_|refine az.mk ?_|refine ae.aH ?_|refine ae.bE ?_|refine ae.bD ?_|refine Br.yes ?_|refine Br.no ?_))
 refine ah.nat hi ?_
 refine aD.row (l:=ef .i64 l++aM) zM aJ (fj hi aM) ?_
 intro b6 _
 refine St.whole (r:=enc .i64 (bc l i)) (by repeat (first|exact cM.head _|apply cM.tail|apply cM.bW)) rfl rfl (nD _ _) ?_
 rw[←ha]
 refine⟨fun vs H=>∃(j:Nat) (L:List It) (f:Int→Option Nat) (C:Hp),vs=[.int .i64 (j:Int)]∧H=(b6,Obj.cells (enc .i64 a).toArray 233 (0,0))::C∧Og (.pointer (some ⟨bh,0,none⟩)) L f C∧L.length=n∧j<n∧
   (L.set j a).Perm l∧QD n (bc (L.set j a)) j∧lF (L.set j a) f j,
  fun vs _=>n-bK vs 0,.mk ⟨i,l,f,_,rfl,rfl,ho,hn.symm,by omega,?_,?_,?_⟩,?_⟩
 ·exact(by rw[ha,ou hi])
 ·rw[ha,ou hi,hn];exact hu
 ·rw[ha,ou hi];exact hc
 rintro w H ⟨j,L,f,C,hw,rfl,ho,XE,hj,hp,hu,hc⟩ gs
 simp only[List.cons.injEq,and_true]at hw
 subst hw
 have Va:=ho
 obtain⟨bh',la,mb,aM,Cm,Xh,rfl,aJ,hm⟩:=ho.open (by omega)
 simp only[Value.pointer.injEq,Option.some.injEq,Addr.mk.injEq,and_true]at Xh
 subst Xh
 have Xz:ja (L.set j a):=hO.perm hp
 have Vc:(L.set j a).length=n:=by simp[XE]
 have Rp:bc (L.set j a) j=a:=by rw[fW a (by omega)];simp[gh]
 have Xs:∀c,c≠j→bc (L.set j a) c=bc L c:=fun c h0=>by rw[fW a (by omega)];simp[gh,h0]
 refine ae.V7 (c:=((2*j:Nat):Int)) (by omega) (by omega) ?_
 refine ae.wL (c:=((2*j+1:Nat):Int)) (by omega) (by omega) ?_
 intro J hJ
 obtain⟨c,hcd⟩:∃c,c=wj n (bc (L.set j a)) j:=⟨_,rfl⟩
 have hkc:=qF n (bc (L.set j a)) j
 rw[←hcd]at hkc
 have ic:J [.int .i64 (c:Int)] ((b6,Obj.cells (enc .i64 a).toArray 233 (0,0))::(bh,Obj.cells #[.slice (some ⟨la,0,none⟩) L.length (L.length+aM.length),.map (some mb)] 231 (0,0))::(la,.cells (rows (ef .i64 L++aM)) 233 (0,0))::Cm):=by
  refine hJ _ _ fun Vr=>?_
  intro J2 wy
  have hstop:n≤c∨prec (bc L c) a=false→J2 [.bool true] ((b6,Obj.cells (enc .i64 a).toArray 233 (0,0))::(bh,Obj.cells #[.slice (some ⟨la,0,none⟩) L.length (L.length+aM.length),.map (some mb)] 231 (0,0))::(la,.cells (rows (ef .i64 L++aM)) 233 (0,0))::Cm):=fun hst=>wy _ _ fun gs=>by
   refine Br.yes ?_
   refine aD.whole (r:=enc .i64 a) zM rfl ?_
   refine ag.fn (.cons .here) (pL Va (i:=j) (by omega) a) ?_
   rintro v C' ⟨rfl,cz⟩
   have hd:=hc.done Xz (by omega)
   rw[Rp]at hd
   have hex:=Ix hu (by
    rw[←hcd]
    by_cases h0:n≤c
    ·exact .inl h0
    ·right
     rw[Rp,Xs c (by omega)]
     rcases hst with h|h
     ·omega
     ·exact h)
   rw[←Vc]at hex
   exact⟨_,_,rfl,.tail,rfl,_,_,cz,hp,hd,hex⟩
  refine DR.self ?_
  (repeat (first|refine Nil.ptr ?_|refine aa.mk ?_|refine Ld.mk zM rfl ?_|refine aO.mk ?_|refine ae.eql ?_|refine ae.neq ?_|refine ae.lss ?_|refine ae.leq ?_|refine ae.gtr ?_|refine ae.geq ?_|refine Un.not ?_|refine Ext.mk rfl ?_|refine az.mk ?_|refine ae.aH ?_|refine ae.bE ?_|refine ae.bD ?_|refine Br.yes ?_|refine Br.no ?_))
  refine Br.dec (fun h0=>JE.mk (hstop (.inl (by omega)))) (fun h0=>?_)
  have h0:c<n:=by omega
  (repeat (first|refine Nil.ptr ?_|refine aa.mk ?_|refine Ld.mk zM rfl ?_|refine aO.mk ?_|refine ae.eql ?_|refine ae.neq ?_|refine ae.lss ?_|refine ae.leq ?_|refine ae.gtr ?_|refine ae.geq ?_|refine Un.not ?_|refine Ext.mk rfl ?_|refine az.mk ?_|refine ae.aH ?_|refine ae.bE ?_|refine ae.bD ?_|refine Br.yes ?_|refine Br.no ?_))
  refine ah.nat (by omega) ?_
  refine aD.row (l:=ef .i64 L++aM) zM aJ (fj (by omega) aM) ?_
  refine aD.whole (r:=enc .i64 a) zM rfl ?_
  intro F
  refine ag.rd .here (ud _ a _) ?_
  rintro v rfl
  refine⟨.refl _,Un.not ?_⟩
  cases Ra:prec (bc L c) a with
  |false=>exact az.mk (JE.mk (hstop (.inr Ra)))
  |true=>
  refine az.mk (JE.mk (wy _ _ fun gs=>Br.no ?_))
  (repeat (first|refine Nil.ptr ?_|refine aa.mk ?_|refine Ld.mk zM rfl ?_|refine aO.mk ?_|refine ae.eql ?_|refine ae.neq ?_|refine ae.lss ?_|refine ae.leq ?_|refine ae.gtr ?_|refine ae.geq ?_|refine Un.not ?_|refine Ext.mk rfl ?_|refine az.mk ?_|refine ae.aH ?_|refine ae.bE ?_|refine ae.bD ?_|refine Br.yes ?_|refine Br.no ?_))
  refine ah.nat (by omega) ?_
  refine aD.row (l:=ef .i64 L++aM) zM aJ (fj (by omega) aM) ?_
  refine ag.fn (.cons .here) (pL Va (i:=j) (by omega) (bc L c)) ?_
  rintro v C' ⟨rfl,cz⟩
  have Xd:c≠j:=by omega
  have hst:=Iw hu (by rw[←hcd];exact h0) (by rw[←hcd,Rp,Xs c Xd];exact Ra)
  rw[←hcd]at hst
  have hcs:=hc.step Xz (i:=j) (q:=c) (by omega) (by omega) Xd
  have hpp:=(swap_perm (l:=L.set j a) (i:=j) (q:=c) (by omega) (by omega) Xd).trans hp
  have TN:(L.set j (bc L c)).set c a=((L.set j a).set j (bc (L.set j a) c)).set c (bc (L.set j a) j):=(sZ a (by omega) (by omega) Xd).symm
  have yG:bc ((L.set j (bc L c)).set c a)=gh (gh (bc (L.set j a)) j (bc (L.set j a) c)) c (bc (L.set j a) j):=by
   rw[TN,fW _ (by simp;omega),fW _ (by omega)]
  refine aC.mk ⟨c,_,_,C',rfl,rfl,cz,by simp[XE],by omega,?_,?_,?_⟩ ?_
  ·rw[TN];exact hpp
  ·rw[yG];exact hst
  ·rw[TN];rw[Xs c Xd]at hcs⊢;exact hcs
  ·simp only[bK,Int.toNat_natCast];omega
 intro J3 Zm
 have hkd:wj n (bc (L.set j a)) j=if(decide (2*j+1+1<n) &&prec (bc L (2*j+1+1)) (bc L (2*j+1)))=true then 2*j+1+1 else 2*j+1:=by
  unfold wj;rw[Xs _ (by omega),Xs _ (by omega)]
 rw[hkd]at hcd
 have hno:¬(2*j+1+1<n∧prec (bc L (2*j+1+1)) (bc L (2*j+1))=true)→J3 [.bool false] ((b6,Obj.cells (enc .i64 a).toArray 233 (0,0))::(bh,Obj.cells #[.slice (some ⟨la,0,none⟩) L.length (L.length+aM.length),.map (some mb)] 231 (0,0))::(la,.cells (rows (ef .i64 L++aM)) 233 (0,0))::Cm):=fun hx=>Zm _ _ fun gs=>by
  rw[if_neg (by simpa using hx)]at hcd
  rw[hcd]at ic
  exact Br.no (.mk ic)
 refine DR.self ?_
 refine ae.wL (c:=((2*j+1+1:Nat):Int)) (by omega) (by omega) ?_
 (repeat (first|refine Nil.ptr ?_|refine aa.mk ?_|refine Ld.mk zM rfl ?_|refine aO.mk ?_|refine ae.eql ?_|refine ae.neq ?_|refine ae.lss ?_|refine ae.leq ?_|refine ae.gtr ?_|refine ae.geq ?_|refine Un.not ?_|refine Ext.mk rfl ?_|refine az.mk ?_|refine ae.aH ?_|refine ae.bE ?_|refine ae.bD ?_|refine Br.yes ?_|refine Br.no ?_))
 refine Br.dec (fun h0=>?_) (fun h0=>JE.mk (hno (fun h=>h0 (by omega))))
 have h0:2*j+1+1<n:=by omega
 (repeat (first|refine Nil.ptr ?_|refine aa.mk ?_|refine Ld.mk zM rfl ?_|refine aO.mk ?_|refine ae.eql ?_|refine ae.neq ?_|refine ae.lss ?_|refine ae.leq ?_|refine ae.gtr ?_|refine ae.geq ?_|refine Un.not ?_|refine Ext.mk rfl ?_|refine az.mk ?_|refine ae.aH ?_|refine ae.bE ?_|refine ae.bD ?_|refine Br.yes ?_|refine Br.no ?_))
 refine ae.wL (c:=((2*j+1+1:Nat):Int)) (by omega) (by omega) ?_
 refine ah.nat (by omega) ?_
 refine aD.row (l:=ef .i64 L++aM) zM aJ (fj (by omega) aM) ?_
 (repeat (first|refine Nil.ptr ?_|refine aa.mk ?_|refine Ld.mk zM rfl ?_|refine aO.mk ?_|refine ae.eql ?_|refine ae.neq ?_|refine ae.lss ?_|refine ae.leq ?_|refine ae.gtr ?_|refine ae.geq ?_|refine Un.not ?_|refine Ext.mk rfl ?_|refine az.mk ?_|refine ae.aH ?_|refine ae.bE ?_|refine ae.bD ?_|refine Br.yes ?_|refine Br.no ?_))
 refine ah.nat (by omega) ?_
 refine aD.row (l:=ef .i64 L++aM) zM aJ (fj (by omega) aM) ?_
 intro F
 refine ag.rd .here (ud _ _ _) ?_
 rintro v rfl
 refine⟨.refl _,?_⟩
 cases Ra:prec (bc L (2*j+1+1)) (bc L (2*j+1))with
 |false=>exact az.mk (JE.mk (hno (fun h=>by rw[Ra]at h;exact absurd h.2 (by decide))))
 |true=>
 refine az.mk (JE.mk (Zm _ _ fun gs=>Br.yes ?_))
 refine ae.wL (c:=((2*j+1+1:Nat):Int)) (by omega) (by omega) ?_
 rw[if_pos (by simp[h0,Ra])]at hcd
 rw[hcd]at ic
 exact .mk ic
theorem Pp(B:Hp):Fc Tryz.prog 76 #[] B (fun v H=>∃b C,v=.pointer (some ⟨b,0,none⟩)∧H=C++B∧Qy (.pointer (some ⟨b,0,none⟩)) [] C):=by
 intro g
 refine IU (R:=aB _) ?_
 unfold L76
 refine Build.mk (cs:=[.slice none 0 0,.map none]) (by kernel_rfl) ?_
 intro b _
 exact⟨_,_,rfl,.refl _,b,[_],rfl,rfl,fun _=>none,⟨b,_,_,[],[],rfl,rfl,aS.nil _ _,.inl ⟨rfl,rfl,rfl⟩,fun _=>rfl⟩,⟨fun j hj=>by simp at hj,fun _ _=>rfl⟩,fun j _ hj=>by simp at hj,by simp[ja]⟩
theorem LU{h:Value}{l:List It}{C:Hp}(hi:Qy h l C)(ca:l.length<4398046511104)(x k:Int):
  Fc Tryz.prog 77 #[h,.int .i64 x,.int .i64 k] C (fun v C'=>∃l',Qy h l' C'∧
   ((x∈l.map Prod.fst∧v=.int .i64 11∧l'=l)∨(x∉l.map Prod.fst∧v=.int .i64 0∧l'.Perm ((x,k)::l)))):=by
 have HZ:=hi
 obtain⟨f,ho,hc,hO,h1⟩:=hi
 have Va:=ho
 obtain⟨bh,sv,mv,Cs,Cm,rfl,rfl,hs,hm,hne⟩:=ho
 intro g
 refine IT (R:=aB _) ?_
 unfold L77
 (repeat (first|refine Nil.ptr ?_|refine aa.mk ?_|refine Ld.mk zM rfl ?_|refine aO.mk ?_|refine ae.eql ?_|refine ae.neq ?_|refine ae.lss ?_|refine ae.leq ?_|refine ae.gtr ?_|refine ae.geq ?_|refine Un.not ?_|refine Ext.mk rfl ?_|refine az.mk ?_|refine ae.aH ?_|refine ae.bE ?_|refine ae.bD ?_|refine Br.yes ?_|refine Br.no ?_))
 rcases MS hc (x:=x)with⟨hx,hf⟩|⟨i,hi,hx,hf⟩
 ·refine hm.HG zS hf ?_
  (repeat (first|refine Nil.ptr ?_|refine aa.mk ?_|refine Ld.mk zM rfl ?_|refine aO.mk ?_|refine ae.eql ?_|refine ae.neq ?_|refine ae.lss ?_|refine ae.leq ?_|refine ae.gtr ?_|refine ae.geq ?_|refine Un.not ?_|refine Ext.mk rfl ?_|refine az.mk ?_|refine ae.aH ?_|refine ae.bE ?_|refine ae.bD ?_|refine Br.yes ?_|refine Br.no ?_))
  intro J hJ
  obtain⟨zJ,oI,Rc,hp4⟩:=KZ (a:=(x,k)) hc hO h1 hx
  have ic:∀mb RJ,jM .i64 idx (.map (some mb)) f RJ→J [] ((bh,Obj.cells #[sv,.map (some mb)] 231 (0,0))::(Cs++RJ)):=by
   intro mb RJ hm'
   refine hJ _ fun gs=>?_
   (repeat (first|refine Nil.ptr ?_|refine aa.mk ?_|refine Ld.mk zM rfl ?_|refine aO.mk ?_|refine ae.eql ?_|refine ae.neq ?_|refine ae.lss ?_|refine ae.leq ?_|refine ae.gtr ?_|refine ae.geq ?_|refine Un.not ?_|refine Ext.mk rfl ?_|refine az.mk ?_|refine ae.aH ?_|refine ae.bE ?_|refine ae.bD ?_|refine Br.yes ?_|refine Br.no ?_))
   refine Build.mk (cs:=enc .i64 (x,k)) (by kernel_rfl) ?_
   refine au.one (k:=2) (e:=233) (z:=.agg #[.int .i64 0,.int .i64 0]) (by kernel_rfl) (by kernel_rfl) (by kernel_rfl) (by decide) rfl fun xb=>?_
   refine hs.IJ (A:=[_,_]) (B:=RJ) (r:=enc .i64 (x,k)) zM rfl (nD _ _) ⟨[.int .i64 0,.int .i64 0],rfl,rfl⟩ (by rw[cH];omega) (by rw[cH];omega) fun v' C' hs'=>?_
   (repeat (first|refine Nil.ptr ?_|refine aa.mk ?_|refine Ld.mk zM rfl ?_|refine aO.mk ?_|refine ae.eql ?_|refine ae.neq ?_|refine ae.lss ?_|refine ae.leq ?_|refine ae.gtr ?_|refine ae.geq ?_|refine Un.not ?_|refine Ext.mk rfl ?_|refine az.mk ?_|refine ae.aH ?_|refine ae.bE ?_|refine ae.bD ?_|refine Br.yes ?_|refine Br.no ?_))
   refine St.one (by repeat (first|exact cM.head _|apply cM.tail|apply cM.bW)) (by obtain⟨a,c,rfl⟩:=hs'.len;rfl) (by simp) rfl ?_
   (repeat (first|refine Nil.ptr ?_|refine aa.mk ?_|refine Ld.mk zM rfl ?_|refine aO.mk ?_|refine ae.eql ?_|refine ae.neq ?_|refine ae.lss ?_|refine ae.leq ?_|refine ae.gtr ?_|refine ae.geq ?_|refine Un.not ?_|refine Ext.mk rfl ?_|refine az.mk ?_|refine ae.aH ?_|refine ae.bE ?_|refine ae.bD ?_|refine Br.yes ?_|refine Br.no ?_))
   refine hs'.bQ ?_
   refine ae.nT (c:=((l.length:Nat):Int)) (by rw[List.length_append,cH];simp) (by omega) ?_
   have uI:aS 233 2 v' (ef .i64 (l++[(x,k)])) C':=by simpa[ef]using hs'
   have cz:Og (.pointer (some ⟨bh,0,none⟩)) (l++[(x,k)]) f ((bh,Obj.cells #[v',.map (some mb)] 231 (0,0))::(C'++RJ)):=
    ⟨bh,_,_,C',RJ,rfl,rfl,uI,hm',fun h=>by simp at h⟩
   refine ag.pre (.tail) ?_
   refine ag.fn .here (SX cz (i:=l.length) (by simp) (by simp;omega) zJ oI Rc) ?_
   rintro v C'' ⟨rfl,l',f',p,o7,cG,hc2,hex,hp,yG,aby⟩
   refine⟨_,_,rfl,.refl _,l',⟨f',o7,hc2,aby hp4,Rc.perm cG⟩,.inr ⟨hx,rfl,cG.trans ?_⟩⟩
   exact List.perm_append_comm (l₁:=l) (l₂:=[(x,k)])
  (repeat (first|refine Nil.ptr ?_|refine aa.mk ?_|refine Ld.mk zM rfl ?_|refine aO.mk ?_|refine ae.eql ?_|refine ae.neq ?_|refine ae.lss ?_|refine ae.leq ?_|refine ae.gtr ?_|refine ae.geq ?_|refine Un.not ?_|refine Ext.mk rfl ?_|refine az.mk ?_|refine ae.aH ?_|refine ae.bE ?_|refine ae.bD ?_|refine Br.yes ?_|refine Br.no ?_))
  rcases hm with⟨rfl,rfl,hfn⟩|⟨mb,m,ck,rfl,h2⟩
  ·(repeat (first|refine Nil.ptr ?_|refine aa.mk ?_|refine Ld.mk zM rfl ?_|refine aO.mk ?_|refine ae.eql ?_|refine ae.neq ?_|refine ae.lss ?_|refine ae.leq ?_|refine ae.gtr ?_|refine ae.geq ?_|refine Un.not ?_|refine Ext.mk rfl ?_|refine az.mk ?_|refine ae.aH ?_|refine ae.bE ?_|refine ae.bD ?_|refine Br.yes ?_|refine Br.no ?_))
   intro mb _
   (repeat (first|refine Nil.ptr ?_|refine aa.mk ?_|refine Ld.mk zM rfl ?_|refine aO.mk ?_|refine ae.eql ?_|refine ae.neq ?_|refine ae.lss ?_|refine ae.leq ?_|refine ae.gtr ?_|refine ae.geq ?_|refine Un.not ?_|refine Ext.mk rfl ?_|refine az.mk ?_|refine ae.aH ?_|refine ae.bE ?_|refine ae.bD ?_|refine Br.yes ?_|refine Br.no ?_))
   refine St.one (by repeat (first|exact cM.head _|apply cM.tail|apply cM.bW)) rfl (by simp) rfl ?_
   refine JE.of ?_ (ic mb _ (by rw[hfn];exact jM.made mb))
   simp only[List.append_nil]
   refine .perm ?_
   refine(List.Perm.swap _ _ _).trans (.cons _ ?_)
   exact List.perm_append_comm (l₁:=[_])
  ·(repeat (first|refine Nil.ptr ?_|refine aa.mk ?_|refine Ld.mk zM rfl ?_|refine aO.mk ?_|refine ae.eql ?_|refine ae.neq ?_|refine ae.lss ?_|refine ae.leq ?_|refine ae.gtr ?_|refine ae.geq ?_|refine Un.not ?_|refine Ext.mk rfl ?_|refine az.mk ?_|refine ae.aH ?_|refine ae.bE ?_|refine ae.bD ?_|refine Br.yes ?_|refine Br.no ?_))
   refine JE.mk ?_
   exact ic mb Cm (.inr ⟨mb,m,ck,rfl,h2⟩)
 ·refine hm.HF zS hf ?_
  (repeat (first|refine Nil.ptr ?_|refine aa.mk ?_|refine Ld.mk zM rfl ?_|refine aO.mk ?_|refine ae.eql ?_|refine ae.neq ?_|refine ae.lss ?_|refine ae.leq ?_|refine ae.gtr ?_|refine ae.geq ?_|refine Un.not ?_|refine Ext.mk rfl ?_|refine az.mk ?_|refine ae.aH ?_|refine ae.bE ?_|refine ae.bD ?_|refine Br.yes ?_|refine Br.no ?_))
  refine⟨_,_,rfl,.refl _,l,HZ,.inl ⟨?_,rfl,rfl⟩⟩
  rw[gx];exact⟨i,hi,hx⟩
theorem Pn{h:Value}{l:List It}{C:Hp}(hi:Qy h l C)(ca:l.length<4398046511104):
  Fc Tryz.prog 78 #[h] C (fun v C'=>∃l',Qy h l' C'∧
   ((l=[]∧v=.tuple #[.int .i64 0,.int .i64 0,.int .i64 10]∧l'=l)∨(∃a,l.Perm (a::l')∧(∀b∈l,prec b a=false)∧v=.tuple #[.int .i64 a.1,.int .i64 a.2,.int .i64 0]))):=by
 have HZ:=hi
 obtain⟨f,ho,hc,hO,h1⟩:=hi
 by_cases hl:l=[]
 ·subst hl
  intro g
  refine wR (R:=aB _) ?_
  unfold L78
  obtain⟨bh,sv,mv,Cs,Cm,rfl,rfl,hs,hm,hne⟩:=ho
  (repeat (first|refine Nil.ptr ?_|refine aa.mk ?_|refine Ld.mk zM rfl ?_|refine aO.mk ?_|refine ae.eql ?_|refine ae.neq ?_|refine ae.lss ?_|refine ae.leq ?_|refine ae.gtr ?_|refine ae.geq ?_|refine Un.not ?_|refine Ext.mk rfl ?_|refine az.mk ?_|refine ae.aH ?_|refine ae.bE ?_|refine ae.bD ?_|refine Br.yes ?_|refine Br.no ?_))
  refine bX.or true (fun _=>?_) rfl fun _=>?_
  ·(repeat (first|refine Nil.ptr ?_|refine aa.mk ?_|refine Ld.mk zM rfl ?_|refine aO.mk ?_|refine ae.eql ?_|refine ae.neq ?_|refine ae.lss ?_|refine ae.leq ?_|refine ae.gtr ?_|refine ae.geq ?_|refine Un.not ?_|refine Ext.mk rfl ?_|refine az.mk ?_|refine ae.aH ?_|refine ae.bE ?_|refine ae.bD ?_|refine Br.yes ?_|refine Br.no ?_))
   refine hs.bQ ?_
   (repeat (first|refine Nil.ptr ?_|refine aa.mk ?_|refine Ld.mk zM rfl ?_|refine aO.mk ?_|refine ae.eql ?_|refine ae.neq ?_|refine ae.lss ?_|refine ae.leq ?_|refine ae.gtr ?_|refine ae.geq ?_|refine Un.not ?_|refine Ext.mk rfl ?_|refine az.mk ?_|refine ae.aH ?_|refine ae.bE ?_|refine ae.bD ?_|refine Br.yes ?_|refine Br.no ?_))
   exact⟨rfl,rfl⟩
  ·(repeat (first|refine Nil.ptr ?_|refine aa.mk ?_|refine Ld.mk zM rfl ?_|refine aO.mk ?_|refine ae.eql ?_|refine ae.neq ?_|refine ae.lss ?_|refine ae.leq ?_|refine ae.gtr ?_|refine ae.geq ?_|refine Un.not ?_|refine Ext.mk rfl ?_|refine az.mk ?_|refine ae.aH ?_|refine ae.bE ?_|refine ae.bD ?_|refine Br.yes ?_|refine Br.no ?_))
   exact⟨_,_,rfl,.refl _,[],HZ,.inl ⟨rfl,rfl,rfl⟩⟩
 ·obtain⟨n,hn⟩:∃n,l.length=n+1:=⟨l.length-1,by have:=List.length_pos_iff.2 hl;omega⟩
  have hmin:∀b∈l,prec b (bc l 0)=false:=fun b hb=>by
   obtain⟨j,hj,e⟩:=List.mem_iff_getElem.1 hb
   have:=OZ hO j hj
   rwa [show bc l j=b by simp[bc,List.getD,hj,e]]at this
  intro g
  refine wR (R:=aB _) ?_
  obtain⟨bh,la,mb,aM,Cm,rfl,rfl,aJ,hm⟩:=ho.open (by omega)
  unfold L78
  (repeat (first|refine Nil.ptr ?_|refine aa.mk ?_|refine Ld.mk zM rfl ?_|refine aO.mk ?_|refine ae.eql ?_|refine ae.neq ?_|refine ae.lss ?_|refine ae.leq ?_|refine ae.gtr ?_|refine ae.geq ?_|refine Un.not ?_|refine Ext.mk rfl ?_|refine az.mk ?_|refine ae.aH ?_|refine ae.bE ?_|refine ae.bD ?_|refine Br.yes ?_|refine Br.no ?_))
  refine bX.or false (fun _=>?_) rfl fun _=>?_
  ·(repeat (first|refine Nil.ptr ?_|refine aa.mk ?_|refine Ld.mk zM rfl ?_|refine aO.mk ?_|refine ae.eql ?_|refine ae.neq ?_|refine ae.lss ?_|refine ae.leq ?_|refine ae.gtr ?_|refine ae.geq ?_|refine Un.not ?_|refine Ext.mk rfl ?_|refine az.mk ?_|refine ae.aH ?_|refine ae.bE ?_|refine ae.bD ?_|refine Br.yes ?_|refine Br.no ?_))
   exact⟨rfl,by rw[hn];simp;omega⟩
  (repeat (first|refine Nil.ptr ?_|refine aa.mk ?_|refine Ld.mk zM rfl ?_|refine aO.mk ?_|refine ae.eql ?_|refine ae.neq ?_|refine ae.lss ?_|refine ae.leq ?_|refine ae.gtr ?_|refine ae.geq ?_|refine Un.not ?_|refine Ext.mk rfl ?_|refine az.mk ?_|refine ae.aH ?_|refine ae.bE ?_|refine ae.bD ?_|refine Br.yes ?_|refine Br.no ?_))
  refine ah.of 0 rfl (by omega) ?_
  refine aD.row (l:=ef .i64 l++aM) zM aJ (fj (by omega) aM) ?_
  intro lD _
  refine St.whole (r:=enc .i64 (bc l 0)) (by repeat (first|exact cM.head _|apply cM.tail|apply cM.bW)) rfl rfl (nD _ _) ?_
  (repeat (first|refine Nil.ptr ?_|refine aa.mk ?_|refine Ld.mk zM rfl ?_|refine aO.mk ?_|refine ae.eql ?_|refine ae.neq ?_|refine ae.lss ?_|refine ae.leq ?_|refine ae.gtr ?_|refine ae.geq ?_|refine Un.not ?_|refine Ext.mk rfl ?_|refine az.mk ?_|refine ae.aH ?_|refine ae.bE ?_|refine ae.bD ?_|refine Br.yes ?_|refine Br.no ?_))
  refine ae.nT (c:=(n:Int)) (by rw[hn];simp) (by omega) ?_
  (repeat (first|refine Nil.ptr ?_|refine aa.mk ?_|refine Ld.mk zM rfl ?_|refine aO.mk ?_|refine ae.eql ?_|refine ae.neq ?_|refine ae.lss ?_|refine ae.leq ?_|refine ae.gtr ?_|refine ae.geq ?_|refine Un.not ?_|refine Ext.mk rfl ?_|refine az.mk ?_|refine ae.aH ?_|refine ae.bE ?_|refine ae.bD ?_|refine Br.yes ?_|refine Br.no ?_))
  refine ah.nat (by omega) ?_
  refine aD.row (l:=ef .i64 l++aM) zM aJ (fj (by omega) aM) ?_
  intro IF _
  refine St.whole (r:=enc .i64 (bc l n)) (by repeat (first|exact cM.head _|apply cM.tail|apply cM.bW)) rfl rfl (nD _ _) ?_
  (repeat (first|refine Nil.ptr ?_|refine aa.mk ?_|refine Ld.mk zM rfl ?_|refine aO.mk ?_|refine ae.eql ?_|refine ae.neq ?_|refine ae.lss ?_|refine ae.leq ?_|refine ae.gtr ?_|refine ae.geq ?_|refine Un.not ?_|refine Ext.mk rfl ?_|refine az.mk ?_|refine ae.aH ?_|refine ae.bE ?_|refine ae.bD ?_|refine Br.yes ?_|refine Br.no ?_))
  refine fc.upto (h:=n) (by omega) ?_
  (repeat (first|refine Nil.ptr ?_|refine aa.mk ?_|refine Ld.mk zM rfl ?_|refine aO.mk ?_|refine ae.eql ?_|refine ae.neq ?_|refine ae.lss ?_|refine ae.leq ?_|refine ae.gtr ?_|refine ae.geq ?_|refine Un.not ?_|refine Ext.mk rfl ?_|refine az.mk ?_|refine ae.aH ?_|refine ae.bE ?_|refine ae.bD ?_|refine Br.yes ?_|refine Br.no ?_))
  refine St.one (by repeat (first|exact cM.head _|apply cM.tail|apply cM.bW)) rfl (by simp) rfl ?_
  refine DR.self ?_
  (repeat (first|refine Nil.ptr ?_|refine aa.mk ?_|refine Ld.mk zM rfl ?_|refine aO.mk ?_|refine ae.eql ?_|refine ae.neq ?_|refine ae.lss ?_|refine ae.leq ?_|refine ae.gtr ?_|refine ae.geq ?_|refine Un.not ?_|refine Ext.mk rfl ?_|refine az.mk ?_|refine ae.aH ?_|refine ae.bE ?_|refine ae.bD ?_|refine Br.yes ?_|refine Br.no ?_))
  rw[←List.append_nil Cm]
  refine jM.del (A:=[_,_,_,_]) (B:=[]) hm fun RJ hm'=>?_
  rw[List.append_nil]
  have Q9:ef .i64 l++aM=ef .i64 (l.take n)++(enc .i64 (bc l n)::aM):=by
   have e:l=l.take n++[bc l n]:=by
    have h2:l.drop n=[bc l n]:=by
     rw[List.drop_eq_getElem_cons (by omega),List.drop_eq_nil_of_le (by omega)]
     simp[hn,bc,List.getD]
    have:=(List.take_append_drop n l).symm
    rw[h2]at this;exact this
   conv=>lhs;rw[e]
   simp[ef]
  have Mp:∀r∈ef .i64 (l.take n)++(enc .i64 (bc l n)::aM),r.length=2:=by rw[←Q9];exact aJ
  intro J hJ
  have hlt:(l.take n).length=n:=by simp[hn]
  have ic:∀l' C',Qy (.pointer (some ⟨bh,0,none⟩)) l' C'→l.Perm (bc l 0::l')→J [] ((IF,Obj.cells (enc .i64 (bc l n)).toArray 233 (0,0))::(lD,Obj.cells (enc .i64 (bc l 0)).toArray 233 (0,0))::C'):=by
   intro l' C' hi' Tf
   refine hJ _ fun gs=>?_
   (repeat (first|refine Nil.ptr ?_|refine aa.mk ?_|refine Ld.mk zM rfl ?_|refine aO.mk ?_|refine ae.eql ?_|refine ae.neq ?_|refine ae.lss ?_|refine ae.leq ?_|refine ae.gtr ?_|refine ae.geq ?_|refine Un.not ?_|refine Ext.mk rfl ?_|refine az.mk ?_|refine ae.aH ?_|refine ae.bE ?_|refine ae.bD ?_|refine Br.yes ?_|refine Br.no ?_))
   exact⟨_,_,rfl,.skip .tail,l',hi',.inr ⟨_,Tf,hmin,rfl⟩⟩
  (repeat (first|refine Nil.ptr ?_|refine aa.mk ?_|refine Ld.mk zM rfl ?_|refine aO.mk ?_|refine ae.eql ?_|refine ae.neq ?_|refine ae.lss ?_|refine ae.leq ?_|refine ae.gtr ?_|refine ae.geq ?_|refine Un.not ?_|refine Ext.mk rfl ?_|refine az.mk ?_|refine ae.aH ?_|refine ae.bE ?_|refine ae.bD ?_|refine Br.yes ?_|refine Br.no ?_))
  have zK:Og (.pointer (some ⟨bh,0,none⟩)) (l.take n) (AR f (bc l 0).1 none) ((bh,Obj.cells #[.slice (some ⟨la,0,none⟩) n (l.length+aM.length),.map (some mb)] 231 (0,0))::(la,.cells (rows (ef .i64 l++aM)) 233 (0,0))::RJ):=by
   rw[Q9]
   exact .shut Mp hlt.symm (by simp[hn];omega) hm'
  refine Br.mk (fun h0=>?_) (fun h0=>?_)
  ·have h0:0<n:=by simpa using h0
   obtain⟨_,q1,q2,q3,q4⟩:=OS hc hO h1 hn h0
   refine aD.whole (r:=enc .i64 (bc l n)) zM rfl ?_
   refine ag.fn (.cons (.cons .here)) (pL zK (i:=0) (by omega) (bc l n)) ?_
   rintro v C2 ⟨rfl,o7⟩
   have AY:lF ((l.take n).set 0 (bc l n)) (AR (AR f (bc l 0).1 none) (bc l n).1 (some 0)) 0:=by
    refine⟨fun j hj Tu=>?_,fun x hx=>?_⟩
    ·unfold AR
     rw[if_neg]
     ·exact q4.1 j hj Tu
     ·intro e
      have h00:bc ((l.take n).set 0 (bc l n)) 0=bc l n:=by rw[fW _ (by omega)];simp[gh]
      exact Tu (q3.inj hj (by simp;omega) (by rw[e,h00]))
    ·unfold AR
     rw[if_neg]
     ·exact q4.2 x hx
     ·intro e
      refine hx (gx.2 ⟨0,by simp;omega,?_⟩)
      rw[fW _ (by omega)];simp[gh,e]
   refine ag.fn (.cons (.cons .here)) (Mg o7 (i:=0) (by simp;omega) (by simp;omega) (by simpa[hn]using q2) AY q3) ?_
   rintro v C3 ⟨rfl,l3,f3,u6,LV,Xe,WA⟩
   exact JE.mk (ic l3 C3 ⟨f3,u6,Xe,WA,q3.perm LV⟩ ((LV.cons (bc l 0)).trans q1).symm)
  ·have h0:n=0:=by simp at h0;omega
   subst h0
   refine JE.mk (ic (l.take 0) _ ⟨_,zK,⟨fun j hj=>by simp at hj,fun x _=>?_⟩,fun j _ hj=>by simp at hj,by simp[ja]⟩ ?_)
   ·unfold AR
    split
    ·rfl
    ·rename_i hne
     refine hc.2 x fun hm=>hne ?_
     obtain⟨j,hj,e⟩:=gx.1 hm
     rw[show j=0 by omega]at e;exact e.symm
   ·match l,hn with
    | [a],_=>exact .refl _
end Go.Proofs
set_option maxRecDepth 100000
namespace Go.Proofs
open Go Go.Sx
open aF Of
theorem G1{pt n v:Nat}{T:Nd→Option Nat}{C:Hp}(h:mQ pt n T C)(hv:v<n):
  Rd Tryz.prog 171 #[ptr pt,.int .i64 (v:Int)] C (fun r=>∃l:List (Nd×Nat),(l.map Prod.fst).Nodup∧(∀d r,(d,r)∈l↔T d=some r∧d.v=v)∧r=.tuple #[.int .i64 ((l.length:Nat):Int),.int .i64 0]):=by
 have h0:=h
 obtain⟨vs,Cs,ms,rfl,hs,ho⟩:=h
 obtain⟨m,hm⟩:∃m,ms[v]? =some m:=⟨_,List.getElem?_eq_getElem (by rw[ho.len];exact hv)⟩
 have he:=ho.jK v m hm
 have hT:∀d:Nd,d.v=v→T d=ew m.l d:=fun d hd=>by rw[ho.T,hd,hm];rfl
 have hmem:∀d r,(d,r)∈m.l↔T d=some r∧d.v=v:=fun d r=>by
  constructor
  ·intro hx
   have hd:=ho.var v m hm _ hx
   exact⟨by rw[hT d hd];exact(eC he.nd).2 hx,hd⟩
  ·rintro⟨h1,h2⟩
   rw[hT d h2]at h1
   exact(eC he.nd).1 h1
 intro g
 refine Es (R:=aB _) ?_
 unfold L171
 refine ag.rd .here (jW h0 hv) ?_
 rintro w rfl
 refine ae.dh (Br.bt (by simp) ?_)
 refine Nil.ptr ?_
 refine aa.mk (Ld.mk zM rfl ?_)
 refine hs.HJ (x:=.map (some m.b)) (by rw[List.getElem?_map,hm];rfl) (fun _ h=>by exact .tail _ (List.mem_append_left _ h)) ?_
 refine he.Lt (b:=m.b) (by exact .tail _ (List.mem_append_right _ (pF hm))) ?_
 exact cw.mk (.refl _) ⟨m.l,he.nd,hmem,rfl⟩
section
variable {kp v gr:Nat} {K:Kd} {S:Nat→aF.Fn} {ord tr:List Nat} {C:Hp}
theorem HN{aj:List Nat}(h:cD kp K ord aj tr C)(hv:v<K.n):Rd Tryz.prog 93 #[ptr kp,.int .i64 (v:Int)] C (fun r=>∃l:List (Nd×Nat),(l.map Prod.fst).Nodup∧(∀d r,(d,r)∈l↔K.T d=some r∧d.v=v)∧r=.tuple #[.int .i64 ((l.length:Nat):Int),.int .i64 0]):=by
 have h0:=h
 obtain⟨b,rfl,hO⟩:=h
 intro g
 refine IS (R:=aB _) ?_
 unfold L93
 refine ae.aH (Br.no ?_)
 refine ag.rd .here (sE h0 (v:Int)) ?_
 rintro r rfl
 rw[decide_eq_true (by omega)]
 refine Un.not (Br.no ?_)
 refine Nil.ptr (aa.mk (aa.mk (Ld.mk (v:=ptr b.pt) (by exact .head _) rfl ?_)))
 refine ag.rd (.cons (.app .left)) (G1 hO.ut hv) ?_
 rintro r ⟨l,h1,h2,rfl⟩
 exact Ext.mk rfl (Ext.mk rfl (cw.mk (.refl _) ⟨l,h1,h2,rfl⟩))
theorem Nh(h:At kp K S ord tr C)(hv:v<K.n):Rd Tryz.prog 93 #[ptr kp,.int .i64 (v:Int)] C (fun r=>∃w:Nat,r=.tuple #[.int .i64 (w:Int),.int .i64 0]):=by
 obtain⟨K',S',dm,h,hk⟩:=h
 exact(HN h.rep (by rw[hk.n];exact hv)).mono fun r H ⟨e,l,_,_,h3⟩=>⟨e,_,h3⟩
theorem Ps{h:Value}{l:List It}{C:Hp}(hi:Qy h l C):Rd Tryz.prog 184 #[h] C (· =.int .i64 ((l.length:Nat):Int)):=by
 obtain⟨f,⟨bh,sv,mv,Cs,Cm,rfl,rfl,hs,hm,hne⟩,_⟩:=hi
 intro g
 refine Ej (R:=aB _) ?_
 unfold L184
 refine ae.aH (Br.no ?_)
 refine Nil.ptr (aa.mk (Ld.mk (v:=sv) (by exact .head _) rfl ?_))
 refine hs.bQ ?_
 rw[cH]
 exact cw.mk (.refl _) rfl
def sln:List Value→Nat
 | .slice _ n _::_=>n
 |_=>0
theorem KW(h:At kp K S ord tr C):Fc Tryz.prog 114 #[ptr kp] C (fun r H=>∃N l,H=N++C∧l.Perm (List.range K.n)∧aP 3 .i64 r (iw l) N):=by
 have hn:=h.qA
 intro g
 refine ET (R:=aB _) ?_
 unfold L114
 refine ae.aH (Br.no ?_)
 refine ag.fn .here (Pp C) ?_
 rintro w H ⟨bh,C0,rfl,rfl,HZ⟩
 refine ag.rd (.app .here) (nH h) ?_
 rintro w rfl
 refine⟨fun vs H=>∃(i:Nat) (l:List It) (C':Hp),vs=[.int .i64 (i:Int)]∧i≤K.n∧H=C'++C∧Qy (.pointer (some ⟨bh,0,none⟩)) l C'∧(l.map Prod.fst).Perm (iw (List.range i)),fun vs _=>K.n-bK vs 0,JE.mk ⟨0,[],C0,rfl,Nat.zero_le _,rfl,HZ,.refl _⟩,?_⟩
 rintro w H ⟨i,l,C',hv,hi,rfl,hh,hp⟩ gs
 simp only[List.cons.injEq,and_true]at hv
 subst hv
 have mz:l.length=i:=by have:=hp.length_eq;simpa[iw]using this
 refine ae.fu (Br.dec (fun hlt=>?_) (fun hge=>?_))
 ·refine ag.rd (.app .here) (Nh h hlt) ?_
  rintro r ⟨w,rfl⟩
  refine Ext.mk rfl (Ext.mk rfl ?_)
  refine⟨_,rfl,?_⟩
  refine ag.fn .left (LU hh (by omega) _ _) ?_
  rintro r C2 ⟨l2,Tz,⟨hin,_⟩|⟨_,rfl,cG⟩⟩
  ·exfalso
   have:=hp.mem_iff.1 hin
   rw[Lo,List.mem_range]at this
   omega
  refine ae.aN (b:=1) (by simp[aE];omega) ?_
  refine aC.mk ⟨i+1,l2,C2,rfl,hlt,rfl,Tz,?_⟩ (by simp only[bK];omega)
  refine(cG.map _).trans ?_
  rw[List.map_cons,List.range_succ,bG]
  exact(List.Perm.cons _ hp).trans (List.perm_append_comm (l₁:=[((i:Nat):Int)]))
 obtain rfl:i=K.n:=by omega
 refine⟨fun vs H=>∃(s:Value) (done:List Nat) (l:List It) (CS C':Hp),vs=[s]∧H=CS++(C'++C)∧Qy (.pointer (some ⟨bh,0,none⟩)) l C'∧aP 3 .i64 s (iw done) CS∧(iw done++l.map Prod.fst).Perm (iw (List.range K.n)),fun vs _=>K.n-sln vs,JE.mk ⟨_,[],l,[],C',rfl,rfl,hh,aP.nil,hp⟩,?_⟩
 clear hp hh mz
 rintro w H ⟨s,done,l,CS,C',hv,rfl,hh,hs,hp⟩ gs
 simp only[List.cons.injEq,and_true]at hv
 subst hv
 have hlen:done.length+l.length=K.n:=by have:=hp.length_eq;simpa[iw]using this
 refine ag.rd (.app .left) (Ps hh) ?_
 rintro r rfl
 refine ae.lP (b:=0) (Br.dec (fun hlt=>?_) (fun hge=>?_))
 ·refine ag.fn (.app .left) (Pn hh (by omega)) ?_
  rintro r C2 ⟨l2,Tz,⟨rfl,_⟩|⟨a,cG,_,rfl⟩⟩
  ·simp at hlt
  have ha:a.1∈iw (List.range K.n):=hp.mem_iff.1 (List.mem_append_right _ (List.mem_map_of_mem (cG.mem_iff.2 (.head _))))
  obtain⟨x,hx,hxa⟩:=List.mem_map.1 ha
  refine Ext.mk rfl (Ext.mk rfl (Ext.mk rfl ?_))
  rw[←hxa]
  refine au.int (e:=3) (by kernel_rfl) (by kernel_rfl) (by kernel_rfl) fun bx=>?_
  refine hs.mL (x:=(x:Int)) (.cons .left) (by exact .head _) (by rw[an];omega) (by rw[an];omega) fun s2 CS2 uI=>?_
  have oI:(iw (done++[x])++l2.map Prod.fst).Perm (iw (List.range K.n)):=by
   refine .trans ?_ hp
   rw[bG,List.append_assoc]
   refine List.Perm.append_left _ ?_
   refine .trans ?_ (cG.map _).symm
   rw[List.map_cons,←hxa]
   exact .refl _
  have e1:∀{s:Value} {done:List Nat} {CS:Hp},aP 3 .i64 s (iw done) CS→sln [s]=done.length:=fun{s done CS} h=>by
   obtain⟨a,c,h⟩:=aS.len h
   rw[h];simp[sln,iw]
  refine aC.of .tail ⟨s2,done++[x],l2,CS2,C2,rfl,rfl,Tz,by rw[bG];exact uI,oI⟩ ?_
  rw[e1 (done:=done++[x]) (by rw[bG];exact uI),e1 hs,List.length_append,List.length_singleton]
  have:=cG.length_eq
  rw[List.length_cons]at this
  omega
 ·have hl0:l=[]:=List.length_eq_zero_iff.1 (by omega)
  subst hl0
  rw[List.map_nil,List.append_nil]at hp
  obtain⟨l',hl',e⟩:=FG hp
  rw[e]at hs
  exact aB.mk (aU.c8 .right CS) ⟨CS,l',rfl,hl',hs⟩
theorem y4(h:At kp K S ord tr C)(hp:ord.Perm (List.range K.n))(gA:100≤gr∧gr≤1000)(je:tr.length<274877906944):
  Fc Tryz.prog 47 #[ptr kp,.int .i64 (gr:Int)] C (fun v H=>∃l,l.Perm (List.range K.n)∧v=.tuple #[rep (cS K S ord) (cS K S (av ord ((rm K S).bO gr ord l).1)) ((rm K S).bO gr ord l).2,.int .i64 0]∧At kp K S (av ord ((rm K S).bO gr ord l).1) (tr++((rm K S).bO gr ord l).1) H):=by
 have hn:=h.qA
 have uY:(rm K S).n=K.n:=rfl
 intro g
 refine Jg (R:=aB _) ?_
 unfold L47
 intro b1 _
 refine ag.rd (.cons .here) (oq kp (gr:=(gr:Int)) C) ?_
 rintro w rfl
 rw[if_neg (by omega)]
 refine ae.dh (Br.bt (by simp) ?_)
 refine ag.rd (.cons .here) (gK h) ?_
 rintro w rfl
 refine Build.mk (cs:=[.int .i64 ((cS K S ord:Nat):Int),.int .i64 0,.int .i64 0,.bool false]) (by kernel_rfl) ?_
 intro r8 _
 refine St.whole (r:=[.int .i64 ((cS K S ord:Nat):Int),.int .i64 0,.int .i64 0,.bool false]) (by exact .head _) rfl rfl (by simp[Value.oneCell']) ?_
 refine ag.fn (.cons (.cons .here)) (KW h) ?_
 rintro s H ⟨NQ,l,rfl,hl,hQ⟩
 have mz:l.length=K.n:=by rw[hl.length_eq,List.length_range]
 refine hQ.bQ ?_
 rw[an,mz]
 refine⟨fun vs H=>∃(i:Nat) (C':Hp),vs=[.int .i64 (i:Int)]∧i≤K.n∧H=(r8,.cells (List.toArray [.int .i64 ((cS K S ord:Nat):Int),.int .i64 0,.int .i64 ((((rm K S).bO gr ord (l.take i)).2:Nat):Int),.bool false]) 42 (0,0))::(b1,.cells #[.int .i64 0,.int .i64 0,.int .i64 0,.bool false] 42 (0,0))::(NQ++C')∧At kp K S (av ord ((rm K S).bO gr ord (l.take i)).1) (tr++((rm K S).bO gr ord (l.take i)).1) C',
  fun vs _=>K.n-bK vs 0,JE.mk ⟨0,C,rfl,Nat.zero_le _,rfl,by simpa[Rm.bO,av]using h⟩,?_⟩
 rintro w H ⟨i,C',hv,hi,rfl,hA⟩ gs
 simp only[List.cons.injEq,and_true]at hv
 subst hv
 have hok:=kO (m:=rm K S) (g:=gr) (l:=l.take i) hp (fun v hv=>List.mem_range.1 (hl.mem_iff.1 (List.mem_of_mem_take hv)))
 have hlt:(l.take i).length≤64:=by rw[List.length_take];omega
 have h1:=hok.len
 have h2:=hok.vH
 have h3:(rm K S).n*(l.take i).length≤64*64:=Nat.mul_le_mul hn hlt
 have h4:3*((rm K S).n-1)*(l.take i).length≤(3*64)*64:=Nat.mul_le_mul (Nat.mul_le_mul_left _ (by rw[uY];omega)) hlt
 have Po:=jl hp hok.mem
 refine ae.fu (Br.dec (fun hlt=>?_) (fun hge=>?_))
 ·have Tv:i<l.length:=by omega
  have lB:l.take (i+1)=l.take i++[l[i]]:=List.take_succ_eq_append_getElem Tv
  refine hQ.ld (x:=((l[i]:Nat):Int)) (cm (List.getElem?_eq_getElem Tv)) (fun _ h=>.tail _ (.tail _ (List.mem_append_left _ h))) ?_
  have U7:l[i]<K.n:=List.mem_range.1 (hl.mem_iff.1 (List.getElem_mem Tv))
  refine ag.fn (.cons (.cons (.app .here))) (Fx hA Po U7 gA (by rw[List.length_append];omega) rfl) ?_
  rintro w C2 ⟨rfl,kH⟩
  have xQ:=(rm K S).xz gr (ord:=av ord ((rm K S).bO gr ord (l.take i)).1) (LL Po U7)
  have AW:=xQ.vH
  rw[uY]at AW
  have Pm:=vK (m:=rm K S) (g:=gr) (v:=l[i]) (l:=l.take i) (ord:=ord)
  rw[←lB]at Pm
  rw[List.append_assoc,←df]at kH
  refine Ext.mk rfl (Ext.mk rfl ?_)
  intro b30 _
  refine St.whole (r:=[.int .i64 ((cS K S (av ord ((rm K S).bO gr ord (l.take i)).1):Nat):Int),.int .i64 ((cS K S (av (av ord ((rm K S).bO gr ord (l.take i)).1) (road ((av ord ((rm K S).bO gr ord (l.take i)).1).idxOf l[i]) ((rm K S).lY gr (av ord ((rm K S).bO gr ord (l.take i)).1) ((av ord ((rm K S).bO gr ord (l.take i)).1).idxOf l[i])).1)):Nat):Int),.int .i64 ((((rm K S).lY gr (av ord ((rm K S).bO gr ord (l.take i)).1) ((av ord ((rm K S).bO gr ord (l.take i)).1).idxOf l[i])).2:Nat):Int),.bool false]) (by exact .head _) rfl rfl (by simp[Value.oneCell']) ?_
  refine aa.mk (Ld.mk (by exact .tail _ (.head _)) rfl ?_)
  refine aa.mk (Ld.mk (by exact .head _) rfl ?_)
  refine ae.aN (by simp only[aE];omega) ?_
  refine aa.mk (St.one (c':=List.toArray [.int .i64 ((cS K S ord:Nat):Int),.int .i64 0,.int .i64 ((((rm K S).bO gr ord (l.take (i+1))).2:Nat):Int),.bool false]) (by exact .tail (.head _)) rfl (by simp) (by rw[Pm];rfl) ?_)
  refine ae.aN (b:=1) (by simp[aE];omega) ?_
  exact aC.of .tail ⟨i+1,C2,rfl,hlt,rfl,by rw[Pm];exact kH⟩ (by simp only[bK];omega)
 obtain rfl:i=K.n:=by omega
 rw[show l.take K.n=l from by rw[←mz];exact List.take_length]at hA⊢
 refine ag.rd (.cons (.cons (.app .here))) (gK hA) ?_
 rintro w rfl
 refine aa.mk (St.one (c':=List.toArray [.int .i64 ((cS K S ord:Nat):Int),.int .i64 ((cS K S (av ord ((rm K S).bO gr ord l).1):Nat):Int),.int .i64 ((((rm K S).bO gr ord l).2:Nat):Int),.bool false]) (by exact .head _) rfl (by simp) rfl ?_)
 refine aD.whole (r:=[.int .i64 ((cS K S ord:Nat):Int),.int .i64 ((cS K S (av ord ((rm K S).bO gr ord l).1):Nat):Int),.int .i64 ((((rm K S).bO gr ord l).2:Nat):Int),.bool false]) (by exact .head _) rfl ?_
 refine St.whole (r:=[.int .i64 ((cS K S ord:Nat):Int),.int .i64 ((cS K S (av ord ((rm K S).bO gr ord l).1):Nat):Int),.int .i64 ((((rm K S).bO gr ord l).2:Nat):Int),.bool false]) (by exact .tail (.head _)) rfl rfl (by simp[Value.oneCell']) ?_
 refine aD.whole (r:=[.int .i64 ((cS K S ord:Nat):Int),.int .i64 ((cS K S (av ord ((rm K S).bO gr ord l).1):Nat):Int),.int .i64 ((((rm K S).bO gr ord l).2:Nat):Int),.bool false]) (by exact .tail _ (.head _)) rfl ?_
 exact aB.mk (.skip (.skip .right)) ⟨l,hl,rfl,hA⟩
end
end Go.Proofs
set_option maxRecDepth 100000
namespace Go.Proofs
open Go Go.Sx
open aF
section
variable {kp v gr:Nat} {K:Kd} {S:Nat→aF.Fn} {ord tr:List Nat} {C:Hp}
theorem ru(h:At kp K S ord tr C)(hp:ord.Perm (List.range K.n))(gA:100≤gr∧gr≤1000)(je:tr.length<137438953472):
  Fc Tryz.prog 48 #[ptr kp,.int .i64 (gr:Int)] C (fun v H=>∃ls,(∀l∈ls,l.Perm (List.range K.n))∧(rm K S).tI gr ord ls∧v=.tuple #[rep (cS K S ord) (cS K S (av ord ((rm K S).cy gr ord ls).1)) ((rm K S).cy gr ord ls).2,.int .i64 ((ls.length:Nat):Int),.int .i64 0]∧At kp K S (av ord ((rm K S).cy gr ord ls).1) (tr++((rm K S).cy gr ord ls).1) H):=by
 have hn:=h.qA
 have hsz:=iZ h
 have uY:(rm K S).n=K.n:=rfl
 have wq:∀o,(rm K S).size o=cS K S o:=fun _=>rfl
 intro g
 refine Jf (R:=aB _) ?_
 unfold L48
 intro b1 _
 refine ag.rd (.cons .here) (oq kp (gr:=(gr:Int)) C) ?_
 rintro w rfl
 rw[if_neg (by omega)]
 refine ae.dh (Br.bt (by simp) ?_)
 refine ag.rd (.cons .here) (gK h) ?_
 rintro w rfl
 refine Build.mk (cs:=[.int .i64 ((cS K S ord:Nat):Int),.int .i64 0,.int .i64 0,.bool false]) (by kernel_rfl) ?_
 intro r8 _
 refine St.whole (r:=[.int .i64 ((cS K S ord:Nat):Int),.int .i64 0,.int .i64 0,.bool false]) (by exact .head _) rfl rfl (by simp[Value.oneCell']) ?_
 refine⟨fun vs H=>∃(ls:List (List Nat)) (af:Int) (C':Hp),vs=[.int .i64 ((ls.length+1:Nat):Int)]∧(∀l∈ls,l.Perm (List.range K.n))∧(rm K S).qN gr ord ls∧H=(r8,.cells (List.toArray [.int .i64 ((cS K S ord:Nat):Int),.int .i64 af,.int .i64 ((((rm K S).cy gr ord ls).2:Nat):Int),.bool false]) 42 (0,0))::(b1,.cells #[.int .i64 0,.int .i64 0,.int .i64 0,.bool false] 42 (0,0))::C'∧At kp K S (av ord ((rm K S).cy gr ord ls).1) (tr++((rm K S).cy gr ord ls).1) C',
  fun vs _=>cS K S ord+1-bK vs 0,JE.mk ⟨[],0,C,rfl,by simp,trivial,rfl,by simpa[Rm.cy,av]using h⟩,?_⟩
 rintro w H ⟨ls,af,C',hv,hls,hgd,rfl,hA⟩ gs
 simp only[List.cons.injEq,and_true]at hv
 subst hv
 obtain⟨g1,g2,g3,g4⟩:=wz hp hls hgd
 rw[uY]at g1 g3 g4
 rw[wq,wq]at g2
 have mz:ls.length≤1048576:=by omega
 have h3:3*(K.n-1)*K.n*ls.length≤(3*64*64)*1048576:=Nat.mul_le_mul (Nat.mul_le_mul (Nat.mul_le_mul_left _ (by omega)) hn) mz
 have h4:K.n*K.n*ls.length≤(64*64)*1048576:=Nat.mul_le_mul (Nat.mul_le_mul hn hn) mz
 have Po:=jl hp g1
 refine ag.fn (.cons (.cons .here)) (y4 hA Po gA (by rw[List.length_append];omega)) ?_
 rintro w C2 ⟨l,hl,rfl,kH⟩
 have hok:=kO (m:=rm K S) (g:=gr) (l:=l) Po (fun v hv=>List.mem_range.1 (hl.mem_iff.1 hv))
 have AW:=hok.vH
 have hlen:l.length=K.n:=by rw[hl.length_eq,List.length_range]
 have hle:=hok.le
 rw[uY,hlen]at AW
 rw[wq,wq]at hle
 have h5:3*(K.n-1)*K.n≤3*64*64:=Nat.mul_le_mul (Nat.mul_le_mul_left _ (by omega)) hn
 have Pm:=vL (m:=rm K S) (g:=gr) (l:=l) (ls:=ls) (ord:=ord)
 have LW:∀x∈ls++[l],x.Perm (List.range K.n):=fun x hx=>by
  rcases List.mem_append.1 hx with h|h
  ·exact hls x h
  ·rw[List.mem_singleton.1 h];exact hl
 rw[List.append_assoc,←df]at kH
 have hgo:=rH (m:=rm K S) (g:=gr) (l:=l) hgd
 have hge:=Ae (m:=rm K S) (g:=gr) (l:=l) hgd
 rw[wq,wq]at hgo hge
 generalize hx:(rm K S).bO gr (av ord ((rm K S).cy gr ord ls).1) l=x at*
 have e1:av (av ord ((rm K S).cy gr ord ls).1) x.1=av ord ((rm K S).cy gr ord (ls++[l])).1:=by rw[Pm,df]
 rw[e1]at hgo hge hle
 refine Ext.mk rfl (Ext.mk rfl ?_)
 intro Gq _
 refine St.whole (r:=[.int .i64 ((cS K S (av ord ((rm K S).cy gr ord ls).1):Nat):Int),.int .i64 ((cS K S (av (av ord ((rm K S).cy gr ord ls).1) x.1):Nat):Int),.int .i64 ((x.2:Nat):Int),.bool false]) (by exact .head _) rfl rfl (by simp[Value.oneCell']) ?_
 refine aa.mk (Ld.mk (by exact .tail _ (.head _)) rfl ?_)
 refine aa.mk (Ld.mk (by exact .head _) rfl ?_)
 refine ae.aN (by simp only[aE];omega) ?_
 refine aa.mk (St.one (c':=List.toArray [.int .i64 ((cS K S ord:Nat):Int),.int .i64 af,.int .i64 ((((rm K S).cy gr ord (ls++[l])).2:Nat):Int),.bool false]) (by exact .tail (.head _)) rfl (by simp) (by rw[Pm];rfl) ?_)
 refine aa.mk (Ld.mk (by exact .head _) rfl ?_)
 refine aa.mk (St.one (c':=List.toArray [.int .i64 ((cS K S ord:Nat):Int),.int .i64 ((cS K S (av ord ((rm K S).cy gr ord (ls++[l])).1):Nat):Int),.int .i64 ((((rm K S).cy gr ord (ls++[l])).2:Nat):Int),.bool false]) (by exact .tail (.head _)) rfl (by simp) (by rw[←e1];rfl) ?_)
 refine aa.mk (Ld.mk (by exact .head _) rfl ?_)
 refine aa.mk (Ld.mk (by exact .head _) rfl ?_)
 rw[e1]
 refine ae.rG (Br.dec (fun ahN=>?_) (fun hlt=>?_))
 ·refine aD.whole (r:=[.int .i64 ((cS K S ord:Nat):Int),.int .i64 ((cS K S (av ord ((rm K S).cy gr ord (ls++[l])).1):Nat):Int),.int .i64 ((((rm K S).cy gr ord (ls++[l])).2:Nat):Int),.bool false]) (by exact .tail _ (.head _)) rfl ?_
  refine St.whole (r:=[.int .i64 ((cS K S ord:Nat):Int),.int .i64 ((cS K S (av ord ((rm K S).cy gr ord (ls++[l])).1):Nat):Int),.int .i64 ((((rm K S).cy gr ord (ls++[l])).2:Nat):Int),.bool false]) (by exact .tail (.tail (.head _))) rfl rfl (by simp[Value.oneCell']) ?_
  refine aD.whole (r:=[.int .i64 ((cS K S ord:Nat):Int),.int .i64 ((cS K S (av ord ((rm K S).cy gr ord (ls++[l])).1):Nat):Int),.int .i64 ((((rm K S).cy gr ord (ls++[l])).2:Nat):Int),.bool false]) (by exact .tail _ (.tail _ (.head _))) rfl ?_
  exact aB.mk (.skip (.skip .tail)) ⟨ls++[l],LW,hge (by omega),by rw[List.length_append];rfl,by rw[Pm];exact kH⟩
 ·refine ae.aN (b:=1) (by simp only[aE];omega) ?_
  refine aC.of .tail ⟨ls++[l],_,C2,by rw[List.length_append];rfl,LW,hgo (by omega),rfl,by rw[Pm];exact kH⟩ ?_
  simp only[bK];omega
end
section
variable {Y:Hp}
theorem sN{a v gw:Nat}{sv oG:Value}{ops:List uK}{l:List Nat}(ha:a<256)(hv:v<256)(WX:gw<256)(hs:Sl 6 Y sv (ops.map uK.cells))(ho:∀o∈ops,o.Ok)(ca:ops.length<9223372036854775808)(hl:cX .u8 Y oG (iw l))(h8:∀x∈l,x<256)(Vb:l.length<9223372036854775808)(hYn:(Y.map Prod.fst).Nodup):
  Rd Tryz.prog 8 #[.int .u8 (a:Int),sv,oG,.int .u8 (v:Int),.int .u8 (gw:Int)] Y (· =.bool true):=by
 intro g
 refine Nz (R:=aB _) ?_
 unfold L8
 refine aY.nat (by simp[aE];omega) ?_
 refine ae.rY (b:=6) (by decide) ?_
 have hn6:=Nat.mod_lt a (show 0<6 by decide)
 refine ae.aN (a:=1) (by simp[aE];omega) ?_
 obtain⟨n,hn⟩:∃n,n=1+a%6:=⟨_,rfl⟩
 rw[←hn]
 refine ag.fn .here (Mz (n:=n) ⟨by omega,by omega⟩ hs ho ca) ?_
 intro w H gA
 obtain⟨gb,kp,K,S,refs,fs,vr,vf,Z0,C0,rfl,rfl,hYZ,NS,hg,Zp,rfl,hcap,FX,FW⟩:=gA.gz
 have PM:1≤K.n:=by omega
 have Ij:K.n≤6:=by omega
 have uY:(rm K S).n=K.n:=rfl
 have wq:∀o,(rm K S).size o=cS K S o:=fun _=>rfl
 have hne:refs≠[]:=fun e=>by rw[e]at FX;simp at FX;omega
 refine ae.aH (Br.no ?_)
 refine DR.of (R:=[gm gb kp K.n vr vf]) (aU.BB (List.mem_append_left _ NS.cell)) ?_
 refine Nil.ptr (aa.mk (Ld.mk (v:=ptr kp) (by exact .head _) rfl ?_))
 intro F
 refine ag.fn .here (G4 (n:=K.n) (by omega) (B:=Z0++C0) (hl.mono fun _ h=>List.mem_append_left _ (hYZ _ h)) h8 Vb) ?_
 rintro w H ⟨p,N,rfl,hp,hN⟩
 rw[←List.append_assoc]
 have LN:GZ gb kp K.n vr vf refs fs (N++Z0):=NS.mono fun _ h=>List.mem_append_right _ h
 have hv7:cX .i64 (N++Z0) w (iw p):=hN.ints.mono fun _ h=>List.mem_append_left _ h
 have Xq:∀x∈Y,x∈N++Z0:=fun x hx=>List.mem_append_right _ (hYZ x hx)
 generalize N++Z0=Z at*
 clear hN NS hYZ
 have tw:p.length=K.n:=by rw[hp.length_eq,List.length_range]
 have Ww:p.Nodup:=hp.nodup_iff.2 List.nodup_range
 refine⟨aU.BB (List.mem_append_left _ LN.cell),?_⟩
 intro F
 refine ag.fn .here (Lc Zp hv7 (.refl _) hp (by simp)) ?_
 rintro w2 H ⟨C1,rfl,hM⟩
 obtain⟨Wy,Rb⟩:=FI Ww ((List.Perm.refl (List.range K.n)).trans hp.symm)
 have hcan:=yd hg Ij PM hcap (by omega) (List.Perm.refl (List.range K.n)) (ls:=path (List.range K.n) p) (fun x hx=>by have:=Rb x hx;rw[List.length_range]at this;exact this)
 rcases hM with⟨_,rfl,Ik⟩|⟨h0,_,_⟩
 rotate_left
 ·rw[hcan]at h0;cases h0
 rw[Wy,List.nil_append]at Ik
 have abv:(path (List.range K.n) p).length≤4096:=by
  have:=nj Ww ((List.Perm.refl (List.range K.n)).trans hp.symm) p.length (Nat.le_refl _)
  have h2:p.length*(List.range K.n).length≤64*64:=Nat.mul_le_mul (by omega) (by rw[List.length_range];omega)
  unfold path;omega
 generalize path (List.range K.n) p=NO at*
 refine⟨aU.BB (List.mem_append_left _ LN.cell),?_⟩
 refine Ext.mk rfl (Ext.mk rfl ?_)
 refine aY.nat (by simp[aE];omega) ?_
 refine ae.rY (by omega) ?_
 have U7:=Nat.mod_lt v (show 0<K.n by omega)
 generalize v%K.n=x at*
 refine Nil.ptr (aa.mk (Ld.mk (v:=ptr kp) (by exact List.mem_append_left _ LN.cell) rfl ?_))
 refine ag.fn (.app .here) (KQ Ik (v:=x) U7 (by omega) fun q hq hqx=>⟨yd hg Ij PM hcap (by omega) hp (fun y hy=>l6 hq (by omega) hy),yd hg Ij PM hcap (by omega) hp (fun y hy=>l6 hq (by omega) hy)⟩) ?_
 rintro w3 H ⟨q,s,CS,C2,hq,hqx,rfl,rfl,hCS,kH⟩
 rw[←List.append_assoc]
 refine Ext.mk rfl (Ext.mk rfl ?_)
 have Xp:∀y∈Y,y∈Z++CS:=fun y hy=>List.mem_append_left _ (Xq y hy)
 have HS:GZ gb kp K.n vr vf refs fs (Z++CS):=LN.mono fun _ h=>List.mem_append_left _ h
 have hsz:cX .i64 (Z++CS) s (iw ((rm K S).sizes p q)):=hCS.ints.mono fun _ h=>List.mem_append_right _ h
 clear LN hv7 hCS Xq
 generalize Z++CS=Z2 at*
 obtain⟨sz,S6⟩:∃sz,sz=(rm K S).sizes p q:=⟨_,rfl⟩
 rw[←S6]at hsz
 have abh:sz.length=K.n:=by rw[S6];unfold Rm.sizes;rw[List.length_map,List.length_range];rfl
 have LQ:∀j,j<K.n→sz[j]? =some (cS K S (av p (road q j))):=fun j hj=>by
  rw[S6];unfold Rm.sizes
  rw[List.getElem?_map,List.getElem?_range (show j<(rm K S).n from hj)]
  show some ((rm K S).uQ p q j)=_
  rw[G5 (rm K S) hq hj];rfl
 have cG:∀j,j<K.n→(av p (road q j)).Perm (List.range K.n):=fun j hj=>jl hp (FA (m:=rm K S) hq hj)
 have Po:=K7 hp hq hqx
 refine Nil.ptr (aa.mk (Ld.mk (v:=ptr kp) (by exact List.mem_append_left _ HS.cell) rfl ?_))
 refine ag.fn (.app .here) (Fx (gr:=1000) kH hp U7 (by decide) (by omega) rfl) ?_
 rintro w C3 ⟨rfl,uJ⟩
 rw[Po]at uJ⊢
 have xQ:=(rm K S).xz 1000 (ord:=p) (p:=q) hq
 have hfull:=fun(A:Nat)=>(rm K S).He (g:=1000) (A:=A) (ord:=p) (p:=q) hq (fun i hi l hl qh=>l7.2 (zz hg Ij PM hcap (by omega) (cG i hi) qh))
 obtain⟨t1,t2,t3,t4⟩:=xQ
 rw[uY]at t1 t4
 rw[wq,wq]at t2
 generalize (rm K S).lY 1000 p q=r at*
 have BO:=cG r.1 t1
 have hmv:=(Lm (ord:=p) (p:=q) (by omega) _ r.1 rfl (by omega)).1
 rw[hqx]at hmv
 have yF:=jZ q r.1
 have aiz:(NO++road q r.1).length≤4200:=by rw[List.length_append];omega
 have S7:=LQ r.1 t1
 obtain⟨o2,o7⟩:∃o2,o2=av p (road q r.1):=⟨_,rfl⟩
 rw[←o7]at uJ BO hmv S7 t2 hfull⊢
 generalize NO++road q r.1=G3 at*
 refine Ext.mk rfl (Ext.mk rfl ?_)
 intro Gn _
 refine St.whole (r:=[.int .i64 ((cS K S p:Nat):Int),.int .i64 ((cS K S o2:Nat):Int),.int .i64 ((r.2:Nat):Int),.bool false]) (by exact .head _) rfl rfl (by simp[Value.oneCell']) ?_
 obtain⟨RD,Py⟩:∃c:Nat×Obj,c=(Gn,Obj.cells (List.toArray [.int .i64 ((cS K S p:Nat):Int),.int .i64 ((cS K S o2:Nat):Int),.int .i64 ((r.2:Nat):Int),.bool false]) 42 (0,0)):=⟨_,rfl⟩
 rw[←Py,←List.cons_append]
 have SU:GZ gb kp K.n vr vf refs fs (RD::Z2):=HS.mono fun _ h=>.tail _ h
 have Pk:cX .i64 (RD::Z2) s (iw sz):=hsz.mono fun _ h=>.tail _ h
 have zO:RD∈RD::Z2:=.head _
 have aco:∀y∈Y,y∈RD::Z2:=fun y hy=>.tail _ (Xp y hy)
 generalize RD::Z2=Z3 at*
 clear HS hsz Xp
 refine ae.dh ?_
 rw[decide_eq_false (by simp)]
 refine bX.or (a:=false) false (fun _=>ae.dh ⟨rfl,by simp⟩) rfl fun gs=>?_
 refine bX.or (a:=false) false (fun _=>ae.dh ⟨rfl,by simp⟩) rfl fun gs=>Br.no ?_
 have ld0:∀{kk:Value→Prop} {Zx Cx:Hp},RD∈Zx→kk (.int .i64 ((cS K S p:Nat):Int))→Ld (Zx++Cx) (.pointer (some ⟨Gn,0,none⟩)) kk:=fun h hk=>Ld.mk (by exact List.mem_append_left _ (Py▸h)) rfl hk
 have HJ:∀{kk:Value→Prop} {Zx Cx:Hp},RD∈Zx→kk (.int .i64 ((cS K S o2:Nat):Int))→Ld (Zx++Cx) (.pointer (some ⟨Gn,1,none⟩)) kk:=fun h hk=>Ld.mk (by exact List.mem_append_left _ (Py▸h)) rfl hk
 refine aa.mk (ld0 zO ?_)
 refine aa.mk (ld0 zO ?_)
 have abg:sz[q]? =some (cS K S p):=by have:=LQ q hq;rw[cQ]at this;exact this
 refine⟨fun vs H=>∃(i lo hi:Nat),vs=[.int .i64 (lo:Int),.int .i64 (hi:Int),.int .i64 (i:Int)]∧i≤K.n∧H=Z3++C3∧lo≤cS K S p∧cS K S p≤hi∧(∀j y,j<i→sz[j]? =some y→lo≤y∧y≤hi)∧∃j,j<K.n∧sz[j]? =some lo,fun vs _=>K.n-bK vs 2,
  JE.mk ⟨0,_,_,rfl,Nat.zero_le _,rfl,Nat.le_refl _,Nat.le_refl _,fun j y hj=>absurd hj (Nat.not_lt_zero _),q,hq,abg⟩,?_⟩
 rintro UX QE RO H ⟨i,lo,hi,yE,zR,rfl,hlo,hhi,aJ,jm,Vf,FZ⟩ gs
 simp only[List.cons.injEq,and_true]at yE
 obtain⟨rfl,rfl,rfl⟩:=yE
 refine Pk.bQ ?_
 rw[an,abh]
 refine ae.fu (Br.dec (fun hlt=>?_) (fun hge=>?_))
 ·obtain⟨y,hy⟩:∃y,sz[i]? =some y:=⟨_,LQ i hlt⟩
  refine Pk.ld (n:=(y:Int)) (cm hy) (fun _ h=>List.mem_append_left _ h) ?_
  refine⟨_,_,_,rfl,rfl,?_⟩
  refine Pk.ld (n:=(y:Int)) (cm hy) (fun _ h=>List.mem_append_left _ h) ?_
  refine⟨_,_,_,rfl,rfl,?_⟩
  refine ae.aN (b:=1) (by simp[aE];omega) ?_
  refine aC.mk ⟨i+1,if y<lo then y else lo,if hi<y then y else hi,?_,hlt,rfl,?_,?_,?_,?_⟩ (by simp only[bK];omega)
  ·congr 2
   ·split<;>split<;>first|rfl|omega
   ·congr 1
    split<;>split<;>first|rfl|omega
  ·split<;>omega
  ·split<;>omega
  ·intro j z hj hz
   by_cases e:j=i
   ·subst e
    rw[hy]at hz;cases hz
    constructor<;>split<;>omega
   ·have:=aJ j z (by omega) hz
    constructor<;>split<;>omega
  ·by_cases e:y<lo
   ·rw[if_pos e];exact⟨i,hlt,hy⟩
   ·rw[if_neg e];exact⟨jm,Vf,FZ⟩
 obtain rfl:i=K.n:=by omega
 have ae8:=iZ kH
 have Tn:∀j,j<K.n→lo≤cS K S (av p (road q j))∧cS K S (av p (road q j))≤hi:=fun j hj=>aJ j _ hj (LQ j hj)
 refine ae.rZ (a:=10) (by simp only[aE];omega) ?_
 refine ae.AU ?_
 have Xi:hi≤10*lo→cS K S o2=lo:=fun h10=>by
  have h1:=hfull lo (fun i hi=>(Tn i hi).1) (fun i zR=>by have:=(Tn i zR).2;show cS K S _*100≤_;omega) jm Vf
  rw[wq,wq]at h1
  have h2:=LQ jm Vf
  rw[FZ]at h2
  have h3:lo=cS K S (av p (road q jm)):=by simpa using h2
  have h4:=(Tn r.1 t1).1
  rw[←o7]at h4
  omega
 refine bX.and (a:=decide (hi≤10*lo)) (decide (cS K S o2≠lo)) (fun _=>?_) rfl fun gs=>?_
 ·refine aa.mk (HJ zO ?_)
  exact ae.yB ⟨rfl,rfl⟩
 refine Br.U5 ?_ ?_
 ·by_cases h10:hi≤10*lo
  ·rw[Xi h10];simp
  ·rw[decide_eq_false h10];rfl
 refine Nil.ptr (aa.mk (Ld.mk (v:=ptr kp) (by exact List.mem_append_left _ SU.cell) rfl ?_))
 refine ag.rd (.app .here) (tV uJ U7) ?_
 rintro w75 ⟨p2,oI,abx,rfl⟩
 obtain rfl:p2=r.1:=getD_inj (BO.nodup_iff.2 List.nodup_range) (by rw[BO.length_eq,List.length_range];exact oI) (by rw[BO.length_eq,List.length_range];exact t1) (abx.trans hmv.symm)
 refine Ext.mk rfl (Ext.mk rfl ?_)
 intro Uy h79
 have good:Uy [.bool false] (Z3++C3):=by
  refine h79 _ _ fun gs=>Br.no ?_
  have BR:100≤100+gw∧100+gw≤1000:=by omega
  refine Nil.ptr (aa.mk (Ld.mk (v:=ptr kp) (by exact List.mem_append_left _ SU.cell) rfl ?_))
  refine aY.nat (by simp[aE];omega) ?_
  refine ae.aN (a:=100) (by simp[aE];omega) ?_
  refine ag.fn (.app .here) (y4 (gr:=100+gw) uJ BO BR (by omega)) ?_
  rintro w C4 ⟨l1,vb,rfl,Oa⟩
  have abP:l1.length=K.n:=by rw[vb.length_eq,List.length_range]
  have abA:=kO (m:=rm K S) (g:=100+gw) (l:=l1) BO (fun v hv=>List.mem_range.1 (vb.mem_iff.1 hv))
  generalize (rm K S).bO (100+gw) o2 l1=x1 at*
  obtain⟨u1,u2,u3,u4,u5⟩:=abA
  rw[uY,abP]at u5
  rw[uY]at u1
  rw[wq,wq]at u2
  have Tj:=jl BO u1
  have abQ:K.n*K.n≤36:=Nat.mul_le_mul Ij Ij
  have ahf:(G3++x1.1).length≤4300:=by rw[List.length_append];omega
  generalize G3++x1.1=QI at*
  generalize av o2 x1.1=o3 at*
  refine Ext.mk rfl (Ext.mk rfl ?_)
  intro Vs _
  refine St.whole (r:=[.int .i64 ((cS K S o2:Nat):Int),.int .i64 ((cS K S o3:Nat):Int),.int .i64 ((x1.2:Nat):Int),.bool false]) (by exact .head _) rfl rfl (by simp[Value.oneCell']) ?_
  refine Nil.ptr (aa.mk (Ld.mk (v:=ptr kp) (by exact .tail _ (List.mem_append_left _ SU.cell)) rfl ?_))
  refine aY.nat (by simp[aE];omega) ?_
  refine ae.aN (a:=100) (by simp[aE];omega) ?_
  refine ag.fn (.cons (.app .here)) (ru (gr:=100+gw) Oa Tj BR (by omega)) ?_
  rintro w C5 ⟨ls,hls,hgn,rfl,Zo⟩
  have abz:=Fz Tj hls hgn
  generalize (rm K S).cy (100+gw) o3 ls=x2 at*
  obtain⟨q1,q2,q3,q4,q5,q6⟩:=abz
  rw[uY]at q6 q1 q4
  rw[wq,wq]at q2 q3
  have abB:=jl Tj q1
  have ahh:=iZ Oa
  have xX:K.n*K.n*ls.length≤36*1048576:=Nat.mul_le_mul abQ (by omega)
  have ahe:(QI++x2.1).length≤100000000:=by rw[List.length_append];omega
  generalize QI++x2.1=tr4 at*
  generalize av o3 x2.1=o4 at*
  refine Ext.mk rfl (Ext.mk rfl (Ext.mk rfl ?_))
  intro IG _
  refine St.whole (r:=[.int .i64 ((cS K S o3:Nat):Int),.int .i64 ((cS K S o4:Nat):Int),.int .i64 ((x2.2:Nat):Int),.bool false]) (by exact .head _) rfl rfl (by simp[Value.oneCell']) ?_
  refine Nil.ptr (aa.mk (Ld.mk (v:=ptr kp) (by exact .tail _ (.tail _ (List.mem_append_left _ SU.cell))) rfl ?_))
  refine aY.nat (by simp[aE];omega) ?_
  refine ae.aN (a:=100) (by simp[aE];omega) ?_
  refine ag.fn (.cons (.cons (.app .here))) (ru (gr:=100+gw) Zo abB BR (by omega)) ?_
  rintro w C6 ⟨ls2,abM,abZ,rfl,TX⟩
  obtain⟨abO,hx3⟩:=Ad abM q4 abZ
  generalize (rm K S).cy (100+gw) o4 ls2=x3 at*
  rw[hx3,List.append_nil]at TX
  rw[hx3]
  have TX:At kp K S o4 tr4 C6:=TX
  refine Ext.mk rfl (Ext.mk rfl (Ext.mk rfl ?_))
  intro Qg _
  refine St.whole (r:=[.int .i64 ((cS K S o4:Nat):Int),.int .i64 ((cS K S o4:Nat):Int),.int .i64 ((x3.2:Nat):Int),.bool false]) (by exact .head _) rfl rfl (by simp[Value.oneCell']) ?_
  have m0:∀{kk:Value→Prop} {A:Hp},kk (.int .i64 ((cS K S o2:Nat):Int))→Ld (A++(Z3++C6)) (.pointer (some ⟨Gn,1,none⟩)) kk:=fun hk=>Ld.mk (by exact List.mem_append_right _ (List.mem_append_left _ (Py▸zO))) rfl hk
  refine ae.dh ?_
  rw[decide_eq_false (by simp)]
  refine bX.or (a:=false) false (fun _=>ae.dh ⟨rfl,by simp⟩) rfl fun gs=>?_
  refine bX.or (a:=false) false (fun _=>ae.dh ⟨rfl,by simp⟩) rfl fun gs=>?_
  refine bX.or (a:=false) false (fun _=>?_) rfl fun gs=>?_
  ·refine aa.mk (Ld.mk (by exact .tail _ (.tail _ (.head _))) rfl ?_)
   refine aa.mk (m0 (A:=[_,_,_]) ?_)
   exact ae.yB ⟨rfl,by simp⟩
  refine bX.or (a:=false) false (fun _=>?_) rfl fun gs=>?_
  ·refine aa.mk (Ld.mk (by exact .tail _ (.tail _ (.head _))) rfl ?_)
   refine aa.mk (Ld.mk (by exact .tail _ (.tail _ (.head _))) rfl ?_)
   exact ae.lP ⟨rfl,by simp;omega⟩
  refine bX.or (a:=false) false (fun _=>?_) rfl fun gs=>?_
  ·refine aa.mk (Ld.mk (by exact .tail _ (.head _)) rfl ?_)
   refine aa.mk (Ld.mk (by exact .tail _ (.tail _ (.head _))) rfl ?_)
   exact ae.yB ⟨rfl,by simp⟩
  refine bX.or (a:=false) false (fun _=>?_) rfl fun gs=>Br.no ?_
  ·refine aa.mk (Ld.mk (by exact .tail _ (.head _)) rfl ?_)
   refine aa.mk (Ld.mk (by exact .tail _ (.head _)) rfl ?_)
   exact ae.lP ⟨rfl,by simp;omega⟩
  intro E7 acW
  refine DR.self ?_
  refine ae.rG (b:=1) (Br.eU (by omega) ?_)
  refine ae.gn (b:=1) (az.mk ?_)
  refine Br.JY (by simpa using abO) ?_
  refine aa.mk (Ld.mk (by exact .head _) rfl ?_)
  refine aa.mk (Ld.mk (by exact .tail _ (.head _)) rfl ?_)
  refine ae.gn (az.mk (Br.JY (by simp) ?_))
  refine aa.mk (Ld.mk (by exact .head _) rfl ?_)
  refine Nil.ptr (aa.mk (Ld.mk (v:=ptr kp) (by exact .tail _ (.tail _ (.tail _ (List.mem_append_left _ SU.cell)))) rfl ?_))
  intro F
  refine ag.rd (.cons (.cons (.cons (.app .here)))) (gK TX) ?_
  rintro w rfl
  refine⟨.refl _,?_⟩
  refine ae.gn (az.mk (Br.JY (by simp) ?_))
  intro F
  rw[←List.cons_append,←List.cons_append,←List.cons_append]
  refine ag.px .here (P8 (SU.mono fun _ h=>.tail _ (.tail _ (.tail _ h))) hg TX (by omega) (by omega) hne) ?_
  rintro w N7 rfl
  refine az.mk (JE.mk (acW _ _ fun gs=>?_))
  exact cw.mk (.sub hYn fun x hx=>List.mem_append_right _ (List.mem_append_left _ (.tail _ (.tail _ (.tail _ (aco x hx)))))) rfl
 refine DR.self ?_
 refine ae.dh (Br.bt (by simp) ?_)
 refine Pk.ld (n:=((cS K S o2:Nat):Int)) (cm S7) (fun _ h=>List.mem_append_left _ h) ?_
 refine aa.mk (HJ zO ?_)
 refine ae.yB (az.mk (Br.U5 (by simp) ?_))
 refine aa.mk (HJ zO ?_)
 refine Nil.ptr (aa.mk (Ld.mk (v:=ptr kp) (by exact List.mem_append_left _ SU.cell) rfl ?_))
 intro F
 refine ag.rd (.app .here) (gK uJ) ?_
 rintro w rfl
 refine⟨.refl _,?_⟩
 refine ae.yB (az.mk (Br.U5 (by simp) ?_))
 refine aa.mk (HJ zO ?_)
 refine aa.mk (ld0 zO ?_)
 refine ae.lP (az.mk ?_)
 rw[decide_eq_false (by omega)]
 exact JE.mk good
end
end Go.Proofs
