import Derived.Test.YtfgkdmbicjdeoaaGreatG4
import Derived.Test.YtfgkdmbicjdeoaaGreatG2
import Derived.Test.YtfgkdmbicjdeoaaGreatG3
import Derived.Test.YtfgkdmbicjdeoaaGreatG1
import Derived.Deep.Slices
import Derived.SizedLaws
set_option linter.unusedVariables false
set_option linter.unusedSimpArgs false
set_option linter.unusedSectionVars false
set_option maxRecDepth 100000
namespace Go.Proofs
open Go Go.Sx
open aE
section
variable {kp gb n:Nat} {vr vf:Value} {refs:List Nat} {fs:List (List Nat)} {K:Kd} {S:Nat→aE.Fn} {ord ah tr:List Nat} {C B M G:Hp}
theorem uC(hG:lz gb kp K.n vr vf refs fs M G)(hg:sO K S refs fs)(hK:cF kp K S ord ah tr C)(hn:K.n≤16)(hm:refs.length<1048576){a:Nat}(ha:a<256):
  PxL Tryz.prog 126 #[ptr gb,.int .u8 (a:Int)] M G (fun w H=>∃r t,w=.tuple #[u32 r,t]∧live K.N r∧dn H t K.n (S r)):=by
 have hint:=hK.ok.mid.int
 intro g
 refine BD (R:=az _) ?_
 unfold L126
 intro b1 _
 refine aW.nat (by simp[aB];omega) ?_
 refine Nil.ptr (aa.mk (Ld.mk (v:=vr) (by exact .tail _ (List.mem_append_right _ hG.cell)) rfl ?_))
 refine hG.rf.bS ?_
 rw[aq]
 refine ae.aK (b:=2) (by simp[aB];omega) ?_
 refine ae.pD (by omega) ?_
 have hlt:=Nat.mod_lt a (show 0<refs.length+2 by omega)
 generalize a%(refs.length+2)=i at*
 refine ae.fq (b:=2) (Br.dec (fun h2=>?_) (fun h2=>?_))
 ·refine Nil.ptr (aa.mk (Ld.mk (v:=.int .i64 (K.n:Int)) (by exact .tail _ (List.mem_append_right _ hG.cell)) rfl ?_))
  refine ae.fO (b:=1) ?_
  refine ag.px (.cons .left) (sV hn (decide (i=1)) M) ?_
  rintro w N ⟨v,rfl,ws,⟨s,rfl,hw⟩,hf,he⟩
  refine Ext.mk rfl (Ext.mk rfl ?_)
  intro LN _
  have h1:∀x∈[Value.int .i64 (K.n:Int),s],x.oneCell'=true:=by have:=aO hw;simpa[Value.oneCell']using this
  refine St.whole (r:=[.int .i64 (K.n:Int),s]) (by exact .head _) rfl rfl h1 ?_
  refine DR.self ?_
  refine aW.nat (by simp[aB];omega) ?_
  refine aC.whole (r:=[.int .i64 (K.n:Int),s]) (by exact .head _) rfl ?_
  refine St.whole (r:=[.int .i64 (K.n:Int),s]) (by exact .tail (.head _)) rfl rfl h1 ?_
  refine aC.whole (r:=[.int .i64 (K.n:Int),s]) (by exact .tail _ (.head _)) rfl ?_
  refine az.here ⟨_::_::(N++M),rfl,.cons (.cons (.app (.refl _))),i,_,rfl,.inl h2,ws,⟨s,rfl,hw.mono (fun _ h=>by repeat (first|exact h|apply List.mem_cons_of_mem|apply List.mem_append_right))⟩,hf,he.trans ?_⟩
  have:i=0∨i=1:=by omega
  rcases this with rfl|rfl
  ·exact funext fun x=>(hint.zero x).symm
  ·exact funext fun x=>(hint.one x).symm
 ·refine DR.self ?_
  refine Nil.ptr (aa.mk (Ld.mk (v:=vr) (by exact .tail _ (List.mem_append_right _ hG.cell)) rfl ?_))
  refine ae.bJ (b:=2) (by simp[aB];omega) (by omega) ?_
  have hi:i-2<refs.length:=by omega
  refine hG.rf.ld (n:=((refs.getD (i-2) 0:Nat):Int)) (bc hi) (fun _ h=>.tail _ (List.mem_append_right _ h)) ?_
  refine Nil.ptr (aa.mk (Ld.mk (v:=vf) (by exact .tail _ (List.mem_append_right _ hG.cell)) rfl ?_))
  refine ae.bJ (b:=2) (by simp[aB];omega) (by omega) ?_
  have hi':i-2<fs.length:=by rw[←hg.len];exact hi
  have e':fs.getD (i-2) []=fs[i-2]:=by rw[List.getD_eq_getElem?_getD,List.getElem?_eq_getElem hi'];rfl
  obtain⟨rs,hSl,hE⟩:=hG.fn
  obtain⟨row,hrow,s,rfl,hw⟩:=hE.get (i:=i-2) (x:=⟨K.n,fs[i-2]⟩) (by rw[List.getElem?_map,List.getElem?_eq_getElem hi'];rfl)
  refine ai.sl hSl hrow fun p hp=>?_
  refine aC.at hp rfl (by decide) (fun _ h=>.tail _ (List.mem_append_right _ h)) ?_
  have h1:∀x∈[Value.int .i64 (K.n:Int),s],x.oneCell'=true:=by have:=aO hw;simpa[Value.oneCell']using this
  refine St.whole (r:=[.int .i64 (K.n:Int),s]) (by exact .head _) rfl rfl h1 ?_
  refine aC.whole (r:=[.int .i64 (K.n:Int),s]) (by exact .head _) rfl ?_
  obtain⟨kQ,h3⟩:=hg.is (i-2) hi
  have hmem:refs.getD (i-2) 0∈refs:=by rw[List.getD_eq_getElem?_getD,List.getElem?_eq_getElem hi];exact List.getElem_mem hi
  exact az.here ⟨_::M,rfl,.cons (.refl _),refs.getD (i-2) 0,_,rfl,hg.live hK hmem,fs[i-2],⟨s,rfl,hw.mono (fun _ h=>by repeat (first|exact h|apply List.mem_cons_of_mem|apply List.mem_append_right))⟩,hg.oJ _ (List.getElem_mem hi'),by rw[←e'];exact h3⟩
def NX(k v x:Nat)(f h i:aE.Fn):aE.Fn:=match k with
 |0=>fun y=>y.testBit v
 |1=>fun y=> !f y
 |2=>fun y=>D4 (x%16) (f y) (h y)
 |3=>fun y=>D4 (x%16) (f y) (h y)
 |4=>fun y=>if f y then h y else i y
 |5=>fun y=>f (aD.aI y v (decide (x%2=1)))
 |6=>fun y=>D4 14 (f (aD.aI y v false)) (f (aD.aI y v true))
 |7=>fun y=>D4 8 (f (aD.aI y v false)) (f (aD.aI y v true))
 |_=>fun y=>if h y then f (aD.aI y v true)else f (aD.aI y v false)
structure r6 where
 k:Nat
 v:Nat
 a:Nat
 b:Nat
 c:Nat
 x:Nat
structure r6.Ok(o:r6):Prop where
 k:o.k<256
 v:o.v<256
 a:o.a<256
 b:o.b<256
 c:o.c<256
 x:o.x<18446744073709551616
def r6.cells(o:r6):List Value:=[.int .u8 (o.k:Int),.int .u8 (o.v:Int),.int .u8 (o.a:Int),.int .u8 (o.b:Int),.int .u8 (o.c:Int),.int .u64 (o.x:Int)]
set_option maxHeartbeats 1000000 in
theorem Gx(hG:lz gb kp K.n vr vf refs fs M G)(hn:K.n≤16)(y4:1≤K.n){o:r6}(ho:o.Ok){ft ht it:Value}{f h i:aE.Fn}(hf:dn M ft K.n f)(hh:dn M ht K.n h)(hi:dn M it K.n i):
  PxL Tryz.prog 127 #[ptr gb,.agg o.cells.toArray,ft,ht,it] M G (fun w H=>∃t,w=.tuple #[t,.int .i64 0]∧dn H t K.n (NX (o.k%9) (o.v%K.n) o.x f h i)):=by
 obtain⟨ws,⟨s1,rfl,hw⟩,hwf,rfl⟩:=hf
 obtain⟨us,⟨s2,rfl,hu⟩,huf,rfl⟩:=hh
 obtain⟨rs,⟨s3,rfl,hr⟩,hrf,rfl⟩:=hi
 intro g
 refine BC (R:=az _) ?_
 unfold L127
 intro b1 _ b3 _ b5 _ b7 _ b9 _
 refine aa.mk (Ld.mk (v:=.int .u8 (o.v:Int)) (by exact .tail _ (.tail _ (.tail _ (.tail _ (.head _))))) rfl ?_)
 refine aW.nat (by have:=ho.v;simp[aB];omega) ?_
 refine Nil.ptr (aa.mk (Ld.mk (v:=.int .i64 (K.n:Int)) (by exact .tail _ (.tail _ (.tail _ (.tail _ (.tail _ (List.mem_append_right _ hG.cell)))))) rfl ?_))
 refine ae.pD (by omega) ?_
 have hv:=Nat.mod_lt o.v (show 0<K.n by omega)
 generalize o.v%K.n=v at*
 refine Nil.ptr (aa.mk (Ld.mk (v:=.int .i64 (K.n:Int)) (by exact .tail _ (.tail _ (.tail _ (.tail _ (.tail _ (List.mem_append_right _ hG.cell)))))) rfl ?_))
 obtain⟨B1,FP⟩:∃B1:Hp,B1=(b7,Obj.cells #[.int .i64 (K.n:Int),s3] 57 (0,0))::(b5,.cells #[.int .i64 (K.n:Int),s2] 57 (0,0))::(b3,.cells #[.int .i64 (K.n:Int),s1] 57 (0,0))::(b1,.cells o.cells.toArray 106 (0,0))::M:=⟨_,rfl⟩
 have m7:(b7,Obj.cells #[.int .i64 (K.n:Int),s3] 57 (0,0))∈B1:=by rw[FP];exact .head _
 have m5:(b5,Obj.cells #[.int .i64 (K.n:Int),s2] 57 (0,0))∈B1:=by rw[FP];exact .tail _ (.head _)
 have m3:(b3,Obj.cells #[.int .i64 (K.n:Int),s1] 57 (0,0))∈B1:=by rw[FP];exact .tail _ (.tail _ (.head _))
 have m1:(b1,Obj.cells o.cells.toArray 106 (0,0))∈B1:=by rw[FP];exact .tail _ (.tail _ (.tail _ (.head _)))
 have hsub:∀x∈M,x∈B1:=fun x hx=>by rw[FP];exact .tail _ (.tail _ (.tail _ (.tail _ hx)))
 have g6:bG M B1:=by rw[FP];exact .cons (.cons (.cons (.cons (.refl _))))
 change ag Tryz.prog g _ _ ((b9,Obj.cells #[.int .i64 0,.slice none 0 0] 57 (0,0))::(((b7,Obj.cells #[.int .i64 (K.n:Int),s3] 57 (0,0))::(b5,.cells #[.int .i64 (K.n:Int),s2] 57 (0,0))::(b3,.cells #[.int .i64 (K.n:Int),s1] 57 (0,0))::(b1,.cells o.cells.toArray 106 (0,0))::M)++G)) _ _
 rw[←FP]
 have t1:dn B1 (.agg #[.int .i64 (K.n:Int),s1]) K.n (eo K.n ws):=⟨ws,⟨s1,rfl,hw.mono hsub⟩,hwf,rfl⟩
 have t2:dn B1 (.agg #[.int .i64 (K.n:Int),s2]) K.n (eo K.n us):=⟨us,⟨s2,rfl,hu.mono hsub⟩,huf,rfl⟩
 have t3:dn B1 (.agg #[.int .i64 (K.n:Int),s3]) K.n (eo K.n rs):=⟨rs,⟨s3,rfl,hr.mono hsub⟩,hrf,rfl⟩
 clear FP hw hu hr
 have one:∀{X:Hp} {s:Value} {l:List Nat},Words X s l→∀x∈[Value.int .i64 (K.n:Int),s],x.oneCell'=true:=fun hw=>by have:=aO hw;simpa[Value.oneCell']using this
 refine ag.px (.cons .left) (Kh hn hv B1) ?_
 rintro w N1 ⟨_,rfl,w4,⟨s4,rfl,OB⟩,SA,UR⟩
 refine Ext.mk rfl (Ext.mk rfl ?_)
 intro Dj _
 refine St.whole (r:=[.int .i64 (K.n:Int),s4]) (by exact .head _) rfl rfl (one OB) ?_
 refine aC.whole (r:=[.int .i64 (K.n:Int),s1]) (by exact .tail _ (.tail _ (List.mem_append_left _ (List.mem_append_right _ m3)))) rfl ?_
 refine ag.px (.cons (.cons .left)) (kx (c:=false) (t1.mono (fun _ h=>by repeat (first|exact h|apply List.mem_cons_of_mem|apply List.mem_append_right))) hv) ?_
 rintro w N2 ⟨_,rfl,w5,⟨s5,rfl,Qq⟩,hf5,he5⟩
 refine Ext.mk rfl (Ext.mk rfl ?_)
 intro oQ _
 refine St.whole (r:=[.int .i64 (K.n:Int),s5]) (by exact .head _) rfl rfl (one Qq) ?_
 refine aC.whole (r:=[.int .i64 (K.n:Int),s1]) (by exact .tail _ (.tail _ (.tail _ (List.mem_append_left _ (List.mem_append_right _ (List.mem_append_right _ m3)))))) rfl ?_
 refine ag.px (.cons (.cons (.cons .left))) (kx (c:=true) (t1.mono (fun _ h=>by repeat (first|exact h|apply List.mem_cons_of_mem|apply List.mem_append_right))) hv) ?_
 rintro w N3 ⟨_,rfl,w6,⟨s6,rfl,Mw⟩,hf6,he6⟩
 refine Ext.mk rfl (Ext.mk rfl ?_)
 intro Di _
 refine St.whole (r:=[.int .i64 (K.n:Int),s6]) (by exact .head _) rfl rfl (one Mw) ?_
 obtain⟨Q,hQ⟩:∃Q:Hp,Q=N3++(N2++(N1++B1)):=⟨_,rfl⟩
 have q4:dn Q (.agg #[.int .i64 (K.n:Int),s4]) K.n (fun y=>y.testBit v):=by rw[hQ];exact⟨w4,⟨s4,rfl,OB.mono (fun _ h=>by repeat (first|exact h|apply List.mem_cons_of_mem|apply List.mem_append_right))⟩,SA,UR⟩
 have q5:dn Q (.agg #[.int .i64 (K.n:Int),s5]) K.n (fun y=>eo K.n ws (aD.aI y v false)):=by rw[hQ];exact⟨w5,⟨s5,rfl,Qq.mono (fun _ h=>by repeat (first|exact h|apply List.mem_cons_of_mem|apply List.mem_append_right))⟩,hf5,he5⟩
 have q6:dn Q (.agg #[.int .i64 (K.n:Int),s6]) K.n (fun y=>eo K.n ws (aD.aI y v true)):=by rw[hQ];exact⟨w6,⟨s6,rfl,Mw⟩,hf6,he6⟩
 have MW:∀x∈B1,x∈Q:=fun x hx=>by rw[hQ];exact List.mem_append_right _ (List.mem_append_right _ (List.mem_append_right _ hx))
 have hgQ:bG M Q:=by rw[hQ];exact .app (.app (.app g6))
 rw[←hQ]
 have t1:=t1.mono MW
 have t2:=t2.mono MW
 have t3:=t3.mono MW
 have m1:=MW _ m1
 have m3:=MW _ m3
 have m5:=MW _ m5
 have m7:=MW _ m7
 clear hQ MW g6 hsub OB Qq Mw
 have fin:∀(N4:Hp) (f:aE.Fn) (u:Value),dn (N4++Q) u K.n f→f=NX (o.k%9) v o.x (eo K.n ws) (eo K.n us) (eo K.n rs)→
   St 2 ((Di,.cells #[.int .i64 (K.n:Int),s6] 57 (0,0))::(oQ,.cells #[.int .i64 (K.n:Int),s5] 57 (0,0))::(Dj,.cells #[.int .i64 (K.n:Int),s4] 57 (0,0))::(b9,.cells #[.int .i64 0,.slice none 0 0] 57 (0,0))::((N4++Q)++G)) (ptr b9) u fun H=>aC 2 H (ptr b9) fun r=>
    az (fun w H=>∃M',H=M'++G∧bG M M'∧∃t,w=.tuple #[t,.int .i64 0]∧dn M' t K.n (NX (o.k%9) v o.x (eo K.n ws) (eo K.n us) (eo K.n rs))) (.returned (.tuple #[r,.int .i64 0])) H:=by
  rintro N4 f u ⟨w7,⟨s7,rfl,hw7⟩,hf7,he7⟩ e
  refine St.whole (r:=[.int .i64 (K.n:Int),s7]) (by exact .tail (.tail (.tail (.head _)))) rfl rfl (one hw7) ?_
  refine aC.whole (r:=[.int .i64 (K.n:Int),s7]) (by exact .tail _ (.tail _ (.tail _ (.head _)))) rfl ?_
  exact az.here ⟨_::_::_::_::(N4++Q),rfl,.cons (.cons (.cons (.cons (.app hgQ)))),_,rfl,w7,⟨s7,rfl,hw7.mono (fun _ h=>by repeat (first|exact h|apply List.mem_cons_of_mem|apply List.mem_append_right))⟩,hf7,he7.trans e⟩
 have Uz:∀{k:Value→Prop},k (.agg #[.int .i64 (K.n:Int),s1])→aC 2 ((Di,.cells #[.int .i64 (K.n:Int),s6] 57 (0,0))::(oQ,.cells #[.int .i64 (K.n:Int),s5] 57 (0,0))::(Dj,.cells #[.int .i64 (K.n:Int),s4] 57 (0,0))::(b9,.cells #[.int .i64 0,.slice none 0 0] 57 (0,0))::(Q++G)) (ptr b3) k:=fun hk=>
  aC.whole (r:=[.int .i64 (K.n:Int),s1]) (by exact .tail _ (.tail _ (.tail _ (.tail _ (List.mem_append_left _ m3))))) rfl hk
 have WS:∀{k:Value→Prop},k (.agg #[.int .i64 (K.n:Int),s2])→aC 2 ((Di,.cells #[.int .i64 (K.n:Int),s6] 57 (0,0))::(oQ,.cells #[.int .i64 (K.n:Int),s5] 57 (0,0))::(Dj,.cells #[.int .i64 (K.n:Int),s4] 57 (0,0))::(b9,.cells #[.int .i64 0,.slice none 0 0] 57 (0,0))::(Q++G)) (ptr b5) k:=fun hk=>
  aC.whole (r:=[.int .i64 (K.n:Int),s2]) (by exact .tail _ (.tail _ (.tail _ (.tail _ (List.mem_append_left _ m5))))) rfl hk
 have ld7:∀{k:Value→Prop},k (.agg #[.int .i64 (K.n:Int),s3])→aC 2 ((Di,.cells #[.int .i64 (K.n:Int),s6] 57 (0,0))::(oQ,.cells #[.int .i64 (K.n:Int),s5] 57 (0,0))::(Dj,.cells #[.int .i64 (K.n:Int),s4] 57 (0,0))::(b9,.cells #[.int .i64 0,.slice none 0 0] 57 (0,0))::(Q++G)) (ptr b7) k:=fun hk=>
  aC.whole (r:=[.int .i64 (K.n:Int),s3]) (by exact .tail _ (.tail _ (.tail _ (.tail _ (List.mem_append_left _ m7))))) rfl hk
 have Om:∀{k:Value→Prop},k (.agg #[.int .i64 (K.n:Int),s5])→aC 2 ((Di,.cells #[.int .i64 (K.n:Int),s6] 57 (0,0))::(oQ,.cells #[.int .i64 (K.n:Int),s5] 57 (0,0))::(Dj,.cells #[.int .i64 (K.n:Int),s4] 57 (0,0))::(b9,.cells #[.int .i64 0,.slice none 0 0] 57 (0,0))::(Q++G)) (ptr oQ) k:=fun hk=>
  aC.whole (r:=[.int .i64 (K.n:Int),s5]) (by exact .tail _ (.head _)) rfl hk
 have Ol:∀{k:Value→Prop},k (.agg #[.int .i64 (K.n:Int),s6])→aC 2 ((Di,.cells #[.int .i64 (K.n:Int),s6] 57 (0,0))::(oQ,.cells #[.int .i64 (K.n:Int),s5] 57 (0,0))::(Dj,.cells #[.int .i64 (K.n:Int),s4] 57 (0,0))::(b9,.cells #[.int .i64 0,.slice none 0 0] 57 (0,0))::(Q++G)) (ptr Di) k:=fun hk=>
  aC.whole (r:=[.int .i64 (K.n:Int),s6]) (by exact .head _) rfl hk
 have Oh:∀(i:Nat) (x:Value) {k:Value→Prop},o.cells[i]? =some x→k x→aa i (ptr b1) fun p=>Ld ((Di,.cells #[.int .i64 (K.n:Int),s6] 57 (0,0))::(oQ,.cells #[.int .i64 (K.n:Int),s5] 57 (0,0))::(Dj,.cells #[.int .i64 (K.n:Int),s4] 57 (0,0))::(b9,.cells #[.int .i64 0,.slice none 0 0] 57 (0,0))::(Q++G)) p k:=fun i x _ hx hk=>
  aa.mk (Ld.mk (v:=x) (by exact .tail _ (.tail _ (.tail _ (.tail _ (List.mem_append_left _ m1))))) (by simpa using hx) hk)
 refine Oh 0 _ rfl ?_
 refine ae.pD (b:=9) (by decide) ?_
 have hk9:=Nat.mod_lt o.k (show 0<9 by decide)
 have hx:=ho.x
 generalize o.k%9=k at*
 refine ae.fO (b:=0) (Br.dec (fun h0=>?_) (fun h0=>?_))
 ·subst h0
  refine aC.whole (r:=[.int .i64 (K.n:Int),s4]) (by exact .tail _ (.tail _ (.head _))) rfl ?_
  exact fin [] _ _ q4 rfl
 refine ae.fO (b:=1) (Br.dec (fun h0=>?_) (fun h0=>?_))
 ·subst h0
  refine Uz ?_
  refine ag.px (.cons (.cons (.cons (.cons .left)))) (Kl t1) ?_
  rintro w N4 ⟨u,rfl,hu⟩
  exact Ext.mk rfl (Ext.mk rfl (fin N4 _ u hu rfl))
 intro J hJ
 have FO:J [.bool (decide (k=2∨k=3))] ((Di,.cells #[.int .i64 (K.n:Int),s6] 57 (0,0))::(oQ,.cells #[.int .i64 (K.n:Int),s5] 57 (0,0))::(Dj,.cells #[.int .i64 (K.n:Int),s4] 57 (0,0))::(b9,.cells #[.int .i64 0,.slice none 0 0] 57 (0,0))::(Q++G)):=by
  refine hJ _ _ fun gs=>?_
  refine Br.dec (fun Tm=>?_) (fun Tm=>?_)
  ·refine Oh 5 _ rfl ?_
   refine ae.pD (b:=16) (by decide) ?_
   have Ys:=Nat.mod_lt o.x (show 0<16 by decide)
   refine aW.nat (by simp[aB];omega) ?_
   refine Uz (WS ?_)
   refine ag.px (.cons (.cons (.cons (.cons .left)))) (ux Ys t1 t2) ?_
   rintro w N4 ⟨u,rfl,hu⟩
   refine Ext.mk rfl (Ext.mk rfl (fin N4 _ u hu ?_))
   rcases Tm with rfl|rfl<;>rfl
  refine ae.fO (b:=4) (Br.dec (fun h0=>?_) (fun h0=>?_))
  ·subst h0
   refine Uz (WS (ld7 ?_))
   refine ag.px (.cons (.cons (.cons (.cons .left)))) (B6 t1 t2 t3) ?_
   rintro w N4 ⟨u,rfl,hu⟩
   exact Ext.mk rfl (Ext.mk rfl (fin N4 _ u hu rfl))
  refine ae.fO (b:=5) (Br.dec (fun h0=>?_) (fun h0=>?_))
  ·subst h0
   refine Uz (Oh 5 _ rfl ?_)
   refine ae.pD (b:=2) (by decide) ?_
   refine ae.fO (b:=1) ?_
   refine ag.px (.cons (.cons (.cons (.cons .left)))) (kx t1 hv) ?_
   rintro w N4 ⟨u,rfl,hu⟩
   exact Ext.mk rfl (Ext.mk rfl (fin N4 _ u hu rfl))
  refine ae.fO (b:=6) (Br.dec (fun h0=>?_) (fun h0=>?_))
  ·subst h0
   refine Om (Ol ?_)
   refine ag.px (.cons (.cons (.cons (.cons .left)))) (ux (op:=14) (by decide) q5 q6) ?_
   rintro w N4 ⟨u,rfl,hu⟩
   exact Ext.mk rfl (Ext.mk rfl (fin N4 _ u hu rfl))
  refine ae.fO (b:=7) (Br.dec (fun h0=>?_) (fun h0=>?_))
  ·subst h0
   refine Om (Ol ?_)
   refine ag.px (.cons (.cons (.cons (.cons .left)))) (ux (op:=8) (by decide) q5 q6) ?_
   rintro w N4 ⟨u,rfl,hu⟩
   exact Ext.mk rfl (Ext.mk rfl (fin N4 _ u hu rfl))
  ·have:k=8:=by omega
   subst this
   refine WS (Ol (Om ?_))
   refine ag.px (.cons (.cons (.cons (.cons .left)))) (B6 t2 q6 q5) ?_
   rintro w N4 ⟨u,rfl,hu⟩
   exact Ext.mk rfl (Ext.mk rfl (fin N4 _ u hu rfl))
 refine ae.fO (b:=2) (Br.dec (fun h2=>?_) (fun h2=>?_))
 ·have:decide (k=2)=decide (k=2∨k=3):=by simp[h2]
  rw[this];exact JE.mk FO
 ·refine ae.fO (b:=3) ?_
  have:decide (k=3)=decide (k=2∨k=3):=by simp[h2]
  rw[this];exact JE.mk FO
end
end Go.Proofs
namespace Go.Sx
open Go
section
variable {P:Program} {g:Gh} {H B:Hp} {c:Hp→Hp}
theorem ag.top{f:FuncId}{args:Array Value}{Q:Value→Hp→Prop}{K:Value→Hp→Prop}{KP:List PanicEntry→Hp→Prop}(hh:bP B H c)(hc:Fc P f args B (fun r H'=>∃N,H'=N++B∧Q r N))(hk:∀r N,Q r N→K r (N++H)):ag P g f args H K KP:=by
 refine(ag.fn (K:=fun r H'=>∃N,H'=c (N++B)∧Q r N) (KP:=KP) hh hc fun r C' ⟨N,h1,h2⟩=>⟨N,by rw[h1],h2⟩).post ?_
 intro e H' h
 cases e with
 |returned v=>
  obtain⟨N,rfl,hq⟩:=h
  refine⟨N++H,?_,hk v N hq⟩
  obtain⟨h1,F,h2⟩:=hh.spec
  refine .perm ((h2 (N++B)).trans ?_)
  rw[h1,List.append_assoc]
  exact List.Perm.append_left N (h2 B).symm
 |panicked ch=>exact⟨H',.refl _,h⟩
 |outgrown=>exact⟨H',.refl _,h⟩
theorem aU.WI{x:Nat×Obj}(h:x∈H):aU H [x]:=by
 obtain⟨A,D,rfl⟩:=List.append_of_mem h
 exact .o3 (aU.left (A:=[x]))
end
end Go.Sx
set_option maxRecDepth 100000
namespace Go.Proofs
open Go Go.Sx
open aE
section
variable {kp gb n:Nat} {vr vf:Value} {refs:List Nat} {fs:List (List Nat)} {K:Kd} {S:Nat→aE.Fn} {ord ah tr:List Nat} {C B:Hp}
theorem cF.perm(hK:cF kp K S ord ah tr C):ord.Perm (List.range K.n):=by
 have iF:=hK.od
 refine ie ?_ (fun x hx=>?_) (by rw[List.length_range,iF.len];exact Nat.le_refl _)
 ·refine List.pairwise_iff_getElem.2 fun i j hi hj hij e=>?_
  have g1:=(iF.oS i (by rw[←iF.len];exact hi)).2
  have g2:=(iF.oS j (by rw[←iF.len];exact hj)).2
  rw[List.getD_eq_getElem?_getD,List.getElem?_eq_getElem hi,e]at g1
  rw[List.getD_eq_getElem?_getD,List.getElem?_eq_getElem hj]at g2
  omega
 ·obtain⟨i,hi,rfl⟩:=List.mem_iff_getElem.1 hx
  rw[iF.len]at hi
  have:=(iF.oS i hi).1
  rw[List.getD_eq_getElem?_getD,List.getElem?_eq_getElem (by rw[iF.len];exact hi)]at this
  exact List.mem_range.2 this
theorem zC{p:List Nat}{m:Nat}(h:p.Perm (List.range m)):my (iw p):=by
 rw[lV,aq,h.length_eq,List.length_range]
 exact h.map _
def m0(kp:Nat)(K:Kd)(S:Nat→aE.Fn)(ord ah tr:List Nat)(lo hi f:aE.Fn)(w:Value)(H:Hp):Prop:=
 (∃x K' S',w=.tuple #[u32 x,.int .i64 0]∧cF kp K' S' ord ah [] H∧oa K S K' S' f x)∨
 (w=.tuple #[u32 0,.int .i64 9]∧(∃K' S' sk,cF kp K' S' ord ah sk H∧(sk=[]∨sk=tr)∧Kept K S K' S')∧¬Fits (aM K.n ord (fun g=>((K.held S g∨g=lo)∨g=hi)∨g=f)) K.cap)
theorem mZ.ask{lo hi f:aE.Fn}{w:Value}{H:Hp}(h:mZ kp K S ord ah tr f w H):m0 kp K S ord ah tr lo hi f w H:=by
 rcases h with h|⟨h1,h2,h3⟩
 ·exact .inl h
 ·exact .inr ⟨h1,h2,fun hf=>h3 (Fits.mono (fun g hg=>bM (fun g h=>h.imp (fun h=>.inl (.inl h)) id) hg) hf)⟩
theorem vA.ask{lo hi f:aE.Fn}{w:Value}{H:Hp}(h:vA kp K S ord ah tr lo hi f w H):m0 kp K S ord ah tr lo hi f w H:=by
 rcases h with h|⟨h1,h2,h3⟩
 ·exact .inl h
 ·refine .inr ⟨h1,h2,fun hf=>?_⟩
  rcases h3 with h3|h3|h3
  ·exact h3 (Fits.mono (fun g hg=>bM (fun g h=>.inl (.inl h)) hg) hf)
  ·exact h3 (Fits.mono (fun g hg=>bM (fun g h=>.inl h) hg) hf)
  ·exact h3 hf
theorem m0.two{lo hi f:aE.Fn}{w:Value}{H:Hp}(h:m0 kp K S ord ah tr lo hi f w H):∃x y,w=.tuple #[x,y]:=by
 rcases h with⟨x,K',S',rfl,_⟩|⟨rfl,_⟩
 ·exact⟨_,_,rfl⟩
 ·exact⟨_,_,rfl⟩
theorem IS{c:Hp→Hp}(hc:bP C B c)(hcell:∀Z,fN gb kp K.n vr vf∈c Z)(hK:cF kp K S ord ah tr C)(y4:1≤K.n){o:r6}(ho:o.Ok){r h i:Nat}(hr:live K.N r)(hh:live K.N h)(hi:live K.N i)(hB:∀s,K.hold s+2+2^K.n≤65535):
  Fc Tryz.prog 128 #[ptr gb,.agg o.cells.toArray,u32 r,u32 h,u32 i] B (fun w H=>∃C',H=c C'∧m0 kp K S ord ah tr (fun x=>S r (aD.aI x (o.v%K.n) false)) (fun x=>S r (aD.aI x (o.v%K.n) true)) (NX (o.k%9) (o.v%K.n) o.x (S r) (S h) (S i)) w C'):=by
 have y2:1≤2^K.n:=Nat.one_le_two_pow
 have wV:=hK.oS.ta
 have Su:fN gb kp K.n vr vf∈B:=by rw[hc.spec.1];exact hcell C
 have FP:∀s,K.hold s+2^K.n≤65535:=fun s=>by have:=hB s;omega
 have FK:∀s,K.hold s+2<65535:=fun s=>by have:=hB s;omega
 have FL:∀s,K.hold s+1<65535:=fun s=>by have:=hB s;omega
 intro g
 refine BB (R:=az _) ?_
 unfold L128
 intro b1 _
 refine aa.mk (Ld.mk (v:=.int .u8 (o.v:Int)) (by exact .head _) rfl ?_)
 refine aW.nat (by have:=ho.v;simp[aB];omega) ?_
 refine Nil.ptr (aa.mk (Ld.mk (v:=.int .i64 (K.n:Int)) (by exact .tail _ Su) rfl ?_))
 refine ae.pD (by omega) ?_
 have hv:=Nat.mod_lt o.v (show 0<K.n by omega)
 generalize o.v%K.n=v at*
 have hx:=ho.x
 refine aa.mk (Ld.mk (v:=.int .u8 (o.k:Int)) (by exact .head _) rfl ?_)
 refine ae.pD (b:=9) (by decide) ?_
 have hk9:=Nat.mod_lt o.k (show 0<9 by decide)
 generalize o.k%9=k at*
 obtain⟨Q,hQ⟩:∃Q:Value→Hp→Prop,Q=fun w H=>∃C',H=c C'∧m0 kp K S ord ah tr (fun x=>S r (aD.aI x v false)) (fun x=>S r (aD.aI x v true)) (NX k v o.x (S r) (S h) (S i)) w C':=⟨_,rfl⟩
 rw[←hQ]
 have fin:∀w C',m0 kp K S ord ah tr (fun x=>S r (aD.aI x v false)) (fun x=>S r (aD.aI x v true)) (NX k v o.x (S r) (S h) (S i)) w C'→
   Ext 0 w fun u=>Ext 1 w fun u'=>az Q (.returned (.tuple #[u,u'])) ((b1,.cells o.cells.toArray 106 (0,0))::c C'):=fun w C' hA=>by
  obtain⟨x,y,rfl⟩:=hA.two
  refine Ext.mk rfl (Ext.mk rfl (az.mk .tail ?_))
  rw[hQ];exact⟨C',rfl,hA⟩
 have iQ:∀C',aU ((b1,.cells o.cells.toArray 106 (0,0))::c C') [(b1,.cells o.cells.toArray 106 (0,0)),fN gb kp K.n vr vf]:=fun C'=>.cons (.WI (hcell C'))
 refine ae.fO (b:=0) (Br.dec (fun h0=>?_) (fun h0=>?_))
 ·subst h0
  refine Nil.ptr (aa.mk (Ld.mk (v:=ptr kp) (by exact .tail _ Su) rfl ?_))
  refine ag.fn (.cons hc) (LQ hK hv (fun s=>by have:=hB s;omega)) ?_
  intro w C' hD
  exact fin w C' hD.ask
 refine ae.fO (b:=1) (Br.dec (fun h0=>?_) (fun h0=>?_))
 ·subst h0
  refine Nil.ptr (aa.mk (Ld.mk (v:=ptr kp) (by exact .tail _ Su) rfl ?_))
  refine ag.fn (.cons hc) (LU hK hr FP) ?_
  intro w C' hD
  exact fin w C' hD.ask
 intro J hJ
 have FO:J [.bool (decide (k=2∨k=3))] ((b1,.cells o.cells.toArray 106 (0,0))::B):=by
  refine hJ _ _ fun gs=>?_
  refine Br.dec (fun Tm=>?_) (fun Tm=>?_)
  ·refine DR.of (R:=[(b1,.cells o.cells.toArray 106 (0,0)),fN gb kp K.n vr vf]) (by have:=iQ C;rwa [←hc.spec.1]at this) ?_
   refine Nil.ptr (aa.mk (Ld.mk (v:=ptr kp) (by exact .tail _ (.head _)) rfl ?_))
   refine aa.mk (Ld.mk (v:=.int .u64 (o.x:Int)) (by exact .head _) rfl ?_)
   refine ae.pD (b:=16) (by decide) ?_
   have Ys:=Nat.mod_lt o.x (show 0<16 by decide)
   refine aW.nat (by simp[aB];omega) ?_
   refine ag.fn (.cons hc) (rE hK Ys hr hh FP) ?_
   intro w C' hD
   refine⟨iQ C',fin w C' ?_⟩
   rcases Tm with rfl|rfl
   ·exact hD.ask
   ·exact hD.ask
  refine ae.fO (b:=4) (Br.dec (fun h0=>?_) (fun h0=>?_))
  ·subst h0
   refine Nil.ptr (aa.mk (Ld.mk (v:=ptr kp) (by exact .tail _ Su) rfl ?_))
   refine ag.fn (.cons hc) (Dr hK hr hh hi FP) ?_
   intro w C' hD
   exact fin w C' hD.ask
  refine ae.fO (b:=5) (Br.dec (fun h0=>?_) (fun h0=>?_))
  ·subst h0
   refine DR.of (R:=[(b1,.cells o.cells.toArray 106 (0,0)),fN gb kp K.n vr vf]) (by have:=iQ C;rwa [←hc.spec.1]at this) ?_
   refine Nil.ptr (aa.mk (Ld.mk (v:=ptr kp) (by exact .tail _ (.head _)) rfl ?_))
   refine aa.mk (Ld.mk (v:=.int .u64 (o.x:Int)) (by exact .head _) rfl ?_)
   refine ae.pD (b:=2) (by decide) ?_
   refine ae.fO (b:=1) ?_
   refine ag.fn (.cons hc) (uA hK hr hv FL) ?_
   intro w C' hD
   exact⟨iQ C',fin w C' hD.ask⟩
  have vI:2^v<18446744073709551616:=Nat.lt_of_lt_of_le (ig hv) (Nat.pow_le_pow_right (n:=2) (by decide) wV)
  have eq6:∀e:Bool,qf e v (S r)=fun y=>D4 (if e then 14 else 8) (S r (aD.aI y v false)) (S r (aD.aI y v true)):=fun e=>by
   funext y
   show(if e then S r (aD.aI y v false)||S r (aD.aI y v true)else S r (aD.aI y v false) &&S r (aD.aI y v true))=_
   cases e<;>cases S r (aD.aI y v false)<;>cases S r (aD.aI y v true)<;>rfl
  refine ae.fO (b:=6) (Br.dec (fun h0=>?_) (fun h0=>?_))
  ·subst h0
   refine DR.of (R:=[(b1,.cells o.cells.toArray 106 (0,0)),fN gb kp K.n vr vf]) (by have:=iQ C;rwa [←hc.spec.1]at this) ?_
   refine Nil.ptr (aa.mk (Ld.mk (v:=ptr kp) (by exact .tail _ (.head _)) rfl ?_))
   refine ae.yG (a:=1) (by simp[IntKind.bits];omega) (by rw[Nat.one_shiftLeft];simpa[aB]using vI) ?_
   rw[Nat.one_shiftLeft]
   refine ag.fn (.cons hc) (EC hK hr (ig hv) FK) ?_
   intro w C' hD
   have:=(gx.one hv hD).ask (lo:=fun x=>S r (aD.aI x v false)) (hi:=fun x=>S r (aD.aI x v true))
   rw[eq6 true]at this
   exact⟨iQ C',fin w C' this⟩
  refine ae.fO (b:=7) (Br.dec (fun h0=>?_) (fun h0=>?_))
  ·subst h0
   refine DR.of (R:=[(b1,.cells o.cells.toArray 106 (0,0)),fN gb kp K.n vr vf]) (by have:=iQ C;rwa [←hc.spec.1]at this) ?_
   refine Nil.ptr (aa.mk (Ld.mk (v:=ptr kp) (by exact .tail _ (.head _)) rfl ?_))
   refine ae.yG (a:=1) (by simp[IntKind.bits];omega) (by rw[Nat.one_shiftLeft];simpa[aB]using vI) ?_
   rw[Nat.one_shiftLeft]
   refine ag.fn (.cons hc) (EA hK hr (ig hv) FK) ?_
   intro w C' hD
   have:=(gx.one hv hD).ask (lo:=fun x=>S r (aD.aI x v false)) (hi:=fun x=>S r (aD.aI x v true))
   rw[eq6 false]at this
   exact⟨iQ C',fin w C' this⟩
  ·have:k=8:=by omega
   subst this
   refine Nil.ptr (aa.mk (Ld.mk (v:=ptr kp) (by exact .tail _ Su) rfl ?_))
   refine ag.fn (.cons hc) (LK hK hr hv hh hB) ?_
   intro w C' hD
   exact fin w C' hD.ask
 refine ae.fO (b:=2) (Br.dec (fun h2=>?_) (fun h2=>?_))
 ·have:decide (k=2)=decide (k=2∨k=3):=by simp[h2]
  rw[this];exact JE.mk FO
 ·refine ae.fO (b:=3) ?_
  have:decide (k=3)=decide (k=2∨k=3):=by simp[h2]
  rw[this];exact JE.mk FO
theorem wZ(hG:yd gb kp K.n vr vf refs fs C B)(hfr:∀t∈fs,aD.eE K.n t)(hK:cF kp K S ord ah tr C)(hm:fs.length<65536){more:Value}{ms:List (List Nat)}(hmo:fo B more (ms.map fun ws=>⟨K.n,ws⟩))(hmf:∀t∈ms,aD.eE K.n t)(hml:ms.length≤1)(hne:fs++ms≠[]):
  Px Tryz.prog 64 #[ptr gb,more] B (fun w H=>w=.int .i64 ((gf K.n ord (fs++ms) K.n:Nat):Int)):=by
 intro g
 refine EZ (R:=az _) ?_
 unfold L64
 refine au.none (e:=57) (k:=2) (z:=.agg #[.int .i64 0,.slice none 0 0]) (by kernel_rfl) (by kernel_rfl) (by kernel_rfl) fun bx=>?_
 refine Nil.ptr (aa.mk (Ld.mk (v:=vf) (by exact .tail _ hG.cell) rfl ?_))
 obtain⟨rf,hSf,Yn⟩:=hG.fn
 obtain⟨rm,hSm,Ym⟩:=hmo
 have lf:rf.length=fs.length:=by rw[Yn.1,List.length_map]
 have lm:rm.length=ms.length:=by rw[Ym.1,List.length_map]
 have GQ:∀{X:Hp} {rs:List (List Value)} {ts:List Tb},ob (xL X) rs ts→∀r∈rs,∀u∈r,u.oneCell'=true:=fun hE r hr u hu=>by
  obtain⟨i,hi,rfl⟩:=List.mem_iff_getElem.1 hr
  obtain⟨s,hs,hw⟩:=hE.2 i _ _ (List.getElem?_eq_getElem hi) (List.getElem?_eq_getElem (by rw[←hE.1];exact hi))
  rw[hs]at hu
  simp only[List.mem_cons,List.not_mem_nil,or_false]at hu
  rcases hu with rfl|rfl
  ·rfl
  ·exact aO hw
 have JI:aQ 57 2 (.slice (some ⟨bx,0,none⟩) 0 0) [] [(bx,.cells (rows []) 57 (0,0))]:=aQ.made [] (by simp)
 refine JI.xI (C:=[(bx,.cells (rows []) 57 (0,0))]) (c:=fun X=>X++B) (bP.left (C:=[(bx,.cells (rows []) 57 (0,0))])) (hSf.mono (fun _ h=>by repeat (first|exact h|apply List.mem_cons_of_mem|apply List.mem_append_right))) (GQ Yn) ⟨[.int .i64 0,.slice none 0 0],rfl,rfl⟩ (by simp only[List.length_nil];omega) (by simp only[List.length_nil];omega) fun v8 C8 h8=>?_
 refine h8.xI .left (hSm.mono fun _ h=>List.mem_append_right _ h) (GQ Ym) ⟨[.int .i64 0,.slice none 0 0],rfl,rfl⟩ (by simp only[List.nil_append];omega) (by simp only[List.nil_append];omega) fun bt C12 Yv=>?_
 refine Nil.ptr (aa.mk (Ld.mk (v:=ptr kp) (by exact List.mem_append_right _ hG.cell) rfl ?_))
 obtain⟨c,hc,_⟩:=hG.hole
 refine ag.top (Q:=fun r N=>aN 3 .i64 r (iw ord) N) (.app hc) (oA hK.rep) ?_
 intro vo N ho
 have hT:fo (N++(C12++B)) bt ((fs++ms).map fun ws=>⟨K.n,ws⟩):=by
  refine⟨[]++rf++rm,(Sl.kF Yv (by decide)).mono fun _ h=>List.mem_append_right _ (List.mem_append_left _ h),?_,fun i r x hr hx=>?_⟩
  ·simp only[List.nil_append,List.length_append,List.length_map];omega
  ·rw[List.nil_append]at hr
   rw[List.map_append]at hx
   by_cases hi:i<rf.length
   ·rw[List.getElem?_append_left hi]at hr
    rw[List.getElem?_append_left (by rw[List.length_map];omega)]at hx
    obtain⟨s,h1,h2⟩:=Yn.2 i r x hr hx
    exact⟨s,h1,h2.mono (fun _ h=>by repeat (first|exact h|apply List.mem_cons_of_mem|apply List.mem_append_right))⟩
   ·rw[List.getElem?_append_right (by omega)]at hr
    rw[List.getElem?_append_right (by rw[List.length_map];omega)]at hx
    rw[List.length_map,←lf]at hx
    obtain⟨s,h1,h2⟩:=Ym.2 _ r x hr hx
    exact⟨s,h1,h2.mono (fun _ h=>by repeat (first|exact h|apply List.mem_cons_of_mem|apply List.mem_append_right))⟩
 refine ag.px .here (Kr hT (fun t ht=>(List.mem_append.1 ht).elim (hfr t) (hmf t)) hne (by rw[List.length_append];omega) (ho.ints.mono fun _ h=>List.mem_append_left _ h) hK.od.len (zC hK.perm)) ?_
 rintro w N2 rfl
 refine Ext.mk rfl (Ext.mk rfl ?_)
 refine ae.c7 (Br.aX (by decide) ?_)
 exact Du.mk (by repeat (first|exact bG.refl _|apply bG.cons|apply bG.app)) rfl
end
end Go.Proofs
set_option maxRecDepth 100000
namespace Go.Proofs
open Go Go.Sx
open aE
section
variable {kp gb n:Nat} {vr vf:Value} {refs:List Nat} {fs:List (List Nat)} {K:Kd} {S:Nat→aE.Fn} {ord ah tr:List Nat} {C B:Hp}
theorem aQ.one{T:TypeId}{k:Nat}{v:Value}{l:List (List Value)}(h:aQ T k v l C):v.oneCell'=true:=by obtain⟨a,c,e⟩:=aQ.len h;rw[e];rfl
theorem Ly{r:Nat}(h2:r<2){s:Value}(B:Hp):Fc Tryz.prog 129 #[ptr gb,u32 r,.agg #[.int .i64 (n:Int),s]] B (fun _ H=>H=B):=by
 intro g
 refine rQ (R:=az _) ?_
 unfold L129
 intro b1 _
 exact ae.nP (b:=1) (Br.aX (by omega) (az.mk .tail rfl))
theorem Lx{r:Nat}(h2:2≤r){s:Value}{CR CF D:Hp}{rs:List (List Value)}(hr:aN 77 .u32 vr (iw refs) CR)(hf:aQ 57 2 vf rs CF)(hs:s.oneCell'=true)(JB:refs.length<1048576)(vH:rs.length<1048576):
  Fc Tryz.prog 129 #[ptr gb,u32 r,.agg #[.int .i64 (n:Int),s]] (fN gb kp n vr vf::(CR++(CF++D))) (fun _ H=>∃BZ Js F0 JW,H=fN gb kp n BZ Js::(F0++(JW++D))∧aN 77 .u32 BZ (iw (refs++[r])) F0∧aQ 57 2 Js (rs++[[.int .i64 (n:Int),s]]) JW):=by
 intro g
 refine rQ (R:=az _) ?_
 unfold L129
 intro b1 _
 refine ae.nP (b:=1) (Br.dS (by omega) ?_)
 refine Nil.ptr (aa.mk (Ld.mk (v:=vr) (by exact .tail _ (.head _)) rfl ?_))
 refine au.int (e:=77) (by kernel_rfl) (by kernel_rfl) (by kernel_rfl) fun bx=>?_
 refine hr.pG (x:=(r:Int)) (.cons (.cons (.cons .left))) (by exact .head _) (by rw[aq];omega) (by rw[aq];omega) fun BZ F0 hr'=>?_
 refine Nil.ptr (aa.mk (St.one (by exact .tail (.tail (.head _))) hr'.one (by simp) rfl ?_))
 refine DR.of (R:=[(b1,.cells #[.int .i64 (n:Int),s] 57 (0,0)),fN gb kp n BZ vf]) (.skip (.cons (aU.left (A:=[_])))) ?_
 refine Nil.ptr (aa.mk (Ld.mk (v:=vf) (by exact .tail _ (.head _)) rfl ?_))
 refine aC.whole (r:=[.int .i64 (n:Int),s]) (by exact .head _) rfl ?_
 refine nW fun by'=>?_
 refine⟨.skip (.skip (.cons (aU.left (A:=[_])))),?_⟩
 have h1:∀u∈[Value.int .i64 (n:Int),s],u.oneCell'=true:=by simpa[Value.oneCell']using hs
 refine hf.pG (r:=[.int .i64 (n:Int),s]) (.cons (.cons (.cons (.cons (.app .left))))) (by exact .head _) rfl h1 ⟨[.int .i64 0,.slice none 0 0],rfl,rfl⟩ (by omega) (by omega) fun Js JW wW=>?_
 refine⟨.skip (.skip (.cons (aU.left (A:=[_])))),?_⟩
 refine Nil.ptr (aa.mk (St.one (by exact .tail (.tail (.tail (.head _)))) (aQ.one wW) (by simp) rfl ?_))
 refine az.mk (.skip (.skip .tail)) ⟨BZ,Js,F0,JW,rfl,?_,wW⟩
 rw[cL];exact hr'
structure Mb(gb kp:Nat)(K:Kd)(S:Nat→aE.Fn)(ord ah tr:List Nat)(refs:List Nat)(fs:List (List Nat))(vr vf:Value)(M CR CF C:Hp)(rs:List (List Value)):Prop where
 ks:cF kp K S ord ah tr C
 Ip:sO K S refs fs
 rf:aN 77 .u32 vr (iw refs) CR
 fn:aQ 57 2 vf rs CF
 row:ob (xL M) rs (fs.map fun ws=>⟨K.n,ws⟩)
abbrev gG(gb kp n:Nat)(vr vf:Value)(CR CF C:Hp):Hp:=fN gb kp n vr vf::(CR++(CF++C))
theorem Mb.look{rs:List (List Value)}{M CR CF:Hp}(h:Mb gb kp K S ord ah tr refs fs vr vf M CR CF C rs):lz gb kp K.n vr vf refs fs M (gG gb kp K.n vr vf CR CF C):=
 ⟨.head _,h.rf.ints.mono fun _ h=>.tail _ (List.mem_append_left _ h),rs,(Sl.kF h.fn (by decide)).mono fun _ h=>.tail _ (List.mem_append_right _ (List.mem_append_left _ h)),h.row⟩
theorem Mb.Wx{rs:List (List Value)}{M CR CF:Hp}(h:Mb gb kp K S ord ah tr refs fs vr vf M CR CF C rs):rs.length=refs.length:=by
 rw[h.row.1,List.length_map,h.Ip.len]
theorem Iv(hn:K.n≤6)(hcap:K.cap=4000)(iF:aE.Ord K.n (lv ah) ord){L:List (List Nat)}(hf:∀t∈L,aD.eE K.n t)(hl:L.length≤60):Fits (aM K.n ord (FT K.n L)) K.cap:=by
 refine⟨_,IE hf (by omega) (fun i hi=>(iF.oS i hi).1),?_⟩
 have h1:=iV K.n ord L K.n
 have h2:2^K.n*L.length≤64*L.length:=Nat.mul_le_mul_right _ (Nat.pow_le_pow_right (n:=2) (by decide) hn)
 rw[hcap];omega
theorem sO.more(h:sO K S refs fs)(hK:cF kp K S ord ah tr C){K':Kd}{S':Nat→aE.Fn}{f:aE.Fn}{x:Nat}{t:List Nat}(hg:oa K S K' S' f x)(hf:aD.eE K.n t)(ht:eo K.n t=f):(2≤x→sO K' S' (refs++[x]) (fs++[t]))∧(x<2→sO K' S' refs fs):=by
 have old:∀i,i<refs.length→2≤refs.getD i 0∧eo K'.n (fs.getD i [])=S' (refs.getD i 0):=fun i hi=>by
  obtain⟨h1,h2⟩:=h.is i hi
  have hm:refs.getD i 0∈refs:=by rw[List.getD_eq_getElem?_getD,List.getElem?_eq_getElem hi];exact List.getElem_mem hi
  exact⟨h1,by rw[hg.n,h2,hg.fn _ (h.live hK hm)]⟩
 refine⟨fun h2=>⟨by simp[h.len],fun u hu=>?_,fun i hi=>?_,fun s=>?_⟩,fun h2=>⟨h.len,by rw[hg.n];exact h.oJ,old,fun s=>by rw[hg.hold,h.hold,if_neg (by omega)];rfl⟩⟩
 ·rw[hg.n]
  rcases List.mem_append.1 hu with hu|hu
  ·exact h.oJ u hu
  ·simp at hu;subst hu;exact hf
 ·by_cases hi':i<refs.length
  ·have e1:(refs++[x]).getD i 0=refs.getD i 0:=by rw[List.getD_eq_getElem?_getD,List.getElem?_append_left hi',←List.getD_eq_getElem?_getD]
   have e2:(fs++[t]).getD i []=fs.getD i []:=by rw[List.getD_eq_getElem?_getD,List.getElem?_append_left (by rw[←h.len];exact hi'),←List.getD_eq_getElem?_getD]
   rw[e1,e2];exact old i hi'
  ·have hie:i=refs.length:=by rw[List.length_append,List.length_singleton]at hi;omega
   have e1:(refs++[x]).getD i 0=x:=by rw[List.getD_eq_getElem?_getD,List.getElem?_append_right (by omega),hie,Nat.sub_self];rfl
   have e2:(fs++[t]).getD i []=t:=by rw[List.getD_eq_getElem?_getD,List.getElem?_append_right (by rw[←h.len];omega),hie,h.len,Nat.sub_self];rfl
   rw[e1,e2,hg.n,ht,hg.is]
   exact⟨h2,rfl⟩
 ·rw[hg.hold,h.hold,List.count_append,List.count_singleton]
  by_cases e:s=x
  ·subst e;simp[h2]
  ·have:(x==s)=false:=by simpa using fun e'=>e e'.symm
   simp[e,this]
def T1(gb kp:Nat)(K:Kd)(S:Nat→aE.Fn)(ord ah:List Nat)(refs:List Nat)(M0:Hp)(o:r6)(w:Value)(H:Hp):Prop:=
 w=.bool true∧∃(x a b c:Nat) (K':Kd) (S':Nat→aE.Fn) (refs':List Nat) (fs':List (List Nat)) (vr vf:Value) (M CR CF C:Hp) (rs:List (List Value)),H=M++gG gb kp K.n vr vf CR CF C∧bG M0 M∧Mb gb kp K' S' ord ah [] refs' fs' vr vf M CR CF C rs∧K'.n=K.n∧K'.cap=K.cap∧
  refs'=refs++(if 2≤x then [x]else [])∧S' x=NX (o.k%9) (o.v%K.n) o.x (S a) (S b) (S c)∧live K'.N x∧(∀s,live K.N s→S' s=S s)
set_option maxHeartbeats 1000000 in
theorem Mh{M CR CF:Hp}{rs:List (List Value)}(h:Mb gb kp K S ord ah tr refs fs vr vf M CR CF C rs)(y4:1≤K.n)(hn:K.n≤6)(hcap:K.cap=4000)(hl:refs.length≤50){o:r6}(ho:o.Ok):
  Fc Tryz.prog 55 #[ptr gb,.agg o.cells.toArray] (M++gG gb kp K.n vr vf CR CF C) (T1 gb kp K S ord ah refs M o):=by
 have hK:=h.ks
 have iF:=hK.od
 have hlf:fs.length≤50:=by rw[←h.Ip.len];exact hl
 have one:∀{X:Hp} {s:Value} {l:List Nat},Words X s l→∀x∈[Value.int .i64 (K.n:Int),s],x.oneCell'=true:=fun hw=>by have:=aO hw;simpa[Value.oneCell']using this
 intro g
 refine E9 (R:=az _) ?_
 unfold L55
 intro b1 _
 refine aa.mk (Ld.mk (v:=.int .u8 (o.a:Int)) (by exact .head _) rfl ?_)
 have Mo:lz gb kp K.n vr vf refs fs ((b1,Obj.cells o.cells.toArray 106 (0,0))::M) (gG gb kp K.n vr vf CR CF C):=h.look.grow fun _ h=>.tail _ h
 refine ag.fn (C:=((b1,Obj.cells o.cells.toArray 106 (0,0))::M)++gG gb kp K.n vr vf CR CF C) .here (uC Mo h.Ip hK (by omega) (by omega) ho.a) ?_
 rintro w H ⟨M1,rfl,g1,r,_,rfl,lr,w1,⟨s1,rfl,js⟩,FL,JD⟩
 have m1:=g1.sub _ (List.Mem.head _)
 refine Ext.mk rfl (Ext.mk rfl ?_)
 intro b9 _
 refine St.whole (r:=[.int .i64 (K.n:Int),s1]) (by exact .head _) rfl rfl (one js) ?_
 refine aa.mk (Ld.mk (v:=.int .u8 (o.b:Int)) (by exact .tail _ (List.mem_append_left _ m1)) rfl ?_)
 have Mn:lz gb kp K.n vr vf refs fs ((b9,Obj.cells #[.int .i64 (K.n:Int),s1] 57 (0,0))::M1) (gG gb kp K.n vr vf CR CF C):=(Mo.grow g1.sub).grow fun _ h=>.tail _ h
 refine ag.fn (C:=((b9,Obj.cells #[.int .i64 (K.n:Int),s1] 57 (0,0))::M1)++gG gb kp K.n vr vf CR CF C) .here (uC Mn h.Ip hK (by omega) (by omega) ho.b) ?_
 rintro w H ⟨M2,rfl,g2,q,_,rfl,lq,w2,⟨s2,rfl,pW⟩,FK,Qz⟩
 have m1:=g2.sub _ (List.Mem.tail _ m1)
 have m9:=g2.sub _ (List.Mem.head _)
 refine Ext.mk rfl (Ext.mk rfl ?_)
 intro fm _
 refine St.whole (r:=[.int .i64 (K.n:Int),s2]) (by exact .head _) rfl rfl (one pW) ?_
 refine aa.mk (Ld.mk (v:=.int .u8 (o.c:Int)) (by exact .tail _ (List.mem_append_left _ m1)) rfl ?_)
 have Mm:lz gb kp K.n vr vf refs fs ((fm,Obj.cells #[.int .i64 (K.n:Int),s2] 57 (0,0))::M2) (gG gb kp K.n vr vf CR CF C):=(Mn.grow g2.sub).grow fun _ h=>.tail _ h
 refine ag.fn (C:=((fm,Obj.cells #[.int .i64 (K.n:Int),s2] 57 (0,0))::M2)++gG gb kp K.n vr vf CR CF C) .here (uC Mm h.Ip hK (by omega) (by omega) ho.c) ?_
 rintro w H ⟨M3,rfl,g3,p,_,rfl,lp,w3,⟨s3,rfl,Mx⟩,hf3,he3⟩
 have m1:=g3.sub _ (List.Mem.tail _ m1)
 have m9:=g3.sub _ (List.Mem.tail _ m9)
 have m18:=g3.sub _ (List.Mem.head _)
 refine Ext.mk rfl (Ext.mk rfl ?_)
 intro Nc _
 refine St.whole (r:=[.int .i64 (K.n:Int),s3]) (by exact .head _) rfl rfl (one Mx) ?_
 refine aC.whole (r:=o.cells) (by exact .tail _ (List.mem_append_left _ m1)) rfl ?_
 refine aC.whole (r:=[.int .i64 (K.n:Int),s1]) (by exact .tail _ (List.mem_append_left _ m9)) rfl ?_
 refine aC.whole (r:=[.int .i64 (K.n:Int),s2]) (by exact .tail _ (List.mem_append_left _ m18)) rfl ?_
 refine aC.whole (r:=[.int .i64 (K.n:Int),s3]) (by exact .head _) rfl ?_
 have Ml:lz gb kp K.n vr vf refs fs ((Nc,Obj.cells #[.int .i64 (K.n:Int),s3] 57 (0,0))::M3) (gG gb kp K.n vr vf CR CF C):=(Mm.grow g3.sub).grow fun _ h=>.tail _ h
 have t1:dn ((Nc,Obj.cells #[.int .i64 (K.n:Int),s3] 57 (0,0))::M3) (.agg #[.int .i64 (K.n:Int),s1]) K.n (S r):=⟨w1,⟨s1,rfl,js.mono fun x hx=>.tail _ (g3.sub _ (.tail _ (g2.sub _ (.tail _ hx))))⟩,FL,JD⟩
 have t2:dn ((Nc,Obj.cells #[.int .i64 (K.n:Int),s3] 57 (0,0))::M3) (.agg #[.int .i64 (K.n:Int),s2]) K.n (S q):=⟨w2,⟨s2,rfl,pW.mono fun x hx=>.tail _ (g3.sub _ (.tail _ hx))⟩,FK,Qz⟩
 have t3:dn ((Nc,Obj.cells #[.int .i64 (K.n:Int),s3] 57 (0,0))::M3) (.agg #[.int .i64 (K.n:Int),s3]) K.n (S p):=⟨w3,⟨s3,rfl,Mx.mono fun x hx=>.tail _ hx⟩,hf3,he3⟩
 refine ag.fn (C:=((Nc,Obj.cells #[.int .i64 (K.n:Int),s3] 57 (0,0))::M3)++gG gb kp K.n vr vf CR CF C) .here (Gx Ml (by omega) y4 ho t1 t2 t3) ?_
 rintro w H ⟨M4,rfl,g4,_,rfl,w4,⟨s4,rfl,OB⟩,SA,UR⟩
 have m1:=g4.sub _ (List.Mem.tail _ m1)
 refine Ext.mk rfl (Ext.mk rfl ?_)
 intro PE _
 refine St.whole (r:=[.int .i64 (K.n:Int),s4]) (by exact .head _) rfl rfl (one OB) ?_
 refine aC.whole (r:=o.cells) (by exact .tail _ (List.mem_append_left _ m1)) rfl ?_
 have j3:∀s,K.hold s≤50:=fun s=>by
  rw[h.Ip.hold]
  have:=List.count_le_length (a:=s) (l:=refs)
  omega
 have vI:2^K.n≤64:=Nat.pow_le_pow_right (n:=2) (by decide) hn
 have hv:=Nat.mod_lt o.v (show 0<K.n by omega)
 obtain⟨M5,Ta⟩:∃M5:Hp,M5=(PE,Obj.cells #[.int .i64 (K.n:Int),s4] 57 (0,0))::M4:=⟨_,rfl⟩
 have RB:lz gb kp K.n vr vf refs fs M5 (gG gb kp K.n vr vf CR CF C):=by rw[Ta];exact(Ml.grow g4.sub).grow fun _ h=>.tail _ h
 have m38:(PE,Obj.cells #[.int .i64 (K.n:Int),s4] 57 (0,0))∈M5:=by rw[Ta];exact .head _
 have Qq:Words M5 s4 w4:=by rw[Ta];exact OB.mono fun _ h=>.tail _ h
 have gM:bG M M5:=by rw[Ta];exact .cons ((((bG.refl M).cons.trans g1).cons.trans g2).cons.trans g3|>.cons.trans g4)
 change ag Tryz.prog g _ _ (((PE,Obj.cells #[.int .i64 (K.n:Int),s4] 57 (0,0))::M4)++gG gb kp K.n vr vf CR CF C) _ _
 rw[←Ta]
 refine ag.fn (args:=#[ptr gb,.agg o.cells.toArray,u32 r,u32 q,u32 p]) .here (IS (gb:=gb) (vr:=vr) (vf:=vf) (c:=fun Z=>M5++gG gb kp K.n vr vf CR CF Z) (.app (.cons (.app (.app .here)))) (fun Z=>List.mem_append_right _ (.head _)) hK y4 ho lr lq lp (fun s=>by have:=j3 s;omega)) ?_
 rintro w H ⟨C',rfl,(⟨x,K',S',rfl,gE,g6⟩|⟨rfl,_,hno⟩)⟩
 rotate_left
 ·exfalso
  refine hno (Fits.mono (fun g hg=>bM (fun g h'=>?_) hg) (Iv hn hcap iF (L:=fs++[aD.jl K.n w1 (o.v%K.n) false,aD.jl K.n w1 (o.v%K.n) true,w4]) (fun t ht=>?_) (by rw[List.length_append];simp;omega)))
  ·rcases h' with((h'|h')|h')|h'
   ·obtain⟨t,ht,e⟩:=(h.Ip.held g).1 h'
    exact⟨t,List.mem_append_left _ ht,e⟩
   ·exact⟨aD.jl K.n w1 (o.v%K.n) false,by simp,by rw[lQ FL hv,JD];exact h'⟩
   ·exact⟨aD.jl K.n w1 (o.v%K.n) true,by simp,by rw[lQ FL hv,JD];exact h'⟩
   ·exact⟨w4,by simp,by rw[UR];exact h'⟩
  ·rcases List.mem_append.1 ht with ht|ht
   ·exact h.Ip.oJ t ht
   ·simp only[List.mem_cons,List.not_mem_nil,or_false]at ht
    rcases ht with rfl|rfl|rfl
    ·exact aD.ir (by omega)
    ·exact aD.ir (by omega)
    ·exact SA
 refine Ext.mk rfl (Ext.mk rfl ?_)
 refine ae.c7 (Br.aX (by decide) ?_)
 refine DR.self ?_
 refine aC.whole (r:=[.int .i64 (K.n:Int),s4]) (by exact List.mem_append_left _ m38) rfl ?_
 refine Nil.ptr (aa.mk (Ld.mk (v:=ptr kp) (by exact List.mem_append_right _ (.head _)) rfl ?_))
 refine nW fun bs=>?_
 refine⟨.tail,?_⟩
 obtain⟨Uw,hSl,hE⟩:=RB.fn
 have XH:yd gb kp K'.n vr vf refs fs C' ((bs,Obj.cells #[.int .i64 (K.n:Int),s4] 57 (0,0))::(M5++gG gb kp K.n vr vf CR CF C')):=by
  rw[g6.n]
  refine yd.cons ?_ _
  refine⟨List.mem_append_right _ (.head _),h.rf.ints.mono fun _ h=>List.mem_append_right _ (.tail _ (List.mem_append_left _ h)),⟨rs,(Sl.kF h.fn (by decide)).mono fun _ h=>List.mem_append_right _ (.tail _ (List.mem_append_right _ (List.mem_append_left _ h))),h.row.mono fun _ _ h=>h.mono fun _ h=>List.mem_append_left _ (gM.sub _ h)⟩,
   _,.app (.cons (.app (.app .here))),fun Z=>List.mem_append_right _ (.head _)⟩
 have HA:fo ((bs,Obj.cells #[.int .i64 (K.n:Int),s4] 57 (0,0))::(M5++gG gb kp K.n vr vf CR CF C')) (.slice (some ⟨bs,0,none⟩) 1 1) ([w4].map fun ws=>⟨K'.n,ws⟩):=by
  rw[g6.n]
  exact fo.one (cap:=0) (t:=⟨K.n,w4⟩) (.head _) (Qq.mono fun _ h=>.tail _ (List.mem_append_left _ h))
 refine ag.px .here (wZ (ms:=[w4]) XH (by rw[g6.n];exact h.Ip.oJ) gE (by omega) HA (by rw[g6.n];intro t ht;simp at ht;subst ht;exact SA) (by simp) (by simp)) ?_
 rintro w N5 rfl
 refine⟨.o3 .tail,?_⟩
 have hsz:=iV K'.n ord (fs++[w4]) K'.n
 have ac0:2^K'.n*(fs++[w4]).length≤64*51:=by rw[g6.n,List.length_append];exact Nat.mul_le_mul vI (by simp;omega)
 refine ae.aK (b:=2) (by simp only[aB];omega) ?_
 refine ag.rd (.app (.cons (.app (.cons (.app (.app .here)))))) (oB gE.rep) ?_
 rintro w rfl
 refine⟨.o3 .tail,?_⟩
 refine ae.wD ?_
 rw[g6.cap,hcap,decide_eq_true (by omega)]
 refine ae.jt (Br.aX (by decide) ?_)
 refine ae.c7 ?_
 refine cw.or (a:=decide ((0:Int)≠0)) false (fun _=>Un.not ⟨rfl,rfl⟩) (by simp) fun gs=>?_
 refine Br.mk (fun hb=>by simp at hb) (fun _=>?_)
 refine aC.whole (r:=[.int .i64 (K.n:Int),s4]) (by exact List.mem_append_right _ (.tail _ (List.mem_append_left _ m38))) rfl ?_
 have more:=h.Ip.more hK g6 SA UR
 have row':ob (xL (N5++(bs,Obj.cells #[.int .i64 (K.n:Int),s4] 57 (0,0))::M5)) rs (fs.map fun ws=>⟨K'.n,ws⟩):=by
  rw[g6.n]
  exact h.row.mono fun _ _ h=>h.mono fun _ h=>List.mem_append_right _ (.tail _ (gM.sub _ h))
 have eH:N5++(bs,Obj.cells #[.int .i64 (K.n:Int),s4] 57 (0,0))::(M5++gG gb kp K.n vr vf CR CF C')=(N5++(bs,Obj.cells #[.int .i64 (K.n:Int),s4] 57 (0,0))::M5)++gG gb kp K.n vr vf CR CF C':=by rw[List.append_assoc];rfl
 rw[eH]
 by_cases Ei:2≤x
 ·refine ag.fn (.app .here) (Lx (n:=K.n) Ei (s:=s4) h.rf h.fn (aO OB) (by omega) (by rw[h.Wx];omega)) ?_
  rintro w H ⟨BZ,Js,F0,JW,rfl,hr',wW⟩
  refine az.here ⟨rfl,x,r,q,p,K',S',refs++[x],fs++[w4],BZ,Js,_,F0,JW,C',rs++[[.int .i64 (K.n:Int),s4]],rfl,.app (.cons gM),⟨gE,more.1 Ei,hr',wW,?_⟩,g6.n,g6.cap,by rw[if_pos Ei],g6.is,g6.live,g6.fn⟩
  refine⟨by rw[List.length_append,row'.1,List.map_append,List.length_append];rfl,fun i row t hr ht=>?_⟩
  rw[List.map_append]at ht
  by_cases hi:i<rs.length
  ·rw[List.getElem?_append_left hi]at hr
   rw[List.getElem?_append_left (by rw[←row'.1];exact hi)]at ht
   exact row'.2 i row t hr ht
  ·rw[List.getElem?_append_right (by omega)]at hr
   rw[List.getElem?_append_right (by rw[←row'.1];omega),←row'.1]at ht
   have h0:i-rs.length=0:=by
    have:=(List.getElem?_eq_some_iff.1 hr).1
    simp at this;omega
   rw[h0]at hr ht
   simp at hr ht
   subst hr;subst ht
   exact⟨s4,by rw[g6.n],Qq.mono fun _ h=>List.mem_append_right _ (.tail _ h)⟩
 ·refine ag.fn .here (Ly (gb:=gb) (n:=K.n) (r:=x) (by omega) _) ?_
  rintro w H rfl
  exact az.here ⟨rfl,x,r,q,p,K',S',refs,fs,vr,vf,_,CR,CF,C',rs,rfl,.app (.cons gM),⟨gE,more.2 (by omega),h.rf,h.fn,row'⟩,g6.n,g6.cap,by rw[if_neg Ei,List.append_nil],g6.is,g6.live,g6.fn⟩
end
end Go.Proofs
set_option maxRecDepth 100000
namespace Go.Proofs
open Go Go.Sx
open aE
section
variable {kp gb n:Nat} {vr vf:Value} {refs:List Nat} {fs:List (List Nat)} {K:Kd} {S:Nat→aE.Fn} {ord ah tr:List Nat} {C B:Hp}
theorem xE(hG:yd gb kp K.n vr vf refs fs C B)(hK:cF kp K S ord ah tr C){r l:Nat}(hr:live K.N r)(hl:l<dep K.n (lv ah) K.N r):
  Rd Tryz.prog 149 #[ptr gb,u32 r,.int .i64 (l:Int)] B (· =.bool true):=by
 obtain⟨c,hc,_⟩:=hG.hole
 have hlt:=hK.bY hr
 intro g
 refine Bm (R:=az _) ?_
 unfold L149
 refine Nil.ptr (aa.mk (Ld.mk (v:=ptr kp) (by exact hG.cell) rfl ?_))
 refine ag.rd (args:=#[ptr kp,u32 r]) hc (gR hK.rep (by omega)) ?_
 rw[bI.2 hr]
 rintro w rfl
 refine Ext.mk rfl (Ext.mk rfl ?_)
 intro b8 _
 refine St.whole (r:=got K.N r) (by exact .head _) rfl (aJ _ _).1 (aJ _ _).2 ?_
 refine ae.c7 ?_
 rw[show decide ((if true=true then(0:Int)else 3)≠0)=false by decide]
 refine cw.or (a:=false) (decide (r<2)) (fun _=>ae.fq (b:=2) ⟨rfl,rfl⟩) rfl fun gs=>?_
 rw[Bool.false_or]
 refine Br.dec (fun h2=>?_) (fun h2=>?_)
 ·exact ae.jt (cr.mk .tail rfl)
 ·obtain⟨d,hd⟩:∃d,K.N r=some d:=by rcases hr with h|h;exact absurd h h2;exact h
  have hv:=hK.ok.wf.var hd
  rw[av hd]at hl
  refine DR.self ?_
  refine Nil.ptr (aa.mk (Ld.mk (v:=ptr kp) (by exact .tail _ hG.cell) rfl ?_))
  rw[cY hd (by omega)]
  refine aa.mk (Ld.mk (v:=.int .i64 (d.v:Int)) (by exact .head _) rfl ?_)
  refine ag.rd (.cons hc) (lM hK.rep (d.v:Int)) ?_
  rw[if_pos (by omega)]
  rintro w rfl
  refine⟨.refl _,?_⟩
  refine Ext.mk rfl (Ext.mk rfl ?_)
  refine ae.jt ?_
  refine cw.and (a:=decide ((0:Int)=0)) (decide (l<lv ah d.v)) (fun _=>ae.nP ⟨rfl,rfl⟩) (by simp) fun gs=>?_
  rw[decide_eq_true hl]
  exact cr.mk .tail rfl
set_option maxHeartbeats 1000000 in
theorem Ku(hn:K.n≤16)(hK:cF kp K S ord ah tr C):∀(k:Nat) (r deep:Nat),K.n-dep K.n (lv ah) K.N r≤k→k+1≤deep→deep≤1000→∀(B:Hp) (t:Value),yd gb kp K.n vr vf refs fs C B→live K.N r→dn B t K.n (S r)→
  Px Tryz.prog 66 #[ptr gb,u32 r,t,.int .i64 (deep:Int)] B (fun w _=>w=.bool true):=by
 have hW:=hK.ok.wf
 have hL:=hK.ok.lv
 have hI:=hK.ok.mid.int
 intro k
 induction k with
 |zero=>
  intro r deep hk hd hdm B t hG hr ht
  obtain⟨c,hc,_⟩:=hG.hole
  have hlt:=hK.bY hr
  obtain⟨ws,⟨s,rfl,hw⟩,hf,he⟩:=ht
  have h2:r<2:=by
   rcases hr with h|⟨d,cI⟩
   ·exact h
   ·rw[av cI]at hk
    have:=hL.lt _ (hW.var cI);omega
  have h1:∀{s:Value} {X:Hp} {l:List Nat},Words X s l→∀x∈[Value.int .i64 (K.n:Int),s],x.oneCell'=true:=fun hw=>by have:=aO hw;simpa[Value.oneCell']using this
  intro g
  refine tR (R:=az _) ?_
  unfold L66
  intro b1 _
  refine ae.fO (b:=0) (Br.aX (by omega) ?_)
  refine Nil.ptr (aa.mk (Ld.mk (v:=ptr kp) (by exact .tail _ hG.cell) rfl ?_))
  refine ag.rd (args:=#[ptr kp,u32 r]) (.cons hc) (gR hK.rep (by omega)) ?_
  rw[bI.2 hr]
  rintro w rfl
  refine Ext.mk rfl (Ext.mk rfl ?_)
  intro zw _
  refine St.whole (r:=got K.N r) (by exact .head _) rfl (aJ _ _).1 (aJ _ _).2 ?_
  rw[dx h2]
  refine ae.c7 (Br.aX (by decide) ?_)
  refine ae.fq (b:=2) (Br.dS h2 ?_)
  refine Nil.ptr (aa.mk (Ld.mk (v:=.int .i64 (K.n:Int)) (by exact .tail _ (.tail _ hG.cell)) rfl ?_))
  refine ae.fO (b:=1) ?_
  refine ag.px .here (sV hn (decide (r=1)) _) ?_
  rintro w N ⟨_,rfl,ws',⟨s',rfl,cU⟩,wW,he'⟩
  refine Ext.mk rfl (Ext.mk rfl ?_)
  intro PG _
  refine St.whole (r:=[.int .i64 (K.n:Int),s']) (by exact .head _) rfl rfl (h1 cU) ?_
  intro J hJ
  refine ae.jt ?_
  refine Split.go (by decide) ?_
  refine aa.mk (Ld.mk (v:=.int .i64 (-1)) (by exact .tail _ (List.mem_append_right _ (.head _))) rfl ?_)
  refine ae.jt (aA.mk ?_)
  refine Split.go (by decide) ?_
  refine aC.whole (r:=[.int .i64 (K.n:Int),s']) (by exact .head _) rfl ?_
  refine aC.whole (r:=[.int .i64 (K.n:Int),s]) (by exact .tail _ (List.mem_append_right _ (.tail _ (.head _)))) rfl ?_
  refine ag.rd .here (nr (n:=K.n) (f:=fun _=>decide (r=1)) (f':=S r) ⟨ws',⟨s',rfl,cU.mono (fun _ h=>by repeat (first|exact h|apply List.mem_cons_of_mem|apply List.mem_append_right))⟩,wW,he'⟩ ⟨ws,⟨s,rfl,hw.mono (fun _ h=>by repeat (first|exact h|apply List.mem_cons_of_mem|apply List.mem_append_right))⟩,hf,he⟩) ?_
  rintro w ⟨x,rfl,hx⟩
  have:x=true:=hx.2 (by
   have:r=0∨r=1:=by omega
   rcases this with rfl|rfl
   ·exact funext fun x=>(hI.zero x).symm
   ·exact funext fun x=>(hI.one x).symm)
  subst this
  refine aA.mk (JE.mk (hJ _ _ fun gs=>?_))
  exact Du.mk (by repeat (first|exact bG.refl _|apply bG.cons|apply bG.app)) rfl
 |succ k ih=>
  intro r deep hk hd hdm B t hG hr ht
  by_cases MG:K.n-dep K.n (lv ah) K.N r≤k
  ·exact ih r deep MG (by omega) hdm B t hG hr ht
  obtain⟨c,hc,_⟩:=hG.hole
  have hlt:=hK.bY hr
  have h0:=ht
  obtain⟨ws,⟨s,hts,hw⟩,hf,he⟩:=ht
  have hts:t=.agg #[.int .i64 (K.n:Int),s]:=hts
  subst hts
  obtain⟨d,cI⟩:∃d,K.N r=some d:=by
   cases e:K.N r with
   |none=>rw[aT e]at MG;omega
   |some d=>exact⟨d,rfl⟩
  have h2:=hW.two cI
  have hv:=hW.var cI
  have ed:=av (n:=K.n) (ah:=lv ah) cI
  have hlo:=hW.lo cI
  have hhi:=hW.hi cI
  have hne:=hK.ok.mid.ne cI
  have h1:∀{s:Value} {X:Hp} {l:List Nat},Words X s l→∀x∈[Value.int .i64 (K.n:Int),s],x.oneCell'=true:=fun hw=>by have:=aO hw;simpa[Value.oneCell']using this
  intro g
  refine tR (R:=az _) ?_
  unfold L66
  intro b1 _
  refine ae.fO (b:=0) (Br.aX (by omega) ?_)
  refine Nil.ptr (aa.mk (Ld.mk (v:=ptr kp) (by exact .tail _ hG.cell) rfl ?_))
  refine ag.rd (args:=#[ptr kp,u32 r]) (.cons hc) (gR hK.rep (by omega)) ?_
  rw[bI.2 hr]
  rintro w rfl
  refine Ext.mk rfl (Ext.mk rfl ?_)
  intro zw _
  refine St.whole (r:=got K.N r) (by exact .head _) rfl (aJ _ _).1 (aJ _ _).2 ?_
  rw[cY cI h2]
  refine ae.c7 (Br.aX (by decide) ?_)
  refine ae.fq (b:=2) (Br.aX (by omega) ?_)
  refine DR.self ?_
  refine Nil.ptr (aa.mk (Ld.mk (v:=ptr kp) (by exact .tail _ (.tail _ hG.cell)) rfl ?_))
  refine aa.mk (Ld.mk (v:=.int .i64 (d.v:Int)) (by exact .head _) rfl ?_)
  refine ag.rd (.cons (.cons hc)) (lM hK.rep (d.v:Int)) ?_
  rw[if_pos (by omega)]
  rintro w rfl
  refine⟨.refl _,?_⟩
  refine Ext.mk rfl (Ext.mk rfl ?_)
  refine aC.whole (r:=[.int .i64 (K.n:Int),s]) (by exact .tail _ (.head _)) rfl ?_
  refine aa.mk (Ld.mk (v:=.int .i64 (d.v:Int)) (by exact .head _) rfl ?_)
  refine ag.px .here (kx (c:=false) (h0.mono (fun _ h=>by repeat (first|exact h|apply List.mem_cons_of_mem|apply List.mem_append_right))) hv) ?_
  rintro w N1 ⟨_,rfl,w1,⟨s1,rfl,js⟩,FL,JD⟩
  refine Ext.mk rfl (Ext.mk rfl ?_)
  intro TG _
  refine St.whole (r:=[.int .i64 (K.n:Int),s1]) (by exact .head _) rfl rfl (h1 js) ?_
  refine aC.whole (r:=[.int .i64 (K.n:Int),s]) (by exact .tail _ (List.mem_append_right _ (.tail _ (.head _)))) rfl ?_
  refine aa.mk (Ld.mk (v:=.int .i64 (d.v:Int)) (by exact .tail _ (List.mem_append_right _ (.head _))) rfl ?_)
  refine ag.px .here (kx (c:=true) (h0.mono (fun _ h=>by repeat (first|exact h|apply List.mem_cons_of_mem|apply List.mem_append_right))) hv) ?_
  rintro w N2 ⟨_,rfl,w2,⟨s2,rfl,pW⟩,FK,Qz⟩
  refine Ext.mk rfl (Ext.mk rfl ?_)
  intro TE _
  refine St.whole (r:=[.int .i64 (K.n:Int),s2]) (by exact .head _) rfl rfl (h1 pW) ?_
  obtain⟨Q,hQ⟩:∃Q:Hp,Q=(TE,Obj.cells #[.int .i64 (K.n:Int),s2] 57 (0,0))::(N2++((TG,.cells #[.int .i64 (K.n:Int),s1] 57 (0,0))::(N1++((zw,.cells (aV d).toArray 161 (0,0))::(b1,.cells (Value.agg #[.int .i64 (K.n:Int),s]).cells 57 (0,0))::B)))):=⟨_,rfl⟩
  have gQ:bG B Q:=by rw[hQ];exact .cons (.app (.cons (.app (.cons (.cons (.refl _))))))
  have Qn:(zw,Obj.cells (aV d).toArray 161 (0,0))∈Q:=by rw[hQ];exact .tail _ (List.mem_append_right _ (.tail _ (List.mem_append_right _ (.head _))))
  have q61:(TG,Obj.cells #[.int .i64 (K.n:Int),s1] 57 (0,0))∈Q:=by rw[hQ];exact .tail _ (List.mem_append_right _ (.head _))
  have q71:(TE,Obj.cells #[.int .i64 (K.n:Int),s2] 57 (0,0))∈Q:=by rw[hQ];exact .head _
  have U4:=hG.grow gQ
  have tlo:dn Q (.agg #[.int .i64 (K.n:Int),s1]) K.n (S d.lo):=by
   rw[hQ]
   exact⟨w1,⟨s1,rfl,js.mono (fun _ h=>by repeat (first|exact h|apply List.mem_cons_of_mem|apply List.mem_append_right))⟩,FL,JD.trans (funext fun x=>hW.child hL hI cI x false)⟩
  have thi:dn Q (.agg #[.int .i64 (K.n:Int),s2]) K.n (S d.hi):=by
   rw[hQ]
   exact⟨w2,⟨s2,rfl,pW.mono (fun _ h=>by repeat (first|exact h|apply List.mem_cons_of_mem|apply List.mem_append_right))⟩,FK,Qz.trans (funext fun x=>hW.child hL hI cI x true)⟩
  intro J hJ
  have FO:J [.bool false] Q:=by
   refine hJ _ _ fun gs=>Br.no ?_
   intro J2 y8
   refine aa.mk (Ld.mk (v:=u32 d.lo) (by exact Qn) rfl ?_)
   refine aC.whole (r:=[.int .i64 (K.n:Int),s1]) (by exact q61) rfl ?_
   refine ae.bJ (b:=1) (by simp[aB];omega) (by omega) ?_
   refine ag.px .here (ih d.lo (deep-1) (by omega) (by omega) (by omega) Q _ U4 hlo.1 tlo) ?_
   rintro w N3 rfl
   refine Split.go rfl ?_
   refine aa.mk (Ld.mk (v:=u32 d.hi) (by exact List.mem_append_right _ Qn) rfl ?_)
   refine aC.whole (r:=[.int .i64 (K.n:Int),s2]) (by exact List.mem_append_right _ q71) rfl ?_
   refine ae.bJ (b:=1) (by simp[aB];omega) (by omega) ?_
   refine ag.px .here (ih d.hi (deep-1) (by omega) (by omega) (by omega) (N3++Q) _ (U4.app N3) hhi.1 (thi.mono (fun _ h=>by repeat (first|exact h|apply List.mem_cons_of_mem|apply List.mem_append_right)))) ?_
   rintro w N4 rfl
   refine aA.mk (JE.mk (y8 _ _ fun gs=>?_))
   exact Du.mk (.app (.app gQ)) rfl
  rw[←hQ]
  refine ae.c7 ?_
  refine Split.go (by decide) ?_
  refine ae.c7 (aA.mk ?_)
  refine Split.go (by decide) ?_
  refine ae.c7 (aA.mk ?_)
  refine Split.go (by decide) ?_
  refine aa.mk (Ld.mk (v:=u32 d.lo) (by exact Qn) rfl ?_)
  refine aa.mk (Ld.mk (v:=u32 d.hi) (by exact Qn) rfl ?_)
  refine ae.fO (aA.mk ?_)
  rw[decide_eq_false hne]
  refine Split.go rfl ?_
  refine aa.mk (Ld.mk (v:=u32 d.lo) (by exact Qn) rfl ?_)
  refine ag.rd .here (xE U4 hK hlo.1 hlo.2) ?_
  rintro w rfl
  refine Un.not (aA.mk ?_)
  refine Split.go rfl ?_
  refine aa.mk (Ld.mk (v:=u32 d.hi) (by exact Qn) rfl ?_)
  refine ag.rd .here (xE U4 hK hhi.1 hhi.2) ?_
  rintro w rfl
  refine Un.not (aA.mk (JE.mk FO))
theorem LF(hG:yd gb kp K.n vr vf refs fs C B)(hg:sO K S refs fs)(hK:cF kp K S ord ah tr C)(hn:K.n≤16)(hm:refs.length<65536)(hne:refs≠[]):
  Px Tryz.prog 21 #[ptr gb] B (fun w _=>w=.bool true):=by
 obtain⟨c,hc,_⟩:=hG.hole
 have hcap:=hK.ok.mid.cap
 have hroom:=hK.ok.mid.room
 have hfl:fs.length=refs.length:=hg.len.symm
 have XJ:fs≠[]:=fun e=>hne (List.length_eq_zero_iff.1 (by rw[←hfl,e];rfl))
 have hsize:K.used-2=gf K.n ord fs K.n:=by
  have h1:=hK.ok.size hK.od
  have h2:=IE (n:=K.n) (ord:=ord) (L:=fs) hg.oJ hn (fun i hi=>(hK.od.oS i hi).1)
  rw[show K.held S=FT K.n fs from funext fun g=>propext (hg.held g)]at h1
  exact h1.uniq h2
 have inj:∀i j,i<refs.length→j<refs.length→(refs.getD i 0=refs.getD j 0↔eo K.n (fs.getD i [])=eo K.n (fs.getD j [])):=fun i j hi hj=>by
  obtain⟨_,e1⟩:=hg.is i hi
  obtain⟨_,e2⟩:=hg.is j hj
  have m1:refs.getD i 0∈refs:=by rw[List.getD_eq_getElem?_getD,List.getElem?_eq_getElem hi];exact List.getElem_mem hi
  have m2:refs.getD j 0∈refs:=by rw[List.getD_eq_getElem?_getD,List.getElem?_eq_getElem hj];exact List.getElem_mem hj
  rw[e1,e2]
  exact⟨fun h=>by rw[h],fun h=>hK.ok.wf.same hK.ok.lv hK.ok.mid.int (hg.live hK m1) (hg.live hK m2) (congrFun h)⟩
 have iD:∀{X:Hp} {i:Nat} {k:Value→Prop} {R:Hp},fo X vf (fs.map fun ws=>⟨K.n,ws⟩)→i<refs.length→(∀x∈X,x∈R)→(∀t,dn X t K.n (eo K.n (fs.getD i []))→k t)→ai 2 vf (.int .i64 (i:Int)) fun p=>aC 2 R p k:=fun{X i k R} hT hi hs hk=>by
  have hi':i<fs.length:=by omega
  have e':fs.getD i []=fs[i]:=by rw[List.getD_eq_getElem?_getD,List.getElem?_eq_getElem hi'];rfl
  refine hT.ld (i:=i) (t:=⟨K.n,fs[i]⟩) (by rw[List.getElem?_map,List.getElem?_eq_getElem hi'];rfl) hs fun s hw=>hk _ ?_
  exact⟨fs[i],⟨s,rfl,hw⟩,hg.oJ _ (List.getElem_mem hi'),by rw[e']⟩
 intro g
 refine Fj (R:=az _) ?_
 unfold L21
 intro J1 Pn
 have hJ:∀N:Hp,J1 [.bool false] (N++B):=by
  intro N
  refine Pn _ _ fun gs=>Br.no ?_
  refine⟨fun vs H=>∃i:Nat,vs=[.int .i64 (i:Int)]∧i≤refs.length∧bG B H,fun vs _=>refs.length-bR vs 0,JE.mk ⟨0,rfl,Nat.zero_le _,.app (.refl _)⟩,?_⟩
  rintro w9 H ⟨i,hv,hi,g6⟩ gs
  simp only[List.cons.injEq,and_true]at hv
  subst hv
  have MS:=hG.grow g6
  refine Nil.ptr (aa.mk (Ld.mk (v:=vr) (by exact MS.cell) rfl ?_))
  refine MS.rf.bS ?_
  rw[aq]
  refine ae.fq (Br.dec (fun hlt=>?_) (fun hlt=>?_))
  rotate_left
  ·exact Du.mk g6 rfl
  refine DR.self ?_
  refine Nil.ptr (aa.mk (Ld.mk (v:=vr) (by exact MS.cell) rfl ?_))
  refine MS.rf.ld (n:=((refs.getD i 0:Nat):Int)) (bc hlt) (fun _ h=>h) ?_
  refine Nil.ptr (aa.mk (Ld.mk (v:=vf) (by exact MS.cell) rfl ?_))
  refine iD MS.fn hlt (fun _ h=>h) fun t ht=>?_
  refine Nil.ptr (aa.mk (Ld.mk (v:=.int .i64 (K.n:Int)) (by exact MS.cell) rfl ?_))
  refine ae.uH (a:=2) (by simp[aB];omega) ?_
  refine ae.aK (b:=2) (by simp[aB];omega) ?_
  obtain⟨_,e1⟩:=hg.is i hlt
  have mi:refs.getD i 0∈refs:=by rw[List.getD_eq_getElem?_getD,List.getElem?_eq_getElem hlt];exact List.getElem_mem hlt
  rw[e1]at ht
  refine ag.px .here (Ku hn hK K.n (refs.getD i 0) (2*K.n+2) (by omega) (by omega) (by omega) H t MS (hg.live hK mi) ht) ?_
  rintro w N2 rfl
  refine⟨.right,Un.not (Br.no ?_)⟩
  refine⟨fun vs H'=>∃j:Nat,vs=[.int .i64 (j:Int)]∧j≤i∧bG B H',fun vs _=>i-bR vs 0,JE.mk ⟨0,rfl,Nat.zero_le _,.app g6⟩,?_⟩
  rintro yg H2 ⟨j,hv,hj,O3⟩ gs
  simp only[List.cons.injEq,and_true]at hv
  subst hv
  have MT:=hG.grow O3
  refine ae.fq (Br.dec (fun iG=>?_) (fun iG=>?_))
  ·refine DR.self ?_
   have CI:j<refs.length:=by omega
   refine Nil.ptr (aa.mk (Ld.mk (v:=vr) (by exact MT.cell) rfl ?_))
   refine MT.rf.ld (n:=((refs.getD i 0:Nat):Int)) (bc hlt) (fun _ h=>h) ?_
   refine Nil.ptr (aa.mk (Ld.mk (v:=vr) (by exact MT.cell) rfl ?_))
   refine MT.rf.ld (n:=((refs.getD j 0:Nat):Int)) (bc CI) (fun _ h=>h) ?_
   refine ae.fO ?_
   refine Nil.ptr (aa.mk (Ld.mk (v:=vf) (by exact MT.cell) rfl ?_))
   refine iD MT.fn hlt (fun _ h=>h) fun t1 ht1=>?_
   refine Nil.ptr (aa.mk (Ld.mk (v:=vf) (by exact MT.cell) rfl ?_))
   refine iD MT.fn CI (fun _ h=>h) fun t2 MA=>?_
   refine ag.rd .here (nr ht1 MA) ?_
   rintro w ⟨x,rfl,hx⟩
   refine⟨.refl _,?_⟩
   have ex:x=decide (refs.getD i 0=refs.getD j 0):=by
    by_cases e:refs.getD i 0=refs.getD j 0
    ·rw[decide_eq_true e];exact hx.2 ((inj i j hlt CI).1 e)
    ·rw[decide_eq_false e]
     cases x with
     |false=>rfl
     |true=>exact absurd ((inj i j hlt CI).2 (hx.1 rfl)) e
   rw[ex]
   refine ae.WE (Br.mk (fun hb=>by simp at hb) fun _=>?_)
   refine ae.aK (b:=1) (by simp[aB];omega) ?_
   exact aF.mk ⟨j+1,rfl,by omega,O3⟩ (by simp only[bR];omega)
  ·refine ae.aK (b:=1) (by simp[aB];omega) ?_
   exact aF.mk ⟨i+1,rfl,hlt,O3⟩ (by simp only[bR];omega)
 refine DR.self ?_
 refine Nil.ptr (aa.mk (Ld.mk (v:=ptr kp) (by exact hG.cell) rfl ?_))
 intro F
 refine ag.rd hc (pU hK.rep (by omega) (by omega)) ?_
 rintro w rfl
 refine⟨.refl _,?_⟩
 intro F
 have HA:fo B (.slice none 0 0) (([]:List (List Nat)).map fun ws=>⟨K.n,ws⟩):=⟨[],Sl.nil _ _,ob.nil⟩
 refine ag.px .here (wZ (ms:=[]) hG hg.oJ hK (by omega) HA (by simp) (by simp) (by simpa using XJ)) ?_
 rintro w N1 rfl
 rw[List.append_nil,←hsize]
 refine⟨.right,?_⟩
 refine ae.GX (Br.aX (by simp) ?_)
 refine Nil.ptr (aa.mk (Ld.mk (v:=ptr kp) (by exact hG.cell) rfl ?_))
 refine Nil.ptr (aa.mk (Ld.mk (v:=ptr kp) (by exact hG.cell) rfl ?_))
 intro F
 refine ag.rd (.app hc) (pU hK.rep (by omega) (by omega)) ?_
 rintro w rfl
 refine⟨.right,?_⟩
 refine ae.aK (b:=2) (by simp only[aB];omega) ?_
 intro F
 refine ag.rd (.app hc) (oB hK.rep) ?_
 rintro w rfl
 refine⟨.right,?_⟩
 refine ae.nP ?_
 rw[decide_eq_false (by omega)]
 exact aA.mk (JE.mk (hJ N1))
end
end Go.Proofs
set_option maxRecDepth 100000
namespace Go.Proofs
open Go Go.Sx
open aE
section
variable {B:Hp}
theorem ur{v:Value}{l:List Int}(hl:c6 .i64 B v l)(bX:l.length<1048576):Fc Tryz.prog 16 #[v] B (fun w H=>∃N,H=N++B∧aN 3 .i64 w l N):=by
 intro g
 refine Fp (R:=az _) ?_
 unfold L16
 refine⟨fun vs H=>∃(i:Nat) (s:Value) (CL:Hp),vs=[s,.int .i64 (i:Int)]∧i≤l.length∧H=CL++B∧aN 3 .i64 s (l.take i) CL,fun vs _=>l.length-bR vs 1,JE.mk ⟨0,_,[],rfl,Nat.zero_le _,rfl,aN.nil⟩,?_⟩
 rintro w5 w6 H ⟨i,s,CL,hv,hi,rfl,hL⟩ gs
 simp only[List.cons.injEq,and_true]at hv
 obtain⟨rfl,rfl⟩:=hv
 refine hl.bS ?_
 show ae .num .lss (.int .i64 (i:Int)) (.int .i64 ((l.length:Nat):Int)) _
 refine ae.fq (Br.dec (fun hlt=>?_) (fun hlt=>?_))
 ·refine hl.ld (List.getElem?_eq_getElem hlt) (fun _ h=>List.mem_append_right _ h) ?_
  refine au.int (e:=3) (by kernel_rfl) (by kernel_rfl) (by kernel_rfl) fun bx=>?_
  refine hL.pG (x:=l[i]) (.cons .left) (by exact .head _) (by rw[List.length_take];omega) (by rw[List.length_take];omega) fun s' CL' U3=>?_
  refine ae.aK (b:=1) (by simp[aB];omega) ?_
  refine aF.of .tail ⟨i+1,s',CL',rfl,hlt,rfl,?_⟩ (by simp only[bR];omega)
  rw[List.take_succ_eq_append_getElem hlt];exact U3
 ·obtain rfl:i=l.length:=by omega
  rw[List.take_length]at hL
  exact az.here ⟨CL,rfl,hL⟩
theorem o5{v1 v2:Value}{a b:List Int}(h1:c6 .i64 B v1 a)(h2:c6 .i64 B v2 b)(bX:a.length<9223372036854775807):Rd Tryz.prog 19 #[v1,v2] B (· =.bool (decide (a=b))):=by
 intro g
 refine Fl (R:=az _) ?_
 unfold L19
 refine h1.bS (h2.bS ?_)
 refine ae.GX (Br.dec (fun h=>?_) (fun h=>?_))
 ·exact cr.mk (.refl _) (by rw[decide_eq_false (fun e=>h (by rw[e]))])
 refine⟨fun vs H=>∃i:Nat,vs=[.int .i64 (i:Int)]∧i≤a.length∧H=B∧a.take i=b.take i,fun vs _=>a.length-bR vs 0,JE.mk ⟨0,rfl,Nat.zero_le _,rfl,rfl⟩,?_⟩
 rintro w8 H ⟨i,hv,hi,rfl,gD⟩ gs
 simp only[List.cons.injEq,and_true]at hv
 subst hv
 refine h1.bS ?_
 show ae .num .lss (.int .i64 (i:Int)) (.int .i64 ((a.length:Nat):Int)) _
 refine ae.fq (Br.dec (fun hlt=>?_) (fun hlt=>?_))
 ·have iG:i<b.length:=by omega
  refine h1.ld (List.getElem?_eq_getElem hlt) (fun _ h=>h) ?_
  refine h2.ld (List.getElem?_eq_getElem iG) (fun _ h=>h) ?_
  refine ae.c7 (Br.dec (fun hne=>?_) (fun hne=>?_))
  ·refine cr.mk (.refl _) (by rw[decide_eq_false];intro e;subst e;exact hne rfl)
  ·refine ae.aK (b:=1) (by simp[aB];omega) ?_
   refine aF.mk ⟨i+1,rfl,hlt,rfl,?_⟩ (by simp only[bR];omega)
   rw[List.take_succ_eq_append_getElem hlt,List.take_succ_eq_append_getElem iG,gD]
   congr 2
   exact Classical.byContradiction hne
 ·obtain rfl:i=a.length:=by omega
  rw[List.take_length,show a.length=b.length by omega,List.take_length]at gD
  exact cr.mk (.refl _) (by rw[decide_eq_true gD])
end
end Go.Proofs
set_option maxRecDepth 100000
namespace Go.Proofs
open Go Go.Sx
open aE
section
variable {Y:Hp}
theorem yP{n cap:Nat}(hn:1≤n∧n≤64)(hc:2≤cap∧cap≤1048576):Fc Tryz.prog 54 #[.int .i64 (n:Int),.int .i64 (cap:Int)] Y (fun w H=>∃gb kp C,w=ptr gb∧H=Y++gG gb kp n (.slice none 0 0) (.slice none 0 0) [] [] C∧cF kp (K0 n cap) S0 (List.range n) (List.range n) [] C):=by
 intro g
 refine Fa (R:=az _) ?_
 unfold L54
 refine ag.fn (bP.left (C:=[]) (A:=Y)) (N0 hn hc) ?_
 rintro w C ⟨kp,rfl,hK⟩
 refine Ext.mk rfl (Ext.mk rfl ?_)
 intro J hJ
 have FO:J [.bool false] (C++Y):=by
  refine hJ _ _ fun gs=>Br.no ?_
  refine Build.mk (cs:=[ptr kp,.int .i64 (n:Int),.slice none 0 0,.slice none 0 0]) (by kernel_rfl) ?_
  intro gb _
  refine az.mk ?_ ⟨gb,kp,C,rfl,rfl,hK⟩
  refine .perm ?_
  show((gb,_)::(C++Y)).Perm (Y++(fN gb kp n (.slice none 0 0) (.slice none 0 0)::C))
  exact(List.perm_append_comm (l₁:=_::C) (l₂:=Y))
 refine ae.c7 ?_
 refine Split.go (by decide) ?_
 refine ae.bK (aA.mk ?_)
 refine Split.go rfl ?_
 refine ag.rd .left (gO hK.rep) ?_
 rintro w rfl
 refine ae.c7 (aA.mk ?_)
 refine Split.go (by show decide _=false;exact decide_eq_false (fun h=>h rfl)) ?_
 refine ag.rd .left (oB hK.rep) ?_
 rintro w rfl
 refine ae.c7 (aA.mk ?_)
 refine Split.go (by show decide _=false;exact decide_eq_false (fun h=>h rfl)) ?_
 refine ag.rd .left (pU hK.rep (by show 2≤2;omega) (by show 2≤1048576;omega)) ?_
 rintro w rfl
 refine ae.c7 (aA.mk ?_)
 exact JE.mk FO
def Grown(n:Nat)(Y:Hp)(w:Value)(H:Hp):Prop:=
 ∃(gb kp:Nat) (K:Kd) (S:Nat→aE.Fn) (refs:List Nat) (fs:List (List Nat)) (vr vf:Value) (M CR CF C:Hp) (rs:List (List Value)) (tr:List Nat),w=ptr gb∧H=M++gG gb kp n vr vf CR CF C∧bG Y M∧Mb gb kp K S (List.range n) (List.range n) tr refs fs vr vf M CR CF C rs∧K.n=n∧K.cap=4000∧n≤refs.length∧refs.length≤n+30∧tr=[]
theorem YM{n cap:Nat}:sO (K0 n cap) S0 [] []:=⟨rfl,by simp,fun i hi=>absurd hi (by simp),fun s=>by simp[K0,Kd.hold]⟩
theorem yA{kp:Nat}{K:Kd}{S:Nat→aE.Fn}{ord ah tr:List Nat}{C:Hp}(hK:cF kp K S ord ah tr C){x v:Nat}(h:S x=fun y=>y.testBit v):2≤x:=by
 refine Classical.byContradiction fun h2=>?_
 have hint:=hK.ok.mid.int
 have QI:x=0∨x=1:=by omega
 rcases QI with rfl|rfl
 ·have:=congrFun h (2^v)
  rw[hint.zero,Nat.testBit_two_pow_self]at this
  cases this
 ·have:=congrFun h 0
  rw[hint.one,Nat.zero_testBit]at this
  cases this
theorem Ii{n:Nat}(hn:1≤n∧n≤6){sv:Value}{ops:List r6}(hs:Sl 6 Y sv (ops.map r6.cells))(ho:∀o∈ops,o.Ok)(bX:ops.length<9223372036854775808):
  Fc Tryz.prog 12 #[.int .i64 (n:Int),sv] Y (Grown n Y):=by
 intro g
 refine Fv (R:=az _) ?_
 unfold L12
 refine ag.fn (args:=#[.int .i64 (n:Int),.int .i64 ((4000:Nat):Int)]) .here (yP (Y:=Y) (n:=n) (cap:=4000) ⟨hn.1,by omega⟩ (by decide)) ?_
 rintro w H ⟨gb,kp,C0,rfl,rfl,hK0⟩
 refine ae.bK (Br.no ?_)
 obtain⟨YZ,Pe⟩:∃YZ:Nat→Hp→Prop,YZ=fun m H=>∃(K:Kd) (S:Nat→aE.Fn) (refs:List Nat) (fs:List (List Nat)) (vr vf:Value) (M CR CF C:Hp) (rs:List (List Value)),H=M++gG gb kp n vr vf CR CF C∧bG Y M∧Mb gb kp K S (List.range n) (List.range n) [] refs fs vr vf M CR CF C rs∧K.n=n∧K.cap=4000∧n≤refs.length∧refs.length≤m:=⟨_,rfl⟩
 refine⟨fun vs H=>∃(i:Nat) (K:Kd) (S:Nat→aE.Fn) (refs:List Nat) (fs:List (List Nat)) (vr vf:Value) (M CR CF C:Hp) (rs:List (List Value)),vs=[.int .i64 (i:Int)]∧i≤n∧H=M++gG gb kp n vr vf CR CF C∧bG Y M∧Mb gb kp K S (List.range n) (List.range n) [] refs fs vr vf M CR CF C rs∧K.n=n∧K.cap=4000∧refs.length=i,fun vs _=>n-bR vs 0,
  JE.mk ⟨0,K0 n 4000,S0,[],[],_,_,Y,[],[],C0,[],rfl,Nat.zero_le _,rfl,.refl _,⟨hK0,YM,aN.nil,aQ.nil _ _,ob.nil⟩,rfl,rfl,rfl⟩,?_⟩
 rintro w8 H ⟨i,K,S,refs,fs,vr,vf,M,CR,CF,C,rs,hv,hi,rfl,hY,hG,Lm,JJ,Hy⟩ gs
 simp only[List.cons.injEq,and_true]at hv
 subst hv
 refine ae.fq (Br.dec (fun hlt=>?_) (fun hlt=>?_))
 ·refine aW.nat (by simp[aB];omega) ?_
  refine Build.mk (cs:=(r6.mk 0 i 0 0 0 0).cells) (by kernel_rfl) ?_
  subst Lm
  refine ag.fn (args:=#[ptr gb,.agg (r6.mk 0 i 0 0 0 0).cells.toArray]) .here (Mh hG hn.1 hn.2 JJ (by omega) (o:=r6.mk 0 i 0 0 0 0) ⟨by show 0<256;omega,by show i<256;omega,by show 0<256;omega,by show 0<256;omega,by show 0<256;omega,by show 0<18446744073709551616;omega⟩) ?_
  rintro w H ⟨rfl,x,a,b,c,K',S',refs',fs',BZ,Js,M',F0,JW,C',Uw,rfl,gM,Po,hn',gU,rfl,hx,JA,_⟩
  refine Un.not (Br.no ?_)
  refine ae.aK (b:=1) (by simp[aB];omega) ?_
  have h2:2≤x:=yA Po.ks hx
  rw[if_pos h2]at Po
  exact aF.mk ⟨i+1,K',S',refs++[x],fs',BZ,Js,M',F0,JW,C',Uw,rfl,hlt,rfl,hY.trans gM,Po,hn',gU.trans JJ,by simp[Hy]⟩ (by simp only[bR];omega)
 obtain rfl:i=n:=by omega
 refine Nil.ptr (aa.mk (Ld.mk (v:=vr) (by exact List.mem_append_right _ (.head _)) rfl ?_))
 refine hG.rf.bS ?_
 rw[aq,Hy]
 refine ae.GX (Br.aX (by simp) ?_)
 refine⟨fun vs H=>∃k:Nat,vs=[.int .i64 (k:Int)]∧k≤ops.length∧k≤30∧YZ (i+k) H,fun vs _=>30-bR vs 0,JE.mk ⟨0,rfl,Nat.zero_le _,by omega,by rw[Pe];exact⟨K,S,refs,fs,vr,vf,M,CR,CF,C,rs,rfl,hY,hG,Lm,JJ,by omega,by omega⟩⟩,?_⟩
 clear hY hG Lm JJ Hy
 rintro rW H ⟨k,hv,hk,adn,hst⟩ gs
 simp only[List.cons.injEq,and_true]at hv
 subst hv
 rw[Pe]at hst
 obtain⟨K,S,refs,fs,vr,vf,M,CR,CF,C,rs,rfl,hY,hG,Lm,JJ,CB,Cz⟩:=hst
 refine(hs.mono (B':=Y) fun _ h=>h).bS ?_
 rw[List.length_map]
 refine ae.fq ?_
 refine cw.and (a:=decide (k<ops.length)) (decide (k<30)) (fun _=>ae.fq (b:=30) ⟨rfl,rfl⟩) rfl fun gs=>?_
 refine Br.mk (fun hb=>?_) (fun hb=>?_)
 ·simp only[Bool.and_eq_true,decide_eq_true_eq]at hb
  obtain⟨h1,h3⟩:=hb
  refine ai.sl hs (i:=k) (r:=ops[k].cells) (by rw[List.getElem?_map,List.getElem?_eq_getElem h1];rfl) fun p hp=>?_
  refine aC.at hp rfl (by decide) (fun _ h=>List.mem_append_left _ (hY.sub _ h)) ?_
  subst Lm
  refine ag.fn (args:=#[ptr gb,.agg ops[k].cells.toArray]) .here (Mh hG hn.1 hn.2 JJ (by omega) (ho _ (List.getElem_mem h1))) ?_
  rintro w H ⟨rfl,x,a,b,c,K',S',refs',fs',BZ,Js,M',F0,JW,C',Uw,rfl,gM,Po,hn',gU,rfl,hx,JA,_⟩
  refine Un.not (Br.no ?_)
  refine ae.aK (b:=1) (by simp[aB];omega) ?_
  refine aF.mk ⟨k+1,rfl,h1,by omega,?_⟩ (by simp only[bR];omega)
  rw[Pe]
  refine⟨K',S',_,fs',BZ,Js,M',F0,JW,C',Uw,rfl,hY.trans gM,Po,hn',gU.trans JJ,?_,?_⟩
  ·rw[List.length_append];omega
  ·rw[List.length_append];split<;>simp<;>omega
 ·exact az.here ⟨gb,kp,K,S,refs,fs,vr,vf,M,CR,CF,C,rs,[],rfl,rfl,hY,hG,Lm,JJ,CB,by omega,rfl⟩
end
end Go.Proofs
set_option maxRecDepth 100000
namespace Go.Proofs
open Go Go.Sx
open aE
section
variable {kp b f d:Nat} {K:Kd} {S:Nat→aE.Fn} {ord tr:List Nat} {C:Hp}
def KK(p:Nat):Nat→Nat→Nat
 |0,_=>p
 |_,k=>p-k
def Es(n p:Nat):Nat→Nat→Nat
 |0,k=>p+k
 |_,_=>n-1
end
end Go.Proofs
namespace aE
open aD
section
variable {n:Nat} {ord:List Nat} {L:aD.Fs}
theorem GP{n v:Nat}{t:List Nat}(hn:n≤16)(hf:eE n t)(hv:v<n)(h:∀u,u<n→u≠v→¬cR (eo n t) u)(x:Nat):eo n t x=eo n t (aI 0 v (x.testBit v)):=by
 have key:∀b,eo n t (aI x v b)=eo n t (aI 0 v b):=fun b=>by
  have e:=lQ hf hv b
  have Sy:=Iu (n:=n) (ws:=jl n t v b) (fun u hu=>by
   rw[e]
   rintro⟨y,hy⟩
   simp only at hy
   by_cases UD:u=v
   ·subst UD
    rw[ou,ou]at hy;exact hy rfl
   ·rw[dw UD,dw UD]at hy
    exact h u hu UD ⟨_,hy⟩)
  have:=Sy x
  rw[e]at this;exact this
 have:=key (x.testBit v)
 rwa [iW]at this
theorem G4(hL:∀t∈L,eE n t)(hn:n≤16)(y4:1≤n)(hp:ord.Perm (List.range n)):(iZ n ord L (n-1)).length≤2:=by
 have y3:ord.length=n:=by rw[hp.length_eq,List.length_range]
 have hmem:∀i,i<n→ord.getD i 0<n:=fun i hi=>by
  have:ord.getD i 0∈ord:=by rw[List.getD_eq_getElem?_getD,List.getElem?_eq_getElem (by omega)];exact List.getElem_mem _
  exact List.mem_range.1 (hp.mem_iff.1 this)
 have aP:∀u,u<n→∃j,j<n∧ord.getD j 0=u:=fun u hu=>by
  obtain⟨j,hj,e⟩:=List.mem_iff_getElem.1 (hp.mem_iff.2 (List.mem_range.2 hu))
  exact⟨j,by omega,by rw[List.getD_eq_getElem?_getD,List.getElem?_eq_getElem hj];exact e⟩
 have hv:=hmem (n-1) (by omega)
 have facts:∀t∈iZ n ord L (n-1),eE n t∧(∀x,eo n t x=if x.testBit (ord.getD (n-1) 0)then !eo n t 0 else eo n t 0):=by
  intro t ht
  obtain⟨h1,h2⟩:=kH.1 ht
  have hf:=lT hL hn (n-1) t h1
  have mr:=(u5 hL hn hmem (n-1) (by omega) (eo n t)).2 ⟨t,h1,rfl⟩
  have hone:=GP hn hf hv (fun u hu hne=>by
   obtain⟨j,hj,e⟩:=aP u hu
   rw[←e]
   exact nR (n-1) _ mr j (by
    have:j≠n-1:=fun h=>hne (by rw[←e,h])
    omega))
  have h0:eo n t (aI 0 (ord.getD (n-1) 0) false)=eo n t 0:=by
   have:=hone 0
   rw[Nat.zero_testBit]at this;exact this.symm
  obtain⟨x,hx⟩:=(oL hf hv).2 h2
  have e1:=hone (aI x (ord.getD (n-1) 0) false)
  have e2:=hone (aI x (ord.getD (n-1) 0) true)
  rw[ay,if_pos rfl]at e1 e2
  rw[e1,e2,h0]at hx
  refine⟨hf,fun y=>?_⟩
  rw[hone y]
  cases hb:y.testBit (ord.getD (n-1) 0)
  ·rw[h0];simp
  ·rw[if_pos rfl]
   have key:∀a b:Bool,a≠b→b= !a:=by decide
   exact key _ _ hx
 have iO:(iZ n ord L (n-1)).Nodup:=(lS (n-1)).filter _
 have h1:((iZ n ord L (n-1)).map fun t=>eo n t 0).Nodup:=by
  refine List.pairwise_map.2 (iO.imp_of_mem fun{a b} ha hb hne heq=>hne ?_)
  obtain⟨fa,ga⟩:=facts a ha
  obtain⟨fb,gb⟩:=facts b hb
  exact u7 fa fb (funext fun x=>by rw[ga,gb,heq])
 have:=bE h1 (l':=[true,false]) fun b _=>by cases b<;>simp
 simpa using this
end
end aE
namespace aE
theorem Dg(m:Rm){Q:List Nat→Prop}(hs:∀ord l,Q ord→l+1<m.n→Q (fy ord l))(hf:∀ord l,Q ord→l+1<m.n→m.fit ord l=true):∀{ls:List Nat} {ord:List Nat},Q ord→(∀x∈ls,x+1<m.n)→m.can ord ls=true
 | [],_,_,_=>decide_eq_true rfl
 |l::ls,ord,hq,hl=>by
  have h1:=hl l (by simp)
  have ih:=Dg m hs hf (ls:=ls) (hs ord l hq h1) (fun x hx=>hl x (by simp[hx]))
  unfold Rm.can at ih⊢
  have:=of_decide_eq_true ih
  rw[Rm.dY,Nat.zero_add,if_pos (hf ord l hq h1),List.length_cons,List.length_cons,this]
  exact decide_eq_true rfl
end aE
set_option maxRecDepth 100000
namespace Go.Proofs
open Go Go.Sx
open aE
section
variable {kp gb n:Nat} {vr vf:Value} {refs:List Nat} {fs:List (List Nat)} {K:Kd} {S:Nat→aE.Fn} {ord tr:List Nat} {C Z:Hp}
theorem KB{ord:List Nat}(hp:ord.Perm (List.range n)):∀i,i<n→ord.getD i 0<n:=fun i hi=>by
 have y3:ord.length=n:=by rw[hp.length_eq,List.length_range]
 have:ord.getD i 0∈ord:=by rw[List.getD_eq_getElem?_getD,List.getElem?_eq_getElem (by omega)];exact List.getElem_mem _
 exact List.mem_range.1 (hp.mem_iff.1 this)
theorem vY{L:List (List Nat)}(hn:n≤6)(y4:1≤n)(hf:∀t∈L,aD.eE n t)(hl:L.length≤36)(hp:ord.Perm (List.range n)):gf n ord L n≤1118:=by
 have h1:=iV n ord L (n-1)
 have h2:=G4 (L:=L) hf (by omega) y4 hp
 have h3:2^(n-1)*L.length≤32*36:=Nat.mul_le_mul (Nat.le_trans (Nat.pow_le_pow_right (by decide) (show n-1≤5 by omega)) (by decide)) hl
 have h4:2^(n-1)*L.length≤32*L.length:=Nat.mul_le_mul_right _ (Nat.le_trans (Nat.pow_le_pow_right (by decide) (show n-1≤5 by omega)) (by decide))
 have e:gf n ord L n=gf n ord L (n-1)+(iZ n ord L (n-1)).length:=by
  obtain⟨m,rfl⟩:∃m,n=m+1:=⟨n-1,by omega⟩
  rfl
 rw[e]
 omega
theorem sW{l:Nat}(hp:ord.Perm (List.range n))(hl:l+1<n):(fy ord l).Perm (List.range n):=by
 have:=oq (path:=[l]) (ord:=ord) (fun x hx=>by simp at hx;subst hx;rw[hp.length_eq,List.length_range];exact hl)
 exact this.trans hp
theorem wG(hg:sO K S refs fs)(hn:K.n≤6)(y4:1≤K.n)(hcap:K.cap=4000)(hl:refs.length≤36)(hp:ord.Perm (List.range K.n)){l:Nat}(uS:l+1<K.n):kO K S ord l:=by
 have y3:ord.length=K.n:=by rw[hp.length_eq,List.length_range]
 unfold kO
 rw[show K.held S=FT K.n fs from funext fun g=>propext (hg.held g),NH hg.oJ (by omega) (KB hp) uS y3]
 have h1:=vY (ord:=ord) (L:=fs) hn y4 hg.oJ (by rw[←hg.len];exact hl) hp
 have h2:=vY (ord:=fy ord l) (L:=fs) hn y4 hg.oJ (by rw[←hg.len];exact hl) (sW hp uS)
 have h3:(IJ K.n ord l fs).length≤(rC K.n ord fs K.n++rC K.n (fy ord l) fs K.n).length:=bE (aD.jz _) fun x hx=>aD.dc.1 hx
 rw[List.length_append,iy,iy]at h3
 omega
theorem LL(hg:sO K S refs fs)(hn:K.n≤6)(y4:1≤K.n)(hcap:K.cap=4000)(hl:refs.length≤36)(hp:ord.Perm (List.range K.n)){ls:List Nat}(hls:∀x∈ls,x+1<K.n):(rm K S).can ord ls=true:=
 Dg (rm K S) (Q:=fun ord=>ord.Perm (List.range K.n)) (fun o l hq h=>sW hq h) (fun o l hq h=>yK.2 (wG hg hn y4 hcap hl hq h)) hp hls
theorem sO.kept{K':Kd}{S':Nat→aE.Fn}(h:sO K S refs fs)(hk:Kept K S K' S'):sO K' S' refs fs:=by
 refine⟨h.len,by rw[hk.n];exact h.oJ,fun i hi=>?_,fun s=>by rw[hk.hold,h.hold]⟩
 obtain⟨h1,h2⟩:=h.is i hi
 have hm:refs.getD i 0∈refs:=by rw[List.getD_eq_getElem?_getD,List.getElem?_eq_getElem hi];exact List.getElem_mem hi
 exact⟨h1,by rw[hk.n,h2,hk.fn _ (h.mem.2 hm)]⟩
structure GZ(gb kp n:Nat)(vr vf:Value)(refs:List Nat)(fs:List (List Nat))(Z:Hp):Prop where
 cell:fN gb kp n vr vf∈Z
 rf:c6 .u32 Z vr (iw refs)
 fn:fo Z vf (fs.map fun ws=>⟨n,ws⟩)
theorem GZ.mono{Z':Hp}(h:GZ gb kp n vr vf refs fs Z)(hs:∀x∈Z,x∈Z'):GZ gb kp n vr vf refs fs Z':=⟨hs _ h.cell,h.rf.mono hs,h.fn.mono hs⟩
theorem GZ.gin(h:GZ gb kp n vr vf refs fs Z)(C:Hp):yd gb kp n vr vf refs fs C (Z++C):=
 ⟨List.mem_append_left _ h.cell,h.rf.mono fun _ h=>List.mem_append_left _ h,h.fn.mono fun _ h=>List.mem_append_left _ h,_,.app .here,fun X=>List.mem_append_left _ h.cell⟩
theorem C7(hz:GZ gb kp K.n vr vf refs fs Z)(hg:sO K S refs fs)(hA:At kp K S ord tr C)(hn:K.n≤16)(hm:refs.length<65536)(hne:refs≠[]):Px Tryz.prog 21 #[ptr gb] (Z++C) (fun w _=>w=.bool true):=by
 obtain⟨K',S',dm,h,hk⟩:=hA
 refine LF (vr:=vr) (vf:=vf) (K:=K') (S:=S') ?_ (hg.kept hk) h (by rw[hk.n];exact hn) hm hne
 rw[hk.n];exact hz.gin C
end
end Go.Proofs
namespace Go.Sx
open Go
theorem aU.sub{H Y:Hp}(hn:(Y.map Prod.fst).Nodup)(hs:∀x∈Y,x∈H):aU H Y:=by
 intro g w h
 refine⟨h.os,h.out,h.tape,?_,fun x hx=>h.sC x ?_⟩
 ·have h1:=h.nd
  rw[List.map_append,List.nodup_append]at h1⊢
  refine⟨hn,h1.2.1,fun a ha b hb=>h1.2.2 a ?_ b hb⟩
  obtain⟨x,hx,rfl⟩:=List.mem_map.1 ha
  exact List.mem_map_of_mem (hs x hx)
 ·rcases List.mem_append.1 hx with hx|hx
  ·exact List.mem_append_left _ (hs x hx)
  ·exact List.mem_append_right _ hx
end Go.Sx
set_option maxRecDepth 100000
namespace Go.Proofs
open Go Go.Sx
open aE
section
variable {kp gb n:Nat} {vr vf:Value} {refs:List Nat} {fs:List (List Nat)} {K:Kd} {S:Nat→aE.Fn} {ord tr:List Nat} {C Z Y:Hp}
theorem Grown.gz{n:Nat}{w:Value}{H:Hp}(h:Grown n Y w H):∃(gb kp:Nat) (K:Kd) (S:Nat→aE.Fn) (refs:List Nat) (fs:List (List Nat)) (vr vf:Value) (Z C:Hp),w=ptr gb∧H=Z++C∧(∀x∈Y,x∈Z)∧GZ gb kp n vr vf refs fs Z∧sO K S refs fs∧At kp K S (List.range n) [] C∧K.n=n∧K.cap=4000∧n≤refs.length∧refs.length≤n+30:=by
 obtain⟨gb,kp,K,S,refs,fs,vr,vf,M,CR,CF,C,rs,tr,rfl,rfl,hY,hG,Lm,JJ,h1,h2,rfl⟩:=h
 refine⟨gb,kp,K,S,refs,fs,vr,vf,M++(fN gb kp n vr vf::(CR++CF)),C,rfl,by simp[List.append_assoc],fun x hx=>List.mem_append_left _ (hY.sub _ hx),⟨List.mem_append_right _ (.head _),hG.rf.ints.mono fun _ h=>List.mem_append_right _ (.tail _ (List.mem_append_left _ h)),rs,(Sl.kF hG.fn (by decide)).mono fun _ h=>List.mem_append_right _ (.tail _ (List.mem_append_right _ h)),?_⟩,hG.Ip,hG.ks.oS,Lm,JJ,h1,h2⟩
 subst Lm
 exact hG.row.mono fun _ _ h=>h.mono fun _ h=>List.mem_append_left _ h
end
end Go.Proofs
namespace Go.Sx
open Go Go.ChangeShapes Go.WideShapes Go.Deep
section
variable {H:Type} {enc:TypeId×Value→H} {P:Program} {W:World} {base:Nat} {spare:Nat→Bool} {held:Bool}
theorem oU(a:Addr)(n:Nat):(a.add n).block=a.block:=by unfold Addr.add;split<;>rfl
theorem vq(a:Addr)(n:Nat):(a.add n).off=a.off+n:=by unfold Addr.add;split<;>simp_all
theorem iu{b:Nat}{a:Addr}{k:Nat}{cs:List Value}(hk:0<k)(h:W.cells? b a k=some cs):
  a.spot=none∧∃c T fz,W.heap[a.block]? =some (.cells c T fz)∧a.off+k≤c.size∧c.extract a.off (a.off+k)=cs.toArray:=by
 obtain⟨_,hl,hg⟩:=World.cells?_some h
 have h0:=hg 0 hk
 have hc0:W.cell? a=some (cs[0]'(by omega)):=by
  have:a.add 0=a:=by simp[Addr.add]
  rw[this]at h0;rw[h0];exact List.getElem?_eq_getElem (by omega)
 unfold World.cell? at hc0
 split at hc0
 ·rename_i c T fz hb
  cases hs:a.spot with
  |some s=>rw[hs]at hc0;simp at hc0
  |none=>
   have hcell:∀i,i<k→c[a.off+i]? =cs[i]? :=fun i hi=>by
    have:=hg i hi
    unfold World.cell? at this
    rw[oU,hb]at this
    simp only[vq]at this
    have hsp:(a.add i).spot.isSome=false:=by unfold Addr.add;split<;>simp[hs]
    rw[hsp]at this
    simpa using this
   have hsz:a.off+k≤c.size:=by
    have:=hcell (k-1) (by omega)
    rw[List.getElem?_eq_getElem (by omega)]at this
    have:=(Array.getElem?_eq_some_iff.1 this).1
    omega
   refine⟨rfl,c,T,fz,hb,hsz,?_⟩
   apply Array.ext_getElem?
   intro i
   rw[Array.getElem?_extract]
   by_cases hi:i<k
   ·rw[if_pos (by omega),hcell i hi];simp
   ·rw[if_neg (by omega)];simp;omega
 ·simp at hc0
theorem Qp{t e:TypeId}{v:Value}{d:DataW H}{ps:List MemPlace}{r:Reach}{b0 k:Nat}(ht:P.underlying t=some (.slice e))(hk:P.cellsOf e=k)(MG:0<k)(hv:Value.okWide P W r b0 t v)(h:DataW.Trod enc P W base spare held t v d ps):
  (v=.slice none 0 0∧d=.nil)∨∃(a:Addr) (n cap:Nat) (es sp:List (DataW H)),v=.slice (some a) n cap∧d=.slice es sp∧es.length=n∧n≤cap∧
   ∀i,i<n→∃c T fz cs,a.spot=none∧(a.block,Obj.cells c T fz)∈whole W∧a.off+i*k+k≤c.size∧c.extract (a.off+i*k) (a.off+i*k+k)=cs.toArray∧∃fuel y,DataW.trod enc P W base spare held fuel e cs=some y∧cs.length=k:=by
 obtain⟨a0,n0,c0,rfl⟩:=okWide_slice ht hv
 obtain⟨fuel,hf⟩:=h
 rcases open_slice ht hf with⟨h1,h2⟩|⟨a,len,cap,m,n,D,Pl,hcs,hb,hl,hm,sA,hx,hi⟩
 ·left
  simp only[Value.cells,List.cons.injEq,and_true]at h1
  simp only[Prod.mk.injEq]at h2
  exact⟨by simpa using h1,h2.1⟩
 ·right
  simp only[Prod.mk.injEq]at hx
  have Hv:Value.slice a0 n0 c0=.slice (some a) len cap:=by simpa[Value.cells]using hcs
  have UL:len≤m:=by rw[sA];split<;>omega
  refine⟨a,len,cap,_,_,Hv,hx.1,by simp,hl,fun i hin=>?_⟩
  have hkk:=hk
  have wQ:a.spot=none:=by
   obtain⟨cs0,hc0,_⟩:=hi 0 (by omega)
   rw[hk]at hc0
   rw[show a.add (0*k)=a by simp[Addr.add]]at hc0
   exact(iu MG hc0).1
  obtain⟨cs,hc,hd⟩:=hi i (by omega)
  rw[hk]at hc
  obtain⟨_,hlen,_⟩:=World.cells?_some hc
  obtain⟨_,c,T,fz,h1,h2,h3⟩:=iu MG hc
  rw[oU]at h1
  rw[vq]at h2 h3
  exact⟨c,T,fz,cs,wQ,ti h1,h2,h3,n,_,hd,hlen⟩
theorem DN{t e:TypeId}{cs:List Value}{x:DataW H×List MemPlace}{fuel k:Nat}(ht:P.underlying t=some (.slice e))(hk:P.cellsOf e=k)(MG:0<k)(h:DataW.trod enc P W base spare held fuel t cs=some x):
  ∃(v:Value) (rs:List (List Value)),cs=[v]∧Sl k (whole W) v rs∧((rs=[]∧x.1=.nil)∨∃es sp,x.1=.slice es sp∧es.length=rs.length)∧
   ∀(i:Nat) (r:List Value),rs[i]? =some r→∃(fuel:Nat) (y:DataW H×List MemPlace) (es sp:List (DataW H)),DataW.trod enc P W base spare held fuel e r=some y∧x.1=.slice es sp∧es[i]? =some y.1:=by
 rcases open_slice ht h with⟨h1,h2⟩|⟨a,len,cap,m,n,D,Pl,hcs,hb,hl,hm,sA,hx,hi⟩
 ·exact⟨_,[],h1,Sl.nil _ _,.inl ⟨rfl,by rw[h2]⟩,fun i r hr=>by simp at hr⟩
 ·have UL:len≤m:=by rw[sA];split<;>omega
  have hex:∃rs:List (List Value),rs.length=len∧∀i r,rs[i]? =some r→W.cells? base (a.add (i*k)) k=some r∧DataW.trod enc P W base spare held n e r=some (D i,Pl i):=by
   clear hcs hx hl sA
   induction len with
   |zero=>exact⟨[],rfl,fun i r hr=>by simp at hr⟩
   |succ len ih=>
    obtain⟨rs,h1,h2⟩:=ih (by omega)
    obtain⟨r,h3,h4⟩:=hi len (by omega)
    rw[hk]at h3
    refine⟨rs++[r],by simp[h1],fun i r' hr=>?_⟩
    by_cases hlt:i<rs.length
    ·rw[List.getElem?_append_left hlt]at hr;exact h2 i r' hr
    ·rw[List.getElem?_append_right (by omega)]at hr
     have O0:i-rs.length=0:=by
      by_cases e:i-rs.length=0
      ·exact e
      ·rw[List.getElem?_eq_none (by simp;omega)]at hr;cases hr
     rw[O0]at hr
     simp only[List.getElem?_cons_zero,Option.some.injEq]at hr
     subst hr
     obtain rfl:i=len:=by omega
     exact⟨h3,h4⟩
  obtain⟨rs,Hy,UG⟩:=hex
  have aP:∀r∈rs,r.length=k:=fun r hr=>by
   obtain⟨i,hi,e⟩:=List.mem_iff_getElem.1 hr
   obtain⟨hc,_⟩:=UG i r (by rw[List.getElem?_eq_getElem hi,e])
   exact(World.cells?_some hc).2.1
  refine⟨.slice (some a) len cap,rs,hcs,⟨aP,?_⟩,.inr ⟨_,_,by rw[hx],by simp[Hy]⟩,fun i r hr=>?_⟩
  ·cases rs with
   |nil=>exact .inl ⟨some a,cap,by rw[←Hy];rfl,rfl⟩
   |cons r0 rest=>
    right
    obtain⟨hc0,_⟩:=UG 0 r0 rfl
    obtain⟨wQ,c,T,fz,hb0,_,_⟩:=iu MG hc0
    rw[show a.add (0*k)=a by simp[Addr.add]]at wQ hb0
    obtain⟨ab,ao,asp⟩:=a
    simp only at wQ hb0
    subst wQ
    have SI:∀i r,(r0::rest)[i]? =some r→ao+i*k+k≤c.size∧c.extract (ao+i*k) (ao+i*k+k)=r.toArray:=fun i r hr=>by
     obtain⟨hc,_⟩:=UG i r hr
     obtain⟨_,c',T',fz',h1,h2,h3⟩:=iu MG hc
     rw[oU]at h1
     rw[vq]at h2 h3
     simp only at h1 h2 h3
     rw[hb0]at h1
     simp only[Option.some.injEq,Obj.cells.injEq]at h1
     obtain⟨rfl,_,_⟩:=h1
     exact⟨h2,h3⟩
    refine⟨ab,ao,cap,c,T,fz,by rw[Hy],by omega,ti hb0,?_,fun i r hr j v hj=>?_⟩
    ·have Si:=SI (rest.length) ((r0::rest)[rest.length]'(by simp)) (List.getElem?_eq_getElem (by simp))
     have:=Si.1
     simp only[List.length_cons,Nat.succ_mul];omega
    ·obtain⟨h1,h2⟩:=SI i r hr
     have KZ:j<k:=by
      have:=(List.getElem?_eq_some_iff.1 hj).1
      rw[aP r (List.mem_of_getElem? hr)]at this;exact this
     have h3:=congrArg (fun z:Array Value=>z[j]?) h2
     simp only[Array.getElem?_extract,List.getElem?_toArray]at h3
     rw[hj]at h3
     rw[←h3,if_pos (by omega)]
  ·obtain⟨_,hd⟩:=UG i r hr
   have HJ:i<len:=by rw[←Hy];exact(List.getElem?_eq_some_iff.1 hr).1
   exact⟨n,_,_,_,hd,by rw[hx],by simp[HJ]⟩
end
end Go.Sx
set_option maxRecDepth 100000
namespace Go.Proofs
open Go Go.Sx
section
open Go.ChangeShapes Go.WideShapes Go.Deep
variable {H:Type} {enc:TypeId×Value→H} {W:World} {base:Nat} {spare:Nat→Bool} {held:Bool}
theorem KM{f:FuncId}{args:Array Value}{W:World}(h:Rd Tryz.prog f args (whole W) (· =.bool true)):
  Calls Tryz.prog f args W fun e W'=>e=.returned (.bool true)∧Go.RowKit.Below W.heap.size W W':=
 Oo (h.mono fun _ _ ⟨h1,h2⟩=>⟨by rw[h1];exact .refl _,h2⟩)
theorem vN(W:World):((whole W).map Prod.fst).Nodup:=by
 have:=(s9 W).nd
 rwa [List.append_nil]at this
theorem NV{fuel:Nat}{cs:List Value}{y:DataW H×List MemPlace}(hl:cs.length=6)(h:DataW.trod enc Tryz.prog W base spare held fuel 106 cs=some y):∃o:r6,cs=o.cells∧o.Ok:=by
 obtain⟨xs,n,_,_,_,hx,hf⟩:=DataW.trod_struct Tryz.underlying106 h
 match cs,hl with
 | [c0,c1,c2,c3,c4,c5],_=>
  have hx6:xs.length=6:=hx
  have k8:Tryz.prog.cellsOf 5=1:=by kernel_rfl
  have k64:Tryz.prog.cellsOf 50=1:=by kernel_rfl
  have g0:DataW.trod enc Tryz.prog W base spare held n 5 (List.take (Tryz.prog.cellsOf 5) [c0,c1,c2,c3,c4,c5])=xs[0]? :=hf 0 _ rfl
  have g1:DataW.trod enc Tryz.prog W base spare held n 5 (List.take (Tryz.prog.cellsOf 5) [c1,c2,c3,c4,c5])=xs[1]? :=hf 1 _ rfl
  have g2:DataW.trod enc Tryz.prog W base spare held n 5 (List.take (Tryz.prog.cellsOf 5) [c2,c3,c4,c5])=xs[2]? :=hf 2 _ rfl
  have g3:DataW.trod enc Tryz.prog W base spare held n 5 (List.take (Tryz.prog.cellsOf 5) [c3,c4,c5])=xs[3]? :=hf 3 _ rfl
  have g4:DataW.trod enc Tryz.prog W base spare held n 5 (List.take (Tryz.prog.cellsOf 5) [c4,c5])=xs[4]? :=hf 4 _ rfl
  have g5:DataW.trod enc Tryz.prog W base spare held n 50 (List.take (Tryz.prog.cellsOf 50) [c5])=xs[5]? :=hf 5 _ rfl
  rw[k8,List.getElem?_eq_getElem (by omega)]at g0 g1 g2 g3 g4
  rw[k64,List.getElem?_eq_getElem (by omega)]at g5
  simp only[List.take_succ_cons,List.take_zero]at g0 g1 g2 g3 g4 g5
  obtain⟨n0,e0,_,w0⟩:=DataW.trod_int Tryz.underlying5 g0
  obtain⟨n1,e1,_,w1⟩:=DataW.trod_int Tryz.underlying5 g1
  obtain⟨n2,e2,_,w2⟩:=DataW.trod_int Tryz.underlying5 g2
  obtain⟨n3,e3,_,w3⟩:=DataW.trod_int Tryz.underlying5 g3
  obtain⟨n4,e4,_,w4⟩:=DataW.trod_int Tryz.underlying5 g4
  obtain⟨n5,e5,_,w5⟩:=DataW.trod_int Tryz.underlying50 g5
  have b0:=bounds_u8 w0
  have b1:=bounds_u8 w1
  have b2:=bounds_u8 w2
  have b3:=bounds_u8 w3
  have b4:=bounds_u8 w4
  have b5:=bounds_u64 w5
  simp only[List.cons.injEq,and_true]at e0 e1 e2 e3 e4 e5
  refine⟨⟨n0.toNat,n1.toNat,n2.toNat,n3.toNat,n4.toNat,n5.toNat⟩,?_,⟨?_,?_,?_,?_,?_,?_⟩⟩
  ·have z0:((n0.toNat:Nat):Int)=n0:=by omega
   have z1:((n1.toNat:Nat):Int)=n1:=by omega
   have z2:((n2.toNat:Nat):Int)=n2:=by omega
   have z3:((n3.toNat:Nat):Int)=n3:=by omega
   have z4:((n4.toNat:Nat):Int)=n4:=by omega
   have z5:((n5.toNat:Nat):Int)=n5:=by omega
   unfold r6.cells
   simp only
   rw[e0,e1,e2,e3,e4,e5,z0,z1,z2,z3,z4,z5]
  all_goals simp only;omega
theorem NW{v:Value}{d:DataW H}{ps:List MemPlace}(h:DataW.Trod enc Tryz.prog W base spare held 22 v d ps)(hv:∃a n c,v=.slice a n c):
  ∃ops:List r6,Sl 6 (whole W) v (ops.map r6.cells)∧(∀o∈ops,o.Ok)∧((∀n∈d.weights Tryz.prog 22,n≤reachBytes)→ops.length≤140737488351232):=by
 obtain⟨fuel,hf⟩:=h
 have k6:Tryz.prog.cellsOf 106=6:=by kernel_rfl
 obtain⟨v',rs,hcs,OH,hw,hr⟩:=DN Tryz.underlying22 k6 (by decide) hf
 have Ej:v'=v:=by
  obtain⟨a,n,c,rfl⟩:=hv
  simpa[Value.cells]using hcs.symm
 subst Ej
 have hone:∀r∈rs,∃o:r6,r=o.cells∧o.Ok:=fun r hm=>by
  obtain⟨i,hi,e⟩:=List.mem_iff_getElem.1 hm
  obtain⟨f,y,_,_,hy,_⟩:=hr i r (by rw[List.getElem?_eq_getElem hi,e])
  exact NV (OH.1 r hm) hy
 have hex:∃ops:List r6,rs=ops.map r6.cells∧∀o∈ops,o.Ok:=by
  clear OH hw hr hcs
  induction rs with
  |nil=>exact⟨[],rfl,by simp⟩
  |cons r rest ih=>
   obtain⟨l,h1,h2⟩:=ih fun r hm=>hone r (by simp[hm])
   obtain⟨o,h3,h4⟩:=hone r (by simp)
   exact⟨o::l,by simp[h1,h3],fun m hm=>by rcases List.mem_cons.1 hm with rfl|hm;exact h4;exact h2 m hm⟩
 obtain⟨ops,rfl,hok⟩:=hex
 refine⟨ops,OH,hok,fun aP=>?_⟩
 rcases hw with⟨h1,_⟩|⟨es,sp,h1,h2⟩
 ·have:ops=[]:=by simpa using h1
  subst this;simp
 ·simp only at h1
  have:=aP ((es.length+sp.length)*Tryz.prog.bytesOf 106) (by rw[h1,DataW.weights,Tryz.underlying22];exact List.mem_cons_self ..)
  rw[show Tryz.prog.bytesOf 106=16 by kernel_rfl]at this
  have h3:reachBytes=140737488351232:=rfl
  rw[List.length_map]at h2
  omega
end
end Go.Proofs
namespace aE
def dst(x y:Nat):Nat:=(x-y)+(y-x)
end aE
namespace aE
section
variable {m:Rm} {g:Nat}
theorem Km{ord path:List Nat}{n:Nat}(hp:ord.Perm (List.range n))(h:∀x∈path,x+1<n):(aG ord path).Perm (List.range n):=
 (oq fun x hx=>by rw[hp.length_eq,List.length_range];exact h x hx).trans hp
end
end aE
namespace aE
theorem qS(m:Rm)(p:Nat):∀cs ord,m.dY p cs ord=m.dY 0 (cs.map (p+ ·)) ord
 | [],_=>rfl
 |c::cs,ord=>by
  rw[List.map_cons,Rm.dY,Rm.dY,Nat.zero_add,qS m p cs]
theorem Ez{m:Rm}{p:Nat}{cs ord:List Nat}(h:m.can ord (cs.map (p+ ·))=true):m.dY p cs ord=cs.map (p+ ·):=by
 rw[qS,m.tD,of_decide_eq_true h,List.take_length]
theorem sY(m:Rm)(w:Nat)(ord:List Nat):∀r,m.size (aG ord (m.rounds w ord r).1)≤m.size ord
 |0=>Nat.le_refl _
 |r+1=>by
  rw[Rm.rounds_succ]
  show m.size (aG ord (_++_))≤_
  rw[kz]
  exact Nat.le_trans (m.zB w _ _) (sY m w ord r)
end aE
set_option maxRecDepth 100000
namespace Go.Proofs
open Go Go.Sx
open aE
section
variable {Y:Hp}
theorem ai.more{size:Nat}{x ix:Value}{k k':Value→Prop}(h:ai size x ix k)(hk:∀p,k p→k' p):ai size x ix k':=by
 obtain⟨b,o,n,c,kd,i,h1,h2,h3,h4,h5⟩:=h
 exact⟨b,o,n,c,kd,i,h1,h2,h3,h4,hk _ h5⟩
theorem og{a wa la:Nat}{sv:Value}{ops:List r6}(ha:a<256)(hw:wa<256)(hl:la<256)(hs:Sl 6 Y sv (ops.map r6.cells))(ho:∀o∈ops,o.Ok)(bX:ops.length<9223372036854775808)(hYn:(Y.map Prod.fst).Nodup):
  Rd Tryz.prog 3 #[.int .u8 (a:Int),sv,.int .u8 (wa:Int),.int .u8 (la:Int)] Y (· =.bool true):=by
 intro g
 refine Jg (R:=az _) ?_
 unfold L3
 refine aW.nat (by simp[aB];omega) ?_
 refine ae.pD (b:=3) (by decide) ?_
 have UK:=Nat.mod_lt a (show 0<3 by decide)
 refine ae.aK (a:=4) (by simp[aB];omega) ?_
 obtain⟨n,hn⟩:∃n,n=4+a%3:=⟨_,rfl⟩
 rw[←hn]
 refine ag.fn .here (Ii (n:=n) ⟨by omega,by omega⟩ hs ho bX) ?_
 intro w H g6
 obtain⟨gb,kp,K,S,refs,fs,vr,vf,Z0,C0,rfl,rfl,hYZ,Jz,hg,Pp,rfl,hcap,CB,Cz⟩:=g6.gz
 have hne:refs≠[]:=fun e=>by rw[e]at CB;simp at CB;omega
 refine ae.bK (Br.no ?_)
 refine aW.nat (by simp[aB];omega) ?_
 refine ae.pD (b:=3) (by decide) ?_
 have Mx:=Nat.mod_lt wa (show 0<3 by decide)
 refine ae.aK (a:=2) (by simp[aB];omega) ?_
 obtain⟨k,hk⟩:∃k,k=2+wa%3:=⟨_,rfl⟩
 rw[←hk]
 refine aW.nat (by simp[aB];omega) ?_
 refine ae.bJ (by simp[aB];omega) (by omega) ?_
 refine ae.aK (b:=1) (by simp[aB];omega) ?_
 refine ae.pD (by omega) ?_
 have hp0:=Nat.mod_lt la (show 0<K.n-k+1 by omega)
 obtain⟨p,hp⟩:∃p,p=la%(K.n-k+1):=⟨_,rfl⟩
 rw[←hp]
 rw[←hp]at hp0
 have hpk:p+k≤K.n:=by omega
 refine Nil.ptr (aa.mk (Ld.mk (v:=ptr kp) (by exact List.mem_append_left _ Jz.cell) rfl ?_))
 obtain⟨o0,UI⟩:∃o,o=List.range K.n:=⟨_,rfl⟩
 rw[←UI]at Pp
 have y3:o0.length=K.n:=by rw[UI,List.length_range]
 refine ag.top (Q:=fun r N=>aN 3 .i64 r (iw o0) N) (.app .here) (ry Pp) ?_
 intro vb N1 SK
 refine ag.fn hnew (ri (w:=k) (by omega)) ?_
 rintro v Cc ⟨vc,rfl,hc⟩
 rw[←List.append_assoc,←List.append_assoc]
 have KV:GZ gb kp K.n vr vf refs fs ((Cc++N1)++Z0):=Jz.mono fun _ h=>List.mem_append_right _ h
 have MN:c6 .i64 ((Cc++N1)++Z0) vb (iw o0):=SK.ints.mono fun _ h=>List.mem_append_left _ (List.mem_append_right _ h)
 have hc2:c6 .i64 ((Cc++N1)++Z0) vc (iw (gY k)):=hc.ints.mono fun _ h=>List.mem_append_left _ (List.mem_append_left _ h)
 have SS:∀x∈Y,x∈(Cc++N1)++Z0:=fun x hx=>List.mem_append_right _ (hYZ x hx)
 generalize (Cc++N1)++Z0=Z1 at*
 clear hc SK Jz hYZ
 refine Ext.mk rfl (Ext.mk rfl ?_)
 refine ae.c7 (Br.aX (by simp) ?_)
 refine Nil.ptr (aa.mk (Ld.mk (v:=ptr kp) (by exact List.mem_append_left _ KV.cell) rfl ?_))
 refine ag.rd (.app .here) (dV Pp) ?_
 rintro w rfl
 refine ag.fn .here (ur (B:=Z1++C0) (MN.mono fun _ h=>List.mem_append_left _ h) (by rw[aq];omega)) ?_
 rintro vw H ⟨N2,rfl,pW⟩
 refine ag.fn .here (ur (B:=N2++(Z1++C0)) (MN.mono fun _ h=>List.mem_append_right _ (List.mem_append_left _ h)) (by rw[aq];omega)) ?_
 rintro vn H ⟨N3,rfl,hn0⟩
 have fx:=vi k
 obtain⟨path,wT⟩:∃path,path=(gY k).map (p+ ·):=⟨_,rfl⟩
 have Em:path.length=(gY k).length:=by rw[wT,List.length_map]
 have FH:∀x∈path,x+1<K.n:=fun x hx=>by
  rw[wT]at hx
  obtain⟨c,hc,rfl⟩:=List.mem_map.1 hx
  have:=vj hc;omega
 have fu:∀i,(aG o0 (path.take i)).Perm (List.range K.n):=fun i=>Km (by rw[UI]) fun x hx=>FH x (List.mem_of_mem_take hx)
 have hfit:∀i x,x∈path→kO K S (aG o0 (path.take i)) x:=fun i x hx=>wG hg (by omega) (by omega) hcap (by omega) (fu i) (FH x hx)
 obtain⟨Jy,HH⟩:∃f:Nat→Nat,f=(rm K S).keep o0 path:=⟨_,rfl⟩
 have adi:∀i,Jy i≤i:=fun i=>by rw[HH];exact(rm K S).pV o0 path i
 have Xy:∀i,Jy (i+1)=if cQ K S (aG o0 (path.take (i+1)))<cQ K S (aG o0 (path.take (Jy i)))then i+1 else Jy i:=fun i=>by rw[HH];rfl
 refine⟨fun vs H=>∃(i:Nat) (wv:Value) (NN Z' C':Hp),vs=[.int .i64 ((cQ K S (aG o0 (path.take (Jy i))):Nat):Int),wv,.int .i64 (i:Int)]∧i≤path.length∧H=NN++(Z'++C')∧(∀x∈Z1,x∈Z')∧c6 .i64 Z' wv (iw (aG o0 (path.take (Jy i))))∧aN 3 .i64 vn (iw (aG o0 (path.take i))) NN∧At kp K S (aG o0 (path.take i)) (path.take i) C',
  fun vs _=>path.length-bR vs 2,JE.mk ⟨0,vw,N3,N2++Z1,C0,by rw[HH];rfl,Nat.zero_le _,by rw[List.append_assoc],fun x hx=>List.mem_append_right _ hx,by rw[HH];exact pW.ints.mono fun _ h=>List.mem_append_left _ h,hn0,Pp⟩,?_⟩
 rintro Qk yg DF H ⟨i,wv,NN,Z',C',hv,hi,rfl,Pd,W4,ME,hA⟩ gs
 simp only[List.cons.injEq,and_true]at hv
 obtain⟨rfl,rfl,rfl⟩:=hv
 have RJ:=KV.mono Pd
 have gU:=hc2.mono Pd
 have hb':=MN.mono Pd
 refine gU.bS ?_
 rw[aq]
 refine ae.fq (Br.dec (fun hlt=>?_) (fun hge=>?_))
 ·intro Va h42
  have HJ:i<path.length:=by omega
  have Xm:path[i]=p+(gY k)[i]:=by simp only[wT,List.getElem_map]
  have Xl:=FH _ (List.getElem_mem HJ)
  have gD:path.take (i+1)=path.take i++[path[i]]:=List.take_succ_eq_append_getElem HJ
  have hcg:(gY k)[i]+2≤k:=vj (List.getElem_mem hlt)
  have kg:(iw (gY k))[i]? =some (((gY k)[i]:Nat):Int):=cB (List.getElem?_eq_getElem hlt)
  have hsub:∀x∈Z',x∈NN++(Z'++C'):=fun _ h=>List.mem_append_right _ (List.mem_append_left _ h)
  refine DR.self (Nil.ptr (aa.mk (Ld.mk (v:=ptr kp) (hsub _ RJ.cell) rfl ?_)))
  refine gU.ld kg hsub ?_
  refine ae.aK (by simp[aB];omega) ?_
  intro F
  rw[←Xm]
  refine ag.fn (.app (.app .here)) (Dp hA Xl (by rw[List.length_take];omega) (hfit i _ (List.getElem_mem HJ))) ?_
  rintro w C2 ⟨rfl,oI⟩
  rw[←gA,←gD]at oI
  refine ae.c7 (Br.aX (by simp) ?_)
  have Cy:∀x∈Z',x∈NN++(Z'++C2):=fun _ h=>List.mem_append_right _ (List.mem_append_left _ h)
  have OH:(aG o0 (path.take i)).length=K.n:=by rw[iU,y3]
  refine DR.self ?_
  refine gU.ld kg Cy (ae.aK (by simp[aB];omega) ?_)
  refine gU.ld kg Cy (ae.aK (by simp[aB];omega) (ae.aK (b:=1) (by simp[aB];omega) ?_))
  refine gU.ld kg Cy (ae.aK (by simp[aB];omega) (ae.aK (b:=1) (by simp[aB];omega) ?_))
  rw[←Xm]
  refine ME.ld (x:=(((aG o0 (path.take i)).getD (path[i]+1) 0:Nat):Int)) (bc (by omega)) (fun _ h=>List.mem_append_left _ h) ?_
  refine gU.ld kg Cy (ae.aK (by simp[aB];omega) ?_)
  rw[←Xm]
  refine ME.ld (x:=(((aG o0 (path.take i)).getD path[i] 0:Nat):Int)) (bc (by omega)) (fun _ h=>List.mem_append_left _ h) ?_
  refine ai.more (ME.iX (i:=path[i]) (x:=(((aG o0 (path.take i)).getD (path[i]+1) 0:Nat):Int)) .left (by rw[aq];omega) fun N4 hn4=>?_) fun _ h _=>h
  refine ai.more (hn4.iX (i:=path[i]+1) (x:=(((aG o0 (path.take i)).getD path[i] 0:Nat):Int)) .left (by rw[List.length_set,aq];omega) fun N5 UJ=>?_) fun _ h _=>h
  have e:((iw (aG o0 (path.take i))).set path[i] (((aG o0 (path.take i)).getD (path[i]+1) 0:Nat):Int)).set (path[i]+1) (((aG o0 (path.take i)).getD path[i] 0:Nat):Int)=iw (aG o0 (path.take (i+1))):=by
   rw[gD,gA];unfold fy
   rw[eM,eM]
  rw[e]at UJ
  have MC:∀x∈Z',x∈N5++(Z'++C2):=fun _ h=>List.mem_append_right _ (List.mem_append_left _ h)
  refine Nil.ptr (aa.mk (Ld.mk (v:=ptr kp) (MC _ RJ.cell) rfl ?_))
  refine ag.rd (.app (.app .here)) (dV oI) ?_
  rintro w rfl
  have hks:=Xy i
  refine ae.fq (Br.dec (fun iG=>?_) (fun iG=>?_))
  ·rw[if_pos iG]at hks
   refine Nil.ptr (aa.mk (Ld.mk (v:=ptr kp) (MC _ RJ.cell) rfl ?_))
   refine ag.rd (.app (.app .here)) (dV oI) ?_
   rintro w rfl
   refine ag.fn .here (ur (B:=N5++(Z'++C2)) (UJ.ints.mono fun _ h=>List.mem_append_left _ h) (by rw[aq,iU];omega)) ?_
   rintro v2 H ⟨N6,rfl,hn6⟩
   refine JE.mk (h42 _ _ _ fun gs=>?_)
   refine ae.aK (b:=1) (by simp[aB];omega) ?_
   refine aF.of (.perm (A:=N6++(N5++(Z'++C2))) (B:=N5++((N6++Z')++C2)) ?_) ⟨i+1,v2,N5,N6++Z',C2,by rw[hks],HJ,rfl,fun x hx=>List.mem_append_right _ (Pd x hx),by rw[hks];exact hn6.ints.mono fun _ h=>List.mem_append_left _ h,UJ,oI⟩ (by simp only[bR];omega)
   simpa only[List.append_assoc]using(List.perm_append_comm (l₁:=N6) (l₂:=N5)).append_right (Z'++C2)
  ·rw[if_neg iG]at hks
   refine JE.mk (h42 _ _ _ fun gs=>?_)
   refine ae.aK (b:=1) (by simp[aB];omega) ?_
   exact aF.mk ⟨i+1,_,N5,Z',C2,by rw[hks],HJ,rfl,Pd,by rw[hks];exact W4,UJ,oI⟩ (by simp only[bR];omega)
 obtain rfl:i=path.length:=by omega
 have hfull:path.take path.length=path:=List.take_length
 have RL:c6 .i64 (NN++Z') yg (iw (aG o0 (path.take (Jy path.length)))):=W4.mono fun _ h=>List.mem_append_right _ h
 have Cv:GZ gb kp K.n vr vf refs fs (NN++Z'):=RJ.mono fun _ h=>List.mem_append_right _ h
 have hb3:c6 .i64 (NN++Z') vb (iw o0):=hb'.mono fun _ h=>List.mem_append_right _ h
 have QB:c6 .i64 (NN++Z') vc (iw (gY k)):=gU.mono fun _ h=>List.mem_append_right _ h
 have SR:∀x∈Y,x∈NN++Z':=fun x hx=>List.mem_append_right _ (Pd x (SS x hx))
 rw[←List.append_assoc]
 generalize NN++Z'=Z2 at*
 clear W4 ME RJ hb' gU Pd KV MN hc2 SS
 refine⟨fun vs H=>∃(j:Nat) (C2:Hp),vs=[.int .i64 (j:Int)]∧j≤path.length∧H=Z2++C2∧At kp K S (aG o0 (path.take (path.length-j))) (path.take (path.length-j)) C2,fun vs _=>path.length-bR vs 0,JE.mk ⟨0,C',rfl,Nat.zero_le _,rfl,hA⟩,?_⟩
 rintro w98 H ⟨j,C2,hv,hj,rfl,oI⟩ gs
 simp only[List.cons.injEq,and_true]at hv
 subst hv
 refine QB.bS ?_
 rw[aq]
 refine ae.fq (Br.dec (fun hlt=>?_) (fun hge=>?_))
 ·have CI:path.length-(j+1)<path.length:=by omega
  have gD:path.take (path.length-j)=path.take (path.length-(j+1))++[path[path.length-(j+1)]]:=by
   rw[←List.take_succ_eq_append_getElem CI,show path.length-(j+1)+1=path.length-j by omega]
  refine Nil.ptr (aa.mk (Ld.mk (v:=ptr kp) (by exact List.mem_append_left _ Cv.cell) rfl ?_))
  rw[gD,gA]at oI
  refine ag.fn (.app .here) (Dn oI (by rw[List.length_take];omega)) ?_
  rintro w C3 ⟨rfl,r5⟩
  rw[pQ (by rw[iU,y3];exact FH _ (List.getElem_mem CI))]at r5
  refine Ext.mk rfl (Ext.mk rfl ?_)
  refine ae.c7 (Br.aX (by simp) ?_)
  refine ae.aK (b:=1) (by simp[aB];omega) ?_
  exact aF.mk ⟨j+1,C3,rfl,by omega,rfl,r5⟩ (by simp only[bR];omega)
 obtain rfl:j=path.length:=by omega
 rw[Nat.sub_self]at oI
 have oI:At kp K S o0 [] C2:=oI
 refine Nil.ptr (aa.mk (Ld.mk (v:=ptr kp) (by exact List.mem_append_left _ Cv.cell) rfl ?_))
 refine ag.top (Q:=fun r N=>aN 3 .i64 r (iw o0) N) (.app .here) (ry oI) ?_
 intro vo N6 hN6
 refine ag.rd .here (o5 (a:=iw o0) (b:=iw o0) (hN6.ints.mono fun _ h=>List.mem_append_left _ h) (hb3.mono fun _ h=>List.mem_append_right _ (List.mem_append_left _ h)) (by rw[aq];omega)) ?_
 rintro w rfl
 refine Un.not ?_
 rw[decide_eq_true rfl]
 refine Br.no ?_
 rw[←List.append_assoc]
 have W3:c6 .i64 (N6++Z2) yg (iw (aG o0 (path.take (Jy path.length)))):=RL.mono fun _ h=>List.mem_append_right _ h
 have RI:GZ gb kp K.n vr vf refs fs (N6++Z2):=Cv.mono fun _ h=>List.mem_append_right _ h
 have X1:∀x∈Y,x∈N6++Z2:=fun x hx=>List.mem_append_right _ (SR x hx)
 generalize N6++Z2=Z3 at*
 clear RL Cv hb3 QB SR hN6
 refine Nil.ptr (aa.mk (Ld.mk (v:=ptr kp) (by exact List.mem_append_left _ RI.cell) rfl ?_))
 have hgo:(rm K S).dY p (gY k) o0=path:=by
  rw[wT]
  refine Ez ?_
  rw[←wT]
  exact LL hg (by omega) (by omega) hcap (by omega) (by rw[UI]) FH
 have OC:((rm K S).visit k p o0).1=path.take (Jy path.length):=by
  unfold Rm.visit
  simp only
  rw[hgo,HH]
 refine ag.fn (.app .here) (NY oI (by omega) hpk (by simp)) ?_
 rintro w C3 ⟨rfl,r5⟩
 rw[OC]at r5
 have hvl:=(rm K S).om k p o0
 rw[OC]at hvl
 rw[OC]
 refine Ext.mk rfl (Ext.mk rfl ?_)
 generalize hbt:path.take (Jy path.length)=best at*
 have hbp:(aG o0 best).Perm (List.range K.n):=by rw[←hbt];exact fu _
 have JG:([]++best).length=best.length:=rfl
 intro b1 _
 refine St.whole (r:=[.int .i64 ((cQ K S o0:Nat):Int),.int .i64 ((cQ K S (aG o0 best):Nat):Int),.int .i64 ((((rm K S).visit k p o0).2:Nat):Int),.bool false]) (by exact .head _) rfl rfl (by simp[Value.oneCell']) ?_
 intro J Yu
 have good:∀Z4:Hp,(∀x∈Z3,x∈Z4)→(b1,Obj.cells (List.toArray [.int .i64 ((cQ K S o0:Nat):Int),.int .i64 ((cQ K S (aG o0 best):Nat):Int),.int .i64 ((((rm K S).visit k p o0).2:Nat):Int),.bool false]) 42 (0,0))∈Z4→J [.bool false] (Z4++C3):=by
  intro Z4 hZ4 FI
  refine Yu _ _ fun gs=>Br.no ?_
  have WZ:=RI.mono hZ4
  refine Nil.ptr (aa.mk (Ld.mk (v:=ptr kp) (by exact List.mem_append_left _ WZ.cell) rfl ?_))
  refine ag.fn (.app .here) (LW r5 (w:=k) (by omega) (by rw[JG];omega)) ?_
  rintro w C4 ⟨rfl,hA4⟩
  have HZ:=(rm K S).p8 k (aG o0 best) ((rm K S).n+1-k)
  have Xx:cQ K S (aG (aG o0 best) ((rm K S).pass k (aG o0 best)).1)≤cQ K S (aG o0 best):=(rm K S).zB k _ _
  have XZ:((rm K S).pass k (aG o0 best)).1.length≤23*((rm K S).n+1-k):=HZ.1
  have Qs:(rm K S).n=K.n:=rfl
  rw[Qs]at XZ
  generalize (rm K S).pass k (aG o0 best)=ps at*
  refine Ext.mk rfl (Ext.mk rfl ?_)
  intro b2 _
  refine St.whole (r:=[.int .i64 ((cQ K S (aG o0 best):Nat):Int),.int .i64 ((cQ K S (aG (aG o0 best) ps.1):Nat):Int),.int .i64 ((ps.2:Nat):Int),.bool false]) (by exact .head _) rfl rfl (by simp[Value.oneCell']) ?_
  refine Nil.ptr (aa.mk (Ld.mk (v:=ptr kp) (by exact .tail _ (List.mem_append_left _ WZ.cell)) rfl ?_))
  refine ag.fn (.cons (.app .here)) (yH hA4 (w:=k) (by omega) (by rw[List.length_append,JG];omega)) ?_
  rintro w C5 ⟨r,hro,rfl,hA5⟩
  have Xw:cQ K S (aG (aG (aG o0 best) ps.1) ((rm K S).rounds k (aG (aG o0 best) ps.1) (r+1)).1)≤cQ K S (aG (aG o0 best) ps.1):=sY (rm K S) _ _ _
  generalize (rm K S).rounds k (aG (aG o0 best) ps.1) (r+1)=rs at*
  refine Ext.mk rfl (Ext.mk rfl (Ext.mk rfl ?_))
  intro b3 _
  refine St.whole (r:=[.int .i64 ((cQ K S (aG (aG o0 best) ps.1):Nat):Int),.int .i64 ((cQ K S (aG (aG (aG o0 best) ps.1) rs.1):Nat):Int),.int .i64 ((rs.2:Nat):Int),.bool false]) (by exact .head _) rfl rfl (by simp[Value.oneCell']) ?_
  intro xQ Yt
  refine ae.jt (Split.go (by decide) ?_)
  refine ae.jt (aA.mk (Split.go (by decide) ?_))
  refine aa.mk (Ld.mk (by exact .tail _ (.head _)) rfl ?_)
  refine aa.mk (Ld.mk (by exact .tail _ (.tail _ (List.mem_append_left _ FI))) rfl ?_)
  refine ae.wD (aA.mk ?_)
  rw[decide_eq_true Xx]
  refine Split.go rfl ?_
  refine aa.mk (Ld.mk (by exact .head _) rfl ?_)
  refine aa.mk (Ld.mk (by exact .tail _ (.head _)) rfl ?_)
  refine ae.wD (aA.mk ?_)
  rw[decide_eq_true Xw]
  refine Split.go rfl ?_
  refine ae.pe (b:=1) (aA.mk ?_)
  rw[decide_eq_true (by omega)]
  refine Split.go rfl ?_
  rw[←List.cons_append,←List.cons_append]
  refine ag.px .here (C7 (WZ.mono fun _ h=>.tail _ (.tail _ h)) hg hA5 (by omega) (by omega) hne) ?_
  rintro w N7 rfl
  refine aA.mk (JE.mk (Yt _ _ fun gs=>?_))
  exact cr.mk (.sub hYn fun x hx=>List.mem_append_right _ (List.mem_append_left _ (.tail _ (.tail _ (hZ4 x (X1 x hx)))))) rfl
 refine DR.self ?_
 refine ae.c7 (Br.aX (by simp) ?_)
 refine aa.mk (Ld.mk (by exact .head _) rfl ?_)
 refine ae.GX (aA.mk (Br.Rx (by simp) ?_))
 refine aa.mk (Ld.mk (by exact .head _) rfl ?_)
 refine Nil.ptr (aa.mk (Ld.mk (v:=ptr kp) (by exact .tail _ (List.mem_append_left _ RI.cell)) rfl ?_))
 intro F
 refine ag.rd (.cons (.app .here)) (dV r5) ?_
 rintro w rfl
 refine⟨.refl _,?_⟩
 refine ae.GX (aA.mk (Br.Rx (by simp) ?_))
 refine Nil.ptr (aa.mk (Ld.mk (v:=ptr kp) (by exact .tail _ (List.mem_append_left _ RI.cell)) rfl ?_))
 intro F
 refine ag.top (Q:=fun r N=>aN 3 .i64 r (iw (aG o0 best)) N) (.cons (.app .here)) (ry r5) ?_
 intro vo2 N8 hN8
 intro F
 refine ag.rd .here (o5 (a:=iw (aG o0 best)) (b:=iw (aG o0 best)) (hN8.ints.mono fun _ h=>List.mem_append_left _ h) (W3.mono fun _ h=>List.mem_append_right _ (.tail _ (List.mem_append_left _ h))) (by rw[aq,iU];omega)) ?_
 rintro w rfl
 refine Un.not (aA.mk (Br.Rx (by simp) ?_))
 intro F
 rw[←List.cons_append,←List.append_assoc]
 refine ag.px .here (C7 (RI.mono fun _ h=>List.mem_append_right _ (.tail _ h)) hg r5 (by omega) (by omega) hne) ?_
 rintro w N9 rfl
 refine⟨aU.right.trans (aU.assoc.trans aU.right),?_⟩
 refine Un.not (aA.mk ?_)
 rw[←List.append_assoc]
 exact JE.mk (good _ (fun y hy=>List.mem_append_right _ (List.mem_append_right _ (.tail _ hy))) (List.mem_append_right _ (List.mem_append_right _ (.head _))))
end
end Go.Proofs
