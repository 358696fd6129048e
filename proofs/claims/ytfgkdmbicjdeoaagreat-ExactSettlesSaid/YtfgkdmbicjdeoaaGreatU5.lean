import Derived.Test.YtfgkdmbicjdeoaaGreatU4
import Derived.Test.YtfgkdmbicjdeoaaGreatU1
import Derived.Test.YtfgkdmbicjdeoaaGreatU3
import Derived.Test.YtfgkdmbicjdeoaaGreatU2
set_option linter.unusedVariables false
set_option linter.unusedSimpArgs false
set_option linter.unusedSectionVars false
set_option maxRecDepth 100000
namespace Go.Proofs
open Go Go.Sx
open Im
theorem JU(B:Hp):Fc Tryz.prog 76 #[] B (fun v H=>∃b C,v=.pointer (some ⟨b,0,none⟩)∧H=C++B∧Fa (.pointer (some ⟨b,0,none⟩)) [] C):=by
 refine aX fun g=>Es ?_
 refine Build.mk (cs:=[.slice none 0 0,.map none]) (by kernel_rfl) ?_
 intro b _
 exact⟨_,_,rfl,.refl _,b,[_],rfl,rfl,fun _=>none,⟨b,_,_,[],[],rfl,rfl,aN.nil _ _,.inl ⟨rfl,rfl,rfl⟩,fun _=>rfl⟩,⟨fun j hj=>by simp at hj,fun _ _=>rfl⟩,fun j _ hj=>by simp at hj,by simp[eF]⟩
theorem JY{h:Value}{l:List It}{C:Hp}(hi:Fa h l C)(x:Int):
  Rd Tryz.prog 79 #[h,.int .i64 x] C (fun v=>(x∉l.map Prod.fst∧v=.tuple #[.int .i64 0,.int .i64 10])∨∃k,(x,k)∈l∧v=.tuple #[.int .i64 k,.int .i64 0]):=by
 obtain⟨f,ho,hc,_,_⟩:=hi
 refine aX fun g=>Ep ?_
 rcases rh hc (x:=x)with⟨h1,h2⟩|⟨i,hi,h1,h2⟩
 ·obtain⟨bh,sv,mv,Cs,Cm,rfl,rfl,hs,hm,hne⟩:=ho
  (repeat (first|refine Nil.ptr ?_|refine ag.mk ?_|refine Ld.mk zM rfl ?_|refine az.mk ?_|refine aa.eql ?_|refine aa.neq ?_|refine aa.lss ?_|refine aa.leq ?_|refine aa.gtr ?_|refine aa.geq ?_|refine Un.not ?_|refine Ext.mk rfl ?_|refine ay.mk ?_|refine aa.aB ?_|refine aa.aQ ?_|refine aa.aP ?_|refine Br.yes ?_|refine Br.no ?_))
  refine hm.ob zS h2 ?_
  (repeat (first|refine Nil.ptr ?_|refine ag.mk ?_|refine Ld.mk zM rfl ?_|refine az.mk ?_|refine aa.eql ?_|refine aa.neq ?_|refine aa.lss ?_|refine aa.leq ?_|refine aa.gtr ?_|refine aa.geq ?_|refine Un.not ?_|refine Ext.mk rfl ?_|refine ay.mk ?_|refine aa.aB ?_|refine aa.aQ ?_|refine aa.aP ?_|refine Br.yes ?_|refine Br.no ?_))
  exact bO.mk (.refl _) (.inl ⟨h1,rfl⟩)
 ·obtain⟨bh,la,mb,aD,Cm,rfl,rfl,aA,hm⟩:=ho.open (by omega)
  (repeat (first|refine Nil.ptr ?_|refine ag.mk ?_|refine Ld.mk zM rfl ?_|refine az.mk ?_|refine aa.eql ?_|refine aa.neq ?_|refine aa.lss ?_|refine aa.leq ?_|refine aa.gtr ?_|refine aa.geq ?_|refine Un.not ?_|refine Ext.mk rfl ?_|refine ay.mk ?_|refine aa.aB ?_|refine aa.aQ ?_|refine aa.aP ?_|refine Br.yes ?_|refine Br.no ?_))
  refine hm.kO zS h2 ?_
  (repeat (first|refine Nil.ptr ?_|refine ag.mk ?_|refine Ld.mk zM rfl ?_|refine az.mk ?_|refine aa.eql ?_|refine aa.neq ?_|refine aa.lss ?_|refine aa.leq ?_|refine aa.gtr ?_|refine aa.geq ?_|refine Un.not ?_|refine Ext.mk rfl ?_|refine ay.mk ?_|refine aa.aB ?_|refine aa.aQ ?_|refine aa.aP ?_|refine Br.yes ?_|refine Br.no ?_))
  refine aj.nat hi ?_
  (repeat (first|refine Nil.ptr ?_|refine ag.mk ?_|refine Ld.mk zM rfl ?_|refine az.mk ?_|refine aa.eql ?_|refine aa.neq ?_|refine aa.lss ?_|refine aa.leq ?_|refine aa.gtr ?_|refine aa.geq ?_|refine Un.not ?_|refine Ext.mk rfl ?_|refine ay.mk ?_|refine aa.aB ?_|refine aa.aQ ?_|refine aa.aP ?_|refine Br.yes ?_|refine Br.no ?_))
  refine Ld.row (l:=cW .i64 l++aD) (j:=1) zM aA (dr hi aD) rfl ?_
  refine bO.mk (.refl _) (.inr ⟨_,?_,rfl⟩)
  have:=Ci hi
  rw[←h1];exact List.mem_of_getElem? this
theorem vW{h:Value}{l:List It}{C:Hp}(hi:Fa h l C)(aU:l.length<4398046511104)(x k:Int):
  Fc Tryz.prog 77 #[h,.int .i64 x,.int .i64 k] C (fun v C'=>∃l',Fa h l' C'∧
   ((x∈l.map Prod.fst∧v=.int .i64 11∧l'=l)∨(x∉l.map Prod.fst∧v=.int .i64 0∧l'.Perm ((x,k)::l)))):=by
 have DF:=hi
 obtain⟨f,ho,hc,hO,h1⟩:=hi
 have JT:=ho
 obtain⟨bh,sv,mv,Cs,Cm,rfl,rfl,hs,hm,hne⟩:=ho
 refine aX fun g=>Er ?_
 (repeat (first|refine Nil.ptr ?_|refine ag.mk ?_|refine Ld.mk zM rfl ?_|refine az.mk ?_|refine aa.eql ?_|refine aa.neq ?_|refine aa.lss ?_|refine aa.leq ?_|refine aa.gtr ?_|refine aa.geq ?_|refine Un.not ?_|refine Ext.mk rfl ?_|refine ay.mk ?_|refine aa.aB ?_|refine aa.aQ ?_|refine aa.aP ?_|refine Br.yes ?_|refine Br.no ?_))
 rcases rh hc (x:=x)with⟨hx,hf⟩|⟨i,hi,hx,hf⟩
 ·refine hm.ob zS hf ?_
  (repeat (first|refine Nil.ptr ?_|refine ag.mk ?_|refine Ld.mk zM rfl ?_|refine az.mk ?_|refine aa.eql ?_|refine aa.neq ?_|refine aa.lss ?_|refine aa.leq ?_|refine aa.gtr ?_|refine aa.geq ?_|refine Un.not ?_|refine Ext.mk rfl ?_|refine ay.mk ?_|refine aa.aB ?_|refine aa.aQ ?_|refine aa.aP ?_|refine Br.yes ?_|refine Br.no ?_))
  intro J hJ
  obtain⟨r9,iP,Lp,Ob⟩:=FV (a:=(x,k)) hc hO h1 hx
  have fR:∀mb KU,ic .i64 idx (.map (some mb)) f KU→J [] ((bh,Obj.cells #[sv,.map (some mb)] 231 (0,0))::(Cs++KU)):=by
   intro mb KU hm'
   refine hJ _ fun gs=>?_
   (repeat (first|refine Nil.ptr ?_|refine ag.mk ?_|refine Ld.mk zM rfl ?_|refine az.mk ?_|refine aa.eql ?_|refine aa.neq ?_|refine aa.lss ?_|refine aa.leq ?_|refine aa.gtr ?_|refine aa.geq ?_|refine Un.not ?_|refine Ext.mk rfl ?_|refine ay.mk ?_|refine aa.aB ?_|refine aa.aQ ?_|refine aa.aP ?_|refine Br.yes ?_|refine Br.no ?_))
   refine Build.mk (cs:=enc .i64 (x,k)) (by kernel_rfl) ?_
   refine an.one (k:=2) (e:=233) (z:=.agg #[.int .i64 0,.int .i64 0]) (by kernel_rfl) (by kernel_rfl) (by kernel_rfl) (by decide) rfl fun xb=>?_
   refine hs.y6 (A:=[_,_]) (B:=KU) (r:=enc .i64 (x,k)) zM rfl (kX _ _) ⟨[.int .i64 0,.int .i64 0],rfl,rfl⟩ (by rw[cw];omega) (by rw[cw];omega) fun v' C' hs'=>?_
   (repeat (first|refine Nil.ptr ?_|refine ag.mk ?_|refine Ld.mk zM rfl ?_|refine az.mk ?_|refine aa.eql ?_|refine aa.neq ?_|refine aa.lss ?_|refine aa.leq ?_|refine aa.gtr ?_|refine aa.geq ?_|refine Un.not ?_|refine Ext.mk rfl ?_|refine ay.mk ?_|refine aa.aB ?_|refine aa.aQ ?_|refine aa.aP ?_|refine Br.yes ?_|refine Br.no ?_))
   refine St.one (by repeat (first|exact cA.head _|apply cA.tail|apply cA.bU)) (by obtain⟨a,c,rfl⟩:=hs'.len;rfl) (by simp) rfl ?_
   (repeat (first|refine Nil.ptr ?_|refine ag.mk ?_|refine Ld.mk zM rfl ?_|refine az.mk ?_|refine aa.eql ?_|refine aa.neq ?_|refine aa.lss ?_|refine aa.leq ?_|refine aa.gtr ?_|refine aa.geq ?_|refine Un.not ?_|refine Ext.mk rfl ?_|refine ay.mk ?_|refine aa.aB ?_|refine aa.aQ ?_|refine aa.aP ?_|refine Br.yes ?_|refine Br.no ?_))
   refine hs'.aM ?_
   refine aa.jm (c:=((l.length:Nat):Int)) (by rw[List.length_append,cw];simp) (by omega) ?_
   have qG:aN 233 2 v' (cW .i64 (l++[(x,k)])) C':=by simpa[cW]using hs'
   have br:Ip (.pointer (some ⟨bh,0,none⟩)) (l++[(x,k)]) f ((bh,Obj.cells #[v',.map (some mb)] 231 (0,0))::(C'++KU)):=
    ⟨bh,_,_,C',KU,rfl,rfl,qG,hm',fun h=>by simp at h⟩
   refine ae.pre (.tail) ?_
   refine ae.fq (GD br (i:=l.length) (by simp) (by simp;omega) r9 iP Lp) ?_
   rintro v Oy ⟨rfl,l',f',p,lg,cD,Qd,hex,hp,oW,Dz⟩
   refine⟨_,_,rfl,.refl _,l',⟨f',lg,Qd,Dz Ob,Lp.perm cD⟩,.inr ⟨hx,rfl,cD.trans ?_⟩⟩
   exact List.perm_append_comm (l₁:=l) (l₂:=[(x,k)])
  (repeat (first|refine Nil.ptr ?_|refine ag.mk ?_|refine Ld.mk zM rfl ?_|refine az.mk ?_|refine aa.eql ?_|refine aa.neq ?_|refine aa.lss ?_|refine aa.leq ?_|refine aa.gtr ?_|refine aa.geq ?_|refine Un.not ?_|refine Ext.mk rfl ?_|refine ay.mk ?_|refine aa.aB ?_|refine aa.aQ ?_|refine aa.aP ?_|refine Br.yes ?_|refine Br.no ?_))
  rcases hm with⟨rfl,rfl,hfn⟩|⟨mb,m,ck,rfl,h2⟩
  ·(repeat (first|refine Nil.ptr ?_|refine ag.mk ?_|refine Ld.mk zM rfl ?_|refine az.mk ?_|refine aa.eql ?_|refine aa.neq ?_|refine aa.lss ?_|refine aa.leq ?_|refine aa.gtr ?_|refine aa.geq ?_|refine Un.not ?_|refine Ext.mk rfl ?_|refine ay.mk ?_|refine aa.aB ?_|refine aa.aQ ?_|refine aa.aP ?_|refine Br.yes ?_|refine Br.no ?_))
   intro mb _
   (repeat (first|refine Nil.ptr ?_|refine ag.mk ?_|refine Ld.mk zM rfl ?_|refine az.mk ?_|refine aa.eql ?_|refine aa.neq ?_|refine aa.lss ?_|refine aa.leq ?_|refine aa.gtr ?_|refine aa.geq ?_|refine Un.not ?_|refine Ext.mk rfl ?_|refine ay.mk ?_|refine aa.aB ?_|refine aa.aQ ?_|refine aa.aP ?_|refine Br.yes ?_|refine Br.no ?_))
   refine St.one (by repeat (first|exact cA.head _|apply cA.tail|apply cA.bU)) rfl (by simp) rfl ?_
   refine JE.of ?_ (fR mb _ (by rw[hfn];exact ic.made mb))
   simp only[List.append_nil]
   refine .perm ?_
   refine(List.Perm.swap _ _ _).trans (.cons _ ?_)
   exact List.perm_append_comm (l₁:=[_])
  ·(repeat (first|refine Nil.ptr ?_|refine ag.mk ?_|refine Ld.mk zM rfl ?_|refine az.mk ?_|refine aa.eql ?_|refine aa.neq ?_|refine aa.lss ?_|refine aa.leq ?_|refine aa.gtr ?_|refine aa.geq ?_|refine Un.not ?_|refine Ext.mk rfl ?_|refine ay.mk ?_|refine aa.aB ?_|refine aa.aQ ?_|refine aa.aP ?_|refine Br.yes ?_|refine Br.no ?_))
   refine JE.mk ?_
   exact fR mb Cm (.inr ⟨mb,m,ck,rfl,h2⟩)
 ·refine hm.kO zS hf ?_
  (repeat (first|refine Nil.ptr ?_|refine ag.mk ?_|refine Ld.mk zM rfl ?_|refine az.mk ?_|refine aa.eql ?_|refine aa.neq ?_|refine aa.lss ?_|refine aa.leq ?_|refine aa.gtr ?_|refine aa.geq ?_|refine Un.not ?_|refine Ext.mk rfl ?_|refine ay.mk ?_|refine aa.aB ?_|refine aa.aQ ?_|refine aa.aP ?_|refine Br.yes ?_|refine Br.no ?_))
  refine⟨_,_,rfl,.refl _,l,DF,.inl ⟨?_,rfl,rfl⟩⟩
  rw[fx];exact⟨i,hi,hx⟩
theorem GR{h:Value}{l:List It}{C:Hp}(hi:Fa h l C)(aU:l.length<4398046511104)(x k:Int):
  Fc Tryz.prog 80 #[h,.int .i64 x,.int .i64 k] C (fun v C'=>∃l',Fa h l' C'∧
   ((x∉l.map Prod.fst∧v=.int .i64 10∧l'=l)∨(∃k0 r,l.Perm ((x,k0)::r)∧l'.Perm ((x,k)::r)∧v=.int .i64 0))):=by
 have DF:=hi
 obtain⟨f,ho,hc,hO,h1⟩:=hi
 refine aX fun g=>Eo ?_
 rcases rh hc (x:=x)with⟨hx,hf⟩|⟨i,hi,hx,hf⟩
 ·obtain⟨bh,sv,mv,Cs,Cm,rfl,rfl,hs,hm,hne⟩:=ho
  (repeat (first|refine Nil.ptr ?_|refine ag.mk ?_|refine Ld.mk zM rfl ?_|refine az.mk ?_|refine aa.eql ?_|refine aa.neq ?_|refine aa.lss ?_|refine aa.leq ?_|refine aa.gtr ?_|refine aa.geq ?_|refine Un.not ?_|refine Ext.mk rfl ?_|refine ay.mk ?_|refine aa.aB ?_|refine aa.aQ ?_|refine aa.aP ?_|refine Br.yes ?_|refine Br.no ?_))
  refine hm.ob zS hf ?_
  (repeat (first|refine Nil.ptr ?_|refine ag.mk ?_|refine Ld.mk zM rfl ?_|refine az.mk ?_|refine aa.eql ?_|refine aa.neq ?_|refine aa.lss ?_|refine aa.leq ?_|refine aa.gtr ?_|refine aa.geq ?_|refine Un.not ?_|refine Ext.mk rfl ?_|refine ay.mk ?_|refine aa.aB ?_|refine aa.aQ ?_|refine aa.aP ?_|refine Br.yes ?_|refine Br.no ?_))
  exact⟨_,_,rfl,.refl _,l,DF,.inl ⟨hx,rfl,rfl⟩⟩
 ·obtain⟨bh,la,mb,aD,Cm,rfl,rfl,aA,hm⟩:=ho.open (by omega)
  (repeat (first|refine Nil.ptr ?_|refine ag.mk ?_|refine Ld.mk zM rfl ?_|refine az.mk ?_|refine aa.eql ?_|refine aa.neq ?_|refine aa.lss ?_|refine aa.leq ?_|refine aa.gtr ?_|refine aa.geq ?_|refine Un.not ?_|refine Ext.mk rfl ?_|refine ay.mk ?_|refine aa.aB ?_|refine aa.aQ ?_|refine aa.aP ?_|refine Br.yes ?_|refine Br.no ?_))
  refine hm.kO zS hf ?_
  (repeat (first|refine Nil.ptr ?_|refine ag.mk ?_|refine Ld.mk zM rfl ?_|refine az.mk ?_|refine aa.eql ?_|refine aa.neq ?_|refine aa.lss ?_|refine aa.leq ?_|refine aa.gtr ?_|refine aa.geq ?_|refine Un.not ?_|refine Ext.mk rfl ?_|refine ay.mk ?_|refine aa.aB ?_|refine aa.aQ ?_|refine aa.aP ?_|refine Br.yes ?_|refine Br.no ?_))
  refine aj.nat hi ?_
  (repeat (first|refine Nil.ptr ?_|refine ag.mk ?_|refine Ld.mk zM rfl ?_|refine az.mk ?_|refine aa.eql ?_|refine aa.neq ?_|refine aa.lss ?_|refine aa.leq ?_|refine aa.gtr ?_|refine aa.geq ?_|refine Un.not ?_|refine Ext.mk rfl ?_|refine ay.mk ?_|refine aa.aB ?_|refine aa.aQ ?_|refine aa.aP ?_|refine Br.yes ?_|refine Br.no ?_))
  refine St.cell (l:=cW .i64 l++aD) (j:=1) (by repeat (first|exact cA.head _|apply cA.tail|apply cA.bU)) aA (dr hi aD) (by decide) rfl ?_
  obtain⟨p1,p2,p3⟩:=Gg hc hO h1 hi k
  have Dx:(cW .i64 l++aD).set i ((enc .i64 (aS l i)).set 1 (.int .i64 k))=cW .i64 (l.set i ((aS l i).1,k))++aD:=by
   rw[←wI hi];rfl
  rw[Dx]
  obtain⟨r,Ps,jY⟩:=Jm hi ((aS l i).1,k)
  have br:Ip (.pointer (some ⟨bh,0,none⟩)) (l.set i ((aS l i).1,k)) f ((bh,Obj.cells #[.slice (some ⟨la,0,none⟩) l.length (l.length+aD.length),.map (some mb)] 231 (0,0))::(la,.cells (rows (cW .i64 (l.set i ((aS l i).1,k))++aD)) 233 (0,0))::Cm):=
   .shut (vb aA _ _) (by simp) (by simp) hm
  refine ae.fq (GD br (i:=i) (by simpa using hi) (by simp;omega) p1 p2 p3) ?_
  rintro v C' ⟨rfl,l',f',p,lg,cD,Qd,hex,hp,oW,_⟩
  have LS:=p3.perm cD
  have hlen:=cD.length_eq
  simp only[List.length_set]at hlen
  obtain⟨VX,EX,Zz,BS,KU,LM,rfl,wh,hm'⟩:=lg.open (by omega)
  simp only[Value.pointer.injEq,Option.some.injEq,Addr.mk.injEq,and_true]at LM
  subst LM
  have XJ:f' x=some p:=by
   have:=Qd.1 p hp
   rw[oW,eo _ hi]at this
   simp only[eY,if_true]at this
   rw[←hx];exact this
  (repeat (first|refine Nil.ptr ?_|refine ag.mk ?_|refine Ld.mk zM rfl ?_|refine az.mk ?_|refine aa.eql ?_|refine aa.neq ?_|refine aa.lss ?_|refine aa.leq ?_|refine aa.gtr ?_|refine aa.geq ?_|refine Un.not ?_|refine Ext.mk rfl ?_|refine ay.mk ?_|refine aa.aB ?_|refine aa.aQ ?_|refine aa.aP ?_|refine Br.yes ?_|refine Br.no ?_))
  refine hm'.kO zS XJ ?_
  refine ae.fq (wc (.shut wh rfl rfl hm') (i:=p) hp (by omega) hex (Qd.x p) LS) ?_
  rintro v C2 ⟨rfl,l2,f2,xq,GM,TK,Dz⟩
  refine⟨_,_,rfl,.refl _,l2,⟨f2,xq,TK,Dz,LS.perm GM⟩,.inr ⟨(aS l i).2,r,?_,?_,rfl⟩⟩
  ·rw[←hx];exact Ps
  ·rw[←hx];exact GM.trans (cD.trans jY)
theorem JR{h:Value}{l:List It}{C:Hp}(hi:Fa h l C)(aU:l.length<4398046511104):
  Fc Tryz.prog 78 #[h] C (fun v C'=>∃l',Fa h l' C'∧
   ((l=[]∧v=.tuple #[.int .i64 0,.int .i64 0,.int .i64 10]∧l'=l)∨(∃a,l.Perm (a::l')∧(∀b∈l,prec b a=false)∧v=.tuple #[.int .i64 a.1,.int .i64 a.2,.int .i64 0]))):=by
 have DF:=hi
 obtain⟨f,ho,hc,hO,h1⟩:=hi
 by_cases hl:l=[]
 ·subst hl
  refine aX fun g=>tH ?_
  obtain⟨bh,sv,mv,Cs,Cm,rfl,rfl,hs,hm,hne⟩:=ho
  (repeat (first|refine Nil.ptr ?_|refine ag.mk ?_|refine Ld.mk zM rfl ?_|refine az.mk ?_|refine aa.eql ?_|refine aa.neq ?_|refine aa.lss ?_|refine aa.leq ?_|refine aa.gtr ?_|refine aa.geq ?_|refine Un.not ?_|refine Ext.mk rfl ?_|refine ay.mk ?_|refine aa.aB ?_|refine aa.aQ ?_|refine aa.aP ?_|refine Br.yes ?_|refine Br.no ?_))
  refine dI.or true (fun _=>?_) rfl fun _=>?_
  ·(repeat (first|refine Nil.ptr ?_|refine ag.mk ?_|refine Ld.mk zM rfl ?_|refine az.mk ?_|refine aa.eql ?_|refine aa.neq ?_|refine aa.lss ?_|refine aa.leq ?_|refine aa.gtr ?_|refine aa.geq ?_|refine Un.not ?_|refine Ext.mk rfl ?_|refine ay.mk ?_|refine aa.aB ?_|refine aa.aQ ?_|refine aa.aP ?_|refine Br.yes ?_|refine Br.no ?_))
   refine hs.aM ?_
   (repeat (first|refine Nil.ptr ?_|refine ag.mk ?_|refine Ld.mk zM rfl ?_|refine az.mk ?_|refine aa.eql ?_|refine aa.neq ?_|refine aa.lss ?_|refine aa.leq ?_|refine aa.gtr ?_|refine aa.geq ?_|refine Un.not ?_|refine Ext.mk rfl ?_|refine ay.mk ?_|refine aa.aB ?_|refine aa.aQ ?_|refine aa.aP ?_|refine Br.yes ?_|refine Br.no ?_))
   exact⟨rfl,rfl⟩
  ·(repeat (first|refine Nil.ptr ?_|refine ag.mk ?_|refine Ld.mk zM rfl ?_|refine az.mk ?_|refine aa.eql ?_|refine aa.neq ?_|refine aa.lss ?_|refine aa.leq ?_|refine aa.gtr ?_|refine aa.geq ?_|refine Un.not ?_|refine Ext.mk rfl ?_|refine ay.mk ?_|refine aa.aB ?_|refine aa.aQ ?_|refine aa.aP ?_|refine Br.yes ?_|refine Br.no ?_))
   exact⟨_,_,rfl,.refl _,[],DF,.inl ⟨rfl,rfl,rfl⟩⟩
 ·obtain⟨n,hn⟩:∃n,l.length=n+1:=⟨l.length-1,by have:=List.length_pos_iff.2 hl;omega⟩
  have hmin:∀b∈l,prec b (aS l 0)=false:=fun b hb=>by
   obtain⟨j,hj,e⟩:=List.mem_iff_getElem.1 hb
   have:=Jo hO j hj
   rwa [show aS l j=b by simp[aS,List.getD,hj,e]]at this
  intro g
  refine tH (R:=bN _) ?_
  obtain⟨bh,la,mb,aD,Cm,rfl,rfl,aA,hm⟩:=ho.open (by omega)
  unfold L78
  (repeat (first|refine Nil.ptr ?_|refine ag.mk ?_|refine Ld.mk zM rfl ?_|refine az.mk ?_|refine aa.eql ?_|refine aa.neq ?_|refine aa.lss ?_|refine aa.leq ?_|refine aa.gtr ?_|refine aa.geq ?_|refine Un.not ?_|refine Ext.mk rfl ?_|refine ay.mk ?_|refine aa.aB ?_|refine aa.aQ ?_|refine aa.aP ?_|refine Br.yes ?_|refine Br.no ?_))
  refine dI.or false (fun _=>?_) rfl fun _=>?_
  ·(repeat (first|refine Nil.ptr ?_|refine ag.mk ?_|refine Ld.mk zM rfl ?_|refine az.mk ?_|refine aa.eql ?_|refine aa.neq ?_|refine aa.lss ?_|refine aa.leq ?_|refine aa.gtr ?_|refine aa.geq ?_|refine Un.not ?_|refine Ext.mk rfl ?_|refine ay.mk ?_|refine aa.aB ?_|refine aa.aQ ?_|refine aa.aP ?_|refine Br.yes ?_|refine Br.no ?_))
   exact⟨rfl,by rw[hn];simp;omega⟩
  (repeat (first|refine Nil.ptr ?_|refine ag.mk ?_|refine Ld.mk zM rfl ?_|refine az.mk ?_|refine aa.eql ?_|refine aa.neq ?_|refine aa.lss ?_|refine aa.leq ?_|refine aa.gtr ?_|refine aa.geq ?_|refine Un.not ?_|refine Ext.mk rfl ?_|refine ay.mk ?_|refine aa.aB ?_|refine aa.aQ ?_|refine aa.aP ?_|refine Br.yes ?_|refine Br.no ?_))
  refine aj.of 0 rfl (by omega) ?_
  refine ax.row (l:=cW .i64 l++aD) zM aA (dr (by omega) aD) ?_
  intro V2 _
  refine St.p (kX _ _) ?_
  (repeat (first|refine Nil.ptr ?_|refine ag.mk ?_|refine Ld.mk zM rfl ?_|refine az.mk ?_|refine aa.eql ?_|refine aa.neq ?_|refine aa.lss ?_|refine aa.leq ?_|refine aa.gtr ?_|refine aa.geq ?_|refine Un.not ?_|refine Ext.mk rfl ?_|refine ay.mk ?_|refine aa.aB ?_|refine aa.aQ ?_|refine aa.aP ?_|refine Br.yes ?_|refine Br.no ?_))
  refine aa.jm (c:=(n:Int)) (by rw[hn];simp) (by omega) ?_
  (repeat (first|refine Nil.ptr ?_|refine ag.mk ?_|refine Ld.mk zM rfl ?_|refine az.mk ?_|refine aa.eql ?_|refine aa.neq ?_|refine aa.lss ?_|refine aa.leq ?_|refine aa.gtr ?_|refine aa.geq ?_|refine Un.not ?_|refine Ext.mk rfl ?_|refine ay.mk ?_|refine aa.aB ?_|refine aa.aQ ?_|refine aa.aP ?_|refine Br.yes ?_|refine Br.no ?_))
  refine aj.nat (by omega) ?_
  refine ax.row (l:=cW .i64 l++aD) zM aA (dr (by omega) aD) ?_
  intro YH _
  refine St.p (kX _ _) ?_
  (repeat (first|refine Nil.ptr ?_|refine ag.mk ?_|refine Ld.mk zM rfl ?_|refine az.mk ?_|refine aa.eql ?_|refine aa.neq ?_|refine aa.lss ?_|refine aa.leq ?_|refine aa.gtr ?_|refine aa.geq ?_|refine Un.not ?_|refine Ext.mk rfl ?_|refine ay.mk ?_|refine aa.aB ?_|refine aa.aQ ?_|refine aa.aP ?_|refine Br.yes ?_|refine Br.no ?_))
  refine eU.upto (h:=n) (by omega) ?_
  (repeat (first|refine Nil.ptr ?_|refine ag.mk ?_|refine Ld.mk zM rfl ?_|refine az.mk ?_|refine aa.eql ?_|refine aa.neq ?_|refine aa.lss ?_|refine aa.leq ?_|refine aa.gtr ?_|refine aa.geq ?_|refine Un.not ?_|refine Ext.mk rfl ?_|refine ay.mk ?_|refine aa.aB ?_|refine aa.aQ ?_|refine aa.aP ?_|refine Br.yes ?_|refine Br.no ?_))
  refine St.one (by repeat (first|exact cA.head _|apply cA.tail|apply cA.bU)) rfl (by simp) rfl ?_
  refine DR.self ?_
  (repeat (first|refine Nil.ptr ?_|refine ag.mk ?_|refine Ld.mk zM rfl ?_|refine az.mk ?_|refine aa.eql ?_|refine aa.neq ?_|refine aa.lss ?_|refine aa.leq ?_|refine aa.gtr ?_|refine aa.geq ?_|refine Un.not ?_|refine Ext.mk rfl ?_|refine ay.mk ?_|refine aa.aB ?_|refine aa.aQ ?_|refine aa.aP ?_|refine Br.yes ?_|refine Br.no ?_))
  rw[←List.append_nil Cm]
  refine ic.del (A:=[_,_,_,_]) (B:=[]) hm fun KU hm'=>?_
  rw[List.append_nil]
  have Lm:cW .i64 l++aD=cW .i64 (l.take n)++(enc .i64 (aS l n)::aD):=by
   have e:l=l.take n++[aS l n]:=by
    have h2:l.drop n=[aS l n]:=by
     rw[List.drop_eq_getElem_cons (by omega),List.drop_eq_nil_of_le (by omega)]
     simp[hn,aS,List.getD]
    have:=(List.take_append_drop n l).symm
    rw[h2]at this;exact this
   conv=>lhs;rw[e]
   simp[cW]
  have wh:∀r∈cW .i64 (l.take n)++(enc .i64 (aS l n)::aD),r.length=2:=by rw[←Lm];exact aA
  intro J hJ
  have hlt:(l.take n).length=n:=by simp[hn]
  have fR:∀l' C',Fa (.pointer (some ⟨bh,0,none⟩)) l' C'→l.Perm (aS l 0::l')→J [] ((YH,Obj.cells (enc .i64 (aS l n)).toArray 233 (0,0))::(V2,Obj.cells (enc .i64 (aS l 0)).toArray 233 (0,0))::C'):=by
   intro l' C' hi' MS
   refine hJ _ fun gs=>?_
   (repeat (first|refine Nil.ptr ?_|refine ag.mk ?_|refine Ld.mk zM rfl ?_|refine az.mk ?_|refine aa.eql ?_|refine aa.neq ?_|refine aa.lss ?_|refine aa.leq ?_|refine aa.gtr ?_|refine aa.geq ?_|refine Un.not ?_|refine Ext.mk rfl ?_|refine ay.mk ?_|refine aa.aB ?_|refine aa.aQ ?_|refine aa.aP ?_|refine Br.yes ?_|refine Br.no ?_))
   exact⟨_,_,rfl,.skip .tail,l',hi',.inr ⟨_,MS,hmin,rfl⟩⟩
  (repeat (first|refine Nil.ptr ?_|refine ag.mk ?_|refine Ld.mk zM rfl ?_|refine az.mk ?_|refine aa.eql ?_|refine aa.neq ?_|refine aa.lss ?_|refine aa.leq ?_|refine aa.gtr ?_|refine aa.geq ?_|refine Un.not ?_|refine Ext.mk rfl ?_|refine ay.mk ?_|refine aa.aB ?_|refine aa.aQ ?_|refine aa.aP ?_|refine Br.yes ?_|refine Br.no ?_))
  have xu:Ip (.pointer (some ⟨bh,0,none⟩)) (l.take n) (xl f (aS l 0).1 none) ((bh,Obj.cells #[.slice (some ⟨la,0,none⟩) n (l.length+aD.length),.map (some mb)] 231 (0,0))::(la,.cells (rows (cW .i64 l++aD)) 233 (0,0))::KU):=by
   rw[Lm]
   exact .shut wh hlt.symm (by simp[hn];omega) hm'
  refine Br.mk (fun h0=>?_) (fun h0=>?_)
  ·have h0:0<n:=by simpa using h0
   obtain⟨_,q1,q2,q3,q4⟩:=Jg hc hO h1 hn h0
   refine ax.q ?_
   refine ae.fq (nt xu (i:=0) (by omega) (aS l n)) ?_
   rintro v C2 ⟨rfl,lg⟩
   have DJ:g7 ((l.take n).set 0 (aS l n)) (xl (xl f (aS l 0).1 none) (aS l n).1 (some 0)) 0:=by
    refine⟨fun j hj M5=>?_,fun x hx=>?_⟩
    ·unfold xl
     rw[if_neg]
     ·exact q4.1 j hj M5
     ·intro e
      have Yr:aS ((l.take n).set 0 (aS l n)) 0=aS l n:=by rw[eo _ (by omega)];simp[eY]
      exact M5 (q3.inj hj (by simp;omega) (by rw[e,Yr]))
    ·unfold xl
     rw[if_neg]
     ·exact q4.2 x hx
     ·intro e
      refine hx (fx.2 ⟨0,by simp;omega,?_⟩)
      rw[eo _ (by omega)];simp[eY,e]
   refine ae.fq (wc lg (i:=0) (by simp;omega) (by simp;omega) (by simpa[hn]using q2) DJ q3) ?_
   rintro v C3 ⟨rfl,l3,f3,xq,GL,TK,PC⟩
   exact JE.mk (fR l3 C3 ⟨f3,xq,TK,PC,q3.perm GL⟩ ((GL.cons (aS l 0)).trans q1).symm)
  ·have h0:n=0:=by simp at h0;omega
   subst h0
   refine JE.mk (fR (l.take 0) _ ⟨_,xu,⟨fun j hj=>by simp at hj,fun x _=>?_⟩,fun j _ hj=>by simp at hj,by simp[eF]⟩ ?_)
   ·unfold xl
    split
    ·rfl
    ·rename_i hne
     refine hc.2 x fun hm=>hne ?_
     obtain⟨j,hj,e⟩:=fx.1 hm
     rw[show j=0 by omega]at e;exact e.symm
   ·match l,hn with
    | [a],_=>exact .refl _
end Go.Proofs
namespace af
open Go.Sx Im
theorem FZ(n:Nat)(c:Nat→Nat→Nat)(M:Nat)(hc:∀a v,c a v≤M):∀f a,par n c f a≤f*M
  |0,a=>by simp[par]
  |f+1,a=>by
    rw[par,Nat.succ_mul]
    by_cases h:has n a=[]
    · rw[h];simp[dP]
    · have:=gm (l:=(has n a).map fun v=>c (au a v false) v+par n c f (au a v false)) (by simpa using h)
      obtain⟨v,_,e⟩:=List.mem_map.1 this
      rw[←e]
      have h1:=hc (au a v false) v
      have h2:=FZ n c M hc f (au a v false)
      omega
theorem Ja{s v:Nat}(h:s.testBit v=false):au (au s v true) v false=s:=by
  apply Nat.eq_of_testBit_eq;intro k
  rw[ai,ai]
  split
  · rename_i e;rw[e,h]
  · rfl
theorem tT{S T:Nat}(h:S&&&T=S){v:Nat}(hv:S.testBit v=true):T.testBit v=true:=by
  have:=congrArg (fun x=>x.testBit v) h
  simp only[Nat.testBit_and,hv,Bool.true_and]at this
  exact this
theorem FC{S T:Nat}(h:∀v,S.testBit v=true→T.testBit v=true):S&&&T=S:=by
  apply Nat.eq_of_testBit_eq;intro k
  rw[Nat.testBit_and]
  cases hs:S.testBit k with
  |false=>rfl
  |true=>rw[h k hs];rfl
theorem sub_le{S T:Nat}(h:S&&&T=S):S≤T:=by rw[←h];exact Nat.and_le_right
theorem BA{S T v:Nat}(h:S&&&T=S)(hv:T.testBit v=true):au S v true&&&T=au S v true:=FC fun k hk=>by
  rw[ai]at hk
  split at hk
  · rename_i e;rw[e];exact hv
  · exact tT h hk
theorem FK{s v:Nat}:au s v true≠0:=fun e=>by
  have:=congrArg (fun x=>x.testBit v) e
  simp[ai]at this
def nn(s k:Nat):It:=((s:Int),(k:Int))
theorem Gb{s k s' k':Nat}(h:nn s k=nn s' k'):s=s'∧k=k':=by
  simp only[nn,Prod.mk.injEq]at h;omega
structure mh(n:Nat)(c:Nat→Nat→Nat)(T:Nat)(D:List Nat)(l:List It)(s i:Nat):Prop where
  items:∀x∈l,∃S k:Nat,x=nn S k∧S&&&T=S∧S∉D∧W n c S≤k
  zero:0∈D∨nn 0 0∈l
  step:∀S∈D,∀v,v<n→T.testBit v=true→S.testBit v=false→(S=s→v<i)→au S v true∈D∨∃k,nn (au S v true) k∈l∧k≤W n c S+c S v
  sub:∀S∈D,S&&&T=S
  nd:D.Nodup
  top:T∉D
variable {n:Nat} {c:Nat→Nat→Nat} {T:Nat} {D:List Nat} {l l':List It} {s i:Nat}
theorem Ih:W n c 0=0:=xf (by simp[has])
theorem mh.start(hT:T<2^n)(h:l.Perm [nn 0 0])(s:Nat):mh n c T [] l s n:=
  ⟨fun x hx=>by have:=h.mem_iff.1 hx;simp at this;exact⟨0,0,this,by simp,by simp,by rw[Ih];exact Nat.le_refl _⟩,.inr (h.mem_iff.2 (by simp)),by simp,by simp,by simp,by simp⟩
theorem mh.low(h:mh n c T D l s n)(hT:T<2^n):∀(d S:Nat),(has n S).length=d→S&&&T=S→S∉D→∃S' k,nn S' k∈l∧k≤W n c S∧(S'=S→k=k)
  |d,S,hd,hS,hD=>by
    have RS:S<2^n:=Nat.lt_of_le_of_lt (sub_le hS) hT
    by_cases he:has n S=[]
    · have h0:S=0:=by
        apply Nat.eq_of_testBit_eq;intro v
        rw[Nat.zero_testBit]
        by_cases hv:v<n
        · cases hb:S.testBit v with
          |false=>rfl
          |true=>have:v∈has n S:=cX.2 ⟨hv,hb⟩;rw[he]at this;simp at this
        · exact Nat.testBit_lt_two_pow (Nat.lt_of_lt_of_le RS (Nat.pow_le_pow_right (by decide) (by omega)))
      subst h0
      rcases h.zero with h0|h0
      · exact absurd h0 hD
      · exact⟨0,0,h0,Nat.zero_le _,fun _=>rfl⟩
    · obtain⟨v,hv,hw⟩:=NL (c:=c) he
      obtain⟨UY,UZ⟩:=cX.1 hv
      have we:au (au S v false) v true=S:=by
        apply Nat.eq_of_testBit_eq;intro k
        rw[ai,ai]
        split
        · rename_i e;rw[e,UZ]
        · rfl
      have Qs:au S v false&&&T=au S v false:=FC fun k hk=>by
        rw[ai]at hk
        split at hk
        · cases hk
        · exact tT hS hk
      by_cases VJ:au S v false∈D
      · have:=h.step _ VJ v UY (tT hS UZ) (by rw[ai];simp) (fun _=>UY)
        rw[we]at this
        rcases this with h1|⟨k,h1,h2⟩
        · exact absurd h1 hD
        · exact⟨S,k,h1,by omega,fun _=>rfl⟩
      · have hlt:=uv hv
        obtain⟨S',k,h1,h2,_⟩:=h.low hT (has n (au S v false)).length (au S v false) rfl Qs VJ
        exact⟨S',k,h1,by omega,fun _=>rfl⟩
  termination_by d=>d
  decreasing_by omega
theorem mh.pop(h:mh n c T D l s n)(hT:T<2^n){a:It}(hp:l.Perm (a::l'))(hm:∀b∈l,prec b a=false)(ho:eF l):
    ∃S,a=nn S (W n c S)∧S&&&T=S∧S∉D∧(S≠T→mh n c T (S::D) l' S 0):=by
  obtain⟨S,k,rfl,h1,h2,h3⟩:=h.items a (hp.mem_iff.2 (by simp))
  have hk:k≤W n c S:=by
    obtain⟨S',k',h4,h5,_⟩:=h.low hT _ S rfl h1 h2
    have:=hm _ h4
    rw[gw]at this
    simp only[nn]at this
    omega
  have hkk:k=W n c S:=by omega
  subst hkk
  refine⟨S,rfl,h1,h2,fun hne=>?_⟩
  have br:=ho.perm hp.symm
  have hno:∀k,nn S k∉l':=fun k hk=>by
    unfold eF at br
    rw[List.map_cons,List.nodup_cons]at br
    exact br.1 (List.mem_map.2 ⟨_,hk,rfl⟩)
  refine⟨fun x hx=>?_,?_,fun S' Qs v hv ht hb hlt=>?_,fun S' Qs=>?_,?_,?_⟩
  · obtain⟨S',k',rfl,q1,q2,q3⟩:=h.items x (hp.mem_iff.2 (.tail _ hx))
    refine⟨S',k',rfl,q1,fun hc=>?_,q3⟩
    rcases List.mem_cons.1 hc with e|e
    · subst e;exact hno _ hx
    · exact q2 e
  · rcases h.zero with h0|h0
    · exact .inl (.tail _ h0)
    · rcases List.mem_cons.1 (hp.mem_iff.1 h0)with e|e
      · left;rw[(Gb e).1];exact .head _
      · exact .inr e
  · rcases List.mem_cons.1 Qs with e|e
    · have:=hlt e;omega
    · rcases h.step S' e v hv ht hb (fun _=>hv)with q|⟨k',q1,q2⟩
      · exact .inl (.tail _ q)
      · rcases List.mem_cons.1 (hp.mem_iff.1 q1)with e|e
        · left;rw[(Gb e).1];exact .head _
        · exact .inr ⟨k',e,q2⟩
  · rcases List.mem_cons.1 Qs with e|e
    · rw[e];exact h1
    · exact h.sub S' e
  · exact List.nodup_cons.2 ⟨h2,h.nd⟩
  · intro hc
    rcases List.mem_cons.1 hc with e|e
    · exact hne e.symm
    · exact h.top e
theorem mh.skip(h:mh n c T D l s i)(hx:T.testBit i=false∨s.testBit i=true∨au s i true∈D):mh n c T D l s (i+1):=
  ⟨h.items,h.zero,fun S hS v hv ht hb hlt=>by
    by_cases e:S=s∧v=i
    · obtain⟨rfl,rfl⟩:=e
      rcases hx with q|q|q
      · rw[ht]at q;cases q
      · rw[hb]at q;cases q
      · exact .inl q
    · exact h.step S hS v hv ht hb (fun q=>by have:=hlt q;by_cases e2:v=i;exact absurd ⟨q,e2⟩ e;omega),h.sub,h.nd,h.top⟩
theorem mh.keep(h:mh n c T D l s i){k:Nat}(hk:nn (au s i true) k∈l)(hle:k≤W n c s+c s i):mh n c T D l s (i+1):=
  ⟨h.items,h.zero,fun S hS v hv ht hb hlt=>by
    by_cases e:S=s∧v=i
    · obtain⟨rfl,rfl⟩:=e
      exact .inr ⟨k,hk,hle⟩
    · exact h.step S hS v hv ht hb (fun q=>by have:=hlt q;by_cases e2:v=i;exact absurd ⟨q,e2⟩ e;omega),h.sub,h.nd,h.top⟩
theorem Ii(hi:i<n)(hs:s.testBit i=false):W n c (au s i true)≤W n c s+c s i:=by
  have:=KM (c:=c) (n:=n) (s:=au s i true) (v:=i) (cX.2 ⟨hi,by rw[ai];simp⟩)
  rw[Ja hs]at this
  omega
theorem mh.push(h:mh n c T D l s i)(hi:i<n)(hs:s.testBit i=false)(ht:T.testBit i=true)(SX:s&&&T=s)(hD:au s i true∉D)(hp:l'.Perm (nn (au s i true) (W n c s+c s i)::l)):mh n c T D l' s (i+1):=by
  have h':mh n c T D l' s i:=⟨fun x hx=>by
      rcases List.mem_cons.1 (hp.mem_iff.1 hx)with e|e
      · exact⟨_,_,e,BA SX ht,hD,Ii hi hs⟩
      · exact h.items x e,by
      rcases h.zero with q|q
      · exact .inl q
      · exact .inr (hp.mem_iff.2 (.tail _ q)),fun S hS v hv ht hb hlt=>by
      rcases h.step S hS v hv ht hb hlt with q|⟨k,q1,q2⟩
      · exact .inl q
      · exact .inr ⟨k,hp.mem_iff.2 (.tail _ q1),q2⟩,h.sub,h.nd,h.top⟩
  exact h'.keep (hp.mem_iff.2 (.head _)) (Nat.le_refl _)
theorem mh.move(h:mh n c T D l s i)(hi:i<n)(hs:s.testBit i=false)(ht:T.testBit i=true)(SX:s&&&T=s)(hD:au s i true∉D){k0:Int}{r:List It}(sb:l.Perm ((((au s i true:Nat):Int),k0)::r))(hlt:((W n c s+c s i:Nat):Int)≤k0)
   (hp:l'.Perm (nn (au s i true) (W n c s+c s i)::r)):mh n c T D l' s (i+1):=by
  have hin:∀x∈r,x∈l:=fun x hx=>sb.mem_iff.2 (.tail _ hx)
  have h':mh n c T D l' s i:=⟨fun x hx=>by
      rcases List.mem_cons.1 (hp.mem_iff.1 hx)with e|e
      · exact⟨_,_,e,BA SX ht,hD,Ii hi hs⟩
      · exact h.items x (hin x e),by
      rcases h.zero with q|q
      · exact .inl q
      · rcases List.mem_cons.1 (sb.mem_iff.1 q)with e|e
        · simp only[nn,Prod.mk.injEq]at e
          exact absurd (by omega) (FK (s:=s) (v:=i))
        · exact .inr (hp.mem_iff.2 (.tail _ e)),fun S hS v hv ht hb lj=>by
      rcases h.step S hS v hv ht hb lj with q|⟨k,q1,q2⟩
      · exact .inl q
      · rcases List.mem_cons.1 (sb.mem_iff.1 q1)with e|e
        · simp only[nn,Prod.mk.injEq]at e
          refine .inr ⟨W n c s+c s i,?_,by omega⟩
          rw[show au S v true=au s i true by omega]
          exact hp.mem_iff.2 (.head _)
        · exact .inr ⟨k,hp.mem_iff.2 (.tail _ e),q2⟩,h.sub,h.nd,h.top⟩
  exact h'.keep (hp.mem_iff.2 (.head _)) (Nat.le_refl _)
theorem mh.perm{D':List Nat}(hp:D.Perm D')(h:mh n c T D l s i):mh n c T D' l s i:=
  ⟨fun x hx=>by obtain⟨S,k,h1,h2,h3,h4⟩:=h.items x hx;exact⟨S,k,h1,h2,fun q=>h3 (hp.mem_iff.2 q),h4⟩,
   h.zero.imp hp.mem_iff.1 id,fun S hS v hv ht hb hlt=>(h.step S (hp.mem_iff.2 hS) v hv ht hb hlt).imp hp.mem_iff.1 id,
   fun S hS=>h.sub S (hp.mem_iff.2 hS),hp.nodup_iff.1 h.nd,fun q=>h.top (hp.mem_iff.2 q)⟩
theorem vx{N:Nat}{l:List Nat}(h:l.Nodup)(hl:∀x∈l,x<N):l.length≤N:=by
  have:=List.Nodup.length_le_of_subset (l₂:=List.range N) h (fun x hx=>List.mem_range.2 (hl x hx))
  rwa [List.length_range]at this
theorem mh.Us(h:mh n c T D l s i)(hT:T<2^n):D.length<2^n:=by
  have:=vx (N:=2^n) (l:=T::D) (List.nodup_cons.2 ⟨h.top,h.nd⟩) (fun x hx=>by
    rcases List.mem_cons.1 hx with e|e
    · rw[e];exact hT
    · exact Nat.lt_of_le_of_lt (sub_le (h.sub x e)) hT)
  rw[List.length_cons]at this;omega
theorem mh.O1(h:mh n c T D l s i)(hT:T<2^n)(ho:eF l):l.length≤2^n:=by
  have e:∀x∈l,((x.1.toNat:Nat):Int)=x.1:=fun x hx=>by obtain⟨S,k,rfl,_⟩:=h.items x hx;simp[nn]
  have fT:(l.map fun x=>x.1.toNat).Nodup:=by
    have h2:((l.map fun x=>x.1.toNat).map (Nat.cast:Nat→Int)).Nodup:=by
      rw[List.map_map]
      have:l.map (Nat.cast∘fun x:It=>x.1.toNat)=l.map Prod.fst:=List.map_congr_left fun x hx=>e x hx
      rw[this];exact ho
    exact(List.pairwise_map.1 h2).imp fun hne heq=>hne (by rw[heq])
  have:=vx (N:=2^n) fT (fun y hy=>by
    obtain⟨x,hx,rfl⟩:=List.mem_map.1 hy
    obtain⟨S,k,rfl,h1,_⟩:=h.items x hx
    simp only[nn,Int.toNat_natCast]
    exact Nat.lt_of_le_of_lt (sub_le h1) hT)
  rwa [List.length_map]at this
end af
set_option maxRecDepth 100000
namespace Go.Proofs
open Go Go.Sx
open Im
theorem Cn{pI:Value}{n:Nat}{L:List (List Nat)}{B:Hp}(h:mM pI n L B)(a:Nat):af.W n (af.lvl n L) a<35184372088832:=by
  have h1:=af.FZ n (af.lvl n L) 2199023255551 (fun a v=>Nat.le_of_lt (qz h a v)) n a
  have h2:n*2199023255551≤12*2199023255551:=Nat.mul_le_mul_right _ h.OX
  unfold af.W;omega
def uM(ts:List Tb)(A:Nat)(r:Value):Prop:=
  (¬jj ts∧r=.tuple #[.int .i64 0,.int .i64 5])∨
  (jj ts∧∃(n:Nat) (L:List (List Nat)),ts=cU n L∧(L=[]→n=0)∧n≤16∧(∀ws∈L,af.bJ n ws)∧
    ((2^n≤A∧r=.tuple #[.int .i64 0,.int .i64 2])∨(A<2^n∧12<n∧r=.tuple #[.int .i64 0,.int .i64 6])∨
     (A<2^n∧n≤12∧r=.tuple #[.int .i64 ((af.W n (af.lvl n L) A+af.B n (af.lvl n L) A:Nat):Int),.int .i64 0])))
def Wy(N:Nat):Hp→Nat
  |(_,.map es _)::_=>N-es.size
  |_=>0
theorem CC{B:Hp}{v:Value}{ts:List Tb}(ht:bH B v ts)(aU:ts.length<33554432){A:Nat}(hA:A<18446744073709551616):Px Tryz.prog 27 #[v,.int .u64 (A:Int)] B (fun r _=>uM ts A r):=by
  refine aX fun g=>EN ?_
  refine ae.pq (tq ht (by omega)) ?_
  rintro r N0 (⟨hO,bp,bl,bd,n,L,N,rfl,E3,jb,hf,rfl,hp⟩|⟨hO,rfl⟩)
  case inr=>exact Ext.mk rfl (Ext.mk rfl (aa.nU (a:=5) (b:=0) (Br.dec (fun _=>js.mk (by repeat (first|exact aH.refl _|apply aH.cons|apply aH.app)) (.inl ⟨hO,rfl⟩)) (fun h=>absurd (by decide) h))))
  generalize N0++B=H2 at hp⊢
  clear N0
  rw[aI]at aU
  have sb:=hp
  obtain⟨nE,l7,mI,nJ,rfl,hM⟩:=hp
  refine Ext.mk rfl (Ext.mk rfl (aa.nU (a:=0) (b:=0) (Br.dec (fun h=>absurd rfl h) (fun _=>?_))))
  refine DR.self (Nil.ptr ?_)
  refine ag.mk (Ld.mk zM rfl ?_)
  refine ae.rq (vH hA _) ?_
  rintro v ⟨r,hr,rfl⟩
  refine⟨.refl _,?_⟩
  refine aa.iR (Br.dec (fun hgt=>js.mk (by repeat (first|exact aH.refl _|apply aH.cons|apply aH.app)) (.inr ⟨hO,n,L,rfl,E3,jb,hf,.inl ⟨hr.gt.1 hgt,rfl⟩⟩)) (fun hgt=>?_))
  have Uh:A<2^n:=by
    have:¬(2^n≤A):=fun h=>hgt (hr.gt.2 h)
    omega
  refine Nil.ptr ?_
  refine ag.mk (Ld.mk zM rfl ?_)
  refine aa.iR (b:=12) (Br.dec (fun Kp=>js.mk (by repeat (first|exact aH.refl _|apply aH.cons|apply aH.app)) (.inr ⟨hO,n,L,rfl,E3,jb,hf,.inr (.inl ⟨Uh,Kp,rfl⟩)⟩)) (fun Kp=>?_))
  clear hM
  have nv:n≤12:=by omega
  have Ny:L≠[]→mM v n L (N++B):=fun hne=>⟨ht.mono zS,hf,hne,aU,nv⟩
  have iP:2^n≤2^12:=Nat.pow_le_pow_right (by decide) nv
  have XZ:=af.mV n L
  refine Nil.ptr ?_
  refine ag.mk (Ld.mk zM rfl ?_)
  refine aY.q ?_
  refine aa.gI (by simp only[aW];omega) (by simp only[aW];omega) ?_
  obtain⟨T,Nq⟩:∃T,T=A&&&af.aL n L:=⟨_,rfl⟩
  rw[←Nq]
  have hT:T<2^n:=by rw[Nq];exact Nat.lt_of_le_of_lt Nat.and_le_left Uh
  refine ae.fq (JU _) ?_
  rintro v2 H ⟨bh,C0,rfl,rfl,Vl⟩
  refine ae.fq (vW Vl (by simp) 0 0) ?_
  rintro v2 C1 ⟨l1,M6,U5⟩
  have yq:l1.Perm [af.nn 0 0]:=by
    rcases U5 with⟨h,_⟩|⟨_,_,h⟩
    · simp at h
    · exact h
  clear U5 Vl
  intro bm RO;clear RO
  refine⟨fun vs H=>∃(m:List (Nat×Nat)) (es:Array MapEntry) (ck:Nat) (l:List It) (C H1:Hp),vs=[]∧H=(bm,.map es ck)::(C++H1)∧aR ki KV es ck m∧(∀x∈m,x.2=1)∧Fa (.pointer (some ⟨bh,0,none⟩)) l C∧
      gJ bp bl bd v n L (af.aL n L) (N++B) H1∧∃s,af.mh n (af.lvl n L) T (m.map Prod.fst) l s n,
    fun _ H=>Wy (2^n) H,JE.mk ⟨[],#[],0,l1,C1,_,rfl,rfl,aR.empty,by simp,M6,sb,0,af.mh.start hT yq 0⟩,?_⟩
  clear sb M6 yq nE l7 mI nJ C1 l1
  rintro H ⟨m,es,ck,l,C,H1,_,rfl,hE,xw,hh,hp,s0,hd⟩ gs
  have tc:eF l:=by obtain⟨_,_,_,_,h⟩:=hh;exact h
  have BV:=hd.O1 hT tc
  refine ae.fq (JR hh (by omega)) ?_
  rintro r C1 ⟨l1,M6,Tc⟩
  rcases Tc with⟨rfl,_⟩|⟨a,cD,hmin,rfl⟩
  · obtain⟨_,_,h,_⟩:=hd.low hT _ T rfl (by rw[Nat.and_self]) hd.top
    simp at h
  obtain⟨S,rfl,T1,Vy,oV⟩:=hd.pop hT cD hmin tc
  have RS:S<2^n:=Nat.lt_of_le_of_lt (af.sub_le T1) hT
  refine Ext.mk rfl (Ext.mk rfl (Ext.mk rfl ?_))
  refine aY.q ?_
  simp only[af.nn]
  refine aa.jC (Br.dec (fun RT=>?_) (fun RT=>?_))
  · have dA:∀k H',H'=((bm,Obj.map es ck)::(C1++H1):Hp)∨True→k=af.B n (af.lvl n L) T→uM (cU n L) A (.tuple #[.int .i64 ((af.W n (af.lvl n L) T+k:Nat):Int),.int .i64 0]):=fun k H' _ hk=>by
      refine .inr ⟨hO,n,L,rfl,E3,jb,hf,.inr (.inr ⟨Uh,nv,?_⟩)⟩
      have oX:=af.tM hf (by omega)
      rw[hk,Nq,af.Q2 oX,af.Is oX]
    by_cases hne:L=[]
    · have hn:=E3 hne
      subst hne
      subst hn
      have X4:T=0:=by omega
      subst X4
      obtain rfl:S=0:=RT
      refine ae.fq (tD (a:=0) (by omega) hp) ?_
      rintro r H3 ⟨rfl,rfl⟩
      have Vw:af.W 0 (af.lvl 0 []) 0=0:=af.Ih
      have B4:af.B 0 (af.lvl 0 []) 0=0:=rfl
      rw[Vw]
      refine aa.ef (a:=0) (b:=0) ?_
      have hq:=dA 0 [] (.inr trivial) B4.symm
      rw[Vw]at hq
      obtain⟨L1,L4,VR,VT,rfl,_⟩:=hp
      exact js.mk (by repeat (first|exact aH.refl _|apply aH.cons|apply aH.app)) hq
    · obtain rfl:S=T:=RT
      refine ae.fq (kD (Ny hne) _ S (Nat.le_refl _) hT _ hp) ?_
      rintro r H3 ⟨rfl,L1,L4,VR,VT,rfl,_⟩
      have Qh:=Cn (Ny hne) S
      have Qg:=uN (Ny hne) S
      refine aa.ef ?_
      exact js.mk (by repeat (first|exact aH.refl _|apply aH.cons|apply aH.app)) (dA _ [] (.inr trivial) rfl)
  have DI:=oV RT
  clear oV hd hh hmin cD
  refine aR.bM (ke:=ki) (vr:=KV) (b:=bm) (k:=S) (x:=1) oh BR hE rfl fun es' c8 pB=>⟨_,.head _,?_⟩
  have PI:e8 m S 1=m++[(S,1)]:=by unfold e8;rw[if_neg Vy]
  rw[PI]at pB
  have N9:(S::m.map Prod.fst).Perm ((m++[(S,1)]).map Prod.fst):=by rw[List.map_append];exact List.perm_append_comm (l₁:=[S])
  have pK:=DI.perm N9
  have GU:∀x∈m++[(S,1)],x.2=1:=fun x hx=>by
    rcases List.mem_append.1 hx with h|h
    · exact xw x h
    · simp at h;rw[h]
  have PK:2^n-es'.size<2^n-es.size:=by
    have h1:=pB.len
    have h2:=hE.len
    have h3:=pK.Us hT
    simp only[List.length_append,List.length_singleton,List.length_map]at h1 h3
    omega
  generalize m++[(S,1)]=m' at pB N9 pK GU
  have X6:S∈m'.map Prod.fst:=N9.mem_iff.1 (.head _)
  clear PI DI xw Vy N9 hE
  have sb:=hp
  obtain⟨nE,l7,mI,nJ,rfl,hM⟩:=hp
  refine Nil.ptr ?_
  refine ag.mk (Ld.mk zM rfl ?_)
  refine⟨fun vs H=>∃(i:Nat) (l:List It) (C H1:Hp),vs=[.int .i64 (i:Int)]∧i≤n∧H=(bm,.map es' c8)::(C++H1)∧Fa (.pointer (some ⟨bh,0,none⟩)) l C∧
      gJ bp bl bd v n L (af.aL n L) (N++B) H1∧af.mh n (af.lvl n L) T (m'.map Prod.fst) l S i,
    fun vs _=>n-aV vs 0,JE.mk ⟨0,l1,C1,_,rfl,Nat.zero_le _,rfl,M6,sb,pK⟩,?_⟩
  clear sb hM pK M6 tc BV l1 C1
  rintro w H ⟨i,l,C,H1,⟨⟩,hin,rfl,hh,hp,hd⟩ gs
  refine aa.dn (Br.dec (fun hlt=>?_) (fun hlt=>?_))
  · intro J hJ
    have hne:L≠[]:=fun e=>by have:=E3 e;omega
    have oU:=Ny hne
    have hpk:2^i≤2^12:=Nat.pow_le_pow_right (by decide) (by omega)
    have RG:∀l C H1,Fa (.pointer (some ⟨bh,0,none⟩)) l C→gJ bp bl bd v n L (af.aL n L) (N++B) H1→af.mh n (af.lvl n L) T (m'.map Prod.fst) l S (i+1)→J [] ((bm,.map es' c8)::(C++H1)):=fun l C H1 q1 q2 q3=>hJ _ fun gs=>by
      refine aa.inc ?_
      exact aq.mk ⟨i+1,l,C,H1,rfl,by omega,rfl,q1,q2,q3⟩ (by simp only[aV];omega)
    refine aa.n7 (a:=1) (by simp[IntKind.bits];omega) (by rw[Nat.one_shiftLeft];simp[aW];omega) ?_
    rw[Nat.one_shiftLeft]
    refine aa.xW (by simp[aW];omega) (by simp[aW];omega) ?_
    have DW:S|||2^i=af.au S i true:=rfl
    rw[DW]
    refine aa.jC ?_
    have GI:(T.testBit i=false∨S.testBit i=true∨af.au S i true∈m'.map Prod.fst)→JE J [] ((bm,.map es' c8)::(C++H1)):=fun hx=>JE.mk (RG l C H1 hh hp (hd.skip hx))
    by_cases Ki:S.testBit i=true
    · have e1:af.au S i true=S:=by have:=af.kH S i;rwa [Ki]at this
      rw[e1,decide_eq_true rfl]
      refine dI.mk true (fun e=>by simp at e) (fun _=>rfl) fun gs=>dI.mk true (fun e=>by simp at e) (fun _=>rfl) fun gs=>Br.yes (GI (.inr (.inl Ki)))
    have Nu:S.testBit i=false:=by simpa using Ki
    have MW:¬(af.au S i true=S):=fun e=>Ki (by rw[←e,af.ai];simp)
    rw[decide_eq_false MW]
    refine dI.mk (!T.testBit i) (fun _=>?_) (fun e=>by simp at e) fun gs=>?_
    · refine aa.gN (by simp only[aW];omega) (aa.gI (b:=1) (by simp only[aW];exact Nat.lt_of_le_of_lt (Nat.shiftRight_le _ _) (by omega)) (by simp[aW]) (aa.jC (b:=0) ?_))
      refine⟨by trivial,?_⟩
      cases hb:T.testBit i with
      |false=>rw[decide_eq_true (pR.2 hb)];rfl
      |true=>rw[decide_eq_false (fun h=>by rw[pR.1 h]at hb;cases hb)];rfl
    cases TY:T.testBit i with
    |false=>exact dI.mk true (fun e=>by simp at e) (fun _=>rfl) fun gs=>Br.yes (GI (.inl TY))
    |true=>
    by_cases QK:af.au S i true∈m'.map Prod.fst
    · refine dI.mk true (fun _=>?_) (fun e=>by simp at e) fun gs=>Br.yes (GI (.inr (.inr QK)))
      obtain⟨x,UW,Lg⟩:=List.mem_map.1 QK
      refine aR.hit (ke:=ki) (vr:=KV) (k:=af.au S i true) (x:=1) oh pB (.head _) ((iu pB.nd).2 (by have:=GU x UW;rw[←Lg,←this];exact UW)) fun y hy=>?_
      subst hy
      refine aa.iR (b:=0) ?_
      exact⟨by trivial,rfl⟩
    refine dI.mk false (fun _=>?_) (fun e=>by simp at e) fun gs=>Br.no ?_
    · refine aR.bC (ke:=ki) (vr:=KV) (k:=af.au S i true) oh pB (.head _) (gn.2 QK) ?_
      refine aa.iR (a:=0) (b:=0) ?_
      exact⟨by trivial,rfl⟩
    have Qh:=qz oU S i
    have Qg:=Cn oU S
    have Xt:af.au S i true<2^n:=af.dF RS hlt
    refine ae.fq (qu oU hp RS hlt Nu) ?_
    rintro r H2 ⟨rfl,iP⟩
    refine aa.ef ?_
    refine ae.rq (JY hh _) ?_
    have tc:eF l:=by obtain⟨_,_,_,_,h⟩:=hh;exact h
    have BV:=hd.O1 hT tc
    rintro r (⟨hno,rfl⟩|⟨k,hk,rfl⟩)
    · refine Ext.mk rfl (Ext.mk rfl (aa.nU (a:=10) (b:=0) (Br.T ?_)))
      refine ae.fq (vW hh (by omega) _ _) ?_
      rintro r C2 ⟨l2,PY,⟨h,_⟩|⟨_,rfl,cD⟩⟩
      · exact absurd h hno
      · exact JE.mk (RG l2 C2 H2 PY iP (hd.push hlt Nu TY T1 QK cD))
    · obtain⟨S',k',hkk,_,_,_⟩:=hd.items _ hk
      simp only[af.nn,Prod.mk.injEq]at hkk
      obtain⟨xx,rfl⟩:=hkk
      refine Ext.mk rfl (Ext.mk rfl (aa.nU (a:=0) (b:=0) (Br.F ?_)))
      refine aa.dn (Br.dec (fun ei=>?_) (fun ei=>?_))
      · refine ae.fq (GR hh (by omega) _ _) ?_
        rintro r C2 ⟨l2,PY,⟨h,_⟩|⟨k0,r0,GK,Pv,rfl⟩⟩
        · exact absurd (List.mem_map.2 ⟨_,hk,rfl⟩) h
        · have M3:k0=(k':Int):=by
            have lg:=tc.perm GK.symm
            unfold eF at lg
            rw[List.map_cons,List.nodup_cons]at lg
            rcases List.mem_cons.1 (GK.mem_iff.1 hk)with e|e
            · simp only[Prod.mk.injEq,true_and]at e;exact e.symm
            · exact absurd (List.mem_map.2 ⟨_,e,rfl⟩) lg.1
          exact JE.mk (RG l2 C2 H2 PY iP (hd.move hlt Nu TY T1 QK GK (by rw[M3];omega) Pv))
      · exact JE.mk (RG l C H2 hh iP (hd.keep (k:=k') hk (by omega)))
  · obtain rfl:i=n:=by omega
    exact aq.mk ⟨m',es',c8,l,C,H1,rfl,rfl,pB,GU,hh,hp,S,hd⟩ PK
end Go.Proofs
set_option maxRecDepth 100000
namespace Go.Proofs
open Go Go.Sx
theorem aa.OS{kd:IntKind}{a b:Nat}{k:Value→Prop}(hb:b≠0)(h:k (.int kd ((a%b:Nat):Int))):aa .num .rem (.int kd a) (.int kd b) k:=
 aa.K7 (by omega) rfl (by have:((a:Int)).tmod (b:Int)=((a%b:Nat):Int):=rfl;rw[this];exact h)
def KN(ts:List Tb):Prop:=ts.length<4398046511104∧∀t∈ts,t.ws.length*8≤140737488351232
theorem tB(B:Hp):Px Tryz.prog 69 #[] B (fun r H=>ig H r ⟨3,[216]⟩):=by
 refine aX fun g=>Ey ?_
 intro b1 _
 refine an.int (e:=50) (by kernel_rfl) (by kernel_rfl) (by kernel_rfl) fun b2=>?_
 refine Build.mk (cs:=[.int .i64 3,.slice (some ⟨b2,0,none⟩) 1 1]) (by kernel_rfl) ?_
 refine St.q ?_
 refine ax.q ?_
 refine js.mk (by repeat (first|exact aH.refl _|apply aH.cons|apply aH.app)) ⟨_,rfl,Words.block (ws:=[216]) (.head _) (by simp) (by simp)⟩
theorem sW{B:Hp}{v1 v2:Value}{a b:List Int}(h1:bL .i64 B v1 a)(h2:bL .i64 B v2 b)(aU:a.length<2^62):Rd Tryz.prog 37 #[v1,v2] B (· =.bool (decide (a=b))):=by
 refine aX fun g=>EF ?_
 refine h1.aM (h2.aM ?_)
 refine aa.nU (Br.dec (fun h=>?_) (fun h=>?_))
 ·exact bO.mk (.refl _) (by rw[decide_eq_false (fun e=>h (by rw[e]))])
 ·refine h1.aM ?_
  have hlen:a.length=b.length:=by omega
  refine⟨fun vs H=>H=B∧∃j:Nat,vs=[.int .i64 (j:Int)]∧j≤a.length∧∀i,i<j→a[i]? =b[i]?,fun vs _=>a.length-aV vs 0,JE.mk ⟨rfl,0,rfl,by omega,by omega⟩,?_⟩
  rintro w H ⟨rfl,j,⟨⟩,hj,aA⟩ gs
  refine aa.dn (Br.dec (fun hlt=>?_) (fun hlt=>?_))
  ·have ga:a[j]? =some a[j]:=List.getElem?_eq_getElem hlt
   have gb:b[j]? =some b[j]:=List.getElem?_eq_getElem (by omega)
   refine h1.ld ga (fun _ h=>h) (h2.ld gb (fun _ h=>h) ?_)
   refine aa.neq (Br.mk (fun hne=>?_) (fun heq=>?_))
   ·refine bO.mk (.refl _) ?_
    rw[decide_eq_false]
    intro e
    have h3:=congrArg (fun l:List Int=>l[j]?) e
    simp only[ga,gb,Option.some.injEq]at h3
    simp[h3]at hne
   ·refine aa.inc ?_
    refine aq.mk ⟨rfl,j+1,rfl,by omega,fun i hi=>?_⟩ (by simp[aV];omega)
    by_cases e:i=j
    ·subst e;rw[ga,gb];exact congrArg some (by simpa using heq)
    ·exact aA i (by omega)
  ·have:j=a.length:=by omega
   subst this
   refine bO.mk (.refl _) ?_
   rw[decide_eq_true]
   apply List.ext_getElem?
   intro i
   by_cases hi:i<a.length
   ·exact aA i hi
   ·rw[List.getElem?_eq_none (by omega),List.getElem?_eq_none (by omega)]
theorem qm{α:Type}(A:List α)(x:α)(C N B:List α):((A++[x])++(C++(N++B))).Perm (x::(C++((A++N)++B))):=by
 have h1:((A++[x])++(C++(N++B))).Perm ((x::A)++(C++(N++B))):=List.Perm.append_right _ (List.perm_append_singleton x A)
 refine h1.trans (.cons _ ?_)
 have h2:=List.perm_append_comm_assoc A C (N++B)
 refine h2.trans ?_
 rw[List.append_assoc A N B]
theorem Ft{B:Hp}{v:Value}{ts:List Tb}(ht:bH B v ts)(hfit:KN ts):Px Tryz.prog 29 #[v] B (fun r H=>bH H r ts):=by
 refine aX fun g=>EL ?_
 have aU:=hfit.1
 refine ht.aM ?_
 refine⟨fun vs H=>∃(j:Nat) (s:Value) (C N:Hp),vs=[s,.int .i64 (j:Int)]∧j≤ts.length∧c9 57 s (ts.take j) C (N++B)∧H=C++(N++B),fun vs _=>ts.length-aV vs 1,JE.mk ⟨0,_,[],[],rfl,by omega,c9.nil,rfl⟩,?_⟩
 rintro w6 w7 H ⟨j,s,C,N,⟨⟩,hj,hown,rfl⟩ gs
 have Vc:∀x∈B,x∈C++(N++B):=fun _ h=>List.mem_append_right _ (List.mem_append_right _ h)
 refine aa.dn (Br.dec (fun hlt=>?_) (fun hlt=>?_))
 ·have hg:ts[j]? =some ts[j]:=List.getElem?_eq_getElem hlt
  have ZS:=hfit.2 ts[j] (List.getElem_mem hlt)
  refine ht.ld hg Vc fun sw hw=>?_
  have Ix:bL .u64 B sw (iw ts[j].ws):=hw.1
  intro b2 _
  refine St.p (by have:=av hw;simpa[Value.oneCell']using this) ?_
  refine DR.of (R:=(b2,.cells (List.toArray [.int .i64 ts[j].n,sw]) 57 (0,0))::(N++B)) (.cons .right) ?_
  refine ag.mk (Ld.mk zM rfl ?_)
  refine ag.mk (Ld.mk zM rfl ?_)
  refine an.none (e:=50) (k:=1) (z:=.int .u64 0) (by kernel_rfl) (by kernel_rfl) (by kernel_rfl) fun b3=>?_
  refine⟨.skip (.cons .right),?_⟩
  refine aK.apps (A:=[]) (C:=[_]) (l:=[]) (.inr ⟨b3,[],rfl,rfl,by simp⟩) (Ix.mono fun _ h=>.tail _ (.tail _ (Vc _ h))) (by simp;omega) (by simp;omega) fun s' C' ho=>?_
  refine⟨by rw[List.nil_append];exact .trans .right (.cons .right),?_⟩
  have sg:∃a c,s'=.slice a ts[j].ws.length c:=by obtain⟨a,c,e⟩:=aN.len ho;exact⟨a,c,by simpa using e⟩
  obtain⟨a',c',rfl⟩:=sg
  refine Build.mk (cs:=[.int .i64 ts[j].n,.slice a' ts[j].ws.length c']) (by kernel_rfl) ?_
  refine dw fun b4=>?_
  refine⟨.skip (by rw[List.nil_append];exact .trans .right (.cons .right)),?_⟩
  have cI:Words (C'++(N++B)) (.slice a' ts[j].ws.length c') ts[j].ws:=⟨(by have:=ho.ints;rw[List.nil_append]at this;exact this.mono fun _ h=>List.mem_append_left _ h),hw.2⟩
  have PA:c9 57 w6 (ts.take j) C (C'++(N++B)):=hown.mono fun _ h=>List.mem_append_right _ h
  have e:∀x y:Nat×Obj,x::([]++(C'++(y::(C++(N++B)))))=(x::(C'++[y]))++(C++(N++B)):=fun x y=>by simp
  rw[e]
  refine PA.app (t:=ts[j]) (by exact .head _) cI (by rw[List.length_take];omega) fun v' Oy br=>?_
  refine⟨.skip (.trans (.perm (qm C' _ Oy N B)) ?_),?_⟩
  ·exact .cons (.trans .right (by rw[List.append_assoc];exact .right))
  ·refine aa.inc ?_
   have et:ts.take j++[ts[j]]=ts.take (j+1):=by rw[List.take_succ_eq_append_getElem hlt]
   rw[et]at br
   exact aq.of (.skip (.trans (.perm (qm C' _ Oy N B)) .tail)) ⟨j+1,v',Oy,C'++N,rfl,by omega,by rw[List.append_assoc];exact br,rfl⟩ (by rw[eA,eA];show ts.length-(((j:Int)+1).toNat)<ts.length-((j:Int).toNat);omega)
 ·obtain rfl:j=ts.length:=by omega
  rw[List.take_length]at hown
  exact js.mk (by repeat (first|exact aH.refl _|apply aH.cons|apply aH.app)) (hown.p7 (fun _ h=>List.mem_append_left _ h) (fun _ h=>List.mem_append_right _ h))
theorem YN:af.B 3 (af.lvl 3 [[216]]) 0=3:=by decide+kernel
theorem YM:af.ord 3 (af.lvl 3 [[216]]) 3 0=[0,1,2]:=by decide+kernel
theorem YL:af.W 3 (af.lvl 3 [[216]]) 4+af.B 3 (af.lvl 3 [[216]]) 4=4:=by decide+kernel
theorem Bx{n m:Nat}{L M:List (List Nat)}(h:cU n L=cU m M)(hn:L=[]→n=0)(hm:M=[]→m=0):n=m∧L=M:=by
 have e:∀k (X:List (List Nat)),(cU k X).map Tb.ws=X:=fun k X=>by
  unfold cU;rw[List.map_map]
  have:(Tb.ws∘fun ws=>(⟨k,ws⟩:Tb))=id:=rfl
  rw[this,List.map_id]
 have hL:L=M:=by rw[←e n L,h,e]
 subst hL
 refine⟨?_,rfl⟩
 cases L with
 |nil=>rw[hn rfl,hm rfl]
 |cons x r=>
  simp only[cU,List.map_cons,List.cons.injEq,Tb.mk.injEq,and_true]at h
  omega
theorem KE{n:Nat}{L:List (List Nat)}{B H:Hp}{r:Value}(hn:L=[]→n=0)(hO:jj (cU n L))(nv:n≤12)(h:Ma (cU n L) B r H):
  ∃(s:Value) (C N:Hp),r=.tuple #[.int .i64 ((af.B n (af.lvl n L) 0:Nat):Int),s,.int .i64 0]∧aK 3 .i64 s (iw (af.ord n (af.lvl n L) n 0)) C∧H=C++(N++B):=by
 rcases h with⟨h,_⟩|⟨_,m,M,e,hm,_,_,h⟩
 ·exact absurd hO h
 ·obtain⟨rfl,rfl⟩:=Bx e hn hm
  rcases h with⟨h,_⟩|⟨_,h⟩
  ·omega
  ·exact h
theorem CD{n A:Nat}{L:List (List Nat)}{r:Value}(hn:L=[]→n=0)(hO:jj (cU n L))(nv:n≤12)(hA:A<2^n)(h:uM (cU n L) A r):
  r=.tuple #[.int .i64 ((af.W n (af.lvl n L) A+af.B n (af.lvl n L) A:Nat):Int),.int .i64 0]:=by
 rcases h with⟨h,_⟩|⟨_,m,M,e,hm,_,_,h⟩
 ·exact absurd hO h
 ·obtain⟨rfl,rfl⟩:=Bx e hn hm
  rcases h with⟨h,_⟩|⟨_,h,_⟩|⟨_,_,h⟩
  ·omega
  ·omega
  ·exact h
theorem H6(B:Hp):Px Tryz.prog 24 #[] B (fun r _=>r=.bool true):=by
 refine aX fun g=>ER ?_
 have jd:jj (cU 3 [[216]]):=by decide+kernel
 refine ae.pq (tB B) ?_
 rintro v N ⟨s,rfl,hw⟩
 refine dw fun b2=>?_
 have ht:bH ((b2,.cells #[.int .i64 3,s] 57 (0,0))::(N++B)) (.slice (some ⟨b2,0,none⟩) 1 1) (cU 3 [[216]]):=bH.one (cap:=0) (t:=⟨3,[216]⟩) (.head _) (hw.mono zS)
 refine ae.pq (Cg ht (by simp[cU])) ?_
 rintro r N2 hb
 obtain⟨so,C,N3,rfl,ho,hH⟩:=KE (by simp) jd (by omega) hb
 rw[YM]at ho
 rw[YN]
 refine Ext.mk rfl (Ext.mk rfl (Ext.mk rfl ?_))
 rw[hH]
 clear hb hH N2
 refine ae.pq (tB _) ?_
 rintro v N4 ⟨s2,rfl,kR⟩
 refine dw fun b5=>?_
 refine ae.pq (CC (A:=4) (ts:=cU 3 [[216]]) (bH.one (cap:=0) (t:=⟨3,[216]⟩) (.head _) (kR.mono zS)) (by simp[cU]) (by omega)) ?_
 rintro r N5 hq
 rw[CD (by simp) jd (by omega) (by omega) hq,YL]
 refine Ext.two ?_
 intro J hJ
 refine aa.jC (a:=3) (b:=3) (Split.go (by decide) ?_)
 refine an.Pa (e:=3) (by kernel_rfl) (by kernel_rfl) (by kernel_rfl) fun b6=>?_
 refine ae.eq (sW (a:=iw [0,1,2]) (b:=[0,1,2]) (ho.ints.mono fun _ h=>.tail _ (List.mem_append_right _ (.tail _ (List.mem_append_right _ (List.mem_append_left _ h))))) (bL.block (l:=[0,1,2]) (.head _) (by simp)) (by simp)) ?_
 refine ay.mk (Split.go rfl ?_)
 refine aa.jC (a:=0) (b:=0) (ay.mk (Split.go rfl ?_))
 refine aa.jC (a:=4) (b:=4) (ay.mk (Split.go rfl ?_))
 refine aa.jC (a:=0) (b:=0) (ay.mk (JE.mk (hJ _ _ fun gs=>?_)))
 exact js.mk (by repeat (first|exact aH.refl _|apply aH.cons|apply aH.app)) rfl
section
open Go.ChangeShapes Go.WideShapes Go.Deep
variable {H:Type} {enc:TypeId×Value→H} {W:World} {base:Nat} {spare:Nat→Bool} {held:Bool}
theorem O6{l:List Int}(h:∀n∈l,(Lit.int .u64 n).wf=true):∃ws:List Nat,iw ws=l∧∀w∈ws,w<18446744073709551616:=by
 induction l with
 |nil=>exact⟨[],rfl,by simp⟩
 |cons n r ih=>
  obtain⟨ws,h1,h2⟩:=ih fun m hm=>h m (by simp[hm])
  have:=bounds_u64 (h n (by simp))
  refine⟨n.toNat::ws,?_,fun w hw=>?_⟩
  ·simp only[iw,List.map_cons]at h1⊢
   rw[h1];congr 1;omega
  ·rcases List.mem_cons.1 hw with rfl|hw
   ·omega
   ·exact h2 w hw
theorem Mi{fuel:Nat}{cs:List Value}{y:DataW H×List MemPlace}(hl:cs.length=2)(h:DataW.trod enc Tryz.prog W base spare held fuel 57 cs=some y):
  ∃t:Tb,za (whole W) cs t∧((∀n∈y.1.weights Tryz.prog 57,n≤reachBytes)→t.ws.length*8≤140737488351232):=by
 obtain⟨xs,n,_,hy,_,hx,hf⟩:=DataW.trod_struct Tryz.underlying57 h
 match cs,hl with
 | [c0,c1],_=>
  have Lg:xs.length=2:=hx
  have k3:Tryz.prog.cellsOf 3=1:=by kernel_rfl
  have WR:Tryz.prog.cellsOf 55=1:=by kernel_rfl
  have Ro:Tryz.prog.cellsOf 50=1:=by kernel_rfl
  have g0:DataW.trod enc Tryz.prog W base spare held n 3 (List.take (Tryz.prog.cellsOf 3) [c0,c1])=xs[0]? :=hf 0 _ rfl
  have g1:DataW.trod enc Tryz.prog W base spare held n 55 (List.take (Tryz.prog.cellsOf 55) [c1])=xs[1]? :=hf 1 _ rfl
  rw[k3,List.getElem?_eq_getElem (by omega)]at g0
  rw[WR,List.getElem?_eq_getElem (by omega)]at g1
  simp only[List.take_succ_cons,List.take_zero]at g0 g1
  obtain⟨n0,e0,_,_⟩:=DataW.trod_int Tryz.underlying3 g0
  obtain⟨v,l,e1,hi,hwf,hw⟩:=n3 Tryz.underlying55 Tryz.underlying50 Ro g1
  simp only[List.cons.injEq,and_true]at e0 e1
  subst e0;subst e1
  obtain⟨ws,rfl,hlt⟩:=O6 hwf
  refine⟨⟨n0,ws⟩,⟨c1,rfl,hi,hlt⟩,fun aA=>?_⟩
  rcases hw with⟨h1,_⟩|⟨es,sp,h1,h2⟩
  ·have:ws=[]:=by simpa[iw]using h1
   subst this;simp
  ·have hm:(es.length+sp.length)*Tryz.prog.bytesOf 50∈y.1.weights Tryz.prog 57:=by
    rw[hy]
    match xs,Lg with
    | [x0,x1],_=>
     simp only[List.getElem_cons_succ,List.getElem_cons_zero]at h1
     simp only[List.map_cons,List.map_nil,h1,DataW.weights,Tryz.underlying57]
     refine List.mem_append_right _ ?_
     exact List.mem_append_left _ (by rw[DataW.weights,Tryz.underlying55];exact List.mem_cons_self ..)
   have:=aA _ hm
   rw[show Tryz.prog.bytesOf 50=8 by kernel_rfl]at this
   have h3:reachBytes=140737488351232:=rfl
   rw[ah]at h2
   simp only at this⊢
   omega
theorem jF{P:Program}{e:TypeId}:∀{ds:List (DataW H)} {i:Nat} {d:DataW H},ds[i]? =some d→∀n∈d.weights P e,n∈DataW.weightsAll P e ds
 |d0::r,0,d,h,n,hn=>by
  simp only[List.getElem?_cons_zero,Option.some.injEq]at h;subst h
  rw[DataW.weightsAll];exact List.mem_append_left _ hn
 |d0::r,i+1,d,h,n,hn=>by
  rw[DataW.weightsAll];exact List.mem_append_right _ (jF (by simpa using h) n hn)
 | [],i,d,h,n,hn=>by simp at h
theorem I0{v:Value}{d:DataW H}{ps:List MemPlace}(h:DataW.Trod enc Tryz.prog W base spare held 28 v d ps)(hv:∃a n c,v=.slice a n c):
  ∃ts,bH (whole W) v ts∧((∀n∈d.weights Tryz.prog 28,n≤reachBytes)→KN ts):=by
 obtain⟨fuel,hf⟩:=h
 obtain⟨v',rs,hcs,E0,hx,hr⟩:=nZ Tryz.underlying28 (k:=2) (by kernel_rfl) (by decide) hf
 have Iz:v'=v:=by
  obtain⟨a,n,c,rfl⟩:=hv
  simpa[Value.cells]using hcs.symm
 subst Iz
 have hex:∀(rs:List (List Value)) (j:Nat),(∀r∈rs,r.length=2)→(∀(i:Nat) (r:List Value),rs[i]? =some r→∃(fuel:Nat) (y:DataW H×List MemPlace) (es sp:List (DataW H)),DataW.trod enc Tryz.prog W base spare held fuel 57 r=some y∧d=.slice es sp∧es[i+j]? =some y.1)→
   ∃ts:List Tb,ts.length=rs.length∧∀(i:Nat) (r:List Value) (t:Tb),rs[i]? =some r→ts[i]? =some t→za (whole W) r t∧((∀n∈d.weights Tryz.prog 28,n≤reachBytes)→t.ws.length*8≤140737488351232):=by
  intro rs
  induction rs with
  |nil=>intro j _ _;exact⟨[],rfl,by simp⟩
  |cons r rest ih=>
   intro j aA hr
   obtain⟨ts,h1,h2⟩:=ih (j+1) (fun r h=>aA r (by simp[h])) fun i r' hi=>by
    have:=hr (i+1) r' (by simpa using hi)
    rwa [show i+1+j=i+(j+1)by omega]at this
   obtain⟨f,y,es,sp,h3,h4,h5⟩:=hr 0 r rfl
   obtain⟨t,h6,h7⟩:=Mi (aA r (by simp)) h3
   refine⟨t::ts,by simp[h1],fun i r' t' g1 g2=>?_⟩
   cases i with
   |zero=>
    simp only[List.getElem?_cons_zero,Option.some.injEq]at g1 g2
    subst g1;subst g2
    refine⟨h6,fun aA=>h7 fun n hn=>aA n ?_⟩
    rw[h4,DataW.weights,Tryz.underlying28]
    exact .tail _ (List.mem_append_left _ (jF h5 n hn))
   |succ i=>exact h2 i r' t' (by simpa using g1) (by simpa using g2)
 obtain⟨ts,h1,h2⟩:=hex rs 0 E0.1 hr
 refine⟨ts,⟨rs,E0,h1.symm,fun i r x g1 g2=>(h2 i r x g1 g2).1⟩,fun aA=>⟨?_,fun t ht=>?_⟩⟩
 ·rcases hx with⟨h3,_⟩|⟨es,sp,h3,h4⟩
  ·subst h3;have:=h1;simp at this;subst this;simp
  ·simp only at h3
   have:=aA ((es.length+sp.length)*Tryz.prog.bytesOf 57) (by rw[h3,DataW.weights,Tryz.underlying28];exact List.mem_cons_self ..)
   rw[show Tryz.prog.bytesOf 57=32 by kernel_rfl]at this
   have h5:=reachBytes_lt
   omega
 ·obtain⟨i,hi,e⟩:=List.mem_iff_getElem.1 ht
  have Tq:i<rs.length:=by omega
  exact(h2 i _ t (List.getElem?_eq_getElem Tq) (by rw[List.getElem?_eq_getElem hi,e])).2 aA
end
end Go.Proofs
set_option maxRecDepth 100000
namespace Go.Proofs
open Go Go.Sx
open aT
section
open Go.ChangeShapes Go.WideShapes Go.Deep
variable {H:Type} {enc:TypeId×Value→H} {W:World} {base:Nat} {spare:Nat→Bool} {held:Bool}
theorem Jc{xs:List (DataW H×List MemPlace)}(hx:xs.length=4){m:Nat}(hm:m∈DataW.weights Tryz.prog 28 (xs[2].1)):m∈DataW.weights Tryz.prog 62 (.agg (xs.map (·.1))):=by
 match xs,hx,hm with
 | [x0,x1,x2,x3],_,hm=>
  simp only[List.map_cons,List.map_nil,DataW.weights,Tryz.underlying62]
  exact List.mem_append_right _ (List.mem_append_right _ (List.mem_append_left _ hm))
theorem FN{v:Value}{d:DataW H}{ps:List MemPlace}(h:DataW.Trod enc Tryz.prog W base spare held 62 v d ps)(hv:∃cs,v=.agg cs∧cs.size=Tryz.prog.cellsOf 62):
  ∃(n c:Int) (vl vv:Value) (ts:List Tb) (vD:List Int),v=.agg #[.int .i64 n,.int .i64 c,vl,vv]∧bH (whole W) vl ts∧bL .i64 (whole W) vv vD∧((∀n∈d.weights Tryz.prog 62,n≤reachBytes)→KN ts):=by
 obtain⟨fuel,XN⟩:=h
 obtain⟨VS,rfl,hsz⟩:=hv
 obtain⟨xs,n,_,hy,_,hx,hf⟩:=DataW.trod_struct Tryz.underlying62 XN
 have k4:Tryz.prog.cellsOf 62=4:=by kernel_rfl
 rw[k4]at hsz
 obtain⟨l⟩:=VS
 match l,hsz with
 | [c0,c1,c2,c3],_=>
  have W0:xs.length=4:=hx
  have ki:Tryz.prog.cellsOf 3=1:=by kernel_rfl
  have kt:Tryz.prog.cellsOf 28=1:=by kernel_rfl
  have kl:Tryz.prog.cellsOf 25=1:=by kernel_rfl
  have g0:DataW.trod enc Tryz.prog W base spare held n 3 (List.take (Tryz.prog.cellsOf 3) [c0,c1,c2,c3])=xs[0]? :=hf 0 _ rfl
  have g1:DataW.trod enc Tryz.prog W base spare held n 3 (List.take (Tryz.prog.cellsOf 3) [c1,c2,c3])=xs[1]? :=hf 1 _ rfl
  have g2:DataW.trod enc Tryz.prog W base spare held n 28 (List.take (Tryz.prog.cellsOf 28) [c2,c3])=xs[2]? :=hf 2 _ rfl
  have g3:DataW.trod enc Tryz.prog W base spare held n 25 (List.take (Tryz.prog.cellsOf 25) [c3])=xs[3]? :=hf 3 _ rfl
  rw[ki,List.getElem?_eq_getElem (by omega)]at g0 g1
  rw[kt,List.getElem?_eq_getElem (by omega)]at g2
  rw[kl,List.getElem?_eq_getElem (by omega)]at g3
  simp only[List.take_succ_cons,List.take_zero]at g0 g1 g2 g3
  obtain⟨n0,e0,_,_⟩:=DataW.trod_int Tryz.underlying3 g0
  obtain⟨n1,e1,_,_⟩:=DataW.trod_int Tryz.underlying3 g1
  obtain⟨v3,vD,e3,hi,_,_⟩:=n3 Tryz.underlying25 Tryz.underlying3 ki g3
  obtain⟨v2,rs,e2,E0,_,_⟩:=nZ Tryz.underlying28 (k:=2) (by kernel_rfl) (by decide) g2
  simp only[List.cons.injEq,and_true]at e0 e1 e2 e3
  subst e0;subst e1;subst e2;subst e3
  obtain⟨a,cc,rfl,_⟩:=E0.shape
  obtain⟨ts,hts,hfit⟩:=I0 (v:=.slice a rs.length cc) (d:=xs[2].1) (ps:=xs[2].2) ⟨n,by rw[show(xs[2].1,xs[2].2)=xs[2]from rfl,←g2];rfl⟩ ⟨_,_,_,rfl⟩
  refine⟨n0,n1,_,_,ts,vD,rfl,hts,hi,fun aA=>hfit fun m hm=>aA m ?_⟩
  have hd:d=.agg (xs.map (·.1)):=congrArg Prod.fst hy
  rw[hd]
  exact Jc W0 hm
end
theorem NF{B:Hp}{n c:Int}{vl vv:Value}{ts:List Tb}{vD:List Int}(hL:bH B vl ts)(hv:bL .i64 B vv vD):
  Rd Tryz.prog 30 #[.agg #[.int .i64 n,.int .i64 c,vl,vv]] B (fun r=>r=.bool false∨(r=.bool true∧∃(m k:Nat) (L:List (List Nat)),n=(m:Int)∧c=(k:Int)∧(1≤m∧m≤8)∧(2≤k∧k≤1048576)∧ts=cU m L∧(∀t∈L,af.bJ m t)∧L.length≤40∧vD.length≤200)):=by
 refine aX fun g=>EK ?_
 intro b1 _
 refine Ld.f ?_
 refine aa.lss ?_
 refine dI.or (decide (8<n)) (fun _=>Ld.f (v:=.int .i64 n) (aa.gtr ⟨rfl,rfl⟩)) rfl fun gs=>?_
 refine dI.or (decide (c<2)) (fun _=>Ld.f (v:=.int .i64 c) (aa.lss ⟨rfl,rfl⟩)) rfl fun gs=>?_
 refine dI.or (decide (1048576<c)) (fun _=>Ld.f (v:=.int .i64 c) (aa.gtr ⟨rfl,rfl⟩)) rfl fun gs=>?_
 refine dI.or (decide (40<ts.length)) (fun _=>Ld.f (v:=vl) (hL.aM (aa.iR (b:=40) ⟨rfl,rfl⟩))) rfl fun gs=>?_
 refine dI.or (decide (200<vD.length)) (fun _=>Ld.f (v:=vv) (hv.aM (aa.iR (b:=200) ⟨rfl,rfl⟩))) rfl fun gs=>?_
 rw[←Bool.decide_or,←Bool.decide_or,←Bool.decide_or,←Bool.decide_or,←Bool.decide_or]
 refine Br.dec (fun hb=>?_) (fun hb=>?_)
 ·exact bO.mk .tail (.inl rfl)
 obtain⟨m,rfl⟩:∃m:Nat,n=m:=⟨n.toNat,by omega⟩
 obtain⟨k,rfl⟩:∃k:Nat,c=k:=⟨c.toNat,by omega⟩
 refine Ld.f (v:=vl) ?_
 refine hL.aM ?_
 refine⟨fun vs H=>∃i:Nat,vs=[.int .i64 (i:Int)]∧i≤ts.length∧H=(b1,.cells #[.int .i64 (m:Int),.int .i64 (k:Int),vl,vv] 62 (0,0))::B∧∀t∈ts.take i,t.n=(m:Int)∧TF t,fun vs _=>ts.length-aV vs 0,JE.mk ⟨0,rfl,Nat.zero_le _,rfl,by simp⟩,?_⟩
 rintro Zi H ⟨i,⟨⟩,hi,rfl,aA⟩ gs
 refine aa.dn (Br.dec (fun hlt=>?_) (fun hge=>?_))
 ·have IA:ts[i]? =some ts[i]:=List.getElem?_eq_getElem hlt
  refine hL.ld IA (fun _ h=>.tail _ h) fun s hw=>?_
  have hone:=av hw
  intro b44 _
  refine St.p (by simpa[Value.oneCell']using hone) ?_
  intro J47 VP
  refine Ld.f (v:=.int .i64 ts[i].n) ?_
  refine Ld.f (v:=.int .i64 (m:Int)) ?_
  refine aa.gA ?_
  by_cases hn:ts[i].n=(m:Int)
  ·rw[decide_eq_false (fun h=>h hn)]
   refine Split.go rfl ?_
   refine ax.q ?_
   refine ae.eq (B:=B) (FP (t:=ts[i]) ⟨s,rfl,hw⟩) ?_
   refine Un.not (ay.mk (JE.mk (VP _ _ fun gs=>?_)))
   by_cases hf:TF ts[i]
   ·rw[decide_eq_true hf]
    refine Br.no ?_
    refine aa.inc ?_
    refine aq.of .tail ⟨i+1,rfl,hlt,rfl,fun t ht=>?_⟩ (by simp only[aV];omega)
    rw[List.take_succ_eq_append_getElem hlt]at ht
    rcases List.mem_append.1 ht with ht|ht
    ·exact aA t ht
    ·rw[List.mem_singleton.1 ht];exact⟨hn,hf⟩
   ·rw[decide_eq_false hf]
    exact Br.yes (bO.mk (.skip .tail) (.inl rfl))
  ·rw[decide_eq_true hn]
   refine Split.xU rfl (ay.mk (JE.mk (VP _ _ fun gs=>?_)))
   exact Br.yes (bO.mk (.skip .tail) (.inl rfl))
 ·have lP:ts.take i=ts:=List.take_of_length_le (by omega)
  rw[lP]at aA
  refine bO.mk .tail (.inr ⟨rfl,m,k,ts.map Tb.ws,rfl,rfl,by omega,by omega,?_,fun t ht=>?_,by rw[List.length_map];omega,by omega⟩)
  ·unfold cU
   rw[List.map_map]
   conv=>lhs;rw[←List.map_id ts]
   refine List.map_congr_left fun t ht=>?_
   obtain⟨tn,tw⟩:=t
   have:=(aA _ ht).1
   simp only at this
   subst this;rfl
  ·obtain⟨t',ht',rfl⟩:=List.mem_map.1 ht
   obtain⟨h1,h2⟩:=aA t' ht'
   have:=h2.2
   rw[h1]at this
   simpa using this
end Go.Proofs
set_option maxRecDepth 100000
namespace Go.Proofs
open Go Go.Sx
open aT
section
variable {kp mb y4 b1 b7 y3 bn:Nat} {K:Kd} {S:Nat→aT.Fn} {ord ak tr:List Nat} {C:Hp}
def kr(r:Nat):Value:=u32 r
theorem qA(a b:Nat):Instr.sameNow (.int .u32) (kr a) (kr b)=some (decide (a=b)):=by
 simp only[Instr.sameNow,kr,u32,if_true,Option.some.injEq]
 rw[Bool.eq_iff_iff];simp;omega
theorem uj(a:Nat):Instr.sameBits 10000 (kr a) (kr a)=true:=by simp[Instr.sameBits,kr,u32]
structure Kn(n:Nat)(S:Nat→aT.Fn)(es:Array MapEntry)(ck:Nat)(m:List (Nat×Value))(Y:Hp):Prop where
 pC:aR kr (fun v x=>v=x) es ck m
 gj:∀r v,dm m r=some v→fM Y v n (S r)
 low:∀r,r<2→dm m r≠none
theorem Kn.mono{n:Nat}{S:Nat→aT.Fn}{es:Array MapEntry}{ck:Nat}{m:List (Nat×Value)}{Y Y':Hp}(h:Kn n S es ck m Y)(hs:∀x∈Y,x∈Y'):Kn n S es ck m Y':=⟨h.pC,fun r v hm=>(h.gj r v hm).mono hs,h.low⟩
theorem fM.one{B:Hp}{v:Value}{n:Nat}{f:aT.Fn}(h:fM B v n f):∃s,v=.agg #[.int .i64 (n:Int),s]∧s.oneCell'=true:=by
 obtain⟨ws,⟨s,rfl,hw⟩,_,_⟩:=h
 exact⟨s,rfl,av hw⟩
theorem cq{n:Nat}{s:Value}(h:s.oneCell'=true):∀u∈[Value.int .i64 (n:Int),s],u.oneCell'=true:=fun u hu=>by
 simp only[List.mem_cons,List.not_mem_nil,or_false]at hu
 rcases hu with rfl|rfl
 ·rfl
 ·exact h
theorem oa(d:Nd):∀u∈bg d,u.oneCell'=true:=fun u hu=>by
 simp only[bg,List.mem_cons,List.not_mem_nil,or_false]at hu
 rcases hu with rfl|rfl|rfl<;>rfl
theorem HP{X:Hp}(h:gM kp K S ord ak tr C){r:Nat}{d:Nd}(hd:K.N r=some d):Px Tryz.prog 217 #[ptr kp,u32 r] (X++C) (fun v _=>v=.agg (bg d).toArray):=by
 have hlt:=h.eI (.inr ⟨d,hd⟩)
 refine aX fun g=>Ab ?_
 intro b1 _
 refine ae.eq (args:=#[ptr kp,u32 r]) (qB h.rep (by omega)) ?_
 rw[iD hd (h.ok.mid.two hd).1]
 refine Ext.two ?_
 intro b7 _
 refine St.p (oa d) ?_
 refine ax.q ?_
 refine St.p (oa d) ?_
 refine ax.q ?_
 exact js.mk (by repeat (first|exact aH.refl _|apply aH.cons|apply aH.app)) rfl
theorem HQ{X:Hp}{v:Value}(h:gM kp K S ord ak tr C){rs:List Nat}(hv:bL .u32 (X++C) v (iw rs))(hr:∀r∈rs,live K.N r)(hl:rs.length<4611686018427387904):Px Tryz.prog 150 #[ptr kp,v] (X++C) (fun w _=>w=.int .i64 0):=by
 refine aX fun g=>AW ?_
 refine aa.aB (Br.no ?_)
 refine hv.aM ?_
 rw[ah]
 refine⟨fun vs H=>∃(i:Nat) (N:Hp),vs=[.int .i64 (i:Int)]∧i≤rs.length∧H=N++(X++C),fun vs _=>rs.length-aV vs 0,JE.mk ⟨0,[],rfl,Nat.zero_le _,rfl⟩,?_⟩
 rintro w H ⟨i,N,hw,hi,rfl⟩ gs
 simp only[List.cons.injEq,and_true]at hw
 subst hw
 refine aa.dn (Br.dec (fun hlt=>?_) (fun hge=>?_))
 ·have qH:=hr _ (List.getElem_mem hlt)
  have ei:=h.eI qH
  refine hv.ld (n:=((rs[i]:Nat):Int)) (bT (List.getElem?_eq_getElem hlt)) (fun _ h=>List.mem_append_right _ h) ?_
  refine ae.eq (args:=#[ptr kp,u32 rs[i]]) (qB h.rep (by omega)) ?_
  rw[if_pos (cm.2 qH)]
  refine Ext.two ?_
  intro E9 _
  refine St.whole (r:=got K.N rs[i]) (by exact .head _) rfl (cQ _ _).1 (cQ _ _).2 ?_
  refine aa.gA (Br.F ?_)
  refine aa.inc ?_
  exact aq.mk ⟨i+1,_::N,rfl,hlt,rfl⟩ (by simp only[aV];omega)
 ·exact js.mk (by repeat (first|exact aH.refl _|apply aH.cons|apply aH.app)) rfl
theorem HA{X:Hp}{n:Nat}(hn:n≤16){d:Nd}(hd:d.v<n){v1 v2:Value}{f1 f2:aT.Fn}(h1:fM X v1 n f1)(h2:fM X v2 n f2)(hm:(bn,Obj.cells #[.int .i64 (n:Int)] 3 (0,0))∈X):
  Px Tryz.prog 152 #[.agg (bg d).toArray,v1,v2,ptr bn] X (fun w H=>fM H w n (fun x=>if x.testBit d.v then f2 x else f1 x)):=by
 obtain⟨s1,rfl,o1⟩:=h1.one
 obtain⟨s2,rfl,o2⟩:=h2.one
 refine aX fun g=>AU ?_
 intro c1 _ c3 _ c5 _ c7 _
 refine Ld.mk (v:=.int .i64 (n:Int)) (by exact .tail _ (.tail _ (.tail _ (.tail _ hm)))) rfl ?_
 refine Ld.f ?_
 refine ae.px (aZ.left (C:=[]) (A:=_)) (IW hn hd []) ?_
 rintro w N ⟨t,rfl,ht⟩
 rw[List.append_nil]at ht⊢
 obtain⟨s3,rfl,o3⟩:=ht.one
 refine Ext.two ?_
 intro L5 _
 refine St.p (cq o3) ?_
 refine ax.q ?_
 refine ax.q ?_
 refine ax.q ?_
 refine ae.pre (.perm (.cons _ (List.perm_middle.trans (.cons _ (List.perm_middle.trans (.cons _ (List.perm_middle.trans (.cons _ List.perm_middle)))))))) ?_
 refine ae.pq (IZ (B:=N++X) (ht.mono fun _ h=>List.mem_append_left _ h) (h2.mono fun _ h=>List.mem_append_right _ h) (h1.mono fun _ h=>List.mem_append_right _ h)) ?_
 rintro w N2 ⟨t4,rfl,U4⟩
 obtain⟨s4,rfl,o4⟩:=U4.one
 refine Ext.two ?_
 intro Z9 _
 refine St.p (cq o4) ?_
 refine ax.q ?_
 refine St.p (cq o4) ?_
 refine ax.q ?_
 refine js.mk (by repeat (first|exact aH.refl _|apply aH.cons|apply aH.app)) (U4.mono ?_)
 intro x hx
 repeat (first|exact hx|apply List.mem_cons_of_mem)
theorem QW(h:gM kp K S ord ak tr C)(hn:K.n≤16){Z0:Hp}(Ul:(y4,Obj.cells #[.map (some mb)] 295 (0,0))∈Z0)(h1:(b1,Obj.cells #[ptr kp] 26 (0,0))∈Z0)(h7:(b7,Obj.cells #[.func (.func 152) #[] #[ptr bn]] 221 (0,0))∈Z0)
 (QL:(y3,Obj.cells #[.func (.func 216) #[] #[ptr y4,ptr b1,ptr b7,ptr y3]] 296 (0,0))∈Z0)(Ol:(bn,Obj.cells #[.int .i64 (K.n:Int)] 3 (0,0))∈Z0):
  ∀(k r:Nat) (es:Array MapEntry) (ck:Nat) (m:List (Nat×Value)) (Z:Hp),K.n-dep K.n (lv ak) K.N r≤k→live K.N r→(∀x∈Z0,x∈Z)→Kn K.n S es ck m Z→
  Fc Tryz.prog 216 #[u32 r,ptr y4,ptr b1,ptr b7,ptr y3] ((mb,.map es ck)::(Z++C)) (fun v H=>∃es' c8 m' N,H=(mb,.map es' c8)::(N++(Z++C))∧Kn K.n S es' c8 m' (N++Z)∧fM (N++Z) v K.n (S r)):=by
 have hit:∀{r:Nat} {es:Array MapEntry} {ck:Nat} {m:List (Nat×Value)} {Z:Hp} {v:Value},(∀x∈Z0,x∈Z)→Kn K.n S es ck m Z→dm m r=some v→
   Fc Tryz.prog 216 #[u32 r,ptr y4,ptr b1,ptr b7,ptr y3] ((mb,.map es ck)::(Z++C)) (fun v H=>∃es' c8 m' N,H=(mb,.map es' c8)::(N++(Z++C))∧Kn K.n S es' c8 m' (N++Z)∧fM (N++Z) v K.n (S r)):=by
  intro r es ck m Z v hZ hm hv g
  obtain⟨s,rfl,hs⟩:=(hm.gj r v hv).one
  refine rM (R:=bN _) ?_
  unfold L216
  intro c1 _
  refine Ld.mk (v:=.map (some mb)) (by exact .tail _ (.tail _ (List.mem_append_left _ (hZ _ Ul)))) rfl ?_
  refine hm.pC.hit (k:=r) qA (b:=mb) (by exact .tail _ (.head _)) hv fun v' e=>?_
  subst e
  refine Ext.two ?_
  intro c7 _
  refine St.p (cq hs) ?_
  refine Br.yes ?_
  refine ax.q ?_
  refine St.p (cq hs) ?_
  refine ax.q ?_
  exact bN.mk (.skip .tail) ⟨es,ck,m,[],rfl,hm,hm.gj r _ hv⟩
 intro k
 induction k with
 |zero=>
  intro r es ck m Z hk hr hZ hm
  have jY:r<2:=by
   cases hN:K.N r with
   |some d=>
    have:=h.ok.wf.gH h.ok.lv r
    rw[aE hN]at hk
    have:=h.ok.lv.lt _ (h.ok.mid.var hN);omega
   |none=>
    rcases hr with hr|⟨d,e⟩
    ·exact hr
    ·rw[hN]at e;cases e
  cases hv:dm m r with
  |none=>exact absurd hv (hm.low r jY)
  |some v=>exact hit hZ hm hv
 |succ k ih=>
  intro r es ck m Z hk hr hZ hm
  cases hv:dm m r with
  |some v=>exact hit hZ hm hv
  |none=>
  have jY:¬r<2:=fun h2=>hm.low r h2 hv
  obtain⟨d,hN⟩:∃d,K.N r=some d:=by
   rcases hr with hr|hr
   ·omega
   ·exact hr
  have BY:=h.ok.mid.var hN
  have hlo:=h.ok.wf.lo hN
  have hhi:=h.ok.wf.hi hN
  have XP:=h.ok.wf.gH h.ok.lv r
  rw[aE hN]at hk
  have hvl:=h.ok.lv.lt _ BY
  have Qr:S r=fun x=>if x.testBit d.v then S d.hi x else S d.lo x:=funext fun x=>h.ok.mid.int.node hN x
  refine aX fun g=>rM ?_
  intro c1 _
  refine Ld.mk (v:=.map (some mb)) (by exact .tail _ (.tail _ (List.mem_append_left _ (hZ _ Ul)))) rfl ?_
  refine hm.pC.bC (k:=r) qA (b:=mb) (by exact .tail _ (.head _)) hv ?_
  refine Ext.two ?_
  intro c7 _
  refine St.q ?_
  refine Br.no ?_
  refine Ld.mk (v:=ptr kp) (by exact .tail _ (.tail _ (.tail _ (List.mem_append_left _ (hZ _ h1))))) rfl ?_
  refine ae.pq (args:=#[ptr kp,u32 r]) (HP (X:=Z) h hN) ?_
  rintro w N0 rfl
  intro L5 _
  refine St.p (oa d) ?_
  obtain⟨Z1,Qm⟩:∃Z1,Z1=(L5,Obj.cells (bg d).toArray 161 (0,0))::(N0++Z):=⟨_,rfl⟩
  have Ho:∀x∈Z,x∈Z1:=fun x hx=>by rw[Qm];exact .tail _ (List.mem_append_right _ hx)
  have G5:aJ (Z1++C) ((L5,Obj.cells (bg d).toArray 161 (0,0))::Z):=by rw[Qm];exact aJ.left.trans (.cons .right)
  have r9:((L5,Obj.cells (bg d).toArray 161 (0,0))::(c7,.cells (List.toArray [.int .i64 0,.slice none 0 0]) 57 (0,0))::(c1,.cells #[.int .i64 0,.slice none 0 0] 57 (0,0))::(mb,Obj.map es ck)::(N0++(Z++C))).Perm
    ((c1,.cells #[.int .i64 0,.slice none 0 0] 57 (0,0))::(c7,.cells (List.toArray [.int .i64 0,.slice none 0 0]) 57 (0,0))::(mb,Obj.map es ck)::(Z1++C)):=by
   rw[Qm,List.cons_append,List.append_assoc]
   refine(List.Perm.swap _ _ _).trans ?_
   refine(List.Perm.cons _ (List.Perm.swap _ _ _)).trans ?_
   refine(List.Perm.swap _ _ _).trans (.cons _ (.cons _ (.swap _ _ _)))
  have X7:aJ ((L5,Obj.cells (bg d).toArray 161 (0,0))::(c7,.cells (List.toArray [.int .i64 0,.slice none 0 0]) 57 (0,0))::(c1,.cells #[.int .i64 0,.slice none 0 0] 57 (0,0))::(mb,Obj.map es ck)::(N0++(Z++C))) ((L5,Obj.cells (bg d).toArray 161 (0,0))::Z):=
   .cons (.skip (.skip (.skip (.bE .left))))
  refine DR.of X7 ?_
  refine Ld.mk (v:=.func (.func 152) #[] #[ptr bn]) (by exact .tail _ (hZ _ h7)) rfl ?_
  refine ax.q ?_
  refine Ld.mk (v:=.func (.func 216) #[] #[ptr y4,ptr b1,ptr b7,ptr y3]) (by exact .tail _ (hZ _ QL)) rfl ?_
  refine Ld.f ?_
  refine Ld.mk (v:=.func (.func 216) #[] #[ptr y4,ptr b1,ptr b7,ptr y3]) (by exact .tail _ (hZ _ QL)) rfl ?_
  refine Ld.f ?_
  intro F
  refine fV.of rfl (by kernel_rfl) ?_
  refine ae.pre (.perm r9) ?_
  refine ae.fq (args:=#[u32 d.lo,ptr y4,ptr b1,ptr b7,ptr y3]) (ih d.lo es ck m Z1 (by omega) hlo.1 (fun x hx=>Ho _ (hZ x hx)) (hm.mono Ho)) ?_
  rintro v1 H ⟨nE,l7,m1,N1,rfl,xw,N6⟩
  refine⟨.skip (.skip (.skip (.bE G5))),?_⟩
  rw[←List.append_assoc]
  intro F
  refine fV.of rfl (by kernel_rfl) ?_
  refine ae.fq (args:=#[u32 d.hi,ptr y4,ptr b1,ptr b7,ptr y3]) (ih d.hi nE l7 m1 (N1++Z1) (by omega) hhi.1 (fun x hx=>List.mem_append_right _ (Ho _ (hZ x hx))) xw) ?_
  rintro v2 H ⟨mI,nJ,m2,N2,rfl,uo,EY⟩
  refine⟨.skip (.skip (.skip (.bE (aJ.assoc.trans (.bE G5))))),?_⟩
  rw[←List.append_assoc]
  intro F
  refine fV.of rfl (by kernel_rfl) ?_
  refine ae.pq (args:=#[.agg (bg d).toArray,v1,v2,ptr bn]) (HA (bn:=bn) hn BY (N6.mono fun _ h=>List.mem_append_right _ h) EY (List.mem_append_right _ (List.mem_append_right _ (Ho _ (hZ _ Ol))))) ?_
  intro v3 N3 MN
  rw[←Qr]at MN
  refine⟨.skip (.skip (.skip (aJ.assoc.trans (.bE (aJ.assoc.trans (.bE (aJ.assoc.trans (.bE G5)))))))),?_⟩
  obtain⟨s3,rfl,o3⟩:=MN.one
  intro Z8 _
  intro F
  refine St.p (cq o3) ?_
  refine Ld.mk (v:=.map (some mb)) (by exact .tail _ (.tail _ (.tail _ (.tail _ (List.mem_append_left _ (List.mem_append_right _ (List.mem_append_right _ (List.mem_append_right _ (Ho _ (hZ _ Ul)))))))))) rfl ?_
  refine ax.q ?_
  refine uo.pC.bM (k:=r) (b:=mb) (x:=.agg #[.int .i64 (K.n:Int),s3]) qA uj rfl fun L1 L4 he=>⟨_,.tail (.tail (.tail (.head _))),?_⟩
  refine ax.q ?_
  refine St.p (cq o3) ?_
  refine ax.q ?_
  have hmem:∀x∈N3++(N2++(N1++Z1)),x∈(N3++(N2++(N1++((L5,Obj.cells (bg d).toArray 161 (0,0))::N0))))++Z:=fun x hx=>by
   rw[Qm]at hx
   simpa only[List.append_assoc,List.cons_append]using hx
  refine bN.mk (.skip (.skip .tail)) ⟨L1,L4,e8 m2 r (.agg #[.int .i64 (K.n:Int),s3]),N3++(N2++(N1++((L5,Obj.cells (bg d).toArray 161 (0,0))::N0))),by rw[Qm];simp only[List.append_assoc,List.cons_append],⟨he,fun r' v' BT=>?_,fun r' hr'=>?_⟩,MN.mono hmem⟩
  ·rw[eW]at BT
   split at BT
   ·rename_i e
    subst e
    cases BT
    exact MN.mono hmem
   ·exact(uo.gj r' v' BT).mono fun x hx=>hmem x (List.mem_append_right _ hx)
  ·rw[eW]
   split
   ·simp
   ·exact uo.low r' hr'
end
section
variable {kp bn:Nat} {K:Kd} {S:Nat→aT.Fn} {ord ak tr:List Nat} {C:Hp}
theorem Kx(h:gM kp K S ord ak tr C)(hn:K.n≤16){r:Nat}(hr:live K.N r){X:Hp}{v0 v1:Value}(Pg:fM X v0 K.n (fun _=>false))(xp:fM X v1 K.n (fun _=>true))(Ol:(bn,Obj.cells #[.int .i64 (K.n:Int)] 3 (0,0))∈X):
  Fc Tryz.prog 151 #[ptr kp,u32 r,v0,v1,.func (.func 152) #[] #[ptr bn]] (X++C) (fun v H=>∃N,H=N++(X++C)∧fM (N++X) v K.n (S r)):=by
 obtain⟨s0,rfl,o0⟩:=Pg.one
 obtain⟨s1,rfl,o1⟩:=xp.one
 have hi:=h.ok.mid.int
 refine aX fun g=>AV ?_
 intro b1 _ b3 _ b5 _ b7 _ b9 _ mb _
 refine ax.q ?_
 refine aR.bM (ke:=kr) (vr:=fun v x=>v=x) (k:=0) (b:=mb) (x:=Value.agg #[.int .i64 (K.n:Int),s0]) qA uj aR.empty rfl fun nE l7 RL=>⟨_,.head _,?_⟩
 refine ax.q ?_
 refine aR.bM (ke:=kr) (vr:=fun v x=>v=x) (k:=1) (b:=mb) (x:=Value.agg #[.int .i64 (K.n:Int),s1]) qA uj RL rfl fun mI nJ RK=>⟨_,.head _,?_⟩
 intro y4 _
 refine St.one (c':=#[.map (some mb)]) (by exact .head _) rfl (by simp) rfl ?_
 intro y3 _
 refine St.one (c':=#[.func (.func 216) #[] #[ptr y4,ptr b1,ptr b7,ptr y3]]) (by exact .head _) rfl (by simp) rfl ?_
 refine Ld.q ?_
 refine fV.of rfl (by kernel_rfl) ?_
 obtain⟨Z0,LP⟩:∃Z0:Hp,Z0=(y3,Obj.cells #[.func (.func 216) #[] #[ptr y4,ptr b1,ptr b7,ptr y3]] 296 (0,0))::(y4,.cells #[.map (some mb)] 295 (0,0))::(b7,.cells #[.func (.func 152) #[] #[ptr bn]] 221 (0,0))::(b5,.cells (Value.cells (.agg #[.int .i64 (K.n:Int),s1])) 57 (0,0))::(b3,.cells (Value.cells (.agg #[.int .i64 (K.n:Int),s0])) 57 (0,0))::(b1,.cells #[ptr kp] 26 (0,0))::X:=⟨_,rfl⟩
 have TT:∀x∈X,x∈Z0:=fun x hx=>by rw[LP];exact .tail _ (.tail _ (.tail _ (.tail _ (.tail _ (.tail _ hx)))))
 refine ae.pre (H':=(b9,Obj.cells #[.int .i64 0,.slice none 0 0] 57 (0,0))::(mb,Obj.map mI nJ)::(Z0++C)) (.perm ?_) ?_
 ·rw[LP]
  simp only[List.cons_append]
  refine(List.Perm.cons _ (List.Perm.cons _ (List.Perm.swap _ _ _))).trans ?_
  refine(List.Perm.cons _ (List.Perm.swap _ _ _)).trans ?_
  refine(List.Perm.swap _ _ _).trans (.cons _ ?_)
  refine(List.Perm.cons _ (List.Perm.swap _ _ _)).trans ?_
  exact List.Perm.swap _ _ _
 refine ae.fq (args:=#[u32 r,ptr y4,ptr b1,ptr b7,ptr y3]) (QW (Z0:=Z0) (bn:=bn) h hn (by rw[LP];exact .tail _ (.head _)) (by rw[LP];exact .tail _ (.tail _ (.tail _ (.tail _ (.tail _ (.head _)))))) (by rw[LP];exact .tail _ (.tail _ (.head _))) (by rw[LP];exact .head _) (TT _ Ol) K.n r mI nJ _ Z0 (Nat.sub_le _ _) hr (fun _ h=>h) ⟨RK,fun r v hm=>?_,fun r hr=>?_⟩) ?_
 ·rw[eW,eW]at hm
  split at hm
  ·rename_i e;subst e;cases hm
   have:=xp.mono TT
   rwa [show(fun _=>true)=S 1 from funext fun x=>(hi.one x).symm]at this
  split at hm
  ·rename_i e;subst e;cases hm
   have:=Pg.mono TT
   rwa [show(fun _=>false)=S 0 from funext fun x=>(hi.zero x).symm]at this
  ·simp[dm]at hm
 ·rw[eW,eW]
  have:r=0∨r=1:=by omega
  rcases this with rfl|rfl<;>simp
 rintro v H ⟨L1,L4,m3,N,rfl,_,ht⟩
 obtain⟨s3,rfl,o3⟩:=ht.one
 refine St.p (cq o3) ?_
 refine ax.q ?_
 refine bN.mk (.skip .tail) ⟨N++[(y3,Obj.cells #[.func (.func 216) #[] #[ptr y4,ptr b1,ptr b7,ptr y3]] 296 (0,0)),(y4,.cells #[.map (some mb)] 295 (0,0)),(b7,.cells #[.func (.func 152) #[] #[ptr bn]] 221 (0,0)),(b5,.cells (Value.cells (.agg #[.int .i64 (K.n:Int),s1])) 57 (0,0)),(b3,.cells (Value.cells (.agg #[.int .i64 (K.n:Int),s0])) 57 (0,0)),(b1,.cells #[ptr kp] 26 (0,0))],by rw[LP];simp,ht.mono fun x hx=>?_⟩
 rw[LP]at hx
 simpa using hx
theorem D2(h:gM kp K S ord ak tr C)(hn:K.n≤16){r:Nat}(hr:live K.N r):
  Fc Tryz.prog 71 #[ptr kp,u32 r] C (fun v H=>∃N t,H=N++C∧v=.tuple #[t,.int .i64 0]∧fM N t K.n (S r)):=by
 refine aX fun g=>Ew ?_
 intro b1 _
 refine an.int (e:=77) (by kernel_rfl) (by kernel_rfl) (by kernel_rfl) fun bx=>?_
 refine ae.px .here (HQ (X:=[(bx,_),(b1,_)]) (rs:=[r]) h (bL.block (by exact .head _) (by simp)) (fun x hx=>by rw[List.mem_singleton.1 hx];exact hr) (by simp)) ?_
 rintro w N0 rfl
 refine aa.gA (Br.F ?_)
 refine ae.eq (vJ h.rep) ?_
 intro Uz _
 refine St.one (c':=#[.int .i64 (K.n:Int)]) (by exact .head _) rfl (by simp) rfl ?_
 refine Ld.q ?_
 refine aa.iR (b:=16) (Br.F ?_)
 refine Ld.q ?_
 refine ae.px (aZ.left (C:=[]) (A:=_)) (sF hn false []) ?_
 rintro w N1 ⟨t0,rfl,EZ⟩
 rw[List.append_nil]at EZ⊢
 obtain⟨s0,rfl,o0⟩:=EZ.one
 refine Ext.two ?_
 intro V1 _
 refine St.p (cq o0) ?_
 refine Ld.q ?_
 refine ae.px (aZ.left (C:=[]) (A:=_)) (sF hn true []) ?_
 rintro w N2 ⟨t1,rfl,N6⟩
 rw[List.append_nil]at N6⊢
 obtain⟨s1,rfl,o1⟩:=N6.one
 refine Ext.two ?_
 intro VZ _
 refine St.p (cq o1) ?_
 refine ax.q ?_
 refine ax.q ?_
 obtain⟨X,hX⟩:∃X:Hp,X=(VZ,Obj.cells (List.toArray [.int .i64 (K.n:Int),s1]) 57 (0,0))::(N2++((V1,Obj.cells (List.toArray [.int .i64 (K.n:Int),s0]) 57 (0,0))::(N1++((Uz,Obj.cells #[.int .i64 (K.n:Int)] 3 (0,0))::(N0++[(bx,Obj.cells (aC .u32 [(r:Int)]) 77 (0,0))]))))):=⟨_,rfl⟩
 refine ae.pre (H':=(b1,Obj.cells #[.int .i64 0,.slice none 0 0] 57 (0,0))::(X++C)) (.perm ?_) ?_
 ·rw[hX]
  have:=List.perm_middle (a:=(b1,Obj.cells #[Value.int .i64 0,.slice none 0 0] 57 (0,0))) (l₂:=C) (l₁:=(VZ,Obj.cells (List.toArray [Value.int .i64 (K.n:Int),s1]) 57 (0,0))::(N2++((V1,Obj.cells (List.toArray [Value.int .i64 (K.n:Int),s0]) 57 (0,0))::(N1++((Uz,Obj.cells #[Value.int .i64 (K.n:Int)] 3 (0,0))::(N0++[(bx,Obj.cells (aC .u32 [(r:Int)]) 77 (0,0))]))))))
  simpa only[List.cons_append,List.append_assoc,List.nil_append]using this
 refine ae.fq (Kx (X:=X) (bn:=Uz) h hn hr (EZ.mono fun x hx=>?_) (N6.mono fun x hx=>?_) ?_) ?_
 ·rw[hX];exact .tail _ (List.mem_append_right _ (.tail _ (List.mem_append_left _ hx)))
 ·rw[hX];exact .tail _ (List.mem_append_left _ hx)
 ·rw[hX];exact .tail _ (List.mem_append_right _ (.tail _ (List.mem_append_right _ (.head _))))
 rintro v H ⟨N,rfl,ht⟩
 obtain⟨s3,rfl,o3⟩:=ht.one
 refine St.p (cq o3) ?_
 refine ax.q ?_
 exact bN.mk .tail ⟨N++X,_,by rw[List.append_assoc],rfl,ht⟩
def rts(K:Kd):List Nat:=(List.range K.ho.length).filter fun r=>decide (0<K.hold r)
theorem Db(h:gM kp K S ord ak tr C):Fc Tryz.prog 70 #[ptr kp] C (fun r H=>∃N,H=N++C∧aK 77 .u32 r (iw (rts K)) N):=by
 obtain⟨b,hC,hO⟩:=h.rep
 have hcap:=h.ok.mid.cap
 have hle:=h.kS
 have hfit:K.ho.length≤1048576:=by
  have:=hO.ul
  omega
 refine aX fun g=>Ex ?_
 refine aa.aB (Br.no ?_)
 have Pm:∀z∈b.CH,z∈C:=by rw[hC];exact aZ.sub (.cons (.app (.app (.app .left))))
 refine Nil.ptr (ag.mk (Ld.u (by rw[hC];exact .head _) ?_))
 refine hO.ho.aM ?_
 rw[ah]
 let rk:Nat→List Nat:=fun k=>(List.range k).filter fun r=>decide (0<K.hold r)
 refine⟨fun vs H=>∃(k:Nat) (w:Value) (N:Hp),vs=[w,.int .i64 (k:Int)]∧k≤K.ho.length∧H=N++C∧aK 77 .u32 w (iw (rk k)) N,fun vs _=>K.ho.length-aV vs 1,JE.mk ⟨0,_,[],rfl,Nat.zero_le _,rfl,aK.nil⟩,?_⟩
 rintro Oz Ri H ⟨k,w,N,⟨⟩,hk,rfl,hN⟩ gs
 refine aa.dn (Br.dec (fun hlt=>?_) (fun hlt=>?_))
 ·intro J hJ
  have fin:∀w' N',aK 77 .u32 w' (iw (rk (k+1))) N'→J [w'] (N'++C):=fun w' N' h'=>hJ _ _ fun gs=>by
   refine aa.inc ?_
   exact aq.of (.refl _) ⟨k+1,w',N',rfl,hlt,rfl,h'⟩ (by simp only[aV];omega)
  have e:rk (k+1)=rk k++if 0<K.hold k then [k]else []:=by
   show(List.range (k+1)).filter _=_
   rw[List.range_succ,List.filter_append]
   congr 1
   by_cases hp:0<K.hold k<;>simp[hp]
  refine hO.ho.ld (x:=((K.hold k:Nat):Int)) (bf hlt) (fun z hz=>List.mem_append_right _ (Pm z hz)) ?_
  refine aa.iR (b:=0) (Br.dec (fun hp=>?_) (fun hp=>?_))
  ·rw[e,if_pos hp]at fin
   refine aY.q ?_
   have rT:(rk k).length≤k:=by
    have:=List.length_filter_le (fun r=>decide (0<K.hold r)) (List.range k)
    rwa [List.length_range]at this
   refine an.int (e:=77) (by kernel_rfl) (by kernel_rfl) (by kernel_rfl) fun bx=>?_
   refine hN.nO (.cons .left) (by exact .head _) (by rw[ah];omega) (by rw[ah];omega) fun v' N' br=>?_
   rw[bY]at fin
   exact JE.of .tail (fin v' N' br)
  ·rw[e,if_neg hp,List.append_nil]at fin
   exact JE.mk (fin Oz N hN)
 ·obtain rfl:k=K.ho.length:=by omega
  exact bN.here ⟨N,rfl,hN⟩
end
end Go.Proofs
namespace af
open Go.Sx
def D3(c:Nat→Nat→Nat):Nat→List Nat→Nat
 |_,[]=>0
 |a,v::o=>c a v+D3 c (au a v true) o
def mr(a:Nat)(o:List Nat):Nat:=o.foldl (fun a v=>au a v true) a
theorem u5(a:Nat)(o o':List Nat):mr a (o++o')=mr (mr a o) o':=List.foldl_append ..
theorem q8(c:Nat→Nat→Nat):∀(o o':List Nat) (a:Nat),D3 c a (o++o')=D3 c a o+D3 c (mr a o) o'
 | [],o',a=>by simp[D3,mr]
 |v::o,o',a=>by rw[List.cons_append,D3,q8 c o o',D3,Nat.add_assoc];rfl
theorem mW:∀(o:List Nat) (a u:Nat),(mr a o).testBit u=(a.testBit u||decide (u∈o))
 | [],a,u=>by simp[mr]
 |v::o,a,u=>by
  show(mr (au a v true) o).testBit u=_
  rw[mW o,ai]
  by_cases e:u=v
  ·simp[e]
  ·simp[e]
structure jt(n a:Nat)(o:List Nat):Prop where
 nd:o.Nodup
 mem:∀v,v∈o↔v∈bC n a
variable {n:Nat} {c:Nat→Nat→Nat}
theorem jt.nil{a:Nat}(h:jt n a []):bC n a=[]:=List.eq_nil_iff_forall_not_mem.2 fun v hv=>by simpa using(h.mem v).2 hv
theorem jt.tail{a v:Nat}{o:List Nat}(h:jt n a (v::o)):v∈bC n a∧jt n (au a v true) o:=by
 have h1:=List.nodup_cons.1 h.nd
 refine⟨(h.mem v).1 (by simp),h1.2,fun u=>?_⟩
 rw[ca,ai]
 have hu:=h.mem u
 rw[ca,List.mem_cons]at hu
 by_cases e:u=v
 ·subst e;simp[h1.1]
 ·simp only[e,false_or,if_false]at hu⊢;exact hu
theorem jt.cons{a v:Nat}{o:List Nat}(hv:v∈bC n a)(h:jt n (au a v true) o):jt n a (v::o):=by
 have hm:=h.mem
 refine⟨List.nodup_cons.2 ⟨fun hx=>?_,h.nd⟩,fun u=>?_⟩
 ·have:=(hm v).1 hx
  rw[ca,ai,if_pos rfl]at this
  exact absurd this.2 (by simp)
 ·rw[List.mem_cons,hm,ca,ca,ai]
  rw[ca]at hv
  by_cases e:u=v
  ·subst e;simp[hv]
  ·simp[e]
theorem xh:∀(o:List Nat) (a:Nat),jt n a o→B n c a≤D3 c a o
 | [],a,h=>by rw[Cy h.nil];exact Nat.zero_le _
 |v::o,a,h=>by
  obtain⟨h1,h2⟩:=h.tail
  exact Nat.le_trans (Rf h1) (Nat.add_le_add_left (xh o _ h2) _)
theorem xV:∀(f a:Nat),(bC n a).length≤f→jt n a (ord n c f a)∧D3 c a (ord n c f a)=B n c a
 |0,a,h=>by
  have hm:bC n a=[]:=List.eq_nil_of_length_eq_zero (by omega)
  rw[ord,Cy hm]
  exact⟨⟨by simp,fun v=>by rw[hm]⟩,rfl⟩
 |f+1,a,h=>by
  by_cases hm:bC n a=[]
  ·have:ord n c (f+1) a=[]:=by rw[ord,hm];rfl
   rw[this,Cy hm]
   exact⟨⟨by simp,fun v=>by rw[hm]⟩,rfl⟩
  ·obtain⟨v,hv,he,_,ho⟩:=qp (c:=c) (f:=f) hm
   have:=e9 hv
   obtain⟨h1,h2⟩:=xV f (au a v true) (by omega)
   rw[ho]
   exact⟨h1.cons hv,by rw[D3,h2,he]⟩
theorem kN(n:Nat):bC n 0=List.range n:=by
 unfold bC;rw[List.filter_eq_self.2];simp
end af
namespace af
open Go.Sx
def I4(n:Nat)(l:Fs)(vs:List Nat):Fs:=vs.foldl (fun l v=>given n l v) l
theorem Hh(A k:Nat):has (k+1) A=has k A++(if A.testBit k then [k]else []):=by
 unfold has;rw[List.range_succ,List.filter_append];congr 1;rw[List.filter_cons];simp
theorem qb(n:Nat)(l:Fs)(a b:List Nat):I4 n l (a++b)=I4 n (I4 n l a) b:=List.foldl_append ..
theorem qd(n:Nat)(L:Fs)(A:Nat):∀k,st n L A k=I4 n (cY L) (has k A)
 |0=>rfl
 |k+1=>by
  rw[st,Hh,qb,←qd n L A k]
  split<;>rfl
def Sm(a b:Fs):Prop:=∀x,x∈a↔x∈b
theorem Sm.trans{a b c:Fs}(h:Sm a b)(h':Sm b c):Sm a c:=fun x=>(h x).trans (h' x)
theorem Sm.symm{a b:Fs}(h:Sm a b):Sm b a:=fun x=>(h x).symm
theorem Sm.refl(a:Fs):Sm a a:=fun _=>Iff.rfl
def AF(n:Nat)(l:Fs):Prop:=∀t∈l,bJ n t
variable {n:Nat}
theorem oZ{a b:Fs}(h:Sm a b)(v:Nat):Sm (given n a v) (given n b v):=fun x=>by
 rw[bu,bu]
 constructor
 ·rintro⟨t,ht,h'⟩;exact⟨t,(h t).1 ht,h'⟩
 ·rintro⟨t,ht,h'⟩;exact⟨t,(h t).2 ht,h'⟩
theorem Hu(hn:n≤16)(l:Fs)(v:Nat):AF n (given n l v):=fun t ht=>by
 obtain⟨u,_,b,rfl⟩:=bu.1 ht;exact bV hn
theorem wR{t:List Nat}{u v:Nat}{b c:Bool}(hf:bJ n t)(hu:u<n)(hv:v<n)(h:u≠v):c6 n (c6 n t u b) v c=c6 n (c6 n t v c) u b:=
 (bV hf.jR).ext (bV hf.jR) fun x hx=>by
  rw[dH (bV hf.jR) hv hx,dH hf hu (dF hx hv),dH (bV hf.jR) hu hx,dH hf hv (dF hx hu),dy (Ne.symm h)]
theorem yI{l:Fs}{u v:Nat}(hl:AF n l)(hu:u<n)(hv:v<n)(h:u≠v):Sm (given n (given n l u) v) (given n (given n l v) u):=fun x=>by
 rw[bu,bu]
 constructor
 ·rintro⟨t,ht,c,rfl⟩
  obtain⟨s,hs,b,rfl⟩:=bu.1 ht
  exact⟨c6 n s v c,bu.2 ⟨s,hs,c,rfl⟩,b,wR (hl s hs) hu hv h⟩
 ·rintro⟨t,ht,c,rfl⟩
  obtain⟨s,hs,b,rfl⟩:=bu.1 ht
  exact⟨c6 n s u c,bu.2 ⟨s,hs,c,rfl⟩,b,wR (hl s hs) hv hu (Ne.symm h)⟩
theorem sI:∀(vs:List Nat) {a b:Fs},Sm a b→Sm (I4 n a vs) (I4 n b vs)
 | [],_,_,h=>h
 |v::vs,_,_,h=>sI vs (oZ h v)
theorem FD(hn:n≤16){vs vs':List Nat}(hp:vs.Perm vs'):(∀v∈vs,v<n)→∀l,AF n l→Sm (I4 n l vs) (I4 n l vs'):=by
 induction hp with
 |nil=>exact fun _ l _=>Sm.refl _
 |cons v _ ih=>exact fun h l hl=>ih (fun u hu=>h u (by simp[hu])) _ (Hu hn l v)
 |swap x y r=>
  intro h l hl
  by_cases e:x=y
  ·subst e;exact Sm.refl _
  ·exact sI r (yI hl (h y (by simp)) (h x (by simp)) (Ne.symm e))
 |trans r9 _ WT WS=>exact fun h l hl=>(WT h l hl).trans (WS (fun v hv=>h v (r9.mem_iff.2 hv)) l hl)
theorem sH:∀(vs:List Nat) {l:Fs},l.Nodup→(I4 n l vs).Nodup
 | [],_,h=>h
 |v::vs,_,_=>sH vs (j3 _ _ _)
theorem CM{L:Fs}(h:AF n L):AF n (cY L):=fun t ht=>h t (bW.1 ht)
theorem xY{a b:Fs}(ha:a.Nodup)(hb:b.Nodup)(h:Sm a b)(v:Nat):(nodes n a v).length=(nodes n b v).length:=gz (dX ha hb h)
theorem tg(n a:Nat):(has n a).Nodup:=List.Pairwise.filter _ List.nodup_range
theorem Nl{a v:Nat}(h:v∈has n a):v<n:=(cX.1 h).1
theorem Hi{a v:Nat}(hv:v<n)(ha:a.testBit v=false):(has n (au a v true)).Perm (has n a++[v]):=by
 refine(List.perm_ext_iff_of_nodup (tg _ _) ?_).2 fun u=>?_
 ·rw[List.nodup_append]
  refine⟨tg _ _,by simp,fun x hx y hy=>?_⟩
  simp at hy;subst hy
  rintro rfl
  rw[(cX.1 hx).2]at ha;cases ha
 ·rw[cX,List.mem_append,List.mem_singleton,cX,ai]
  by_cases e:u=v
  ·subst e;simp[hv]
  ·simp[e]
theorem I7(hn:n≤16){L:Fs}(hL:AF n L){a v:Nat}(hv:v<n)(ha:a.testBit v=false):Sm (st n L (au a v true) n) (given n (st n L a n) v):=by
 rw[qd,qd]
 have h:=FD hn (Hi hv ha) (fun u hu=>Nl hu) _ (CM hL)
 rw[qb]at h
 exact h
variable {φ:List Nat→List Nat} {π:Nat→Nat}
def lay(n:Nat)(F:Nat→Nat):List Nat:=(List.range (wN n)).map fun i=>F i&&&bI n
def neg(n:Nat)(ws:List Nat):List Nat:=lay n fun i=>18446744073709551615-ws.getD i 0
end af
namespace aT
open af
section
variable {n:Nat} {ord:List Nat} {L:af.Fs}
theorem xN(a:Nat)(o:List Nat)(v:Nat):mr a (o++[v])=au (mr a o) v true:=by rw[u5];rfl
theorem HL(hn:n≤16)(hL:∀t∈L,bJ n t)(hp:ord.Perm (List.range n)):∀k,k≤n→Sm (cur n ord L k) (st n L (mr 0 (ord.take k)) n)
 |0,_=>by
  have e:st n L (mr 0 (ord.take 0)) n=cY L:=by
   rw[qd]
   have:has n (mr 0 (ord.take 0))=[]:=by
    show has n 0=[]
    rw[List.eq_nil_iff_forall_not_mem]
    intro v hv
    have:=(cX.1 hv).2
    rw[Nat.zero_testBit]at this;cases this
   rw[this];rfl
  rw[e];exact .refl _
 |k+1,hk=>by
  have sg:ord.length=n:=by rw[hp.length_eq,List.length_range]
  have fT:ord.Nodup:=hp.nodup_iff.2 List.nodup_range
  have hlt:k<ord.length:=by omega
  have hv:ord[k]<n:=List.mem_range.1 (hp.mem_iff.1 (List.getElem_mem hlt))
  have hg:ord.getD k 0=ord[k]:=by rw[List.getD_eq_getElem?_getD,List.getElem?_eq_getElem hlt];rfl
  have ht:ord.take (k+1)=ord.take k++[ord[k]]:=List.take_succ_eq_append_getElem hlt
  have hno:ord[k]∉ord.take k:=fun hm=>by
   have h2:(ord.take (k+1)).Nodup:=fT.sublist (List.take_sublist _ _)
   rw[ht]at h2
   exact(List.nodup_append.1 h2).2.2 _ hm _ (by simp) rfl
  have hb:(mr 0 (ord.take k)).testBit ord[k]=false:=by
   rw[mW,Nat.zero_testBit,decide_eq_false hno];rfl
  rw[ht,xN]
  refine Sm.trans ?_ (Sm.symm (I7 hn hL hv hb))
  rw[cur,hg]
  exact oZ (HL hn hL hp k (by omega)) _
theorem JB(hn:n≤16)(hL:∀t∈L,bJ n t)(hp:ord.Perm (List.range n)){k:Nat}(hk:k≤n)(v:Nat):(nodes n (cur n ord L k) v).length=lvl n L (mr 0 (ord.take k)) v:=by
 unfold lvl
 refine xY (kY k) ?_ (HL hn hL hp k hk) v
 rw[qd];exact sH _ (fX _)
theorem wO(hn:n≤16)(hL:∀t∈L,bJ n t)(hp:ord.Perm (List.range n)):∀k,k≤n→D3 (lvl n L) 0 (ord.take k)=bF n ord L k
 |0,_=>rfl
 |k+1,hk=>by
  have sg:ord.length=n:=by rw[hp.length_eq,List.length_range]
  have hlt:k<ord.length:=by omega
  have hg:ord.getD k 0=ord[k]:=by rw[List.getD_eq_getElem?_getD,List.getElem?_eq_getElem hlt];rfl
  rw[List.take_succ_eq_append_getElem hlt,q8,wO hn hL hp k (by omega),bF]
  congr 1
  unfold fK
  rw[JB hn hL hp (by omega),hg]
  simp[D3]
theorem tu(hn:n≤16)(hL:∀t∈L,bJ n t)(hp:ord.Perm (List.range n)):D3 (lvl n L) 0 ord=bF n ord L n:=by
 have sg:ord.length=n:=by rw[hp.length_eq,List.length_range]
 rw[←wO hn hL hp n (Nat.le_refl n),←sg,List.take_length]
theorem yj(hp:ord.Perm (List.range n)):jt n 0 ord:=⟨hp.nodup_iff.2 List.nodup_range,fun v=>by rw[kN];exact hp.mem_iff⟩
theorem xR(h:jt n 0 ord):ord.Perm (List.range n):=by
 refine(List.perm_ext_iff_of_nodup h.nd List.nodup_range).2 fun v=>?_
 rw[h.mem,kN]
theorem oD(c:Nat→Nat→Nat):(af.ord n c n 0).Perm (List.range n):=xR (xV n 0 (by rw[kN,List.length_range];exact Nat.le_refl n)).1
theorem oC(hn:n≤16)(hL:∀t∈L,bJ n t):bF n (af.ord n (lvl n L) n 0) L n=B n (lvl n L) 0:=by
 rw[←tu hn hL (oD _)]
 exact(xV n 0 (by rw[kN,List.length_range];exact Nat.le_refl n)).2
theorem KF(hn:n≤16)(hL:∀t∈L,bJ n t)(hp:ord.Perm (List.range n)):B n (lvl n L) 0≤bF n ord L n:=by
 rw[←tu hn hL hp]
 exact xh ord 0 (yj hp)
end
end aT
set_option maxRecDepth 100000
namespace Go.Proofs
open Go Go.Sx
open aT
section
variable {kp:Nat} {K:Kd} {S:Nat→aT.Fn} {ord tr:List Nat} {C:Hp}
theorem qe{n:Nat}{o:List Nat}:∀k,bF n o [] k=0:=by
  have hc:∀k,cur n o [] k=[]:=fun k=>by
    induction k with
    |zero=>rfl
    |succ k ih=>rw[cur,ih];rfl
  intro k
  induction k with
  |zero=>rfl
  |succ k ih=>rw[bF,ih];unfold fK;rw[hc];rfl
theorem xJ{B:Hp}{v:Value}{n:Nat}{f:aT.Fn}(h:fM B v n f):∃s ws,v=.agg #[.int .i64 (n:Int),s]∧Words B s ws∧af.bJ n ws∧dK n ws=f:=by
  obtain⟨ws,⟨s,rfl,hw⟩,hf,he⟩:=h
  exact⟨s,ws,rfl,hw,hf,he⟩
def Q4(kp:Nat)(K:Kd)(S:Nat→aT.Fn)(ord tr:List Nat)(v:Value)(H:Hp):Prop:=
  ∃L:af.Fs,(∀t∈L,af.bJ K.n t)∧K.held S=FT K.n L∧L.length≤1048576∧
   ((fQ K S ord=af.B K.n (af.lvl K.n L) 0∧v=.tuple #[.agg #[.int .i64 ((fQ K S ord:Nat):Int),.int .i64 ((fQ K S ord:Nat):Int),.int .i64 0,.bool true],.int .i64 0]∧At kp K S ord tr H)∨
    (fQ K S ord≠af.B K.n (af.lvl K.n L) 0∧∃o ls,o=af.ord K.n (af.lvl K.n L) K.n 0∧ls=path ord o∧
     (((rm K S).can ord ls=true∧v=.tuple #[.agg #[.int .i64 ((fQ K S ord:Nat):Int),.int .i64 ((fQ K S o:Nat):Int),.int .i64 ((ls.length:Nat):Int),.bool true],.int .i64 0]∧At kp K S o (tr++ls) H)∨
      ((rm K S).can ord ls=false∧v=.tuple #[.agg #[.int .i64 ((fQ K S ord:Nat):Int),.int .i64 ((fQ K S ord:Nat):Int),.int .i64 ((2*((rm K S).dJ 0 ls ord).length:Nat):Int),.bool false],.int .i64 0]∧At kp K S ord tr H))))
theorem Bt(h:At kp K S ord tr C)(hp:ord.Perm (List.range K.n))(hn:K.n≤12)(pz:tr.length<274877906944):
    Fc Tryz.prog 25 #[ptr kp] C (fun v H=>Q4 kp K S ord tr v H):=by
  have h0:=h
  obtain⟨K',S',eP,hK,hk⟩:=h
  have wj:=hk.n
  have GW:∀r,K'.hold r≠0→live K'.N r:=fun r hr=>(.inr (hK.ok.mid.held r hr))
  have hcap:=hK.ok.mid.cap
  have hle:=hK.kS
  have rT:(rts K').length≤1048576:=by
    obtain⟨b,_,hO⟩:=hK.rep
    have:=hO.ul
    have h2:=List.length_filter_le (fun r=>decide (0<K'.hold r)) (List.range K'.ho.length)
    rw[List.length_range]at h2
    show(List.filter _ _).length≤_
    omega
  have SZ:∀r,r∈rts K'↔K'.hold r≠0:=fun r=>by
    unfold rts
    rw[List.mem_filter,List.mem_range,decide_eq_true_iff]
    constructor
    · rintro⟨_,h⟩;omega
    · intro h
      refine⟨Classical.byContradiction fun h2=>h ?_,by omega⟩
      unfold Kd.hold
      rw[List.getD_eq_getElem?_getD,List.getElem?_eq_none (by omega)];rfl
  refine aX fun g=>EP ?_
  intro b1 _
  refine aa.aB (Br.no ?_)
  refine ae.eq (Ch h0) ?_
  refine aa.iR (b:=12) (Br.F ?_)
  refine ae.fq (Db hK) ?_
  rintro vr H ⟨NR,rfl,hR⟩
  have Nv:bL .u32 NR vr (iw (rts K')):=hR.ints
  refine hR.aM ?_
  rw[ah]
  refine⟨fun vs H=>∃(i:Nat) (s:Value) (L:af.Fs) (CS N:Hp),vs=[s,.int .i64 (i:Int)]∧i≤(rts K').length∧H=(b1,.cells #[.int .i64 0,.int .i64 0,.int .i64 0,.bool false] 42 (0,0))::(CS++(N++C))∧(∀x∈NR,x∈N)∧c9 57 s (cU K'.n L) CS N∧L.length=i∧(∀t∈L,af.bJ K'.n t)∧∀j t,L[j]? =some t→∃r,(rts K')[j]? =some r∧dK K'.n t=S' r,
    fun vs _=>(rts K').length-aV vs 1,JE.mk ⟨0,_,[],[],NR,rfl,Nat.zero_le _,rfl,fun _ h=>h,c9.nil,rfl,fun t ht=>absurd ht (List.not_mem_nil),fun j t (hj:([]:List (List Nat))[j]? =some t)=>absurd hj (by rw[List.getElem?_nil];exact nofun)⟩,?_⟩
  rintro UG Zq H ⟨i,s,L,CS,N,⟨⟩,hi,rfl,hN,hT,RY,DO,RX⟩ gs
  refine aa.dn (Br.dec (fun hlt=>?_) (fun hge=>?_))
  · refine Nv.ld (n:=(((rts K')[i]:Nat):Int)) (bT (List.getElem?_eq_getElem hlt)) (fun x hx=>.tail _ (List.mem_append_right _ (List.mem_append_left _ (hN x hx)))) ?_
    refine ae.fq (args:=#[ptr kp,u32 (rts K')[i]]) (D2 hK (by omega) (GW _ ((SZ _).1 (List.getElem_mem hlt)))) ?_
    rintro w H ⟨Nt,t,rfl,rfl,ht⟩
    obtain⟨sw,ws,rfl,hw,hf,he⟩:=xJ ht
    refine Ext.two ?_
    intro YG _
    refine St.p (cq (av hw)) ?_
    refine ax.q ?_
    refine dw fun R9=>?_
    have X5:c9 57 UG (cU K'.n L) CS (N++Nt):=hT.mono fun _ h=>List.mem_append_left _ h
    refine c9.app X5 (A:=[(R9,_),(YG,_),(b1,_)]) (B:=N++(Nt++C)) (t:=⟨(K'.n:Int),ws⟩) (by exact .head _) (hw.mono fun _ h=>List.mem_append_right _ h) (by rw[aI];omega) fun v' Fe Qq=>?_
    refine aa.inc ?_
    refine aq.of (.skip .tail) ⟨i+1,v',L++[ws],Fe,N++Nt,rfl,hlt,by rw[List.append_assoc];rfl,fun x hx=>List.mem_append_left _ (hN x hx),by unfold cU at Qq⊢;rw[List.map_append];exact Qq,by rw[List.length_append,RY];rfl,fun t ht=>?_,fun j t hj=>?_⟩ (by simp only[aV];omega)
    · rcases List.mem_append.1 ht with ht|ht
      · exact DO t ht
      · rw[List.mem_singleton.1 ht];exact hf
    · by_cases M4:j<L.length
      · rw[List.getElem?_append_left M4]at hj
        exact RX j t hj
      · rw[List.getElem?_append_right (by omega)]at hj
        have:j=i:=by
          have:=(List.getElem?_eq_some_iff.1 hj).1
          rw[List.length_singleton]at this;omega
        subst this
        rw[RY,Nat.sub_self]at hj
        simp at hj
        subst hj
        exact⟨_,List.getElem?_eq_getElem hlt,he⟩
  have hi':i=(rts K').length:=by omega
  subst hi'
  rw[wj]at hT DO RX
  have td:K.held S=FT K.n L:=by
    refine funext fun g=>propext ?_
    rw[←hk.held g]
    constructor
    · rintro⟨r,hr,rfl⟩
      obtain⟨j,hj,e⟩:=List.mem_iff_getElem.1 ((SZ r).2 hr)
      obtain⟨r2,jY,he⟩:=RX j L[j] (List.getElem?_eq_getElem (by omega))
      rw[List.getElem?_eq_getElem hj,e]at jY
      cases jY
      exact⟨L[j],List.getElem_mem _,he.symm⟩
    · rintro⟨t,ht,rfl⟩
      obtain⟨j,hj,e⟩:=List.mem_iff_getElem.1 ht
      obtain⟨r2,jY,he⟩:=RX j t (by rw[List.getElem?_eq_getElem hj,e])
      exact⟨r2,(SZ r2).1 (List.mem_of_getElem? jY),he⟩
  have hlt:=Jk hp
  have XB:fQ K S ord=bF K.n ord L K.n:=by
    unfold fQ;rw[td];exact Bz DO (by omega) hlt
  have Hr:L.length≤1048576:=by omega
  refine ae.eq (nN h0) ?_
  have X2:bH (CS++N) UG (cU K.n L):=hT.p7 (fun _ h=>List.mem_append_left _ h) (fun _ h=>List.mem_append_right _ h)
  rw[←List.append_assoc]
  refine ae.pq (Cg X2 (by rw[aI];omega)) ?_
  intro w NB hB
  obtain⟨so,Y,hY,rfl,hI⟩:∃so Y,NB++(CS++N)=Y∧w=.tuple #[.int .i64 ((af.B K.n (af.lvl K.n L) 0:Nat):Int),so,.int .i64 0]∧(L≠[]→bL .i64 Y so (iw (af.ord K.n (af.lvl K.n L) K.n 0))):=by
    have hO:jj (cU K.n L):=m9 DO
    rcases hB with⟨hno,_⟩|⟨_,n2,L2,e,hz,_,DG,hB⟩
    · exact absurd hO hno
    by_cases Nz:L=[]
    · subst Nz
      have Ye:L2=[]:=by cases L2 with
        |nil=>rfl
        |cons a b=>simp[cU]at e
      subst Ye
      obtain rfl:=hz rfl
      have B4:af.B K.n (af.lvl K.n []) 0=0:=by rw[←oC (by omega) (by simp)];exact qe _
      rcases hB with⟨h,_⟩|⟨_,s2,C2,N2,rfl,_,_⟩
      · omega
      exact⟨s2,_,rfl,by rw[B4];rfl,fun h=>absurd rfl h⟩
    · have JV:n2=K.n∧L2=L:=by
        cases L with
        |nil=>exact absurd rfl Nz
        |cons a b=>
          cases L2 with
          |nil=>simp[cU]at e
          |cons a2 b2=>
            simp only[cU,List.map_cons,List.cons.injEq,Tb.mk.injEq]at e
            obtain⟨⟨e1,e2⟩,e3⟩:=e
            have e1:n2=K.n:=by omega
            subst e1
            refine⟨rfl,?_⟩
            rw[e2]
            congr 1
            refine((List.map_inj_right (f:=fun ws=>(⟨(K.n:Int),ws⟩:Tb)) ?_).1 e3).symm
            intro x y WV
            simpa using WV
      obtain⟨rfl,rfl⟩:=JV
      rcases hB with⟨h,_⟩|⟨_,s2,C2,N2,rfl,hown,hH⟩
      · omega
      exact⟨s2,_,rfl,rfl,fun _=>by rw[hH];exact hown.ints.mono fun _ h=>List.mem_append_left _ h⟩
  rw[hY]
  clear hB
  refine Ext.mk rfl (Ext.mk rfl (Ext.mk rfl ?_))
  refine aa.jC (Br.dec (fun heq=>?_) (fun hne=>?_))
  · refine Build.mk (cs:=[.int .i64 ((fQ K S ord:Nat):Int),.int .i64 ((fQ K S ord:Nat):Int),.int .i64 0,.bool true]) (by kernel_rfl) ?_
    refine St.q ?_
    refine ax.q ?_
    exact bN.mk (.skip .right) ⟨L,DO,td,Hr,.inl ⟨heq,rfl,h0⟩⟩
  · have Nz:L≠[]:=fun e=>by
      subst e
      refine hne ?_
      rw[XB,←oC (by omega) (by simp),qe,qe]
    obtain⟨o,ho⟩:∃o,o=af.ord K.n (af.lvl K.n L) K.n 0:=⟨_,rfl⟩
    have hop:o.Perm (List.range K.n):=by rw[ho];exact oD _
    have VD:=hI Nz
    rw[←ho]at VD
    refine ae.fq (F6 h0 VD hp hop (by omega)) ?_
    rintro w H ⟨C2,rfl,hM⟩
    have IB:=(BG (hop.nodup_iff.2 List.nodup_range) (hp.trans hop.symm)).1
    rcases hM with⟨hc,rfl,hA⟩|⟨hc,rfl,hA⟩
    · rw[IB]at hA
      refine Ext.two ?_
      refine ae.eq (nN hA) ?_
      refine aa.j5 ?_
      rw[decide_eq_true rfl]
      refine Build.mk (cs:=[.int .i64 ((fQ K S ord:Nat):Int),.int .i64 ((fQ K S o:Nat):Int),.int .i64 (((path ord o).length:Nat):Int),.bool true]) (by kernel_rfl) ?_
      refine St.q ?_
      refine ax.q ?_
      exact bN.mk (.skip .right) ⟨L,DO,td,Hr,.inr ⟨hne,o,_,ho,rfl,.inl ⟨hc,rfl,hA⟩⟩⟩
    · refine Ext.two ?_
      refine ae.eq (nN hA) ?_
      refine aa.j5 ?_
      rw[decide_eq_false (by decide)]
      refine Build.mk (cs:=[.int .i64 ((fQ K S ord:Nat):Int),.int .i64 ((fQ K S ord:Nat):Int),.int .i64 ((2*((rm K S).dJ 0 (path ord o) ord).length:Nat):Int),.bool false]) (by kernel_rfl) ?_
      refine St.q ?_
      refine ax.q ?_
      exact bN.mk (.skip .right) ⟨L,DO,td,Hr,.inr ⟨hne,o,_,ho,rfl,.inr ⟨hc,rfl,hA⟩⟩⟩
end
end Go.Proofs
namespace aT
section
variable {m:Rm} {g:Nat}
theorem qn{p q:List Nat}(hq:q.Nodup)(hp:p.Perm q):∀i,i≤q.length→2*(de p q i).length+i*i≤i*(2*p.length-1)
 |0,_=>by simp[de]
 |i+1,hi=>by
  have:=qn hq hp i (by omega)
  obtain⟨_,_,h3⟩:=gx hq hp i (by omega)
  have hl:=hp.length_eq
  rw[de,List.length_append,uH]
  have h4:=(h3 (by omega)).2
  have e1:(i+1)*(i+1)=i*i+i+i+1:=by rw[Nat.succ_mul,Nat.mul_succ];omega
  have e2:(i+1)*(2*p.length-1)=i*(2*p.length-1)+(2*p.length-1):=Nat.succ_mul _ _
  rw[e1,e2]
  omega
theorem xS{p q:List Nat}{n:Nat}(hq:q.Nodup)(hp:p.Perm q)(hn:q.length=n):2*(path p q).length≤n*(n-1):=by
 have:=qn hq hp q.length (Nat.le_refl _)
 have hl:=hp.length_eq
 rw[hl,hn]at this
 unfold path
 rw[hn]
 cases n with
 |zero=>simpa using this
 |succ k=>
  rw[show 2*(k+1) -1=(k+1)+k by omega,Nat.mul_add (k+1) (k+1) k]at this
  show 2*(de p q (k+1)).length≤(k+1)*k
  omega
end
end aT
set_option maxRecDepth 100000
namespace Go.Proofs
open Go Go.Sx
open aT
section
variable {kp:Nat} {K:Kd} {S:Nat→aT.Fn} {ord tr:List Nat} {C:Hp}
def UB(kp:Nat)(K:Kd)(S:Nat→aT.Fn)(ord tr:List Nat)(v:Value)(H:Hp):Prop:=
 ∃(sw:Nat) (opt:Bool) (o KX:List Nat),v=.tuple #[.agg #[.int .i64 ((fQ K S ord:Nat):Int),.int .i64 ((fQ K S o:Nat):Int),.int .i64 ((sw:Nat):Int),.bool opt],.int .i64 0]∧At kp K S o KX H∧o.Perm (List.range K.n)∧KX.length≤tr.length+144∧fQ K S o≤fQ K S ord∧sw≤288∧
  ((opt=true∧(∀p:List Nat,p.Perm (List.range K.n)→fQ K S o≤fQ K S p)∧sw≤K.n*(K.n-1))∨(opt=false∧o=ord∧sw%2=0))∧((∀p:List Nat,p.Perm (List.range K.n)→fQ K S ord≤fQ K S p)→sw=0∧opt=true)
theorem OO{v:Value}{H:Hp}(h:Q4 kp K S ord tr v H)(hn:K.n≤12)(hp:ord.Perm (List.range K.n)):UB kp K S ord tr v H:=by
 obtain⟨L,DO,td,Hr,hQ⟩:=h
 have hk:∀p:List Nat,p.Perm (List.range K.n)→fQ K S p=bF K.n p L K.n:=fun p hp=>by
  unfold fQ;rw[td];exact Bz DO (by omega) (dj hp).2
 have hB:∀p:List Nat,p.Perm (List.range K.n)→af.B K.n (af.lvl K.n L) 0≤fQ K S p:=fun p hp=>by
  rw[hk p hp];exact KF (by omega) DO hp
 have RA:K.n*(K.n-1)≤12*11:=Nat.mul_le_mul hn (by omega)
 rcases hQ with⟨e,rfl,hA⟩|⟨hne,o,ls,ho,hls,hQ⟩
 ·exact⟨0,true,ord,tr,rfl,hA,hp,by omega,Nat.le_refl _,by omega,.inl ⟨rfl,fun p hp=>by rw[e];exact hB p hp,Nat.zero_le _⟩,fun _=>⟨rfl,rfl⟩⟩
 have hop:o.Perm (List.range K.n):=by rw[ho];exact oD _
 have Vb:fQ K S o=af.B K.n (af.lvl K.n L) 0:=by rw[hk o hop,ho];exact oC (by omega) DO
 have Th:o.Nodup:=hop.nodup_iff.2 List.nodup_range
 have sg:o.length=K.n:=by rw[hop.length_eq,List.length_range]
 have oU:=xS Th (hp.trans hop.symm) sg
 rw[←hls]at oU
 have no:∀{q:Prop},(∀p:List Nat,p.Perm (List.range K.n)→fQ K S ord≤fQ K S p)→q:=fun hl=>by
  have h1:=hl o hop
  have h2:=hB ord hp
  exact absurd (by omega) hne
 rcases hQ with⟨_,rfl,hA⟩|⟨Qd,rfl,hA⟩
 ·exact⟨ls.length,true,o,tr++ls,rfl,hA,hop,by simp;omega,by rw[Vb];exact hB ord hp,by omega,.inl ⟨rfl,fun p hp=>by rw[Vb];exact hB p hp,by omega⟩,no⟩
 ·have:=(rm K S).qQ 0 ls ord
  exact⟨2*((rm K S).dJ 0 ls ord).length,false,ord,tr,rfl,hA,hp,by omega,Nat.le_refl _,by omega,.inr ⟨rfl,rfl,by omega⟩,no⟩
end
end Go.Proofs
set_option maxRecDepth 100000
namespace Go.Proofs
open Go Go.Sx
open aT
section
variable {B:Hp} {v o:Value} {n:Nat} {L:List (List Nat)} {lo:List Int}
theorem vg(ht:bH B v (L.map fun ws=>⟨n,ws⟩))(hf:∀ws∈L,af.bJ n ws)(aU:L.length<1048576)(ho:bL .i64 B o lo)(hlo:lo.length≤70368744177664)(Ka:¬g6 lo∨(L≠[]∧lo.length≠n)∨16<lo.length):
  Rd Tryz.prog 99 #[v,o] B (fun r=>∃e:Int,r=.tuple #[.slice none 0 0,.int .i64 e]∧e≠0):=by
 refine aX fun g=>tG ?_
 refine ae.eq (iU ht (by simp;omega)) ?_
 rw[decide_eq_true (m9 hf)]
 refine Un.not (Br.no ?_)
 intro J hJ
 have bad:J [.bool true] B:=hJ _ _ fun gs=>Br.yes (bO.mk (.refl _) ⟨4,rfl,by decide⟩)
 have R8:16<lo.length→J [.bool false] B:=fun h=>by
  refine hJ _ _ fun gs=>Br.no ?_
  refine ho.aM ?_
  refine aa.iR (b:=16) ?_
  rw[decide_eq_true h]
  exact Br.yes (bO.mk (.refl _) ⟨6,rfl,by decide⟩)
 refine ht.aM ?_
 rw[List.length_map]
 refine aa.iR (b:=0) ?_
 by_cases hne:L=[]
 ·subst hne
  refine Split.xU rfl (ay.mk ?_)
  refine ae.rq (fw ho hlo) ?_
  rintro w (⟨rfl,h1,h2⟩|⟨rfl,h1,hl⟩|⟨rfl,hno⟩)
  ·exact aa.j5 (ay.mk (JE.mk (R8 (by rcases Ka with h|h|h<;>first|exact absurd h1 h|exact absurd rfl h.1|exact h))))
  ·exact aa.j5 (ay.mk (JE.mk (R8 (by omega))))
  ·exact aa.j5 (ay.mk (JE.mk bad))
 have hpos:0<L.length:=List.length_pos_iff.2 hne
 obtain⟨w0,nr⟩:∃w0,L[0]? =some w0:=⟨_,List.getElem?_eq_getElem hpos⟩
 rw[decide_eq_true hpos]
 refine Split.go rfl ?_
 refine ho.aM ?_
 refine ht.MB (i:=0) (t:=⟨n,w0⟩) (by rw[List.getElem?_map,nr];rfl) (fun _ h=>h) ?_
 refine aa.nU (ay.mk ?_)
 by_cases yp:lo.length=n
 ·rw[decide_eq_false (fun h=>h yp)]
  refine Split.go rfl ?_
  refine ae.rq (fw ho hlo) ?_
  rintro w (⟨rfl,h1,h2⟩|⟨rfl,h1,hl⟩|⟨rfl,hno⟩)
  ·exact aa.j5 (ay.mk (JE.mk (R8 (by rcases Ka with h|h|h<;>first|exact absurd h1 h|exact absurd yp h.2|exact h))))
  ·exact aa.j5 (ay.mk (JE.mk (R8 (by omega))))
  ·exact aa.j5 (ay.mk (JE.mk bad))
 ·rw[decide_eq_true yp]
  exact Split.xU rfl (ay.mk (JE.mk bad))
theorem FJ(ht:bH B v (cU n L))(hf:∀ws∈L,af.bJ n ws)(jb:n≤16)(aU:L.length<1048576)(ho:bL .i64 B o lo)(hlo:lo.length≤70368744177664):
  Px Tryz.prog 38 #[v,o] B (fun r H=>∃s e:Int,r=.tuple #[.int .i64 s,.int .i64 e]∧(e=0→L≠[]→∃p:List Nat,lo=iw p∧p.Perm (List.range n)∧s=((bF n p L n:Nat):Int))):=by
 by_cases v9:g6 lo∧(L=[]∨lo.length=n)∧lo.length≤16
 ·obtain⟨hA,hl,Yp⟩:=v9
  obtain⟨p,rfl,hp⟩:=Eb hA
  rw[ah]at hl Yp hp
  have key:∀m,cU m L=cU n L→(∀ws∈L,af.bJ m ws)→p.length=m→Px Tryz.prog 38 #[v,o] B (fun r H=>∃s e:Int,r=.tuple #[.int .i64 s,.int .i64 e]∧(e=0→L≠[]→∃q:List Nat,iw p=iw q∧q.Perm (List.range n)∧s=((bF n q L n:Nat):Int))):=fun m hm XK N9=>by
   refine(I9 (n:=m) (ord:=p) (L:=L) (by rw[←hm]at ht;exact ht) XK (by omega) aU ho N9 hA).mono ?_
   rintro r H ⟨hg,rfl⟩
   refine⟨hg,_,_,rfl,fun _ hne=>?_⟩
   rcases hl with h|h
   ·exact absurd h hne
   ·have:m=n:=by omega
    subst this
    exact⟨p,rfl,by rw[←h];exact hp,rfl⟩
  rcases hl with rfl|h
  ·exact key p.length rfl (fun _ h=>absurd h (List.not_mem_nil)) rfl
  ·exact key n rfl hf h
 ·refine aX fun g=>tJ ?_
  refine ae.rq (vg ht hf aU ho hlo ?_) ?_
  ·by_cases h1:g6 lo
   ·by_cases h2:16<lo.length
    ·exact .inr (.inr h2)
    ·refine .inr (.inl ?_)
     by_cases h3:L=[]
     ·exact absurd ⟨h1,.inl h3,by omega⟩ v9
     ·exact⟨h3,fun h4=>v9 ⟨h1,.inr h4,by omega⟩⟩
   ·exact .inl h1
  rintro w ⟨e,rfl,he⟩
  refine Ext.two ?_
  refine az.mk ?_
  refine⟨fun vs H=>vs=[.int .i64 0,.int .i64 0]∧H=B,fun _ _=>0,JE.mk ⟨rfl,rfl⟩,?_⟩
  rintro OA Oz H ⟨⟨⟩,rfl⟩ gs
  refine aa.lss ?_
  refine Br.dec (fun h=>absurd h (by simp)) (fun _=>?_)
  exact js.mk (.refl _) ⟨_,e,rfl,fun h=>absurd h he⟩
end
theorem B7{ord:List Nat}{F F':aT.Fn→Prop}(h:∀g,F g→F' g):∀(l:Nat) (g:aT.Fn),fs ord F l g→fs ord F' l g
 |0,g,hg=>h g hg
 |l+1,g,⟨f,hf,b,e⟩=>⟨f,B7 h l f hf,b,e⟩
section
variable {n c:Nat} {ord tr:List Nat} {Y:Hp} {kp mp:Nat} {vr vt:Value} {K:Kd} {S:Nat→aT.Fn} {M:Md} {refs:List Nat} {ts:af.Fs} {HM CR CS:Hp}
theorem Sc.Sj(h:Sc n c ord tr Y kp mp vr vt K S M refs ts HM CR CS):∀t∈ts,af.bJ n t:=fun t ht=>by
 obtain⟨i,hi⟩:=List.mem_iff_getElem?.1 ht
 have kT:=(List.getElem?_eq_some_iff.1 hi).1
 exact(h.each i refs[i]! t (by rw[List.getElem!_eq_getElem?_getD,List.getElem?_eq_getElem (by rw[h.len];exact kT)];rfl) hi).1
theorem Sc.least(h:Sc n c ord tr Y kp mp vr vt K S M refs ts HM CR CS)(hn:n≤8){p:List Nat}(hp:p.Perm (List.range n)):fQ K S p≤bF n p ts n:=by
 have hf:∀t∈M.held.map Prod.fst,af.bJ n t:=fun t ht=>by
  obtain⟨e,he,rfl⟩:=List.mem_map.1 ht
  rw[←h.kn];exact h.x5.jy e he
 unfold fQ
 rw[h.x5.yA,h.kn,Bz hf (by omega) (dj hp).2]
 refine(uG hf (by omega) (dj hp).2).le (uG h.Sj (by omega) (dj hp).2) fun g=>?_
 rintro⟨l,hl,h1,h2⟩
 refine⟨l,hl,B7 (fun f hf=>?_) l g h1,h2⟩
 obtain⟨t,ht,rfl⟩:=hf
 obtain⟨e,he,rfl⟩:=List.mem_map.1 ht
 exact⟨e.1,h.hin e he,rfl⟩
theorem Jd{K':Kd}{S':Nat→aT.Fn}{o eP KX:List Nat}{C:Hp}(h:Sc n c ord tr Y kp mp vr vt K S M refs ts HM CR CS)(hK:gM kp K' S' o eP KX C)(hn:K'.n=K.n)(hh:∀s,K'.hold s=K.hold s)(hf:∀s,K.hold s≠0→S' s=S s){i r:Nat}{t:List Nat}(hr:refs[i]? =some r)(ht:ts[i]? =some t):live K'.N r∧S' r=dK n t:=by
 obtain⟨_,e2,e3⟩:=h.each i r t hr ht
 rcases e3 with e3|e3
 ·refine⟨.inl e3.1,?_⟩
  rw[e2,e3.2]
  have i1:=hK.ok.mid.int
  have:r=0∨r=1:=by omega
  funext x
  rcases this with rfl|rfl
  ·exact i1.zero x
  ·exact i1.one x
 ·exact⟨.inr (hK.ok.mid.held r (by rw[hh];exact e3)),by rw[e2,hf r e3]⟩
end
section
variable {B:Hp} {n c:Int} {vl vv vo:Value} {Sk:List Tb} {vD lo:List Int}
theorem xM(R1:(B.map Prod.fst).Nodup)(Nz:bH B vl Sk)(Pg:bL .i64 B vv vD)(JT:bL .i64 B vo lo)(hlo:lo.length≤17592186043904):
  Rd Tryz.prog 6 #[.agg #[.int .i64 n,.int .i64 c,vl,vv],vo] B (· =.bool true):=by
 refine aX fun g=>Il ?_
 intro b1 _
 obtain⟨c1,yC⟩:∃c1:Nat×Obj,c1=(b1,Obj.cells (Value.cells (.agg #[.int .i64 n,.int .i64 c,vl,vv])) 62 (0,0)):=⟨_,rfl⟩
 rw[←yC]
 refine ae.pq (H6 B) ?_
 rintro w N0 rfl
 refine Un.not (Br.no ?_)
 have hL:bH (N0++B) vl Sk:=Nz.mono fun _ h=>List.mem_append_right _ h
 have hv:bL .i64 (N0++B) vv vD:=Pg.mono fun _ h=>List.mem_append_right _ h
 have ho:bL .i64 (N0++B) vo lo:=JT.mono fun _ h=>List.mem_append_right _ h
 have R2:∀x∈B,x∈N0++B:=fun _ h=>List.mem_append_right _ h
 generalize N0++B=Y at*
 clear Nz Pg JT
 refine ax.q (r:=[.int .i64 n,.int .i64 c,vl,vv]) ?_ (by rw[yC];exact .head _)
 refine ae.rq (NF hL hv) ?_
 intro w hw
 rcases hw with rfl|⟨rfl,m,k,L,rfl,rfl,hm,hk,rfl,DO,RY,hvl⟩
 ·refine Un.not (dI.or (a:=true) true (fun h=>absurd h (by decide)) rfl fun gs=>?_)
  exact Br.yes (bO.mk (.sub R1 fun x hx=>.tail _ (R2 x hx)) rfl)
 refine Un.not (dI.or (a:=false) (decide (12<L.length)) (fun h=>?_) rfl fun gs=>?_)
 ·refine Ld.u (v:=vl) (by rw[yC];exact .head _) ?_
  refine hL.aM ?_
  rw[aI]
  exact aa.iR (b:=12) ⟨rfl,rfl⟩
 refine Br.dec (fun Kp=>?_) (fun Kp=>?_)
 ·exact bO.mk (.sub R1 fun x hx=>.tail _ (R2 x hx)) rfl
 refine ax.q (r:=[.int .i64 (m:Int),.int .i64 (k:Int),vl,vv]) ?_ (by rw[yC];exact .head _)
 refine ae.fq (yZ hm hk hL DO RY hv hvl) ?_
 rintro w H ⟨pp,kp,mp,vr,vt,K,S,ord,tr,M,refs,ts,HM,CR,CS,C,rfl,rfl,hsc,hA,hp,pz⟩
 have wj:=hsc.kn
 have U7:ord.Perm (List.range K.n):=by rw[wj];exact hp
 refine Ext.two ?_
 refine Un.not (Br.no ?_)
 refine Ld.n ?_
 refine ae.fq (rA hA) ?_
 rintro Wt C0 ⟨N,rfl,Dz⟩
 refine Ld.n ?_
 refine ae.eq (nN hA) ?_
 refine Ld.n ?_
 refine ae.fq (Bt hA U7 (by omega) (by omega)) ?_
 intro w C2 hQ
 obtain⟨sw,opt,o,KX,rfl,LX,IB,MM,hle,MO,Tg,_⟩:=OO hQ (by omega) U7
 refine Ext.two ?_
 intro VY _
 refine St.q ?_
 obtain⟨R7,Nk⟩:∃c:Nat×Obj,c=(VY,Obj.cells (List.toArray [.int .i64 ((fQ K S ord:Nat):Int),.int .i64 ((fQ K S o:Nat):Int),.int .i64 ((sw:Nat):Int),.bool opt]) 42 (0,0)):=⟨_,rfl⟩
 rw[←Nk]
 obtain⟨Z,Vu,LZ,h1,Lo,TR,VC,Rv,SG⟩:∃Z:Hp,R7::c1::fp pp kp mp vr vt::(CR++(CS++(HM++(N++C2))))=Z++C2∧R7∈Z∧c1∈Z∧fp pp kp mp vr vt∈Z∧(∀x∈Y,x∈Z)∧(∀x∈N,x∈Z)∧bL .u32 Z vr (iw refs)∧bH Z vt (cU m ts):=by
  have Vv:∀x∈Y,x∈R7::c1::fp pp kp mp vr vt::(CR++(CS++(HM++N))):=fun x hx=>.tail _ (.tail _ (.tail _ (List.mem_append_right _ (List.mem_append_right _ (List.mem_append_left _ (hsc.md.sub _ hx))))))
  refine⟨R7::c1::fp pp kp mp vr vt::(CR++(CS++(HM++N))),by simp,.head _,.tail _ (.head _),.tail _ (.tail _ (.head _)),Vv,fun x hx=>.tail _ (.tail _ (.tail _ (List.mem_append_right _ (List.mem_append_right _ (List.mem_append_right _ hx))))),?_,?_⟩
  ·exact hsc.rf.ints.mono fun x hx=>.tail _ (.tail _ (.tail _ (List.mem_append_left _ hx)))
  ·exact hsc.tw.p7 (fun x hx=>.tail _ (.tail _ (.tail _ (List.mem_append_right _ (List.mem_append_left _ hx))))) Vv
 rw[Vu]
 rw[Nk]at LZ
 rw[yC]at h1
 have Xr:bL .i64 Z vo lo:=ho.mono TR
 have Va:bL .i64 Z Wt (iw ord):=Dz.ints.mono VC
 have VM:∀x∈B,x∈Z:=fun x hx=>TR x (R2 x hx)
 have sg:ord.length=m:=by rw[hp.length_eq,List.length_range]
 have hs0:=rz hA
 have r8:=rz LX
 clear Vu Nk yC Dz hQ hL hv ho TR VC R2
 intro J hJ
 have good:J [.bool false] (Z++C2):=by
  refine hJ _ _ fun gs=>Br.no ?_
  refine Ld.v (by exact List.mem_append_left _ Lo) ?_
  refine Rv.aM ?_
  rw[ah]
  obtain⟨K',S',eP,hK,hk'⟩:=LX
  have LX:At kp K S o KX C2:=⟨K',S',eP,hK,hk'⟩
  have NC:K'.n=m:=hk'.n.trans wj
  refine⟨fun vs H=>∃i:Nat,vs=[.int .i64 (i:Int)]∧i≤refs.length∧H=Z++C2,fun vs _=>refs.length-aV vs 0,JE.mk ⟨0,rfl,Nat.zero_le _,rfl⟩,?_⟩
  rintro Zh H ⟨i,⟨⟩,hi,rfl⟩ gs
  have rT:=hsc.rl
  refine aa.dn (Br.dec (fun hlt=>?_) (fun hge=>?_))
  ·have qH:refs[i]? =some refs[i]:=List.getElem?_eq_getElem hlt
   have IA:ts[i]? =some (ts[i]'(by rw[←hsc.len];exact hlt)):=List.getElem?_eq_getElem _
   generalize (ts[i]'(by rw[←hsc.len];exact hlt))=t at*
   generalize refs[i]=r at*
   have E5:=(hsc.each i r t qH IA).1
   obtain⟨GW,hS⟩:=Jd hsc hK hk'.n hk'.hold hk'.fn qH IA
   refine Rv.ld (n:=((r:Nat):Int)) (by rw[bT qH]) (fun _ h=>List.mem_append_left _ h) ?_
   refine DR.self ?_
   refine Ld.v (by exact List.mem_append_left _ Lo) ?_
   refine Ld.u (by exact List.mem_append_left _ h1) ?_
   intro Y9
   refine ae.pq (B:=Z++C2) (args:=#[ptr kp,.int .i64 (m:Int),u32 r]) (by rw[←NC];exact sJ hK (by omega) GW Z) ?_
   rintro v N3 ⟨_,ws,rfl,⟨s,rfl,Ix⟩,PZ,RI⟩
   rw[NC]at PZ RI
   have SD:ws=t:=je PZ E5 (by rw[RI,hS])
   subst SD
   rw[NC]
   have hos:=av Ix
   refine⟨.right,?_⟩
   refine Ext.two ?_
   intro YD _ F71
   refine St.p (by simpa[Value.oneCell']using hos) ?_
   refine⟨.skip .right,?_⟩
   intro YS T5
   have Up:YS [.bool false] ((YD,.cells (List.toArray [.int .i64 (m:Int),s]) 57 (0,0))::(N3++(Z++C2))):=by
    refine T5 _ _ fun gs=>Br.no ?_
    refine aa.inc ?_
    exact aq.of (.skip .right) ⟨i+1,rfl,hlt,rfl⟩ (by simp only[aV];omega)
   refine DR.self ?_
   refine Un.not (Br.no ?_)
   refine ax.q ?_
   refine Ld.v (by exact .tail _ (List.mem_append_right _ (List.mem_append_left _ Lo))) ?_
   refine SG.ld (iT IA) (fun _ h=>.tail _ (List.mem_append_right _ (List.mem_append_left _ h))) fun s2 kR=>?_
   intro F86
   have yp:=df PZ
   refine ae.eq (fY (v1:=.agg (List.toArray [.int .i64 (m:Int),s])) (v2:=.agg #[.int .i64 (m:Int),s2]) (a:=⟨m,ws⟩) (b:=⟨m,ws⟩) ⟨s,rfl,Ix.mono fun _ h=>.tail _ h⟩ ⟨s2,rfl,kR.mono fun _ h=>.tail _ (List.mem_append_right _ (List.mem_append_left _ h))⟩ (by simp only;omega)) ?_
   rw[decide_eq_true rfl]
   exact Un.not (ay.mk (JE.mk Up))
  ·have P2:KN (cU m ts):=by
    have hl:=hsc.len
    refine⟨by rw[aI];omega,fun t ht=>?_⟩
    obtain⟨u,hu,rfl⟩:=List.mem_map.1 ht
    have:=df (hsc.Sj u hu)
    simp only;omega
   have IC:m*(m-1)≤8*7:=Nat.mul_le_mul hm.2 (by omega)
   refine Ld.u (by exact List.mem_append_left _ LZ) ?_
   rcases Tg with⟨rfl,hmin,SS⟩|⟨rfl,rfl,RJ⟩
   ·refine Un.not (Br.no ?_)
    refine Ld.v (by exact List.mem_append_left _ Lo) ?_
    refine ae.fq (Bt LX IB (by omega) (by omega)) ?_
    intro w C3 X8
    obtain⟨Zy,WD,o2,Zx,rfl,ZW,Td,_,XA,_,_,hst⟩:=OO X8 (by omega) IB
    obtain⟨rfl,rfl⟩:=hst hmin
    have Xz:=hmin o2 Td
    have hee:fQ K S o2=fQ K S o:=by omega
    rw[hee]
    refine Ext.two ?_
    intro YJ _
    refine St.q ?_
    refine aa.gA ?_
    rw[decide_eq_false (by simp)]
    have Ko:∀(x:Nat×Obj),(VY,Obj.cells (List.toArray [.int .i64 ((fQ K S ord:Nat):Int),.int .i64 ((fQ K S o:Nat):Int),.int .i64 ((sw:Nat):Int),.bool true]) 42 (0,0))∈x::(Z++C3):=fun x=>.tail _ (List.mem_append_left _ LZ)
    have rV:∀(x:Nat×Obj),(b1,Obj.cells (Value.cells (.agg #[.int .i64 (m:Int),.int .i64 (k:Int),vl,vv])) 62 (0,0))∈x::(Z++C3):=fun x=>.tail _ (List.mem_append_left _ h1)
    refine dI.or (a:=false) false (fun _=>?_) rfl fun gs=>?_
    ·refine Ld.f ?_
     exact aa.gA ⟨rfl,rfl⟩
    refine dI.or (a:=false) false (fun _=>?_) rfl fun gs=>?_
    ·refine Ld.f ?_
     exact Un.not ⟨rfl,rfl⟩
    refine dI.or (a:=false) false (fun _=>?_) rfl fun gs=>?_
    ·refine Ld.f ?_
     refine Ld.u (Ko _) ?_
     exact aa.nU ⟨rfl,by simp⟩
    refine dI.or (a:=false) false (fun _=>?_) rfl fun gs=>?_
    ·refine Ld.f ?_
     refine Ld.u (Ko _) ?_
     exact aa.nU ⟨rfl,by simp⟩
    refine dI.or (a:=false) false (fun _=>?_) rfl fun gs=>?_
    ·refine Ld.u (Ko _) ?_
     refine Ld.u (rV _) ?_
     refine Ld.u (rV _) ?_
     refine aa.bS (b:=1) ?_
     refine aa.ud ?_
     refine aa.iR ⟨rfl,?_⟩
     rw[decide_eq_false (by rw[wj]at SS;omega)]
    refine Br.no ?_
    refine Ld.v (by exact .tail _ (List.mem_append_left _ Lo)) ?_
    refine ae.pq (Ft (SG.mono fun _ h=>.tail _ (List.mem_append_left _ h)) P2) ?_
    intro Sh N5 QN
    have hx:∀{X:Hp} {q:Nat×Obj},bH (N5++X) Sh (cU m ts)→(∀y∈Z,y∈X)→bL .i64 (q::(N5++X)) vo lo:=fun _ h=>Xr.mono fun _ hy=>.tail _ (List.mem_append_right _ (h _ hy))
    refine an.none (z:=.int .i64 0) (e:=3) (k:=1) (by kernel_rfl) (by kernel_rfl) (by kernel_rfl) fun Uy=>?_
    refine(aK.made (T:=3) (kd:=.i64) (b:=Uy) []).l8 (l:=[]) (l2:=lo) (bytes:=8) .left (hx QN fun y hy=>.tail _ (List.mem_append_left _ hy)) (by simp only[List.length_nil,Nat.zero_add];omega) (by simp only[List.length_nil,Nat.zero_add];omega) fun Sg C7 Um=>?_
    have QM:bL .i64 C7 Sg lo:=by have:=Um.ints;simpa using this
    refine ae.pq (FJ (n:=m) (L:=ts) (lo:=lo) (bH.mono QN fun _ h=>List.mem_append_right _ h) hsc.Sj (by omega) (by have:=hsc.len;omega) (QM.mono fun _ h=>List.mem_append_left _ h) (by omega)) ?_
    rintro w N8 ⟨s,e,rfl,SV⟩
    refine Ext.two ?_
    refine aa.gA ?_
    refine dI.or (decide (ts.length=0)) (fun _=>?_) rfl fun gs=>?_
    ·refine Ld.v (by exact List.mem_append_right _ (List.mem_append_right _ (List.mem_append_right _ (.tail _ (List.mem_append_left _ Lo))))) ?_
     refine SG.aM ?_
     rw[aI]
     exact aa.jC (b:=0) ⟨rfl,rfl⟩
    refine dI.or (decide (((fQ K S o:Nat):Int)≤s)) (fun _=>?_) rfl fun gs=>?_
    ·refine Ld.u (by exact List.mem_append_right _ (List.mem_append_right _ (List.mem_append_right _ (Ko _)))) ?_
     exact aa.geq ⟨rfl,rfl⟩
    refine bO.mk (.sub R1 fun x hx=>List.mem_append_right _ (List.mem_append_right _ (List.mem_append_right _ (.tail _ (List.mem_append_left _ (VM x hx)))))) ?_
    congr 1
    by_cases he:e=0
    ·by_cases EZ:ts=[]
     ·rw[EZ];simp
     ·obtain⟨p,_,N7,rfl⟩:=SV he EZ
      have h1:=hmin p (by rw[wj];exact N7)
      have h2:=hsc.least (by omega) N7
      rw[decide_eq_true (show((fQ K S o:Nat):Int)≤((bF m p ts m:Nat):Int)by omega)];simp
    ·rw[decide_eq_true he];simp
   ·refine Un.not (Br.yes ?_)
    refine Ld.v (by exact List.mem_append_left _ Lo) ?_
    refine ae.fq (rA LX) ?_
    rintro Zw C4 ⟨N4,rfl,Xs⟩
    refine ae.eq (sW (B:=Z++(N4++C2)) (Xs.ints.mono fun _ h=>List.mem_append_right _ (List.mem_append_left _ h)) (Va.mono fun _ h=>List.mem_append_left _ h) (by rw[ah];omega)) ?_
    rw[decide_eq_true rfl]
    refine dI.and (a:=true) true (fun _=>?_) rfl fun gs=>?_
    ·refine Ld.u (by exact List.mem_append_left _ LZ) ?_
     exact aa.jC ⟨rfl,by simp⟩
    refine dI.and (a:=true) true (fun _=>?_) rfl fun gs=>?_
    ·refine Ld.u (by exact List.mem_append_left _ LZ) ?_
     refine aa.OS (b:=2) (by decide) ?_
     exact aa.jC (b:=0) ⟨rfl,by simp;omega⟩
    exact bO.mk (.sub R1 fun x hx=>List.mem_append_left _ (VM x hx)) rfl
 refine DR.self ?_
 refine aa.gA (Br.F ?_)
 refine Ld.u (by exact List.mem_append_left _ LZ) ?_
 refine aa.nU (ay.mk (Br.OW (by simp) ?_))
 refine Ld.u (by exact List.mem_append_left _ LZ) ?_
 refine Ld.v (by exact List.mem_append_left _ Lo) ?_
 intro F
 refine ae.eq (nN LX) ?_
 refine⟨.refl _,?_⟩
 refine aa.nU (ay.mk (Br.OW (by simp) ?_))
 refine Ld.u (by exact List.mem_append_left _ LZ) ?_
 refine aa.iR (ay.mk (Br.OW (by simp;omega) ?_))
 refine Va.aM ?_
 rw[ah,sg]
 refine Ld.u (by exact List.mem_append_left _ h1) ?_
 refine aa.nU (ay.mk ?_)
 rw[decide_eq_false (fun h=>h rfl)]
 exact JE.mk good
end
end Go.Proofs
set_option maxRecDepth 100000
namespace Go.Proofs
open Go Go.Sx
section
open Go.ChangeShapes Go.WideShapes Go.Deep
variable {H:Type} {enc:TypeId×Value→H} {W:World} {base:Nat} {spare:Nat→Bool} {held:Bool}
theorem JA{v:Value}{d:DataW H}{ps:List MemPlace}(h:DataW.Trod enc Tryz.prog W base spare held 25 v d ps)(hv:∃a n c,v=.slice a n c):
  ∃l,bL .i64 (whole W) v l∧(∀x∈l, -9223372036854775808≤x∧x≤9223372036854775807)∧((∀n∈d.weights Tryz.prog 25,n≤reachBytes)→l.length*8≤140737488351232):=by
 obtain⟨fuel,hf⟩:=h
 have k3:Tryz.prog.cellsOf 3=1:=by kernel_rfl
 obtain⟨v',l,hcs,hi,hwf,hw⟩:=n3 Tryz.underlying25 Tryz.underlying3 k3 hf
 have Iz:v'=v:=by
  obtain⟨a,n,c,rfl⟩:=hv
  simpa[Value.cells]using hcs.symm
 subst Iz
 refine⟨l,hi,fun x hx=>bounds_i64 (hwf x hx),fun aA=>?_⟩
 rcases hw with⟨h1,_⟩|⟨es,sp,h1,h2⟩
 ·subst h1;simp
 ·simp only at h1
  have:=aA ((es.length+sp.length)*Tryz.prog.bytesOf 3) (by rw[h1,DataW.weights,Tryz.underlying25];exact List.mem_cons_self ..)
  rw[show Tryz.prog.bytesOf 3=8 by kernel_rfl]at this
  have h3:reachBytes=140737488351232:=rfl
  omega
end
end Go.Proofs
