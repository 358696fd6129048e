import Derived.Test.YtfgkdmbicjdeoaaGreatW4
import Derived.Test.YtfgkdmbicjdeoaaGreatW1
import Derived.Test.YtfgkdmbicjdeoaaGreatW3
import Derived.Test.YtfgkdmbicjdeoaaGreatW2
set_option linter.unusedVariables false
set_option linter.unusedSimpArgs false
set_option linter.unusedSectionVars false
set_option maxRecDepth 100000
namespace Go.Proofs
open Go Go.Sx
open Gr
theorem xf{h:Value}{l:List It}{f:Int→Option Nat}{C:Hp}(ho:JF h l f C){i:Nat}(hi:i<l.length)(aV:l.length<4611686018427387904)(hu:Mg l.length (aZ l) i)(hc:iC l f i)(hO:eH l):
  Fc Tryz.prog 160 #[h,.int .i64 (i:Int)] C (fun v C'=>v=.tuple #[]∧∃l' f',JF h l' f' C'∧l'.Perm l∧Cons l' f'∧Ord l'.length (aZ l')):=by
 obtain⟨bh,la,mb,aD,Cm,rfl,rfl,aB,hm⟩:=ho.open (by omega)
 obtain⟨n,hn⟩:∃n,n=l.length:=⟨_,rfl⟩
 obtain⟨a,ha⟩:∃a,a=aZ l i:=⟨_,rfl⟩
 refine aW fun g=>BB ?_
 (repeat (first|refine Nil.ptr ?_|refine ag.mk ?_|refine Ld.mk zM rfl ?_|refine aA.mk ?_|refine aa.eql ?_|refine aa.neq ?_|refine aa.lss ?_|refine aa.leq ?_|refine aa.gtr ?_|refine aa.geq ?_|refine Un.not ?_|refine Ext.mk rfl ?_|refine ay.mk ?_|refine aa.aC ?_|refine aa.aR ?_|refine aa.aQ ?_|refine Br.yes ?_|refine Br.no ?_))
 refine aj.nat hi ?_
 refine av.row (l:=c9 .i64 l++aD) zM aB (dB hi aD) ?_
 intro b6 _
 refine St.p (lP _ _) ?_
 rw[←ha]
 refine⟨fun vs H=>∃(j:Nat) (L:List It) (f:Int→Option Nat) (C:Hp),vs=[.int .i64 (j:Int)]∧H=(b6,Obj.cells (enc .i64 a).toArray 233 (0,0))::C∧JF (.pointer (some ⟨bh,0,none⟩)) L f C∧L.length=n∧j<n∧
   (L.set j a).Perm l∧Mg n (aZ (L.set j a)) j∧iC (L.set j a) f j,
  fun vs _=>n-aT vs 0,.mk ⟨i,l,f,_,rfl,rfl,ho,hn.symm,by omega,?_,?_,?_⟩,?_⟩
 ·exact(by rw[ha,mN hi])
 ·rw[ha,mN hi,hn];exact hu
 ·rw[ha,mN hi];exact hc
 rintro w H ⟨j,L,f,C,hw,rfl,ho,RL,hj,hp,hu,hc⟩ gs
 simp only[List.cons.injEq,and_true]at hw
 subst hw
 have Pk:=ho
 obtain⟨W6,la,mb,aD,Cm,M3,rfl,aB,hm⟩:=ho.open (by omega)
 simp only[Value.pointer.injEq,Option.some.injEq,Addr.mk.injEq,and_true]at M3
 subst M3
 have RI:eH (L.set j a):=hO.perm hp
 have Pn:(L.set j a).length=n:=by simp[RL]
 have M9:aZ (L.set j a) j=a:=by rw[eu a (by omega)];simp[e9]
 have Ry:∀c,c≠j→aZ (L.set j a) c=aZ L c:=fun c h0=>by rw[eu a (by omega)];simp[e9,h0]
 refine aa.P9 (c:=((2*j:Nat):Int)) (by omega) (by omega) ?_
 refine aa.Dq (c:=((2*j+1:Nat):Int)) (by omega) (by omega) ?_
 intro J hJ
 obtain⟨c,hcd⟩:∃c,c=tK n (aZ (L.set j a)) j:=⟨_,rfl⟩
 have hkc:=oL n (aZ (L.set j a)) j
 rw[←hcd]at hkc
 have gg:J [.int .i64 (c:Int)] ((b6,Obj.cells (enc .i64 a).toArray 233 (0,0))::(bh,Obj.cells #[.slice (some ⟨la,0,none⟩) L.length (L.length+aD.length),.map (some mb)] 231 (0,0))::(la,.cells (rows (c9 .i64 L++aD)) 233 (0,0))::Cm):=by
  refine hJ _ _ fun gs2=>?_
  intro J2 yx
  have hstop:n≤c∨prec (aZ L c) a=false→J2 [.bool true] ((b6,Obj.cells (enc .i64 a).toArray 233 (0,0))::(bh,Obj.cells #[.slice (some ⟨la,0,none⟩) L.length (L.length+aD.length),.map (some mb)] 231 (0,0))::(la,.cells (rows (c9 .i64 L++aD)) 233 (0,0))::Cm):=fun hst=>yx _ _ fun gs=>by
   refine Br.yes ?_
   refine av.q ?_
   refine ae.fq (nW Pk (i:=j) (by omega) a) ?_
   rintro v C' ⟨rfl,bE⟩
   have hd:=hc.done RI (by omega)
   rw[M9]at hd
   have hex:=EU hu (by
    rw[←hcd]
    by_cases h0:n≤c
    ·exact .inl h0
    ·right
     rw[M9,Ry c (by omega)]
     rcases hst with h|h
     ·omega
     ·exact h)
   rw[←Pn]at hex
   exact⟨_,_,rfl,.tail,rfl,_,_,bE,hp,hd,hex⟩
  refine DR.self ?_
  (repeat (first|refine Nil.ptr ?_|refine ag.mk ?_|refine Ld.mk zM rfl ?_|refine aA.mk ?_|refine aa.eql ?_|refine aa.neq ?_|refine aa.lss ?_|refine aa.leq ?_|refine aa.gtr ?_|refine aa.geq ?_|refine Un.not ?_|refine Ext.mk rfl ?_|refine ay.mk ?_|refine aa.aC ?_|refine aa.aR ?_|refine aa.aQ ?_|refine Br.yes ?_|refine Br.no ?_))
  refine Br.dec (fun h0=>JE.mk (hstop (.inl (by omega)))) (fun h0=>?_)
  have h0:c<n:=by omega
  (repeat (first|refine Nil.ptr ?_|refine ag.mk ?_|refine Ld.mk zM rfl ?_|refine aA.mk ?_|refine aa.eql ?_|refine aa.neq ?_|refine aa.lss ?_|refine aa.leq ?_|refine aa.gtr ?_|refine aa.geq ?_|refine Un.not ?_|refine Ext.mk rfl ?_|refine ay.mk ?_|refine aa.aC ?_|refine aa.aR ?_|refine aa.aQ ?_|refine Br.yes ?_|refine Br.no ?_))
  refine aj.nat (by omega) ?_
  refine av.row (l:=c9 .i64 L++aD) zM aB (dB (by omega) aD) ?_
  refine av.q ?_
  intro F
  refine ae.eq (r6 _ a _) ?_
  refine⟨.refl _,Un.not ?_⟩
  cases MH:prec (aZ L c) a with
  |false=>exact ay.mk (JE.mk (hstop (.inr MH)))
  |true=>
  refine ay.mk (JE.mk (yx _ _ fun gs=>Br.no ?_))
  (repeat (first|refine Nil.ptr ?_|refine ag.mk ?_|refine Ld.mk zM rfl ?_|refine aA.mk ?_|refine aa.eql ?_|refine aa.neq ?_|refine aa.lss ?_|refine aa.leq ?_|refine aa.gtr ?_|refine aa.geq ?_|refine Un.not ?_|refine Ext.mk rfl ?_|refine ay.mk ?_|refine aa.aC ?_|refine aa.aR ?_|refine aa.aQ ?_|refine Br.yes ?_|refine Br.no ?_))
  refine aj.nat (by omega) ?_
  refine av.row (l:=c9 .i64 L++aD) zM aB (dB (by omega) aD) ?_
  refine ae.fq (nW Pk (i:=j) (by omega) (aZ L c)) ?_
  rintro v C' ⟨rfl,bE⟩
  have Rn:c≠j:=by omega
  have hst:=ET hu (by rw[←hcd];exact h0) (by rw[←hcd,M9,Ry c Rn];exact MH)
  rw[←hcd]at hst
  have hcs:=hc.step RI (i:=j) (q:=c) (by omega) (by omega) Rn
  have Ic:=(swap_perm (l:=L.set j a) (i:=j) (q:=c) (by omega) (by omega) Rn).trans hp
  have OI:(L.set j (aZ L c)).set c a=((L.set j a).set j (aZ (L.set j a) c)).set c (aZ (L.set j a) j):=(qA a (by omega) (by omega) Rn).symm
  have nm:aZ ((L.set j (aZ L c)).set c a)=e9 (e9 (aZ (L.set j a)) j (aZ (L.set j a) c)) c (aZ (L.set j a) j):=by
   rw[OI,eu _ (by simp;omega),eu _ (by omega)]
  refine aq.mk ⟨c,_,_,C',rfl,rfl,bE,by simp[RL],by omega,?_,?_,?_⟩ ?_
  ·rw[OI];exact Ic
  ·rw[nm];exact hst
  ·rw[OI];rw[Ry c Rn]at hcs⊢;exact hcs
  ·simp only[aT,Int.toNat_natCast];omega
 intro J3 Tf
 have YM:tK n (aZ (L.set j a)) j=if(decide (2*j+1+1<n) &&prec (aZ L (2*j+1+1)) (aZ L (2*j+1)))=true then 2*j+1+1 else 2*j+1:=by
  unfold tK;rw[Ry _ (by omega),Ry _ (by omega)]
 rw[YM]at hcd
 have hno:¬(2*j+1+1<n∧prec (aZ L (2*j+1+1)) (aZ L (2*j+1))=true)→J3 [.bool false] ((b6,Obj.cells (enc .i64 a).toArray 233 (0,0))::(bh,Obj.cells #[.slice (some ⟨la,0,none⟩) L.length (L.length+aD.length),.map (some mb)] 231 (0,0))::(la,.cells (rows (c9 .i64 L++aD)) 233 (0,0))::Cm):=fun hx=>Tf _ _ fun gs=>by
  rw[if_neg (by simpa using hx)]at hcd
  rw[hcd]at gg
  exact Br.no (.mk gg)
 refine DR.self ?_
 refine aa.Dq (c:=((2*j+1+1:Nat):Int)) (by omega) (by omega) ?_
 (repeat (first|refine Nil.ptr ?_|refine ag.mk ?_|refine Ld.mk zM rfl ?_|refine aA.mk ?_|refine aa.eql ?_|refine aa.neq ?_|refine aa.lss ?_|refine aa.leq ?_|refine aa.gtr ?_|refine aa.geq ?_|refine Un.not ?_|refine Ext.mk rfl ?_|refine ay.mk ?_|refine aa.aC ?_|refine aa.aR ?_|refine aa.aQ ?_|refine Br.yes ?_|refine Br.no ?_))
 refine Br.dec (fun h0=>?_) (fun h0=>JE.mk (hno (fun h=>h0 (by omega))))
 have h0:2*j+1+1<n:=by omega
 (repeat (first|refine Nil.ptr ?_|refine ag.mk ?_|refine Ld.mk zM rfl ?_|refine aA.mk ?_|refine aa.eql ?_|refine aa.neq ?_|refine aa.lss ?_|refine aa.leq ?_|refine aa.gtr ?_|refine aa.geq ?_|refine Un.not ?_|refine Ext.mk rfl ?_|refine ay.mk ?_|refine aa.aC ?_|refine aa.aR ?_|refine aa.aQ ?_|refine Br.yes ?_|refine Br.no ?_))
 refine aa.Dq (c:=((2*j+1+1:Nat):Int)) (by omega) (by omega) ?_
 refine aj.nat (by omega) ?_
 refine av.row (l:=c9 .i64 L++aD) zM aB (dB (by omega) aD) ?_
 (repeat (first|refine Nil.ptr ?_|refine ag.mk ?_|refine Ld.mk zM rfl ?_|refine aA.mk ?_|refine aa.eql ?_|refine aa.neq ?_|refine aa.lss ?_|refine aa.leq ?_|refine aa.gtr ?_|refine aa.geq ?_|refine Un.not ?_|refine Ext.mk rfl ?_|refine ay.mk ?_|refine aa.aC ?_|refine aa.aR ?_|refine aa.aQ ?_|refine Br.yes ?_|refine Br.no ?_))
 refine aj.nat (by omega) ?_
 refine av.row (l:=c9 .i64 L++aD) zM aB (dB (by omega) aD) ?_
 intro F
 refine ae.eq (r6 _ _ _) ?_
 refine⟨.refl _,?_⟩
 cases MH:prec (aZ L (2*j+1+1)) (aZ L (2*j+1))with
 |false=>exact ay.mk (JE.mk (hno (fun h=>by rw[MH]at h;exact absurd h.2 (by decide))))
 |true=>
 refine ay.mk (JE.mk (Tf _ _ fun gs=>Br.yes ?_))
 refine aa.Dq (c:=((2*j+1+1:Nat):Int)) (by omega) (by omega) ?_
 rw[if_pos (by simp[h0,MH])]at hcd
 rw[hcd]at gg
 exact .mk gg
theorem Lm(B:Hp):Fc Tryz.prog 76 #[] B (fun v H=>∃b C,v=.pointer (some ⟨b,0,none⟩)∧H=C++B∧Gt (.pointer (some ⟨b,0,none⟩)) [] C):=by
 refine aW fun g=>Fz ?_
 refine Build.mk (cs:=[.slice none 0 0,.map none]) (by kernel_rfl) ?_
 intro b _
 exact⟨_,_,rfl,.refl _,b,[_],rfl,rfl,fun _=>none,⟨b,_,_,[],[],rfl,rfl,aO.nil _ _,.inl ⟨rfl,rfl,rfl⟩,fun _=>rfl⟩,⟨fun j hj=>by simp at hj,fun _ _=>rfl⟩,fun j _ hj=>by simp at hj,by simp[eH]⟩
theorem Lr{h:Value}{l:List It}{C:Hp}(hi:Gt h l C)(x:Int):
  Rd Tryz.prog 79 #[h,.int .i64 x] C (fun v=>(x∉l.map Prod.fst∧v=.tuple #[.int .i64 0,.int .i64 10])∨∃k,(x,k)∈l∧v=.tuple #[.int .i64 k,.int .i64 0]):=by
 obtain⟨f,ho,hc,_,_⟩:=hi
 refine aW fun g=>Fx ?_
 rcases rS hc (x:=x)with⟨h1,h2⟩|⟨i,hi,h1,h2⟩
 ·obtain⟨bh,sv,mv,Cs,Cm,rfl,rfl,hs,hm,hne⟩:=ho
  (repeat (first|refine Nil.ptr ?_|refine ag.mk ?_|refine Ld.mk zM rfl ?_|refine aA.mk ?_|refine aa.eql ?_|refine aa.neq ?_|refine aa.lss ?_|refine aa.leq ?_|refine aa.gtr ?_|refine aa.geq ?_|refine Un.not ?_|refine Ext.mk rfl ?_|refine ay.mk ?_|refine aa.aC ?_|refine aa.aR ?_|refine aa.aQ ?_|refine Br.yes ?_|refine Br.no ?_))
  refine hm.oJ zS h2 ?_
  (repeat (first|refine Nil.ptr ?_|refine ag.mk ?_|refine Ld.mk zM rfl ?_|refine aA.mk ?_|refine aa.eql ?_|refine aa.neq ?_|refine aa.lss ?_|refine aa.leq ?_|refine aa.gtr ?_|refine aa.geq ?_|refine Un.not ?_|refine Ext.mk rfl ?_|refine ay.mk ?_|refine aa.aC ?_|refine aa.aR ?_|refine aa.aQ ?_|refine Br.yes ?_|refine Br.no ?_))
  exact bK.mk (.refl _) (.inl ⟨h1,rfl⟩)
 ·obtain⟨bh,la,mb,aD,Cm,rfl,rfl,aB,hm⟩:=ho.open (by omega)
  (repeat (first|refine Nil.ptr ?_|refine ag.mk ?_|refine Ld.mk zM rfl ?_|refine aA.mk ?_|refine aa.eql ?_|refine aa.neq ?_|refine aa.lss ?_|refine aa.leq ?_|refine aa.gtr ?_|refine aa.geq ?_|refine Un.not ?_|refine Ext.mk rfl ?_|refine ay.mk ?_|refine aa.aC ?_|refine aa.aR ?_|refine aa.aQ ?_|refine Br.yes ?_|refine Br.no ?_))
  refine hm.lp zS h2 ?_
  (repeat (first|refine Nil.ptr ?_|refine ag.mk ?_|refine Ld.mk zM rfl ?_|refine aA.mk ?_|refine aa.eql ?_|refine aa.neq ?_|refine aa.lss ?_|refine aa.leq ?_|refine aa.gtr ?_|refine aa.geq ?_|refine Un.not ?_|refine Ext.mk rfl ?_|refine ay.mk ?_|refine aa.aC ?_|refine aa.aR ?_|refine aa.aQ ?_|refine Br.yes ?_|refine Br.no ?_))
  refine aj.nat hi ?_
  (repeat (first|refine Nil.ptr ?_|refine ag.mk ?_|refine Ld.mk zM rfl ?_|refine aA.mk ?_|refine aa.eql ?_|refine aa.neq ?_|refine aa.lss ?_|refine aa.leq ?_|refine aa.gtr ?_|refine aa.geq ?_|refine Un.not ?_|refine Ext.mk rfl ?_|refine ay.mk ?_|refine aa.aC ?_|refine aa.aR ?_|refine aa.aQ ?_|refine Br.yes ?_|refine Br.no ?_))
  refine Ld.row (l:=c9 .i64 l++aD) (j:=1) zM aB (dB hi aD) rfl ?_
  refine bK.mk (.refl _) (.inr ⟨_,?_,rfl⟩)
  have:=Dn hi
  rw[←h1];exact List.mem_of_getElem? this
theorem wT{h:Value}{l:List It}{C:Hp}(hi:Gt h l C)(aV:l.length<4398046511104)(x k:Int):
  Fc Tryz.prog 77 #[h,.int .i64 x,.int .i64 k] C (fun v C'=>∃l',Gt h l' C'∧
   ((x∈l.map Prod.fst∧v=.int .i64 11∧l'=l)∨(x∉l.map Prod.fst∧v=.int .i64 0∧l'.Perm ((x,k)::l)))):=by
 have EB:=hi
 obtain⟨f,ho,hc,hO,h1⟩:=hi
 have Pk:=ho
 obtain⟨bh,sv,mv,Cs,Cm,rfl,rfl,hs,hm,hne⟩:=ho
 refine aW fun g=>Fy ?_
 (repeat (first|refine Nil.ptr ?_|refine ag.mk ?_|refine Ld.mk zM rfl ?_|refine aA.mk ?_|refine aa.eql ?_|refine aa.neq ?_|refine aa.lss ?_|refine aa.leq ?_|refine aa.gtr ?_|refine aa.geq ?_|refine Un.not ?_|refine Ext.mk rfl ?_|refine ay.mk ?_|refine aa.aC ?_|refine aa.aR ?_|refine aa.aQ ?_|refine Br.yes ?_|refine Br.no ?_))
 rcases rS hc (x:=x)with⟨hx,hf⟩|⟨i,hi,hx,hf⟩
 ·refine hm.oJ zS hf ?_
  (repeat (first|refine Nil.ptr ?_|refine ag.mk ?_|refine Ld.mk zM rfl ?_|refine aA.mk ?_|refine aa.eql ?_|refine aa.neq ?_|refine aa.lss ?_|refine aa.leq ?_|refine aa.gtr ?_|refine aa.geq ?_|refine Un.not ?_|refine Ext.mk rfl ?_|refine ay.mk ?_|refine aa.aC ?_|refine aa.aR ?_|refine aa.aQ ?_|refine Br.yes ?_|refine Br.no ?_))
  intro J hJ
  obtain⟨sM,iJ,MI,Ph⟩:=G6 (a:=(x,k)) hc hO h1 hx
  have gg:∀mb Mh,iH .i64 idx (.map (some mb)) f Mh→J [] ((bh,Obj.cells #[sv,.map (some mb)] 231 (0,0))::(Cs++Mh)):=by
   intro mb Mh hm'
   refine hJ _ fun gs=>?_
   (repeat (first|refine Nil.ptr ?_|refine ag.mk ?_|refine Ld.mk zM rfl ?_|refine aA.mk ?_|refine aa.eql ?_|refine aa.neq ?_|refine aa.lss ?_|refine aa.leq ?_|refine aa.gtr ?_|refine aa.geq ?_|refine Un.not ?_|refine Ext.mk rfl ?_|refine ay.mk ?_|refine aa.aC ?_|refine aa.aR ?_|refine aa.aQ ?_|refine Br.yes ?_|refine Br.no ?_))
   refine Build.mk (cs:=enc .i64 (x,k)) (by kernel_rfl) ?_
   refine an.one (k:=2) (e:=233) (z:=.agg #[.int .i64 0,.int .i64 0]) (by kernel_rfl) (by kernel_rfl) (by kernel_rfl) (by decide) rfl fun xb=>?_
   refine hs.zW (A:=[_,_]) (B:=Mh) (r:=enc .i64 (x,k)) zM rfl (lP _ _) ⟨[.int .i64 0,.int .i64 0],rfl,rfl⟩ (by rw[cH];omega) (by rw[cH];omega) fun v' C' hs'=>?_
   (repeat (first|refine Nil.ptr ?_|refine ag.mk ?_|refine Ld.mk zM rfl ?_|refine aA.mk ?_|refine aa.eql ?_|refine aa.neq ?_|refine aa.lss ?_|refine aa.leq ?_|refine aa.gtr ?_|refine aa.geq ?_|refine Un.not ?_|refine Ext.mk rfl ?_|refine ay.mk ?_|refine aa.aC ?_|refine aa.aR ?_|refine aa.aQ ?_|refine Br.yes ?_|refine Br.no ?_))
   refine St.one (by repeat (first|exact cA.head _|apply cA.tail|apply cA.bP)) (by obtain⟨a,c,rfl⟩:=hs'.len;rfl) (by simp) rfl ?_
   (repeat (first|refine Nil.ptr ?_|refine ag.mk ?_|refine Ld.mk zM rfl ?_|refine aA.mk ?_|refine aa.eql ?_|refine aa.neq ?_|refine aa.lss ?_|refine aa.leq ?_|refine aa.gtr ?_|refine aa.geq ?_|refine Un.not ?_|refine Ext.mk rfl ?_|refine ay.mk ?_|refine aa.aC ?_|refine aa.aR ?_|refine aa.aQ ?_|refine Br.yes ?_|refine Br.no ?_))
   refine hs'.aL ?_
   refine aa.gK (c:=((l.length:Nat):Int)) (by rw[List.length_append,cH];simp) (by omega) ?_
   have rj:aO 233 2 v' (c9 .i64 (l++[(x,k)])) C':=by simpa[c9]using hs'
   have bE:JF (.pointer (some ⟨bh,0,none⟩)) (l++[(x,k)]) f ((bh,Obj.cells #[v',.map (some mb)] 231 (0,0))::(C'++Mh)):=
    ⟨bh,_,_,C',Mh,rfl,rfl,rj,hm',fun h=>by simp at h⟩
   refine ae.pre (.tail) ?_
   refine ae.fq (HX bE (i:=l.length) (by simp) (by simp;omega) sM iJ MI) ?_
   rintro v Xq ⟨rfl,l',f',p,jQ,cK,Pv,hex,hp,nm,Oc⟩
   refine⟨_,_,rfl,.refl _,l',⟨f',jQ,Pv,Oc Ph,MI.perm cK⟩,.inr ⟨hx,rfl,cK.trans ?_⟩⟩
   exact List.perm_append_comm (l₁:=l) (l₂:=[(x,k)])
  (repeat (first|refine Nil.ptr ?_|refine ag.mk ?_|refine Ld.mk zM rfl ?_|refine aA.mk ?_|refine aa.eql ?_|refine aa.neq ?_|refine aa.lss ?_|refine aa.leq ?_|refine aa.gtr ?_|refine aa.geq ?_|refine Un.not ?_|refine Ext.mk rfl ?_|refine ay.mk ?_|refine aa.aC ?_|refine aa.aR ?_|refine aa.aQ ?_|refine Br.yes ?_|refine Br.no ?_))
  rcases hm with⟨rfl,rfl,hfn⟩|⟨mb,m,ck,rfl,h2⟩
  ·(repeat (first|refine Nil.ptr ?_|refine ag.mk ?_|refine Ld.mk zM rfl ?_|refine aA.mk ?_|refine aa.eql ?_|refine aa.neq ?_|refine aa.lss ?_|refine aa.leq ?_|refine aa.gtr ?_|refine aa.geq ?_|refine Un.not ?_|refine Ext.mk rfl ?_|refine ay.mk ?_|refine aa.aC ?_|refine aa.aR ?_|refine aa.aQ ?_|refine Br.yes ?_|refine Br.no ?_))
   intro mb _
   (repeat (first|refine Nil.ptr ?_|refine ag.mk ?_|refine Ld.mk zM rfl ?_|refine aA.mk ?_|refine aa.eql ?_|refine aa.neq ?_|refine aa.lss ?_|refine aa.leq ?_|refine aa.gtr ?_|refine aa.geq ?_|refine Un.not ?_|refine Ext.mk rfl ?_|refine ay.mk ?_|refine aa.aC ?_|refine aa.aR ?_|refine aa.aQ ?_|refine Br.yes ?_|refine Br.no ?_))
   refine St.one (by repeat (first|exact cA.head _|apply cA.tail|apply cA.bP)) rfl (by simp) rfl ?_
   refine JE.of ?_ (gg mb _ (by rw[hfn];exact iH.made mb))
   simp only[List.append_nil]
   refine .perm ?_
   refine(List.Perm.swap _ _ _).trans (.cons _ ?_)
   exact List.perm_append_comm (l₁:=[_])
  ·(repeat (first|refine Nil.ptr ?_|refine ag.mk ?_|refine Ld.mk zM rfl ?_|refine aA.mk ?_|refine aa.eql ?_|refine aa.neq ?_|refine aa.lss ?_|refine aa.leq ?_|refine aa.gtr ?_|refine aa.geq ?_|refine Un.not ?_|refine Ext.mk rfl ?_|refine ay.mk ?_|refine aa.aC ?_|refine aa.aR ?_|refine aa.aQ ?_|refine Br.yes ?_|refine Br.no ?_))
   refine JE.mk ?_
   exact gg mb Cm (.inr ⟨mb,m,ck,rfl,h2⟩)
 ·refine hm.lp zS hf ?_
  (repeat (first|refine Nil.ptr ?_|refine ag.mk ?_|refine Ld.mk zM rfl ?_|refine aA.mk ?_|refine aa.eql ?_|refine aa.neq ?_|refine aa.lss ?_|refine aa.leq ?_|refine aa.gtr ?_|refine aa.geq ?_|refine Un.not ?_|refine Ext.mk rfl ?_|refine ay.mk ?_|refine aa.aC ?_|refine aa.aR ?_|refine aa.aQ ?_|refine Br.yes ?_|refine Br.no ?_))
  refine⟨_,_,rfl,.refl _,l,EB,.inl ⟨?_,rfl,rfl⟩⟩
  rw[fF];exact⟨i,hi,hx⟩
theorem Im{h:Value}{l:List It}{C:Hp}(hi:Gt h l C)(aV:l.length<4398046511104)(x k:Int):
  Fc Tryz.prog 80 #[h,.int .i64 x,.int .i64 k] C (fun v C'=>∃l',Gt h l' C'∧
   ((x∉l.map Prod.fst∧v=.int .i64 10∧l'=l)∨(∃k0 r,l.Perm ((x,k0)::r)∧l'.Perm ((x,k)::r)∧v=.int .i64 0))):=by
 have EB:=hi
 obtain⟨f,ho,hc,hO,h1⟩:=hi
 refine aW fun g=>Fw ?_
 rcases rS hc (x:=x)with⟨hx,hf⟩|⟨i,hi,hx,hf⟩
 ·obtain⟨bh,sv,mv,Cs,Cm,rfl,rfl,hs,hm,hne⟩:=ho
  (repeat (first|refine Nil.ptr ?_|refine ag.mk ?_|refine Ld.mk zM rfl ?_|refine aA.mk ?_|refine aa.eql ?_|refine aa.neq ?_|refine aa.lss ?_|refine aa.leq ?_|refine aa.gtr ?_|refine aa.geq ?_|refine Un.not ?_|refine Ext.mk rfl ?_|refine ay.mk ?_|refine aa.aC ?_|refine aa.aR ?_|refine aa.aQ ?_|refine Br.yes ?_|refine Br.no ?_))
  refine hm.oJ zS hf ?_
  (repeat (first|refine Nil.ptr ?_|refine ag.mk ?_|refine Ld.mk zM rfl ?_|refine aA.mk ?_|refine aa.eql ?_|refine aa.neq ?_|refine aa.lss ?_|refine aa.leq ?_|refine aa.gtr ?_|refine aa.geq ?_|refine Un.not ?_|refine Ext.mk rfl ?_|refine ay.mk ?_|refine aa.aC ?_|refine aa.aR ?_|refine aa.aQ ?_|refine Br.yes ?_|refine Br.no ?_))
  exact⟨_,_,rfl,.refl _,l,EB,.inl ⟨hx,rfl,rfl⟩⟩
 ·obtain⟨bh,la,mb,aD,Cm,rfl,rfl,aB,hm⟩:=ho.open (by omega)
  (repeat (first|refine Nil.ptr ?_|refine ag.mk ?_|refine Ld.mk zM rfl ?_|refine aA.mk ?_|refine aa.eql ?_|refine aa.neq ?_|refine aa.lss ?_|refine aa.leq ?_|refine aa.gtr ?_|refine aa.geq ?_|refine Un.not ?_|refine Ext.mk rfl ?_|refine ay.mk ?_|refine aa.aC ?_|refine aa.aR ?_|refine aa.aQ ?_|refine Br.yes ?_|refine Br.no ?_))
  refine hm.lp zS hf ?_
  (repeat (first|refine Nil.ptr ?_|refine ag.mk ?_|refine Ld.mk zM rfl ?_|refine aA.mk ?_|refine aa.eql ?_|refine aa.neq ?_|refine aa.lss ?_|refine aa.leq ?_|refine aa.gtr ?_|refine aa.geq ?_|refine Un.not ?_|refine Ext.mk rfl ?_|refine ay.mk ?_|refine aa.aC ?_|refine aa.aR ?_|refine aa.aQ ?_|refine Br.yes ?_|refine Br.no ?_))
  refine aj.nat hi ?_
  (repeat (first|refine Nil.ptr ?_|refine ag.mk ?_|refine Ld.mk zM rfl ?_|refine aA.mk ?_|refine aa.eql ?_|refine aa.neq ?_|refine aa.lss ?_|refine aa.leq ?_|refine aa.gtr ?_|refine aa.geq ?_|refine Un.not ?_|refine Ext.mk rfl ?_|refine ay.mk ?_|refine aa.aC ?_|refine aa.aR ?_|refine aa.aQ ?_|refine Br.yes ?_|refine Br.no ?_))
  refine St.cell (l:=c9 .i64 l++aD) (j:=1) (by repeat (first|exact cA.head _|apply cA.tail|apply cA.bP)) aB (dB hi aD) (by decide) rfl ?_
  obtain⟨p1,p2,p3⟩:=Ht hc hO h1 hi k
  have rh:(c9 .i64 l++aD).set i ((enc .i64 (aZ l i)).set 1 (.int .i64 k))=c9 .i64 (l.set i ((aZ l i).1,k))++aD:=by
   rw[←xK hi];rfl
  rw[rh]
  obtain⟨r,JQ,iZ⟩:=KH hi ((aZ l i).1,k)
  have bE:JF (.pointer (some ⟨bh,0,none⟩)) (l.set i ((aZ l i).1,k)) f ((bh,Obj.cells #[.slice (some ⟨la,0,none⟩) l.length (l.length+aD.length),.map (some mb)] 231 (0,0))::(la,.cells (rows (c9 .i64 (l.set i ((aZ l i).1,k))++aD)) 233 (0,0))::Cm):=
   .shut (vV aB _ _) (by simp) (by simp) hm
  refine ae.fq (HX bE (i:=i) (by simpa using hi) (by simp;omega) p1 p2 p3) ?_
  rintro v C' ⟨rfl,l',f',p,jQ,cK,Pv,hex,hp,nm,_⟩
  have Nc:=p3.perm cK
  have hlen:=cK.length_eq
  simp only[List.length_set]at hlen
  obtain⟨W6,Gc,mb',CM,Mh,M3,rfl,xk,hm'⟩:=jQ.open (by omega)
  simp only[Value.pointer.injEq,Option.some.injEq,Addr.mk.injEq,and_true]at M3
  subst M3
  have YT:f' x=some p:=by
   have:=Pv.1 p hp
   rw[nm,eu _ hi]at this
   simp only[e9,if_true]at this
   rw[←hx];exact this
  (repeat (first|refine Nil.ptr ?_|refine ag.mk ?_|refine Ld.mk zM rfl ?_|refine aA.mk ?_|refine aa.eql ?_|refine aa.neq ?_|refine aa.lss ?_|refine aa.leq ?_|refine aa.gtr ?_|refine aa.geq ?_|refine Un.not ?_|refine Ext.mk rfl ?_|refine ay.mk ?_|refine aa.aC ?_|refine aa.aR ?_|refine aa.aQ ?_|refine Br.yes ?_|refine Br.no ?_))
  refine hm'.lp zS YT ?_
  refine ae.fq (xf (.shut xk rfl rfl hm') (i:=p) hp (by omega) hex (Pv.x p) Nc) ?_
  rintro v C2 ⟨rfl,l2,f2,yl,Ig,UH,Oc⟩
  refine⟨_,_,rfl,.refl _,l2,⟨f2,yl,UH,Oc,Nc.perm Ig⟩,.inr ⟨(aZ l i).2,r,?_,?_,rfl⟩⟩
  ·rw[←hx];exact JQ
  ·rw[←hx];exact Ig.trans (cK.trans iZ)
theorem Lk{h:Value}{l:List It}{C:Hp}(hi:Gt h l C)(aV:l.length<4398046511104):
  Fc Tryz.prog 78 #[h] C (fun v C'=>∃l',Gt h l' C'∧
   ((l=[]∧v=.tuple #[.int .i64 0,.int .i64 0,.int .i64 10]∧l'=l)∨(∃a,l.Perm (a::l')∧(∀b∈l,prec b a=false)∧v=.tuple #[.int .i64 a.1,.int .i64 a.2,.int .i64 0]))):=by
 have EB:=hi
 obtain⟨f,ho,hc,hO,h1⟩:=hi
 by_cases hl:l=[]
 ·subst hl
  refine aW fun g=>uj ?_
  obtain⟨bh,sv,mv,Cs,Cm,rfl,rfl,hs,hm,hne⟩:=ho
  (repeat (first|refine Nil.ptr ?_|refine ag.mk ?_|refine Ld.mk zM rfl ?_|refine aA.mk ?_|refine aa.eql ?_|refine aa.neq ?_|refine aa.lss ?_|refine aa.leq ?_|refine aa.gtr ?_|refine aa.geq ?_|refine Un.not ?_|refine Ext.mk rfl ?_|refine ay.mk ?_|refine aa.aC ?_|refine aa.aR ?_|refine aa.aQ ?_|refine Br.yes ?_|refine Br.no ?_))
  refine dO.or true (fun _=>?_) rfl fun _=>?_
  ·(repeat (first|refine Nil.ptr ?_|refine ag.mk ?_|refine Ld.mk zM rfl ?_|refine aA.mk ?_|refine aa.eql ?_|refine aa.neq ?_|refine aa.lss ?_|refine aa.leq ?_|refine aa.gtr ?_|refine aa.geq ?_|refine Un.not ?_|refine Ext.mk rfl ?_|refine ay.mk ?_|refine aa.aC ?_|refine aa.aR ?_|refine aa.aQ ?_|refine Br.yes ?_|refine Br.no ?_))
   refine hs.aL ?_
   (repeat (first|refine Nil.ptr ?_|refine ag.mk ?_|refine Ld.mk zM rfl ?_|refine aA.mk ?_|refine aa.eql ?_|refine aa.neq ?_|refine aa.lss ?_|refine aa.leq ?_|refine aa.gtr ?_|refine aa.geq ?_|refine Un.not ?_|refine Ext.mk rfl ?_|refine ay.mk ?_|refine aa.aC ?_|refine aa.aR ?_|refine aa.aQ ?_|refine Br.yes ?_|refine Br.no ?_))
   exact⟨rfl,rfl⟩
  ·(repeat (first|refine Nil.ptr ?_|refine ag.mk ?_|refine Ld.mk zM rfl ?_|refine aA.mk ?_|refine aa.eql ?_|refine aa.neq ?_|refine aa.lss ?_|refine aa.leq ?_|refine aa.gtr ?_|refine aa.geq ?_|refine Un.not ?_|refine Ext.mk rfl ?_|refine ay.mk ?_|refine aa.aC ?_|refine aa.aR ?_|refine aa.aQ ?_|refine Br.yes ?_|refine Br.no ?_))
   exact⟨_,_,rfl,.refl _,[],EB,.inl ⟨rfl,rfl,rfl⟩⟩
 ·obtain⟨n,hn⟩:∃n,l.length=n+1:=⟨l.length-1,by have:=List.length_pos_iff.2 hl;omega⟩
  have hmin:∀b∈l,prec b (aZ l 0)=false:=fun b hb=>by
   obtain⟨j,hj,e⟩:=List.mem_iff_getElem.1 hb
   have:=KL hO j hj
   rwa [show aZ l j=b by simp[aZ,List.getD,hj,e]]at this
  intro g
  refine uj (R:=bN _) ?_
  obtain⟨bh,la,mb,aD,Cm,rfl,rfl,aB,hm⟩:=ho.open (by omega)
  unfold L78
  (repeat (first|refine Nil.ptr ?_|refine ag.mk ?_|refine Ld.mk zM rfl ?_|refine aA.mk ?_|refine aa.eql ?_|refine aa.neq ?_|refine aa.lss ?_|refine aa.leq ?_|refine aa.gtr ?_|refine aa.geq ?_|refine Un.not ?_|refine Ext.mk rfl ?_|refine ay.mk ?_|refine aa.aC ?_|refine aa.aR ?_|refine aa.aQ ?_|refine Br.yes ?_|refine Br.no ?_))
  refine dO.or false (fun _=>?_) rfl fun _=>?_
  ·(repeat (first|refine Nil.ptr ?_|refine ag.mk ?_|refine Ld.mk zM rfl ?_|refine aA.mk ?_|refine aa.eql ?_|refine aa.neq ?_|refine aa.lss ?_|refine aa.leq ?_|refine aa.gtr ?_|refine aa.geq ?_|refine Un.not ?_|refine Ext.mk rfl ?_|refine ay.mk ?_|refine aa.aC ?_|refine aa.aR ?_|refine aa.aQ ?_|refine Br.yes ?_|refine Br.no ?_))
   exact⟨rfl,by rw[hn];simp;omega⟩
  (repeat (first|refine Nil.ptr ?_|refine ag.mk ?_|refine Ld.mk zM rfl ?_|refine aA.mk ?_|refine aa.eql ?_|refine aa.neq ?_|refine aa.lss ?_|refine aa.leq ?_|refine aa.gtr ?_|refine aa.geq ?_|refine Un.not ?_|refine Ext.mk rfl ?_|refine ay.mk ?_|refine aa.aC ?_|refine aa.aR ?_|refine aa.aQ ?_|refine Br.yes ?_|refine Br.no ?_))
  refine aj.of 0 rfl (by omega) ?_
  refine av.row (l:=c9 .i64 l++aD) zM aB (dB (by omega) aD) ?_
  intro Xc _
  refine St.p (lP _ _) ?_
  (repeat (first|refine Nil.ptr ?_|refine ag.mk ?_|refine Ld.mk zM rfl ?_|refine aA.mk ?_|refine aa.eql ?_|refine aa.neq ?_|refine aa.lss ?_|refine aa.leq ?_|refine aa.gtr ?_|refine aa.geq ?_|refine Un.not ?_|refine Ext.mk rfl ?_|refine ay.mk ?_|refine aa.aC ?_|refine aa.aR ?_|refine aa.aQ ?_|refine Br.yes ?_|refine Br.no ?_))
  refine aa.gK (c:=(n:Int)) (by rw[hn];simp) (by omega) ?_
  (repeat (first|refine Nil.ptr ?_|refine ag.mk ?_|refine Ld.mk zM rfl ?_|refine aA.mk ?_|refine aa.eql ?_|refine aa.neq ?_|refine aa.lss ?_|refine aa.leq ?_|refine aa.gtr ?_|refine aa.geq ?_|refine Un.not ?_|refine Ext.mk rfl ?_|refine ay.mk ?_|refine aa.aC ?_|refine aa.aR ?_|refine aa.aQ ?_|refine Br.yes ?_|refine Br.no ?_))
  refine aj.nat (by omega) ?_
  refine av.row (l:=c9 .i64 l++aD) zM aB (dB (by omega) aD) ?_
  intro ZT _
  refine St.p (lP _ _) ?_
  (repeat (first|refine Nil.ptr ?_|refine ag.mk ?_|refine Ld.mk zM rfl ?_|refine aA.mk ?_|refine aa.eql ?_|refine aa.neq ?_|refine aa.lss ?_|refine aa.leq ?_|refine aa.gtr ?_|refine aa.geq ?_|refine Un.not ?_|refine Ext.mk rfl ?_|refine ay.mk ?_|refine aa.aC ?_|refine aa.aR ?_|refine aa.aQ ?_|refine Br.yes ?_|refine Br.no ?_))
  refine di.upto (h:=n) (by omega) ?_
  (repeat (first|refine Nil.ptr ?_|refine ag.mk ?_|refine Ld.mk zM rfl ?_|refine aA.mk ?_|refine aa.eql ?_|refine aa.neq ?_|refine aa.lss ?_|refine aa.leq ?_|refine aa.gtr ?_|refine aa.geq ?_|refine Un.not ?_|refine Ext.mk rfl ?_|refine ay.mk ?_|refine aa.aC ?_|refine aa.aR ?_|refine aa.aQ ?_|refine Br.yes ?_|refine Br.no ?_))
  refine St.one (by repeat (first|exact cA.head _|apply cA.tail|apply cA.bP)) rfl (by simp) rfl ?_
  refine DR.self ?_
  (repeat (first|refine Nil.ptr ?_|refine ag.mk ?_|refine Ld.mk zM rfl ?_|refine aA.mk ?_|refine aa.eql ?_|refine aa.neq ?_|refine aa.lss ?_|refine aa.leq ?_|refine aa.gtr ?_|refine aa.geq ?_|refine Un.not ?_|refine Ext.mk rfl ?_|refine ay.mk ?_|refine aa.aC ?_|refine aa.aR ?_|refine aa.aQ ?_|refine Br.yes ?_|refine Br.no ?_))
  rw[←List.append_nil Cm]
  refine iH.del (A:=[_,_,_,_]) (B:=[]) hm fun Mh hm'=>?_
  rw[List.append_nil]
  have MF:c9 .i64 l++aD=c9 .i64 (l.take n)++(enc .i64 (aZ l n)::aD):=by
   have e:l=l.take n++[aZ l n]:=by
    have h2:l.drop n=[aZ l n]:=by
     rw[List.drop_eq_getElem_cons (by omega),List.drop_eq_nil_of_le (by omega)]
     simp[hn,aZ,List.getD]
    have:=(List.take_append_drop n l).symm
    rw[h2]at this;exact this
   conv=>lhs;rw[e]
   simp[c9]
  have xk:∀r∈c9 .i64 (l.take n)++(enc .i64 (aZ l n)::aD),r.length=2:=by rw[←MF];exact aB
  intro J hJ
  have hlt:(l.take n).length=n:=by simp[hn]
  have gg:∀l' C',Gt (.pointer (some ⟨bh,0,none⟩)) l' C'→l.Perm (aZ l 0::l')→J [] ((ZT,Obj.cells (enc .i64 (aZ l n)).toArray 233 (0,0))::(Xc,Obj.cells (enc .i64 (aZ l 0)).toArray 233 (0,0))::C'):=by
   intro l' C' hi' Ob
   refine hJ _ fun gs=>?_
   (repeat (first|refine Nil.ptr ?_|refine ag.mk ?_|refine Ld.mk zM rfl ?_|refine aA.mk ?_|refine aa.eql ?_|refine aa.neq ?_|refine aa.lss ?_|refine aa.leq ?_|refine aa.gtr ?_|refine aa.geq ?_|refine Un.not ?_|refine Ext.mk rfl ?_|refine ay.mk ?_|refine aa.aC ?_|refine aa.aR ?_|refine aa.aQ ?_|refine Br.yes ?_|refine Br.no ?_))
   exact⟨_,_,rfl,.skip .tail,l',hi',.inr ⟨_,Ob,hmin,rfl⟩⟩
  (repeat (first|refine Nil.ptr ?_|refine ag.mk ?_|refine Ld.mk zM rfl ?_|refine aA.mk ?_|refine aa.eql ?_|refine aa.neq ?_|refine aa.lss ?_|refine aa.leq ?_|refine aa.gtr ?_|refine aa.geq ?_|refine Un.not ?_|refine Ext.mk rfl ?_|refine ay.mk ?_|refine aa.aC ?_|refine aa.aR ?_|refine aa.aQ ?_|refine Br.yes ?_|refine Br.no ?_))
  have ym:JF (.pointer (some ⟨bh,0,none⟩)) (l.take n) (yf f (aZ l 0).1 none) ((bh,Obj.cells #[.slice (some ⟨la,0,none⟩) n (l.length+aD.length),.map (some mb)] 231 (0,0))::(la,.cells (rows (c9 .i64 l++aD)) 233 (0,0))::Mh):=by
   rw[MF]
   exact .shut xk hlt.symm (by simp[hn];omega) hm'
  refine Br.mk (fun h0=>?_) (fun h0=>?_)
  ·have h0:0<n:=by simpa using h0
   obtain⟨_,q1,q2,q3,q4⟩:=KB hc hO h1 hn h0
   refine av.q ?_
   refine ae.fq (nW ym (i:=0) (by omega) (aZ l n)) ?_
   rintro v C2 ⟨rfl,jQ⟩
   have EF:iC ((l.take n).set 0 (aZ l n)) (yf (yf f (aZ l 0).1 none) (aZ l n).1 (some 0)) 0:=by
    refine⟨fun j hj Lt=>?_,fun x hx=>?_⟩
    ·unfold yf
     rw[if_neg]
     ·exact q4.1 j hj Lt
     ·intro e
      have ZE:aZ ((l.take n).set 0 (aZ l n)) 0=aZ l n:=by rw[eu _ (by omega)];simp[e9]
      exact Lt (q3.inj hj (by simp;omega) (by rw[e,ZE]))
    ·unfold yf
     rw[if_neg]
     ·exact q4.2 x hx
     ·intro e
      refine hx (fF.2 ⟨0,by simp;omega,?_⟩)
      rw[eu _ (by omega)];simp[e9,e]
   refine ae.fq (xf jQ (i:=0) (by simp;omega) (by simp;omega) (by simpa[hn]using q2) EF q3) ?_
   rintro v C3 ⟨rfl,l3,f3,yl,Ie,UH,QJ⟩
   exact JE.mk (gg l3 C3 ⟨f3,yl,UH,QJ,q3.perm Ie⟩ ((Ie.cons (aZ l 0)).trans q1).symm)
  ·have h0:n=0:=by simp at h0;omega
   subst h0
   refine JE.mk (gg (l.take 0) _ ⟨_,ym,⟨fun j hj=>by simp at hj,fun x _=>?_⟩,fun j _ hj=>by simp at hj,by simp[eH]⟩ ?_)
   ·unfold yf
    split
    ·rfl
    ·rename_i hne
     refine hc.2 x fun hm=>hne ?_
     obtain⟨j,hj,e⟩:=fF.1 hm
     rw[show j=0 by omega]at e;exact e.symm
   ·match l,hn with
    | [a],_=>exact .refl _
end Go.Proofs
namespace af
open Go.Sx Gr
theorem He(n:Nat)(c:Nat→Nat→Nat)(M:Nat)(hc:∀a v,c a v≤M):∀f a,par n c f a≤f*M
  |0,a=>by simp[par]
  |f+1,a=>by
    rw[par,Nat.succ_mul]
    by_cases h:has n a=[]
    · rw[h];simp[c8]
    · have:=gE (l:=(has n a).map fun v=>c (au a v false) v+par n c f (au a v false)) (by simpa using h)
      obtain⟨v,_,e⟩:=List.mem_map.1 this
      rw[←e]
      have h1:=hc (au a v false) v
      have h2:=He n c M hc f (au a v false)
      omega
theorem Ku{s v:Nat}(h:s.testBit v=false):au (au s v true) v false=s:=by
  apply Nat.eq_of_testBit_eq;intro k
  rw[ai,ai]
  split
  · rename_i e;rw[e,h]
  · rfl
theorem uz{S T:Nat}(h:S&&&T=S){v:Nat}(hv:S.testBit v=true):T.testBit v=true:=by
  have:=congrArg (fun x=>x.testBit v) h
  simp only[Nat.testBit_and,hv,Bool.true_and]at this
  exact this
theorem GQ{S T:Nat}(h:∀v,S.testBit v=true→T.testBit v=true):S&&&T=S:=by
  apply Nat.eq_of_testBit_eq;intro k
  rw[Nat.testBit_and]
  cases hs:S.testBit k with
  |false=>rfl
  |true=>rw[h k hs];rfl
theorem sub_le{S T:Nat}(h:S&&&T=S):S≤T:=by rw[←h];exact Nat.and_le_right
theorem Cp{S T v:Nat}(h:S&&&T=S)(hv:T.testBit v=true):au S v true&&&T=au S v true:=GQ fun k hk=>by
  rw[ai]at hk
  split at hk
  · rename_i e;rw[e];exact hv
  · exact uz h hk
theorem GW{s v:Nat}:au s v true≠0:=fun e=>by
  have:=congrArg (fun x=>x.testBit v) e
  simp[ai]at this
def nn(s k:Nat):It:=((s:Int),(k:Int))
theorem Ho{s k s' k':Nat}(h:nn s k=nn s' k'):s=s'∧k=k':=by
  simp only[nn,Prod.mk.injEq]at h;omega
structure mF(n:Nat)(c:Nat→Nat→Nat)(T:Nat)(D:List Nat)(l:List It)(s i:Nat):Prop where
  items:∀x∈l,∃S k:Nat,x=nn S k∧S&&&T=S∧S∉D∧W n c S≤k
  zero:0∈D∨nn 0 0∈l
  step:∀S∈D,∀v,v<n→T.testBit v=true→S.testBit v=false→(S=s→v<i)→au S v true∈D∨∃k,nn (au S v true) k∈l∧k≤W n c S+c S v
  sub:∀S∈D,S&&&T=S
  nd:D.Nodup
  top:T∉D
variable {n:Nat} {c:Nat→Nat→Nat} {T:Nat} {D:List Nat} {l l':List It} {s i:Nat}
theorem Jy:W n c 0=0:=x9 (by simp[has])
theorem mF.start(hT:T<2^n)(h:l.Perm [nn 0 0])(s:Nat):mF n c T [] l s n:=
  ⟨fun x hx=>by have:=h.mem_iff.1 hx;simp at this;exact⟨0,0,this,by simp,by simp,by rw[Jy];exact Nat.le_refl _⟩,.inr (h.mem_iff.2 (by simp)),by simp,by simp,by simp,by simp⟩
theorem mF.low(h:mF n c T D l s n)(hT:T<2^n):∀(d S:Nat),(has n S).length=d→S&&&T=S→S∉D→∃S' k,nn S' k∈l∧k≤W n c S∧(S'=S→k=k)
  |d,S,hd,hS,hD=>by
    have S6:S<2^n:=Nat.lt_of_le_of_lt (sub_le hS) hT
    by_cases he:has n S=[]
    · have h0:S=0:=by
        apply Nat.eq_of_testBit_eq;intro v
        rw[Nat.zero_testBit]
        by_cases hv:v<n
        · cases hb:S.testBit v with
          |false=>rfl
          |true=>have:v∈has n S:=de.2 ⟨hv,hb⟩;rw[he]at this;simp at this
        · exact Nat.testBit_lt_two_pow (Nat.lt_of_lt_of_le S6 (Nat.pow_le_pow_right (by decide) (by omega)))
      subst h0
      rcases h.zero with h0|h0
      · exact absurd h0 hD
      · exact⟨0,0,h0,Nat.zero_le _,fun _=>rfl⟩
    · obtain⟨v,hv,hw⟩:=OY (c:=c) he
      obtain⟨V3,V4⟩:=de.1 hv
      have xh:au (au S v false) v true=S:=by
        apply Nat.eq_of_testBit_eq;intro k
        rw[ai,ai]
        split
        · rename_i e;rw[e,V4]
        · rfl
      have RC:au S v false&&&T=au S v false:=GQ fun k hk=>by
        rw[ai]at hk
        split at hk
        · cases hk
        · exact uz hS hk
      by_cases WQ:au S v false∈D
      · have:=h.step _ WQ v V3 (uz hS V4) (by rw[ai];simp) (fun _=>V3)
        rw[xh]at this
        rcases this with h1|⟨k,h1,h2⟩
        · exact absurd h1 hD
        · exact⟨S,k,h1,by omega,fun _=>rfl⟩
      · have hlt:=uY hv
        obtain⟨S',k,h1,h2,_⟩:=h.low hT (has n (au S v false)).length (au S v false) rfl RC WQ
        exact⟨S',k,h1,by omega,fun _=>rfl⟩
  termination_by d=>d
  decreasing_by omega
theorem mF.pop(h:mF n c T D l s n)(hT:T<2^n){a:It}(hp:l.Perm (a::l'))(hm:∀b∈l,prec b a=false)(ho:eH l):
    ∃S,a=nn S (W n c S)∧S&&&T=S∧S∉D∧(S≠T→mF n c T (S::D) l' S 0):=by
  obtain⟨S,k,rfl,h1,h2,h3⟩:=h.items a (hp.mem_iff.2 (by simp))
  have hk:k≤W n c S:=by
    obtain⟨S',k',h4,h5,_⟩:=h.low hT _ S rfl h1 h2
    have:=hm _ h4
    rw[gN]at this
    simp only[nn]at this
    omega
  have hkk:k=W n c S:=by omega
  subst hkk
  refine⟨S,rfl,h1,h2,fun hne=>?_⟩
  have bE:=ho.perm hp.symm
  have hno:∀k,nn S k∉l':=fun k hk=>by
    unfold eH at bE
    rw[List.map_cons,List.nodup_cons]at bE
    exact bE.1 (List.mem_map.2 ⟨_,hk,rfl⟩)
  refine⟨fun x hx=>?_,?_,fun S' RC v hv ht hb hlt=>?_,fun S' RC=>?_,?_,?_⟩
  · obtain⟨S',k',rfl,q1,q2,q3⟩:=h.items x (hp.mem_iff.2 (.tail _ hx))
    refine⟨S',k',rfl,q1,fun hc=>?_,q3⟩
    rcases List.mem_cons.1 hc with e|e
    · subst e;exact hno _ hx
    · exact q2 e
  · rcases h.zero with h0|h0
    · exact .inl (.tail _ h0)
    · rcases List.mem_cons.1 (hp.mem_iff.1 h0)with e|e
      · left;rw[(Ho e).1];exact .head _
      · exact .inr e
  · rcases List.mem_cons.1 RC with e|e
    · have:=hlt e;omega
    · rcases h.step S' e v hv ht hb (fun _=>hv)with q|⟨k',q1,q2⟩
      · exact .inl (.tail _ q)
      · rcases List.mem_cons.1 (hp.mem_iff.1 q1)with e|e
        · left;rw[(Ho e).1];exact .head _
        · exact .inr ⟨k',e,q2⟩
  · rcases List.mem_cons.1 RC with e|e
    · rw[e];exact h1
    · exact h.sub S' e
  · exact List.nodup_cons.2 ⟨h2,h.nd⟩
  · intro hc
    rcases List.mem_cons.1 hc with e|e
    · exact hne e.symm
    · exact h.top e
theorem mF.skip(h:mF n c T D l s i)(hx:T.testBit i=false∨s.testBit i=true∨au s i true∈D):mF n c T D l s (i+1):=
  ⟨h.items,h.zero,fun S hS v hv ht hb hlt=>by
    by_cases e:S=s∧v=i
    · obtain⟨rfl,rfl⟩:=e
      rcases hx with q|q|q
      · rw[ht]at q;cases q
      · rw[hb]at q;cases q
      · exact .inl q
    · exact h.step S hS v hv ht hb (fun q=>by have:=hlt q;by_cases e2:v=i;exact absurd ⟨q,e2⟩ e;omega),h.sub,h.nd,h.top⟩
theorem mF.keep(h:mF n c T D l s i){k:Nat}(hk:nn (au s i true) k∈l)(hle:k≤W n c s+c s i):mF n c T D l s (i+1):=
  ⟨h.items,h.zero,fun S hS v hv ht hb hlt=>by
    by_cases e:S=s∧v=i
    · obtain⟨rfl,rfl⟩:=e
      exact .inr ⟨k,hk,hle⟩
    · exact h.step S hS v hv ht hb (fun q=>by have:=hlt q;by_cases e2:v=i;exact absurd ⟨q,e2⟩ e;omega),h.sub,h.nd,h.top⟩
theorem Jz(hi:i<n)(hs:s.testBit i=false):W n c (au s i true)≤W n c s+c s i:=by
  have:=Mb (c:=c) (n:=n) (s:=au s i true) (v:=i) (de.2 ⟨hi,by rw[ai];simp⟩)
  rw[Ku hs]at this
  omega
theorem mF.push(h:mF n c T D l s i)(hi:i<n)(hs:s.testBit i=false)(ht:T.testBit i=true)(T3:s&&&T=s)(hD:au s i true∉D)(hp:l'.Perm (nn (au s i true) (W n c s+c s i)::l)):mF n c T D l' s (i+1):=by
  have h':mF n c T D l' s i:=⟨fun x hx=>by
      rcases List.mem_cons.1 (hp.mem_iff.1 hx)with e|e
      · exact⟨_,_,e,Cp T3 ht,hD,Jz hi hs⟩
      · exact h.items x e,by
      rcases h.zero with q|q
      · exact .inl q
      · exact .inr (hp.mem_iff.2 (.tail _ q)),fun S hS v hv ht hb hlt=>by
      rcases h.step S hS v hv ht hb hlt with q|⟨k,q1,q2⟩
      · exact .inl q
      · exact .inr ⟨k,hp.mem_iff.2 (.tail _ q1),q2⟩,h.sub,h.nd,h.top⟩
  exact h'.keep (hp.mem_iff.2 (.head _)) (Nat.le_refl _)
theorem mF.move(h:mF n c T D l s i)(hi:i<n)(hs:s.testBit i=false)(ht:T.testBit i=true)(T3:s&&&T=s)(hD:au s i true∉D){k0:Int}{r:List It}(p9:l.Perm ((((au s i true:Nat):Int),k0)::r))(hlt:((W n c s+c s i:Nat):Int)≤k0)
   (hp:l'.Perm (nn (au s i true) (W n c s+c s i)::r)):mF n c T D l' s (i+1):=by
  have hin:∀x∈r,x∈l:=fun x hx=>p9.mem_iff.2 (.tail _ hx)
  have h':mF n c T D l' s i:=⟨fun x hx=>by
      rcases List.mem_cons.1 (hp.mem_iff.1 hx)with e|e
      · exact⟨_,_,e,Cp T3 ht,hD,Jz hi hs⟩
      · exact h.items x (hin x e),by
      rcases h.zero with q|q
      · exact .inl q
      · rcases List.mem_cons.1 (p9.mem_iff.1 q)with e|e
        · simp only[nn,Prod.mk.injEq]at e
          exact absurd (by omega) (GW (s:=s) (v:=i))
        · exact .inr (hp.mem_iff.2 (.tail _ e)),fun S hS v hv ht hb l7=>by
      rcases h.step S hS v hv ht hb l7 with q|⟨k,q1,q2⟩
      · exact .inl q
      · rcases List.mem_cons.1 (p9.mem_iff.1 q1)with e|e
        · simp only[nn,Prod.mk.injEq]at e
          refine .inr ⟨W n c s+c s i,?_,by omega⟩
          rw[show au S v true=au s i true by omega]
          exact hp.mem_iff.2 (.head _)
        · exact .inr ⟨k,hp.mem_iff.2 (.tail _ e),q2⟩,h.sub,h.nd,h.top⟩
  exact h'.keep (hp.mem_iff.2 (.head _)) (Nat.le_refl _)
theorem mF.perm{D':List Nat}(hp:D.Perm D')(h:mF n c T D l s i):mF n c T D' l s i:=
  ⟨fun x hx=>by obtain⟨S,k,h1,h2,h3,h4⟩:=h.items x hx;exact⟨S,k,h1,h2,fun q=>h3 (hp.mem_iff.2 q),h4⟩,
   h.zero.imp hp.mem_iff.1 id,fun S hS v hv ht hb hlt=>(h.step S (hp.mem_iff.2 hS) v hv ht hb hlt).imp hp.mem_iff.1 id,
   fun S hS=>h.sub S (hp.mem_iff.2 hS),hp.nodup_iff.1 h.nd,fun q=>h.top (hp.mem_iff.2 q)⟩
theorem wj{N:Nat}{l:List Nat}(h:l.Nodup)(hl:∀x∈l,x<N):l.length≤N:=by
  have:=List.Nodup.length_le_of_subset (l₂:=List.range N) h (fun x hx=>List.mem_range.2 (hl x hx))
  rwa [List.length_range]at this
theorem mF.Vv(h:mF n c T D l s i)(hT:T<2^n):D.length<2^n:=by
  have:=wj (N:=2^n) (l:=T::D) (List.nodup_cons.2 ⟨h.top,h.nd⟩) (fun x hx=>by
    rcases List.mem_cons.1 hx with e|e
    · rw[e];exact hT
    · exact Nat.lt_of_le_of_lt (sub_le (h.sub x e)) hT)
  rw[List.length_cons]at this;omega
theorem mF.Qc(h:mF n c T D l s i)(hT:T<2^n)(ho:eH l):l.length≤2^n:=by
  have e:∀x∈l,((x.1.toNat:Nat):Int)=x.1:=fun x hx=>by obtain⟨S,k,rfl,_⟩:=h.items x hx;simp[nn]
  have fB:(l.map fun x=>x.1.toNat).Nodup:=by
    have h2:((l.map fun x=>x.1.toNat).map (Nat.cast:Nat→Int)).Nodup:=by
      rw[List.map_map]
      have:l.map (Nat.cast∘fun x:It=>x.1.toNat)=l.map Prod.fst:=List.map_congr_left fun x hx=>e x hx
      rw[this];exact ho
    exact(List.pairwise_map.1 h2).imp fun hne heq=>hne (by rw[heq])
  have:=wj (N:=2^n) fB (fun y hy=>by
    obtain⟨x,hx,rfl⟩:=List.mem_map.1 hy
    obtain⟨S,k,rfl,h1,_⟩:=h.items x hx
    simp only[nn,Int.toNat_natCast]
    exact Nat.lt_of_le_of_lt (sub_le h1) hT)
  rwa [List.length_map]at this
end af
set_option maxRecDepth 100000
namespace Go.Proofs
open Go Go.Sx
open Gr
theorem Dr{ow:Value}{n:Nat}{L:List (List Nat)}{B:Hp}(h:jM ow n L B)(a:Nat):af.W n (af.lvl n L) a<35184372088832:=by
  have h1:=af.He n (af.lvl n L) 2199023255551 (fun a v=>Nat.le_of_lt (mY h a v)) n a
  have h2:n*2199023255551≤12*2199023255551:=Nat.mul_le_mul_right _ h.P8
  unfold af.W;omega
def vw(ts:List Tb)(A:Nat)(r:Value):Prop:=
  (¬fQ ts∧r=.tuple #[.int .i64 0,.int .i64 5])∨
  (fQ ts∧∃(n:Nat) (L:List (List Nat)),ts=cY n L∧(L=[]→n=0)∧n≤16∧(∀ws∈L,af.bO n ws)∧
    ((2^n≤A∧r=.tuple #[.int .i64 0,.int .i64 2])∨(A<2^n∧12<n∧r=.tuple #[.int .i64 0,.int .i64 6])∨
     (A<2^n∧n≤12∧r=.tuple #[.int .i64 ((af.W n (af.lvl n L) A+af.B n (af.lvl n L) A:Nat):Int),.int .i64 0])))
def XJ(N:Nat):Hp→Nat
  |(_,.map es _)::_=>N-es.size
  |_=>0
theorem DD{B:Hp}{v:Value}{ts:List Tb}(ht:bV B v ts)(aV:ts.length<33554432){A:Nat}(hA:A<18446744073709551616):Px Tryz.prog 27 #[v,.int .u64 (A:Int)] B (fun r _=>vw ts A r):=by
  refine aW fun g=>FX ?_
  refine ae.pq (tX ht (by omega)) ?_
  rintro r N0 (⟨hO,bp,bl,bd,n,L,N,rfl,uT,fU,hf,rfl,hp⟩|⟨hO,rfl⟩)
  case inr=>exact Ext.mk rfl (Ext.mk rfl (aa.l6 (a:=5) (b:=0) (Br.dec (fun _=>jS.mk (by repeat (first|exact aG.refl _|apply aG.cons|apply aG.app)) (.inl ⟨hO,rfl⟩)) (fun h=>absurd (by decide) h))))
  generalize N0++B=H2 at hp⊢
  clear N0
  rw[aF]at aV
  have p9:=hp
  obtain⟨n7,mB,m4,oc,rfl,hM⟩:=hp
  refine Ext.mk rfl (Ext.mk rfl (aa.l6 (a:=0) (b:=0) (Br.dec (fun h=>absurd rfl h) (fun _=>?_))))
  refine DR.self (Nil.ptr ?_)
  refine ag.mk (Ld.mk zM rfl ?_)
  refine ae.rq (wF hA _) ?_
  rintro v ⟨r,hr,rfl⟩
  refine⟨.refl _,?_⟩
  refine aa.jb (Br.dec (fun hgt=>jS.mk (by repeat (first|exact aG.refl _|apply aG.cons|apply aG.app)) (.inr ⟨hO,n,L,rfl,uT,fU,hf,.inl ⟨hr.gt.1 hgt,rfl⟩⟩)) (fun hgt=>?_))
  have Vl:A<2^n:=by
    have:¬(2^n≤A):=fun h=>hgt (hr.gt.2 h)
    omega
  refine Nil.ptr ?_
  refine ag.mk (Ld.mk zM rfl ?_)
  refine aa.jb (b:=12) (Br.dec (fun Gn=>jS.mk (by repeat (first|exact aG.refl _|apply aG.cons|apply aG.app)) (.inr ⟨hO,n,L,rfl,uT,fU,hf,.inr (.inl ⟨Vl,Gn,rfl⟩)⟩)) (fun Gn=>?_))
  clear hM
  have ia:n≤12:=by omega
  have IQ:L≠[]→jM v n L (N++B):=fun hne=>⟨ht.mono zS,hf,hne,aV,ia⟩
  have iJ:2^n≤2^12:=Nat.pow_le_pow_right (by decide) ia
  have Zf:=af.nx n L
  refine Nil.ptr ?_
  refine ag.mk (Ld.mk zM rfl ?_)
  refine bf.q ?_
  refine aa.gY (by simp only[aY];omega) (by simp only[aY];omega) ?_
  obtain⟨T,OJ⟩:∃T,T=A&&&af.aN n L:=⟨_,rfl⟩
  rw[←OJ]
  have hT:T<2^n:=by rw[OJ];exact Nat.lt_of_le_of_lt Nat.and_le_left Vl
  refine ae.fq (Lm _) ?_
  rintro v2 H ⟨bh,C0,rfl,rfl,Wr⟩
  refine ae.fq (wT Wr (by simp) 0 0) ?_
  rintro v2 C1 ⟨l1,Oq,Wc⟩
  have zc:l1.Perm [af.nn 0 0]:=by
    rcases Wc with⟨h,_⟩|⟨_,_,h⟩
    · simp at h
    · exact h
  clear Wc Wr
  intro bm SW;clear SW
  refine⟨fun vs H=>∃(m:List (Nat×Nat)) (es:Array MapEntry) (ck:Nat) (l:List It) (C H1:Hp),vs=[]∧H=(bm,.map es ck)::(C++H1)∧aX ki Mi es ck m∧(∀x∈m,x.2=1)∧Gt (.pointer (some ⟨bh,0,none⟩)) l C∧
      gZ bp bl bd v n L (af.aN n L) (N++B) H1∧∃s,af.mF n (af.lvl n L) T (m.map Prod.fst) l s n,
    fun _ H=>XJ (2^n) H,JE.mk ⟨[],#[],0,l1,C1,_,rfl,rfl,aX.empty,by simp,Oq,p9,0,af.mF.start hT zc 0⟩,?_⟩
  clear p9 Oq zc n7 mB m4 oc C1 l1
  rintro H ⟨m,es,ck,l,C,H1,_,rfl,hE,yo,hh,hp,s0,hd⟩ gs
  have tO:eH l:=by obtain⟨_,_,_,_,h⟩:=hh;exact h
  have sC:=hd.Qc hT tO
  refine ae.fq (Lk hh (by omega)) ?_
  rintro r C1 ⟨l1,Oq,Ub⟩
  rcases Ub with⟨rfl,_⟩|⟨a,cK,hmin,rfl⟩
  · obtain⟨_,_,h,_⟩:=hd.low hT _ T rfl (by rw[Nat.and_self]) hd.top
    simp at h
  obtain⟨S,rfl,U1,WE,pG⟩:=hd.pop hT cK hmin tO
  have S6:S<2^n:=Nat.lt_of_le_of_lt (af.sub_le U1) hT
  refine Ext.mk rfl (Ext.mk rfl (Ext.mk rfl ?_))
  refine bf.q ?_
  simp only[af.nn]
  refine aa.iK (Br.dec (fun S7=>?_) (fun S7=>?_))
  · have dH:∀k H',H'=((bm,Obj.map es ck)::(C1++H1):Hp)∨True→k=af.B n (af.lvl n L) T→vw (cY n L) A (.tuple #[.int .i64 ((af.W n (af.lvl n L) T+k:Nat):Int),.int .i64 0]):=fun k H' _ hk=>by
      refine .inr ⟨hO,n,L,rfl,uT,fU,hf,.inr (.inr ⟨Vl,ia,?_⟩)⟩
      have pH:=af.uu hf (by omega)
      rw[hk,OJ,af.Sd pH,af.JJ pH]
    by_cases hne:L=[]
    · have hn:=uT hne
      subst hne
      subst hn
      have Zk:T=0:=by omega
      subst Zk
      obtain rfl:S=0:=S7
      refine ae.fq (uf (a:=0) (by omega) hp) ?_
      rintro r H3 ⟨rfl,rfl⟩
      have WC:af.W 0 (af.lvl 0 []) 0=0:=af.Jy
      have pJ:af.B 0 (af.lvl 0 []) 0=0:=rfl
      rw[WC]
      refine aa.dx (a:=0) (b:=0) ?_
      have hq:=dH 0 [] (.inr trivial) pJ.symm
      rw[WC]at hq
      obtain⟨Ni,Nk,WX,W0,rfl,_⟩:=hp
      exact jS.mk (by repeat (first|exact aG.refl _|apply aG.cons|apply aG.app)) hq
    · obtain rfl:S=T:=S7
      refine ae.fq (kY (IQ hne) _ S (Nat.le_refl _) hT _ hp) ?_
      rintro r H3 ⟨rfl,Ni,Nk,WX,W0,rfl,_⟩
      have OD:=Dr (IQ hne) S
      have OC:=ov (IQ hne) S
      refine aa.dx ?_
      exact jS.mk (by repeat (first|exact aG.refl _|apply aG.cons|apply aG.app)) (dH _ [] (.inr trivial) rfl)
  have EE:=pG S7
  clear pG hd hh hmin cK
  refine aX.bS (ke:=ki) (vr:=Mi) (b:=bm) (k:=S) (x:=1) oM CK hE rfl fun es' dw rG=>⟨_,.head _,?_⟩
  have MM:fi m S 1=m++[(S,1)]:=by unfold fi;rw[if_neg WE]
  rw[MM]at rG
  have Gf:(S::m.map Prod.fst).Perm ((m++[(S,1)]).map Prod.fst):=by rw[List.map_append];exact List.perm_append_comm (l₁:=[S])
  have oQ:=EE.perm Gf
  have Ip:∀x∈m++[(S,1)],x.2=1:=fun x hx=>by
    rcases List.mem_append.1 hx with h|h
    · exact yo x h
    · simp at h;rw[h]
  have QT:2^n-es'.size<2^n-es.size:=by
    have h1:=rG.len
    have h2:=hE.len
    have h3:=oQ.Vv hT
    simp only[List.length_append,List.length_singleton,List.length_map]at h1 h3
    omega
  generalize m++[(S,1)]=m' at rG Gf oQ Ip
  have Zm:S∈m'.map Prod.fst:=Gf.mem_iff.1 (.head _)
  clear MM EE yo WE Gf hE
  have p9:=hp
  obtain⟨n7,mB,m4,oc,rfl,hM⟩:=hp
  refine Nil.ptr ?_
  refine ag.mk (Ld.mk zM rfl ?_)
  refine⟨fun vs H=>∃(i:Nat) (l:List It) (C H1:Hp),vs=[.int .i64 (i:Int)]∧i≤n∧H=(bm,.map es' dw)::(C++H1)∧Gt (.pointer (some ⟨bh,0,none⟩)) l C∧
      gZ bp bl bd v n L (af.aN n L) (N++B) H1∧af.mF n (af.lvl n L) T (m'.map Prod.fst) l S i,
    fun vs _=>n-aT vs 0,JE.mk ⟨0,l1,C1,_,rfl,Nat.zero_le _,rfl,Oq,p9,oQ⟩,?_⟩
  clear p9 hM oQ Oq tO sC l1 C1
  rintro w H ⟨i,l,C,H1,⟨⟩,hin,rfl,hh,hp,hd⟩ gs
  refine aa.cZ (Br.dec (fun hlt=>?_) (fun hlt=>?_))
  · intro J hJ
    have hne:L≠[]:=fun e=>by have:=uT e;omega
    have nj:=IQ hne
    have hpk:2^i≤2^12:=Nat.pow_le_pow_right (by decide) (by omega)
    have MS:∀l C H1,Gt (.pointer (some ⟨bh,0,none⟩)) l C→gZ bp bl bd v n L (af.aN n L) (N++B) H1→af.mF n (af.lvl n L) T (m'.map Prod.fst) l S (i+1)→J [] ((bm,.map es' dw)::(C++H1)):=fun l C H1 q1 q2 q3=>hJ _ fun gs=>by
      refine aa.inc ?_
      exact aq.mk ⟨i+1,l,C,H1,rfl,by omega,rfl,q1,q2,q3⟩ (by simp only[aT];omega)
    refine aa.kf (a:=1) (by simp[IntKind.bits];omega) (by rw[Nat.one_shiftLeft];simp[aY];omega) ?_
    rw[Nat.one_shiftLeft]
    refine aa.yP (by simp[aY];omega) (by simp[aY];omega) ?_
    have EP:S|||2^i=af.au S i true:=rfl
    rw[EP]
    refine aa.iK ?_
    have H9:(T.testBit i=false∨S.testBit i=true∨af.au S i true∈m'.map Prod.fst)→JE J [] ((bm,.map es' dw)::(C++H1)):=fun hx=>JE.mk (MS l C H1 hh hp (hd.skip hx))
    by_cases LH:S.testBit i=true
    · have e1:af.au S i true=S:=by have:=af.iR S i;rwa [LH]at this
      rw[e1,decide_eq_true rfl]
      refine dO.mk true (fun e=>by simp at e) (fun _=>rfl) fun gs=>dO.mk true (fun e=>by simp at e) (fun _=>rfl) fun gs=>Br.yes (H9 (.inr (.inl LH)))
    have OL:S.testBit i=false:=by simpa using LH
    have Il:¬(af.au S i true=S):=fun e=>LH (by rw[←e,af.ai];simp)
    rw[decide_eq_false Il]
    refine dO.mk (!T.testBit i) (fun _=>?_) (fun e=>by simp at e) fun gs=>?_
    · refine aa.fD (by simp only[aY];omega) (aa.gY (b:=1) (by simp only[aY];exact Nat.lt_of_le_of_lt (Nat.shiftRight_le _ _) (by omega)) (by simp[aY]) (aa.iK (b:=0) ?_))
      refine⟨by trivial,?_⟩
      cases hb:T.testBit i with
      |false=>rw[decide_eq_true (qf.2 hb)];rfl
      |true=>rw[decide_eq_false (fun h=>by rw[qf.1 h]at hb;cases hb)];rfl
    cases UY:T.testBit i with
    |false=>exact dO.mk true (fun e=>by simp at e) (fun _=>rfl) fun gs=>Br.yes (H9 (.inl UY))
    |true=>
    by_cases RV:af.au S i true∈m'.map Prod.fst
    · refine dO.mk true (fun _=>?_) (fun e=>by simp at e) fun gs=>Br.yes (H9 (.inr (.inr RV)))
      obtain⟨x,V0,Mz⟩:=List.mem_map.1 RV
      refine aX.hit (ke:=ki) (vr:=Mi) (k:=af.au S i true) (x:=1) oM rG (.head _) ((fN rG.nd).2 (by have:=Ip x V0;rw[←Mz,←this];exact V0)) fun y hy=>?_
      subst hy
      refine aa.jb (b:=0) ?_
      exact⟨by trivial,rfl⟩
    refine dO.mk false (fun _=>?_) (fun e=>by simp at e) fun gs=>Br.no ?_
    · refine aX.bg (ke:=ki) (vr:=Mi) (k:=af.au S i true) oM rG (.head _) (gF.2 RV) ?_
      refine aa.jb (a:=0) (b:=0) ?_
      exact⟨by trivial,rfl⟩
    have OD:=mY nj S i
    have OC:=Dr nj S
    have YB:af.au S i true<2^n:=af.dc S6 hlt
    refine ae.fq (qP nj hp S6 hlt OL) ?_
    rintro r H2 ⟨rfl,iJ⟩
    refine aa.dx ?_
    refine ae.rq (Lr hh _) ?_
    have tO:eH l:=by obtain⟨_,_,_,_,h⟩:=hh;exact h
    have sC:=hd.Qc hT tO
    rintro r (⟨hno,rfl⟩|⟨k,hk,rfl⟩)
    · refine Ext.mk rfl (Ext.mk rfl (aa.l6 (a:=10) (b:=0) (Br.T ?_)))
      refine ae.fq (wT hh (by omega) _ _) ?_
      rintro r C2 ⟨l2,Q8,⟨h,_⟩|⟨_,rfl,cK⟩⟩
      · exact absurd h hno
      · exact JE.mk (MS l2 C2 H2 Q8 iJ (hd.push hlt OL UY U1 RV cK))
    · obtain⟨S',k',hkk,_,_,_⟩:=hd.items _ hk
      simp only[af.nn,Prod.mk.injEq]at hkk
      obtain⟨yp,rfl⟩:=hkk
      refine Ext.mk rfl (Ext.mk rfl (aa.l6 (a:=0) (b:=0) (Br.F ?_)))
      refine aa.cZ (Br.dec (fun eC=>?_) (fun eC=>?_))
      · refine ae.fq (Im hh (by omega) _ _) ?_
        rintro r C2 ⟨l2,Q8,⟨h,_⟩|⟨k0,r0,Ib,QE,rfl⟩⟩
        · exact absurd (List.mem_map.2 ⟨_,hk,rfl⟩) h
        · have Om:k0=(k':Int):=by
            have jQ:=tO.perm Ib.symm
            unfold eH at jQ
            rw[List.map_cons,List.nodup_cons]at jQ
            rcases List.mem_cons.1 (Ib.mem_iff.1 hk)with e|e
            · simp only[Prod.mk.injEq,true_and]at e;exact e.symm
            · exact absurd (List.mem_map.2 ⟨_,e,rfl⟩) jQ.1
          exact JE.mk (MS l2 C2 H2 Q8 iJ (hd.move hlt OL UY U1 RV Ib (by rw[Om];omega) QE))
      · exact JE.mk (MS l C H2 hh iJ (hd.keep (k:=k') hk (by omega)))
  · obtain rfl:i=n:=by omega
    exact aq.mk ⟨m',es',dw,l,C,H1,rfl,rfl,rG,Ip,hh,hp,S,hd⟩ QT
end Go.Proofs
set_option maxRecDepth 100000
namespace Go.Proofs
open Go Go.Sx
open aU Gr
theorem DN{pt n v:Nat}{T:Nd→Option Nat}{C:Hp}(h:kS pt n T C)(hv:v<n):
  Rd Tryz.prog 171 #[ptr pt,.int .i64 (v:Int)] C (fun r=>∃l:List (Nd×Nat),(l.map Prod.fst).Nodup∧(∀d r,(d,r)∈l↔T d=some r∧d.v=v)∧r=.tuple #[.int .i64 ((l.length:Nat):Int),.int .i64 0]):=by
 have h0:=h
 obtain⟨vs,Cs,ms,rfl,hs,ho⟩:=h
 obtain⟨m,hm⟩:∃m,ms[v]? =some m:=⟨_,List.getElem?_eq_getElem (by rw[ho.len];exact hv)⟩
 have he:=ho.nr v m hm
 have hT:∀d:Nd,d.v=v→T d=dn m.l d:=fun d hd=>by rw[ho.T,hd,hm];rfl
 have hmem:∀d r,(d,r)∈m.l↔T d=some r∧d.v=v:=fun d r=>by
  constructor
  ·intro hx
   have hd:=ho.var v m hm _ hx
   exact⟨by rw[hT d hd];exact(fN he.nd).2 hx,hd⟩
  ·rintro⟨h1,h2⟩
   rw[hT d h2]at h1
   exact(fN he.nd).1 h1
 refine aW fun g=>Bp ?_
 refine ae.eq (iN h0 hv) ?_
 refine aa.fZ (Br.F ?_)
 refine Nil.ptr ?_
 refine ag.mk (Ld.mk zM rfl ?_)
 refine hs.Mu (x:=.map (some m.b)) (by rw[List.getElem?_map,hm];rfl) (fun _ h=>by exact .tail _ (List.mem_append_left _ h)) ?_
 refine he.HC (b:=m.b) (by exact .tail _ (List.mem_append_right _ (nP hm))) ?_
 exact bK.mk (.refl _) ⟨m.l,he.nd,hmem,rfl⟩
section
variable {kp v gr:Nat} {K:Kd} {S:Nat→aU.Fn} {ord tr:List Nat} {C:Hp}
theorem En{ak:List Nat}(h:cF kp K ord ak tr C)(hv:v<K.n):Rd Tryz.prog 93 #[ptr kp,.int .i64 (v:Int)] C (fun r=>∃l:List (Nd×Nat),(l.map Prod.fst).Nodup∧(∀d r,(d,r)∈l↔K.T d=some r∧d.v=v)∧r=.tuple #[.int .i64 ((l.length:Nat):Int),.int .i64 0]):=by
 have h0:=h
 obtain⟨b,rfl,hO⟩:=h
 refine aW fun g=>Fh ?_
 refine aa.aC (Br.no ?_)
 refine ae.eq (CJ h0 (v:Int)) ?_
 rw[decide_eq_true (by omega)]
 refine Un.not (Br.no ?_)
 refine Nil.ptr (ag.mk (Ld.f ?_))
 refine ae.rq (DN hO.ut hv) ?_
 rintro r ⟨l,h1,h2,rfl⟩
 exact Ext.mk rfl (Ext.mk rfl (bK.mk (.refl _) ⟨l,h1,h2,rfl⟩))
end
end Go.Proofs
set_option maxRecDepth 100000
namespace Go.Proofs
open Go Go.Sx
theorem aa.NC{kd:IntKind}{a b:Nat}{k:Value→Prop}(hb:b≠0)(h:k (.int kd ((a%b:Nat):Int))):aa .num .rem (.int kd a) (.int kd b) k:=
 aa.Mo (by omega) rfl (by have:((a:Int)).tmod (b:Int)=((a%b:Nat):Int):=rfl;rw[this];exact h)
theorem nE{a v:Nat}:(a>>>v%2=1↔a.testBit v=true)∧(a>>>v%2=0↔a.testBit v=false):=by
 have:=Nat.testBit_eq_decide_div_mod_eq (x:=a) (i:=v)
 rw[this,Nat.shiftRight_eq_div_pow]
 have:a/2^v%2<2:=Nat.mod_lt _ (by decide)
 constructor<;>simp
theorem kV.Ts{T:TypeId}{z:Value}{kl:IntKind}{bytes n:Nat}{K:Mk→Prop}(hz:z.cells=#[z])(aV:n≤9223372036854775807)(hb:n*bytes≤281474976710656)
 (h:K (.cells (List.replicate n z).toArray T (0,0),fun b=>.slice (some ⟨b,0,none⟩) n n)):kV T 1 bytes z (.int kl n) (.int kl n) K:=by
 refine⟨kl,kl,n,n,rfl,rfl,Nat.le_refl _,by omega,hb,?_⟩
 have:madeCells z.cells (n*1)=(List.replicate n z).toArray:=by
  rw[hz]
  apply Array.ext
  ·simp[madeCells]
  ·intro i h1 h2
   simp[madeCells,Nat.mod_one]
 rw[this];exact h
def Ds(C:Hp)(n:Nat)(c:Nat→Nat→Nat)(a:Nat)(u:Value):Prop:=∃row:List Nat,bW .i64 C u (iw row)∧∀v,v<n→a.testBit v=false→row[v]? =some (c a v)
def JB(n:Nat)(c:Nat→Nat→Nat)(C:Hp)(lv:List Value)(j:Nat):Prop:=lv.length=2^n∧∀a,j≤a→a+1<2^n→∃u,lv[a]? =some u∧Ds C n c a u
def Sr(n:Nat)(c:Nat→Nat→Nat)(bl:List Nat)(j:Nat):Prop:=bl.length=2^n∧∀a,j≤a→a<2^n→bl[a]? =some (af.B n c a)
theorem Ds.mono{C C':Hp}{n:Nat}{c:Nat→Nat→Nat}{a:Nat}{u:Value}(h:Ds C n c a u)(hs:∀x∈C,x∈C'):Ds C' n c a u:=let ⟨row,h1,h2⟩:=h;⟨row,h1.mono hs,h2⟩
theorem JB.mono{C C':Hp}{n j:Nat}{c:Nat→Nat→Nat}{lv:List Value}(h:JB n c C lv j)(hs:∀x∈C,x∈C'):JB n c C' lv j:=⟨h.1,fun a h1 h2=>let ⟨u,h3,h4⟩:=h.2 a h1 h2;⟨u,h3,h4.mono hs⟩⟩
def Sp(n:Nat)(c:Nat→Nat→Nat)(r:Value)(H:Hp):Prop:=
 ∃b6 b8 bl lv,r=.tuple #[.slice (some ⟨b6,0,none⟩) (2^n) (2^n),.slice (some ⟨b8,0,none⟩) (2^n) (2^n)]∧(b6,Obj.cells (az .i64 (iw bl)) 3 (0,0))∈H∧(b8,Obj.cells lv.toArray 25 (0,0))∈H∧JB n c H lv 0∧Sr n c bl 0
theorem wz(n:Nat):af.bg n (2^n-1)=[]:=by
 rw[List.eq_nil_iff_forall_not_mem]
 intro v hv
 obtain⟨h1,h2⟩:=af.bI.1 hv
 rw[Nat.testBit_two_pow_sub_one]at h2
 simp at h2;omega
theorem CD{n a:Nat}(h:a+1<2^n):af.bg n a≠[]:=by
 intro e
 have:a=2^n-1:=by
  apply Nat.eq_of_testBit_eq;intro k
  rw[Nat.testBit_two_pow_sub_one]
  by_cases hk:k<n
  ·rw[decide_eq_true hk]
   cases hb:a.testBit k with
   |true=>rfl
   |false=>have:k∈af.bg n a:=af.bI.2 ⟨hk,hb⟩;rw[e]at this;simp at this
  ·rw[decide_eq_false hk]
   exact Nat.testBit_lt_two_pow (Nat.lt_of_lt_of_le (by omega) (Nat.pow_le_pow_right (by decide) (Nat.le_of_not_lt hk)))
 omega
def fA(n:Nat)(c:Nat→Nat→Nat)(a k:Nat):List Nat:=((List.range k).filter fun v=> !a.testBit v).map fun v=>c a v+af.B n c (af.au a v true)
theorem DX{n:Nat}{c:Nat→Nat→Nat}{a:Nat}:af.c8 (fA n c a n)=af.B n c a:=(af.vz n c a).symm
theorem qC{n:Nat}{c:Nat→Nat→Nat}{a k:Nat}:fA n c a (k+1)=if a.testBit k=true then fA n c a k else fA n c a k++[c a k+af.B n c (af.au a k true)]:=by
 unfold fA
 rw[List.range_succ,List.filter_append,List.map_append]
 cases h1:a.testBit k<;>simp[h1]
theorem GY{n:Nat}{c:Nat→Nat→Nat}{a:Nat}(h:af.bg n a≠[]):fA n c a n≠[]:=by
 unfold fA
 intro e;exact h (List.map_eq_nil_iff.1 e)
theorem Jb{ow:Value}{n:Nat}{L:List (List Nat)}{B:Hp}(ht:bV B ow (cY n L))(hf:∀ws∈L,af.bO n ws)(uT:L=[]→n=0)(aV:L.length<33554432)(ia:n≤12):
  Px Tryz.prog 169 #[ow,.int .i64 (n:Int)] B (Sp n (af.lvl n L)):=by
 refine aW fun g=>Bs ?_
 have iJ:2^n≤2^12:=Nat.pow_le_pow_right (by decide) ia
 have p9:=Nat.two_pow_pos n
 have IQ:L≠[]→jM ow n L B:=fun hne=>⟨ht,hf,hne,aV,ia⟩
 refine DR.self ?_
 have hsh:∀{K:Value→Prop},K (.int .i64 ((2^n:Nat):Int))→aa .num .shl (.int .i64 1) (.int .i64 (n:Int)) K:=fun hK=>
  aa.kf (a:=1) (by simp[IntKind.bits];omega) (by rw[Nat.one_shiftLeft];simp[aY];omega) (by rw[Nat.one_shiftLeft];exact hK)
 refine hsh (hsh ?_)
 refine kV.Ts rfl (by omega) (by omega) ?_
 intro F
 refine br.ints (by omega) (by omega) fun b6=>?_
 intro b8 _
 refine hsh ?_
 refine aa.gK (c:=((2^n-1:Nat):Int) -1) (by omega) (by omega) ?_
 refine⟨fun vs H=>∃(j:Nat) (bl:List Nat) (lv:List Value) (C:Hp),vs=[.int .i64 ((j:Int) -1)]∧j+1≤2^n∧H=(b8,.cells lv.toArray 25 (0,0))::(b6,.cells (az .i64 (iw bl)) 3 (0,0))::(C++B)∧
   JB n (af.lvl n L) C lv j∧Sr n (af.lvl n L) bl j,
  fun vs _=>match vs with| [.int _ q]=>(q+1).toNat|_=>0,JE.mk ⟨2^n-1,List.replicate (2^n) 0,List.replicate (2^n) (.slice none 0 0),[],rfl,by omega,by simp[iw],⟨by simp,fun a h1 h2=>by omega⟩,⟨by simp,fun a h1 h2=>?_⟩⟩,?_⟩
 ·obtain rfl:a=2^n-1:=by omega
  rw[List.getElem?_replicate,if_pos h2,af.ya (wz n)]
 rintro w H ⟨j,bl,lv,C,⟨⟩,hj,rfl,l8,sQ⟩ gs
 refine aa.geq (Br.dec (fun h0=>?_) (fun h0=>?_))
 ·obtain⟨a,rfl⟩:∃a,j=a+1:=⟨j-1,by omega⟩
  have ea:(((a+1:Nat):Int) -1)=(a:Int):=by omega
  rw[ea]
  have uS:n≠0:=fun e=>by subst e;omega
  have hne:L≠[]:=fun e=>uS (uT e)
  have nj:=IQ hne
  have M6:a<2^n:=by omega
  refine br.ints (by omega) (by omega) fun bv=>?_
  refine aj.nat M6 ?_
  refine St.one (c:=lv.toArray) (c':=(lv.set a (.slice (some ⟨bv,0,none⟩) n n)).toArray) (by repeat (first|exact cA.head _|apply cA.tail|apply cA.bP)) rfl (by simp[l8.1];omega) (by simp) ?_
  refine⟨fun vs H=>∃(k:Nat) (row:List Nat),vs=[gj (fA n (af.lvl n L) a k),.int .i64 (k:Int)]∧k≤n∧H=(bv,.cells (az .i64 (iw row)) 3 (0,0))::(b8,.cells (lv.set a (.slice (some ⟨bv,0,none⟩) n n)).toArray 25 (0,0))::(b6,.cells (az .i64 (iw bl)) 3 (0,0))::(C++B)∧
    row.length=n∧∀v,v<k→a.testBit v=false→row[v]? =some (af.lvl n L a v),
   fun vs _=>n-aT vs 1,JE.mk ⟨0,List.replicate n 0,rfl,Nat.zero_le _,by simp[iw],by simp,fun v hv=>by omega⟩,?_⟩
  rintro Xx w27 H ⟨k,row,⟨⟩,hk,rfl,ni,hrow⟩ gs
  refine aa.cZ (Br.dec (fun hlt=>?_) (fun hlt=>?_))
  ·intro J hJ
   have MS:∀l row,l=fA n (af.lvl n L) a (k+1)→row.length=n→(∀v,v<k+1→a.testBit v=false→row[v]? =some (af.lvl n L a v))→J [gj l] ((bv,.cells (az .i64 (iw row)) 3 (0,0))::(b8,.cells (lv.set a (.slice (some ⟨bv,0,none⟩) n n)).toArray 25 (0,0))::(b6,.cells (az .i64 (iw bl)) 3 (0,0))::(C++B)):=fun l row hl h1 h2=>hJ _ _ fun gs=>by
    refine aa.inc ?_
    exact aq.mk ⟨k+1,row,by rw[hl],by omega,rfl,h1,h2⟩ (by rw[bU,bU];show n-(((k:Int)+1).toNat)<n-((k:Int).toNat);omega)
   refine aa.fD (by simp[aY];omega) (aa.NC (b:=2) (by decide) (aa.iK (b:=1) ?_))
   have hpk:2^k≤2^12:=Nat.pow_le_pow_right (by decide) (by omega)
   refine Br.dec (fun h1=>JE.mk (MS _ row ?_ ni ?_)) (fun h1=>?_)
   ·rw[qC,if_pos (nE.1.1 h1)]
   ·intro v hv hb
    by_cases e:v=k
    ·subst e;rw[nE.1.1 h1]at hb;cases hb
    ·exact hrow v (by omega) hb
   have yw:a.testBit k=false:=by
    cases h:a.testBit k
    ·rfl
    ·exact absurd (nE.1.2 h) h1
   refine bf.q ?_
   refine ae.eq (B:=B) (D5 ht hf hne aV M6 hlt yw) ?_
   refine Ext.two ?_
   refine aj.nat M6 ?_
   refine Ld.mk (v:=.slice (some ⟨bv,0,none⟩) n n) (by exact .tail _ (.head _)) (by simp[l8.1,M6]) ?_
   refine aj.nat hlt ?_
   refine St.ints (l:=iw row) (by exact .head _) (by simp;omega) ?_
   have e:(iw row).set k ((af.lvl n L a k:Nat):Int)=iw (row.set k (af.lvl n L a k)):=by simp[iw,List.map_set]
   rw[e]
   have MG:∀v,v<k+1→a.testBit v=false→(row.set k (af.lvl n L a k))[v]? =some (af.lvl n L a v):=fun v hv hb=>by
    rw[List.getElem?_set]
    by_cases e:k=v
    ·subst e;simp[ni,hlt]
    ·rw[if_neg e];exact hrow v (by omega) hb
   have rh:=af.vR yw
   have hslt:=af.dc (b:=true) M6 hlt
   have Rq:=sQ.2 (af.au a k true) (by have:=Nat.two_pow_pos k;omega) hslt
   have OD:=mY nj a k
   have OC:=ov nj (af.au a k true)
   have hstep:=qC (n:=n) (c:=af.lvl n L) (a:=a) (k:=k)
   rw[if_neg (by rw[yw];decide)]at hstep
   have Lj:∀{K:Value→Prop},K (.int .i64 ((2^k:Nat):Int))→aa .num .shl (.int .i64 1) (.int .i64 (k:Int)) K:=fun hK=>
    aa.kf (a:=1) (by simp[IntKind.bits];omega) (by rw[Nat.one_shiftLeft];simp[aY];omega) (by rw[Nat.one_shiftLeft];exact hK)
   have wS:∀{row':List Nat} {K:Value→Prop},K (.int .i64 ((af.lvl n L a k+af.B n (af.lvl n L) (af.au a k true):Nat):Int))→aa .num .shl (.int .i64 1) (.int .i64 (k:Int)) fun XC=>aa .num .add (.int .i64 (a:Int)) XC fun XB=>aj 1 (.slice (some ⟨b6,0,none⟩) (2^n) (2^n)) XB fun Tt=>
     Ld ((bv,.cells (az .i64 (iw row')) 3 (0,0))::(b8,.cells (lv.set a (.slice (some ⟨bv,0,none⟩) n n)).toArray 25 (0,0))::(b6,.cells (az .i64 (iw bl)) 3 (0,0))::(C++B)) Tt fun XA=>aa .num .add (.int .i64 ((af.lvl n L a k:Nat):Int)) XA K:=fun hK=>by
    refine Lj ?_
    refine aa.dx ?_
    rw[←rh]
    refine aj.nat hslt ?_
    refine Ld.mk (v:=.int .i64 ((af.B n (af.lvl n L) (af.au a k true):Nat):Int)) (by exact .tail _ (.tail _ (.head _))) (by simp[az,iw,Rq]) ?_
    exact aa.dx hK
   generalize af.lvl n L a k+af.B n (af.lvl n L) (af.au a k true)=x at hstep wS
   by_cases hl:fA n (af.lvl n L) a k=[]
   ·have hb:gj (fA n (af.lvl n L) a k)=.int .i64 (-1):=by unfold gj;rw[if_pos hl]
    rw[hb]
    refine aa.lss (dO.mk true (fun e=>by simp at e) (fun _=>rfl) fun gs=>Br.yes ?_)
    refine wS (JE.mk ?_)
    have:=MS [x] _ (by rw[hstep,hl];rfl) (by simp[ni]) MG
    simpa[gj,af.c8]using this
   ·have hb:gj (fA n (af.lvl n L) a k)=.int .i64 ((af.c8 (fA n (af.lvl n L) a k):Nat):Int):=by unfold gj;rw[if_neg hl]
    rw[hb]
    have MM:=af.qU (fA n (af.lvl n L) a k) x
    rw[if_neg hl,←hstep]at MM
    have Il:fA n (af.lvl n L) a (k+1)≠[]:=by rw[hstep];simp
    have uS:=MS _ _ rfl (by simp[ni]) MG
    unfold gj at uS
    rw[if_neg Il,MM]at uS
    have hneg:decide (((af.c8 (fA n (af.lvl n L) a k):Nat):Int)<0)=false:=decide_eq_false (by omega)
    refine aa.lss ?_
    rw[hneg]
    by_cases hx:x<af.c8 (fA n (af.lvl n L) a k)
    ·rw[Nat.min_eq_right (by omega)]at uS
     refine dO.mk true (fun _=>wS (aa.cZ ?_)) (fun e=>by simp at e) fun gs=>Br.yes (wS (JE.mk uS))
     exact⟨by trivial,by rw[decide_eq_true hx]⟩
    ·rw[Nat.min_eq_left (by omega)]at uS
     refine dO.mk false (fun _=>wS (aa.cZ ?_)) (fun e=>by simp at e) fun gs=>Br.no (JE.mk uS)
     exact⟨by trivial,by rw[decide_eq_false hx]⟩
  ·obtain rfl:k=n:=by omega
   have Ew:=CD (n:=k) (a:=a) (by omega)
   have hb:gj (fA k (af.lvl k L) a k)=.int .i64 ((af.B k (af.lvl k L) a:Nat):Int):=by unfold gj;rw[if_neg (GY Ew),DX]
   rw[hb]
   refine aj.nat M6 ?_
   refine St.ints (l:=iw bl) (by repeat (first|exact cA.head _|apply cA.tail|apply cA.bP)) (by simp[sQ.1];omega) ?_
   have e:(iw bl).set a ((af.B k (af.lvl k L) a:Nat):Int)=iw (bl.set a (af.B k (af.lvl k L) a)):=by simp[iw,List.map_set]
   rw[e]
   refine aa.gK (c:=(a:Int) -1) rfl (by omega) ?_
   refine aq.of (.perm ((List.Perm.swap _ _ _).trans (.cons _ (.swap _ _ _)))) ⟨a,bl.set a (af.B k (af.lvl k L) a),lv.set a (.slice (some ⟨bv,0,none⟩) k k),(bv,.cells (az .i64 (iw row)) 3 (0,0))::C,rfl,by omega,rfl,⟨by simp[l8.1],fun a' h1 h2=>?_⟩,⟨by simp[sQ.1],fun a' h1 h2=>?_⟩⟩ (by simp only;omega)
   ·rw[List.getElem?_set]
    by_cases e:a=a'
    ·subst e
     rw[if_pos rfl,if_pos (by rw[l8.1];exact M6)]
     refine⟨_,rfl,row,?_,hrow⟩
     have:=bW.block (kd:=.i64) (B:=(bv,.cells (az .i64 (iw row)) 3 (0,0))::C) (l:=iw row) (cap:=k) (.head _) (by simp[ni])
     rwa [ah,ni]at this
    ·rw[if_neg e]
     obtain⟨u,h3,h4⟩:=l8.2 a' (by omega) h2
     exact⟨u,h3,h4.mono zS⟩
   ·rw[List.getElem?_set]
    by_cases e:a=a'
    ·subst e;rw[if_pos rfl,if_pos (by rw[sQ.1];exact M6)]
    ·rw[if_neg e];exact sQ.2 a' (by omega) h2
 ·have Lt:j=0:=by omega
  subst Lt
  exact jS.mk (by repeat (first|exact aG.refl _|apply aG.cons|apply aG.app)) ⟨b6,b8,bl,lv,rfl,by exact .tail _ (.head _),.head _,l8.mono (fun _ h=>.tail _ (.tail _ (List.mem_append_left _ h))),sQ⟩
theorem P6{ts:List Tb}(hO:fQ ts):∃(n:Nat) (L:List (List Nat)),ts=cY n L∧(L=[]→n=0)∧n≤16∧(∀ws∈L,af.bO n ws)∧(ts.head?.map Tb.n).getD 0=(n:Int):=by
 by_cases h:ts=[]
 ·subst h;exact⟨0,[],rfl,fun _=>rfl,by omega,by simp,rfl⟩
 ·obtain⟨n,L,fU,rfl,hne,hf⟩:=uI hO h
  refine⟨n,L,rfl,fun e=>absurd e hne,fU,hf,?_⟩
  cases L with
  |nil=>exact absurd rfl hne
  |cons x r=>rfl
theorem zA{B:Hp}{v:Value}{ts:List Tb}(ht:bV B v ts)(aV:ts.length<33554432):Px Tryz.prog 89 #[v] B (JI ts B):=by
 refine aW fun g=>Fl ?_
 refine ae.eq (vX ht (by omega)) ?_
 by_cases hO:fQ ts
 case neg=>
  rw[if_neg hO]
  exact Ext.mk rfl (Ext.mk rfl (aa.l6 (a:=5) (b:=0) (Br.dec (fun _=>jS.mk (by repeat (first|exact aG.refl _|apply aG.cons|apply aG.app)) (.inl ⟨hO,rfl⟩)) (fun h=>absurd (by decide) h))))
 rw[if_pos hO]
 obtain⟨n,L,rfl,uT,fU,hf,hn⟩:=P6 hO
 rw[hn]
 rw[aF]at aV
 refine Ext.mk rfl (Ext.mk rfl (aa.l6 (a:=0) (b:=0) (Br.dec (fun h=>absurd rfl h) (fun _=>?_))))
 have p9:=Nat.two_pow_pos n
 refine aa.jb (b:=12) (Br.dec (fun Gn=>jS.mk (by repeat (first|exact aG.refl _|apply aG.cons|apply aG.app)) (.inr ⟨hO,n,L,rfl,uT,fU,hf,.inl ⟨Gn,rfl⟩⟩)) (fun Gn=>?_))
 have ia:n≤12:=by omega
 have iJ:2^n≤2^12:=Nat.pow_le_pow_right (by decide) ia
 refine ae.pq (Jb ht hf uT aV ia) ?_
 rintro r N ⟨b6,b8,bl,lv,rfl,UL,Zb,l8,sQ⟩
 refine Ext.two ?_
 have IQ:L≠[]→jM v n L B:=fun hne=>⟨ht,hf,hne,aV,ia⟩
 have hm0:(af.bg n 0).length=n:=by
  have:af.bg n 0=List.range n:=by unfold af.bg;rw[List.filter_eq_self];simp
  rw[this,List.length_range]
 refine⟨fun vs H=>∃(s:Value) (a:Nat) (l:List Nat) (C:Hp),vs=[s,.int .i64 (a:Int)]∧Xr n (af.lvl n L) s a l C∧H=C++(N++B),
  fun vs _=>(af.bg n (aT vs 1)).length,JE.mk ⟨_,0,[],[],rfl,⟨aK.nil,Nat.two_pow_pos n,by rw[hm0];rfl,by simp⟩,rfl⟩,?_⟩
 rintro Tp To H ⟨s,a,l,C,⟨⟩,hb,rfl⟩ gs
 have xg:=hb.len
 have Lz:=hb.lt
 have QV:∀x∈N++B,x∈C++(N++B):=fun _ h=>List.mem_append_right _ h
 refine aa.kf (a:=1) (by simp[IntKind.bits];omega) (by rw[Nat.one_shiftLeft];simp[aY];omega) ?_
 rw[Nat.one_shiftLeft]
 refine aa.gK (c:=((2^n-1:Nat):Int)) (by omega) (by omega) ?_
 refine aa.cZ (Br.dec (fun hlt=>?_) (fun hlt=>?_))
 ·have Ew:af.bg n a≠[]:=CD (by omega)
  have uS:n≠0:=fun e=>by subst e;omega
  have hne:L≠[]:=fun e=>uS (uT e)
  have nj:=IQ hne
  have sC:l.length<n:=by have:=List.length_pos_iff.2 Ew;omega
  have Pm:n-l.length=n-l.length-1+1:=by omega
  refine⟨fun vs H=>∃(k:Nat),vs=[Tp,.int .i64 (a:Int),.int .i64 (k:Int)]∧k≤n∧(∀u∈af.bg n a,u<k→af.lvl n L a u+af.B n (af.lvl n L) (af.au a u true)≠af.B n (af.lvl n L) a)∧H=C++(N++B),
   fun vs _=>n-aT vs 2,JE.mk ⟨0,rfl,by omega,fun u _ h=>by omega,rfl⟩,?_⟩
  rintro Xw Xv Xu H ⟨k,⟨⟩,hk,hmin,rfl⟩ gs
  refine aa.cZ (Br.dec (fun hlk=>?_) (fun hlk=>?_))
  ·have hpk:2^k≤2^12:=Nat.pow_le_pow_right (by decide) (by omega)
   have Lj:∀{K:Value→Prop},K (.int .i64 ((2^k:Nat):Int))→aa .num .shl (.int .i64 1) (.int .i64 (k:Int)) K:=fun hK=>
    aa.kf (a:=1) (by simp[IntKind.bits];omega) (by rw[Nat.one_shiftLeft];simp[aY];omega) (by rw[Nat.one_shiftLeft];exact hK)
   have hno:¬(a.testBit k=false∧af.lvl n L a k+af.B n (af.lvl n L) (af.au a k true)=af.B n (af.lvl n L) a)→∀(u:Nat),u∈af.bg n a→u<k+1→af.lvl n L a u+af.B n (af.lvl n L) (af.au a u true)≠af.B n (af.lvl n L) a:=fun hx u hu YE=>by
    by_cases e:u=k
    ·subst e;exact fun h=>hx ⟨(af.bI.1 hu).2,h⟩
    ·exact hmin u hu (by omega)
   refine aa.fD (by simp[aY];omega) (aa.NC (b:=2) (by decide) (aa.iK (b:=0) ?_))
   by_cases yw:a.testBit k=true
   ·rw[decide_eq_false (fun h=>by rw[nE.2.1 h]at yw;cases yw)]
    refine dO.mk false (fun e=>by simp at e) (fun _=>rfl) fun gs=>Br.no ?_
    refine aa.inc ?_
    refine aq.mk ⟨k+1,rfl,by omega,hno (fun h=>by rw[yw]at h;cases h.1),rfl⟩ (by rw[bU,bU,bU,bU];show n-(((k:Int)+1).toNat)<n-((k:Int).toNat);omega)
   have yw:a.testBit k=false:=by simpa using yw
   rw[decide_eq_true (nE.2.2 yw)]
   have hmem:k∈af.bg n a:=af.bI.2 ⟨hlk,yw⟩
   have rh:=af.vR yw
   have hslt:=af.dc (b:=true) Lz hlk
   have OD:=mY nj a k
   have OC:=ov nj (af.au a k true)
   obtain⟨u,Pe,row,V7,TX⟩:=l8.2 a (Nat.zero_le _) (by omega)
   have YR:=sQ.2 a (Nat.zero_le _) Lz
   have Pt:=sQ.2 (af.au a k true) (Nat.zero_le _) hslt
   refine dO.mk (decide (af.lvl n L a k+af.B n (af.lvl n L) (af.au a k true)=af.B n (af.lvl n L) a)) (fun _=>?_) (fun e=>by simp at e) fun gs=>?_
   ·refine aj.nat Lz ?_
    refine Ld.mk (v:=u) (QV _ Zb) (by simp[Pe]) ?_
    refine bW.ld V7 (bR (TX k hlk yw)) QV ?_
    refine Lj ?_
    refine aa.dx ?_
    rw[←rh]
    refine aj.nat hslt ?_
    refine Ld.mk (v:=.int .i64 ((af.B n (af.lvl n L) (af.au a k true):Nat):Int)) (QV _ UL) (by simp[az,iw,Pt]) ?_
    refine aa.dx ?_
    refine aj.nat Lz ?_
    refine Ld.mk (v:=.int .i64 ((af.B n (af.lvl n L) a:Nat):Int)) (QV _ UL) (by simp[az,iw,YR]) ?_
    refine aa.iK ?_
    exact⟨by trivial,rfl⟩
   ·refine Br.dec (fun he=>?_) (fun he=>?_)
    ·have Ik:=v9 (f:=n-l.length-1) hmem he hmin
     have hml:=af.eB hmem
     refine an.int (e:=3) (by kernel_rfl) (by kernel_rfl) (by kernel_rfl) fun xb=>?_
     refine aK.app (A:=[_]) hb.own (by exact .head _) (by simp;omega) (by simp;omega) fun v' C' ho=>?_
     refine Lj ?_
     refine aa.dx ?_
     rw[←rh]
     refine aq.of .right ⟨v',af.au a k true,l++[k],C',rfl,⟨by simpa[iw]using ho,hslt,by simp;omega,?_⟩,rfl⟩ (by rw[bU,bU];show(af.bg n (af.au a k true)).length<(af.bg n a).length;omega)
     have:=hb.pre
     rw[Pm,Ik]at this
     rw[List.length_append,List.length_singleton,Nat.sub_add_eq,List.append_assoc]
     exact this
    ·refine aa.inc ?_
     refine aq.mk ⟨k+1,rfl,by omega,hno (fun h=>he h.2),rfl⟩ (by rw[bU,bU,bU,bU];show n-(((k:Int)+1).toNat)<n-((k:Int).toNat);omega)
  ·obtain⟨u,h1,h2,_⟩:=af.nM (c:=af.lvl n L) (f:=0) Ew
   exact absurd h2 (hmin u h1 (by have:=(af.bI.1 h1).1;omega))
 ·have ha:a=2^n-1:=by omega
  have sC:l.length=n:=by rw[ha,wz]at xg;simpa using xg
  have hl:l=af.ord n (af.lvl n L) n 0:=by
   have:=hb.pre
   rw[sC,Nat.sub_self]at this
   simpa[af.ord]using this
  have hown:=hb.own
  rw[hl]at hown
  have YS:=sQ.2 0 (Nat.zero_le _) p9
  refine aj.of 0 rfl (by omega) ?_
  refine Ld.mk (v:=.int .i64 ((af.B n (af.lvl n L) 0:Nat):Int)) (QV _ UL) (by simp[az,iw,YS]) ?_
  exact⟨_,_,rfl,.refl _,(by repeat (first|exact aG.refl _|apply aG.cons|apply aG.app)),.inr ⟨hO,n,L,rfl,uT,fU,hf,.inr ⟨ia,_,C,N,rfl,hown,rfl⟩⟩⟩
def Se(ts:List Tb):Prop:=ts.length<4398046511104∧∀t∈ts,t.ws.length*8≤140737488351232
theorem ud(B:Hp):Px Tryz.prog 69 #[] B (fun r H=>iL H r ⟨3,[216]⟩):=by
 refine aW fun g=>FE ?_
 intro b1 _
 refine an.int (e:=50) (by kernel_rfl) (by kernel_rfl) (by kernel_rfl) fun b2=>?_
 refine Build.mk (cs:=[.int .i64 3,.slice (some ⟨b2,0,none⟩) 1 1]) (by kernel_rfl) ?_
 refine St.q ?_
 refine av.q ?_
 refine jS.mk (by repeat (first|exact aG.refl _|apply aG.cons|apply aG.app)) ⟨_,rfl,Words.block (ws:=[216]) (.head _) (by simp) (by simp)⟩
theorem Eh{B:Hp}{v1 v2:Value}{a b:List Int}(h1:bW .i64 B v1 a)(h2:bW .i64 B v2 b)(aV:a.length<2^62):Rd Tryz.prog 37 #[v1,v2] B (· =.bool (decide (a=b))):=by
 refine aW fun g=>FM ?_
 refine h1.aL (h2.aL ?_)
 refine aa.l6 (Br.dec (fun h=>?_) (fun h=>?_))
 ·exact bK.mk (.refl _) (by rw[decide_eq_false (fun e=>h (by rw[e]))])
 ·refine h1.aL ?_
  have hlen:a.length=b.length:=by omega
  refine⟨fun vs H=>H=B∧∃j:Nat,vs=[.int .i64 (j:Int)]∧j≤a.length∧∀i,i<j→a[i]? =b[i]?,fun vs _=>a.length-aT vs 0,JE.mk ⟨rfl,0,rfl,by omega,by omega⟩,?_⟩
  rintro w H ⟨rfl,j,⟨⟩,hj,aB⟩ gs
  refine aa.cZ (Br.dec (fun hlt=>?_) (fun hlt=>?_))
  ·have ga:a[j]? =some a[j]:=List.getElem?_eq_getElem hlt
   have gb:b[j]? =some b[j]:=List.getElem?_eq_getElem (by omega)
   refine h1.ld ga (fun _ h=>h) (h2.ld gb (fun _ h=>h) ?_)
   refine aa.neq (Br.mk (fun hne=>?_) (fun heq=>?_))
   ·refine bK.mk (.refl _) ?_
    rw[decide_eq_false]
    intro e
    have h3:=congrArg (fun l:List Int=>l[j]?) e
    simp only[ga,gb,Option.some.injEq]at h3
    simp[h3]at hne
   ·refine aa.inc ?_
    refine aq.mk ⟨rfl,j+1,rfl,by omega,fun i hi=>?_⟩ (by simp[aT];omega)
    by_cases e:i=j
    ·subst e;rw[ga,gb];exact congrArg some (by simpa using heq)
    ·exact aB i (by omega)
  ·have:j=a.length:=by omega
   subst this
   refine bK.mk (.refl _) ?_
   rw[decide_eq_true]
   apply List.ext_getElem?
   intro i
   by_cases hi:i<a.length
   ·exact aB i hi
   ·rw[List.getElem?_eq_none (by omega),List.getElem?_eq_none (by omega)]
theorem ZY:af.B 3 (af.lvl 3 [[216]]) 0=3:=by decide+kernel
theorem ZX:af.ord 3 (af.lvl 3 [[216]]) 3 0=[0,1,2]:=by decide+kernel
theorem ZW:af.W 3 (af.lvl 3 [[216]]) 4+af.B 3 (af.lvl 3 [[216]]) 4=4:=by decide+kernel
theorem Cn{n m:Nat}{L M:List (List Nat)}(h:cY n L=cY m M)(hn:L=[]→n=0)(hm:M=[]→m=0):n=m∧L=M:=by
 have e:∀k (X:List (List Nat)),(cY k X).map Tb.ws=X:=fun k X=>by
  unfold cY;rw[List.map_map]
  have:(Tb.ws∘fun ws=>(⟨k,ws⟩:Tb))=id:=rfl
  rw[this,List.map_id]
 have hL:L=M:=by rw[←e n L,h,e]
 subst hL
 refine⟨?_,rfl⟩
 cases L with
 |nil=>rw[hn rfl,hm rfl]
 |cons x r=>
  simp only[cY,List.map_cons,List.cons.injEq,Tb.mk.injEq,and_true]at h
  omega
theorem Dl{n:Nat}{L:List (List Nat)}{B H:Hp}{r:Value}(hn:L=[]→n=0)(hO:fQ (cY n L))(ia:n≤12)(h:JI (cY n L) B r H):
  ∃(s:Value) (C N:Hp),r=.tuple #[.int .i64 ((af.B n (af.lvl n L) 0:Nat):Int),s,.int .i64 0]∧aK 3 .i64 s (iw (af.ord n (af.lvl n L) n 0)) C∧H=C++(N++B):=by
 rcases h with⟨h,_⟩|⟨_,m,M,e,hm,_,_,h⟩
 ·exact absurd hO h
 ·obtain⟨rfl,rfl⟩:=Cn e hn hm
  rcases h with⟨h,_⟩|⟨_,h⟩
  ·omega
  ·exact h
theorem DE{n A:Nat}{L:List (List Nat)}{r:Value}(hn:L=[]→n=0)(hO:fQ (cY n L))(ia:n≤12)(hA:A<2^n)(h:vw (cY n L) A r):
  r=.tuple #[.int .i64 ((af.W n (af.lvl n L) A+af.B n (af.lvl n L) A:Nat):Int),.int .i64 0]:=by
 rcases h with⟨h,_⟩|⟨_,m,M,e,hm,_,_,h⟩
 ·exact absurd hO h
 ·obtain⟨rfl,rfl⟩:=Cn e hn hm
  rcases h with⟨h,_⟩|⟨_,h,_⟩|⟨_,_,h⟩
  ·omega
  ·omega
  ·exact h
theorem Jo(B:Hp):Px Tryz.prog 24 #[] B (fun r _=>r=.bool true):=by
 refine aW fun g=>F0 ?_
 have jF:fQ (cY 3 [[216]]):=by decide+kernel
 refine ae.pq (ud B) ?_
 rintro v N ⟨s,rfl,hw⟩
 refine dW fun b2=>?_
 have ht:bV ((b2,.cells #[.int .i64 3,s] 57 (0,0))::(N++B)) (.slice (some ⟨b2,0,none⟩) 1 1) (cY 3 [[216]]):=bV.one (cap:=0) (t:=⟨3,[216]⟩) (.head _) (hw.mono zS)
 refine ae.pq (Dk ht (by simp[cY])) ?_
 rintro r N2 hb
 obtain⟨so,C,N3,rfl,ho,hH⟩:=Dl (by simp) jF (by omega) hb
 rw[ZX]at ho
 rw[ZY]
 refine Ext.mk rfl (Ext.mk rfl (Ext.mk rfl ?_))
 rw[hH]
 clear hb hH N2
 refine ae.pq (ud _) ?_
 rintro v N4 ⟨s2,rfl,lF⟩
 refine dW fun b5=>?_
 refine ae.pq (DD (A:=4) (ts:=cY 3 [[216]]) (bV.one (cap:=0) (t:=⟨3,[216]⟩) (.head _) (lF.mono zS)) (by simp[cY]) (by omega)) ?_
 rintro r N5 hq
 rw[DE (by simp) jF (by omega) (by omega) hq,ZW]
 refine Ext.two ?_
 intro J hJ
 refine aa.iK (a:=3) (b:=3) (Split.go (by decide) ?_)
 refine an.Ql (e:=3) (by kernel_rfl) (by kernel_rfl) (by kernel_rfl) fun b6=>?_
 refine ae.eq (Eh (a:=iw [0,1,2]) (b:=[0,1,2]) (ho.ints.mono fun _ h=>.tail _ (List.mem_append_right _ (.tail _ (List.mem_append_right _ (List.mem_append_left _ h))))) (bW.block (l:=[0,1,2]) (.head _) (by simp)) (by simp)) ?_
 refine ay.mk (Split.go rfl ?_)
 refine aa.iK (a:=0) (b:=0) (ay.mk (Split.go rfl ?_))
 refine aa.iK (a:=4) (b:=4) (ay.mk (Split.go rfl ?_))
 refine aa.iK (a:=0) (b:=0) (ay.mk (JE.mk (hJ _ _ fun gs=>?_)))
 exact jS.mk (by repeat (first|exact aG.refl _|apply aG.cons|apply aG.app)) rfl
section
open Go.ChangeShapes Go.WideShapes Go.Deep
variable {H:Type} {enc:TypeId×Value→H} {W:World} {base:Nat} {spare:Nat→Bool} {held:Bool}
theorem Qh{l:List Int}(h:∀n∈l,(Lit.int .u64 n).wf=true):∃ws:List Nat,iw ws=l∧∀w∈ws,w<18446744073709551616:=by
 induction l with
 |nil=>exact⟨[],rfl,by simp⟩
 |cons n r ih=>
  obtain⟨ws,h1,h2⟩:=ih fun m hm=>h m (by simp[hm])
  have:=bounds_u64 (h n (by simp))
  refine⟨n.toNat::ws,?_,fun w hw=>?_⟩
  ·simp only[iw,List.map_cons]at h1⊢
   rw[h1];congr 1;omega
  ·rcases List.mem_cons.1 hw with rfl|hw
   ·omega
   ·exact h2 w hw
theorem Nw{fuel:Nat}{cs:List Value}{y:DataW H×List MemPlace}(hl:cs.length=2)(h:DataW.trod enc Tryz.prog W base spare held fuel 57 cs=some y):
  ∃t:Tb,z4 (whole W) cs t∧((∀n∈y.1.weights Tryz.prog 57,n≤reachBytes)→t.ws.length*8≤140737488351232):=by
 obtain⟨xs,n,_,hy,_,hx,hf⟩:=DataW.trod_struct Tryz.underlying57 h
 match cs,hl with
 | [c0,c1],_=>
  have Mz:xs.length=2:=hx
  have k3:Tryz.prog.cellsOf 3=1:=by kernel_rfl
  have X1:Tryz.prog.cellsOf 55=1:=by kernel_rfl
  have SC:Tryz.prog.cellsOf 50=1:=by kernel_rfl
  have g0:DataW.trod enc Tryz.prog W base spare held n 3 (List.take (Tryz.prog.cellsOf 3) [c0,c1])=xs[0]? :=hf 0 _ rfl
  have g1:DataW.trod enc Tryz.prog W base spare held n 55 (List.take (Tryz.prog.cellsOf 55) [c1])=xs[1]? :=hf 1 _ rfl
  rw[k3,List.getElem?_eq_getElem (by omega)]at g0
  rw[X1,List.getElem?_eq_getElem (by omega)]at g1
  simp only[List.take_succ_cons,List.take_zero]at g0 g1
  obtain⟨n0,e0,_,_⟩:=DataW.trod_int Tryz.underlying3 g0
  obtain⟨v,l,e1,hi,hwf,hw⟩:=s8 Tryz.underlying55 Tryz.underlying50 SC g1
  simp only[List.cons.injEq,and_true]at e0 e1
  subst e0;subst e1
  obtain⟨ws,rfl,hlt⟩:=Qh hwf
  refine⟨⟨n0,ws⟩,⟨c1,rfl,hi,hlt⟩,fun aB=>?_⟩
  rcases hw with⟨h1,_⟩|⟨es,sp,h1,h2⟩
  ·have:ws=[]:=by simpa[iw]using h1
   subst this;simp
  ·have hm:(es.length+sp.length)*Tryz.prog.bytesOf 50∈y.1.weights Tryz.prog 57:=by
    rw[hy]
    match xs,Mz with
    | [x0,x1],_=>
     simp only[List.getElem_cons_succ,List.getElem_cons_zero]at h1
     simp only[List.map_cons,List.map_nil,h1,DataW.weights,Tryz.underlying57]
     refine List.mem_append_right _ ?_
     exact List.mem_append_left _ (by rw[DataW.weights,Tryz.underlying55];exact List.mem_cons_self ..)
   have:=aB _ hm
   rw[show Tryz.prog.bytesOf 50=8 by kernel_rfl]at this
   have h3:reachBytes=140737488351232:=rfl
   rw[ah]at h2
   simp only at this⊢
   omega
theorem j4{P:Program}{e:TypeId}:∀{ds:List (DataW H)} {i:Nat} {d:DataW H},ds[i]? =some d→∀n∈d.weights P e,n∈DataW.weightsAll P e ds
 |d0::r,0,d,h,n,hn=>by
  simp only[List.getElem?_cons_zero,Option.some.injEq]at h;subst h
  rw[DataW.weightsAll];exact List.mem_append_left _ hn
 |d0::r,i+1,d,h,n,hn=>by
  rw[DataW.weightsAll];exact List.mem_append_right _ (j4 (by simpa using h) n hn)
 | [],i,d,h,n,hn=>by simp at h
theorem Kk{v:Value}{d:DataW H}{ps:List MemPlace}(h:DataW.Trod enc Tryz.prog W base spare held 28 v d ps)(hv:∃a n c,v=.slice a n c):
  ∃ts,bV (whole W) v ts∧((∀n∈d.weights Tryz.prog 28,n≤reachBytes)→Se ts):=by
 obtain⟨fuel,hf⟩:=h
 obtain⟨v',rs,hcs,Ge,hx,hr⟩:=oD Tryz.underlying28 (k:=2) (by kernel_rfl) (by decide) hf
 have JO:v'=v:=by
  obtain⟨a,n,c,rfl⟩:=hv
  simpa[Value.cells]using hcs.symm
 subst JO
 have hex:∀(rs:List (List Value)) (j:Nat),(∀r∈rs,r.length=2)→(∀(i:Nat) (r:List Value),rs[i]? =some r→∃(fuel:Nat) (y:DataW H×List MemPlace) (es sp:List (DataW H)),DataW.trod enc Tryz.prog W base spare held fuel 57 r=some y∧d=.slice es sp∧es[i+j]? =some y.1)→
   ∃ts:List Tb,ts.length=rs.length∧∀(i:Nat) (r:List Value) (t:Tb),rs[i]? =some r→ts[i]? =some t→z4 (whole W) r t∧((∀n∈d.weights Tryz.prog 28,n≤reachBytes)→t.ws.length*8≤140737488351232):=by
  intro rs
  induction rs with
  |nil=>intro j _ _;exact⟨[],rfl,by simp⟩
  |cons r rest ih=>
   intro j aB hr
   obtain⟨ts,h1,h2⟩:=ih (j+1) (fun r h=>aB r (by simp[h])) fun i r' hi=>by
    have:=hr (i+1) r' (by simpa using hi)
    rwa [show i+1+j=i+(j+1)by omega]at this
   obtain⟨f,y,es,sp,h3,h4,h5⟩:=hr 0 r rfl
   obtain⟨t,h6,h7⟩:=Nw (aB r (by simp)) h3
   refine⟨t::ts,by simp[h1],fun i r' t' g1 g2=>?_⟩
   cases i with
   |zero=>
    simp only[List.getElem?_cons_zero,Option.some.injEq]at g1 g2
    subst g1;subst g2
    refine⟨h6,fun aB=>h7 fun n hn=>aB n ?_⟩
    rw[h4,DataW.weights,Tryz.underlying28]
    exact .tail _ (List.mem_append_left _ (j4 h5 n hn))
   |succ i=>exact h2 i r' t' (by simpa using g1) (by simpa using g2)
 obtain⟨ts,h1,h2⟩:=hex rs 0 Ge.1 hr
 refine⟨ts,⟨rs,Ge,h1.symm,fun i r x g1 g2=>(h2 i r x g1 g2).1⟩,fun aB=>⟨?_,fun t ht=>?_⟩⟩
 ·rcases hx with⟨h3,_⟩|⟨es,sp,h3,h4⟩
  ·subst h3;have:=h1;simp at this;subst this;simp
  ·simp only at h3
   have:=aB ((es.length+sp.length)*Tryz.prog.bytesOf 57) (by rw[h3,DataW.weights,Tryz.underlying28];exact List.mem_cons_self ..)
   rw[show Tryz.prog.bytesOf 57=32 by kernel_rfl]at this
   have h5:=reachBytes_lt
   omega
 ·obtain⟨i,hi,e⟩:=List.mem_iff_getElem.1 ht
  have Uo:i<rs.length:=by omega
  exact(h2 i _ t (List.getElem?_eq_getElem Uo) (by rw[List.getElem?_eq_getElem hi,e])).2 aB
end
end Go.Proofs
set_option maxRecDepth 100000
namespace Go.Proofs
open Go Go.Sx
open aU
section
open Go.ChangeShapes Go.WideShapes Go.Deep
variable {H:Type} {enc:TypeId×Value→H} {W:World} {base:Nat} {spare:Nat→Bool} {held:Bool}
theorem Kw{xs:List (DataW H×List MemPlace)}(hx:xs.length=4){m:Nat}(hm:m∈DataW.weights Tryz.prog 28 (xs[2].1)):m∈DataW.weights Tryz.prog 62 (.agg (xs.map (·.1))):=by
 match xs,hx,hm with
 | [x0,x1,x2,x3],_,hm=>
  simp only[List.map_cons,List.map_nil,DataW.weights,Tryz.underlying62]
  exact List.mem_append_right _ (List.mem_append_right _ (List.mem_append_left _ hm))
theorem GZ{v:Value}{d:DataW H}{ps:List MemPlace}(h:DataW.Trod enc Tryz.prog W base spare held 62 v d ps)(hv:∃cs,v=.agg cs∧cs.size=Tryz.prog.cellsOf 62):
  ∃(n c:Int) (vl vv:Value) (ts:List Tb) (wC:List Int),v=.agg #[.int .i64 n,.int .i64 c,vl,vv]∧bV (whole W) vl ts∧bW .i64 (whole W) vv wC∧((∀n∈d.weights Tryz.prog 62,n≤reachBytes)→Se ts):=by
 obtain⟨fuel,YW⟩:=h
 obtain⟨WZ,rfl,hsz⟩:=hv
 obtain⟨xs,n,_,hy,_,hx,hf⟩:=DataW.trod_struct Tryz.underlying62 YW
 have k4:Tryz.prog.cellsOf 62=4:=by kernel_rfl
 rw[k4]at hsz
 obtain⟨l⟩:=WZ
 match l,hsz with
 | [c0,c1,c2,c3],_=>
  have Ya:xs.length=4:=hx
  have ki:Tryz.prog.cellsOf 3=1:=by kernel_rfl
  have kt:Tryz.prog.cellsOf 28=1:=by kernel_rfl
  have kl:Tryz.prog.cellsOf 25=1:=by kernel_rfl
  have g0:DataW.trod enc Tryz.prog W base spare held n 3 (List.take (Tryz.prog.cellsOf 3) [c0,c1,c2,c3])=xs[0]? :=hf 0 _ rfl
  have g1:DataW.trod enc Tryz.prog W base spare held n 3 (List.take (Tryz.prog.cellsOf 3) [c1,c2,c3])=xs[1]? :=hf 1 _ rfl
  have g2:DataW.trod enc Tryz.prog W base spare held n 28 (List.take (Tryz.prog.cellsOf 28) [c2,c3])=xs[2]? :=hf 2 _ rfl
  have g3:DataW.trod enc Tryz.prog W base spare held n 25 (List.take (Tryz.prog.cellsOf 25) [c3])=xs[3]? :=hf 3 _ rfl
  rw[ki,List.getElem?_eq_getElem (by omega)]at g0 g1
  rw[kt,List.getElem?_eq_getElem (by omega)]at g2
  rw[kl,List.getElem?_eq_getElem (by omega)]at g3
  simp only[List.take_succ_cons,List.take_zero]at g0 g1 g2 g3
  obtain⟨n0,e0,_,_⟩:=DataW.trod_int Tryz.underlying3 g0
  obtain⟨n1,e1,_,_⟩:=DataW.trod_int Tryz.underlying3 g1
  obtain⟨v3,wC,e3,hi,_,_⟩:=s8 Tryz.underlying25 Tryz.underlying3 ki g3
  obtain⟨v2,rs,e2,Ge,_,_⟩:=oD Tryz.underlying28 (k:=2) (by kernel_rfl) (by decide) g2
  simp only[List.cons.injEq,and_true]at e0 e1 e2 e3
  subst e0;subst e1;subst e2;subst e3
  obtain⟨a,cc,rfl,_⟩:=Ge.shape
  obtain⟨ts,hts,hfit⟩:=Kk (v:=.slice a rs.length cc) (d:=xs[2].1) (ps:=xs[2].2) ⟨n,by rw[show(xs[2].1,xs[2].2)=xs[2]from rfl,←g2];rfl⟩ ⟨_,_,_,rfl⟩
  refine⟨n0,n1,_,_,ts,wC,rfl,hts,hi,fun aB=>hfit fun m hm=>aB m ?_⟩
  have hd:d=.agg (xs.map (·.1)):=congrArg Prod.fst hy
  rw[hd]
  exact Kw Ya hm
end
theorem OT{B:Hp}{n c:Int}{vl vv:Value}{ts:List Tb}{wC:List Int}(hL:bV B vl ts)(hv:bW .i64 B vv wC):
  Rd Tryz.prog 30 #[.agg #[.int .i64 n,.int .i64 c,vl,vv]] B (fun r=>r=.bool false∨(r=.bool true∧∃(m k:Nat) (L:List (List Nat)),n=(m:Int)∧c=(k:Int)∧(1≤m∧m≤8)∧(2≤k∧k≤1048576)∧ts=cY m L∧(∀t∈L,af.bO m t)∧L.length≤40∧wC.length≤200)):=by
 refine aW fun g=>FV ?_
 intro b1 _
 refine Ld.f ?_
 refine aa.lss ?_
 refine dO.or (decide (8<n)) (fun _=>Ld.f (v:=.int .i64 n) (aa.gtr ⟨rfl,rfl⟩)) rfl fun gs=>?_
 refine dO.or (decide (c<2)) (fun _=>Ld.f (v:=.int .i64 c) (aa.lss ⟨rfl,rfl⟩)) rfl fun gs=>?_
 refine dO.or (decide (1048576<c)) (fun _=>Ld.f (v:=.int .i64 c) (aa.gtr ⟨rfl,rfl⟩)) rfl fun gs=>?_
 refine dO.or (decide (40<ts.length)) (fun _=>Ld.f (v:=vl) (hL.aL (aa.jb (b:=40) ⟨rfl,rfl⟩))) rfl fun gs=>?_
 refine dO.or (decide (200<wC.length)) (fun _=>Ld.f (v:=vv) (hv.aL (aa.jb (b:=200) ⟨rfl,rfl⟩))) rfl fun gs=>?_
 rw[←Bool.decide_or,←Bool.decide_or,←Bool.decide_or,←Bool.decide_or,←Bool.decide_or]
 refine Br.dec (fun hb=>?_) (fun hb=>?_)
 ·exact bK.mk .tail (.inl rfl)
 obtain⟨m,rfl⟩:∃m:Nat,n=m:=⟨n.toNat,by omega⟩
 obtain⟨k,rfl⟩:∃k:Nat,c=k:=⟨c.toNat,by omega⟩
 refine Ld.f (v:=vl) ?_
 refine hL.aL ?_
 refine⟨fun vs H=>∃i:Nat,vs=[.int .i64 (i:Int)]∧i≤ts.length∧H=(b1,.cells #[.int .i64 (m:Int),.int .i64 (k:Int),vl,vv] 62 (0,0))::B∧∀t∈ts.take i,t.n=(m:Int)∧TF t,fun vs _=>ts.length-aT vs 0,JE.mk ⟨0,rfl,Nat.zero_le _,rfl,by simp⟩,?_⟩
 rintro w40 H ⟨i,⟨⟩,hi,rfl,aB⟩ gs
 refine aa.cZ (Br.dec (fun hlt=>?_) (fun hge=>?_))
 ·have HY:ts[i]? =some ts[i]:=List.getElem?_eq_getElem hlt
  refine hL.ld HY (fun _ h=>.tail _ h) fun s hw=>?_
  have hone:=ax hw
  intro b44 _
  refine St.p (by simpa[Value.oneCell']using hone) ?_
  intro J47 WV
  refine Ld.f (v:=.int .i64 ts[i].n) ?_
  refine Ld.f (v:=.int .i64 (m:Int)) ?_
  refine aa.fZ ?_
  by_cases hn:ts[i].n=(m:Int)
  ·rw[decide_eq_false (fun h=>h hn)]
   refine Split.go rfl ?_
   refine av.q ?_
   refine ae.eq (B:=B) (qE (t:=ts[i]) ⟨s,rfl,hw⟩) ?_
   refine Un.not (ay.mk (JE.mk (WV _ _ fun gs=>?_)))
   by_cases hf:TF ts[i]
   ·rw[decide_eq_true hf]
    refine Br.no ?_
    refine aa.inc ?_
    refine aq.of .tail ⟨i+1,rfl,hlt,rfl,fun t ht=>?_⟩ (by simp only[aT];omega)
    rw[List.take_succ_eq_append_getElem hlt]at ht
    rcases List.mem_append.1 ht with ht|ht
    ·exact aB t ht
    ·rw[List.mem_singleton.1 ht];exact⟨hn,hf⟩
   ·rw[decide_eq_false hf]
    exact Br.yes (bK.mk (.skip .tail) (.inl rfl))
  ·rw[decide_eq_true hn]
   refine Split.KJ rfl (ay.mk (JE.mk (WV _ _ fun gs=>?_)))
   exact Br.yes (bK.mk (.skip .tail) (.inl rfl))
 ·have js:ts.take i=ts:=List.take_of_length_le (by omega)
  rw[js]at aB
  refine bK.mk .tail (.inr ⟨rfl,m,k,ts.map Tb.ws,rfl,rfl,by omega,by omega,?_,fun t ht=>?_,by rw[List.length_map];omega,by omega⟩)
  ·unfold cY
   rw[List.map_map]
   conv=>lhs;rw[←List.map_id ts]
   refine List.map_congr_left fun t ht=>?_
   obtain⟨tn,tw⟩:=t
   have:=(aB _ ht).1
   simp only at this
   subst this;rfl
  ·obtain⟨t',ht',rfl⟩:=List.mem_map.1 ht
   obtain⟨h1,h2⟩:=aB t' ht'
   have:=h2.2
   rw[h1]at this
   simpa using this
end Go.Proofs
namespace aU
section
variable {m:Rm} {g:Nat}
theorem qK{p q:List Nat}(hq:q.Nodup)(hp:p.Perm q):∀i,i≤q.length→2*(aS p q i).length+i*i≤i*(2*p.length-1)
 |0,_=>by simp[aS]
 |i+1,hi=>by
  have:=qK hq hp i (by omega)
  obtain⟨_,_,h3⟩:=fE hq hp i (by omega)
  have hl:=hp.length_eq
  rw[aS,List.length_append,vk]
  have h4:=(h3 (by omega)).2
  have e1:(i+1)*(i+1)=i*i+i+i+1:=by rw[Nat.succ_mul,Nat.mul_succ];omega
  have e2:(i+1)*(2*p.length-1)=i*(2*p.length-1)+(2*p.length-1):=Nat.succ_mul _ _
  rw[e1,e2]
  omega
theorem qJ{p q:List Nat}{n:Nat}(hq:q.Nodup)(hp:p.Perm q)(hn:q.length=n):2*(path p q).length≤n*(n-1):=by
 have:=qK hq hp q.length (Nat.le_refl _)
 have hl:=hp.length_eq
 rw[hl,hn]at this
 unfold path
 rw[hn]
 cases n with
 |zero=>simpa using this
 |succ k=>
  rw[show 2*(k+1) -1=(k+1)+k by omega,Nat.mul_add (k+1) (k+1) k]at this
  show 2*(aS p q (k+1)).length≤(k+1)*k
  omega
end
end aU
namespace aU
theorem o5{i j:Nat}(hij:i≤j):∀{p:Nat},j≤p→iG i p=iG j p++iG i j
  |0,hp=>by
    obtain rfl:j=0:=by omega
    simp[iG]
  |p+1,hp=>by
    by_cases e:j≤p
    · rw[fP (show i≤p by omega),fP e,o5 hij e];rfl
    · obtain rfl:j=p+1:=by omega
      rw[jJ (Nat.le_refl _)];rfl
theorem pB(p q:List Nat){i:Nat}:∀{m:Nat},i≤m→∃r,aS p q m=aS p q i++r
  |0,h=>by
    obtain rfl:i=0:=by omega
    exact⟨[],by simp⟩
  |m+1,h=>by
    by_cases e:i≤m
    · obtain⟨r,hr⟩:=pB p q e
      exact⟨r++iG m (Gb (bc p (aS p q m)) (q.getD m 0)),by rw[aS,hr,List.append_assoc]⟩
    · obtain rfl:i=m+1:=by omega
      exact⟨[],by simp⟩
theorem KI{p q:List Nat}{i j:Nat}(hi:i<q.length)(hij:i≤j)(hj:j≤Gb (bc p (aS p q i)) (q.getD i 0)):
    (∃r,path p q=(aS p q i++iG j (Gb (bc p (aS p q i)) (q.getD i 0)))++r)∧(i<j→∃r,path p q=(aS p q i++iG j (Gb (bc p (aS p q i)) (q.getD i 0)))++(j-1)::r):=by
  obtain⟨r,hr⟩:=pB p q (show i+1≤q.length by omega)
  have e:path p q=(aS p q i++iG j (Gb (bc p (aS p q i)) (q.getD i 0)))++(iG i j++r):=by
    unfold path;rw[hr,aS,o5 hij hj];simp
  refine⟨⟨_,e⟩,fun h=>?_⟩
  obtain⟨k,rfl⟩:∃k,j=k+1:=⟨j-1,by omega⟩
  rw[fP (show i≤k by omega)]at e
  exact⟨iG i k++r,by rw[e];simp⟩
theorem rW{j p:Nat}(hj:0<j)(hp:j≤p):iG (j-1) p=iG j p++[j-1]:=by
  obtain⟨k,rfl⟩:∃k,j=k+1:=⟨j-1,by omega⟩
  rw[o5 (show k+1-1≤k+1 by omega) hp]
  congr 1
  rw[show k+1-1=k by omega,fP (Nat.le_refl _),jJ (Nat.le_refl _)]
theorem ta{ord:List Nat}:∀{ls:List Nat},(∀l∈ls,l+1<ord.length)→bc (bc ord ls) ls.reverse=ord
  | [],_=>rfl
  |l::r,h=>by
    rw[List.reverse_cons,qs]
    show dQ (bc (bc (dQ ord l) r) r.reverse) l=ord
    rw[ta (ord:=dQ ord l) (fun x hx=>by rw[gp];exact h x (List.mem_cons_of_mem _ hx)),p6 (h l (List.mem_cons_self ..))]
theorem Rm.LW(m:Rm){ord ls a r:List Nat}{l:Nat}(e:ls=a++l::r)(ha:a.length≤(m.ct 0 ls ord).length):m.fit (bc ord a) l=true↔a.length<(m.ct 0 ls ord).length:=by
  have hg:ls[a.length]? =some l:=by rw[e];simp
  have ht:ls.take a.length=a:=by rw[e];simp
  constructor
  · intro h
    refine Classical.byContradiction fun hn=>?_
    have he:(m.ct 0 ls ord).length=a.length:=by omega
    have:=m.tS (ord:=ord) (ls:=ls) (l:=l) (by rw[he];exact hg)
    rw[he,ht,h]at this;cases this
  · intro h
    have:=m.xu (ord:=ord) h hg
    rwa [ht]at this
theorem Hx{n:Nat}{L L':af.Fs}(h:∀t,t∈L↔t∈L')(A v:Nat):af.lvl n L A v=af.lvl n L' A v:=by
  have key:∀k t,t∈af.st n L A k↔t∈af.st n L' A k:=by
    intro k
    induction k with
    |zero=>intro t;rw[af.st,af.st,af.bY,af.bY];exact h t
    |succ k ih=>
      intro t
      rw[af.st,af.st]
      split
      · rw[af.bt,af.bt]
        constructor<;>rintro⟨u,h1,h2⟩
        · exact⟨u,(ih u).1 h1,h2⟩
        · exact⟨u,(ih u).2 h1,h2⟩
      · exact ih t
  have nd:∀(L:af.Fs) k,(af.st n L A k).Nodup:=by
    intro L k
    induction k with
    |zero=>exact af.fc L
    |succ k ih=>
      rw[af.st]
      split
      · exact af.iu _ _ _
      · exact ih
  exact af.gP (af.fh (nd L n) (nd L' n) (key n))
end aU
set_option maxRecDepth 100000
namespace Go.Proofs
open Go Go.Sx
open aU
theorem Kt{k j:Nat}{B:Hp}{v:Value}{rs:List (List Value)}{kd:IntKind}{K:Value→Prop}(h:Sl k B v rs)(hj:j≤rs.length)(hK:∀v',Sl k B v' (rs.take j)→(∃a c,v'=.slice a j c)→K v'):di k v none (some (.int kd (j:Int))) K:=by
 obtain⟨h0,h⟩:=h
 have hlen:(rs.take j).length=j:=by rw[List.length_take];omega
 have PE:∀r∈rs.take j,r.length=k:=fun r hr=>h0 r (List.mem_of_mem_take hr)
 rcases h with⟨a,cap,rfl,rfl⟩|⟨b,o,cap,c,T,fz,rfl,h2,h3,h4,h5⟩
 ·obtain rfl:j=0:=by simpa using hj
  exact di.upto (Nat.zero_le _) (hK _ ⟨by simp,.inl ⟨a,cap,rfl,by simp⟩⟩ ⟨_,_,rfl⟩)
 ·refine di.upto (by omega) (hK _ ⟨PE,.inr ⟨b,o,cap,c,T,fz,by rw[hlen],by omega,h3,?_,fun i r hr j' v hv=>?_⟩⟩ ⟨_,_,rfl⟩)
  ·rw[hlen]
   have:j*k≤rs.length*k:=Nat.mul_le_mul_right _ hj
   omega
  ·refine h5 i r ?_ j' v hv
   rw[List.getElem?_take]at hr
   split at hr
   ·exact hr
   ·cases hr
theorem Es{j:Nat}{B:Hp}{v:Value}{l:List Int}{kd qY:IntKind}{K:Value→Prop}(h:bW kd B v l)(hj:j≤l.length)(hK:∀v',bW kd B v' (l.take j)→K v'):di 1 v none (some (.int qY (j:Int))) K:=
 Kt h (by simpa using hj) fun v' h' _=>hK v' (by unfold bW;rw[List.map_take];exact h')
section
variable {mp:Nat} {M:Md} {B:Hp}
theorem tF(h:vx mp M B)(hn:M.ord.length≤64){j v:Nat}(hj:M.ord[j]? =some v)(fB:M.ord.Nodup):Rd Tryz.prog 90 #[ptr mp,.int .i64 (v:Int)] B (· =.int .i64 (j:Int)):=by
 obtain⟨vo,vh,vt,rs,hR⟩:=h
 refine aW fun g=>Fk ?_
 refine Ld.v hR.ue ?_
 refine hR.ord.aL ?_
 rw[ah]
 have Iv:=(List.getElem?_eq_some_iff.1 hj).1
 refine⟨fun vs H=>∃i:Nat,vs=[.int .i64 (i:Int)]∧i≤j∧H=B,fun vs _=>M.ord.length-aT vs 0,JE.mk ⟨0,rfl,Nat.zero_le _,rfl⟩,?_⟩
 rintro w H ⟨i,⟨⟩,hi,rfl⟩ gs
 have fK:M.ord[i]? =some (M.ord[i]'(by omega)):=List.getElem?_eq_getElem (by omega)
 refine aa.cZ ?_
 refine Br.T ?_
 refine hR.ord.ld (n:=(((M.ord[i]'(by omega)):Nat):Int)) (bR fK) (fun _ h=>h) ?_
 refine aa.iK (Br.dec (fun he=>?_) (fun he=>?_))
 ·have:i=j:=(List.getElem?_inj (by omega) fB).1 (by rw[fK,hj,he])
  subst this
  exact bK.mk (.refl _) rfl
 ·have:i≠j:=fun e=>by subst e;rw[fK]at hj;exact he (Option.some.inj hj)
  refine aa.inc ?_
  exact aq.mk ⟨i+1,rfl,by omega,rfl⟩ (by simp only[aT];omega)
theorem DF(h:vx mp M B)(hM:M.gB){j v:Nat}(hj:M.ord[j]? =some v)(fB:M.ord.Nodup):Px Tryz.prog 94 #[ptr mp,.int .i64 (v:Int)] B (fun r _=>r=.int .i64 (((jA M.n M.ord M.aM j).length:Nat):Int)):=by
 have h1:=hM.len
 have h2:=hM.jz
 have Iv:=(List.getElem?_eq_some_iff.1 hj).1
 refine aW fun g=>Fg ?_
 refine ae.eq (tF h (by omega) hj fB) ?_
 refine aa.lss ?_
 rw[decide_eq_false (by omega)]
 refine Br.no ?_
 refine ae.pq (qS h hM) ?_
 intro w N hL
 refine hL.ld (lq (by omega)) (fun _ h=>h) fun x hx=>?_
 refine hx.aL ?_
 rw[aF]
 exact jS.mk (.app (.refl _)) rfl
theorem GH{X H:Hp}{l:Nat}{t:List Nat}(h:eU mp M X H)(hM:M.gB)(ht:M.tr=t++[l])(hl:l+1<M.n):Fc Tryz.prog 170 #[ptr mp] H (fun v H'=>v=.tuple #[.int .i64 (l:Int),.int .i64 0]∧eU mp {M with ord:=dQ M.ord l,tr:=t} X H'):=by
 have hn:=hM.jz
 have TY:=hM.VQ
 have hlen:=hM.len
 have Qv:M.tr.length=t.length+1:=by rw[ht];simp
 obtain⟨vo,vh,vt,rs,CO,CH,CT,rfl,hO⟩:=h
 refine aW fun g=>Bq ?_
 refine Ld.n ?_
 refine hO.tr.aL ?_
 rw[ah]
 refine aa.iK (b:=0) (Br.F ?_)
 refine Ld.n ?_
 refine Ld.n ?_
 refine hO.tr.aL ?_
 rw[ah]
 refine aa.bX (b:=1) ?_
 have hgt:M.tr[M.tr.length-1]? =some l:=by rw[ht];simp
 refine hO.tr.ints.ld (n:=((l:Nat):Int)) (bR hgt) (fun _ h=>.tail _ (List.mem_append_right _ (List.mem_append_right _ (List.mem_append_left _ h)))) ?_
 refine Ld.n ?_
 refine ae.fq (mI hO.ord.ints (by omega) (by omega)) ?_
 rintro v H ⟨N,rfl,ho⟩
 refine Nil.ptr (ag.mk (St.one (c':=cE M v vh vt) (by exact .head _) ho.one (by simp[cE]) rfl ?_))
 refine DR.self ?_
 refine Ld.n ?_
 refine Ld.n ?_
 refine hO.tr.aL ?_
 rw[ah]
 refine aa.bX (b:=1) ?_
 refine Es (hO.tr.ints) (by rw[ah];omega) fun v' wP=>?_
 rw[show(iw M.tr).take (M.tr.length-1)=iw t by rw[ht];simp[iw]]at wP
 have hnew:bj ([]:Hp) ((mp,Obj.cells (cE M v vh vt) 74 (0,0))::((N++CO)++(CH++(CT++X)))) (fun Z=>Z++((mp,Obj.cells (cE M v vh vt) 74 (0,0))::((N++CO)++(CH++(CT++X))))):=bj.left (C:=[])
 refine aK.mC (C:=[]) aK.nil hnew (l2:=iw t) (wP.mono fun _ h=>.tail _ (List.mem_append_right _ (List.mem_append_right _ (List.mem_append_left _ h)))) (by rw[ah];simp;omega) (by rw[ah];simp;omega) fun v2 C2 jQ=>?_
 refine⟨.right,?_⟩
 refine Nil.ptr (ag.mk (St.one (c':=cE M v vh v2) (by exact .bP (.head _) _) jQ.one (by simp[cE]) rfl ?_))
 refine bN.mk (jk:=(mp,.cells (cE M v vh v2) 74 (0,0))::(N++(CH++(C2++X)))) ?_ ⟨rfl,v,vh,v2,rs,N,CH,C2,rfl,ho,hO.sl,hO.each,by simpa using jQ⟩
 refine .trans (.perm List.perm_middle) (.cons (.trans (.cv (aJ.assoc.trans (.cv (.trans .right (.cv .right _)) _)) _) (.perm ?_)))
 rw[←List.append_assoc N,←List.append_assoc N]
 exact List.perm_append_comm_assoc _ _ _
theorem Md.gB.pT(h:M.gB){o tr:List Nat}(hp:o.Perm (List.range M.n))(lH:tr.length≤1099511627776):Md.gB {M with ord:=o,tr:=tr}:=⟨h.jz,h.cap,(bT hp).1,(bT hp).2,h.ic,h.Gp,h.cnt,lH⟩
theorem zP{X H:Hp}{o t ls:List Nat}(h:eU mp {M with ord:=o,tr:=t++ls} X H)(hM:M.gB)(hp:o.Perm (List.range M.n))(hls:∀x∈ls,x+1<M.n)(lH:(t++ls).length≤1000000):
  Fc Tryz.prog 91 #[ptr mp,.int .i64 (t.length:Int)] H (fun v H'=>v=.int .i64 (ls.length:Int)∧eU mp {M with ord:=bc o ls.reverse,tr:=t} X H'):=by
 rw[List.length_append]at lH
 refine aW fun g=>Fj ?_
 refine⟨fun vs H=>∃(k:Nat) (a b:List Nat),vs=[.int .i64 (k:Int)]∧ls=a++b∧b.length=k∧eU mp {M with ord:=bc o b.reverse,tr:=t++a} X H,fun vs _=>ls.length-aT vs 0,JE.mk ⟨0,ls,[],rfl,by simp,rfl,h⟩,?_⟩
 rintro w H ⟨k,a,b,⟨⟩,rfl,hb,hd⟩ gs
 rw[List.length_append]at lH
 have ho:∀{y:List Nat},(∀x∈y,x∈a++b)→(bc o y).Perm (List.range M.n):=fun{y} hy=>(gC fun x hx=>by rw[(bT hp).1];exact hls x (hy x hx)).trans hp
 have hf:Md.gB {M with ord:=bc o b.reverse,tr:=t++a}:=hM.pT (ho fun x hx=>List.mem_append_right _ (List.mem_reverse.1 hx)) (by rw[List.length_append];omega)
 obtain⟨vo,vh,vt,rs,hR⟩:=hd.rd
 refine Ld.v hR.ue ?_
 refine hR.tr.aL ?_
 rw[ah]
 show aa .num .gtr (.int .i64 (((t++a).length:Nat):Int)) _ _
 rw[List.length_append]
 refine aa.jb (Br.dec (fun hlt=>?_) (fun hge=>?_))
 ·obtain⟨a',l,rfl⟩:∃a' l,a=a'++[l]:=by
   have:a≠[]:=fun e=>by rw[e]at hlt;simp at hlt
   exact⟨a.dropLast,a.getLast this,(List.dropLast_concat_getLast this).symm⟩
  refine ae.fq (GH (t:=t++a') hd hf (by show t++(a'++[l])=_;simp) (hls l (by simp))) ?_
  rintro v H' ⟨rfl,dm⟩
  refine aa.inc ?_
  refine aq.mk ⟨k+1,a',l::b,rfl,by simp,by simp[hb],?_⟩ (by simp only[aT];simp at*;omega)
  have e:bc o (l::b).reverse=dQ (bc o b.reverse) l:=by rw[List.reverse_cons,iP]
  rw[e];exact dm
 ·obtain rfl:a=[]:=List.eq_nil_of_length_eq_zero (by omega)
  refine bN.here ⟨by simp[hb],?_⟩
  rw[List.append_nil]at hd
  exact hd
end
end Go.Proofs
set_option maxRecDepth 100000
namespace Go.Proofs
open Go Go.Sx
open aU
section
variable {kp mb zR b1 b7 zQ bn:Nat} {K:Kd} {S:Nat→aU.Fn} {ord ak tr:List Nat} {C:Hp}
def kr(r:Nat):Value:=u32 r
theorem qW(a b:Nat):Instr.sameNow (.int .u32) (kr a) (kr b)=some (decide (a=b)):=by
 simp only[Instr.sameNow,kr,u32,if_true,Option.some.injEq]
 rw[Bool.eq_iff_iff];simp;omega
theorem uP(a:Nat):Instr.sameBits 10000 (kr a) (kr a)=true:=by simp[Instr.sameBits,kr,u32]
structure Kn(n:Nat)(S:Nat→aU.Fn)(es:Array MapEntry)(ck:Nat)(m:List (Nat×Value))(Y:Hp):Prop where
 nr:aX kr (fun v x=>v=x) es ck m
 gn:∀r v,dn m r=some v→fW Y v n (S r)
 low:∀r,r<2→dn m r≠none
theorem Kn.mono{n:Nat}{S:Nat→aU.Fn}{es:Array MapEntry}{ck:Nat}{m:List (Nat×Value)}{Y Y':Hp}(h:Kn n S es ck m Y)(hs:∀x∈Y,x∈Y'):Kn n S es ck m Y':=⟨h.nr,fun r v hm=>(h.gn r v hm).mono hs,h.low⟩
theorem fW.one{B:Hp}{v:Value}{n:Nat}{f:aU.Fn}(h:fW B v n f):∃s,v=.agg #[.int .i64 (n:Int),s]∧s.oneCell'=true:=by
 obtain⟨ws,⟨s,rfl,hw⟩,_,_⟩:=h
 exact⟨s,rfl,ax hw⟩
theorem cw{n:Nat}{s:Value}(h:s.oneCell'=true):∀u∈[Value.int .i64 (n:Int),s],u.oneCell'=true:=fun u hu=>by
 simp only[List.mem_cons,List.not_mem_nil,or_false]at hu
 rcases hu with rfl|rfl
 ·rfl
 ·exact h
theorem oI(d:Nd):∀u∈bu d,u.oneCell'=true:=fun u hu=>by
 simp only[bu,List.mem_cons,List.not_mem_nil,or_false]at hu
 rcases hu with rfl|rfl|rfl<;>rfl
theorem Je{X:Hp}(h:g7 kp K S ord ak tr C){r:Nat}{d:Nd}(hd:K.N r=some d):Px Tryz.prog 217 #[ptr kp,u32 r] (X++C) (fun v _=>v=.agg (bu d).toArray):=by
 have hlt:=h.ei (.inr ⟨d,hd⟩)
 refine aW fun g=>AW ?_
 intro b1 _
 refine ae.eq (args:=#[ptr kp,u32 r]) (qZ h.rep (by omega)) ?_
 rw[jc hd (h.ok.mid.two hd).1]
 refine Ext.two ?_
 intro b7 _
 refine St.p (oI d) ?_
 refine av.q ?_
 refine St.p (oI d) ?_
 refine av.q ?_
 exact jS.mk (by repeat (first|exact aG.refl _|apply aG.cons|apply aG.app)) rfl
theorem Jf{X:Hp}{v:Value}(h:g7 kp K S ord ak tr C){rs:List Nat}(hv:bW .u32 (X++C) v (iw rs))(hr:∀r∈rs,live K.N r)(hl:rs.length<4611686018427387904):Px Tryz.prog 150 #[ptr kp,v] (X++C) (fun w _=>w=.int .i64 0):=by
 refine aW fun g=>BM ?_
 refine aa.aC (Br.no ?_)
 refine hv.aL ?_
 rw[ah]
 refine⟨fun vs H=>∃(i:Nat) (N:Hp),vs=[.int .i64 (i:Int)]∧i≤rs.length∧H=N++(X++C),fun vs _=>rs.length-aT vs 0,JE.mk ⟨0,[],rfl,Nat.zero_le _,rfl⟩,?_⟩
 rintro w H ⟨i,N,hw,hi,rfl⟩ gs
 simp only[List.cons.injEq,and_true]at hw
 subst hw
 refine aa.cZ (Br.dec (fun hlt=>?_) (fun hge=>?_))
 ·have rp:=hr _ (List.getElem_mem hlt)
  have eC:=h.ei rp
  refine hv.ld (n:=((rs[i]:Nat):Int)) (bR (List.getElem?_eq_getElem hlt)) (fun _ h=>List.mem_append_right _ h) ?_
  refine ae.eq (args:=#[ptr kp,u32 rs[i]]) (qZ h.rep (by omega)) ?_
  rw[if_pos (cu.2 rp)]
  refine Ext.two ?_
  intro Gq _
  refine St.whole (r:=got K.N rs[i]) (by exact .head _) rfl (cW _ _).1 (cW _ _).2 ?_
  refine aa.fZ (Br.F ?_)
  refine aa.inc ?_
  exact aq.mk ⟨i+1,_::N,rfl,hlt,rfl⟩ (by simp only[aT];omega)
 ·exact jS.mk (by repeat (first|exact aG.refl _|apply aG.cons|apply aG.app)) rfl
theorem I0{X:Hp}{n:Nat}(hn:n≤16){d:Nd}(hd:d.v<n){v1 v2:Value}{f1 f2:aU.Fn}(h1:fW X v1 n f1)(h2:fW X v2 n f2)(hm:(bn,Obj.cells #[.int .i64 (n:Int)] 3 (0,0))∈X):
  Px Tryz.prog 152 #[.agg (bu d).toArray,v1,v2,ptr bn] X (fun w H=>fW H w n (fun x=>if x.testBit d.v then f2 x else f1 x)):=by
 obtain⟨s1,rfl,o1⟩:=h1.one
 obtain⟨s2,rfl,o2⟩:=h2.one
 refine aW fun g=>BJ ?_
 intro c1 _ c3 _ c5 _ c7 _
 refine Ld.mk (v:=.int .i64 (n:Int)) (by exact .tail _ (.tail _ (.tail _ (.tail _ hm)))) rfl ?_
 refine Ld.f ?_
 refine ae.px (bj.left (C:=[]) (A:=_)) (Kg hn hd []) ?_
 rintro w N ⟨t,rfl,ht⟩
 rw[List.append_nil]at ht⊢
 obtain⟨s3,rfl,o3⟩:=ht.one
 refine Ext.two ?_
 intro Nl _
 refine St.p (cw o3) ?_
 refine av.q ?_
 refine av.q ?_
 refine av.q ?_
 refine ae.pre (.perm (.cons _ (List.perm_middle.trans (.cons _ (List.perm_middle.trans (.cons _ (List.perm_middle.trans (.cons _ List.perm_middle)))))))) ?_
 refine ae.pq (Kj (B:=N++X) (ht.mono fun _ h=>List.mem_append_left _ h) (h2.mono fun _ h=>List.mem_append_right _ h) (h1.mono fun _ h=>List.mem_append_right _ h)) ?_
 rintro w N2 ⟨t4,rfl,Wa⟩
 obtain⟨s4,rfl,o4⟩:=Wa.one
 refine Ext.two ?_
 intro c26 _
 refine St.p (cw o4) ?_
 refine av.q ?_
 refine St.p (cw o4) ?_
 refine av.q ?_
 refine jS.mk (by repeat (first|exact aG.refl _|apply aG.cons|apply aG.app)) (Wa.mono ?_)
 intro x hx
 repeat (first|exact hx|apply List.mem_cons_of_mem)
theorem R6(h:g7 kp K S ord ak tr C)(hn:K.n≤16){Z0:Hp}(Vq:(zR,Obj.cells #[.map (some mb)] 295 (0,0))∈Z0)(h1:(b1,Obj.cells #[ptr kp] 26 (0,0))∈Z0)(h7:(b7,Obj.cells #[.func (.func 152) #[] #[ptr bn]] 221 (0,0))∈Z0)
 (RY:(zQ,Obj.cells #[.func (.func 216) #[] #[ptr zR,ptr b1,ptr b7,ptr zQ]] 296 (0,0))∈Z0)(Pw:(bn,Obj.cells #[.int .i64 (K.n:Int)] 3 (0,0))∈Z0):
  ∀(k r:Nat) (es:Array MapEntry) (ck:Nat) (m:List (Nat×Value)) (Z:Hp),K.n-dep K.n (lv ak) K.N r≤k→live K.N r→(∀x∈Z0,x∈Z)→Kn K.n S es ck m Z→
  Fc Tryz.prog 216 #[u32 r,ptr zR,ptr b1,ptr b7,ptr zQ] ((mb,.map es ck)::(Z++C)) (fun v H=>∃es' dw m' N,H=(mb,.map es' dw)::(N++(Z++C))∧Kn K.n S es' dw m' (N++Z)∧fW (N++Z) v K.n (S r)):=by
 have hit:∀{r:Nat} {es:Array MapEntry} {ck:Nat} {m:List (Nat×Value)} {Z:Hp} {v:Value},(∀x∈Z0,x∈Z)→Kn K.n S es ck m Z→dn m r=some v→
   Fc Tryz.prog 216 #[u32 r,ptr zR,ptr b1,ptr b7,ptr zQ] ((mb,.map es ck)::(Z++C)) (fun v H=>∃es' dw m' N,H=(mb,.map es' dw)::(N++(Z++C))∧Kn K.n S es' dw m' (N++Z)∧fW (N++Z) v K.n (S r)):=by
  intro r es ck m Z v hZ hm hv g
  obtain⟨s,rfl,hs⟩:=(hm.gn r v hv).one
  refine sk (R:=bN _) ?_
  unfold L216
  intro c1 _
  refine Ld.mk (v:=.map (some mb)) (by exact .tail _ (.tail _ (List.mem_append_left _ (hZ _ Vq)))) rfl ?_
  refine hm.nr.hit (k:=r) qW (b:=mb) (by exact .tail _ (.head _)) hv fun v' e=>?_
  subst e
  refine Ext.two ?_
  intro c7 _
  refine St.p (cw hs) ?_
  refine Br.yes ?_
  refine av.q ?_
  refine St.p (cw hs) ?_
  refine av.q ?_
  exact bN.mk (.skip .tail) ⟨es,ck,m,[],rfl,hm,hm.gn r _ hv⟩
 intro k
 induction k with
 |zero=>
  intro r es ck m Z hk hr hZ hm
  have iZ:r<2:=by
   cases hN:K.N r with
   |some d=>
    have:=h.ok.wf.gX h.ok.lv r
    rw[aE hN]at hk
    have:=h.ok.lv.lt _ (h.ok.mid.var hN);omega
   |none=>
    rcases hr with hr|⟨d,e⟩
    ·exact hr
    ·rw[hN]at e;cases e
  cases hv:dn m r with
  |none=>exact absurd hv (hm.low r iZ)
  |some v=>exact hit hZ hm hv
 |succ k ih=>
  intro r es ck m Z hk hr hZ hm
  cases hv:dn m r with
  |some v=>exact hit hZ hm hv
  |none=>
  have iZ:¬r<2:=fun h2=>hm.low r h2 hv
  obtain⟨d,hN⟩:∃d,K.N r=some d:=by
   rcases hr with hr|hr
   ·omega
   ·exact hr
  have xe:=h.ok.mid.var hN
  have hlo:=h.ok.wf.lo hN
  have hhi:=h.ok.wf.hi hN
  have YY:=h.ok.wf.gX h.ok.lv r
  rw[aE hN]at hk
  have hvl:=h.ok.lv.lt _ xe
  have RB:S r=fun x=>if x.testBit d.v then S d.hi x else S d.lo x:=funext fun x=>h.ok.mid.int.node hN x
  refine aW fun g=>sk ?_
  intro c1 _
  refine Ld.mk (v:=.map (some mb)) (by exact .tail _ (.tail _ (List.mem_append_left _ (hZ _ Vq)))) rfl ?_
  refine hm.nr.bg (k:=r) qW (b:=mb) (by exact .tail _ (.head _)) hv ?_
  refine Ext.two ?_
  intro c7 _
  refine St.q ?_
  refine Br.no ?_
  refine Ld.mk (v:=ptr kp) (by exact .tail _ (.tail _ (.tail _ (List.mem_append_left _ (hZ _ h1))))) rfl ?_
  refine ae.pq (args:=#[ptr kp,u32 r]) (Je (X:=Z) h hN) ?_
  rintro w N0 rfl
  intro Nl _
  refine St.p (oI d) ?_
  obtain⟨Z1,Rw⟩:∃Z1,Z1=(Nl,Obj.cells (bu d).toArray 161 (0,0))::(N0++Z):=⟨_,rfl⟩
  have IN:∀x∈Z,x∈Z1:=fun x hx=>by rw[Rw];exact .tail _ (List.mem_append_right _ hx)
  have IB:aJ (Z1++C) ((Nl,Obj.cells (bu d).toArray 161 (0,0))::Z):=by rw[Rw];exact aJ.left.trans (.cons .right)
  have sM:((Nl,Obj.cells (bu d).toArray 161 (0,0))::(c7,.cells (List.toArray [.int .i64 0,.slice none 0 0]) 57 (0,0))::(c1,.cells #[.int .i64 0,.slice none 0 0] 57 (0,0))::(mb,Obj.map es ck)::(N0++(Z++C))).Perm
    ((c1,.cells #[.int .i64 0,.slice none 0 0] 57 (0,0))::(c7,.cells (List.toArray [.int .i64 0,.slice none 0 0]) 57 (0,0))::(mb,Obj.map es ck)::(Z1++C)):=by
   rw[Rw,List.cons_append,List.append_assoc]
   refine(List.Perm.swap _ _ _).trans ?_
   refine(List.Perm.cons _ (List.Perm.swap _ _ _)).trans ?_
   refine(List.Perm.swap _ _ _).trans (.cons _ (.cons _ (.swap _ _ _)))
  have Zn:aJ ((Nl,Obj.cells (bu d).toArray 161 (0,0))::(c7,.cells (List.toArray [.int .i64 0,.slice none 0 0]) 57 (0,0))::(c1,.cells #[.int .i64 0,.slice none 0 0] 57 (0,0))::(mb,Obj.map es ck)::(N0++(Z++C))) ((Nl,Obj.cells (bu d).toArray 161 (0,0))::Z):=
   .cons (.skip (.skip (.skip (.bJ .left))))
  refine DR.of Zn ?_
  refine Ld.mk (v:=.func (.func 152) #[] #[ptr bn]) (by exact .tail _ (hZ _ h7)) rfl ?_
  refine av.q ?_
  refine Ld.mk (v:=.func (.func 216) #[] #[ptr zR,ptr b1,ptr b7,ptr zQ]) (by exact .tail _ (hZ _ RY)) rfl ?_
  refine Ld.f ?_
  refine Ld.mk (v:=.func (.func 216) #[] #[ptr zR,ptr b1,ptr b7,ptr zQ]) (by exact .tail _ (hZ _ RY)) rfl ?_
  refine Ld.f ?_
  intro F
  refine gk.of rfl (by kernel_rfl) ?_
  refine ae.pre (.perm sM) ?_
  refine ae.fq (args:=#[u32 d.lo,ptr zR,ptr b1,ptr b7,ptr zQ]) (ih d.lo es ck m Z1 (by omega) hlo.1 (fun x hx=>IN _ (hZ x hx)) (hm.mono IN)) ?_
  rintro v1 H ⟨n7,mB,m1,N1,rfl,yo,Pf⟩
  refine⟨.skip (.skip (.skip (.bJ IB))),?_⟩
  rw[←List.append_assoc]
  intro F
  refine gk.of rfl (by kernel_rfl) ?_
  refine ae.fq (args:=#[u32 d.hi,ptr zR,ptr b1,ptr b7,ptr zQ]) (ih d.hi n7 mB m1 (N1++Z1) (by omega) hhi.1 (fun x hx=>List.mem_append_right _ (IN _ (hZ x hx))) yo) ?_
  rintro v2 H ⟨m4,oc,m2,N2,rfl,uU,Gd⟩
  refine⟨.skip (.skip (.skip (.bJ (aJ.assoc.trans (.bJ IB))))),?_⟩
  rw[←List.append_assoc]
  intro F
  refine gk.of rfl (by kernel_rfl) ?_
  refine ae.pq (args:=#[.agg (bu d).toArray,v1,v2,ptr bn]) (I0 (bn:=bn) hn xe (Pf.mono fun _ h=>List.mem_append_right _ h) Gd (List.mem_append_right _ (List.mem_append_right _ (IN _ (hZ _ Pw))))) ?_
  intro v3 N3 N7
  rw[←RB]at N7
  refine⟨.skip (.skip (.skip (aJ.assoc.trans (.bJ (aJ.assoc.trans (.bJ (aJ.assoc.trans (.bJ IB)))))))),?_⟩
  obtain⟨s3,rfl,o3⟩:=N7.one
  intro c37 _
  intro F
  refine St.p (cw o3) ?_
  refine Ld.mk (v:=.map (some mb)) (by exact .tail _ (.tail _ (.tail _ (.tail _ (List.mem_append_left _ (List.mem_append_right _ (List.mem_append_right _ (List.mem_append_right _ (IN _ (hZ _ Vq)))))))))) rfl ?_
  refine av.q ?_
  refine uU.nr.bS (k:=r) (b:=mb) (x:=.agg #[.int .i64 (K.n:Int),s3]) qW uP rfl fun Ni Nk he=>⟨_,.tail (.tail (.tail (.head _))),?_⟩
  refine av.q ?_
  refine St.p (cw o3) ?_
  refine av.q ?_
  have hmem:∀x∈N3++(N2++(N1++Z1)),x∈(N3++(N2++(N1++((Nl,Obj.cells (bu d).toArray 161 (0,0))::N0))))++Z:=fun x hx=>by
   rw[Rw]at hx
   simpa only[List.append_assoc,List.cons_append]using hx
  refine bN.mk (.skip (.skip .tail)) ⟨Ni,Nk,fi m2 r (.agg #[.int .i64 (K.n:Int),s3]),N3++(N2++(N1++((Nl,Obj.cells (bu d).toArray 161 (0,0))::N0))),by rw[Rw];simp only[List.append_assoc,List.cons_append],⟨he,fun r' v' wP=>?_,fun r' hr'=>?_⟩,N7.mono hmem⟩
  ·rw[eX]at wP
   split at wP
   ·rename_i e
    subst e
    cases wP
    exact N7.mono hmem
   ·exact(uU.gn r' v' wP).mono fun x hx=>hmem x (List.mem_append_right _ hx)
  ·rw[eX]
   split
   ·simp
   ·exact uU.low r' hr'
end
section
variable {kp bn:Nat} {K:Kd} {S:Nat→aU.Fn} {ord ak tr:List Nat} {C:Hp}
theorem LU(h:g7 kp K S ord ak tr C)(hn:K.n≤16){r:Nat}(hr:live K.N r){X:Hp}{v0 v1:Value}(Qr:fW X v0 K.n (fun _=>false))(yh:fW X v1 K.n (fun _=>true))(Pw:(bn,Obj.cells #[.int .i64 (K.n:Int)] 3 (0,0))∈X):
  Fc Tryz.prog 151 #[ptr kp,u32 r,v0,v1,.func (.func 152) #[] #[ptr bn]] (X++C) (fun v H=>∃N,H=N++(X++C)∧fW (N++X) v K.n (S r)):=by
 obtain⟨s0,rfl,o0⟩:=Qr.one
 obtain⟨s1,rfl,o1⟩:=yh.one
 have hi:=h.ok.mid.int
 refine aW fun g=>BL ?_
 intro b1 _ b3 _ b5 _ b7 _ b9 _ mb _
 refine av.q ?_
 refine aX.bS (ke:=kr) (vr:=fun v x=>v=x) (k:=0) (b:=mb) (x:=Value.agg #[.int .i64 (K.n:Int),s0]) qW uP aX.empty rfl fun n7 mB SR=>⟨_,.head _,?_⟩
 refine av.q ?_
 refine aX.bS (ke:=kr) (vr:=fun v x=>v=x) (k:=1) (b:=mb) (x:=Value.agg #[.int .i64 (K.n:Int),s1]) qW uP SR rfl fun m4 oc SP=>⟨_,.head _,?_⟩
 intro zR _
 refine St.one (c':=#[.map (some mb)]) (by exact .head _) rfl (by simp) rfl ?_
 intro zQ _
 refine St.one (c':=#[.func (.func 216) #[] #[ptr zR,ptr b1,ptr b7,ptr zQ]]) (by exact .head _) rfl (by simp) rfl ?_
 refine Ld.q ?_
 refine gk.of rfl (by kernel_rfl) ?_
 obtain⟨Z0,M7⟩:∃Z0:Hp,Z0=(zQ,Obj.cells #[.func (.func 216) #[] #[ptr zR,ptr b1,ptr b7,ptr zQ]] 296 (0,0))::(zR,.cells #[.map (some mb)] 295 (0,0))::(b7,.cells #[.func (.func 152) #[] #[ptr bn]] 221 (0,0))::(b5,.cells (Value.cells (.agg #[.int .i64 (K.n:Int),s1])) 57 (0,0))::(b3,.cells (Value.cells (.agg #[.int .i64 (K.n:Int),s0])) 57 (0,0))::(b1,.cells #[ptr kp] 26 (0,0))::X:=⟨_,rfl⟩
 have US:∀x∈X,x∈Z0:=fun x hx=>by rw[M7];exact .tail _ (.tail _ (.tail _ (.tail _ (.tail _ (.tail _ hx)))))
 refine ae.pre (H':=(b9,Obj.cells #[.int .i64 0,.slice none 0 0] 57 (0,0))::(mb,Obj.map m4 oc)::(Z0++C)) (.perm ?_) ?_
 ·rw[M7]
  simp only[List.cons_append]
  refine(List.Perm.cons _ (List.Perm.cons _ (List.Perm.swap _ _ _))).trans ?_
  refine(List.Perm.cons _ (List.Perm.swap _ _ _)).trans ?_
  refine(List.Perm.swap _ _ _).trans (.cons _ ?_)
  refine(List.Perm.cons _ (List.Perm.swap _ _ _)).trans ?_
  exact List.Perm.swap _ _ _
 refine ae.fq (args:=#[u32 r,ptr zR,ptr b1,ptr b7,ptr zQ]) (R6 (Z0:=Z0) (bn:=bn) h hn (by rw[M7];exact .tail _ (.head _)) (by rw[M7];exact .tail _ (.tail _ (.tail _ (.tail _ (.tail _ (.head _)))))) (by rw[M7];exact .tail _ (.tail _ (.head _))) (by rw[M7];exact .head _) (US _ Pw) K.n r m4 oc _ Z0 (Nat.sub_le _ _) hr (fun _ h=>h) ⟨SP,fun r v hm=>?_,fun r hr=>?_⟩) ?_
 ·rw[eX,eX]at hm
  split at hm
  ·rename_i e;subst e;cases hm
   have:=yh.mono US
   rwa [show(fun _=>true)=S 1 from funext fun x=>(hi.one x).symm]at this
  split at hm
  ·rename_i e;subst e;cases hm
   have:=Qr.mono US
   rwa [show(fun _=>false)=S 0 from funext fun x=>(hi.zero x).symm]at this
  ·simp[dn]at hm
 ·rw[eX,eX]
  have:r=0∨r=1:=by omega
  rcases this with rfl|rfl<;>simp
 rintro v H ⟨Ni,Nk,m3,N,rfl,_,ht⟩
 obtain⟨s3,rfl,o3⟩:=ht.one
 refine St.p (cw o3) ?_
 refine av.q ?_
 refine bN.mk (.skip .tail) ⟨N++[(zQ,Obj.cells #[.func (.func 216) #[] #[ptr zR,ptr b1,ptr b7,ptr zQ]] 296 (0,0)),(zR,.cells #[.map (some mb)] 295 (0,0)),(b7,.cells #[.func (.func 152) #[] #[ptr bn]] 221 (0,0)),(b5,.cells (Value.cells (.agg #[.int .i64 (K.n:Int),s1])) 57 (0,0)),(b3,.cells (Value.cells (.agg #[.int .i64 (K.n:Int),s0])) 57 (0,0)),(b1,.cells #[ptr kp] 26 (0,0))],by rw[M7];simp,ht.mono fun x hx=>?_⟩
 rw[M7]at hx
 simpa using hx
theorem EW(h:g7 kp K S ord ak tr C)(hn:K.n≤16){r:Nat}(hr:live K.N r):
  Fc Tryz.prog 71 #[ptr kp,u32 r] C (fun v H=>∃N t,H=N++C∧v=.tuple #[t,.int .i64 0]∧fW N t K.n (S r)):=by
 refine aW fun g=>FD ?_
 intro b1 _
 refine an.int (e:=77) (by kernel_rfl) (by kernel_rfl) (by kernel_rfl) fun bx=>?_
 refine ae.px .here (Jf (X:=[(bx,_),(b1,_)]) (rs:=[r]) h (bW.block (by exact .head _) (by simp)) (fun x hx=>by rw[List.mem_singleton.1 hx];exact hr) (by simp)) ?_
 rintro w N0 rfl
 refine aa.fZ (Br.F ?_)
 refine ae.eq (wH h.rep) ?_
 intro VB _
 refine St.one (c':=#[.int .i64 (K.n:Int)]) (by exact .head _) rfl (by simp) rfl ?_
 refine Ld.q ?_
 refine aa.jb (b:=16) (Br.F ?_)
 refine Ld.q ?_
 refine ae.px (bj.left (C:=[]) (A:=_)) (s9 hn false []) ?_
 rintro w N1 ⟨t0,rfl,wQ⟩
 rw[List.append_nil]at wQ⊢
 obtain⟨s0,rfl,o0⟩:=wQ.one
 refine Ext.two ?_
 intro Xb _
 refine St.p (cw o0) ?_
 refine Ld.q ?_
 refine ae.px (bj.left (C:=[]) (A:=_)) (s9 hn true []) ?_
 rintro w N2 ⟨t1,rfl,Pf⟩
 rw[List.append_nil]at Pf⊢
 obtain⟨s1,rfl,o1⟩:=Pf.one
 refine Ext.two ?_
 intro W9 _
 refine St.p (cw o1) ?_
 refine av.q ?_
 refine av.q ?_
 obtain⟨X,hX⟩:∃X:Hp,X=(W9,Obj.cells (List.toArray [.int .i64 (K.n:Int),s1]) 57 (0,0))::(N2++((Xb,Obj.cells (List.toArray [.int .i64 (K.n:Int),s0]) 57 (0,0))::(N1++((VB,Obj.cells #[.int .i64 (K.n:Int)] 3 (0,0))::(N0++[(bx,Obj.cells (az .u32 [(r:Int)]) 77 (0,0))]))))):=⟨_,rfl⟩
 refine ae.pre (H':=(b1,Obj.cells #[.int .i64 0,.slice none 0 0] 57 (0,0))::(X++C)) (.perm ?_) ?_
 ·rw[hX]
  have:=List.perm_middle (a:=(b1,Obj.cells #[Value.int .i64 0,.slice none 0 0] 57 (0,0))) (l₂:=C) (l₁:=(W9,Obj.cells (List.toArray [Value.int .i64 (K.n:Int),s1]) 57 (0,0))::(N2++((Xb,Obj.cells (List.toArray [Value.int .i64 (K.n:Int),s0]) 57 (0,0))::(N1++((VB,Obj.cells #[Value.int .i64 (K.n:Int)] 3 (0,0))::(N0++[(bx,Obj.cells (az .u32 [(r:Int)]) 77 (0,0))]))))))
  simpa only[List.cons_append,List.append_assoc,List.nil_append]using this
 refine ae.fq (LU (X:=X) (bn:=VB) h hn hr (wQ.mono fun x hx=>?_) (Pf.mono fun x hx=>?_) ?_) ?_
 ·rw[hX];exact .tail _ (List.mem_append_right _ (.tail _ (List.mem_append_left _ hx)))
 ·rw[hX];exact .tail _ (List.mem_append_left _ hx)
 ·rw[hX];exact .tail _ (List.mem_append_right _ (.tail _ (List.mem_append_right _ (.head _))))
 rintro v H ⟨N,rfl,ht⟩
 obtain⟨s3,rfl,o3⟩:=ht.one
 refine St.p (cw o3) ?_
 refine av.q ?_
 exact bN.mk .tail ⟨N++X,_,by rw[List.append_assoc],rfl,ht⟩
def rts(K:Kd):List Nat:=(List.range K.ho.length).filter fun r=>decide (0<K.hold r)
theorem D3(h:g7 kp K S ord ak tr C):Fc Tryz.prog 70 #[ptr kp] C (fun r H=>∃N,H=N++C∧aK 77 .u32 r (iw (rts K)) N):=by
 obtain⟨b,hC,hO⟩:=h.rep
 have hcap:=h.ok.mid.cap
 have hle:=h.ir
 have hfit:K.ho.length≤1048576:=by
  have:=hO.ul
  omega
 refine aW fun g=>um ?_
 refine aa.aC (Br.no ?_)
 have H6:∀z∈b.CH,z∈C:=by rw[hC];exact bj.sub (.cons (.app (.app (.app .left))))
 refine Nil.ptr (ag.mk (Ld.u (by rw[hC];exact .head _) ?_))
 refine hO.ho.aL ?_
 rw[ah]
 let rk:Nat→List Nat:=fun k=>(List.range k).filter fun r=>decide (0<K.hold r)
 refine⟨fun vs H=>∃(k:Nat) (w:Value) (N:Hp),vs=[w,.int .i64 (k:Int)]∧k≤K.ho.length∧H=N++C∧aK 77 .u32 w (iw (rk k)) N,fun vs _=>K.ho.length-aT vs 1,JE.mk ⟨0,_,[],rfl,Nat.zero_le _,rfl,aK.nil⟩,?_⟩
 rintro PK PJ H ⟨k,w,N,⟨⟩,hk,rfl,hN⟩ gs
 refine aa.cZ (Br.dec (fun hlt=>?_) (fun hlt=>?_))
 ·intro J hJ
  have fin:∀w' N',aK 77 .u32 w' (iw (rk (k+1))) N'→J [w'] (N'++C):=fun w' N' h'=>hJ _ _ fun gs=>by
   refine aa.inc ?_
   exact aq.of (.refl _) ⟨k+1,w',N',rfl,hlt,rfl,h'⟩ (by simp only[aT];omega)
  have e:rk (k+1)=rk k++if 0<K.hold k then [k]else []:=by
   show(List.range (k+1)).filter _=_
   rw[List.range_succ,List.filter_append]
   congr 1
   by_cases hp:0<K.hold k<;>simp[hp]
  refine hO.ho.ld (x:=((K.hold k:Nat):Int)) (bB hlt) (fun z hz=>List.mem_append_right _ (H6 z hz)) ?_
  refine aa.jb (b:=0) (Br.dec (fun hp=>?_) (fun hp=>?_))
  ·rw[e,if_pos hp]at fin
   refine bf.q ?_
   have ni:(rk k).length≤k:=by
    have:=List.length_filter_le (fun r=>decide (0<K.hold r)) (List.range k)
    rwa [List.length_range]at this
   refine an.int (e:=77) (by kernel_rfl) (by kernel_rfl) (by kernel_rfl) fun bx=>?_
   refine hN.oh (.cons .left) (by exact .head _) (by rw[ah];omega) (by rw[ah];omega) fun v' N' bE=>?_
   rw[cm]at fin
   exact JE.of .tail (fin v' N' bE)
  ·rw[e,if_neg hp,List.append_nil]at fin
   exact JE.mk (fin PK N hN)
 ·obtain rfl:k=K.ho.length:=by omega
  exact bN.here ⟨N,rfl,hN⟩
end
end Go.Proofs
namespace af
open Go.Sx
def EX(c:Nat→Nat→Nat):Nat→List Nat→Nat
 |_,[]=>0
 |a,v::o=>c a v+EX c (au a v true) o
def mL(a:Nat)(o:List Nat):Nat:=o.foldl (fun a v=>au a v true) a
theorem vQ(a:Nat)(o o':List Nat):mL a (o++o')=mL (mL a o) o':=List.foldl_append ..
theorem rQ(c:Nat→Nat→Nat):∀(o o':List Nat) (a:Nat),EX c a (o++o')=EX c a o+EX c (mL a o) o'
 | [],o',a=>by simp[EX,mL]
 |v::o,o',a=>by rw[List.cons_append,EX,rQ c o o',EX,Nat.add_assoc];rfl
theorem ny:∀(o:List Nat) (a u:Nat),(mL a o).testBit u=(a.testBit u||decide (u∈o))
 | [],a,u=>by simp[mL]
 |v::o,a,u=>by
  show(mL (au a v true) o).testBit u=_
  rw[ny o,ai]
  by_cases e:u=v
  ·simp[e]
  ·simp[e]
structure jT(n a:Nat)(o:List Nat):Prop where
 nd:o.Nodup
 mem:∀v,v∈o↔v∈bg n a
variable {n:Nat} {c:Nat→Nat→Nat}
theorem jT.nil{a:Nat}(h:jT n a []):bg n a=[]:=List.eq_nil_iff_forall_not_mem.2 fun v hv=>by simpa using(h.mem v).2 hv
theorem jT.tail{a v:Nat}{o:List Nat}(h:jT n a (v::o)):v∈bg n a∧jT n (au a v true) o:=by
 have h1:=List.nodup_cons.1 h.nd
 refine⟨(h.mem v).1 (by simp),h1.2,fun u=>?_⟩
 rw[bI,ai]
 have hu:=h.mem u
 rw[bI,List.mem_cons]at hu
 by_cases e:u=v
 ·subst e;simp[h1.1]
 ·simp only[e,false_or,if_false]at hu⊢;exact hu
theorem jT.cons{a v:Nat}{o:List Nat}(hv:v∈bg n a)(h:jT n (au a v true) o):jT n a (v::o):=by
 have hm:=h.mem
 refine⟨List.nodup_cons.2 ⟨fun hx=>?_,h.nd⟩,fun u=>?_⟩
 ·have:=(hm v).1 hx
  rw[bI,ai,if_pos rfl]at this
  exact absurd this.2 (by simp)
 ·rw[List.mem_cons,hm,bI,bI,ai]
  rw[bI]at hv
  by_cases e:u=v
  ·subst e;simp[hv]
  ·simp[e]
theorem yc:∀(o:List Nat) (a:Nat),jT n a o→B n c a≤EX c a o
 | [],a,h=>by rw[ya h.nil];exact Nat.zero_le _
 |v::o,a,h=>by
  obtain⟨h1,h2⟩:=h.tail
  exact Nat.le_trans (Su h1) (Nat.add_le_add_left (yc o _ h2) _)
theorem yO:∀(f a:Nat),(bg n a).length≤f→jT n a (ord n c f a)∧EX c a (ord n c f a)=B n c a
 |0,a,h=>by
  have hm:bg n a=[]:=List.eq_nil_of_length_eq_zero (by omega)
  rw[ord,ya hm]
  exact⟨⟨by simp,fun v=>by rw[hm]⟩,rfl⟩
 |f+1,a,h=>by
  by_cases hm:bg n a=[]
  ·have:ord n c (f+1) a=[]:=by rw[ord,hm];rfl
   rw[this,ya hm]
   exact⟨⟨by simp,fun v=>by rw[hm]⟩,rfl⟩
  ·obtain⟨v,hv,he,_,ho⟩:=nM (c:=c) (f:=f) hm
   have:=eB hv
   obtain⟨h1,h2⟩:=yO f (au a v true) (by omega)
   rw[ho]
   exact⟨h1.cons hv,by rw[EX,h2,he]⟩
theorem lj(n:Nat):bg n 0=List.range n:=by
 unfold bg;rw[List.filter_eq_self.2];simp
end af
namespace af
open Go.Sx
def Kp(n:Nat)(l:Fs)(vs:List Nat):Fs:=vs.foldl (fun l v=>given n l v) l
theorem IK(A k:Nat):has (k+1) A=has k A++(if A.testBit k then [k]else []):=by
 unfold has;rw[List.range_succ,List.filter_append];congr 1;rw[List.filter_cons];simp
theorem qw(n:Nat)(l:Fs)(a b:List Nat):Kp n l (a++b)=Kp n (Kp n l a) b:=List.foldl_append ..
theorem qy(n:Nat)(L:Fs)(A:Nat):∀k,st n L A k=Kp n (df L) (has k A)
 |0=>rfl
 |k+1=>by
  rw[st,IK,qw,←qy n L A k]
  split<;>rfl
def Sm(a b:Fs):Prop:=∀x,x∈a↔x∈b
theorem Sm.trans{a b c:Fs}(h:Sm a b)(h':Sm b c):Sm a c:=fun x=>(h x).trans (h' x)
theorem Sm.symm{a b:Fs}(h:Sm a b):Sm b a:=fun x=>(h x).symm
theorem Sm.refl(a:Fs):Sm a a:=fun _=>Iff.rfl
def AF(n:Nat)(l:Fs):Prop:=∀t∈l,bO n t
variable {n:Nat}
theorem pK{a b:Fs}(h:Sm a b)(v:Nat):Sm (given n a v) (given n b v):=fun x=>by
 rw[bt,bt]
 constructor
 ·rintro⟨t,ht,h'⟩;exact⟨t,(h t).1 ht,h'⟩
 ·rintro⟨t,ht,h'⟩;exact⟨t,(h t).2 ht,h'⟩
theorem IU(hn:n≤16)(l:Fs)(v:Nat):AF n (given n l v):=fun t ht=>by
 obtain⟨u,_,b,rfl⟩:=bt.1 ht;exact cg hn
theorem xU{t:List Nat}{u v:Nat}{b c:Bool}(hf:bO n t)(hu:u<n)(hv:v<n)(h:u≠v):dj n (dj n t u b) v c=dj n (dj n t v c) u b:=
 (cg hf.jz).ext (cg hf.jz) fun x hx=>by
  rw[dN (cg hf.jz) hv hx,dN hf hu (dc hx hv),dN (cg hf.jz) hu hx,dN hf hv (dc hx hu),dF (Ne.symm h)]
theorem zv{l:Fs}{u v:Nat}(hl:AF n l)(hu:u<n)(hv:v<n)(h:u≠v):Sm (given n (given n l u) v) (given n (given n l v) u):=fun x=>by
 rw[bt,bt]
 constructor
 ·rintro⟨t,ht,c,rfl⟩
  obtain⟨s,hs,b,rfl⟩:=bt.1 ht
  exact⟨dj n s v c,bt.2 ⟨s,hs,c,rfl⟩,b,xU (hl s hs) hu hv h⟩
 ·rintro⟨t,ht,c,rfl⟩
  obtain⟨s,hs,b,rfl⟩:=bt.1 ht
  exact⟨dj n s u c,bt.2 ⟨s,hs,c,rfl⟩,b,xU (hl s hs) hv hu (Ne.symm h)⟩
theorem tf:∀(vs:List Nat) {a b:Fs},Sm a b→Sm (Kp n a vs) (Kp n b vs)
 | [],_,_,h=>h
 |v::vs,_,_,h=>tf vs (pK h v)
theorem GR(hn:n≤16){vs vs':List Nat}(hp:vs.Perm vs'):(∀v∈vs,v<n)→∀l,AF n l→Sm (Kp n l vs) (Kp n l vs'):=by
 induction hp with
 |nil=>exact fun _ l _=>Sm.refl _
 |cons v _ ih=>exact fun h l hl=>ih (fun u hu=>h u (by simp[hu])) _ (IU hn l v)
 |swap x y r=>
  intro h l hl
  by_cases e:x=y
  ·subst e;exact Sm.refl _
  ·exact tf r (zv hl (h y (by simp)) (h x (by simp)) (Ne.symm e))
 |trans sM _ X3 X2=>exact fun h l hl=>(X3 h l hl).trans (X2 (fun v hv=>h v (sM.mem_iff.2 hv)) l hl)
theorem td:∀(vs:List Nat) {l:Fs},l.Nodup→(Kp n l vs).Nodup
 | [],_,h=>h
 |v::vs,_,_=>td vs (iu _ _ _)
theorem DM{L:Fs}(h:AF n L):AF n (df L):=fun t ht=>h t (bY.1 ht)
theorem yR{a b:Fs}(ha:a.Nodup)(hb:b.Nodup)(h:Sm a b)(v:Nat):(nodes n a v).length=(nodes n b v).length:=gP (fh ha hb h)
theorem tR(n a:Nat):(has n a).Nodup:=List.Pairwise.filter _ List.nodup_range
theorem OE{a v:Nat}(h:v∈has n a):v<n:=(de.1 h).1
theorem IL{a v:Nat}(hv:v<n)(ha:a.testBit v=false):(has n (au a v true)).Perm (has n a++[v]):=by
 refine(List.perm_ext_iff_of_nodup (tR _ _) ?_).2 fun u=>?_
 ·rw[List.nodup_append]
  refine⟨tR _ _,by simp,fun x hx y hy=>?_⟩
  simp at hy;subst hy
  rintro rfl
  rw[(de.1 hx).2]at ha;cases ha
 ·rw[de,List.mem_append,List.mem_singleton,de,ai]
  by_cases e:u=v
  ·subst e;simp[hv]
  ·simp[e]
theorem Kr(hn:n≤16){L:Fs}(hL:AF n L){a v:Nat}(hv:v<n)(ha:a.testBit v=false):Sm (st n L (au a v true) n) (given n (st n L a n) v):=by
 rw[qy,qy]
 have h:=GR hn (IL hv ha) (fun u hu=>OE hu) _ (DM hL)
 rw[qw]at h
 exact h
variable {φ:List Nat→List Nat} {π:Nat→Nat}
def lay(n:Nat)(F:Nat→Nat):List Nat:=(List.range (wN n)).map fun i=>F i&&&bQ n
def neg(n:Nat)(ws:List Nat):List Nat:=lay n fun i=>18446744073709551615-ws.getD i 0
end af
namespace aU
open af
section
variable {n:Nat} {ord:List Nat} {L:af.Fs}
theorem yL(a:Nat)(o:List Nat)(v:Nat):mL a (o++[v])=au (mL a o) v true:=by rw[vQ];rfl
theorem Ja(hn:n≤16)(hL:∀t∈L,bO n t)(hp:ord.Perm (List.range n)):∀k,k≤n→Sm (cur n ord L k) (st n L (mL 0 (ord.take k)) n)
 |0,_=>by
  have e:st n L (mL 0 (ord.take 0)) n=df L:=by
   rw[qy]
   have:has n (mL 0 (ord.take 0))=[]:=by
    show has n 0=[]
    rw[List.eq_nil_iff_forall_not_mem]
    intro v hv
    have:=(de.1 hv).2
    rw[Nat.zero_testBit]at this;cases this
   rw[this];rfl
  rw[e];exact .refl _
 |k+1,hk=>by
  have CW:ord.length=n:=by rw[hp.length_eq,List.length_range]
  have fB:ord.Nodup:=hp.nodup_iff.2 List.nodup_range
  have hlt:k<ord.length:=by omega
  have hv:ord[k]<n:=List.mem_range.1 (hp.mem_iff.1 (List.getElem_mem hlt))
  have hg:ord.getD k 0=ord[k]:=by rw[List.getD_eq_getElem?_getD,List.getElem?_eq_getElem hlt];rfl
  have ht:ord.take (k+1)=ord.take k++[ord[k]]:=List.take_succ_eq_append_getElem hlt
  have hno:ord[k]∉ord.take k:=fun hm=>by
   have h2:(ord.take (k+1)).Nodup:=fB.sublist (List.take_sublist _ _)
   rw[ht]at h2
   exact(List.nodup_append.1 h2).2.2 _ hm _ (by simp) rfl
  have hb:(mL 0 (ord.take k)).testBit ord[k]=false:=by
   rw[ny,Nat.zero_testBit,decide_eq_false hno];rfl
  rw[ht,yL]
  refine Sm.trans ?_ (Sm.symm (Kr hn hL hv hb))
  rw[cur,hg]
  exact pK (Ja hn hL hp k (by omega)) _
theorem KY(hn:n≤16)(hL:∀t∈L,bO n t)(hp:ord.Perm (List.range n)){k:Nat}(hk:k≤n)(v:Nat):(nodes n (cur n ord L k) v).length=lvl n L (mL 0 (ord.take k)) v:=by
 unfold lvl
 refine yR (oY k) ?_ (Ja hn hL hp k hk) v
 rw[qy];exact td _ (fc _)
theorem xQ(hn:n≤16)(hL:∀t∈L,bO n t)(hp:ord.Perm (List.range n)):∀k,k≤n→EX (lvl n L) 0 (ord.take k)=bL n ord L k
 |0,_=>rfl
 |k+1,hk=>by
  have CW:ord.length=n:=by rw[hp.length_eq,List.length_range]
  have hlt:k<ord.length:=by omega
  have hg:ord.getD k 0=ord[k]:=by rw[List.getD_eq_getElem?_getD,List.getElem?_eq_getElem hlt];rfl
  rw[List.take_succ_eq_append_getElem hlt,rQ,xQ hn hL hp k (by omega),bL]
  congr 1
  unfold jA
  rw[KY hn hL hp (by omega),hg]
  simp[EX]
theorem tZ(hn:n≤16)(hL:∀t∈L,bO n t)(hp:ord.Perm (List.range n)):EX (lvl n L) 0 ord=bL n ord L n:=by
 have CW:ord.length=n:=by rw[hp.length_eq,List.length_range]
 rw[←xQ hn hL hp n (Nat.le_refl n),←CW,List.take_length]
theorem y5(hp:ord.Perm (List.range n)):jT n 0 ord:=⟨hp.nodup_iff.2 List.nodup_range,fun v=>by rw[lj];exact hp.mem_iff⟩
theorem yN(h:jT n 0 ord):ord.Perm (List.range n):=by
 refine(List.perm_ext_iff_of_nodup h.nd List.nodup_range).2 fun v=>?_
 rw[h.mem,lj]
theorem lT(c:Nat→Nat→Nat):(af.ord n c n 0).Perm (List.range n):=yN (yO n 0 (by rw[lj,List.length_range];exact Nat.le_refl n)).1
theorem o7(hn:n≤16)(hL:∀t∈L,bO n t):bL n (af.ord n (lvl n L) n 0) L n=B n (lvl n L) 0:=by
 rw[←tZ hn hL (lT _)]
 exact(yO n 0 (by rw[lj,List.length_range];exact Nat.le_refl n)).2
theorem L3(hn:n≤16)(hL:∀t∈L,bO n t)(hp:ord.Perm (List.range n)):B n (lvl n L) 0≤bL n ord L n:=by
 rw[←tZ hn hL hp]
 exact yc ord 0 (y5 hp)
end
end aU
set_option maxRecDepth 100000
namespace Go.Proofs
open Go Go.Sx
open aU
section
variable {kp:Nat} {K:Kd} {S:Nat→aU.Fn} {ord tr:List Nat} {C:Hp}
theorem nC{n:Nat}{o:List Nat}:∀k,bL n o [] k=0:=by
  have hc:∀k,cur n o [] k=[]:=fun k=>by
    induction k with
    |zero=>rfl
    |succ k ih=>rw[cur,ih];rfl
  intro k
  induction k with
  |zero=>rfl
  |succ k ih=>rw[bL,ih];unfold jA;rw[hc];rfl
theorem yJ{B:Hp}{v:Value}{n:Nat}{f:aU.Fn}(h:fW B v n f):∃s ws,v=.agg #[.int .i64 (n:Int),s]∧Words B s ws∧af.bO n ws∧dz n ws=f:=by
  obtain⟨ws,⟨s,rfl,hw⟩,hf,he⟩:=h
  exact⟨s,ws,rfl,hw,hf,he⟩
def OZ(kp:Nat)(K:Kd)(S:Nat→aU.Fn)(ord tr:List Nat)(v:Value)(H:Hp):Prop:=
  ∃L:af.Fs,(∀t∈L,af.bO K.n t)∧K.held S=FT K.n L∧L.length≤1048576∧
   ((jZ K S ord=af.B K.n (af.lvl K.n L) 0∧v=.tuple #[.agg #[.int .i64 ((jZ K S ord:Nat):Int),.int .i64 ((jZ K S ord:Nat):Int),.int .i64 0,.bool true],.int .i64 0]∧At kp K S ord tr H)∨
    (jZ K S ord≠af.B K.n (af.lvl K.n L) 0∧∃o ls,o=af.ord K.n (af.lvl K.n L) K.n 0∧ls=path ord o∧
     (((rm K S).can ord ls=true∧v=.tuple #[.agg #[.int .i64 ((jZ K S ord:Nat):Int),.int .i64 ((jZ K S o:Nat):Int),.int .i64 ((ls.length:Nat):Int),.bool true],.int .i64 0]∧At kp K S o (tr++ls) H)∨
      ((rm K S).can ord ls=false∧v=.tuple #[.agg #[.int .i64 ((jZ K S ord:Nat):Int),.int .i64 ((jZ K S ord:Nat):Int),.int .i64 ((2*((rm K S).ct 0 ls ord).length:Nat):Int),.bool false],.int .i64 0]∧At kp K S ord tr H))))
theorem J5(h:At kp K S ord tr C)(hp:ord.Perm (List.range K.n))(hn:K.n≤12)(lH:tr.length<274877906944):
    Fc Tryz.prog 25 #[ptr kp] C (fun v H=>OZ kp K S ord tr v H):=by
  have h0:=h
  obtain⟨K',S',e8,hK,hk⟩:=h
  have rD:=hk.n
  have wY:∀r,K'.hold r≠0→live K'.N r:=fun r hr=>(.inr (hK.ok.mid.held r hr))
  have hcap:=hK.ok.mid.cap
  have hle:=hK.ir
  have ni:(rts K').length≤1048576:=by
    obtain⟨b,_,hO⟩:=hK.rep
    have:=hO.ul
    have h2:=List.length_filter_le (fun r=>decide (0<K'.hold r)) (List.range K'.ho.length)
    rw[List.length_range]at h2
    show(List.filter _ _).length≤_
    omega
  have T5:∀r,r∈rts K'↔K'.hold r≠0:=fun r=>by
    unfold rts
    rw[List.mem_filter,List.mem_range,decide_eq_true_iff]
    constructor
    · rintro⟨_,h⟩;omega
    · intro h
      refine⟨Classical.byContradiction fun h2=>h ?_,by omega⟩
      unfold Kd.hold
      rw[List.getD_eq_getElem?_getD,List.getElem?_eq_none (by omega)];rfl
  refine aW fun g=>FZ ?_
  intro b1 _
  refine aa.aC (Br.no ?_)
  refine ae.eq (Dm h0) ?_
  refine aa.jb (b:=12) (Br.F ?_)
  refine ae.fq (D3 hK) ?_
  rintro vr H ⟨NR,rfl,hR⟩
  have OM:bW .u32 NR vr (iw (rts K')):=hR.ints
  refine hR.aL ?_
  rw[ah]
  refine⟨fun vs H=>∃(i:Nat) (s:Value) (L:af.Fs) (CS N:Hp),vs=[s,.int .i64 (i:Int)]∧i≤(rts K').length∧H=(b1,.cells #[.int .i64 0,.int .i64 0,.int .i64 0,.bool false] 42 (0,0))::(CS++(N++C))∧(∀x∈NR,x∈N)∧dJ 57 s (cY K'.n L) CS N∧L.length=i∧(∀t∈L,af.bO K'.n t)∧∀j t,L[j]? =some t→∃r,(rts K')[j]? =some r∧dz K'.n t=S' r,
    fun vs _=>(rts K').length-aT vs 1,JE.mk ⟨0,_,[],[],NR,rfl,Nat.zero_le _,rfl,fun _ h=>h,dJ.nil,rfl,fun t ht=>absurd ht (List.not_mem_nil),fun j t (hj:([]:List (List Nat))[j]? =some t)=>absurd hj (by rw[List.getElem?_nil];exact nofun)⟩,?_⟩
  rintro VK w21 H ⟨i,s,L,CS,N,⟨⟩,hi,rfl,hN,hT,Te,C9,Td⟩ gs
  refine aa.cZ (Br.dec (fun hlt=>?_) (fun hge=>?_))
  · refine OM.ld (n:=(((rts K')[i]:Nat):Int)) (bR (List.getElem?_eq_getElem hlt)) (fun x hx=>.tail _ (List.mem_append_right _ (List.mem_append_left _ (hN x hx)))) ?_
    refine ae.fq (args:=#[ptr kp,u32 (rts K')[i]]) (EW hK (by omega) (wY _ ((T5 _).1 (List.getElem_mem hlt)))) ?_
    rintro w H ⟨Nt,t,rfl,rfl,ht⟩
    obtain⟨sw,ws,rfl,hw,hf,he⟩:=yJ ht
    refine Ext.two ?_
    intro ZS _
    refine St.p (cw (ax hw)) ?_
    refine av.q ?_
    refine dW fun Tj=>?_
    have Zl:dJ 57 VK (cY K'.n L) CS (N++Nt):=hT.mono fun _ h=>List.mem_append_left _ h
    refine dJ.app Zl (A:=[(Tj,_),(ZS,_),(b1,_)]) (B:=N++(Nt++C)) (t:=⟨(K'.n:Int),ws⟩) (by exact .head _) (hw.mono fun _ h=>List.mem_append_right _ h) (by rw[aF];omega) fun v' J0 RA=>?_
    refine aa.inc ?_
    refine aq.of (.skip .tail) ⟨i+1,v',L++[ws],J0,N++Nt,rfl,hlt,by rw[List.append_assoc];rfl,fun x hx=>List.mem_append_left _ (hN x hx),by unfold cY at RA⊢;rw[List.map_append];exact RA,by rw[List.length_append,Te];rfl,fun t ht=>?_,fun j t hj=>?_⟩ (by simp only[aT];omega)
    · rcases List.mem_append.1 ht with ht|ht
      · exact C9 t ht
      · rw[List.mem_singleton.1 ht];exact hf
    · by_cases On:j<L.length
      · rw[List.getElem?_append_left On]at hj
        exact Td j t hj
      · rw[List.getElem?_append_right (by omega)]at hj
        have:j=i:=by
          have:=(List.getElem?_eq_some_iff.1 hj).1
          rw[List.length_singleton]at this;omega
        subst this
        rw[Te,Nat.sub_self]at hj
        simp at hj
        subst hj
        exact⟨_,List.getElem?_eq_getElem hlt,he⟩
  have hi':i=(rts K').length:=by omega
  subst hi'
  rw[rD]at hT C9 Td
  have ja:K.held S=FT K.n L:=by
    refine funext fun g=>propext ?_
    rw[←hk.held g]
    constructor
    · rintro⟨r,hr,rfl⟩
      obtain⟨j,hj,e⟩:=List.mem_iff_getElem.1 ((T5 r).2 hr)
      obtain⟨r2,iZ,he⟩:=Td j L[j] (List.getElem?_eq_getElem (by omega))
      rw[List.getElem?_eq_getElem hj,e]at iZ
      cases iZ
      exact⟨L[j],List.getElem_mem _,he.symm⟩
    · rintro⟨t,ht,rfl⟩
      obtain⟨j,hj,e⟩:=List.mem_iff_getElem.1 ht
      obtain⟨r2,iZ,he⟩:=Td j t (by rw[List.getElem?_eq_getElem hj,e])
      exact⟨r2,(T5 r2).1 (List.mem_of_getElem? iZ),he⟩
  have hlt:=KF hp
  have YJ:jZ K S ord=bL K.n ord L K.n:=by
    unfold jZ;rw[ja];exact GO C9 (by omega) hlt
  have JU:L.length≤1048576:=by omega
  refine ae.eq (qh h0) ?_
  have Zi:bV (CS++N) VK (cY K.n L):=hT.sF (fun _ h=>List.mem_append_left _ h) (fun _ h=>List.mem_append_right _ h)
  rw[←List.append_assoc]
  refine ae.pq (Dk Zi (by rw[aF];omega)) ?_
  intro w NB hB
  obtain⟨so,Y,hY,rfl,hI⟩:∃so Y,NB++(CS++N)=Y∧w=.tuple #[.int .i64 ((af.B K.n (af.lvl K.n L) 0:Nat):Int),so,.int .i64 0]∧(L≠[]→bW .i64 Y so (iw (af.ord K.n (af.lvl K.n L) K.n 0))):=by
    have hO:fQ (cY K.n L):=nN C9
    rcases hB with⟨hno,_⟩|⟨_,n2,L2,e,hz,_,EC,hB⟩
    · exact absurd hO hno
    by_cases OP:L=[]
    · subst OP
      have Zs:L2=[]:=by cases L2 with
        |nil=>rfl
        |cons a b=>simp[cY]at e
      subst Zs
      obtain rfl:=hz rfl
      have pJ:af.B K.n (af.lvl K.n []) 0=0:=by rw[←o7 (by omega) (by simp)];exact nC _
      rcases hB with⟨h,_⟩|⟨_,s2,C2,N2,rfl,_,_⟩
      · omega
      exact⟨s2,_,rfl,by rw[pJ];rfl,fun h=>absurd rfl h⟩
    · have Ln:n2=K.n∧L2=L:=by
        cases L with
        |nil=>exact absurd rfl OP
        |cons a b=>
          cases L2 with
          |nil=>simp[cY]at e
          |cons a2 b2=>
            simp only[cY,List.map_cons,List.cons.injEq,Tb.mk.injEq]at e
            obtain⟨⟨e1,e2⟩,e3⟩:=e
            have e1:n2=K.n:=by omega
            subst e1
            refine⟨rfl,?_⟩
            rw[e2]
            congr 1
            refine((List.map_inj_right (f:=fun ws=>(⟨(K.n:Int),ws⟩:Tb)) ?_).1 e3).symm
            intro x y X5
            simpa using X5
      obtain⟨rfl,rfl⟩:=Ln
      rcases hB with⟨h,_⟩|⟨_,s2,C2,N2,rfl,hown,hH⟩
      · omega
      exact⟨s2,_,rfl,rfl,fun _=>by rw[hH];exact hown.ints.mono fun _ h=>List.mem_append_left _ h⟩
  rw[hY]
  clear hB
  refine Ext.mk rfl (Ext.mk rfl (Ext.mk rfl ?_))
  refine aa.iK (Br.dec (fun heq=>?_) (fun hne=>?_))
  · refine Build.mk (cs:=[.int .i64 ((jZ K S ord:Nat):Int),.int .i64 ((jZ K S ord:Nat):Int),.int .i64 0,.bool true]) (by kernel_rfl) ?_
    refine St.q ?_
    refine av.q ?_
    exact bN.mk (.skip .right) ⟨L,C9,ja,JU,.inl ⟨heq,rfl,h0⟩⟩
  · have OP:L≠[]:=fun e=>by
      subst e
      refine hne ?_
      rw[YJ,←o7 (by omega) (by simp),nC,nC]
    obtain⟨o,ho⟩:∃o,o=af.ord K.n (af.lvl K.n L) K.n 0:=⟨_,rfl⟩
    have hop:o.Perm (List.range K.n):=by rw[ho];exact lT _
    have WK:=hI OP
    rw[←ho]at WK
    refine ae.fq (Hh h0 WK hp hop (by omega)) ?_
    rintro w H ⟨C2,rfl,hM⟩
    have y8:=(nJ (hop.nodup_iff.2 List.nodup_range) (hp.trans hop.symm)).1
    rcases hM with⟨hc,rfl,hA⟩|⟨hc,rfl,hA⟩
    · rw[y8]at hA
      refine Ext.two ?_
      refine ae.eq (qh hA) ?_
      refine aa.oW ?_
      rw[decide_eq_true rfl]
      refine Build.mk (cs:=[.int .i64 ((jZ K S ord:Nat):Int),.int .i64 ((jZ K S o:Nat):Int),.int .i64 (((path ord o).length:Nat):Int),.bool true]) (by kernel_rfl) ?_
      refine St.q ?_
      refine av.q ?_
      exact bN.mk (.skip .right) ⟨L,C9,ja,JU,.inr ⟨hne,o,_,ho,rfl,.inl ⟨hc,rfl,hA⟩⟩⟩
    · refine Ext.two ?_
      refine ae.eq (qh hA) ?_
      refine aa.oW ?_
      rw[decide_eq_false (by decide)]
      refine Build.mk (cs:=[.int .i64 ((jZ K S ord:Nat):Int),.int .i64 ((jZ K S ord:Nat):Int),.int .i64 ((2*((rm K S).ct 0 (path ord o) ord).length:Nat):Int),.bool false]) (by kernel_rfl) ?_
      refine St.q ?_
      refine av.q ?_
      exact bN.mk (.skip .right) ⟨L,C9,ja,JU,.inr ⟨hne,o,_,ho,rfl,.inr ⟨hc,rfl,hA⟩⟩⟩
end
end Go.Proofs
set_option maxRecDepth 100000
namespace Go.Proofs
open Go Go.Sx
open aU
section
variable {mp:Nat} {M:Md} {X H:Hp}
def So(mp:Nat)(M:Md)(X:Hp)(v:Value)(H:Hp):Prop:=
  (bL M.n M.ord M.aM M.n=af.B M.n (af.lvl M.n M.aM) 0∧v=.tuple #[.agg #[.int .i64 ((bL M.n M.ord M.aM M.n:Nat):Int),.int .i64 ((bL M.n M.ord M.aM M.n:Nat):Int),.int .i64 0,.bool true],.int .i64 0]∧eU mp M X H)∨
  (bL M.n M.ord M.aM M.n≠af.B M.n (af.lvl M.n M.aM) 0∧∃o ls,o=af.ord M.n (af.lvl M.n M.aM) M.n 0∧ls=path M.ord o∧
    (((D4 M.n M.cap M.aM).can M.ord ls=true∧v=.tuple #[.agg #[.int .i64 ((bL M.n M.ord M.aM M.n:Nat):Int),.int .i64 ((af.B M.n (af.lvl M.n M.aM) 0:Nat):Int),.int .i64 ((ls.length:Nat):Int),.bool true],.int .i64 0]∧eU mp {M with ord:=o,tr:=M.tr++ls} X H)∨
     ((D4 M.n M.cap M.aM).can M.ord ls=false∧v=.tuple #[.agg #[.int .i64 ((bL M.n M.ord M.aM M.n:Nat):Int),.int .i64 ((bL M.n M.ord M.aM M.n:Nat):Int),.int .i64 ((2*((D4 M.n M.cap M.aM).ct 0 ls M.ord).length:Nat):Int),.bool false],.int .i64 0]∧eU mp M X H)))
theorem zz(h:eU mp M X H)(hM:M.gB)(hn:M.n≤12)(hp:M.ord.Perm (List.range M.n))(lH:M.tr.length≤900000):
    Fc Tryz.prog 32 #[ptr mp] H (fun v H'=>So mp M X v H'):=by
  have zi:=hM.Gp
  have Qv:=M.cB
  refine aW fun g=>FR ?_
  intro b1 _
  obtain⟨vo,vh,vt,rs,hR⟩:=h.rd
  refine Ld.v (.tail _ hR.ue) ?_
  refine aa.jb (b:=12) (Br.F ?_)
  refine ae.eq (wy h.rd hM) ?_
  refine ae.pq (iO h.rd hM) ?_
  intro VO N hT
  refine hT.aL ?_
  rw[aF]
  obtain⟨B0,pJ⟩:∃x,x=bL M.n M.ord M.aM M.n:=⟨_,rfl⟩
  rw[←pJ]
  refine aa.iK (b:=0) (Br.dec (fun h0=>?_) (fun h0=>?_))
  · have wQ:M.aM=[]:=List.eq_nil_of_length_eq_zero h0
    have hB:B0=0:=by rw[pJ,wQ];exact nC M.n
    have hle:af.B M.n (af.lvl M.n M.aM) 0≤B0:=by rw[pJ];exact L3 (by omega) hM.ic hp
    refine Build.mk (cs:=[.int .i64 0,.int .i64 0,.int .i64 0,.bool true]) (by kernel_rfl) ?_
    refine St.q ?_
    refine av.q ?_
    refine bN.mk (jk:=H) (.skip .right) (.inl ⟨by rw[←pJ];omega,by rw[←pJ,hB];rfl,h⟩)
  refine ae.pq (zA (ts:=cY M.n M.aM) hT (by rw[aF];omega)) ?_
  intro v19 N2 hQ
  obtain⟨s,C,N',rfl,hs,he⟩:=Dl (fun e=>absurd (by rw[e];rfl) h0) (nN hM.ic) hn hQ
  rw[he]
  refine Ext.mk rfl (Ext.mk rfl (Ext.mk rfl ?_))
  obtain⟨o,ho⟩:∃o,o=af.ord M.n (af.lvl M.n M.aM) M.n 0:=⟨_,rfl⟩
  obtain⟨Bm,RW⟩:∃x,x=af.B M.n (af.lvl M.n M.aM) 0:=⟨_,rfl⟩
  rw[←ho]at hs
  rw[←RW]
  have hop:o.Perm (List.range M.n):=by rw[ho];exact lT _
  have hos:bW .i64 C s (iw o):=hs.ints
  obtain⟨J,hJ,Zv⟩:∃J:Hp,C++(N'++(N++H))=J++H∧∀x∈C,x∈J:=⟨C++(N'++N),by simp,fun _ h=>List.mem_append_left _ h⟩
  rw[hJ]
  have Wg:bW .i64 J s (iw o):=hos.mono Zv
  clear he hQ hJ hs hos hT
  refine aa.iK (Br.dec (fun hb=>?_) (fun hb=>?_))
  · refine Build.mk (cs:=[.int .i64 ((B0:Nat):Int),.int .i64 ((B0:Nat):Int),.int .i64 0,.bool true]) rfl ?_
    refine St.q ?_
    refine av.q ?_
    exact bN.mk (jk:=H) (.skip .right) (.inl ⟨by rw[←pJ,←RW];exact hb,by rw[←pJ],h⟩)
  have CW:o.length=M.n:=(bT hop).1
  have hml:M.ord.length=M.n:=(bT hp).1
  have y9:o.Nodup:=hop.nodup_iff.2 List.nodup_range
  have y8:M.ord.Perm o:=hp.trans hop.symm
  obtain⟨ls,hls⟩:∃ls,ls=path M.ord o:=⟨_,rfl⟩
  have Lq:∀x∈ls,x+1<M.n:=fun x hx=>by have:=(nJ y9 y8).2 x (by rw[←hls];exact hx);omega
  have YF:ls.length≤144:=by
    have:=qJ y9 y8 CW
    have QL:M.n*(M.n-1)≤12*11:=Nat.mul_le_mul hn (by omega)
    rw[←hls]at this;omega
  refine Ld.v (by exact .tail _ (List.mem_append_right _ hR.ue)) ?_
  refine hR.tr.aL ?_
  refine Wg.aL ?_
  rw[ah,ah,CW]
  have MD:∀{a r:List Nat},ls=a++r→(bc M.ord a).Perm (List.range M.n)∧Md.gB {M with ord:=bc M.ord a,tr:=M.tr++a}:=fun{a r} e=>by
    have h1:(bc M.ord a).Perm (List.range M.n):=(gC fun x hx=>by rw[hml];exact Lq x (by rw[e];exact List.mem_append_left _ hx)).trans hp
    have h2:a.length≤ls.length:=by rw[e,List.length_append];omega
    exact⟨h1,hM.pT h1 (by rw[List.length_append];omega)⟩
  refine⟨fun vs HH=>∃(i:Nat) (H':Hp),vs=[.int .i64 (((aS M.ord o i).length:Nat):Int),.int .i64 (i:Int)]∧i≤M.n∧HH=(b1,.cells #[.int .i64 0,.int .i64 0,.int .i64 0,.bool false] 69 (0,0))::(J++H')∧eU mp {M with ord:=bc M.ord (aS M.ord o i),tr:=M.tr++aS M.ord o i} X H'∧(aS M.ord o i).length≤((D4 M.n M.cap M.aM).ct 0 ls M.ord).length,
    fun vs _=>M.n-aT vs 1,JE.mk ⟨0,H,rfl,Nat.zero_le _,rfl,by simpa[aS,bc]using h,Nat.zero_le _⟩,?_⟩
  rintro w37 w38 HH ⟨i,H1,⟨⟩,hi,rfl,hd,hg⟩ gs
  refine aa.cZ (Br.dec (fun hlt=>?_) (fun hge=>?_))
  · have fK:o[i]? =some (o.getD i 0):=by rw[List.getD_eq_getElem?_getD,List.getElem?_eq_getElem (by omega)];rfl
    obtain⟨x,hx⟩:∃x,x=o.getD i 0:=⟨_,rfl⟩
    rw[←hx]at fK
    refine Wg.ld (n:=((x:Nat):Int)) (bR fK) (fun _ h=>.tail _ (List.mem_append_left _ h)) ?_
    obtain⟨p,Ic⟩:∃p,p=Gb (bc M.ord (aS M.ord o i)) (o.getD i 0):=⟨_,rfl⟩
    obtain⟨sO,nj⟩:=(fE y9 y8 i (by omega)).2.2 (by omega)
    rw[←Ic]at sO nj
    have Ud:p<(bc M.ord (aS M.ord o i)).length:=by rw[fe];exact nj
    have nm:=fun{j:Nat} (h1:i≤j) (h2:j≤p)=>KI (p:=M.ord) (q:=o) (i:=i) (j:=j) (by omega) h1 (by rw[←Ic];exact h2)
    rw[←Ic,←hls]at nm
    have hme:o.getD i 0∈bc M.ord (aS M.ord o i):=by
      obtain⟨r,hr⟩:=(nm sO (Nat.le_refl _)).1
      rw[(MD (a:=aS M.ord o i) (r:=iG p p++r) (by rw[hr];simp)).1.mem_iff,←hop.mem_iff]
      exact List.mem_of_getElem? (by rw[fK,hx])
    refine⟨fun vs HH=>∃(j:Nat) (H':Hp),vs=[.int .i64 (((aS M.ord o i++iG j p).length:Nat):Int)]∧i≤j∧j≤p∧HH=(b1,.cells #[.int .i64 0,.int .i64 0,.int .i64 0,.bool false] 69 (0,0))::(J++H')∧eU mp {M with ord:=bc M.ord (aS M.ord o i++iG j p),tr:=M.tr++(aS M.ord o i++iG j p)} X H'∧(aS M.ord o i++iG j p).length≤((D4 M.n M.cap M.aM).ct 0 ls M.ord).length,
      fun vs _=>2*144-aT vs 0,JE.mk ⟨p,H1,by rw[jJ (Nat.le_refl _),List.append_nil],sO,Nat.le_refl _,rfl,by rw[jJ (Nat.le_refl _),List.append_nil];exact hd,by rw[jJ (Nat.le_refl _),List.append_nil];exact hg⟩,?_⟩
    clear hd hg
    rintro w46 HH ⟨j,H2,⟨⟩,hij,Q0,rfl,hd,hg⟩ gs
    obtain⟨⟨r1,JQ⟩,iZ⟩:=nm hij Q0
    obtain⟨Gf,Wt⟩:=MD JQ
    have l8:(bc M.ord (aS M.ord o i++iG j p))[j]? =some x:=by
      have e:(bc M.ord (aS M.ord o i++iG j p)).getD j 0=x:=by
        rw[qs,vm Q0 Ud (Nat.le_refl _),if_pos rfl,hx,Ic];exact uF hme
      rw[←e,List.getD_eq_getElem?_getD,List.getElem?_eq_getElem (by rw[(bT Gf).1];omega)];rfl
    have fB:(bc M.ord (aS M.ord o i++iG j p)).Nodup:=Gf.nodup_iff.2 List.nodup_range
    have Iq:=fun(B:Hp) (hB:vx mp {M with ord:=bc M.ord (aS M.ord o i++iG j p),tr:=M.tr++(aS M.ord o i++iG j p)} B)=>tF hB (by show(bc M.ord _).length≤64;rw[(bT Gf).1];omega) l8 fB
    refine ae.eq (Iq _ hd.rd) ?_
    have C7:(aS M.ord o i++iG j p).length≤ls.length:=by
      have:=congrArg List.length JQ
      rw[List.length_append]at this;omega
    refine aa.jb (Br.dec (fun hgt=>?_) (fun hle=>?_))
    · refine ae.eq (Iq _ hd.rd) ?_
      refine aa.bX (b:=1) ?_
      obtain⟨r2,iZ⟩:=iZ hgt
      have hit:=(D4 M.n M.cap M.aM).LW (ord:=M.ord) iZ hg
      have Wp:j-1+1<M.n:=Lq _ (by rw[iZ];simp)
      by_cases hfit:(D4 M.n M.cap M.aM).fit (bc M.ord (aS M.ord o i++iG j p)) (j-1)=true
      · have eC:=hit.1 hfit
        refine ae.fq (xI hd Wt Wp (by have:=of_decide_eq_true hfit;show 2+(kN M.n (bc M.ord _) _ M.aM).length≤M.cap;omega)) ?_
        rintro w H3 ⟨rfl,SU⟩
        refine aa.fZ (Br.F ?_)
        refine aa.inc ?_
        have Uw:=(D4 M.n M.cap M.aM).nZ 0 ls M.ord
        refine aq.mk ⟨j-1,H3,?_,by omega,by omega,rfl,?_,?_⟩ (by simp only[aT];simp at*;omega)
        · rw[rW (by omega) Q0];simp;omega
        · rw[rW (by omega) Q0,←List.append_assoc,iP,←List.append_assoc];exact SU
        · rw[rW (by omega) Q0,←List.append_assoc,List.length_append];simp only[List.length_singleton];omega
      · have heq:((D4 M.n M.cap M.aM).ct 0 ls M.ord).length=(aS M.ord o i++iG j p).length:=by
          have:=mt hit.2 hfit;omega
        refine ae.eq (xJ hd.rd Wt Wp (by have:¬((kN M.n (bc M.ord (aS M.ord o i++iG j p)) (j-1) M.aM).length+2≤M.cap):=of_decide_eq_false (Bool.eq_false_iff.2 hfit);show M.cap<2+(kN M.n (bc M.ord _) _ M.aM).length;omega)) ?_
        refine aa.fZ (Br.T ?_)
        refine ae.fq (zP hd hM Gf (fun x hx=>Lq x (by rw[JQ];exact List.mem_append_left _ hx)) (by rw[List.length_append];omega)) ?_
        rintro w H3 ⟨rfl,SU⟩
        rw[ta (fun x hx=>by rw[hml];exact Lq x (by rw[JQ];exact List.mem_append_left _ hx))]at SU
        refine aa.dx ?_
        refine Build.mk (cs:=[.int .i64 ((B0:Nat):Int),.int .i64 ((B0:Nat):Int),.int .i64 (((aS M.ord o i++iG j p).length+(aS M.ord o i++iG j p).length:Nat):Int),.bool false]) rfl ?_
        refine St.q ?_
        refine av.q ?_
        refine bN.mk (jk:=H3) (.skip .right) (.inr ⟨by rw[←pJ,←RW];exact hb,o,ls,ho,hls,.inr ⟨?_,?_,SU⟩⟩)
        · refine decide_eq_false ?_
          rw[heq,iZ];simp
        · rw[←pJ,heq,Nat.two_mul]
    · obtain rfl:j=i:=by omega
      refine aa.inc ?_
      refine aq.mk ⟨j+1,H2,?_,hlt,rfl,?_,?_⟩ (by simp only[aT];omega)
      · rw[aS,←Ic]
      · rw[aS,←Ic];exact hd
      · rw[aS,←Ic];exact hg
  · obtain rfl:i=M.n:=by omega
    have Ll:aS M.ord o M.n=ls:=by rw[hls];unfold path;rw[CW]
    rw[Ll]at hd hg
    rw[Ll]
    refine Build.mk (cs:=[.int .i64 ((B0:Nat):Int),.int .i64 ((Bm:Nat):Int),.int .i64 ((ls.length:Nat):Int),.bool true]) rfl ?_
    refine St.q ?_
    refine av.q ?_
    refine bN.mk (jk:=H1) (.skip .right) (.inr ⟨by rw[←pJ,←RW];exact hb,o,ls,ho,hls,.inl ⟨?_,?_,?_⟩⟩)
    · refine decide_eq_true ?_
      have:=(D4 M.n M.cap M.aM).nZ 0 ls M.ord
      omega
    · rw[←pJ,←RW]
    · have:=(nJ y9 y8).1
      rw[←hls]at this
      rw[this]at hd;exact hd
end
section
variable {n c:Nat} {ord tr:List Nat} {Y:Hp} {kp mp:Nat} {vr vt:Value} {K:Kd} {S:Nat→aU.Fn} {M:Md} {refs:List Nat} {ts:af.Fs} {HM CR CS:Hp}
theorem G0(hsc:Sc n c ord tr Y kp mp vr vt K S M refs ts HM CR CS)(hn:n≤8)(hp:ord.Perm (List.range n)){v v2:Value}{H H2:Hp}(h1:OZ kp K S ord tr v H)(h2:So mp M Y v2 H2):
  ∃(b nw sw:Nat) (op:Bool) (o ls:List Nat),v=.tuple #[.agg #[.int .i64 (b:Int),.int .i64 (nw:Int),.int .i64 (sw:Int),.bool op],.int .i64 0]∧v2=.tuple #[.agg #[.int .i64 (b:Int),.int .i64 (nw:Int),.int .i64 (sw:Int),.bool op],.int .i64 0]∧At kp K S o (tr++ls) H∧eU mp {M with ord:=o,tr:=M.tr++ls} Y H2∧o.Perm (List.range n)∧ls.length≤144:=by
 obtain⟨L,C9,ja,_,hQ⟩:=h1
 have rD:=hsc.kn
 have zm:M.n=K.n:=hsc.mn.trans rD.symm
 have WJ:M.cap=K.cap:=hsc.mc.trans hsc.kc.symm
 have S9:∀t∈M.aM,af.bO K.n t:=fun t ht=>by
  obtain⟨e,he,rfl⟩:=List.mem_map.1 ht
  exact hsc.tu.ic e he
 have Zy:FT K.n L=FT K.n M.aM:=by rw[←ja,hsc.tu.uW];rfl
 have hmem:∀t,t∈M.aM↔t∈L:=fun t=>by
  have e:=congrFun Zy (dz K.n t)
  constructor
  ·intro ht
   obtain⟨u,hu,he⟩:FT K.n L (dz K.n t):=by rw[e];exact⟨t,ht,rfl⟩
   rw[fm (S9 t ht) (C9 u hu) he];exact hu
  ·intro ht
   obtain⟨u,hu,he⟩:FT K.n M.aM (dz K.n t):=by rw[←e];exact⟨t,ht,rfl⟩
   rw[fm (C9 t ht) (S9 u hu) he];exact hu
 have Iq:af.lvl M.n M.aM=af.lvl K.n L:=by rw[zm];exact funext fun A=>funext fun v=>Hx hmem A v
 have JR:ord.Perm (List.range K.n):=by rw[rD];exact hp
 have C7:=r5 hsc.tu (by omega:K.n≤16)
 have hsz:bL M.n M.ord M.aM M.n=jZ K S ord:=by
  rw[zm,hsc.mo];exact(C7.size ord JR).symm
 have hB:af.B M.n (af.lvl M.n M.aM) 0=af.B K.n (af.lvl K.n L) 0:=by rw[Iq,zm]
 have hO:af.ord M.n (af.lvl M.n M.aM) M.n 0=af.ord K.n (af.lvl K.n L) K.n 0:=by rw[Iq,zm]
 have QL:K.n*(K.n-1)≤8*7:=Nat.mul_le_mul (by omega) (by omega)
 rcases hQ with⟨e,rfl,hA⟩|⟨hne,o,ls,ho,hls,hQ⟩
 ·rcases h2 with⟨_,rfl,hd⟩|⟨hne,_⟩
  ·exact⟨jZ K S ord,jZ K S ord,0,true,ord,[],rfl,by rw[hsz];rfl,by rw[List.append_nil];exact hA,by rw[List.append_nil,←hsc.mo];exact hd,hp,by simp⟩
  ·exact absurd (by rw[hsz,hB];exact e) hne
 ·rcases h2 with⟨e,_⟩|⟨_,o2,Ms,jQ,Ul,h2⟩
  ·exact absurd (by rw[←hsz,e,hB]) hne
  have Yy:o2=o:=by rw[jQ,ho];exact hO
  subst Yy
  have sC:Ms=ls:=by rw[Ul,hls,hsc.mo]
  subst sC
  have hop:o2.Perm (List.range K.n):=by rw[ho];exact lT _
  have hk:∀p:List Nat,p.Perm (List.range K.n)→jZ K S p=bL K.n p L K.n:=fun p hp=>by
   unfold jZ;rw[ja];exact GO C9 (by omega) (bT hp).2
  have YA:jZ K S o2=af.B K.n (af.lvl K.n L) 0:=by rw[hk o2 hop,ho];exact o7 (by omega) C9
  have y9:o2.Nodup:=hop.nodup_iff.2 List.nodup_range
  have CW:o2.length=K.n:=by rw[hop.length_eq,List.length_range]
  have nj:=qJ y9 (JR.trans hop.symm) CW
  have Gf:=(nJ y9 (JR.trans hop.symm)).2
  rw[←hls]at nj Gf
  obtain⟨yu,Pv⟩:=C7.can (ord:=ord) (ls:=Ms) (fun l hl=>by have:=Gf l hl;rw[JR.length_eq,List.length_range]at this;exact this) JR
  have WY:(D4 M.n M.cap M.aM).can M.ord Ms=(rm K S).can ord Ms:=by rw[zm,WJ,hsc.mo];exact yu.symm
  have ZL:((D4 M.n M.cap M.aM).ct 0 Ms M.ord).length=((rm K S).ct 0 Ms ord).length:=by rw[zm,WJ,hsc.mo];exact Pv.symm
  rcases hQ with⟨hcan,rfl,hA⟩|⟨hcan,rfl,hA⟩
  ·rcases h2 with⟨_,rfl,hd⟩|⟨hno,_⟩
   ·exact⟨jZ K S ord,jZ K S o2,Ms.length,true,o2,Ms,rfl,by rw[hsz,YA,hB],hA,hd,by rw[←rD];exact hop,by omega⟩
   ·rw[WY,hcan]at hno;cases hno
  ·rcases h2 with⟨hno,_⟩|⟨_,rfl,hd⟩
   ·rw[WY,hcan]at hno;cases hno
   ·exact⟨jZ K S ord,jZ K S ord,_,false,ord,[],rfl,by rw[hsz,ZL],by rw[List.append_nil];exact hA,by rw[List.append_nil,←hsc.mo];exact hd,hp,by simp⟩
end
section
variable {n c:Nat} {ord tr:List Nat} {Y:Hp} {kp mp:Nat} {vr vt:Value} {K:Kd} {S:Nat→aU.Fn} {M:Md} {refs:List Nat} {ts:af.Fs} {HM CR CS:Hp}
theorem Kx{K':Kd}{S':Nat→aU.Fn}{o e8 Tw:List Nat}{C:Hp}(h:Sc n c ord tr Y kp mp vr vt K S M refs ts HM CR CS)(hK:g7 kp K' S' o e8 Tw C)(hn:K'.n=K.n)(hh:∀s,K'.hold s=K.hold s)(hf:∀s,K.hold s≠0→S' s=S s){i r:Nat}{t:List Nat}(hr:refs[i]? =some r)(ht:ts[i]? =some t):live K'.N r∧S' r=dz n t:=by
 obtain⟨_,e2,e3⟩:=h.each i r t hr ht
 rcases e3 with e3|e3
 ·refine⟨.inl e3.1,?_⟩
  rw[e2,e3.2]
  have i1:=hK.ok.mid.int
  have:r=0∨r=1:=by omega
  funext x
  rcases this with rfl|rfl
  ·exact i1.zero x
  ·exact i1.one x
 ·exact⟨.inr (hK.ok.mid.held r (by rw[hh];exact e3)),by rw[e2,hf r e3]⟩
end
end Go.Proofs
namespace aU
section
variable {n:Nat} {ak:Nat→Nat} {ord:List Nat} {N:fb} {S:Nat→Fn} {R:Nat→Prop}
theorem Ei(h:WF n ak N)(hl:qj n ak)(ho:Ord n ak ord)(hi:Interp N S)(hR:∀r,R r→live N r)(hr:Reach N R){l:Nat}(Ey:l<n)(g:Fn):(fs ord (Fs S R) l g∧eE g (ord.getD l 0))↔∃r d,N r=some d∧d.v=ord.getD l 0∧g=S r:=by
 obtain⟨v1,v2⟩:=ho.aZ l Ey
 constructor
 ·rintro⟨hf,x,hx⟩
  obtain⟨r,ha,rfl⟩:=(EK h hl ho hi hR l (by omega) g).1 hf
  obtain⟨hlv,hle⟩:=nf h hR l r ha
  by_cases e:dep n ak N r=l
  ·rcases hlv with hc|⟨d,hd⟩
   ·rw[cj (h.const hc)]at e;omega
   ·rw[aE hd]at e
    exact⟨r,d,hd,hl.inj _ _ (h.var hd) v1 (by omega),rfl⟩
  ·exact absurd (by rw[h.cy hl hi hlv v1 (by omega),h.cy hl hi hlv v1 (by omega)]) hx
 ·rintro⟨r,d,hd,xe,rfl⟩
  have hv:=h.var hd
  have hlt:=hl.lt _ hv
  have sC:ak d.v=l:=by rw[xe,v2]
  refine⟨(EK h hl ho hi hR _ (by omega) _).2 ⟨r,by have:=JK h hr _ r d hd (Nat.le_refl _);rwa [sC]at this,rfl⟩,?_⟩
  rw[←xe]
  refine Classical.byContradiction fun hno=>h.ne hd (h.same hl hi (h.lo hd).1 (h.hi hd).1 fun x=>?_)
  have c1:=h.child hl hi hd x false
  have c2:=h.child hl hi hd x true
  simp only[Bool.false_eq_true,if_false,if_true]at c1 c2
  rw[←c1,←c2]
  exact Classical.byContradiction fun hne=>hno ⟨x,hne⟩
theorem EZ(h:WF n ak N)(hl:qj n ak)(hi:Interp N S){dom:List Nat}{v:Nat}(hd:dom.Nodup)(hm:∀r,r∈dom↔∃d,N r=some d∧d.v=v):ou (fun g=>∃r d,N r=some d∧d.v=v∧g=S r) dom.length:=by
 refine⟨dom.map S,?_,by simp,fun g=>?_⟩
 ·refine List.pairwise_map.2 (hd.imp_of_mem fun{a b} ha hb hne heq=>hne ?_)
  obtain⟨d1,h1,_⟩:=(hm a).1 ha
  obtain⟨d2,h2,_⟩:=(hm b).1 hb
  exact h.same hl hi (.inr ⟨d1,h1⟩) (.inr ⟨d2,h2⟩) fun x=>by rw[heq]
 ·rw[List.mem_map]
  constructor
  ·rintro⟨r,d,h1,h2,rfl⟩;exact⟨r,(hm r).2 ⟨d,h1,h2⟩,rfl⟩
  ·rintro⟨r,h1,rfl⟩;obtain⟨d,h2,h3⟩:=(hm r).1 h1;exact⟨r,d,h2,h3,rfl⟩
end
open af in
theorem HB{n:Nat}{ord:List Nat}{L:af.Fs}(hL:∀t∈L,bO n t)(hn:n≤16)(ho:∀i,i<n→ord.getD i 0<n){m:Nat}(hm:m<n):ou (fun g=>fs ord (FT n L) m g∧eE g (ord.getD m 0)) (jA n ord L m).length:=by
 refine rT (fun t ht=>gz hL hn m t (gQ.1 ht).1) ((oY m).filter _) fun g=>?_
 rw[vb hL hn ho m (by omega)]
 constructor
 ·rintro⟨⟨t,ht,rfl⟩,hh⟩
  exact⟨t,gQ.2 ⟨ht,(gI (gz hL hn m t ht) (ho m (by omega))).1 hh⟩,rfl⟩
 ·rintro⟨t,ht,rfl⟩
  obtain⟨h1,h2⟩:=gQ.1 ht
  exact⟨⟨t,h1,rfl⟩,(gI (gz hL hn m t h1) (ho m (by omega))).2 h2⟩
open af in
theorem Ok.width{K:Kd}{S:Nat→Fn}{ak:Nat→Nat}{ord:List Nat}(h:Ok K S ak)(ho:Ord K.n ak ord){L:af.Fs}(ja:K.held S=FT K.n L)(hL:∀t∈L,bO K.n t)(hn:K.n≤16)(hlt:∀i,i<K.n→ord.getD i 0<K.n){j:Nat}(hj:j<K.n){l:List (Nd×Nat)}(fB:(l.map Prod.fst).Nodup)(hl:∀d r,(d,r)∈l↔K.T d=some r∧d.v=ord.getD j 0):l.length=(jA K.n ord L j).length:=by
 have hT:∀d r,K.T d=some r↔K.N r=some d:=fun d r=>by
  rw[h.mid.gn];exact⟨fun h=>h.1,fun h=>⟨h,fun e=>e⟩⟩
 have UE:∀r,r∈l.map Prod.snd↔∃d,K.N r=some d∧d.v=ord.getD j 0:=fun r=>by
  rw[List.mem_map]
  constructor
  ·rintro⟨⟨d,r'⟩,h1,rfl⟩;obtain⟨h2,h3⟩:=(hl d r').1 h1;exact⟨d,(hT d r').1 h2,h3⟩
  ·rintro⟨d,h1,h2⟩;exact⟨(d,r),(hl d r).2 ⟨(hT d r).2 h1,h2⟩,rfl⟩
 have hdn:(l.map Prod.snd).Nodup:=by
  refine List.pairwise_map.2 ((List.pairwise_map.1 fB).imp_of_mem fun{a b} ha hb hne heq=>hne ?_)
  have h1:=(hT a.1 a.2).1 ((hl a.1 a.2).1 ha).1
  have h2:=(hT b.1 b.2).1 ((hl b.1 b.2).1 hb).1
  rw[heq,h2]at h1
  exact(Option.some.inj h1).symm
 have c1:=EZ h.wf h.lv h.mid.int hdn UE
 have c2:=HB (ord:=ord) hL hn hlt hj
 rw[List.length_map]at c1
 refine c1.uniq (c2.congr fun g=>?_)
 rw[←ja]
 exact Ei h.wf h.lv ho h.mid.int (fun r hr=>.inr (h.mid.held r hr)) h.reach hj g
end aU
set_option maxRecDepth 100000
namespace Go.Proofs
open Go Go.Sx
open aU
theorem wD{B:Hp}{v1 v2:Value}{a b:List Int}(h1:bW .i64 B v1 a)(h2:bW .i64 B v2 b)(aV:a.length<2^62):Rd Tryz.prog 92 #[v1,v2] B (· =.bool (decide (a=b))):=by
 refine aW fun g=>Fi ?_
 refine h1.aL (h2.aL ?_)
 refine aa.l6 (Br.dec (fun h=>?_) (fun h=>?_))
 ·exact bK.mk (.refl _) (by rw[decide_eq_false (fun e=>h (by rw[e]))])
 ·refine h1.aL ?_
  have hlen:a.length=b.length:=by omega
  refine⟨fun vs H=>H=B∧∃j:Nat,vs=[.int .i64 (j:Int)]∧j≤a.length∧∀i,i<j→a[i]? =b[i]?,fun vs _=>a.length-aT vs 0,JE.mk ⟨rfl,0,rfl,by omega,by omega⟩,?_⟩
  rintro w H ⟨rfl,j,⟨⟩,hj,aB⟩ gs
  refine aa.cZ (Br.dec (fun hlt=>?_) (fun hlt=>?_))
  ·have ga:a[j]? =some a[j]:=List.getElem?_eq_getElem hlt
   have gb:b[j]? =some b[j]:=List.getElem?_eq_getElem (by omega)
   refine h1.ld ga (fun _ h=>h) (h2.ld gb (fun _ h=>h) ?_)
   refine aa.neq (Br.mk (fun hne=>?_) (fun heq=>?_))
   ·refine bK.mk (.refl _) ?_
    rw[decide_eq_false]
    intro e
    have h3:=congrArg (fun l:List Int=>l[j]?) e
    simp only[ga,gb,Option.some.injEq]at h3
    simp[h3]at hne
   ·refine aa.inc ?_
    refine aq.mk ⟨rfl,j+1,rfl,by omega,fun i hi=>?_⟩ (by simp[aT];omega)
    by_cases e:i=j
    ·subst e;rw[ga,gb];exact congrArg some (by simpa using heq)
    ·exact aB i (by omega)
  ·have:j=a.length:=by omega
   subst this
   refine bK.mk (.refl _) ?_
   rw[decide_eq_true]
   apply List.ext_getElem?
   intro i
   by_cases hi:i<a.length
   ·exact aB i hi
   ·rw[List.getElem?_eq_none (by omega),List.getElem?_eq_none (by omega)]
section
variable {n c:Nat} {ord tr:List Nat} {Y:Hp} {kp mp:Nat} {vr vt:Value} {K:Kd} {S:Nat→aU.Fn} {M:Md} {refs:List Nat} {ts:af.Fs} {HM CR CS C:Hp}
theorem E5(hA:At kp K S ord tr C){L:af.Fs}(ja:K.held S=FT K.n L)(hL:∀t∈L,af.bO K.n t)(hn:K.n≤16)(hp:ord.Perm (List.range K.n)){j v:Nat}(hj:ord[j]? =some v):Rd Tryz.prog 93 #[ptr kp,.int .i64 (v:Int)] C (· =.tuple #[.int .i64 (((jA K.n ord L j).length:Nat):Int),.int .i64 0]):=by
 obtain⟨K',S',e8,h,hk⟩:=hA
 have CW:=(bT hp).1
 have Iv:=(List.getElem?_eq_some_iff.1 hj).1
 have Wo:ord.getD j 0=v:=by rw[List.getD_eq_getElem?_getD,hj];rfl
 have hv:v<K.n:=by rw[←Wo];exact(bT hp).2 j (by omega)
 refine(En h.rep (by rw[hk.n];exact hv)).mono ?_
 rintro r H ⟨e,l,h1,h2,rfl⟩
 refine⟨e,?_⟩
 have Oo:K'.held S'=FT K'.n L:=by rw[hk.n,←ja];exact funext fun g=>propext (hk.held g)
 rw[h.ok.width h.od Oo (by rw[hk.n];exact hL) (by rw[hk.n];exact hn) (by rw[hk.n];exact(bT hp).2) (j:=j) (by rw[hk.n];omega) h1 (by rw[Wo];exact h2),hk.n]
theorem DP{pp:Nat}(hsc:Sc n c ord tr Y kp mp vr vt K S M refs ts HM CR CS)(hn:n≤8)(hc:c≤1048576)(hp:ord.Perm (List.range n))(lH:tr.length≤1000)(hA:At kp K S ord tr C):
  Rd Tryz.prog 33 #[ptr pp] (eW pp kp mp vr vt::(CR++(CS++(HM++C)))) (· =.bool true):=by
 have hM:=hsc.I3 hn hc hp (by omega)
 obtain⟨Z,WA,yj,hYZ,SH,V2,zb⟩:∃Z:Hp,eW pp kp mp vr vt::(CR++(CS++(HM++C)))=Z++C∧eW pp kp mp vr vt∈Z∧(∀x∈Y,x∈Z)∧bW .u32 Z vr (iw refs)∧bV Z vt (cY n ts)∧vx mp M Z:=by
  have WB:∀x∈Y,x∈eW pp kp mp vr vt::(CR++(CS++HM)):=fun x hx=>.tail _ (List.mem_append_right _ (List.mem_append_right _ (hsc.md.sub _ hx)))
  refine⟨eW pp kp mp vr vt::(CR++(CS++HM)),by simp,.head _,WB,?_,?_,?_⟩
  ·exact hsc.rf.ints.mono fun x hx=>.tail _ (List.mem_append_left _ hx)
  ·exact hsc.tw.sF (fun x hx=>.tail _ (List.mem_append_right _ (List.mem_append_left _ hx))) WB
  ·exact hsc.md.rd.mono fun x hx=>.tail _ (List.mem_append_right _ (List.mem_append_right _ hx))
 rw[WA]
 clear WA
 have rD:=hsc.kn
 have zm:=hsc.mn
 have JR:ord.Perm (List.range K.n):=by rw[rD];exact hp
 have CW:=(bT hp).1
 have Gm:=hA
 obtain⟨K',S',e8,hK,hk⟩:=hA
 have IS:K'.n=n:=hk.n.trans rD
 have QS:sb K' S' M.held:=hsc.tu.same hk.n hk.hold hk.fn
 have ja:K.held S=FT K.n M.aM:=hsc.tu.uW
 have S9:∀t∈M.aM,af.bO K.n t:=fun t ht=>by
  obtain⟨e,he,rfl⟩:=List.mem_map.1 ht
  exact hsc.tu.ic e he
 have hsz:bL M.n M.ord M.aM M.n=jZ K S ord:=by
  rw[zm,←rD,hsc.mo];exact((r5 hsc.tu (by omega:K.n≤16)).size ord JR).symm
 obtain⟨vo,vh,DJ,rs,hR⟩:=zb
 have zb:vx mp M Z:=⟨vo,vh,DJ,rs,hR⟩
 have ni:=hsc.rl
 have Wu:=hM.Gp
 refine aW fun g=>FQ ?_
 intro J1 RT
 have fin:J1 [.bool false] (Z++C):=by
  refine RT _ _ fun gs=>Br.no ?_
  refine Ld.v (by exact List.mem_append_left _ yj) ?_
  refine Ld.v (v:=.int .i64 (M.n:Int)) (by exact List.mem_append_left _ hR.ue) ?_
  refine⟨fun vs H=>∃i:Nat,vs=[.int .i64 (i:Int)]∧i≤n∧H=Z++C,fun vs _=>n-aT vs 0,JE.mk ⟨0,rfl,Nat.zero_le _,rfl⟩,?_⟩
  rintro To H ⟨i,⟨⟩,hi,rfl⟩ gs
  rw[zm]
  refine aa.cZ (Br.dec (fun hlt=>?_) (fun hge=>?_))
  ·obtain⟨j,hj⟩:∃j,ord[j]? =some i:=List.mem_iff_getElem?.1 (hp.mem_iff.2 (List.mem_range.2 hlt))
   refine Ld.v (by exact List.mem_append_left _ yj) ?_
   refine ae.eq (E5 Gm ja S9 (by omega) JR hj) ?_
   refine Ext.two ?_
   intro J24 Vc
   refine aa.fZ ?_
   rw[decide_eq_false (by simp)]
   refine Split.go rfl ?_
   refine Ld.v (by exact List.mem_append_left _ yj) ?_
   refine ae.pq (DF (zb.mono fun _ h=>List.mem_append_left C h) hM (by rw[hsc.mo];exact hj) (by rw[hsc.mo];exact hp.nodup_iff.2 List.nodup_range)) ?_
   rintro w N3 rfl
   refine aa.l6 ?_
   rw[decide_eq_false (by rw[zm,hsc.mo,rD];simp)]
   refine ay.mk (JE.mk (Vc _ _ fun gs=>Br.no ?_))
   refine aa.inc ?_
   exact aq.of .right ⟨i+1,rfl,hlt,rfl⟩ (by simp only[aT];omega)
  refine Ld.v (by exact List.mem_append_left _ yj) ?_
  refine SH.aL ?_
  rw[ah]
  refine⟨fun vs H=>∃i:Nat,vs=[.int .i64 (i:Int)]∧i≤refs.length∧H=Z++C,fun vs _=>refs.length-aT vs 0,JE.mk ⟨0,rfl,Nat.zero_le _,rfl⟩,?_⟩
  clear hi hge
  rintro w54 H ⟨i,⟨⟩,hi,rfl⟩ gs
  refine aa.cZ (Br.dec (fun hlt=>?_) (fun hge=>?_))
  rotate_left
  ·exact bK.mk (.refl _) rfl
  have rp:refs[i]? =some refs[i]:=List.getElem?_eq_getElem hlt
  have HY:ts[i]? =some (ts[i]'(by rw[←hsc.len];exact hlt)):=List.getElem?_eq_getElem _
  generalize (ts[i]'(by rw[←hsc.len];exact hlt))=t at*
  generalize refs[i]=r at*
  have Gi:=(hsc.each i r t rp HY).1
  obtain⟨wY,hS⟩:=Kx hsc hK hk.n hk.hold hk.fn rp HY
  have Yr:=hK.ei wY
  refine SH.ld (n:=((r:Nat):Int)) (by rw[bR rp]) (fun _ h=>List.mem_append_left _ h) ?_
  refine DR.self ?_
  refine Ld.v (by exact List.mem_append_left _ yj) ?_
  refine Ld.v (by exact List.mem_append_left _ yj) ?_
  refine Ld.v (v:=.int .i64 (M.n:Int)) (by exact List.mem_append_left _ hR.ue) ?_
  intro F64
  refine ae.pq (B:=Z++C) (args:=#[ptr kp,.int .i64 (M.n:Int),u32 r]) (by rw[zm,←IS];exact tg hK (by omega) wY Z) ?_
  rintro v N3 ⟨_,ws,rfl,⟨s,rfl,MA⟩,Ot,Rc⟩
  rw[IS]at Ot Rc
  have TP:ws=t:=fm Ot Gi (by rw[Rc,hS])
  subst TP
  rw[IS]
  have hos:=ax MA
  refine⟨.right,?_⟩
  refine Ext.two ?_
  intro W7 _ F71
  refine St.p (by simpa[Value.oneCell']using hos) ?_
  refine⟨.skip .right,?_⟩
  intro Z5 U5
  have Vs:Z5 [.bool false] ((W7,.cells (List.toArray [.int .i64 (n:Int),s]) 57 (0,0))::(N3++(Z++C))):=by
   refine U5 _ _ fun gs=>Br.no ?_
   refine aa.inc ?_
   exact aq.of (.skip .right) ⟨i+1,rfl,hlt,rfl⟩ (by simp only[aT];omega)
  refine DR.self ?_
  refine Un.not (Br.no ?_)
  refine av.q ?_
  have hin:∀x∈Z,x∈(W7,Obj.cells (List.toArray [.int .i64 (n:Int),s]) 57 (0,0))::(N3++(Z++C)):=fun x hx=>.tail _ (List.mem_append_right _ (List.mem_append_left _ hx))
  refine Ld.v (hin _ yj) ?_
  refine V2.ld (ig HY) hin fun s2 lF=>?_
  intro F86
  have Ey:=dM Ot
  refine ae.eq (gu (v1:=.agg (List.toArray [.int .i64 (n:Int),s])) (v2:=.agg #[.int .i64 (n:Int),s2]) (a:=⟨n,ws⟩) (b:=⟨n,ws⟩) ⟨s,rfl,MA.mono fun _ h=>.tail _ h⟩ ⟨s2,rfl,lF.mono hin⟩ (by simp only;omega)) ?_
  refine⟨.refl _,?_⟩
  rw[decide_eq_true rfl]
  refine Un.not (ay.mk (Br.no ?_))
  refine Ld.v (hin _ yj) ?_
  refine Ld.v (hin _ yj) ?_
  refine Ld.v (hin _ yj) ?_
  refine V2.ld (ig HY) hin fun s3 Pd=>?_
  intro F98
  refine ae.eq (B:=C) (qX hK.rep (by omega) (fun s=>by have:=hK.ir s;omega)) ?_
  refine⟨.refl _,?_⟩
  intro aam
  refine ae.rq (wW (mp:=mp) (M:=M) (zb.mono hin) hM (v:=.agg #[.int .i64 (n:Int),s3]) (t:=ws) ⟨s3,by rw[zm],Pd.mono hin⟩ (by rw[zm];exact Ot)) ?_
  intro v OB
  obtain⟨c1,c2⟩:=QS.count hK.ok wY (by rw[IS,Rc]) (by rw[IS];exact Ot)
  have JO:v=.int .i64 ((K'.hold r:Nat):Int):=by
   rcases OB with⟨e,he,h1,h2⟩|⟨h1,h2⟩
   ·rw[h2,c1 e he h1]
   ·rw[h2,c2 h1];rfl
  subst JO
  refine aa.l6 ?_
  rw[decide_eq_false (fun hh=>hh rfl)]
  exact ay.mk (JE.mk Vs)
 refine DR.self ?_
 have xd:∀x∈Z,x∈Z++C:=fun _ h=>List.mem_append_left _ h
 refine Ld.v (xd _ yj) ?_
 refine Ld.v (xd _ yj) ?_
 refine Ld.v (xd _ hR.ue) ?_
 intro aal
 refine ae.fq (x4 Gm) ?_
 rintro v C2 ⟨N,rfl,ho⟩
 refine⟨.cv .right _,?_⟩
 intro aak
 refine ae.eq (wD (B:=Z++(N++C)) (ho.ints.mono fun _ h=>List.mem_append_right _ (List.mem_append_left _ h)) (hR.ord.mono fun _ h=>List.mem_append_left _ h) (by rw[ah];omega)) ?_
 refine⟨.cv .right _,?_⟩
 rw[decide_eq_true (by rw[hsc.mo])]
 refine Un.not (Br.no ?_)
 refine Ld.v (xd _ yj) ?_
 refine Ld.v (xd _ yj) ?_
 intro aaj
 refine ae.eq (B:=C) (qh Gm) ?_
 refine⟨.cv .right _,?_⟩
 intro aai
 refine ae.eq (B:=Z) (wy zb hM) ?_
 refine⟨.cv .right _,?_⟩
 refine aa.l6 ?_
 rw[hsz,decide_eq_false (fun hh=>hh rfl)]
 refine ay.mk (Br.no ?_)
 refine Ld.v (xd _ yj) ?_
 refine Ld.v (xd _ yj) ?_
 refine Ld.v (xd _ hR.ue) ?_
 refine hR.sl.aL ?_
 rw[hR.each.1]
 intro aah
 refine ae.rq (B:=C) (G2 hK) ?_
 rintro v ⟨q,hq,Wb⟩
 refine⟨.cv .right _,?_⟩
 refine hq _ ?_
 obtain⟨b,_,hO⟩:=hK.rep
 have vC:=hO.ul
 rw[QS.roots hK.ok (by omega)]at Wb
 subst Wb
 refine aa.l6 ?_
 rw[decide_eq_false (fun hh=>hh rfl)]
 exact ay.mk (JE.of (.cv .right _) fin)
end
end Go.Proofs
set_option maxRecDepth 100000
namespace Go.Proofs
open Go Go.Sx
open aU
theorem DZ{kp:Nat}{K:Kd}{S:Nat→aU.Fn}{ord tr:List Nat}{v:Value}{H:Hp}(h:OZ kp K S ord tr v H):∃(b nw sw:Nat) (op:Bool),v=.tuple #[.agg #[.int .i64 (b:Int),.int .i64 (nw:Int),.int .i64 (sw:Int),.bool op],.int .i64 0]:=by
 obtain⟨L,_,_,_,hQ⟩:=h
 rcases hQ with⟨_,e,_⟩|⟨_,o,ls,_,_,⟨_,e,_⟩|⟨_,e,_⟩⟩
 ·exact⟨_,_,0,_,e⟩
 ·exact⟨_,_,_,_,e⟩
 ·exact⟨_,_,_,_,e⟩
section
variable {B:Hp} {n c:Int} {vl vv:Value} {Tv:List Tb} {wC:List Int}
theorem Ky(Vi:(B.map Prod.fst).Nodup)(OP:bV B vl Tv)(Qr:bW .i64 B vv wC):
  Rd Tryz.prog 5 #[.agg #[.int .i64 n,.int .i64 c,vl,vv]] B (· =.bool true):=by
 refine aW fun g=>JC ?_
 intro b1 _
 obtain⟨c1,yu⟩:∃c1:Nat×Obj,c1=(b1,Obj.cells (Value.cells (.agg #[.int .i64 n,.int .i64 c,vl,vv])) 62 (0,0)):=⟨_,rfl⟩
 rw[←yu]
 refine ae.pq (Jo B) ?_
 rintro w N0 rfl
 refine Un.not (Br.no ?_)
 have hL:bV (N0++B) vl Tv:=OP.mono fun _ h=>List.mem_append_right _ h
 have hv:bW .i64 (N0++B) vv wC:=Qr.mono fun _ h=>List.mem_append_right _ h
 have Vj:∀x∈B,x∈N0++B:=fun _ h=>List.mem_append_right _ h
 generalize N0++B=Y at*
 clear OP Qr
 refine av.q (r:=[.int .i64 n,.int .i64 c,vl,vv]) ?_ (by rw[yu];exact .head _)
 refine ae.rq (OT hL hv) ?_
 intro w hw
 rcases hw with rfl|⟨rfl,m,k,L,rfl,rfl,hm,hk,rfl,C9,Te,hvl⟩
 ·refine Un.not (dO.or (a:=true) true (fun h=>absurd h (by decide)) rfl fun gs=>?_)
  refine dO.or (a:=true) true (fun h=>absurd h (by decide)) rfl fun gs=>?_
  exact Br.yes (bK.mk (.sub Vi fun x hx=>.tail _ (Vj x hx)) rfl)
 refine Un.not (dO.or (a:=false) (decide (7<m)) (fun h=>?_) rfl fun gs=>?_)
 ·refine Ld.u (v:=.int .i64 (m:Int)) (by rw[yu];exact .head _) ?_
  exact aa.jb (b:=7) ⟨rfl,rfl⟩
 refine dO.or (decide (12<L.length)) (fun h=>?_) rfl fun gs=>?_
 ·refine Ld.u (v:=vl) (by rw[yu];exact .head _) ?_
  refine hL.aL ?_
  rw[aF]
  exact aa.jb (b:=12) ⟨rfl,rfl⟩
 rw[show(false||decide (7<m)||decide (12<L.length))=decide (7<m∨12<L.length)by simp]
 refine Br.dec (fun Gn=>?_) (fun Gn=>?_)
 ·exact bK.mk (.sub Vi fun x hx=>.tail _ (Vj x hx)) rfl
 refine av.q (r:=[.int .i64 (m:Int),.int .i64 (k:Int),vl,vv]) ?_ (by rw[yu];exact .head _)
 refine ae.fq (zN hm hk hL C9 Te hv hvl) ?_
 rintro w H ⟨pp,kp,mp,vr,vt,K,S,ord,tr,M,refs,ts,HM,CR,CS,C,rfl,rfl,hsc,hA,hp,lH⟩
 refine Ext.two ?_
 refine Un.not (Br.no ?_)
 refine⟨fun vs HH=>∃(i:Nat) (ord tr:List Nat) (M:Md) (HM C:Hp),vs=[.int .i64 (i:Int)]∧i≤2∧HH=c1::eW pp kp mp vr vt::(CR++(CS++(HM++C)))∧Sc m k ord tr Y kp mp vr vt K S M refs ts HM CR CS∧At kp K S ord tr C∧ord.Perm (List.range m)∧tr.length≤200+144*i,
  fun vs _=>2-aT vs 0,JE.mk ⟨0,ord,tr,M,HM,C,rfl,by omega,rfl,hsc,hA,hp,by omega⟩,?_⟩
 clear hsc hA hp lH
 rintro Xt HH ⟨i,ord,tr,M,HM,C,⟨⟩,hi,rfl,hsc,hA,hp,lH⟩ gs
 have rD:=hsc.kn
 have JR:ord.Perm (List.range K.n):=by rw[rD];exact hp
 have hM:=hsc.I3 hm.2 hk.2 hp (by omega)
 refine aa.cZ (b:=2) (Br.dec (fun hlt=>?_) (fun hge=>?_))
 rotate_left
 ·exact bK.mk (.sub Vi fun x hx=>.tail _ (.tail _ (List.mem_append_right _ (List.mem_append_right _ (List.mem_append_left _ (hsc.md.sub _ (Vj x hx))))))) rfl
 refine Ld.n ?_
 refine ae.fq (J5 hA JR (by omega) (by omega)) ?_
 intro w C2 hQ
 obtain⟨b0,XP,XK,XO,rfl⟩:=DZ hQ
 refine Ext.two ?_
 intro W8 _
 refine St.q ?_
 refine Ld.n ?_
 refine ae.fq (zz hsc.md hM (by rw[hsc.mn];omega) (by rw[hsc.mo,hsc.mn];exact hp) (by rw[hsc.mt];omega)) ?_
 intro w Gs hD
 obtain⟨b,nw,sw,op,o,ls,e1,rfl,RX,oQ,y8,sC⟩:=G0 hsc hm.2 hp hQ hD
 obtain⟨rfl,rfl,rfl,rfl⟩:b0=b∧XP=nw∧XK=sw∧XO=op:=by
  simp at e1
  refine⟨?_,?_,?_,?_⟩<;>first|omega|simp_all
 have Qy:Sc m k o (tr++ls) Y kp mp vr vt K S {M with ord:=o,tr:=M.tr++ls} refs ts Gs CR CS:={hsc with md:=oQ,mo:=rfl,mt:=by show M.tr++ls=_;rw[hsc.mt]}
 have NZ:(tr++ls).length≤200+144*(i+1):=by rw[List.length_append];omega
 refine Ext.two ?_
 intro b50 _
 refine St.q ?_
 intro J53 U6
 refine DR.self ?_
 refine aa.fZ (Br.F ?_)
 refine Ld.f ?_
 refine Ld.f ?_
 refine aa.l6 (ay.mk (Br.Pc (by simp) ?_))
 refine Ld.f ?_
 refine Ld.f ?_
 refine aa.l6 (ay.mk (Br.Pc (by simp) ?_))
 refine Ld.f ?_
 refine Ld.f ?_
 refine aa.l6 (ay.mk (Br.Pc (by simp) ?_))
 refine Ld.f ?_
 refine Ld.f ?_
 refine aa.KO (ay.mk (Br.Pc (by simp) ?_))
 intro VE
 refine ae.eq (DP Qy hm.2 hk.2 y8 (by omega) RX) ?_
 refine⟨.refl _,?_⟩
 refine Un.not (ay.mk (Br.no ?_))
 refine Ld.n ?_
 refine Ld.n ?_
 obtain⟨vo,vh,DJ,rs,hR⟩:=oQ.rd
 refine Ld.v (by exact .tail _ (.tail _ (.tail _ (.tail _ (List.mem_append_right _ (List.mem_append_right _ (List.mem_append_left _ hR.ue))))))) ?_
 refine hR.tr.aL ?_
 rw[ah]
 intro F99
 refine ae.eq (og RX) ?_
 refine⟨.refl _,?_⟩
 refine aa.l6 (ay.mk ?_)
 rw[decide_eq_false (by rw[←hsc.mt];exact fun h=>h rfl)]
 refine JE.mk (U6 _ _ fun gs=>Br.no ?_)
 refine aa.inc ?_
 exact aq.of (.skip (.skip (.refl _))) ⟨i+1,o,tr++ls,_,Gs,C2,rfl,by omega,rfl,Qy,RX,y8,NZ⟩ (by simp only[aT];omega)
end
end Go.Proofs
