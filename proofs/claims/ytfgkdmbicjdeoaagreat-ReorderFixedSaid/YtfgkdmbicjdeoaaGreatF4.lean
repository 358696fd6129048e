import Derived.Test.YtfgkdmbicjdeoaaGreatF3
import Derived.Test.YtfgkdmbicjdeoaaGreatF2
import Derived.Test.YtfgkdmbicjdeoaaGreatF1
set_option linter.unusedVariables false
set_option linter.unusedSimpArgs false
set_option linter.unusedSectionVars false
set_option maxRecDepth 100000
namespace Go.Proofs
open Go Go.Sx
open aZ
section
def GQ(ops:Array Oper)(listed:Array Bool):Bool:=(List.range ops.size).all fun j=>match ops[j]? with
 |some oj=> !listed.getD j true||oj.after.toList.all fun e=> !Region.binds .any e||listed.getD e.on true
 |none=>true
theorem gH{ops:Array Oper}{listed:Array Bool}(h:GQ ops listed=true):fb .any ops listed:=by
 intro j oj hj hl e he hb
 unfold GQ at h
 have h1:=List.all_eq_true.1 h j (List.mem_range.2 (Array.getElem?_eq_some_iff.1 hj).1)
 simp only[hj,hl,Bool.not_true,Bool.false_or]at h1
 have h2:=List.all_eq_true.1 h1 e (Array.mem_toList_iff.2 he)
 rw[hb]at h2
 simpa using h2
theorem Qx{g:Gh}{mb nb:Nat}{es:Array MapEntry}{ck:Nat}{ks:List Nd}{d:Nd}(hmk:uE es ck ks){c:Obj→Hp}(Ni:∀o o',cJ mb o o' (c o) (c o'))(Yd:∀o,(nb,Obj.cells (aT d).toArray 161 (0,0))∈c o){K:Hp→Prop}
 (hk:∀es' eU,uE es' eU (if d∈ks then ks else ks++[d])→K (c (.map es' eU))):
  Vo Tryz.prog g 10 (nR FF 10) [7,11] [.map (some mb),ptr nb] (c (.map es ck)) K:=by
 have hm:(mb,Obj.map es ck)∈c (.map es ck):=(Ni _ (.map es ck)).mem
 have hn:=Yd (.map es ck)
 obtain⟨m,hE,rfl⟩:=hmk
 intro a w hok hvs hw
 simp only[List.map_cons,List.map_nil,List.cons.injEq,and_true]at hvs
 obtain⟨h7,h11⟩:=hvs
 obtain⟨n,hnn⟩:∃n,n=a.tmps.size:=⟨_,rfl⟩
 obtain⟨fr,hfr⟩:∃fr:Fr,fr=fun s=>a.tmps.getD s undef:=⟨_,rfl⟩
 have ha:cD a.defers n a fr:=⟨rfl,hnn.symm,fun s=>by rw[hfr]⟩
 have f7:fr 7=.map (some mb):=by rw[hfr];exact h7
 have f11:fr 11=ptr nb:=by rw[hfr];exact h11
 rw[←hnn]at hok
 have eok:iy n (nR FF 10).toList=(Nat.blt 58 n&& (Nat.blt 59 n&& (Nat.blt 60 n&& (Nat.blt 61 n&& (Nat.blt 62 n&& (Nat.blt 63 n&& (true&&true))))))):=by kernel_rfl
 rw[eok]at hok
 simp only[Bool.and_eq_true,Bool.and_true]at hok
 obtain⟨k58,k59,k60,k61,k62,k63⟩:=hok
 refine wp_region_any (by kernel_rfl) ?_
 obtain⟨z0,Z5⟩:∃z0:Int,z0=(er m d).getD 0:=⟨_,rfl⟩
 obtain⟨S0,Wi⟩:∃S0:World→Prop,S0=fun w=>Own g [(nb,Obj.cells (aT d).toArray 161 (0,0))] w∧(Instr.lookup 285 (.map (some mb)) (nK d) false).run Tryz.prog w=.ok (.int .i64 z0) w:=⟨_,rfl⟩
 have look:∀{es':Array MapEntry} {eU:Nat} {m':List (Nd×Int)} {H':Hp} {w':World},bu nK vrZ es' eU m'→(mb,Obj.map es' eU)∈H'→Own g H' w'→(er m' d).getD 0=z0→(Instr.lookup 285 (.map (some mb)) (nK d) false).run Tryz.prog w'=.ok (.int .i64 z0) w':=by
  intro es' eU m' H' w' h1 h2 h3 h4
  have hL:kL Tryz.prog 161 (.int .i64 0) false H' (.map (some mb)) (nK d) (· =.int .i64 z0):=by
   cases hg:er m' d with
   |some z=>exact bu.QR (ke:=nK) (k:=d) pI k9 h1 h2 hg (by rintro v rfl;rw[hg]at h4;simp at h4;rw[h4];rfl)
   |none=>exact bu.Gx (ke:=nK) (k:=d) pI k9 h1 h2 hg (by rw[hg]at h4;simp at h4;rw[←h4];rfl)
  obtain⟨v,hr,rfl⟩:=hL.run (P:=Tryz.prog) h3 (t:=285) (kt:=161) (e:=3) (kd:=.struct (Tryz.prog.fieldsOf 161)) (i:=(Tryz.prog.info? 3).get (by kernel_rfl)) (by kernel_rfl) Gu rfl (by kernel_rfl) (by kernel_rfl)
  exact hr
 have oP:=hw.wF
 have s0:S0 {w with drawn:=w.drawn+1}:=by rw[Wi];exact⟨Own.sub oP hn,look hE hm oP Z5.symm⟩
 have Yt:∀{o:Oper} {v:Value} (c:List PanicEntry) (a':Act) (w':World),(fun(e:Exit) (a':Act) (w':World)=>e=.normal∧a'.defers=a.defers∧a'.tmps.size=a.tmps.size∧(∀s,bP (nR FF 10).toList s=false→a'.tmps.getD s undef=a.tmps.getD s undef)∧∃H',Own g H' w'∧K H') (.panic c) (a'.put o.dst v) w'→
   (fun(e:Exit) (a':Act) (w':World)=>e=.normal∧a'.defers=a.defers∧a'.tmps.size=a.tmps.size∧(∀s,bP (nR FF 10).toList s=false→a'.tmps.getD s undef=a.tmps.getD s undef)∧∃H',Own g H' w'∧K H') (.panic c) a' w':=by
  rintro _ _ _ _ _ ⟨h,_⟩;cases h
 have hsel:Region.noSelect (nR FF 10)=true:=by kernel_rfl
 have hkeep:∀i,i<6→∀(j:Nat) (oj:Oper) (w w':World),(nR FF 10)[j]? =some oj→j≠i→¬nh .any (nR FF 10) i j→S0 w→(j≠6→S0 w→S0 w')→S0 w':=fun i hi j oj w w' _ _ hno h0 hs=>by
  by_cases e:j=6
  ·subst e;exact absurd (fun oj iK e he hb heq=>hno (.one iK he hb heq)) (six hi)
  ·exact hs e h0
 refine dm.any (S:=fun j w w'=>j≠6→S0 w→S0 w') ?_
 have hsz:(nR FF 10).size=7:=by kernel_rfl
 rw[hsz]
 refine dm.take (gH (by kernel_rfl)) (S0:=S0) (i:=0) (oi:=fX FF 10 0) (v:=.map (some mb)) (by kernel_rfl) hsel (by kernel_rfl) (by kernel_rfl) Yt (fun _ h _ _=>h) (hkeep 0 (by decide)) (.inl ⟨rfl,fun w hw=>?_⟩) s0 ?_
 ·rw[ha.eval];have:(execOp (ev fr) (fX FF 10 0))=pure (.value (fr 7)):=rfl
  rw[this,f7];rfl
 have Cz:=ha.put (d:=some 58) k58 (.map (some mb))
 change dm _ _ _ _ _ 6 _ (a.put (some 58) (.map (some mb))) _
 refine dm.take (gH (by kernel_rfl)) (S0:=S0) (i:=1) (oi:=fX FF 10 1) (v:=nK d) (by kernel_rfl) hsel (by kernel_rfl) (by kernel_rfl) Yt (fun _ h _ _=>h) (hkeep 1 (by decide)) (.inl ⟨rfl,fun w hw=>?_⟩) s0 ?_
 ·rw[Cz.eval]
  have e:AY Tryz.prog g (fX FF 10 1) (ev (cz fr (some 58) (.map (some mb)))) [(nb,Obj.cells (aT d).toArray 161 (0,0))] (fun v=>v=nK d)=az 3 [(nb,Obj.cells (aT d).toArray 161 (0,0))] (fr 11) (fun v=>v=nK d):=by kernel_rfl
  obtain⟨v,rfl,hr,_⟩:=nB (e.mpr (by rw[f11];exact az.whole (r:=aT d) (.head _) rfl rfl))
  rw[Wi]at hw
  exact hr _ hw.1
 have z8:=Cz.put (d:=some 59) k59 (nK d)
 change dm _ _ _ _ _ 5 _ ((a.put (some 58) (.map (some mb))).put (some 59) (nK d)) _
 refine dm.take (gH (by kernel_rfl)) (S0:=S0) (i:=2) (oi:=fX FF 10 2) (v:=.int .i64 z0) (by kernel_rfl) hsel (by kernel_rfl) (by kernel_rfl) Yt (fun _ h _ _=>h) (hkeep 2 (by decide)) (.inl ⟨rfl,fun w hw=>?_⟩) s0 ?_
 ·rw[z8.eval]
  have e:execOp (ev (cz (cz fr (some 58) (.map (some mb))) (some 59) (nK d))) (fX FF 10 2)=(do pure (.value (←Instr.lookup 285 (.map (some mb)) (nK d) false))):=rfl
  rw[Wi]at hw
  rw[e]
  simp only[Sem.run_bind,hw.2,Result.andThen_ok,Sem.run_pure]
 have IK:=z8.put (d:=some 60) k60 (.int .i64 z0)
 change dm _ _ _ _ _ 4 _ (((a.put (some 58) (.map (some mb))).put (some 59) (nK d)).put (some 60) (.int .i64 z0)) _
 refine dm.take (gH (by kernel_rfl)) (S0:=S0) (i:=3) (oi:=fX FF 10 3) (v:=.int .i64 (IntKind.i64.wrap (z0+1))) (by kernel_rfl) hsel (by kernel_rfl) (by kernel_rfl) Yt (fun _ h _ _=>h) (hkeep 3 (by decide)) (.inl ⟨rfl,fun w hw=>?_⟩) s0 ?_
 ·rw[IK.eval]
  have e:AY Tryz.prog g (fX FF 10 3) (ev (cz (cz (cz fr (some 58) (.map (some mb))) (some 59) (nK d)) (some 60) (.int .i64 z0))) [(nb,Obj.cells (aT d).toArray 161 (0,0))] (fun v=>v=.int .i64 (IntKind.i64.wrap (z0+1)))=ae .num .add (.int .i64 z0) (.int .i64 1) (fun v=>v=.int .i64 (IntKind.i64.wrap (z0+1))):=by kernel_rfl
  obtain⟨v,rfl,hr,_⟩:=nB (e.mpr (ae.add rfl))
  rw[Wi]at hw
  exact hr _ hw.1
 have Q1:=IK.put (d:=some 61) k61 (.int .i64 (IntKind.i64.wrap (z0+1)))
 change dm _ _ _ _ _ 3 _ ((((a.put (some 58) (.map (some mb))).put (some 59) (nK d)).put (some 60) (.int .i64 z0)).put (some 61) (.int .i64 (IntKind.i64.wrap (z0+1)))) _
 generalize (((a.put (some 58) (.map (some mb))).put (some 59) (nK d)).put (some 60) (.int .i64 z0)).put (some 61) (.int .i64 (IntKind.i64.wrap (z0+1)))=a4 at Q1
 refine dm.all (rs:=[4]) (by kernel_rfl) (by simp) fun i hi=>?_
 simp only[List.mem_singleton]at hi
 subst hi
 have e4:(nR FF 10)[4]? =some (fX FF 10 4):=by kernel_rfl
 unfold wpOp
 rw[e4]
 simp only
 rw[if_pos (show Region.wanted (fX FF 10 4) (yielded (nR FF 10) a4.tmps)=true from rfl)]
 refine .inl ?_
 show(fX FF 10 4).upon Tryz.prog a4 _ _ ((execOp a4.eval (fX FF 10 4)).run Tryz.prog _)
 rw[Q1.eval]
 refine nq.upon (g:=g) (KP:=fun _ _=>False) (bu.Ru (K:=fun v H'=>∃es' eU v0 st,bu nK vrZ es' eU (if d∈m.map Prod.fst then m else m++[(d,0)])∧(∃e∈es'.toList,e.born=st)∧H'=c (.map es' eU)∧v=.tuple #[v0,.int .i64 (st:Int)])
  (t:=285) (kt:=161) (e:=3) (z:=.int .i64 0) (k:=d) (y0:=(0:Int)) pI k9 Gw (o:=fX FF 10 4) (mo:=.tmp 58) (ko:=.tmp 59) rfl rfl rfl (by kernel_rfl) Gu rfl (by kernel_rfl) rfl hE Ni
  (fun es' eU v st h1 h2=>⟨es',eU,v,st,h1,h2,rfl,rfl⟩) _ oP) ?_ (fun _ _ _ _ h=>h.elim)
 rintro v H1 w1 jz ⟨rQ,qa,v0,st,S7,hst,rfl,rfl⟩
 have QM:(nb,Obj.cells (aT d).toArray 161 (0,0))∈c (.map rQ qa):=Yd _
 have GC:(mb,Obj.map rQ qa)∈c (.map rQ qa):=(Ni _ (.map rQ qa)).mem
 have s1:S0 w1:=by
  rw[Wi]
  refine⟨Own.sub jz QM,look S7 GC jz ?_⟩
  rw[Z5]
  split
  ·rfl
  ·rename_i ej
   have e1:=kx.2 ej
   have e2:er (m++[(d,0)]) d=some 0:=(jj (by
    have:=S7.nd;rw[if_neg ej]at this;exact this)).2 (by simp)
   rw[e1,e2];rfl
 refine⟨fun _ _=>s1,?_⟩
 have Q0:=Q1.put (d:=some 62) k62 (.tuple #[v0,.int .i64 (st:Int)])
 change dm _ _ _ _ _ 2 _ (a4.put (some 62) (.tuple #[v0,.int .i64 (st:Int)])) _
 generalize a4.put (some 62) (.tuple #[v0,.int .i64 (st:Int)])=a5 at Q0
 refine dm.take (gH (by kernel_rfl)) (S0:=S0) (i:=5) (oi:=fX FF 10 5) (v:=.int .i64 (st:Int)) (by kernel_rfl) hsel (by kernel_rfl) (by kernel_rfl) Yt (fun _ h _ _=>h) (hkeep 5 (by decide)) (.inl ⟨rfl,fun w hw=>?_⟩) s1 ?_
 ·rw[Q0.eval]
  obtain⟨v,rfl,hr,_⟩:=nB (P:=Tryz.prog) (g:=g) (o:=fX FF 10 5) (H:=[(nb,Obj.cells (aT d).toArray 161 (0,0))]) (k:=fun v=>v=.int .i64 (st:Int))
   (ρ:=ev (cz (cz (cz (cz (cz fr (some 58) (.map (some mb))) (some 59) (nK d)) (some 60) (.int .i64 z0)) (some 61) (.int .i64 (IntKind.i64.wrap (z0+1)))) (some 62) (.tuple #[v0,.int .i64 (st:Int)]))) ⟨_,_,rfl,rfl,rfl⟩
  rw[Wi]at hw
  exact hr _ hw.1
 have QZ:=Q0.put (d:=some 63) k63 (.int .i64 (st:Int))
 change dm _ _ _ _ _ 1 _ (a5.put (some 63) (.int .i64 (st:Int))) _
 generalize a5.put (some 63) (.int .i64 (st:Int))=a6 at QZ
 refine dm.all (rs:=[6]) (by kernel_rfl) (by simp) fun i hi=>?_
 simp only[List.mem_singleton]at hi
 subst hi
 have e6:(nR FF 10)[6]? =some (fX FF 10 6):=by kernel_rfl
 unfold wpOp
 rw[e6]
 simp only
 rw[if_pos (show Region.wanted (fX FF 10 6) (yielded (nR FF 10) a6.tmps)=true from rfl)]
 refine .inl ?_
 show(fX FF 10 6).upon Tryz.prog a6 _ _ ((execOp a6.eval (fX FF 10 6)).run Tryz.prog _)
 rw[QZ.eval]
 refine nq.upon (g:=g) (KP:=fun _ _=>False) (bu.PV (vr:=fun v _=>∃z:Int,v=.int .i64 z) (K:=fun _ H'=>∃es',bu nK (fun v _=>∃z:Int,v=.int .i64 z) es' qa (if d∈m.map Prod.fst then m else m++[(d,0)])∧H'=c (.map es' qa))
  (o:=fX FF 10 6) (t:=285) (mo:=.tmp 58) (so:=.tmp 63) (xo:=.tmp 61) rfl rfl rfl (S7.mono fun v z h=>⟨z,h⟩) hst (fun _=>⟨_,rfl⟩) Ni
  (fun es' h1=>⟨es',h1,rfl⟩) _ jz) ?_ (fun _ _ _ _ h=>h.elim)
 rintro v H2 w2 mI ⟨qm,CD,rfl⟩
 refine⟨fun h=>absurd rfl h,?_⟩
 have Wg:cD a.defers n a6 _:=QZ
 change dm _ _ _ _ _ 0 _ a6 _
 refine dm.done (by kernel_rfl) ⟨rfl,Wg.defers,by rw[Wg.size,hnn],fun s hs=>?_,_,mI,hk qm qa ?_⟩ 0
 ·have eD:bP (nR FF 10).toList s=(Nat.beq s 58||(Nat.beq s 59||(Nat.beq s 60||(Nat.beq s 61||(Nat.beq s 62||(Nat.beq s 63||(false||false))))))):=by kernel_rfl
  rw[eD]at hs
  simp only[Bool.or_eq_false_iff]at hs
  rw[Wg.get]
  simp only[cz,hs,cond_false]
  rw[hfr]
 ·have:=uE.of CD
  have e:(if d∈m.map Prod.fst then m else m++[(d,(0:Int))]).map Prod.fst=if d∈m.map Prod.fst then m.map Prod.fst else m.map Prod.fst++[d]:=by
   split<;>simp
  rw[e]at this
  exact this
end
section
variable {kp:Nat} {K:Kd} {ord ax tr:List Nat} {C:Hp} {S:Nat→aZ.Fn}
theorem Oe{H:Hp}(a b:Nd){K:Value→Hp→Prop}(h:∀x,K (.slice (some ⟨x,0,none⟩) 2 2) ((x,.cells (rows [aT a,aT b]) 161 (0,0))::H)):
  av Tryz.prog 286 2 [(0,nK a),(1,nK b)] H K:=by
 refine⟨rows [aT a,aT b],161,3,.agg #[.int .i64 0,.int .u32 0,.int .u32 0],by kernel_rfl,by kernel_rfl,by kernel_rfl,by decide,?_,fun x _=>h x⟩
 have e1:Array.range (2*3)=#[0,1,2,3,4,5]:=rfl
 simp[Instr.fill,Value.cells,nK,aT,e1,rows,u32]
def gZ(K:Kd)(x:Nat)(l:List Cx)(ks:List Nd)(m:List Nd):Prop:=m.Nodup∧∀k,k∈m↔((∃c∈l,k∈keys x c)∨k∈ks)∧K.T k=none∧k.lo≠k.hi
theorem gZ.step{x:Nat}{l:List Cx}{ks m:List Nd}{d:Nd}(h:gZ K x l ks m)(hd:K.T d=none∧d.lo≠d.hi):gZ K x l (ks++[d]) (if d∈m then m else m++[d]):=by
 obtain⟨h1,h2⟩:=h
 constructor
 ·split
  ·exact h1
  ·rename_i hn
   exact List.nodup_append.2 ⟨h1,by simp,fun a ha b hb e=>by simp at hb;subst hb;subst e;exact hn ha⟩
 ·intro k
  by_cases hm:d∈m
  ·rw[if_pos hm,h2,List.mem_append,List.mem_singleton]
   constructor
   ·rintro⟨h3|h3,h4⟩
    ·exact⟨.inl h3,h4⟩
    ·exact⟨.inr (.inl h3),h4⟩
   ·rintro⟨h3|h3|rfl,h4⟩
    ·exact⟨.inl h3,h4⟩
    ·exact⟨.inr h3,h4⟩
    ·exact(h2 _).1 hm
  ·rw[if_neg hm,List.mem_append,List.mem_singleton,h2,List.mem_append,List.mem_singleton]
   constructor
   ·rintro(⟨h3|h3,h4⟩|rfl)
    ·exact⟨.inl h3,h4⟩
    ·exact⟨.inr (.inl h3),h4⟩
    ·exact⟨.inr (.inr rfl),hd⟩
   ·rintro⟨h3|h3|rfl,h4⟩
    ·exact .inl ⟨.inl h3,h4⟩
    ·exact .inl ⟨.inr h3,h4⟩
    ·exact .inr rfl
theorem gZ.skip{x:Nat}{l:List Cx}{ks m:List Nd}{d:Nd}(h:gZ K x l ks m)(hd:¬(K.T d=none∧d.lo≠d.hi)):gZ K x l (ks++[d]) m:=by
 obtain⟨h1,h2⟩:=h
 refine⟨h1,fun k=>?_⟩
 rw[h2,List.mem_append,List.mem_singleton]
 constructor
 ·rintro⟨h3|h3,h4⟩
  ·exact⟨.inl h3,h4⟩
  ·exact⟨.inr (.inl h3),h4⟩
 ·rintro⟨h3|h3|rfl,h4⟩
  ·exact⟨.inl h3,h4⟩
  ·exact⟨.inr h3,h4⟩
  ·exact absurd h4 hd
theorem gZ.xu{x:Nat}{l:List Cx}{c:Cx}{m:List Nd}(h:gZ K x l (keys x c) m):gZ K x (l++[c]) [] m:=by
 obtain⟨h1,h2⟩:=h
 refine⟨h1,fun k=>?_⟩
 rw[h2]
 constructor
 ·rintro⟨⟨c',hc,hk⟩|h3,h4⟩
  ·exact⟨.inl ⟨c',List.mem_append_left _ hc,hk⟩,h4⟩
  ·exact⟨.inl ⟨c,by simp,h3⟩,h4⟩
 ·rintro⟨⟨c',hc,hk⟩|h3,h4⟩
  ·rcases List.mem_append.1 hc with hc|hc
   ·exact⟨.inl ⟨c',hc,hk⟩,h4⟩
   ·simp at hc;subst hc;exact⟨.inr hk,h4⟩
  ·cases h3
theorem NL(h:c6 kp K ord ax tr C){x:Nat}(hx:x<K.n){v:Value}{all:List Cx}{Na:Hp}(ha:aS 203 8 v (all.map iE) Na)(hlen:all.length≤1048576):
  Rd Tryz.prog 136 #[ptr kp,.int .i64 (x:Int),v] (Na++C) (fun r=>∃made,r=.int .i64 ((made.length:Nat):Int)∧Made K x all made):=by
 have h0:=h
 obtain⟨b,hC,hO⟩:=h
 intro g
 refine Fi (R:=aF _) ?_
 unfold L136
 intro mb _
 refine ha.aR ?_
 rw[List.length_map]
 refine⟨fun vs H=>∃(i:Nat) (es:Array MapEntry) (ck:Nat) (m:List Nd),vs=[.int .i64 (i:Int)]∧H=(mb,.map es ck)::(Na++C)∧i≤all.length∧uE es ck m∧gZ K x (all.take i) [] m,
  fun vs _=>all.length-bg vs 0,JE.mk ⟨0,_,_,[],rfl,rfl,Nat.zero_le _,uE.empty,by simp,by simp⟩,?_⟩
 rintro w H ⟨i,es,ck,m,hw,rfl,hi,hmk,MV⟩ gs
 simp only[List.cons.injEq,and_true]at hw
 subst hw
 refine ae.dz (Br.dec (fun hlt=>?_) (fun hge=>?_))
 rotate_left
 ·have:i=all.length:=by omega
  subst this
  rw[List.take_length]at MV
  obtain⟨m',he,rfl⟩:=hmk
  refine bu.Mo he (.head _) ?_
  refine bO.mk .tail ⟨m'.map Prod.fst,by rw[List.length_map],MV.1,fun k=>?_⟩
  rw[MV.2]
  constructor
  ·rintro⟨h3|h3,h4⟩
   ·exact⟨h3,h4⟩
   ·cases h3
  ·rintro⟨h3,h4⟩;exact⟨.inl h3,h4⟩
 obtain⟨c,n9⟩:∃c,all[i]? =some c:=⟨_,List.getElem?_eq_getElem hlt⟩
 have l8:all.take (i+1)=all.take i++[c]:=by rw[List.take_add_one,n9];rfl
 refine ha.Gy (r:=iE c) (by rw[List.getElem?_map,n9];rfl) (fun y hy=>.tail _ (List.mem_append_left _ hy)) ?_
 intro mV _
 refine St.whole (r:=iE c) (by exact .head _) rfl rfl (kH _) ?_
 refine aa.mk (Ld.mk (by exact .head _) rfl ?_)
 refine aa.mk (Ld.mk (by exact .head _) rfl ?_)
 refine Build.mk (cs:=aT ⟨x,c.vB,c.si⟩) (by kernel_rfl) ?_
 refine aa.mk (Ld.mk (by exact .head _) rfl ?_)
 refine aa.mk (Ld.mk (by exact .head _) rfl ?_)
 refine Build.mk (cs:=aT ⟨x,c.vA,c.sg⟩) (by kernel_rfl) ?_
 refine Oe _ _ fun xb=>?_
 refine aG.mk ?_
 refine⟨fun vs H=>∃(j:Nat) (es:Array MapEntry) (ck:Nat) (m:List Nd),vs=[.int .i64 (j:Int)]∧H=(xb,.cells (rows [aT ⟨x,c.vB,c.si⟩,aT ⟨x,c.vA,c.sg⟩]) 161 (0,0))::(mb,.map es ck)::(Na++C)∧j≤2∧uE es ck m∧gZ K x (all.take i) ((keys x c).take j) m,
  fun vs _=>2-bg vs 0,JE.of (.cons .tail) ⟨0,es,ck,m,rfl,rfl,Nat.zero_le _,hmk,MV⟩,?_⟩
 clear hmk MV
 rintro w H ⟨j,es,ck,m,hw,rfl,hj,hmk,MV⟩ gs
 simp only[List.cons.injEq,and_true]at hw
 subst hw
 refine ae.dz (b:=2) (Br.dec (fun dF=>?_) (fun hge=>?_))
 rotate_left
 ·have:j=2:=by omega
  subst this
  refine ae.aH (b:=1) (by simp[aB];omega) ?_
  refine ay.of .tail ⟨i+1,es,ck,m,rfl,rfl,by omega,hmk,?_⟩ (by simp[bg];omega)
  rw[l8]
  exact gZ.xu MV
 obtain⟨d,Cu,Cr⟩:∃d,(keys x c)[j]? =some d∧d.v=x:=by
  rcases j with _|_|j
  ·exact⟨_,rfl,rfl⟩
  ·exact⟨_,rfl,rfl⟩
  ·omega
 have htj:(keys x c).take (j+1)=(keys x c).take j++[d]:=by rw[List.take_add_one,Cu];rfl
 have hrow:[aT ⟨x,c.vB,c.si⟩,aT ⟨x,c.vA,c.sg⟩][j]? =some (aT d):=by
  have:[aT ⟨x,c.vB,c.si⟩,aT ⟨x,c.vA,c.sg⟩]=(keys x c).map aT:=rfl
  rw[this,List.getElem?_map,Cu];rfl
 intro ZB adG
 have next:∀es' eU m' H',uE es' eU m'→gZ K x (all.take i) ((keys x c).take (j+1)) m'→aO H' ((xb,.cells (rows [aT ⟨x,c.vB,c.si⟩,aT ⟨x,c.vA,c.sg⟩]) 161 (0,0))::(mb,.map es' eU)::(Na++C))→JE ZB [] H':=fun es' eU m' H' h1 h2 h3=>
  JE.mk (adG _ fun gs=>ae.aH (b:=1) (by simp[aB];omega) (ay.of h3 ⟨j+1,es',eU,m',rfl,rfl,by omega,h1,h2⟩ (by simp[bg];omega)))
 refine ah.nat dF ?_
 have hmem:(xb,Obj.cells (rows [aT ⟨x,c.vB,c.si⟩,aT ⟨x,c.vA,c.sg⟩]) 161 (0,0))∈(xb,Obj.cells (rows [aT ⟨x,c.vB,c.si⟩,aT ⟨x,c.vA,c.sg⟩]) 161 (0,0))::(mb,.map es ck)::(Na++C):=.head _
 refine az.row (k:=3) hmem (by simp[aT]) hrow ?_
 intro Vk _
 refine St.whole (r:=aT d) (by exact .head _) rfl rfl (fun z hz=>by simp[aT,u32]at hz;rcases hz with rfl|rfl|rfl<;>rfl) ?_
 refine DR.self ?_
 rw[hC]
 refine Nil.ptr (aa.mk (aa.mk (Ld.mk (v:=ptr b.pt) (.tail _ (.tail _ (.tail _ (List.mem_append_right _ (.head _))))) rfl ?_)))
 refine az.whole (r:=aT d) (by exact .head _) rfl ?_
 refine ag.rd (.cons (.cons (.cons (.app (.cons (.app .left)))))) (sB (d:=d) hO.ut (by rw[Cr];exact hx)) ?_
 rintro w rfl
 refine⟨.refl _,Ext.mk rfl (Ext.mk rfl (Un.not ?_))⟩
 have Sr:(!(K.T d).isSome)=decide (K.T d=none):=by cases K.T d<;>simp
 rw[Sr]
 refine bM.and (decide (d.lo≠d.hi)) (fun _=>?_) rfl fun gs=>?_
 ·refine aa.mk (Ld.mk (by exact .head _) rfl ?_)
  refine aa.mk (Ld.mk (by exact .head _) rfl ?_)
  exact ae.pH ⟨rfl,rfl⟩
 rw[←Bool.decide_and]
 rw[←hC]
 refine Br.dec (fun hd=>?_) (fun hd=>?_)
 ·refine Qx hmk (c:=fun o=>(Vk,.cells (aT d).toArray 161 (0,0))::(xb,.cells (rows [aT ⟨x,c.vB,c.si⟩,aT ⟨x,c.vA,c.sg⟩]) 161 (0,0))::(mb,o)::(Na++C)) (fun o o'=>.tail (.tail (.head _))) (fun o=>.head _) fun es' eU h1 gs=>?_
  exact next es' eU _ _ h1 (by rw[htj];exact MV.step hd) .tail
 ·exact next es ck m _ hmk (by rw[htj];exact MV.skip hd) .tail
end
def jE(l:List Cx):Nat→Nat:=fun s=>(l.map fun c=>e1 (some c.d) s).sum
theorem nA(c:Cx)(l:List Cx)(s:Nat):jE (c::l) s=e1 (some c.d) s+jE l s:=by simp[jE]
theorem HY(c:Cx)(l:List Cx)(s:Nat):jE (l++[c]) s=jE l s+e1 (some c.d) s:=by simp[jE]
theorem YW(d:Nd)(s:Nat):e1 (some d) s≤2:=by rw[eu];split<;>split<;>omega
theorem xE(s:Nat):∀l:List Cx,jE l s≤2*l.length
 | []=>Nat.le_refl _
 |c::l=>by rw[nA,List.length_cons];have:=xE s l;have:=YW c.d s;omega
theorem zk{s:Nat}:∀{l:List Cx},0<jE l s→∃c∈l,c.d.lo=s∨c.d.hi=s
 | [],h=>by simp[jE]at h
 |c::l,h=>by
  rw[nA]at h
  by_cases h0:0<e1 (some c.d) s
  ·refine⟨c,by simp,?_⟩
   rw[eu]at h0
   by_cases h1:c.d.lo=s
   ·exact .inl h1
   ·by_cases h2:c.d.hi=s
    ·exact .inr h2
    ·simp[h1,h2]at h0
  ·obtain⟨c',hc,h1⟩:=zk (s:=s) (l:=l) (by omega)
   exact⟨c',by simp[hc],h1⟩
theorem Gn{s:Nat}{c:Cx}(hs:c.d.lo=s∨c.d.hi=s):∀{l:List Cx},c∈l→0<jE l s
 |c'::l,h=>by
  rw[nA]
  rcases List.mem_cons.1 h with rfl|h
  ·rw[eu]
   rcases hs with hs|hs
   ·rw[if_pos hs];omega
   ·rw[if_pos hs];omega
  ·have:=Gn hs h;omega
def Idle(K:Kd):Prop:=∀s,K.N s=none→K.use s=0
theorem sR{K:Kd}{S:Nat→aZ.Fn}{E:Nat→Prop}{P:Nat→Nat}(hm:jt K S E P)(hi:Idle K){M:Nat}(hP:∀s,P s≤M)(s:Nat):K.use s≤2097153+M:=by
 cases h:K.N s with
 |none=>rw[hi s h];omega
 |some d=>
  rw[hm.use h]
  have:=Ar (N:=K.N) (r:=s) K.cap
  have:=hm.cap.2
  have:=hP s
  split<;>omega
section
variable {kp:Nat} {K K0:Kd} {ord ax tr:List Nat} {C:Hp} {S S0:Nat→aZ.Fn} {O3:Nat→Nat} {x y l:Nat} {all done rest:List Cx} {made:List Nd} {P:Nat→Nat}
theorem NI(b:TB K0 S0 O3 x y l all made)(h:c6 kp K ord ax tr C)(ht:TI K0 S0 O3 x y l made K S done rest P)(hd:∀c∈done,c∈all)(hr:∀c∈rest,c∈all){c:Cx}(hc:c∈all){k:Nd}(hk:k∈keys x c)
 (KA:PL P K.N)(M6:Idle K)(hP:∀s,P s≤4194304):
  Fc Tryz.prog 138 #[ptr kp,.int .i64 (k.v:Int),u32 k.lo,u32 k.hi] C (fun v C'=>∃r K' S',v=u32 r∧c6 kp K' ord ax tr C'∧TI K0 S0 O3 x y l made K' S' done rest P∧vE K0 K' O3 x l r∧
   ((k.lo=k.hi∧r=k.lo)∨K'.N r=some k)∧PL P K'.N∧Idle K'∧(∀s d,K.N s=some d→K'.N s=some d)∧(∀s d,K'.N s=some d→s=r∨(K.N s=some d∧K.use s≤K'.use s))):=by
 have XP:K.n≤64:=by obtain⟨_,_,hO⟩:=h;exact hO.uY
 have lB:=b.Qi hc
 have hkv:k.v=x∧rV K0 O3 l k.lo∧rV K0 O3 l k.hi:=by
  simp only[keys,List.mem_cons,List.not_mem_nil,or_false]at hk
  rcases hk with rfl|rfl
  ·exact⟨rfl,lB.1.1,lB.1.2⟩
  ·exact⟨rfl,lB.2.1,lB.2.2⟩
 have Cg:=ht.pN b hd hkv.2.1
 have rK:=ht.pN b hd hkv.2.2
 have hxn:k.v<K.n:=by rw[hkv.1,ht.n];exact b.nb.xn
 by_cases he:k.lo=k.hi
 ·refine Fc.mono (by rw[←he];exact Rf C _ k.lo _) ?_
  rintro v C' ⟨rfl,rfl⟩
  exact⟨k.lo,K,S,rfl,h,ht,.inl hkv.2.1,.inl ⟨he,rfl⟩,KA,M6,fun _ _ h=>h,fun s d h=>.inr ⟨h,Nat.le_refl _⟩⟩
 cases hT:K.T k with
 |some r=>
  obtain⟨h1,h2⟩:=ht.found b hc hk hT
  refine Fc.mono (Rh h he hxn hT) ?_
  rintro v C' ⟨rfl,rfl⟩
  exact⟨r,K,S,rfl,h,ht,h2,.inr h1,KA,M6,fun _ _ h=>h,fun s d h=>.inr ⟨h,Nat.le_refl _⟩⟩
 |none=>
  have hfit:∀{t:Nat},live K.N t→t<2∨t<K.us.length:=fun ht'=>by
   rcases ht' with ht'|⟨d,ej⟩
   ·exact .inl ht'
   ·exact .inr (ht.mid.fit ej)
  have hkm:=ht.MD b hd hr hc hk he hkv.2.1 hkv.2.2 hT
  refine Fc.mono (Rg h (d:=k) he ⟨by omega,Cg,rK⟩ hxn hT (ht.fits b hkm hT) (hfit Cg) (hfit rK) (fun s=>by have:=sR ht.mid M6 hP s;omega)) ?_
  rintro v C' ⟨r,dr,bX,rfl,hN,h2,hrc,hlen,hru,xR,u0,u1,u2,o0,o1,Aa⟩
  have hPr:P r=0:=by
   apply Decidable.byContradiction
   intro hne
   obtain⟨d,ej⟩:=KA r h2 (by omega)
   rw[hN]at ej;cases ej
  obtain⟨g1,g2⟩:=ht.lay b hd hr hc hk he hT hN ⟨h2,hrc⟩ hlen ⟨hru,xR⟩ u0 u1 o0 o1 hPr
  have hup:∀s d,K.N s=some d→up K.N r (some k) s=some d:=fun s d hs=>by
   rw[aP (fun e=>by rw[e,hN]at hs;cases hs)];exact hs
  refine⟨r,_,_,rfl,Aa,g1,g2,.inr aN,fun t Pc h0=>?_,fun s hs=>?_,hup,fun s d hs=>?_⟩
  ·obtain⟨d,ej⟩:=KA t Pc h0
   exact⟨d,hup t d ej⟩
  ·have hs':up K.N r (some k) s=none:=hs
   have hne:s≠r:=fun e=>by subst e;rw[aN]at hs';cases hs'
   rw[aP hne]at hs'
   show dr.getD s 0=0
   by_cases Wk:2≤s
   ·rw[u1 s Wk hne,M6 s hs',eu]
    have a1:k.lo≠s:=fun e=>by
     rcases Cg with h5|⟨d,h5⟩
     ·omega
     ·rw[e,hs']at h5;cases h5
    have a2:k.hi≠s:=fun e=>by
     rcases rK with h5|⟨d,h5⟩
     ·omega
     ·rw[e,hs']at h5;cases h5
    simp[a1,a2]
   ·rw[u2 s (by omega),M6 s hs']
  ·have hs':up K.N r (some k) s=some d:=hs
   by_cases e:s=r
   ·exact .inl e
   ·rw[aP e]at hs'
    refine .inr ⟨hs',?_⟩
    show K.use s≤dr.getD s 0
    rw[u1 s (ht.mid.two hs').1 e];omega
theorem Lm(h:c6 kp K ord ax tr C)(ht:TI K0 S0 O3 x y l made K S done rest P)(KA:PL P K.N)(M6:Idle K)(hP:∀s,P s≤4194304){r:Nat}(hr:live K.N r):
  Fc Tryz.prog 139 #[ptr kp,u32 r] C (fun v C'=>∃K',v=.tuple #[]∧c6 kp K' ord ax tr C'∧TI K0 S0 O3 x y l made K' S done rest (fun s=>P s+if s=r then 1 else 0)∧PL (fun s=>P s+if s=r then 1 else 0) K'.N∧Idle K'∧
   K'.N=K.N∧(∀s,K.use s≤K'.use s)∧(2≤r→0<K'.use r)):=by
 have hfit:r<2∨r<K.us.length:=by
  rcases hr with hr|⟨d,hd⟩
  ·exact .inl hr
  ·exact .inr (ht.mid.fit hd)
 refine Fc.mono (By h hfit (by have:=sR ht.mid M6 hP r;omega)) ?_
 rintro v C' ⟨rfl,Aa⟩
 by_cases h2:2≤r
 ·have hrd:∃d,K.N r=some d:=by
   rcases hr with hr|hr
   ·omega
   ·exact hr
  have hlt:r<K.us.length:=by omega
  refine⟨_,rfl,Aa,(ht.use (iN r) (mj h2 hlt) (fun s hs=>sS hs)).congr (fun s _=>?_),fun t Pc h0=>?_,fun s hs=>?_,rfl,fun s=>?_,fun _=>?_⟩
  ·unfold up
   split
   ·rename_i e;subst e;rfl
   ·rfl
  ·by_cases e:t=r
   ·subst e;exact hrd
   ·simp[e]at h0;exact KA t Pc h0
  ·show(rq K r).getD s 0=0
   have hne:s≠r:=fun e=>by
    obtain⟨d,hd⟩:=hrd
    have hs':K.N s=none:=hs
    rw[e,hd]at hs';cases hs'
   rw[sS hne];exact M6 s hs
  ·show K.use s≤(rq K r).getD s 0
   by_cases e:s=r
   ·subst e;rw[mj h2 hlt];omega
   ·rw[sS e];exact Nat.le_refl _
  ·show 0<(rq K r).getD r 0
   rw[mj h2 hlt];omega
 ·have e:rq K r=K.us:=by unfold rq;rw[if_pos (by omega)]
  have eK:({K with us:=rq K r}:Kd)=K:=by rw[e]
  rw[eK]at Aa
  refine⟨K,rfl,Aa,ht.congr (fun s hs=>?_),fun t Pc h0=>?_,M6,rfl,fun _=>Nat.le_refl _,fun h=>absurd h h2⟩
  ·rw[if_neg (by omega)];rfl
  ·have h0':0<P t+if t=r then 1 else 0:=h0
   rw[if_neg (by omega)]at h0';exact KA t Pc h0'
theorem vE.mono{K K':Kd}(h:vE K0 K O3 x l y)(hm:∀s d,K.N s=some d→K'.N s=some d):vE K0 K' O3 x l y:=by
 rcases h with h|⟨e,h1,h2⟩
 ·exact .inl h
 ·exact .inr ⟨e,hm _ _ h1,h2⟩
end
section
variable {kp:Nat} {K:Kd} {ord ax tr:List Nat} {C:Hp} {S:Nat→aZ.Fn}
structure Kept(K:Kd)(S:Nat→aZ.Fn)(K':Kd)(S':Nat→aZ.Fn):Prop where
 n:K'.n=K.n
 cap:K'.cap=K.cap
 hold:∀r,K'.hold r=K.hold r
 held:∀g,K'.held S' g↔K.held S g
 fn:∀r,K.hold r≠0→S' r=S r
theorem Ul{x y l:Nat}(hne:x≠y)(hx:x<ax.length)(hy:y<ax.length):lv ((ax.set x (l+1)).set y l)=rZ (lv ax) x y l:=by
 funext v
 show((ax.set x (l+1)).set y l).getD v 0=_
 rw[ij (by simpa using hy),ij hx]
 unfold rZ
 by_cases e:v=y
 ·rw[if_pos e,if_neg (by rw[e];exact Ne.symm hne),if_pos e]
 ·rw[if_neg e,if_neg e]
theorem L3(c:Cx)(rest:List Cx):jE (c::rest)=gY (gY (jE rest) [c.d.hi]) [c.d.lo]:=by
 funext s
 rw[nA,eu]
 unfold gY
 simp only[List.count_cons,List.count_nil,beq_iff_eq]
 omega
theorem Mj{x:Nat}{all:List Cx}{made:List Nd}(h:Made K x all made):made.length≤2*all.length:=by
 have h1:=bZ (l':=all.flatMap (keys x)) h.nd fun k hk=>by
  obtain⟨⟨c,hc,hk'⟩,_⟩:=(h.mem k).1 hk
  exact List.mem_flatMap.2 ⟨c,hc,hk'⟩
 have h2:(all.flatMap (keys x)).length=2*all.length:=by
  clear h1 h
  induction all with
  |nil=>rfl
  |cons c all ih=>rw[List.flatMap_cons,List.length_append,ih,List.length_cons];simp[keys];omega
 omega
theorem Lr{x y l:Nat}{K1:Kd}{S1:Nat→aZ.Fn}{all:List Cx}{made:List Nd}(b:TB K S (lv ax) x y l all made)(h:TI K S (lv ax) x y l made K1 S1 all [] (jE all))(hnew:∀r d,K.N r=none→K1.N r=some d→0<K1.use r):Pos K1:=by
 intro r d hd
 cases hN:K.N r with
 |none=>exact hnew r d hN hd
 |some d0=>
  rw[h.mid.use hd]
  rcases b.ok.reach r d0 hN with hh|⟨p,e,hp,Sv⟩
  ·have qk:K1.hold r≠0:=by rw[h.hold];exact hh
   rw[if_neg qk];omega
  ·by_cases hm:p∈all.map Cx.r
   ·obtain⟨c,hc,rfl⟩:=List.mem_map.1 hm
    have hcd:=(b.mQ hc).1
    rw[hp]at hcd;cases hcd
    have:=Gn (s:=r) Sv hc
    omega
   ·have vw:=h.old hp hm
    have:dj K1.N r K1.cap≠0:=fun he=>by
     have:=jo he p (h.mid.two vw).2 e vw
     rcases Sv with Sv|Sv
     ·exact this.1 Sv
     ·exact this.2 Sv
    omega
theorem Ga(h:c6 kp K ord ax tr C)(hok:Ok K S (lv ax))(ho:Ord K.n (lv ax) ord)(M6:Idle K){l:Nat}(hl:l+1<K.n):
  Fc Tryz.prog 59 #[ptr kp,.int .i64 (l:Int)] C (fun r C'=>
   (yJ K.n ord l (K.held S)+2≤K.cap∧r=.bool true∧∃K' S' fC,c6 kp K' (eG ord l) fC tr C'∧Ok K' S' (lv fC)∧Ord K'.n (lv fC) (eG ord l)∧Idle K'∧Kept K S K' S')∨
   (K.cap<yJ K.n ord l (K.held S)+2∧r=.bool false∧C'=C)):=by
 have h0:=h
 have hcap:=h.cap
 obtain⟨b,hC,hO⟩:=h
 have zY:=hO.ol
 have XP:=hO.uY
 have nb:=ho.nb hl
 obtain⟨x,hx⟩:∃x,x=ord.getD l 0:=⟨_,rfl⟩
 obtain⟨y,hy⟩:∃y,y=ord.getD (l+1) 0:=⟨_,rfl⟩
 rw[←hx,←hy]at nb
 intro g
 refine JL (R:=aF _) ?_
 unfold L59
 have hmk:(kp,Obj.cells (b.cells K.n) 117 (0,0))∈C:=by rw[hC];exact .head _
 have Sq:∀z∈b.CO,z∈C:=by rw[hC];exact cy.sub (.cons (.app (.app (.app (.app .left)))))
 refine Nil.ptr (aa.mk (Ld.mk (v:=b.vo) hmk rfl ?_))
 refine hO.od.ld (x:=(x:Int)) (by rw[hx];exact bF (by omega)) Sq ?_
 refine Nil.ptr (aa.mk (Ld.mk (v:=b.vo) hmk rfl ?_))
 refine ae.aH (b:=1) (by simp[aB];omega) ?_
 refine hO.od.ld (x:=(y:Int)) (by rw[hy];exact bF (by omega)) Sq ?_
 refine ag.fn .here (ye h0 hok nb.xn) ?_
 rintro w H ⟨all,Na,rfl,aK,II,hlen⟩
 refine DR.self (Nil.ptr (aa.mk ?_))
 refine ag.rd .here (NL h0 nb.xn aK hlen) ?_
 rintro w ⟨made,rfl,MW⟩
 have hml:=Mj MW
 have GA:=hok.mid.cap
 have acn:=hok.mid.room
 refine ag.rd (.app .here) (zL h0 (m:=made.length) (by omega) (by omega)) ?_
 rintro w rfl
 have aim:yJ K.n ord l (K.held S)=K.used-2+made.length:=Bw (Ls hok ho hl (by rw[←hx,←hy];exact II) (by rw[←hx];exact MW))
 refine Un.not ?_
 by_cases hroom:K.used+made.length≤K.cap
 rotate_left
 ·rw[decide_eq_false hroom]
  exact Br.yes (aF.mk .right (.inr ⟨by omega,rfl,rfl⟩))
 rw[decide_eq_true hroom]
 refine Br.no ?_
 have tb:TB K S (lv ax) x y l all made:=⟨hok,nb,II,MW,hroom⟩
 have g8:=II.nd
 have hge:∀{i:Nat} {c:Cx},all[i]? =some c→c.r∉(all.take i).map Cx.r:=fun{i c} n9 hm=>by
  have h1:(all.take (i+1)).map Cx.r=(all.take i).map Cx.r++[c.r]:=by rw[List.take_add_one,n9,List.map_append];rfl
  have h2:((all.take (i+1)).map Cx.r).Nodup:=g8.sublist ((List.take_sublist _ _).map _)
  rw[h1]at h2
  exact(List.nodup_append.1 h2).2.2 _ hm _ (by simp) rfl
 have l8:∀{i:Nat} {c:Cx},all[i]? =some c→all.take (i+1)=all.take i++[c]:=fun n9=>by rw[List.take_add_one,n9];rfl
 have hdr:∀{i:Nat} {c:Cx},all[i]? =some c→all.drop i=c::all.drop (i+1):=fun{i c} n9=>by
  obtain⟨hi,e⟩:=List.getElem?_eq_some_iff.1 n9
  rw[List.drop_eq_getElem_cons hi,e]
 have UK:∀{i:Nat},∀c∈all.take i,c∈all:=fun c hc=>List.mem_of_mem_take hc
 have hmD:∀{i:Nat},∀c∈all.drop i,c∈all:=fun c hc=>List.mem_of_mem_drop hc
 refine aK.aR ?_
 rw[List.length_map]
 refine⟨fun vs H=>∃(i:Nat) (T':Nd→Option Nat) (C1:Hp),vs=[.int .i64 (i:Int)]∧H=Na++C1∧i≤all.length∧c6 kp {K with T:=T'} ord ax tr C1∧jt {K with T:=T'} S (fun s=>∃c∈all.take i,s=c.r) zero'∧(∀d,T' d=none∨T' d=K.T d),
  fun vs _=>all.length-bg vs 0,JE.mk ⟨0,K.T,C,rfl,rfl,Nat.zero_le _,h0,hok.mid.congr (fun s=>by simp[iH]) (fun _ _=>rfl),fun _=>.inr rfl⟩,?_⟩
 rintro w H ⟨i,T',C1,hw,rfl,hi,u7,IM,IL⟩ gs
 simp only[List.cons.injEq,and_true]at hw
 subst hw
 refine ae.dz (Br.dec (fun hlt=>?_) (fun QU=>?_))
 ·obtain⟨c,n9⟩:∃c,all[i]? =some c:=⟨_,List.getElem?_eq_getElem hlt⟩
  have Kz:c∈all:=List.mem_of_getElem? n9
  obtain⟨x4,Ya,hce⟩:=tb.mQ Kz
  refine aK.Gy (r:=iE c) (by rw[List.getElem?_map,n9];rfl) (fun z hz=>List.mem_append_left _ hz) ?_
  intro Jl _
  refine St.whole (r:=iE c) (by exact .head _) rfl rfl (kH _) ?_
  obtain⟨b1,rfl,SZ⟩:=u7
  refine DR.self (Nil.ptr (aa.mk (aa.mk (Ld.mk (v:=ptr b1.pt) (.tail _ (List.mem_append_right _ (.head _))) rfl ?_))))
  refine aa.mk (az.mk (vs:=(aT c.d).toArray) (.head _) (by simp[iE]) rfl ?_)
  have hTc:T' c.d=some c.r:=(IM.jL c.d c.r).2 ⟨x4,by rintro⟨c',kQ,e⟩;exact hge n9 (e▸List.mem_map_of_mem kQ)⟩
  refine ag.fn (.cons (.app (.cons (.app .left)))) (vY (d:=c.d) SZ.ut (hok.mid.var x4) hTc) ?_
  rintro v Pq ⟨rfl,Uy⟩
  refine ae.aH (b:=1) (by simp[aB];omega) ?_
  refine ay.of .tail ⟨i+1,o5 T' c.d none,_,rfl,rfl,by omega,⟨{b1 with CT:=Pq},rfl,{SZ with ut:=Uy}⟩,(IM.ac0 (r:=c.r) (d:=c.d) x4 ?_).congr (fun s=>?_) (fun _ _=>rfl),fun d=>?_⟩ (by simp[bg];omega)
  ·rintro⟨c',kQ,e⟩;exact hge n9 (e▸List.mem_map_of_mem kQ)
  ·rw[l8 n9]
   constructor
   ·rintro(⟨c',kQ,e⟩|e)
    ·exact⟨c',List.mem_append_left _ kQ,e⟩
    ·exact⟨c,by simp,e⟩
   ·rintro⟨c',kQ,e⟩
    rcases List.mem_append.1 kQ with kQ|kQ
    ·exact .inl ⟨c',kQ,e⟩
    ·simp at kQ;subst kQ;exact .inr e
  ·unfold o5
   split
   ·exact .inl rfl
   ·exact IL d
 have hi':i=all.length:=by omega
 subst hi'
 rw[List.take_length]at IM
 have hTI:=tb.start IM IL
 refine aK.aR ?_
 rw[List.length_map]
 refine⟨fun vs H=>∃(i:Nat) (K1:Kd) (S1:Nat→aZ.Fn) (C1:Hp),vs=[.int .i64 (i:Int)]∧H=Na++C1∧i≤all.length∧c6 kp K1 ord ax tr C1∧TI K S (lv ax) x y l made K1 S1 (all.take i) (all.drop i) (jE (all.take i))∧
   PL (jE (all.take i)) K1.N∧Idle K1∧(∀r d,K.N r=none→K1.N r=some d→0<K1.use r),
  fun vs _=>all.length-bg vs 0,JE.mk ⟨0,_,S,C1,rfl,rfl,Nat.zero_le _,u7,hTI,fun t _ h=>by simp[jE]at h,M6,fun r d h1 h2=>by rw[h1]at h2;cases h2⟩,?_⟩
 clear hTI IM IL u7 T' C1 QU hi
 rintro w H ⟨i,K1,S1,C1,hw,rfl,hi,u7,IL,Q5,M5,SA⟩ gs
 simp only[List.cons.injEq,and_true]at hw
 subst hw
 refine ae.dz (Br.dec (fun hlt=>?_) (fun QU=>?_))
 ·obtain⟨c,n9⟩:∃c,all[i]? =some c:=⟨_,List.getElem?_eq_getElem hlt⟩
  have Kz:c∈all:=List.mem_of_getElem? n9
  obtain⟨x4,Ya,hce⟩:=tb.mQ Kz
  rw[hdr n9]at IL
  have iJ:∀c'∈c::all.drop (i+1),c'∈all:=by rw[←hdr n9];exact hmD
  have Yv:∀s,jE (all.take i) s≤2097152:=fun s=>by have:=xE s (all.take i);rw[List.length_take]at this;omega
  refine aK.Gy (r:=iE c) (by rw[List.getElem?_map,n9];rfl) (fun z hz=>List.mem_append_left _ hz) ?_
  intro KE _
  refine St.whole (r:=iE c) (by exact .head _) rfl rfl (kH _) ?_
  refine DR.self (Nil.ptr (aa.mk ?_))
  refine aa.mk (Ld.mk (by exact .head _) rfl ?_)
  refine aa.mk (Ld.mk (by exact .head _) rfl ?_)
  refine ag.fn (.cons (.app .here)) (NI tb u7 IL UK iJ Kz (k:=⟨x,c.vB,c.si⟩) (by simp[keys]) Q5 M5 (fun s=>by have:=Yv s;omega)) ?_
  rintro w C2 ⟨t0,K2,S2,rfl,tR,Yq,Xg,g0,Q4,Cj,afB,ab1⟩
  refine Nil.ptr (aa.mk ?_)
  refine ag.fn (.cons (.app .here)) (Lm tR Yq Q4 Cj (fun s=>by have:=Yv s;omega) (Yq.pR tb UK Xg)) ?_
  rintro w C3 ⟨K3,rfl,CB,hT3,U7,ac3,hN3,acp,XC⟩
  have Yu:∀s,(jE (all.take i) s+if s=t0 then 1 else 0)≤2097153:=fun s=>by have:=Yv s;split<;>omega
  refine DR.self (Nil.ptr (aa.mk ?_))
  refine aa.mk (Ld.mk (by exact .head _) rfl ?_)
  refine aa.mk (Ld.mk (by exact .head _) rfl ?_)
  refine ag.fn (.cons (.app .here)) (NI tb CB hT3 UK iJ Kz (k:=⟨x,c.vA,c.sg⟩) (by simp[keys]) U7 ac3 (fun s=>by have:=Yu s;omega)) ?_
  rintro w C4 ⟨t1,K4,S4,rfl,YC,hT4,Xf,g1,U6,ac2,Sd,ab0⟩
  refine Nil.ptr (aa.mk ?_)
  refine ag.fn (.cons (.app .here)) (Lm YC hT4 U6 ac2 (fun s=>by have:=Yu s;omega) (hT4.pR tb UK Xf)) ?_
  rintro w C5 ⟨K5,rfl,Pb,hT5,aji,ac1,Yz,aco,XB⟩
  have Si:vE K K5 (lv ax) x l t0:=vE.mono Xg (fun s d hs=>by rw[Yz];exact Sd s d (by rw[hN3];exact hs))
  have Sh:vE K K5 (lv ax) x l t1:=vE.mono Xf (fun s d hs=>by rw[Yz];exact hs)
  have g0':(c.vB=c.si∧t0=c.vB)∨K5.N t0=some ⟨x,c.vB,c.si⟩:=by
   rcases g0 with g0|g0
   ·exact .inl g0
   ·exact .inr (by rw[Yz];exact Sd _ _ (by rw[hN3];exact g0))
  have g1':(c.vA=c.sg∧t1=c.vA)∨K5.N t1=some ⟨x,c.vA,c.sg⟩:=by
   rcases g1 with g1|g1
   ·exact .inl g1
   ·exact .inr (by rw[Yz];exact g1)
  have acN:((all.take i++c::all.drop (i+1)).map Cx.r).Nodup:=by rw[←hdr n9,List.take_append_drop];exact g8
  obtain⟨hTn,hT6⟩:=hT5.xu tb UK iJ acN Si Sh g0' g1' (P':=jE (all.take (i+1))) (fun s _=>by
   rw[l8 n9,HY,eu ⟨y,t0,t1⟩]
   have e1':(if t0=s then 1 else 0)=(if s=t0 then 1 else 0:Nat):=by split<;>split<;>first|rfl|(exfalso;omega)
   have e2':(if t1=s then 1 else 0)=(if s=t1 then 1 else 0:Nat):=by split<;>split<;>first|rfl|(exfalso;omega)
   simp only[e1',e2']
   omega)
  have MZ:∀{t:Nat},vE K K5 (lv ax) x l t→live K5.N t:=fun hk=>hT5.pR tb UK hk
  have UZ:∃e,K5.N c.r=some e:=hT5.kept x4
  refine Build.mk (cs:=aT ⟨y,t0,t1⟩) (by kernel_rfl) ?_
  intro b83 _
  refine St.whole (r:=aT ⟨y,t0,t1⟩) (by exact .head _) rfl rfl (fun z hz=>by simp[aT,u32]at hz;rcases hz with rfl|rfl|rfl<;>rfl) ?_
  obtain⟨b5,rfl,hO5⟩:=Pb
  refine DR.self (Nil.ptr (aa.mk (aa.mk (Ld.mk (v:=ptr b5.pa) (.tail _ (.tail _ (List.mem_append_right _ (.head _)))) rfl ?_))))
  refine aa.mk (Ld.mk (by exact .tail _ (.head _)) rfl ?_)
  refine az.whole (r:=aT ⟨y,t0,t1⟩) (by exact .head _) rfl ?_
  have Uv:y<K5.n:=by rw[hT5.n];exact nb.yn
  refine ag.fn (.cons (.cons (.app (.cons .left)))) (RF (d:=⟨y,t0,t1⟩) hO5.ar ⟨by show y<64;have:=hO5.uY;omega,MZ Si,MZ Sh⟩ UZ (tb.ok.mid.two x4).1) ?_
  rintro w ZO ⟨rfl,Yh⟩
  refine DR.self (Nil.ptr (aa.mk (aa.mk (Ld.mk (v:=ptr b5.pt) (.tail _ (.tail _ (List.mem_append_right _ (.head _)))) rfl ?_))))
  refine az.whole (r:=aT ⟨y,t0,t1⟩) (by exact .head _) rfl ?_
  refine aa.mk (Ld.mk (by exact .tail _ (.head _)) rfl ?_)
  refine ag.fn (.cons (.cons (.app (.cons (.app .left))))) (F6 (d:=⟨y,t0,t1⟩) (r:=c.r) hO5.ut Uv hTn) ?_
  rintro w Pq ⟨rfl,Uy⟩
  refine ae.aH (b:=1) (by simp[aB];omega) ?_
  refine ay.of (.skip .tail) ⟨i+1,{K5 with N:=up K5.N c.r (some ⟨y,t0,t1⟩),T:=o5 K5.T ⟨y,t0,t1⟩ (some c.r)},S4,_,rfl,rfl,by omega,⟨{b5 with CA:=ZO,CT:=Pq},rfl,{hO5 with ar:=Yh,ut:=Uy}⟩,by rw[l8 n9]at hT6⊢;exact hT6,fun t Pc hp=>?_,fun s hs=>?_,fun r d IB hrd=>?_⟩ (by simp[bg];omega)
  ·obtain⟨c',kQ,l9⟩:=zk hp
   have adj:=UK c' kQ
   have Nk:=(tb.mQ adj).1
   have hlv:live K.N t:=by
    rcases l9 with rfl|rfl
    ·exact tb.ok.mid.lo Nk
    ·exact tb.ok.mid.hi Nk
   rcases hlv with hlv|⟨d,hd⟩
   ·omega
   ·exact hT6.kept hd
  ·have hs':up K5.N c.r (some ⟨y,t0,t1⟩) s=none:=hs
   have hne:s≠c.r:=fun e=>by subst e;rw[aN]at hs';cases hs'
   rw[aP hne]at hs'
   exact ac1 s hs'
  ·have UC:up K5.N c.r (some ⟨y,t0,t1⟩) r=some d:=hrd
   have hne:r≠c.r:=fun e=>by rw[e,x4]at IB;cases IB
   rw[aP hne,Yz]at UC
   have h2r:2≤r:=(hT4.mid.two UC).1
   show 0<K5.use r
   rcases ab0 r d UC with e|⟨h3,hu3⟩
   ·rw[e]at h2r⊢;exact XB h2r
   ·rw[hN3]at h3
    have h5:=aco r
    rcases ab1 r d h3 with e|⟨h1,Z7⟩
    ·rw[e]at h2r⊢h5 hu3;have:=XC h2r;omega
    ·have:=SA r d IB h1
     have:=acp r
     omega
 have hi':i=all.length:=by omega
 subst hi'
 rw[List.take_length,List.drop_length]at IL
 rw[List.take_length]at Q5
 have vw:=Lr tb IL SA
 refine aK.aR ?_
 rw[List.length_map]
 refine⟨fun vs H=>∃(i:Nat) (K2:Kd) (C2:Hp),vs=[.int .i64 (i:Int)]∧H=Na++C2∧i≤all.length∧c6 kp K2 ord ax tr C2∧jt K2 S1 iH (jE (all.drop i))∧Pos K2∧PL (jE (all.drop i)) K2.N∧vD K2 K1,
  fun vs _=>all.length-bg vs 0,JE.mk ⟨0,K1,C1,rfl,rfl,Nat.zero_le _,u7,IL.mid.congr (fun s=>by simp[iH]) (fun _ _=>rfl),vw,Q5,.refl K1⟩,?_⟩
 clear u7 Q5 hi QU C1
 rintro w H ⟨i,K2,C2,hw,rfl,hi,tR,KB,lA,Q4,gP⟩ gs
 simp only[List.cons.injEq,and_true]at hw
 subst hw
 refine ae.dz (Br.dec (fun hlt=>?_) (fun QU=>?_))
 ·obtain⟨c,n9⟩:∃c,all[i]? =some c:=⟨_,List.getElem?_eq_getElem hlt⟩
  have Kz:c∈all:=List.mem_of_getElem? n9
  obtain⟨x4,Ya,hce⟩:=tb.mQ Kz
  have Yv:∀s,jE (all.drop i) s≤2097152:=fun s=>by have:=xE s (all.drop i);rw[List.length_drop]at this;omega
  have hlo:=h0.lt (hok.mid.lo x4)
  have hhi:=h0.lt (hok.mid.hi x4)
  refine aK.Gy (r:=iE c) (by rw[List.getElem?_map,n9];rfl) (fun z hz=>List.mem_append_left _ hz) ?_
  intro RD _
  refine St.whole (r:=iE c) (by exact .head _) rfl rfl (kH _) ?_
  refine DR.self (Nil.ptr (aa.mk ?_))
  refine aa.mk (aa.mk (Ld.mk (by exact .head _) rfl ?_))
  have Cj:Idle K2:=gP.idle M5
  have hub:∀s,K2.use s<2147483648:=fun s=>by have:=sR KB Cj Yv s;omega
  rw[hdr n9,L3]at KB Q4
  refine ag.fn (.cons (.app .here)) (oF tR KB lA Q4 hlo hub) ?_
  rintro w C3 ⟨rfl,K3,CB,hM3,Sw,U7,M1⟩
  refine DR.self (Nil.ptr (aa.mk ?_))
  refine aa.mk (aa.mk (Ld.mk (by exact .head _) rfl ?_))
  refine ag.fn (.cons (.app .here)) (oF CB hM3 Sw U7 hhi (fun s=>Nat.lt_of_le_of_lt (M1.us s) (hub s))) ?_
  rintro w C4 ⟨rfl,K4,YC,hM4,VY,U6,UL⟩
  refine ae.aH (b:=1) (by simp[aB];omega) ?_
  exact ay.of .tail ⟨i+1,K4,C4,rfl,rfl,by omega,YC,hM4,VY,U6,UL.trans (M1.trans gP)⟩ (by simp[bg];omega)
 have hi':i=all.length:=by omega
 subst hi'
 rw[List.drop_length]at KB
 have Cj:Idle K2:=gP.idle M5
 obtain⟨f1,f2,f3⟩:=IL.fin tb (K':=K2) (KB.congr (fun _=>Iff.rfl) (fun _ _=>rfl)) lA (fun h=>gP.N h) gP.n (fun r=>by show K2.ho.getD r 0=K1.ho.getD r 0;rw[gP.ho])
 have QL:K2.n=K.n:=by rw[gP.n,IL.n]
 obtain⟨b2,rfl,Yy⟩:=tR
 refine DR.self (Nil.ptr (aa.mk (Ld.mk (v:=b2.vo) (List.mem_append_right _ (.head _)) rfl ?_)))
 refine Nil.ptr (aa.mk (Ld.mk (v:=b2.vo) (List.mem_append_right _ (.head _)) rfl ?_))
 refine ae.aH (b:=1) (by simp[aB];omega) ?_
 refine Yy.od.jD (x:=(y:Int)) (.app (.cons (.app (.app (.app (.app .left)))))) (by rw[an];omega) fun CO1 Cd=>?_
 refine Cd.jD (x:=(x:Int)) (.app (.cons (.app (.app (.app (.app .left)))))) (by rw[List.length_set,an];omega) fun CO2 nI=>?_
 refine DR.self (Nil.ptr (aa.mk (Ld.mk (v:=b2.vl) (List.mem_append_right _ (.head _)) rfl ?_)))
 refine Nil.ptr (aa.mk (Ld.mk (v:=b2.vl) (List.mem_append_right _ (.head _)) rfl ?_))
 refine ae.aH (b:=1) (by simp[aB];omega) ?_
 have A0:=Yy.ol.2
 have hxn:=nb.xn
 have Uv:=nb.yn
 refine Yy.lv.jD (x:=((l+1:Nat):Int)) (.app (.cons (.app (.app (.app (.app (.app .left))))))) (by rw[an];omega) fun CL1 Cg=>?_
 refine Cg.jD (x:=(l:Int)) (.app (.cons (.app (.app (.app (.app (.app .left))))))) (by rw[List.length_set,an];omega) fun CL2 rK=>?_
 rw[fZ,fZ]at nI rK
 have GB:(ord.set l y).set (l+1) x=eG ord l:=by rw[hx,hy];rfl
 rw[GB]at nI
 have hlv:lv ((ax.set x (l+1)).set y l)=rZ (lv ax) x y l:=Ul nb.ne (by omega) (by omega)
 refine aF.mk .right (.inl ⟨by omega,rfl,K2,S1,_,⟨{b2 with CO:=CO2,CL:=CL2},rfl,{Yy with od:=nI,lv:=rK,ol:=?_}⟩,by rw[hlv];exact f1,by rw[hlv,QL,hx,hy];exact PR ho hl,Cj,QL,by rw[gP.cap,IL.cap],fun r=>?_,f2,f3⟩)
 ·rw[jM];simp;exact Yy.ol
 ·show K2.ho.getD r 0=K.hold r
  rw[gP.ho];exact IL.hold r
end
structure lR(kp:Nat)(K:Kd)(S:Nat→aZ.Fn)(ord ax tr:List Nat)(C:Hp):Prop where
 rep:c6 kp K ord ax tr C
 ok:Ok K S (lv ax)
 od:Ord K.n (lv ax) ord
 idle:Idle K
 tr:vC K.n K.cap (K.held S) ord tr.reverse
theorem Kept.refl(K:Kd)(S:Nat→aZ.Fn):Kept K S K S:=⟨rfl,rfl,fun _=>rfl,fun _=>Iff.rfl,fun _ _=>rfl⟩
theorem Kept.trans{K K' K2:Kd}{S S' S2:Nat→aZ.Fn}(h:Kept K S K' S')(h':Kept K' S' K2 S2):Kept K S K2 S2:=
 ⟨h'.n.trans h.n,h'.cap.trans h.cap,fun r=>(h'.hold r).trans (h.hold r),fun g=>(h'.held g).trans (h.held g),fun r hr=>(h'.fn r (by rw[h.hold];exact hr)).trans (h.fn r hr)⟩
section
variable {kp:Nat} {K:Kd} {ord ax tr:List Nat} {C:Hp} {S:Nat→aZ.Fn}
theorem GL(h:lR kp K S ord ax tr C){l:Nat}(hl:l+1<K.n)(ig:tr.length<1099511627776):Fc Tryz.prog 17 #[ptr kp,.int .i64 (l:Int)] C (fun r C'=>
   (yJ K.n ord l (K.held S)+2≤K.cap∧r=.int .i64 0∧∃K' S' fC,lR kp K' S' (eG ord l) fC (tr++[l]) C'∧Kept K S K' S')∨
   (K.cap<yJ K.n ord l (K.held S)+2∧r=.int .i64 9∧C'=C)):=by
 have h0:=h
 obtain⟨b,hC,hO⟩:=h.rep
 have hn:=hO.uY
 intro g
 refine Ke (R:=aF _) ?_
 unfold L17
 refine ae.aJ (Br.no (ae.lss ?_))
 refine bM.or (decide ((K.n:Int) -2<l)) (fun _=>?_) (by simp) fun gs=>?_
 ·refine Nil.ptr (aa.mk (Ld.mk (v:=.int .i64 (K.n:Int)) (by rw[hC];exact .head _) rfl ?_))
  refine ae.mq (c:=(K.n:Int) -2) rfl (by omega) ?_
  exact ae.gtr ⟨rfl,rfl⟩
 ·rw[←Bool.decide_or]
  refine Br.cq (by omega) ?_
  refine ag.fn .here (Ga h.rep h.ok h.od h.idle hl) ?_
  rintro w C' (⟨hfit,rfl,K',S',fC,Aa,tL,UI,xY,pU⟩|⟨hno,rfl,rfl⟩)
  ·refine Un.not (Br.no ?_)
   obtain⟨b',rfl,x7⟩:=Aa
   refine Nil.ptr (aa.mk (Ld.mk (v:=b'.vt) (by exact .head _) rfl ?_))
   refine av.int (e:=3) (by kernel_rfl) (by kernel_rfl) (by kernel_rfl) fun bx=>?_
   refine x7.tr.mW (.cons (.cons (.app (.app (.app (.app (.app (.app .here)))))))) (by exact .head _) (by rw[an];omega) (by rw[an];omega) fun v' CR' bX=>?_
   refine Nil.ptr (aa.mk (St.one (by exact .tail (.head _)) bX.one (by simp[ve.cells]) rfl ?_))
   refine aF.mk .tail (.inl ⟨hfit,rfl,K',S',fC,⟨⟨{b' with vt:=v',CR:=CR'},rfl,{x7 with tr:=by rw[bT];exact bX}⟩,tL,UI,xY,?_⟩,pU⟩)
   rw[pU.n,pU.cap]
   exact(vC.aea hO.ol.1 hl hfit h.tr).congr fun g=>(pU.held g).symm
  ·exact Un.not (Br.yes (aF.here (.inr ⟨hno,rfl,rfl⟩)))
theorem PK{l:Nat}(h:lR kp K S ord ax (tr++[l]) C)(ig:tr.length<1099511627776):Fc Tryz.prog 18 #[ptr kp] C (fun r C'=>
   r=.tuple #[.int .i64 (l:Int),.int .i64 0]∧l+1<K.n∧∃K' S' fC,lR kp K' S' (eG ord l) fC tr C'∧Kept K S K' S'):=by
 have h0:=h
 obtain⟨b,hC,hO⟩:=h.rep
 have hn:=hO.uY
 have MH:=h.tr
 rw[List.reverse_append]at MH
 obtain⟨hl,hfit,acr⟩:l+1<K.n∧yJ K.n ord l (K.held S)+2≤K.cap∧vC K.n K.cap (K.held S) (eG ord l) tr.reverse:=MH
 have hmk:(kp,Obj.cells (b.cells K.n) 117 (0,0))∈C:=by rw[hC];exact .head _
 intro g
 refine Kc (R:=aF _) ?_
 unfold L18
 refine ae.aJ ?_
 refine bM.or false (fun _=>?_) rfl fun gs=>Br.no ?_
 ·refine Nil.ptr (aa.mk (Ld.mk (v:=b.vt) hmk rfl ?_))
  refine hO.tr.aR ?_
  refine ae.jG ⟨rfl,?_⟩
  rw[decide_eq_false]
  rw[an,List.length_append];simp;omega
 refine Nil.ptr (aa.mk (Ld.mk (v:=b.vt) hmk rfl ?_))
 refine hO.tr.aR ?_
 rw[an,List.length_append]
 refine ae.bH (a:=tr.length+1) (b:=1) (by simp[aB];omega) (by omega) ?_
 rw[Nat.add_sub_cancel]
 refine Nil.ptr (aa.mk (Ld.mk (v:=b.vt) hmk rfl ?_))
 refine hO.tr.ld (i:=tr.length) (x:=(l:Int)) (by rw[bT];simp[iw]) (by rw[hC];exact cy.sub (.cons (.app (.app (.app (.app (.app (.app .here)))))))) ?_
 refine ag.fn .here (Ga h.rep h.ok h.od h.idle hl) ?_
 rintro w C' (⟨_,rfl,K',S',fC,Aa,tL,UI,xY,pU⟩|⟨hno,rfl,rfl⟩)
 rotate_left
 ·omega
 obtain⟨b',rfl,x7⟩:=Aa
 refine Nil.ptr (aa.mk (Ld.mk (v:=b'.vt) (by exact .head _) rfl ?_))
 refine x7.tr.cut (i:=tr.length) (by rw[an];simp) fun v' xQ=>?_
 refine Nil.ptr (aa.mk (St.one (by exact .head _) xQ.one (by simp[ve.cells]) rfl ?_))
 refine aF.here ⟨rfl,hl,K',S',fC,⟨⟨{b' with vt:=v'},rfl,{x7 with tr:=by rw[bT,List.take_left' (by simp)]at xQ;exact xQ}⟩,tL,UI,xY,?_⟩,pU⟩
 rw[pU.n,pU.cap]
 exact acr.congr fun g=>(pU.held g).symm
theorem lR.fN(h:lR kp K S ord ax tr C){r:Nat}(hl:live K.N r):r<1048576:=h.rep.lt hl
theorem lR.jQ(h:lR kp K S ord ax tr C)(r:Nat):K.hold r≤65535:=h.ok.mid.mx r
theorem lR.Ln(h:lR kp K S ord ax tr C)(r:Nat):K.use r≤2097153:=by have:=sR h.ok.mid h.idle (M:=0) (fun _=>Nat.le_refl _) r;omega
structure Vs(K K':Kd)(r:Nat):Prop where
 n:K'.n=K.n
 cap:K'.cap=K.cap
 used:K'.used=K.used
 N:K'.N=K.N
 hold:∀s,K'.hold s=if s=r∧2≤r then K.hold s+1 else K.hold s
theorem Iz(h:lR kp K S ord ax tr C){r:Nat}(hl:live K.N r)(h2:2≤r)(hf:K.hold r=65535):Rd Tryz.prog 121 #[ptr kp,u32 r] C (· =.int .i64 8):=by
 have hr:=h.fN hl
 obtain⟨b,hC,hO⟩:=h.rep
 have hfit:r<K.ho.length:=by
  rcases hl with hl|⟨d,hd⟩
  ·omega
  ·rw[←hO.ul.1];exact h.ok.mid.fit hd
 intro g
 refine uP (R:=aF _) ?_
 unfold L121
 refine ae.aJ (Br.no (Nil.ptr (aa.mk ?_)))
 refine ag.rd .here (mH h.rep (by omega)) ?_
 rintro w rfl
 rw[cU.2 hl]
 refine Un.not (Br.no ?_)
 intro J7 _
 refine ae.me (b:=1) (Br.gf (by omega) ?_)
 refine Nil.ptr (aa.mk (aa.mk (Ld.mk (v:=b.vh) (by rw[hC];exact .head _) rfl ?_)))
 refine hO.ho.ld (x:=((K.hold r:Nat):Int)) (bF hfit) (by rw[hC];exact cy.sub (.cons (.app (.app (.app .left))))) ?_
 rw[hf]
 exact ae.jG (Br.gf rfl (bO.mk (.refl _) rfl))
theorem zP(h:c6 kp K ord ax tr C)(Q6:jt K S iH zero')(QT:Idle K){r:Nat}(hl:live K.N r)(hf:2≤r→K.hold r<65535):Fc Tryz.prog 121 #[ptr kp,u32 r] C (fun v C'=>v=.int .i64 0∧∃K',c6 kp K' ord ax [] C'∧
  jt K' S iH zero'∧Idle K'∧Vs K K' r∧(∀s,K.use s≤K'.use s)∧(2≤r→0<K'.use r)):=by
 have hr:=h.lt hl
 have h0:=h
 obtain⟨b,hC,hO⟩:=h
 intro g
 refine uP (R:=aF _) ?_
 unfold L121
 refine ae.aJ (Br.no (Nil.ptr (aa.mk ?_)))
 refine ag.rd .here (mH h0 (by omega)) ?_
 rintro w rfl
 rw[cU.2 hl]
 refine Un.not (Br.no ?_)
 intro J7 hJ7
 have fin:∀(K':Kd) C1,c6 kp K' ord ax tr C1→jt K' S iH zero'→Idle K'→Vs K K' r→(∀s,K.use s≤K'.use s)→(2≤r→0<K'.use r)→J7 [] C1:=fun K' C1 Aa tL xY hm hu hp=>by
  refine hJ7 _ fun gs=>?_
  obtain⟨b',rfl,x7⟩:=Aa
  refine Nil.ptr (aa.mk (St.one (by exact .head _) rfl (by simp[ve.cells]) rfl ?_))
  refine aF.mk (lT:=({b' with vt:=.slice none 0 0,CR:=[]}:ve).hp kp K'.n) ?_ ⟨rfl,K',⟨{b' with vt:=.slice none 0 0,CR:=[]},rfl,{x7 with tr:=aQ.nil}⟩,tL,xY,hm,hu,hp⟩
  refine .cons (.cL (.cL (.cL (.cL (.cL (.cL .nil _) _) _) _) _) _)
 refine ae.me (b:=1) (Br.dec (fun h2=>?_) (fun h2=>?_))
 rotate_left
 ·refine JE.mk (fin K C h0 Q6 QT ⟨rfl,rfl,rfl,rfl,fun s=>?_⟩ (fun _=>Nat.le_refl _) (fun h=>by omega))
  rw[if_neg (by omega)]
 have o8:2≤r:=by omega
 have O9:=hf o8
 obtain⟨d,hd⟩:∃d,K.N r=some d:=by
  rcases hl with hl|hl
  ·omega
  ·exact hl
 have hfu:=Q6.fit hd
 have xR:=hO.ul
 have hfit:r<K.ho.length:=by omega
 subst hC
 refine Nil.ptr (aa.mk (aa.mk (Ld.mk (v:=b.vh) (by exact .head _) rfl ?_)))
 refine hO.ho.ld (x:=((K.hold r:Nat):Int)) (bF hfit) (cy.sub (.cons (.app (.app (.app .left))))) ?_
 refine ae.jG (Br.cq (by omega) ?_)
 refine Nil.ptr (aa.mk (aa.mk (Ld.mk (v:=b.vh) (by exact .head _) rfl ?_)))
 refine hO.ho.ld (x:=((K.hold r:Nat):Int)) (bF hfit) (cy.sub (.cons (.app (.app (.app .left))))) ?_
 refine ae.aH (b:=1) (by simp[aB];omega) ?_
 refine hO.ho.jD (x:=((K.hold r+1:Nat):Int)) (.cons (.app (.app (.app .left)))) (by rw[an];exact hfit) fun Kp qk=>?_
 rw[fZ]at qk
 have g1:∀s,(K.ho.set r (K.hold r+1)).getD s 0=if s=r then K.hold r+1 else K.hold s:=fun s=>ij hfit
 refine Nil.ptr (aa.mk (aa.mk (Ld.mk (v:=b.vh) (by exact .head _) rfl ?_)))
 refine qk.ld (x:=((K.hold r+1:Nat):Int)) (by rw[bF (by simpa using hfit),g1,if_pos rfl]) (cy.sub (.cons (.app (.app (.app .left))))) ?_
 refine ae.gz (b:=1) (Br.dec (fun h3=>?_) (fun h3=>?_))
 ·refine Nil.ptr (aa.mk (aa.mk (Ld.mk (v:=b.vu) (by exact .head _) rfl ?_)))
  refine hO.us.ld (x:=((K.use r:Nat):Int)) (bF hfu) (cy.sub (.cons (.app (.app .left)))) ?_
  have hub:=sR Q6 QT (M:=0) (fun _=>Nat.le_refl _) r
  refine ae.aH (b:=1) (by simp[aB];omega) ?_
  refine hO.us.jD (x:=((K.use r+1:Nat):Int)) (.cons (.app (.app .left))) (by rw[an];exact hfu) fun Pp xS=>?_
  rw[fZ]at xS
  have g2:∀s,(K.us.set r (K.use r+1)).getD s 0=if s=r then K.use r+1 else K.use s:=fun s=>ij hfu
  have hM:=Q6.keep (r:=r) (dr:=K.us.set r (K.use r+1)) (bX:=K.ho.set r (K.hold r+1)) ⟨d,hd⟩ O9 (by simp) (by rw[g1,if_pos rfl]) (fun s hs=>by rw[g1,if_neg hs]) (by rw[g2,if_pos rfl,if_pos (by omega)]) (fun s hs=>by rw[g2,if_neg hs])
  refine JE.mk (fin {K with us:=K.us.set r (K.use r+1),ho:=K.ho.set r (K.hold r+1)} _ ⟨{b with CU:=Pp,CH:=Kp},rfl,{hO with us:=xS,ho:=qk,ul:=by simp;exact xR}⟩ hM (fun s hs=>?_) ⟨rfl,rfl,rfl,rfl,fun s=>?_⟩ (fun s=>?_) (fun _=>?_))
  ·show(K.us.set r (K.use r+1)).getD s 0=0
   have hs':K.N s=none:=hs
   rw[g2,if_neg (fun e=>by rw[e,hd]at hs';cases hs')];exact QT s hs'
  ·show(K.ho.set r (K.hold r+1)).getD s 0=_
   rw[g1]
   by_cases e:s=r
   ·subst e;rw[if_pos rfl,if_pos ⟨rfl,o8⟩]
   ·rw[if_neg e,if_neg (fun h=>e h.1)]
  ·show K.use s≤(K.us.set r (K.use r+1)).getD s 0
   rw[g2];split
   ·rename_i e;subst e;omega
   ·exact Nat.le_refl _
  ·show 0<(K.us.set r (K.use r+1)).getD r 0
   rw[g2,if_pos rfl];omega
 ·have hM:=Q6.keep (r:=r) (dr:=K.us) (bX:=K.ho.set r (K.hold r+1)) ⟨d,hd⟩ O9 (by simp) (by rw[g1,if_pos rfl]) (fun s hs=>by rw[g1,if_neg hs]) (by show K.use r=_;rw[if_neg (by omega)];rfl) (fun s hs=>rfl)
  refine JE.mk (fin {K with ho:=K.ho.set r (K.hold r+1)} _ ⟨{b with CH:=Kp},rfl,{hO with ho:=qk,ul:=by simp;exact xR}⟩ hM QT ⟨rfl,rfl,rfl,rfl,fun s=>?_⟩ (fun _=>Nat.le_refl _) (fun _=>?_))
  rotate_left
  ·show 0<K.use r
   rw[Q6.use hd,if_neg (by omega)];omega
  show(K.ho.set r (K.hold r+1)).getD s 0=_
  rw[g1]
  by_cases e:s=r
  ·subst e;rw[if_pos rfl,if_pos ⟨rfl,o8⟩]
  ·rw[if_neg e,if_neg (fun h=>e h.1)]
theorem Gz(h:lR kp K S ord ax tr C){r:Nat}(hl:live K.N r)(hf:2≤r→K.hold r<65535):Fc Tryz.prog 121 #[ptr kp,u32 r] C (fun v C'=>v=.int .i64 0∧∃K',lR kp K' S ord ax [] C'∧Vs K K' r):=by
 refine(zP h.rep h.ok.mid h.idle hl hf).mono ?_
 rintro v C' ⟨rfl,K',Aa,hM',xY,hm,hu,hp⟩
 refine⟨rfl,K',⟨Aa,⟨hM',fun s d hs=>?_,by rw[hm.n];exact h.ok.lv,by rw[hm.n,hm.N];exact h.ok.wf⟩,by rw[hm.n];exact h.od,xY,trivial⟩,hm⟩
 rw[hm.N]at hs
 exact Nat.lt_of_lt_of_le (h.ok.pos s d hs) (hu s)
end
section
variable {kp:Nat} {K:Kd} {ord ax tr:List Nat} {C:Hp} {S:Nat→aZ.Fn}
theorem Qn{K':Kd}{P:Nat→Nat}(hw:WF K.n (lv ax) K.N)(hM:jt K' S iH P)(hN:∀{s d},K'.N s=some d→K.N s=some d)(hn:K'.n=K.n):WF K'.n (lv ax) K'.N:=by
 have same:∀{t},live K'.N t→dep K'.n (lv ax) K'.N t=dep K.n (lv ax) K.N t:=fun{t} ht=>by
  cases e:K'.N t with
  |some f=>rw[aM e,aM (hN e)]
  |none=>
   have Sp:t<2:=by
    rcases ht with ht|⟨f,hf⟩
    ·exact ht
    ·rw[e]at hf;cases hf
   rw[cQ e,cQ (hw.const Sp),hn]
 refine hM.wf fun{s d} hs=>?_
 rw[same (hM.lo hs),same (hM.hi hs)]
 exact⟨(hw.lo (hN hs)).2,(hw.hi (hN hs)).2⟩
structure Tj(K K':Kd)(r:Nat):Prop where
 n:K'.n=K.n
 cap:K'.cap=K.cap
 N:∀s d,K'.N s=some d→K.N s=some d
 hold:∀s,K'.hold s=if s=r∧2≤r then K.hold s-1 else K.hold s
theorem YX(h:lR kp K S ord ax tr C){r:Nat}(hr:r<4294967296)(h2:2≤r)(h0:K.hold r=0):Rd Tryz.prog 131 #[ptr kp,u32 r] C (· =.int .i64 3):=by
 intro g
 refine uM (R:=aF _) ?_
 unfold L131
 refine ae.aJ (Br.no ?_)
 intro J2 _
 refine ae.me (b:=1) (Br.gf (by omega) ?_)
 refine ag.rd .here (tE h.rep hr (fun s=>by have:=h.jQ s;omega)) ?_
 rintro w rfl
 rw[h0]
 exact ae.jG (Br.gf rfl (bO.mk (.refl _) rfl))
theorem GM(h:lR kp K S ord ax tr C){r:Nat}(hr:r<4294967296)(hh:2≤r→K.hold r≠0):Fc Tryz.prog 131 #[ptr kp,u32 r] C (fun v C'=>v=.int .i64 0∧∃K',lR kp K' S ord ax [] C'∧Tj K K' r):=by
 have h0:=h
 obtain⟨b,hC,hO⟩:=h.rep
 intro g
 refine uM (R:=aF _) ?_
 unfold L131
 refine ae.aJ (Br.no ?_)
 intro J2 A1
 have fin:∀(K':Kd) C1,c6 kp K' ord ax tr C1→Ok K' S (lv ax)→Idle K'→Tj K K' r→J2 [] C1:=fun K' C1 Aa tL xY hm=>by
  refine A1 _ fun gs=>?_
  obtain⟨b',rfl,x7⟩:=Aa
  refine Nil.ptr (aa.mk (St.one (by exact .head _) rfl (by simp[ve.cells]) rfl ?_))
  have hod:Ord K'.n (lv ax) ord:=by rw[hm.n];exact h.od
  refine aF.mk (lT:=({b' with vt:=.slice none 0 0,CR:=[]}:ve).hp kp K'.n) ?_ ⟨rfl,K',⟨⟨{b' with vt:=.slice none 0 0,CR:=[]},rfl,{x7 with tr:=aQ.nil}⟩,tL,hod,xY,trivial⟩,hm⟩
  refine .cons (.cL (.cL (.cL (.cL (.cL (.cL .nil _) _) _) _) _) _)
 refine ae.me (b:=1) (Br.dec (fun h2=>?_) (fun h2=>?_))
 rotate_left
 ·exact JE.mk (fin K C h.rep h.ok h.idle ⟨rfl,rfl,fun _ _ h=>h,fun s=>by rw[if_neg (by omega)]⟩)
 have o8:2≤r:=by omega
 have qk:=hh o8
 obtain⟨d,hd⟩:=h.ok.mid.held r qk
 have hfu:=h.ok.mid.fit hd
 have xR:=hO.ul
 have hfit:r<K.ho.length:=by omega
 have hle:=h.jQ r
 refine ag.rd .here (tE h.rep hr (fun s=>by have:=h.jQ s;omega)) ?_
 rintro w rfl
 refine ae.jG (Br.cq (by omega) ?_)
 subst hC
 refine Nil.ptr (aa.mk (aa.mk (Ld.mk (v:=b.vh) (by exact .head _) rfl ?_)))
 refine hO.ho.ld (x:=((K.hold r:Nat):Int)) (bF hfit) (cy.sub (.cons (.app (.app (.app .left))))) ?_
 refine ae.bH (b:=1) (by simp[aB];omega) (by omega) ?_
 refine hO.ho.jD (x:=((K.hold r-1:Nat):Int)) (.cons (.app (.app (.app .left)))) (by rw[an];exact hfit) fun Kp hhh=>?_
 rw[fZ]at hhh
 have g1:∀s,(K.ho.set r (K.hold r-1)).getD s 0=if s=r then K.hold r-1 else K.hold s:=fun s=>ij hfit
 have hM:=h.ok.mid.drop (r:=r) (bX:=K.ho.set r (K.hold r-1)) (by omega) (by simp) (by rw[g1,if_pos rfl];omega) (fun s hs=>by rw[g1,if_neg hs])
 have u7:c6 kp {K with ho:=K.ho.set r (K.hold r-1)} ord ax tr (({b with CH:=Kp}:ve).hp kp K.n):=⟨_,rfl,{hO with ho:=hhh,ul:=by simp;exact xR}⟩
 have hho:∀s,(K.ho.set r (K.hold r-1)).getD s 0=if s=r∧2≤r then K.hold s-1 else K.hold s:=fun s=>by
  rw[g1]
  by_cases e:s=r
  ·subst e;rw[if_pos rfl,if_pos ⟨rfl,o8⟩]
  ·rw[if_neg e,if_neg (fun h=>e h.1)]
 refine Nil.ptr (aa.mk (aa.mk (Ld.mk (v:=b.vh) (by exact .head _) rfl ?_)))
 refine hhh.ld (x:=((K.hold r-1:Nat):Int)) (by rw[bF (by simpa using hfit),g1,if_pos rfl]) (cy.sub (.cons (.app (.app (.app .left))))) ?_
 refine ae.gz (b:=0) (Br.dec (fun h3=>?_) (fun h3=>?_))
 rotate_left
 ·rw[if_neg (by omega)]at hM
  exact JE.mk (fin {K with ho:=K.ho.set r (K.hold r-1)} _ u7 ⟨hM,h.ok.pos,h.ok.lv,h.ok.wf⟩ h.idle ⟨rfl,rfl,fun _ _ h=>h,hho⟩)
 rw[if_pos (by omega)]at hM
 refine Nil.ptr (aa.mk ?_)
 have KB:jt {K with ho:=K.ho.set r (K.hold r-1)} S iH (gY zero' [r]):=hM.congr (fun _=>Iff.rfl) fun s _=>by
  unfold up gY zero'
  by_cases e:s=r
  ·subst e;simp
  ·simp[e,Ne.symm e]
 refine ag.fn .here (oF (P0:=zero') u7 KB h.ok.pos (fun t Pc h0=>?_) (h.fN (.inr ⟨d,hd⟩)) (fun s=>by have:=h.Ln s;show K.use s<_;omega)) ?_
 ·by_cases e:t=r
  ·subst e;exact⟨d,hd⟩
  ·have h0':0<zero' t+[r].count t:=h0
   simp[zero',Ne.symm e]at h0'
 rintro w C2 ⟨rfl,K2,tR,hM3,Sw,_,gP⟩
 refine JE.mk (fin K2 _ tR ⟨hM3,Sw,by rw[gP.n];exact h.ok.lv,Qn h.ok.wf hM3 (fun h=>gP.N h) gP.n⟩ (gP.idle h.idle) ⟨gP.n,gP.cap,fun s e hs=>gP.N hs,fun s=>?_⟩)
 show K2.ho.getD s 0=_
 rw[gP.ho]
 exact hho s
structure G4(K:Kd)(S:Nat→aZ.Fn)(K':Kd)(S':Nat→aZ.Fn)(f:aZ.Fn)(r:Nat):Prop where
 n:K'.n=K.n
 cap:K'.cap=K.cap
 used:K'.used≤K.used+1
 N:∀s d,K.N s=some d→K'.N s=some d
 fn:∀s,live K.N s→S' s=S s
 live:live K'.N r
 is:S' r=f
 hold:∀s,K'.hold s=if s=r∧2≤r then K.hold s+1 else K.hold s
theorem Qh(h:lR kp K S ord ax tr C){v lo hi:Nat}(hv:v<K.n)(hlo:live K.N lo)(hhi:live K.N hi)(hlt:lo=hi∨(lv ax v<dep K.n (lv ax) K.N lo∧lv ax v<dep K.n (lv ax) K.N hi)):
  Fc Tryz.prog 164 #[ptr kp,.int .i64 (v:Int),u32 lo,u32 hi] C (fun w C'=>
   (∃r K' S',w=.tuple #[u32 r,.int .i64 0]∧lR kp K' S' ord ax [] C'∧G4 K S K' S' (ite S ⟨v,lo,hi⟩) r)∨
   (∃r,w=.tuple #[u32 0,.int .i64 8]∧C'=C∧live K.N r∧2≤r∧K.hold r=65535∧S r=ite S ⟨v,lo,hi⟩)∨
   (w=.tuple #[u32 0,.int .i64 9]∧C'=C∧K.cap≤K.used∧lo≠hi∧K.T ⟨v,lo,hi⟩=none)):=by
 have h0:=h
 have aiG:=h.fN hlo
 have aiQ:=h.fN hhi
 have Cg:=cU.2 hlo
 have rK:=cU.2 hhi
 have hfe:rP K ax (v:Int) lo hi=0:=by
  unfold rP
  rw[if_neg (by omega),if_neg (by rw[Cg,rK];simp),if_neg]
  rintro⟨hne,hmin⟩
  rcases hlt with e|⟨a,b⟩
  ·exact hne e
  ·simp only[Int.toNat_natCast,lv]at hmin a b;omega
 intro g
 refine EO (R:=aF _) ?_
 unfold L164
 refine ae.aJ (Br.no ?_)
 refine ag.rd .here (Rp h.rep (v:Int) (by omega) (by omega) (fun r d hd=>⟨h.ok.mid.var hd,(h.ok.mid.two hd).1⟩)) ?_
 rintro w rfl
 rw[hfe]
 refine ae.dX (Br.cq (by simp) ?_)
 refine ag.rd .here (P1 h.rep (lo:=lo) (hi:=hi) hv) ?_
 rintro w hw
 have there:∀(J9:List Value→Hp→Prop),(∀eW:Value,∀dZ:Hp,(∀r9:Fr,ag Tryz.prog g 121 #[ptr kp,eW] dZ (fun bj fe=>ae .num .neq bj (Value.int .i64 0) fun bD=>Br bD
   (aF (fun w C'=>(∃r K' S',w=.tuple #[u32 r,.int .i64 0]∧lR kp K' S' ord ax [] C'∧G4 K S K' S' (ite S ⟨v,lo,hi⟩) r)∨
   (∃r,w=.tuple #[u32 0,.int .i64 8]∧C'=C∧live K.N r∧2≤r∧K.hold r=65535∧S r=ite S ⟨v,lo,hi⟩)∨
   (w=.tuple #[u32 0,.int .i64 9]∧C'=C∧K.cap≤K.used∧lo≠hi∧K.T ⟨v,lo,hi⟩=none)) (.returned (.tuple #[(Value.int .u32 0),bj])) fe) (aF (fun w C'=>(∃r K' S',w=.tuple #[u32 r,.int .i64 0]∧lR kp K' S' ord ax [] C'∧G4 K S K' S' (ite S ⟨v,lo,hi⟩) r)∨
   (∃r,w=.tuple #[u32 0,.int .i64 8]∧C'=C∧live K.N r∧2≤r∧K.hold r=65535∧S r=ite S ⟨v,lo,hi⟩)∨
   (w=.tuple #[u32 0,.int .i64 9]∧C'=C∧K.cap≤K.used∧lo≠hi∧K.T ⟨v,lo,hi⟩=none)) (.returned (.tuple #[eW,(Value.int .i64 0)])) fe)) (aq (aF (fun w C'=>(∃r K' S',w=.tuple #[u32 r,.int .i64 0]∧lR kp K' S' ord ax [] C'∧G4 K S K' S' (ite S ⟨v,lo,hi⟩) r)∨
   (∃r,w=.tuple #[u32 0,.int .i64 8]∧C'=C∧live K.N r∧2≤r∧K.hold r=65535∧S r=ite S ⟨v,lo,hi⟩)∨
   (w=.tuple #[u32 0,.int .i64 9]∧C'=C∧K.cap≤K.used∧lo≠hi∧K.T ⟨v,lo,hi⟩=none)))))→J9 [eW] dZ)→
   ∀r,live K.N r→S r=ite S ⟨v,lo,hi⟩→J9 [u32 r] C:=fun J9 Ny r hr hS=>by
  refine Ny _ _ fun gs=>?_
  by_cases hf:2≤r∧K.hold r=65535
  ·refine ag.rd .here (Iz h hr hf.1 hf.2) ?_
   rintro w rfl
   exact ae.dX (Br.gf (by simp) (aF.here (.inr (.inl ⟨r,rfl,rfl,hr,hf.1,hf.2,hS⟩))))
  ·refine ag.fn .here (Gz h hr (fun h2=>by have:=h.jQ r;omega)) ?_
   rintro w C' ⟨rfl,K',Aa,hm⟩
   refine ae.dX (Br.cq (by simp) (aF.here (.inl ⟨r,K',S,rfl,Aa,⟨hm.n,hm.cap,by rw[hm.used];omega,fun s d hs=>by rw[hm.N];exact hs,fun _ _=>rfl,by rw[hm.N];exact hr,hS,hm.hold⟩⟩)))
 by_cases he:lo=hi
 ·rw[if_pos he]at hw
  subst hw
  refine Ext.mk rfl (Ext.mk rfl ?_)
  intro J9 Ny
  refine Un.not (Br.no (JE.mk (there J9 Ny lo hlo ?_)))
  funext z
  unfold aZ.ite
  simp[he]
 rw[if_neg he]at hw
 have pT:lv ax v<dep K.n (lv ax) K.N lo∧lv ax v<dep K.n (lv ax) K.N hi:=by
  rcases hlt with e|e
  ·exact absurd e he
  ·exact e
 obtain⟨o,ho⟩:∃o,o=K.T ⟨v,lo,hi⟩:=⟨_,rfl⟩
 cases o with
 |some r=>
  have hT:K.T ⟨v,lo,hi⟩=some r:=ho.symm
  rw[hT]at hw
  subst hw
  refine Ext.mk rfl (Ext.mk rfl ?_)
  intro J9 Ny
  have hN:=((h.ok.mid.jL _ r).1 hT).1
  refine Un.not (Br.no (JE.mk (there J9 Ny r (.inr ⟨_,hN⟩) ?_)))
  funext z
  rw[h.ok.mid.int.node hN]
  rfl
 |none=>
  have hT:K.T ⟨v,lo,hi⟩=none:=ho.symm
  rw[hT]at hw
  subst hw
  refine Ext.mk rfl (Ext.mk rfl ?_)
  intro J9 Ny
  refine Un.not (Br.yes (Nil.ptr (aa.mk ?_)))
  have hcap:=h.ok.mid.cap
  refine ag.rd .here (zL h.rep (m:=1) (by omega) (by omega)) ?_
  rintro w rfl
  refine Un.not ?_
  by_cases hroom:K.used+1≤K.cap
  rotate_left
  ·rw[decide_eq_false hroom]
   exact Br.yes (aF.here (.inr (.inr ⟨rfl,rfl,by omega,he,hT⟩)))
  rw[decide_eq_true hroom]
  refine Br.no (Nil.ptr (aa.mk ?_))
  refine Build.mk (cs:=aT ⟨v,lo,hi⟩) (by kernel_rfl) ?_
  have hfit:∀{t:Nat},live K.N t→t<2∨t<K.us.length:=fun ht'=>by
   rcases ht' with ht'|⟨d,ej⟩
   ·exact .inl ht'
   ·exact .inr (h.ok.mid.fit ej)
  have XP:K.n≤64:=by obtain⟨_,_,hO⟩:=h.rep;exact hO.uY
  refine ag.fn .here (Gc h.rep (d:=⟨v,lo,hi⟩) ⟨by show v<64;omega,hlo,hhi⟩ hv hT (by omega) (hfit hlo) (hfit hhi) (fun s=>by have:=h.Ln s;omega)) ?_
  rintro w C1 ⟨r,dr,bX,rfl,hN,h2,hrc,hlen,hru,xR,u0,u1,u2,o0,o1,u7⟩
  have IM:=h.ok.mid.lay (r:=r) (d:=⟨v,lo,hi⟩) hN ⟨h2,hrc⟩ hv he hlo hhi hT (fun h=>h) rfl (by omega) hlen ⟨hru,xR⟩ u0 u1 o0 o1
  have adA:∀s d,K.N s=some d→up K.N r (some ⟨v,lo,hi⟩) s=some d:=fun s d hs=>by rw[aP (fun e=>by rw[e,hN]at hs;cases hs)];exact hs
  have hne:∀{t:Nat},live K.N t→t≠r:=fun ht=>fM ht h2 hN
  have M5:Idle {K with N:=up K.N r (some ⟨v,lo,hi⟩),T:=o5 K.T ⟨v,lo,hi⟩ (some r),used:=K.used+1,us:=dr,ho:=bX}:=fun s hs=>by
   have hs':up K.N r (some ⟨v,lo,hi⟩) s=none:=hs
   have MK:s≠r:=fun e=>by subst e;rw[aN]at hs';cases hs'
   rw[aP MK]at hs'
   show dr.getD s 0=0
   by_cases Wk:2≤s
   ·rw[u1 s Wk MK,h.idle s hs',eu]
    have a1:lo≠s:=fun e=>by
     rcases hlo with h5|⟨d,h5⟩
     ·omega
     ·rw[e,hs']at h5;cases h5
    have a2:hi≠s:=fun e=>by
     rcases hhi with h5|⟨d,h5⟩
     ·omega
     ·rw[e,hs']at h5;cases h5
    simp[a1,a2]
   ·rw[u2 s (by omega),h.idle s hs']
  refine JE.mk (Ny _ _ fun gs=>?_)
  refine ag.fn .here (zP u7 IM M5 (r:=r) (.inr ⟨_,aN⟩) (fun _=>by show bX.getD r 0<65535;rw[o0];omega)) ?_
  rintro w C2 ⟨rfl,K2,tR,KB,Cj,hm,hu,hp⟩
  refine ae.dX (Br.cq (by simp) ?_)
  have QL:K2.n=K.n:=hm.n
  have YA:K2.N=up K.N r (some ⟨v,lo,hi⟩):=hm.N
  have hpos:Pos K2:=fun s d hs=>by
   by_cases e:s=r
   ·rw[e];exact hp h2
   ·rw[YA,aP e]at hs
    have h3:=hu s
    have h4:({K with N:=up K.N r (some ⟨v,lo,hi⟩),T:=o5 K.T ⟨v,lo,hi⟩ (some r),used:=K.used+1,us:=dr,ho:=bX}:Kd).use s=dr.getD s 0:=rfl
    rw[h4,u1 s (h.ok.mid.two hs).1 e]at h3
    have:=h.ok.pos s d hs
    omega
  have Cv:∀{t:Nat},live K.N t→dep K2.n (lv ax) K2.N t=dep K.n (lv ax) K.N t:=fun{t} ht=>by
   rw[YA,QL]
   unfold dep
   rw[aP (hne ht)]
  have aci:WF K2.n (lv ax) K2.N:=KB.wf fun{s d} hs=>by
   rw[YA]at hs
   by_cases e:s=r
   ·rw[e,aN]at hs;cases hs
    rw[Cv hlo,Cv hhi];exact pT
   ·rw[aP e]at hs
    rw[Cv (h.ok.wf.lo hs).1,Cv (h.ok.wf.hi hs).1]
    exact⟨(h.ok.wf.lo hs).2,(h.ok.wf.hi hs).2⟩
  have hS:∀s,live K.N s→up S r (ite S ⟨v,lo,hi⟩) s=S s:=fun s hs=>aP (hne hs)
  refine aF.here (.inl ⟨r,K2,up S r (ite S ⟨v,lo,hi⟩),rfl,⟨tR,⟨KB,hpos,by rw[QL];exact h.ok.lv,aci⟩,by rw[QL];exact h.od,Cj,trivial⟩,⟨QL,hm.cap,by rw[hm.used];exact Nat.le_refl _,fun s d hs=>by rw[YA];exact adA s d hs,hS,.inr ⟨_,by rw[YA];exact aN⟩,aN,fun s=>?_⟩⟩)
  rw[hm.hold]
  show(if s=r∧2≤r then bX.getD s 0+1 else bX.getD s 0)=_
  by_cases e:s=r
  ·subst e
   rw[if_pos ⟨rfl,h2⟩,if_pos ⟨rfl,h2⟩,o0]
   have:K.hold s=0:=by
    apply Decidable.byContradiction
    intro hne
    obtain⟨d,hd⟩:=h.ok.mid.held s hne
    rw[hN]at hd;cases hd
   omega
  ·rw[if_neg (fun h=>e h.1),if_neg (fun h=>e h.1),o1 s e]
end
theorem hnew{H:Hp}:cy [] H (fun X=>X++H):=cy.left
theorem MF{n:Nat}(hn:n≤64):Fc Tryz.prog 185 #[.int .i64 (n:Int)] [] (fun v H=>aQ 3 .i64 v (iw (List.range n)) H):=by
 intro g
 refine EA (R:=aF _) ?_
 unfold L185
 refine cc.ints (by omega) (by omega) fun b=>?_
 have h0:aQ 3 .i64 (.slice (some ⟨b,0,none⟩) n n) (List.replicate n 0) [(b,.cells (aC .i64 (List.replicate n 0)) 3 (0,0))]:=by
  have:=aQ.made (T:=3) (kd:=.i64) (b:=b) (List.replicate n (0:Int))
  rw[List.length_replicate]at this;exact this
 refine⟨fun vs H=>∃j:Nat,vs=[.int .i64 (j:Int)]∧j≤n∧aQ 3 .i64 (.slice (some ⟨b,0,none⟩) n n) (iw (List.range j)++List.replicate (n-j) 0) H,fun vs _=>n-bg vs 0,JE.mk ⟨0,rfl,by omega,by simpa[iw]using h0⟩,?_⟩
 rintro w H ⟨j,hw,hj,hs⟩ gs
 simp only[List.cons.injEq,and_true]at hw
 subst hw
 refine ae.dz (Br.dec (fun hlt=>?_) (fun hlt=>?_))
 ·refine hs.jD (x:=(j:Int)) .here (by simp;omega) fun C' hs'=>?_
  refine ae.aH (b:=1) (by simp[aB];omega) ?_
  have e:(iw (List.range j)++List.replicate (n-j) 0).set j (j:Int)=iw (List.range (j+1))++List.replicate (n-(j+1)) 0:=by
   rw[List.set_append_right _ _ (by simp)]
   rw[show n-j=(n-(j+1))+1 by omega,List.replicate_succ,List.range_succ,bT]
   simp[iw]
  rw[e]at hs'
  exact ay.of (.refl _) ⟨j+1,rfl,by omega,hs'⟩ (by show n-(((j+1:Nat):Int).toNat)<n-(((j:Nat):Int).toNat);omega)
 ·obtain rfl:j=n:=by omega
  exact aF.here (by simpa using hs)
theorem zW{n:Nat}(hn:n≤64):Fc Tryz.prog 116 #[.int .i64 (n:Int)] [] (fun v H=>∃s,v=.tuple #[s,.int .i64 0]∧aQ 3 .i64 s (iw (List.range n)) H):=by
 intro g
 refine Fu (R:=aF _) ?_
 unfold L116
 refine ae.lss ?_
 rw[decide_eq_false (by omega)]
 refine bM.or false (fun _=>ae.gtr ⟨rfl,by rw[decide_eq_false (by omega)]⟩) rfl fun _=>Br.no ?_
 refine ag.fn .here (MF hn) ?_
 intro s H hs
 exact aF.here ⟨s,rfl,hs⟩
def K0(n cap:Nat):Kd:=⟨n,cap,2,fun _=>none,fun _=>none,[],[]⟩
def S0:Nat→aZ.Fn:=fun r _=>decide (r=1)
theorem mE{n v:Nat}(hv:v<n):lv (List.range n) v=v:=by
 show(List.range n).getD v 0=v
 simp[List.getD,hv]
theorem Zx{n cap:Nat}(hc:2≤cap∧cap≤1048576):Ok (K0 n cap) S0 (lv (List.range n)):=by
 have c0:∀k,lY (fun _=>none) k=0:=fun k=>by induction k with|zero=>rfl|succ k ih=>rw[lY,ih];rfl
 have hm:jt (K0 n cap) S0 iH zero':={
  two:=fun h=>nomatch h
  var:=fun h=>nomatch h
  ne:=fun h=>nomatch h
  lo:=fun h=>nomatch h
  hi:=fun h=>nomatch h
  int:=⟨fun _=>rfl,fun _=>rfl,fun h=>nomatch h⟩
  jL:=fun d r=>⟨fun h=>(nomatch h),fun h=>nomatch h.1⟩
  use:=fun h=>nomatch h
  len:=rfl
  fit:=fun h=>nomatch h
  held:=fun r h=>absurd (by simp[Kd.hold,K0]) h
  mx:=fun r=>by simp[Kd.hold,K0]
  room:=by show 2=2+lY (fun _=>none) _;rw[c0]
  cap:=hc}
 refine⟨hm,fun r d h=>(nomatch h),⟨fun v hv=>?_,fun u v hu hv h=>?_⟩,⟨fun h=>(nomatch h),fun h=>(nomatch h),fun h=>(nomatch h),fun h=>(nomatch h),fun h=>(nomatch h),fun h=>(nomatch h)⟩⟩
 ·have xQ:v<n:=hv
  rw[mE xQ];exact hv
 ·have xS:u<n:=hu
  have xQ:v<n:=hv
  rwa [mE xS,mE xQ]at h
theorem zy{pt n cap:Nat}{CT:Hp}(hu:ni pt n (fun _=>none) CT)(hc:2≤cap∧cap≤1048576):Fc Tryz.prog 118 #[.int .i64 (cap:Int),ptr pt] CT (fun v H=>∃pa CA,v=.tuple #[.agg #[ptr pa,ptr pt,.slice none 0 0,.slice none 0 0],.int .i64 0]∧ir pa cap 2 (fun _=>none) CA∧H=CA++CT):=by
 intro g
 refine Fq (R:=aF _) ?_
 unfold L118
 intro b1 _
 refine ag.fn hnew (RH hc) ?_
 rintro v C ⟨pa,rfl,hA⟩
 refine Ext.mk rfl (Ext.mk rfl ?_)
 refine Build.mk (cs:=[ptr pa,ptr pt,.slice none 0 0,.slice none 0 0]) (by kernel_rfl) ?_
 refine St.whole (r:=[ptr pa,ptr pt,.slice none 0 0,.slice none 0 0]) (cJ.bI (.head _) _) rfl rfl (by simp[Value.oneCell']) ?_
 refine az.whole (r:=[ptr pa,ptr pt,.slice none 0 0,.slice none 0 0]) (by exact List.mem_append_right _ (.head _)) rfl ?_
 exact aF.mk (.cL .tail _) ⟨pa,C,rfl,hA,rfl⟩
theorem Mc{n cap:Nat}(hn:1≤n∧n≤64)(hc:2≤cap∧cap≤1048576):Fc Tryz.prog 51 #[.int .i64 (n:Int),.int .i64 (cap:Int)] [] (fun v C=>∃kp,v=.tuple #[ptr kp,.int .i64 0]∧lR kp (K0 n cap) S0 (List.range n) (List.range n) [] C):=by
 intro g
 refine JQ (R:=aF _) ?_
 unfold L51
 refine ag.fn .here (zW hn.2) ?_
 rintro v CO ⟨s,rfl,hO⟩
 obtain⟨sa,sl,sc,hse⟩:∃a l c,s=Value.slice a l c:=by obtain⟨a,c,h⟩:=aS.len hO;exact⟨a,_,c,h⟩
 refine Ext.mk rfl (Ext.mk rfl ?_)
 refine ae.dX ?_
 refine bM.or false (fun _=>ae.lss ⟨rfl,by rw[decide_eq_false (by omega)]⟩) rfl fun gs=>?_
 refine bM.or false (fun _=>ae.lss ⟨rfl,by rw[decide_eq_false (by omega)]⟩) rfl fun gs=>?_
 refine bM.or false (fun _=>ae.gtr ⟨rfl,by rw[decide_eq_false (by omega)]⟩) rfl fun gs=>Br.no ?_
 refine ag.fn hnew (PJ hn) ?_
 rintro v CT ⟨pt,rfl,hT⟩
 refine Ext.mk rfl (Ext.mk rfl ?_)
 refine ae.dX (Br.no ?_)
 refine ag.fn .left (zy hT hc) ?_
 rintro v H ⟨pa,CA,rfl,hA,rfl⟩
 refine Ext.mk rfl (Ext.mk rfl ?_)
 intro b24 _
 refine St.whole (r:=[ptr pa,ptr pt,.slice none 0 0,.slice none 0 0]) (by exact .head _) rfl rfl (by simp[Value.oneCell']) ?_
 refine ae.dX (Br.no (DR.self ?_))
 refine az.whole (r:=[ptr pa,ptr pt,.slice none 0 0,.slice none 0 0]) (by exact .head _) rfl ?_
 refine ag.fn (.cons (.app .here)) (uj (hO.ints.mono fun _ h=>h) (by simp;omega)) ?_
 rintro v H ⟨CL,rfl,hL⟩
 obtain⟨la,ll,lc,hle⟩:∃a l c,v=Value.slice a l c:=by obtain⟨a,c,h⟩:=aS.len hL;exact⟨a,_,c,h⟩
 refine⟨(.cons (.cL .right _)),?_⟩
 subst hse hle
 refine Build.mk (cs:=[ptr pa,ptr pt,.slice none 0 0,.slice none 0 0,.int .i64 (n:Int),.slice sa sl sc,.slice la ll lc,.slice none 0 0]) (by kernel_rfl) ?_
 intro KF _
 refine⟨(.skip (.cons (.cL .right _))),?_⟩
 let kb:ve:=⟨pa,pt,.slice none 0 0,.slice none 0 0,.slice sa sl sc,.slice la ll lc,.slice none 0 0,CA,CT,[],[],CO,CL,[]⟩
 refine aF.mk (lT:=kb.hp KF n) ?_ ⟨KF,rfl,⟨kb,rfl,⟨hA,hT,aQ.nil,aQ.nil,hO,hL,aQ.nil,⟨rfl,by simp[K0]⟩,hn.2,by simp[K0]⟩⟩,Zx hc,⟨by simp[K0],fun l hl=>?_⟩,fun s _=>by simp[Kd.use,K0],trivial⟩
 ·refine .cons (.skip ((aO.assoc).trans ?_))
  show aO (CA++(CT++(CL++CO))) (CA++(CT++([]++([]++(CO++(CL++[]))))))
  simp only[List.nil_append,List.append_nil]
  exact .cL (.cL (.perm List.perm_append_comm) _) _
 ·have hl':l<n:=hl
  have e:(List.range n).getD l 0=l:=mE hl'
  rw[e];exact⟨hl,mE hl'⟩
end Go.Proofs
namespace aZ
def aE(ord path:List Nat):List Nat:=path.foldl eG ord
theorem dU{ord path:List Nat}{l:Nat}:aE ord (path++[l])=eG (aE ord path) l:=by simp[aE]
theorem jc{ord path q:List Nat}:aE ord (path++q)=aE (aE ord path) q:=by simp[aE]
theorem dV{ord:List Nat}:∀{path:List Nat},(aE ord path).length=ord.length:=by
 intro path
 unfold aE
 induction path generalizing ord with
 |nil=>rfl
 |cons l r ih=>rw[List.foldl_cons,ih];simp[eG]
def lP:Nat→List Nat
 |2=>[0]
 |3=>[1,0,1,0,1]
 |4=>[2,1,0,2,0,1,2,0,2,1,0,2,0,1,2,0,2,1,0,2,0,1,2]
 |_=>[]
structure Rm where
 n:Nat
 size:List Nat→Nat
 fit:List Nat→Nat→Bool
def Rm.cI(m:Rm)(p:Nat):List Nat→List Nat→List Nat
 | [],_=>[]
 |c::cs,ord=>if m.fit ord (p+c)then(p+c)::m.cI p cs (eG ord (p+c))else []
def Rm.keep(m:Rm)(ord path:List Nat):Nat→Nat
 |0=>0
 |i+1=>if m.size (aE ord (path.take (i+1)))<m.size (aE ord (path.take (m.keep ord path i)))then i+1 else m.keep ord path i
def Rm.visit(m:Rm)(w p:Nat)(ord:List Nat):List Nat×Nat:=
 let path:=m.cI p (lP w) ord
 let k:=m.keep ord path path.length
 (path.take k,path.length+(path.length-k))
def Rm.all(m:Rm)(w:Nat)(ord:List Nat):Nat→List Nat×Nat
 |0=>([],0)
 |i+1=>let a:=m.all w ord i;let b:=m.visit w i (aE ord a.1);(a.1++b.1,a.2+b.2)
def Rm.pass(m:Rm)(w:Nat)(ord:List Nat):List Nat×Nat:=m.all w ord (m.n+1-w)
theorem Rm.pW(m:Rm)(p:Nat):∀cs ord,(m.cI p cs ord).length≤cs.length
 | [],_=>by simp[cI]
 |c::cs,ord=>by
  rw[cI]
  split
  ·have:=m.pW p cs (eG ord (p+c));simp only[List.length_cons];omega
  ·simp
theorem Rm.pX(m:Rm)(p:Nat):∀cs ord i,i<(m.cI p cs ord).length→(m.cI p cs ord)[i]? =(cs[i]?).map (p+ ·)∧∃c,cs[i]? =some c∧m.fit (aE ord ((m.cI p cs ord).take i)) (p+c)=true
 | [],_,i,h=>by simp[cI]at h
 |c::cs,ord,i,h=>by
  by_cases hf:m.fit ord (p+c)=true
  ·rw[cI,if_pos hf]at h⊢
   cases i with
   |zero=>exact⟨by simp,c,rfl,hf⟩
   |succ i=>
    obtain⟨h1,c',h2,h3⟩:=m.pX p cs (eG ord (p+c)) i (by simpa using h)
    exact⟨by simpa using h1,c',by simpa using h2,by simpa[aE]using h3⟩
  ·rw[cI,if_neg hf]at h;simp at h
theorem Rm.tU(m:Rm)(p:Nat):∀cs ord c,cs[(m.cI p cs ord).length]? =some c→m.fit (aE ord (m.cI p cs ord)) (p+c)=false
 | [],_,c,h=>by simp at h
 |c'::cs,ord,c,h=>by
  by_cases hf:m.fit ord (p+c')=true
  ·rw[cI,if_pos hf]at h⊢
   have:=m.tU p cs (eG ord (p+c')) c (by simpa using h)
   simpa[aE]using this
  ·rw[cI,if_neg hf]at h⊢
   simp only[List.length_nil,List.getElem?_cons_zero,Option.some.injEq]at h
   subst h
   simpa[aE]using hf
theorem Rm.tT(m:Rm)(p:Nat){cs ord:List Nat}{l:Nat}(h:l∈m.cI p cs ord):∃c∈cs,l=p+c:=by
 obtain⟨i,hi,e⟩:=List.getElem_of_mem h
 obtain⟨h1,c,h2,_⟩:=m.pX p cs ord i hi
 rw[List.getElem?_eq_getElem hi,e,h2]at h1
 exact⟨c,List.mem_of_getElem? h2,by simpa using h1⟩
theorem Rm.xO(m:Rm)(ord path:List Nat):∀i,m.keep ord path i≤i
 |0=>Nat.le_refl _
 |i+1=>by rw[keep];split;omega;have:=m.xO ord path i;omega
theorem yj{w c:Nat}(h:c∈lP w):c+2≤w:=by
 unfold lP at h
 split at h
 ·simp at h;omega
 ·simp at h;omega
 ·simp at h;omega
 ·simp at h
theorem GR(w:Nat):(lP w).length≤23:=by
 unfold lP
 split<;>simp
theorem Rm.Hs(m:Rm){w p:Nat}{ord:List Nat}{l:Nat}(h:l∈(m.visit w p ord).1):l+2≤p+w:=by
 obtain⟨c,hc,rfl⟩:=m.tT p (List.mem_of_mem_take h)
 have:=yj hc
 omega
theorem Rm.vJ(m:Rm)(w p:Nat)(ord:List Nat):(m.visit w p ord).1.length≤23∧(m.visit w p ord).2≤46:=by
 have h1:=m.pW p (lP w) ord
 have h2:=GR w
 have h3:=m.xO ord (m.cI p (lP w) ord) (m.cI p (lP w) ord).length
 constructor
 ·show(List.take _ _).length≤23
  rw[List.length_take];omega
 ·show _+(_-_)≤46
  omega
theorem Rm.GZ(m:Rm)(w:Nat)(ord:List Nat):∀i,(m.all w ord i).1.length≤23*i∧(m.all w ord i).2≤46*i
 |0=>⟨Nat.le_refl _,Nat.le_refl _⟩
 |i+1=>by
  have h1:=m.GZ w ord i
  have h2:=m.vJ w i (aE ord (m.all w ord i).1)
  constructor
  ·show((m.all w ord i).1++(m.visit w i (aE ord (m.all w ord i).1)).1).length≤_
   rw[List.length_append];omega
  ·show(m.all w ord i).2+(m.visit w i (aE ord (m.all w ord i).1)).2≤_
   omega
theorem Rm.all_succ(m:Rm)(w:Nat)(ord:List Nat)(i:Nat):m.all w ord (i+1)=((m.all w ord i).1++(m.visit w i (aE ord (m.all w ord i).1)).1,(m.all w ord i).2+(m.visit w i (aE ord (m.all w ord i).1)).2):=rfl
end aZ
set_option maxRecDepth 100000
namespace Go.Proofs
open Go Go.Sx
open aZ
def At(kp:Nat)(K:Kd)(S:Nat→aZ.Fn)(ord tr:List Nat)(C:Hp):Prop:=∃K' S' fC,lR kp K' S' ord fC tr C∧Kept K S K' S'
noncomputable def bC(K:Kd)(S:Nat→aZ.Fn)(ord:List Nat):Nat:=sz K.n ord (K.held S)
def gW(K:Kd)(S:Nat→aZ.Fn)(ord:List Nat)(l:Nat):Prop:=yJ K.n ord l (K.held S)+2≤K.cap
section
variable {kp:Nat} {K:Kd} {S:Nat→aZ.Fn} {ord tr:List Nat} {C:Hp}
theorem lR.bB{ax:List Nat}(h:lR kp K S ord ax tr C):At kp K S ord tr C:=⟨K,S,ax,h,.refl _ _⟩
theorem zK{ax:List Nat}(h:lR kp K S ord ax tr C):K.used=bC K S ord+2:=by
 have h1:=R2 (h.ok.size h.od)
 have h2:=h.ok.mid.room
 unfold bC
 omega
theorem zO{K':Kd}{S':Nat→aZ.Fn}(h:Kept K S K' S')(ord:List Nat):bC K' S' ord=bC K S ord:=by
 unfold bC;rw[h.n];exact Lw h.held
theorem wu{K':Kd}{S':Nat→aZ.Fn}(h:Kept K S K' S')(ord:List Nat)(l:Nat):gW K' S' ord l↔gW K S ord l:=by
 unfold gW;rw[h.n,h.cap,Hz h.held]
theorem At.len(h:At kp K S ord tr C):ord.length=K.n:=by
 obtain⟨K',S',fC,h,hk⟩:=h
 rw[←hk.n];exact h.od.len
theorem uv(h:At kp K S ord tr C):bC K S ord≤1048574:=by
 obtain⟨K',S',fC,h,hk⟩:=h
 rw[←zO hk];have:=zK h;have:=h.ok.mid.cap;omega
theorem At.uY(h:At kp K S ord tr C):K.n≤64:=by
 obtain⟨K',S',fC,h,hk⟩:=h
 obtain⟨b,_,hO⟩:=h.rep
 rw[←hk.n];exact hO.uY
theorem cM(h:At kp K S ord tr C):Rd Tryz.prog 15 #[ptr kp] C (· =.int .i64 ((bC K S ord:Nat):Int)):=by
 obtain⟨K',S',fC,h,hk⟩:=h
 have hs:=zK h
 have hc:=h.ok.mid.cap
 refine(Qs h.rep (by omega) (by omega)).mono ?_
 rintro v H ⟨rfl,rfl⟩
 exact⟨rfl,by rw[hs,zO hk];rfl⟩
theorem kI(h:At kp K S ord tr C):Rd Tryz.prog 34 #[ptr kp] C (· =.int .i64 ((tr.length:Nat):Int)):=by
 obtain⟨K',S',fC,h,hk⟩:=h
 exact Ix h.rep
theorem lG(h:At kp K S ord tr C):Rd Tryz.prog 61 #[ptr kp] C (· =.int .i64 ((K.n:Nat):Int)):=by
 obtain⟨K',S',fC,h,hk⟩:=h
 rw[←hk.n];exact zJ h.rep
theorem AH(h:At kp K S ord tr C):Fc Tryz.prog 13 #[ptr kp] C (fun r H=>∃N,H=N++C∧aQ 3 .i64 r (iw ord) N):=by
 obtain⟨K',S',fC,h,hk⟩:=h
 exact Iy h.rep
theorem sI(h:At kp K S ord tr C){l:Nat}(hl:l+1<K.n)(ig:tr.length<1099511627776)(hf:gW K S ord l):Fc Tryz.prog 17 #[ptr kp,.int .i64 (l:Int)] C (fun r C'=>r=.int .i64 0∧At kp K S (eG ord l) (tr++[l]) C'):=by
 obtain⟨K',S',fC,h,hk⟩:=h
 refine(GL h (by rw[hk.n];exact hl) ig).mono ?_
 rintro v C' (⟨_,rfl,K2,S2,Um,h2,u6⟩|⟨hno,_,_⟩)
 ·exact⟨rfl,K2,S2,Um,h2,hk.trans u6⟩
 ·have:=(wu hk ord l).2 hf
  unfold gW at this;omega
theorem oU(h:At kp K S ord tr C){l:Nat}(hl:l+1<K.n)(ig:tr.length<1099511627776)(hf:¬gW K S ord l):Rd Tryz.prog 17 #[ptr kp,.int .i64 (l:Int)] C (· =.int .i64 9):=by
 obtain⟨K',S',fC,h,hk⟩:=h
 refine(GL h (by rw[hk.n];exact hl) ig).mono ?_
 rintro v C' (⟨Uw,_⟩|⟨hno,rfl,rfl⟩)
 ·exact absurd ((wu hk ord l).1 Uw) hf
 ·exact⟨rfl,rfl⟩
theorem yq{l:Nat}(h:At kp K S ord (tr++[l]) C)(ig:tr.length<1099511627776):Fc Tryz.prog 18 #[ptr kp] C (fun r C'=>r=.tuple #[.int .i64 (l:Int),.int .i64 0]∧At kp K S (eG ord l) tr C'):=by
 obtain⟨K',S',fC,h,hk⟩:=h
 refine(PK h ig).mono ?_
 rintro v C' ⟨rfl,_,K2,S2,Um,h2,u6⟩
 exact⟨rfl,K2,S2,Um,h2,hk.trans u6⟩
theorem T1(h:At kp K S ord tr C){l:Nat}(hl:l+1<K.n)(ig:tr.length<1099511627776)(hf:gW K S ord l):Fc Tryz.prog 144 #[ptr kp,.int .i64 (l:Int)] C (fun r C'=>
   r=.tuple #[.agg #[.int .i64 (l:Int),.int .i64 ((bC K S ord:Nat):Int),.int .i64 ((bC K S (eG ord l):Nat):Int)],.int .i64 0]∧At kp K S (eG ord l) (tr++[l]) C'):=by
 intro g
 refine uL (R:=aF _) ?_
 unfold L144
 intro b1 _
 refine ag.rd (.cons .here) (cM h) ?_
 rintro v rfl
 refine Build.mk (cs:=[.int .i64 (l:Int),.int .i64 ((bC K S ord:Nat):Int),.int .i64 0]) (by kernel_rfl) ?_
 intro b6 _
 refine St.whole (r:=[.int .i64 (l:Int),.int .i64 ((bC K S ord:Nat):Int),.int .i64 0]) (by exact .head _) rfl rfl (by simp[Value.oneCell']) ?_
 refine ag.fn (.cons (.cons .here)) (sI h hl ig hf) ?_
 rintro v C' ⟨rfl,h'⟩
 refine ae.dX (Br.cq (by simp) ?_)
 refine ag.rd (.cons (.cons .here)) (cM h') ?_
 rintro v rfl
 refine aa.mk (St.one (by exact .head _) rfl (by simp) rfl ?_)
 refine az.whole (r:=[.int .i64 (l:Int),.int .i64 ((bC K S ord:Nat):Int),.int .i64 ((bC K S (eG ord l):Nat):Int)]) (by exact .head _) rfl ?_
 refine St.whole (r:=[.int .i64 (l:Int),.int .i64 ((bC K S ord:Nat):Int),.int .i64 ((bC K S (eG ord l):Nat):Int)]) (by exact .tail (.head _)) rfl rfl (by simp[Value.oneCell']) ?_
 refine az.whole (r:=[.int .i64 (l:Int),.int .i64 ((bC K S ord:Nat):Int),.int .i64 ((bC K S (eG ord l):Nat):Int)]) (by exact .tail _ (.head _)) rfl ?_
 exact aF.mk (.skip .tail) ⟨rfl,h'⟩
theorem T2(h:At kp K S ord tr C){l:Nat}(hl:l+1<K.n)(ig:tr.length<1099511627776)(hf:¬gW K S ord l):Rd Tryz.prog 144 #[ptr kp,.int .i64 (l:Int)] C (· =.tuple #[.agg #[.int .i64 0,.int .i64 0,.int .i64 0],.int .i64 9]):=by
 intro g
 refine uL (R:=aF _) ?_
 unfold L144
 intro b1 _
 refine ag.rd (.cons .here) (cM h) ?_
 rintro v rfl
 refine Build.mk (cs:=[.int .i64 (l:Int),.int .i64 ((bC K S ord:Nat):Int),.int .i64 0]) (by kernel_rfl) ?_
 intro b6 _
 refine St.whole (r:=[.int .i64 (l:Int),.int .i64 ((bC K S ord:Nat):Int),.int .i64 0]) (by exact .head _) rfl rfl (by simp[Value.oneCell']) ?_
 refine ag.rd (.cons (.cons .here)) (oU h hl ig hf) ?_
 rintro v rfl
 refine ae.dX (Br.gf (by simp) ?_)
 refine Build.mk (cs:=[.int .i64 0,.int .i64 0,.int .i64 0]) (by kernel_rfl) ?_
 refine St.whole (r:=[.int .i64 0,.int .i64 0,.int .i64 0]) (by exact .tail (.head _)) rfl rfl (by simp[Value.oneCell']) ?_
 refine az.whole (r:=[.int .i64 0,.int .i64 0,.int .i64 0]) (by exact .tail _ (.head _)) rfl ?_
 exact bO.mk (.skip .tail) rfl
theorem GY{path:List Nat}(h:At kp K S (aE ord path) (tr++path) C)(hp:∀l∈path,l+1<K.n){k:Nat}(hk:k≤path.length)(ig:(tr++path).length<1099511627776):Fc Tryz.prog 145 #[ptr kp,.int .i64 ((tr.length+k:Nat):Int)] C (fun r C'=>
   r=.tuple #[.int .i64 ((path.length-k:Nat):Int),.int .i64 0]∧At kp K S (aE ord (path.take k)) (tr++path.take k) C'):=by
 have hlen:=h.len
 rw[dV]at hlen
 rw[List.length_append]at ig
 intro g
 refine E9 (R:=aF _) ?_
 unfold L145
 refine ae.aJ (Br.no ?_)
 intro J2 A1
 refine ae.lss ?_
 rw[decide_eq_false (by omega)]
 refine Split.go rfl ?_
 refine ag.rd .here (kI h) ?_
 rintro v rfl
 refine ae.gtr ?_
 rw[decide_eq_false (by rw[List.length_append];omega)]
 refine aA.mk ?_
 refine JE.mk (A1 _ _ fun gs=>Br.no ?_)
 refine⟨fun vs H=>∃m,m≤path.length∧k≤m∧vs=[.int .i64 ((path.length-m:Nat):Int)]∧At kp K S (aE ord (path.take m)) (tr++path.take m) H,fun vs _=>path.length-bg vs 0,JE.mk ⟨path.length,Nat.le_refl _,hk,by simp,by simpa using h⟩,?_⟩
 rintro w H ⟨m,hm,hkm,hw,yL⟩ gs
 simp only[List.cons.injEq,and_true]at hw
 subst hw
 refine ag.rd .here (kI yL) ?_
 rintro v rfl
 refine ae.me (Br.dec (fun hlt=>?_) (fun hlt=>?_))
 ·rw[List.length_append,List.length_take]at hlt
  obtain⟨m,rfl⟩:∃m',m=m'+1:=⟨m-1,by omega⟩
  have e:path.take (m+1)=path.take m++[path[m]]:=by rw[List.take_add_one,List.getElem?_eq_getElem (by omega)];rfl
  rw[e,←List.append_assoc,dU]at yL
  refine ag.fn .here (yq yL (by simp;omega)) ?_
  rintro v C' ⟨rfl,h'⟩
  rw[pz (by rw[dV,hlen];exact hp _ (List.getElem_mem _))]at h'
  refine ae.aH (b:=1) (by simp[aB];omega) ?_
  refine ay.of (.refl _) ⟨m,by omega,by omega,by rw[show path.length-(m+1)+1=path.length-m by omega],h'⟩ ?_
  show path.length-(((path.length-(m+1)+1:Nat):Int).toNat)<path.length-(((path.length-(m+1):Nat):Int).toNat)
  omega
 ·rw[List.length_append,List.length_take]at hlt
  obtain rfl:m=k:=by omega
  exact aF.here ⟨rfl,yL⟩
end
theorem C8{w:Nat}(hw:2≤w∧w≤4):Fc Tryz.prog 14 #[.int .i64 (w:Int)] [] (fun v H=>∃s,v=.tuple #[s,.int .i64 0]∧aQ 3 .i64 s (iw (lP w)) H):=by
 intro g
 refine Kg (R:=aF _) ?_
 unfold L14
 obtain rfl|rfl|rfl:w=2∨w=3∨w=4:=by omega
 ·refine ae.jG (Br.gf rfl ?_)
  refine av.int (e:=3) (by kernel_rfl) (by kernel_rfl) (by kernel_rfl) fun bx=>?_
  exact aF.here ⟨_,rfl,aQ.made [0]⟩
 ·refine ae.jG (Br.cq (by decide) (ae.jG (Br.gf rfl ?_)))
  refine⟨aC .i64 (iw (lP 3)),3,1,.int .i64 0,by kernel_rfl,by kernel_rfl,by kernel_rfl,by decide,by kernel_rfl,fun bx _=>?_⟩
  exact aF.here ⟨_,rfl,aQ.made (iw (lP 3))⟩
 ·refine ae.jG (Br.cq (by decide) (ae.jG (Br.cq (by decide) (ae.jG (Br.gf rfl ?_)))))
  refine⟨aC .i64 (iw (lP 4)),3,1,.int .i64 0,by kernel_rfl,by kernel_rfl,by kernel_rfl,by decide,by kernel_rfl,fun bx _=>?_⟩
  exact aF.here ⟨_,rfl,aQ.made (iw (lP 4))⟩
end Go.Proofs
set_option maxRecDepth 100000
namespace Go.Proofs
open Go Go.Sx
open aZ
noncomputable instance {K:Kd}{S:Nat→aZ.Fn}{ord:List Nat}{l:Nat}:Decidable (gW K S ord l):=Nat.decLe _ _
noncomputable def rm(K:Kd)(S:Nat→aZ.Fn):Rm:=⟨K.n,bC K S,fun ord l=>decide (gW K S ord l)⟩
theorem oD{K:Kd}{S:Nat→aZ.Fn}{ord:List Nat}{l:Nat}:(rm K S).fit ord l=true↔gW K S ord l:=by
 show decide (gW K S ord l)=true↔_
 exact decide_eq_true_iff
def Box(kp b1 sb:Nat)(cs:List Nat)(B:Hp):Prop:=∃vc Cc,B=(b1,.cells #[ptr kp] 26 (0,0))::(sb,.cells #[vc] 25 (0,0))::Cc∧aQ 3 .i64 vc (iw cs) Cc
section
variable {kp b1 sb w p:Nat} {K:Kd} {S:Nat→aZ.Fn} {ord tr:List Nat} {B C:Hp}
theorem KS(hB:Box kp b1 sb (lP w) B)(h:At kp K S ord tr C)(hp:p+w≤K.n)(ig:tr.length<549755813888):
  Fc Tryz.prog 143 #[.int .i64 (p:Int),ptr b1,ptr sb] (B++C) (fun v H=>v=.int .i64 ((((rm K S).visit w p ord).2:Nat):Int)∧∃C',H=B++C'∧At kp K S (aE ord ((rm K S).visit w p ord).1) (tr++((rm K S).visit w p ord).1) C'):=by
 obtain⟨vc,Cc,rfl,hc⟩:=hB
 have hn:=h.uY
 have hlen:=h.len
 have jW:=GR w
 let m:=rm K S
 let path:=m.cI p (lP w) ord
 have qJ:path.length≤(lP w).length:=m.pW p _ _
 have XD:∀l∈path,l+1<K.n:=fun l hl=>by
  obtain⟨c,hc,rfl⟩:=m.tT p hl
  have:=yj hc;omega
 let P0:Hp→Hp:=fun X=>(b1,.cells #[ptr kp] 26 (0,0))::(sb,.cells #[vc] 25 (0,0))::(Cc++X)
 intro g
 refine Fa (R:=aF _) ?_
 unfold L143
 rw[List.cons_append,List.cons_append]
 refine DR.self ?_
 refine Ld.mk (v:=ptr kp) (by exact .head _) rfl ?_
 refine Ld.mk (v:=ptr kp) (by exact .head _) rfl ?_
 refine ag.rd (.cons (.cons (.app .here))) (kI h) ?_
 rintro v rfl
 refine⟨.refl _,?_⟩
 refine ag.rd (.cons (.cons (.app .here))) (cM h) ?_
 rintro v rfl
 refine⟨.refl _,?_⟩
 intro J8 hJ8
 have fin:∀C2,At kp K S (aE ord path) (tr++path) C2→J8 [.int .i64 ((m.keep ord path path.length:Nat):Int),.int .i64 ((path.length:Nat):Int)] (P0 C2):=fun C2 h2=>by
  refine hJ8 _ _ _ fun gs=>?_
  refine Ld.mk (v:=ptr kp) (by exact .head _) rfl ?_
  have hk:=m.xO ord path path.length
  refine ae.aH (by simp[aB];omega) ?_
  refine ag.fn (.cons (.cons (.app .here))) (GY h2 XD hk (by rw[List.length_append];omega)) ?_
  rintro v C' ⟨rfl,h3⟩
  refine Ext.mk rfl (Ext.mk rfl ?_)
  refine ae.aH (by simp[aB];omega) ?_
  exact aF.here ⟨rfl,C',by simp only[List.cons_append],h3⟩
 refine Ld.mk (v:=vc) (by exact .tail _ (.head _)) rfl ?_
 refine hc.aR ?_
 rw[an]
 refine⟨fun vs H=>∃i C2,i≤path.length∧vs=[.int .i64 ((bC K S (aE ord (path.take (m.keep ord path i))):Nat):Int),.int .i64 ((m.keep ord path i:Nat):Int),.int .i64 (i:Int),.int .i64 (i:Int)]∧H=P0 C2∧At kp K S (aE ord (path.take i)) (tr++path.take i) C2,
  fun vs _=>(lP w).length-bg vs 3,JE.mk ⟨0,C,Nat.zero_le _,rfl,rfl,by simpa[aE]using h⟩,?_⟩
 rintro jx Bf vg vI H ⟨i,C2,hi,hw,rfl,h2⟩ gs
 simp only[List.cons.injEq,and_true]at hw
 obtain⟨rfl,rfl,rfl,rfl⟩:=hw
 refine ae.dz (Br.dec (fun hlt=>?_) (fun hlt=>?_))
 rotate_left
 ·obtain rfl:i=path.length:=by omega
  rw[List.take_length]at h2
  exact JE.mk (fin C2 h2)
 intro OF Nz
 have n9:(lP w)[i]? =some (lP w)[i]:=List.getElem?_eq_getElem hlt
 have Kz:(lP w)[i]+2≤w:=yj (List.getElem_mem _)
 refine hc.ld (x:=(((lP w)[i]:Nat):Int)) (by rw[bF hlt,List.getD,n9];rfl) (cy.sub (.cons (.cons .left))) ?_
 refine Ld.mk (v:=ptr kp) (by exact .head _) rfl ?_
 refine ae.aH (by simp[aB];omega) ?_
 by_cases xX:i=path.length
 ·-- no room
  subst xX
  rw[List.take_length]at h2
  have hno:¬gW K S (aE ord path) (p+(lP w)[path.length]):=fun hf=>by
   have:=m.tU p (lP w) ord _ n9
   have h9:=oD.2 hf
   rw[show(rm K S).fit (aE ord path) (p+(lP w)[path.length])=false from this]at h9
   cases h9
  refine ag.rd (.cons (.cons (.app .here))) (T2 h2 (by omega) (by rw[List.length_append];omega) hno) ?_
  rintro v rfl
  refine Ext.mk rfl (Ext.mk rfl ?_)
  intro Y4 _
  refine St.whole (r:=[.int .i64 0,.int .i64 0,.int .i64 0]) (by exact .head _) rfl rfl (by simp[Value.oneCell']) ?_
  refine ae.dX (Br.gf (by simp) ?_)
  exact JE.of .tail (fin C2 h2)
 ·have Ci:i<path.length:=by omega
  obtain⟨e1,c',e2,hf⟩:=m.pX p (lP w) ord i Ci
  rw[n9]at e1 e2
  cases e2
  have Uw:gW K S (aE ord (path.take i)) (p+(lP w)[i]):=oD.1 hf
  have l8:path.take (i+1)=path.take i++[p+(lP w)[i]]:=by
   rw[List.take_add_one,show path[i]? =some (p+(lP w)[i])from e1];rfl
  refine ag.fn (.cons (.cons (.app .here))) (T1 h2 (by omega) (by rw[List.length_append,List.length_take];omega) Uw) ?_
  rintro v C3 ⟨rfl,h3⟩
  rw[←dU,List.append_assoc,←l8]at h3
  refine Ext.mk rfl (Ext.mk rfl ?_)
  intro Y4 _
  refine St.whole (r:=[.int .i64 ((p+(lP w)[i]:Nat):Int),.int .i64 ((bC K S (aE ord (path.take i)):Nat):Int),.int .i64 ((bC K S (eG (aE ord (path.take i)) (p+(lP w)[i])):Nat):Int)]) (by exact .head _) rfl rfl (by simp[Value.oneCell']) ?_
  refine ae.dX (Br.cq (by simp) ?_)
  refine ae.aH (b:=1) (by simp[aB];omega) ?_
  refine aa.mk (Ld.mk (v:=.int .i64 ((bC K S (eG (aE ord (path.take i)) (p+(lP w)[i])):Nat):Int)) (by exact .head _) rfl ?_)
  rw[←dU,←l8]
  refine ae.dz (Br.dec (fun dF=>?_) (fun dF=>?_))
  ·have hk:m.keep ord path (i+1)=i+1:=by rw[Rm.keep];exact if_pos dF
   refine aa.mk (Ld.mk (v:=.int .i64 ((bC K S (aE ord (path.take (i+1))):Nat):Int)) (by exact .head _) rfl ?_)
   refine JE.mk (Nz _ _ _ _ fun gs=>?_)
   refine ae.aH (b:=1) (by simp[aB];omega) ?_
   refine ay.of .tail ⟨i+1,C3,Ci,by rw[hk],rfl,h3⟩ ?_
   show(lP w).length-(((i+1:Nat):Int).toNat)<(lP w).length-(((i:Nat):Int).toNat)
   omega
  ·have hk:m.keep ord path (i+1)=m.keep ord path i:=by rw[Rm.keep];exact if_neg dF
   refine JE.mk (Nz _ _ _ _ fun gs=>?_)
   refine ae.aH (b:=1) (by simp[aB];omega) ?_
   refine ay.of .tail ⟨i+1,C3,Ci,by rw[hk],rfl,h3⟩ ?_
   show(lP w).length-(((i+1:Nat):Int).toNat)<(lP w).length-(((i:Nat):Int).toNat)
   omega
end
end Go.Proofs
namespace aZ
open aj
def Jc(m o:Nat):Fn:=fun x=>decide (x&&&m=o&&&m)
theorem uf{m o x:Nat}:Jc m o x=true↔∀i,m.testBit i=true→x.testBit i=o.testBit i:=by
 unfold Jc
 rw[decide_eq_true_iff]
 constructor
 ·intro h i hi
  have:=congrArg (fun z=>Nat.testBit z i) h
  simpa[Nat.testBit_and,hi]using this
 ·intro h
  apply Nat.eq_of_testBit_eq;intro i
  rw[Nat.testBit_and,Nat.testBit_and]
  by_cases hi:m.testBit i=true
  ·rw[h i hi]
  ·simp[hi]
def clr(m v:Nat):Nat:=if m.testBit v then m^^^2^v else m
theorem ru(m v i:Nat):(clr m v).testBit i=(m.testBit i&&decide (i≠v)):=by
 unfold clr
 split
 ·rename_i h
  rw[Nat.testBit_xor,Nat.testBit_two_pow]
  by_cases e:i=v
  ·subst e;simp[h]
  ·simp[e,Ne.symm e]
 ·rename_i h
  by_cases e:i=v
  ·subst e;simp[h]
  ·simp[e]
theorem N6{m o v:Nat}{b:Bool}:(fun x=>Jc m o (aI x v b))=if m.testBit v=true∧b≠o.testBit v then(fun _=>false)else Jc (clr m v) o:=by
 funext x
 split
 ·rename_i h
  rw[←Bool.not_eq_true,uf]
  intro h2
  have:=h2 v h.1
  rw[au,if_pos rfl]at this
  exact h.2 this
 ·rename_i h
  rw[Bool.eq_iff_iff,uf,uf]
  constructor
  ·intro h2 i hi
   rw[ru]at hi
   simp only[Bool.and_eq_true,decide_eq_true_eq]at hi
   have:=h2 i hi.1
   rwa [au,if_neg hi.2]at this
  ·intro h2 i hi
   rw[au]
   split
   ·rename_i e
    subst e
    exact Classical.byContradiction fun hne=>h ⟨hi,hne⟩
   ·rename_i e
    exact h2 i (by rw[ru];simp[hi,e])
def rest(m:Nat)(ord:List Nat):Nat→Nat
 |0=>m
 |k+1=>clr (rest m ord k) (ord.getD k 0)
section
variable {n m o:Nat} {ord:List Nat} {F:Fn→Prop}
theorem Rj(hF:∀g,F g↔m≠0∧g=Jc m o)(hm:m≠0):∀k,fs ord F k (Jc (rest m ord k) o)
 |0=>(hF _).2 ⟨hm,rfl⟩
 |k+1=>by
  refine⟨_,Rj hF hm k,o.testBit (ord.getD k 0),?_⟩
  rw[N6,if_neg (fun h=>h.2 rfl)]
  rfl
theorem getD_inj(hn:ord.Nodup){i j:Nat}(hi:i<ord.length)(hj:j<ord.length)(e:ord.getD i 0=ord.getD j 0):i=j:=by
 rw[List.getD_eq_getElem?_getD,List.getD_eq_getElem?_getD,List.getElem?_eq_getElem hi,List.getElem?_eq_getElem hj]at e
 exact(List.getElem_inj hn).1 e
theorem y6{l:Nat}(hl:l+1<ord.length):(eG ord l).Perm ord:=by
 unfold eG
 have e1:ord=ord.take l++ord.getD l 0::ord.getD (l+1) 0::ord.drop (l+2):=by
  conv=>lhs;rw[←List.take_append_drop l ord]
  congr 1
  rw[List.drop_eq_getElem_cons (by omega),List.drop_eq_getElem_cons (by omega)]
  simp[List.getD,List.getElem?_eq_getElem (show l<ord.length by omega),List.getElem?_eq_getElem hl]
 have ht:(ord.take l).length=l:=by simp;omega
 have e2:(ord.set l (ord.getD (l+1) 0)).set (l+1) (ord.getD l 0)=ord.take l++ord.getD (l+1) 0::ord.getD l 0::ord.drop (l+2):=by
  generalize hx:ord.getD l 0=x at*
  generalize hy:ord.getD (l+1) 0=y at*
  conv=>lhs;rw[e1]
  rw[List.set_append_right _ _ (by omega),ht,Nat.sub_self,List.set_cons_zero,List.set_append_right _ _ (by omega),ht,Nat.add_sub_cancel_left,List.set_cons_succ,List.set_cons_zero]
 rw[e2]
 conv=>rhs;rw[e1]
 exact List.Perm.append_left _ (List.Perm.swap _ _ _)
theorem gR:∀{path:List Nat} {ord:List Nat},(∀l∈path,l+1<ord.length)→(aE ord path).Perm ord
 | [],_,_=>.refl _
 |l::r,ord,h=>by
  show(aE (eG ord l) r).Perm ord
  have h1:=h l (by simp)
  exact(gR fun x hx=>by rw[jM];exact h x (by simp[hx])).trans (y6 h1)
end
section
variable {A B:Rm} {Q:List Nat→Prop}
structure Alike(A B:Rm)(Q:List Nat→Prop):Prop where
 n:A.n=B.n
 size:∀ord,Q ord→A.size ord=B.size ord
 fit:∀ord l,Q ord→l+1<A.n→A.fit ord l=B.fit ord l
 eG:∀ord l,Q ord→l+1<A.n→Q (eG ord l)
theorem Alike.cI(h:Alike A B Q){p:Nat}:∀{cs ord},(∀c∈cs,p+c+1<A.n)→Q ord→A.cI p cs ord=B.cI p cs ord
 | [],_,_,_=>rfl
 |c::cs,ord,hc,hq=>by
  have h1:=hc c (by simp)
  rw[Rm.cI,Rm.cI,h.fit ord _ hq h1,h.cI (fun c kQ=>hc c (by simp[kQ])) (h.eG ord _ hq h1)]
theorem Alike.aE(h:Alike A B Q):∀{path ord},(∀l∈path,l+1<A.n)→Q ord→Q (aE ord path)
 | [],_,_,hq=>hq
 |l::r,ord,hp,hq=>h.aE (path:=r) (ord:=aZ.eG ord l) (fun x hx=>hp x (by simp[hx])) (h.eG ord l hq (hp l (by simp)))
theorem Alike.keep(h:Alike A B Q){path ord:List Nat}(hp:∀l∈path,l+1<A.n)(hq:Q ord):∀i,A.keep ord path i=B.keep ord path i
 |0=>rfl
 |i+1=>by
  have q:∀j,Q (aZ.aE ord (path.take j)):=fun j=>h.aE (fun l hl=>hp l (List.mem_of_mem_take hl)) hq
  rw[Rm.keep,Rm.keep,h.keep hp hq i,h.size _ (q _),h.size _ (q _)]
theorem Alike.visit(h:Alike A B Q){w p:Nat}{ord:List Nat}(hp:p+w≤A.n)(hq:Q ord):A.visit w p ord=B.visit w p ord:=by
 have hc:∀c∈lP w,p+c+1<A.n:=fun c hc=>by have:=yj hc;omega
 have hg:=h.cI hc hq
 have hm:∀l∈B.cI p (lP w) ord,l+1<A.n:=fun l hl=>by
  obtain⟨c,kQ,rfl⟩:=B.tT p hl
  exact hc c kQ
 unfold Rm.visit
 simp only[hg,h.keep hm hq]
theorem Alike.all(h:Alike A B Q){w:Nat}{ord:List Nat}(hq:Q ord):∀i,i+w≤A.n+1→A.all w ord i=B.all w ord i∧Q (aZ.aE ord (B.all w ord i).1)
 |0,_=>⟨rfl,hq⟩
 |i+1,hi=>by
  obtain⟨h1,h2⟩:=h.all (w:=w) hq i (by omega)
  have hv:=h.visit (w:=w) (p:=i) (by omega) h2
  refine⟨by rw[Rm.all_succ,Rm.all_succ,h1,hv],?_⟩
  rw[Rm.all_succ]
  show Q (aZ.aE ord (_++_))
  rw[jc]
  exact h.aE (fun l hl=>by have:=B.Hs (w:=w) hl;omega) h2
theorem Alike.pass(h:Alike A B Q){w:Nat}{ord:List Nat}(hw:w≤A.n+1)(hq:Q ord):A.pass w ord=B.pass w ord∧Q (aZ.aE ord (B.pass w ord).1):=by
 unfold Rm.pass
 rw[←h.n]
 exact h.all hq _ (by omega)
end
def flat(n s:Nat):Rm:=⟨n,fun _=>s,fun _ _=>true⟩
def vX(n cap:Nat)(L:aj.Fs):Rm:=⟨n,fun ord=>dW n ord L n,fun ord l=>decide ((rU n ord l L).length+2≤cap)⟩
end aZ
set_option maxRecDepth 100000
namespace Go.Proofs
open Go Go.Sx
open aZ
def rep(b a s:Nat):Value:=.agg #[.int .i64 (b:Int),.int .i64 (a:Int),.int .i64 (s:Int),.bool false]
def kZ(b1 sb b a s:Nat):Array Value:=#[.func (.func 143) #[] #[ptr b1,ptr sb],.int .i64 (b:Int),.int .i64 (a:Int),.int .i64 (s:Int),.bool false]
def Pass(pp kp w b a s:Nat)(B:Hp):Prop:=∃b1 sb B',B=(pp,.cells (kZ b1 sb b a s) 125 (0,0))::B'∧Box kp b1 sb (lP w) B'
section
variable {pp kp w p bf af sw:Nat} {K:Kd} {S:Nat→aZ.Fn} {ord tr:List Nat} {B C:Hp}
theorem Ho(kp:Nat)(w:Int)(C:Hp):Rd Tryz.prog 60 #[ptr kp,.int .i64 w] C (· =.int .i64 (if w<2∨4<w then 1 else 0)):=by
 intro g
 refine JK (R:=aF _) ?_
 unfold L60
 refine ae.aJ (Br.no (ae.lss ?_))
 refine bM.or (decide (4<w)) (fun _=>ae.gtr ⟨rfl,rfl⟩) (by simp) fun gs=>?_
 rw[←Bool.decide_or]
 exact Br.dec (fun h=>bO.mk (.refl _) (by rw[if_pos h])) (fun h=>bO.mk (.refl _) (by rw[if_neg h]))
theorem Om(h:At kp K S ord tr C)(hw:2≤w∧w≤4):Fc Tryz.prog 62 #[ptr kp,.int .i64 (w:Int)] C (fun v H=>∃pp B,v=ptr pp∧H=B++C∧Pass pp kp w (bC K S ord) (bC K S ord) 0 B):=by
 intro g
 refine JI (R:=aF _) ?_
 unfold L62
 intro b1 _
 refine DR.self ?_
 refine Ld.mk (v:=ptr kp) (by exact .head _) rfl ?_
 refine Ld.mk (v:=ptr kp) (by exact .head _) rfl ?_
 refine ag.rd (.cons .here) (cM h) ?_
 rintro v rfl
 refine⟨.refl _,?_⟩
 refine ag.rd (.cons .here) (cM h) ?_
 rintro v rfl
 refine⟨.refl _,?_⟩
 refine Build.mk (cs:=[.int .i64 ((bC K S ord:Nat):Int),.int .i64 ((bC K S ord:Nat):Int),.int .i64 0,.bool false]) (by kernel_rfl) ?_
 refine Build.mk (cs:=[.nilFunc,.int .i64 ((bC K S ord:Nat):Int),.int .i64 ((bC K S ord:Nat):Int),.int .i64 0,.bool false]) (by kernel_rfl) ?_
 intro mV _
 refine⟨.tail,?_⟩
 refine ag.fn hnew (C8 hw) ?_
 rintro v Cc ⟨s,rfl,hc⟩
 obtain⟨sa,sl,sc,rfl⟩:∃a l c,s=Value.slice a l c:=by obtain⟨a,c,h⟩:=aS.len hc;exact⟨a,_,c,h⟩
 refine Ext.mk rfl (Ext.mk rfl ?_)
 intro sb _
 refine St.one (c':=#[.slice sa sl sc]) (by exact .head _) rfl (by simp) rfl ?_
 refine Nil.ptr (aa.mk (St.one (c':=kZ b1 sb (bC K S ord) (bC K S ord) 0) (by repeat (first|exact cJ.head _|apply cJ.tail|apply cJ.bI)) rfl (by simp[Value.cells]) rfl ?_))
 refine aF.mk (lT:=((mV,.cells (kZ b1 sb (bC K S ord) (bC K S ord) 0) 125 (0,0))::(b1,.cells #[ptr kp] 26 (0,0))::(sb,.cells #[.slice sa sl sc] 25 (0,0))::Cc)++C) (.perm ?_) ⟨mV,_,rfl,rfl,b1,sb,_,rfl,_,Cc,rfl,hc⟩
 refine(List.Perm.cons _ (List.perm_middle.trans (List.Perm.cons _ List.perm_middle))).trans ?_
 refine(List.Perm.swap _ _ _).trans (List.Perm.cons _ (List.Perm.swap _ _ _))
theorem YY(hB:Pass pp kp w bf af sw B)(h:At kp K S ord tr C)(hp:p+w≤K.n)(ig:tr.length<549755813888)(hs:sw<4611686018427387904):
  Fc Tryz.prog 63 #[ptr pp,ptr kp,.int .i64 (p:Int)] (B++C) (fun v H=>v=.tuple #[]∧∃B' C',H=B'++C'∧Pass pp kp w bf (bC K S (aE ord ((rm K S).visit w p ord).1)) (sw+((rm K S).visit w p ord).2) B'∧At kp K S (aE ord ((rm K S).visit w p ord).1) (tr++((rm K S).visit w p ord).1) C'):=by
 obtain⟨b1,sb,B',rfl,hb⟩:=hB
 have hv:=((rm K S).vJ w p ord).2
 intro g
 refine JH (R:=aF _) ?_
 unfold L63
 refine DR.of (R:=[(pp,.cells (kZ b1 sb bf af sw) 125 (0,0))]) (.cons .nil) ?_
 refine Nil.ptr (aa.mk (aa.mk (Ld.mk (v:=.int .i64 (sw:Int)) (by exact .head _) rfl ?_)))
 refine Nil.ptr (aa.mk (Ld.mk (v:=.func (.func 143) #[] #[ptr b1,ptr sb]) (by exact .head _) rfl ?_))
 refine fx.of rfl (by kernel_rfl) ?_
 refine ag.fn (args:=#[.int .i64 (p:Int),ptr b1,ptr sb]) (.cons .here) (KS hb h hp ig) ?_
 rintro v H ⟨rfl,C',rfl,h'⟩
 refine⟨.cons .nil,?_⟩
 refine ae.aH (by simp[aB];omega) ?_
 refine Nil.ptr (aa.mk (aa.mk (St.one (c':=kZ b1 sb bf af (sw+((rm K S).visit w p ord).2)) (by exact .head _) rfl (by simp[kZ]) rfl ?_)))
 refine ag.rd (.cons (.app .here)) (cM h') ?_
 rintro v rfl
 refine Nil.ptr (aa.mk (aa.mk (St.one (c':=kZ b1 sb bf (bC K S (aE ord ((rm K S).visit w p ord).1)) (sw+((rm K S).visit w p ord).2)) (by exact .head _) rfl (by simp[kZ]) rfl ?_)))
 exact aF.here ⟨rfl,_::B',C',rfl,⟨b1,sb,B',rfl,hb⟩,h'⟩
theorem Pr(hB:Pass pp kp w bf (bC K S ord) sw B)(h:At kp K S ord tr C)(hw:2≤w∧w≤4)(ig:tr.length<274877906944)(hs:sw<2305843009213693952):
  Fc Tryz.prog 68 #[ptr pp,ptr kp,.int .i64 (w:Int)] (B++C) (fun v H=>v=.tuple #[]∧∃B' C',H=B'++C'∧Pass pp kp w bf (bC K S (aE ord ((rm K S).pass w ord).1)) (sw+((rm K S).pass w ord).2) B'∧At kp K S (aE ord ((rm K S).pass w ord).1) (tr++((rm K S).pass w ord).1) C'):=by
 have hn:=h.uY
 intro g
 refine JG (R:=aF _) ?_
 unfold L68
 refine⟨fun vs H=>∃i B' C',i≤K.n+1-w∧vs=[.int .i64 ((i:Nat):Int)]∧H=B'++C'∧Pass pp kp w bf (bC K S (aE ord ((rm K S).all w ord i).1)) (sw+((rm K S).all w ord i).2) B'∧At kp K S (aE ord ((rm K S).all w ord i).1) (tr++((rm K S).all w ord i).1) C',
  fun vs _=>K.n+1-bg vs 0,JE.mk ⟨0,B,C,Nat.zero_le _,rfl,rfl,by simpa[Rm.all,aE]using hB,by simpa[Rm.all,aE]using h⟩,?_⟩
 rintro w5 H ⟨i,B',C',hi,hv,rfl,hp,ha⟩ gs
 simp only[List.cons.injEq,and_true]at hv
 subst hv
 have ql:=(rm K S).GZ w ord i
 refine ae.aH (by simp[aB];omega) ?_
 refine ag.rd (.app .here) (lG ha) ?_
 rintro v rfl
 refine ae.zI (Br.dec (fun hle=>?_) (fun hle=>?_))
 ·refine ag.fn .here (YY hp ha (by omega) (by rw[List.length_append];omega) (by omega)) ?_
  rintro v H ⟨rfl,B2,C2,rfl,lA,z8⟩
  rw[←jc,List.append_assoc,Nat.add_assoc]at*
  refine ae.aH (b:=1) (by simp[aB];omega) ?_
  refine ay.of (.refl _) ⟨i+1,B2,C2,by omega,rfl,rfl,by rw[Rm.all_succ];exact lA,by rw[Rm.all_succ];exact z8⟩ ?_
  show K.n+1-(((i+1:Nat):Int).toNat)<K.n+1-(((i:Nat):Int).toNat)
  omega
 ·obtain rfl:i=K.n+1-w:=by omega
  exact aF.here ⟨rfl,B',C',rfl,hp,ha⟩
end
end Go.Proofs
set_option maxRecDepth 100000
namespace Go.Proofs
open Go Go.Sx
open aZ
section
variable {pp kp w p bf af sw:Nat} {K:Kd} {S:Nat→aZ.Fn} {ord tr:List Nat} {B C:Hp}
theorem RI(h:At kp K S ord tr C)(hw:2≤w∧w≤4)(ig:tr.length<274877906944):
  Fc Tryz.prog 22 #[ptr kp,.int .i64 (w:Int)] C (fun v H=>v=.tuple #[rep (bC K S ord) (bC K S (aE ord ((rm K S).pass w ord).1)) ((rm K S).pass w ord).2,.int .i64 0]∧At kp K S (aE ord ((rm K S).pass w ord).1) (tr++((rm K S).pass w ord).1) H):=by
 have hn:=h.uY
 intro g
 refine Kb (R:=aF _) ?_
 unfold L22
 intro b1 _
 refine ag.rd (.cons .here) (Ho kp w C) ?_
 rintro v rfl
 rw[if_neg (by omega)]
 refine ae.dX (Br.cq (by decide) ?_)
 refine ag.fn (.cons .here) (Om h hw) ?_
 rintro v H ⟨pp,B,rfl,rfl,hB⟩
 refine ag.fn (.cons .here) (Pr hB h hw ig (by omega)) ?_
 rintro v H ⟨rfl,B',C',rfl,hB',h'⟩
 rw[Nat.zero_add]at hB'
 obtain⟨x1,x18,B2,rfl,hb⟩:=hB'
 refine Nil.ptr (aa.mk ?_)
 refine az.mk (vs:=#[.int .i64 ((bC K S ord:Nat):Int),.int .i64 ((bC K S (aE ord ((rm K S).pass w ord).1):Nat):Int),.int .i64 ((((rm K S).pass w ord).2:Nat):Int),.bool false]) (by exact .tail _ (.head _)) (by simp[kZ]) rfl ?_
 refine St.whole (r:=[.int .i64 ((bC K S ord:Nat):Int),.int .i64 ((bC K S (aE ord ((rm K S).pass w ord).1):Nat):Int),.int .i64 ((((rm K S).pass w ord).2:Nat):Int),.bool false]) (by exact .head _) rfl rfl (by simp[Value.oneCell']) ?_
 refine az.whole (r:=[.int .i64 ((bC K S ord:Nat):Int),.int .i64 ((bC K S (aE ord ((rm K S).pass w ord).1):Nat):Int),.int .i64 ((((rm K S).pass w ord).2:Nat):Int),.bool false]) (by exact .head _) rfl ?_
 exact aF.mk (.skip .right) ⟨rfl,h'⟩
end
end Go.Proofs
namespace aZ
def A3(i:Nat):Nat→List Nat
 |0=>[]
 |j+1=>if i≤j then j::A3 i j else []
theorem uo{i j:Nat}(h:j≤i):A3 i j=[]:=by
 cases j with
 |zero=>rfl
 |succ j=>rw[A3,if_neg (by omega)]
theorem mU{i j:Nat}(h:i≤j):A3 i (j+1)=j::A3 i j:=by rw[A3,if_pos h]
theorem GU{i l:Nat}:∀{j},l∈A3 i j→i≤l∧l<j
 |0,h=>by simp[A3]at h
 |j+1,h=>by
  by_cases e:i≤j
  ·rw[mU e]at h
   rcases List.mem_cons.1 h with rfl|h
   ·omega
   ·have:=GU h;omega
  ·rw[uo (by omega)]at h;simp at h
theorem ym(i:Nat):∀j,(A3 i j).length=j-i
 |0=>by simp[A3]
 |j+1=>by
  by_cases e:i≤j
  ·rw[mU e,List.length_cons,ym i j];omega
  ·rw[uo (by omega)];simp;omega
theorem GV{i k:Nat}:∀{j:Nat} {a:List Nat},i≤j→j<a.length→(k≤i→(aE a (A3 i j)).getD k 0=if k=i then a.getD j 0 else a.getD k 0)
 |0,a,hi,hj,hk=>by
  obtain rfl:i=0:=by omega
  obtain rfl:k=0:=by omega
  simp[A3,aE]
 |j+1,a,hi,hj,hk=>by
  by_cases e:i≤j
  ·rw[mU e]
   show(aE (eG a j) (A3 i j)).getD k 0=_
   rw[GV (j:=j) e (by rw[jM];omega) hk,eS (by omega),eS (by omega)]
   by_cases h:k=i
   ·subst h;simp
   ·rw[if_neg h,if_neg h,if_neg (by omega),if_neg (by omega)]
  ·obtain rfl:i=j+1:=by omega
   rw[uo (Nat.le_refl _)]
   show a.getD k 0=_
   split
   ·rename_i h;rw[h]
   ·rfl
def Ua(p:List Nat)(x:Nat):Nat:=p.idxOf x
def dg(p q:List Nat):Nat→List Nat
 |0=>[]
 |i+1=>dg p q i++A3 i (Ua (aE p (dg p q i)) (q.getD i 0))
def path(p q:List Nat):List Nat:=dg p q q.length
theorem L1{p:List Nat}{x:Nat}(h:x∈p):Ua p x<p.length:=List.idxOf_lt_length_iff.2 h
theorem Gk{p:List Nat}{x:Nat}(h:x∈p):p.getD (Ua p x) 0=x:=by
 have h1:=L1 h
 rw[List.getD_eq_getElem?_getD,List.getElem?_eq_getElem h1]
 show p[p.idxOf x]=x
 exact List.getElem_idxOf h1
section
variable {p q:List Nat}
theorem gT(hq:q.Nodup)(hp:p.Perm q):∀i,i≤q.length→(∀l∈dg p q i,l+1<p.length)∧(∀k,k<i→(aE p (dg p q i)).getD k 0=q.getD k 0)∧(i<q.length→i≤Ua (aE p (dg p q i)) (q.getD i 0)∧Ua (aE p (dg p q i)) (q.getD i 0)<p.length)
 |i,hi=>by
  have hlen:=hp.length_eq
  have base:(∀l∈dg p q i,l+1<p.length)∧(∀k,k<i→(aE p (dg p q i)).getD k 0=q.getD k 0):=by
   cases i with
   |zero=>exact⟨fun l hl=>by simp[dg]at hl,fun k hk=>absurd hk (Nat.not_lt_zero _)⟩
   |succ i=>
    obtain⟨h1,h2,h3⟩:=gT hq hp i (by omega)
    obtain⟨h4,h5⟩:=h3 (by omega)
    have hm:q.getD i 0∈aE p (dg p q i):=by
     have:q.getD i 0∈q:=by rw[List.getD_eq_getElem?_getD,List.getElem?_eq_getElem (show i<q.length by omega)];exact List.getElem_mem _
     exact((gR h1).trans hp).mem_iff.2 this
    refine⟨fun l hl=>?_,fun k hk=>?_⟩
    ·rcases List.mem_append.1 hl with hl|hl
     ·exact h1 l hl
     ·have:=GU hl;omega
    ·rw[dg,jc,GV h4 (by rw[dV];exact h5) (by omega)]
     split
     ·rename_i e;subst e;exact Gk hm
     ·exact h2 k (by omega)
  refine⟨base.1,base.2,fun hlt=>?_⟩
  have hm:q.getD i 0∈aE p (dg p q i):=by
   have:q.getD i 0∈q:=by rw[List.getD_eq_getElem?_getD,List.getElem?_eq_getElem hlt];exact List.getElem_mem _
   exact((gR base.1).trans hp).mem_iff.2 this
  have h5:=L1 hm
  rw[dV]at h5
  refine⟨?_,h5⟩
  refine Classical.byContradiction fun dF=>?_
  have:=base.2 _ (Nat.lt_of_not_le dF)
  rw[Gk hm]at this
  have:=getD_inj hq hlt (by omega) this
  omega
theorem sq(hq:q.Nodup)(hp:p.Perm q):aE p (path p q)=q∧∀l∈path p q,l+1<p.length:=by
 obtain⟨h1,h2,_⟩:=gT hq hp q.length (Nat.le_refl _)
 refine⟨Aq (by rw[dV];exact hp.length_eq) fun i hi=>h2 i ?_,h1⟩
 rw[dV,hp.length_eq]at hi;exact hi
theorem kg(hq:q.Nodup)(hp:p.Perm q):∀i,i≤q.length→(dg p q i).length≤i*p.length
 |0,_=>by simp[dg]
 |i+1,hi=>by
  have:=kg hq hp i (by omega)
  obtain⟨_,_,h3⟩:=gT hq hp i (by omega)
  rw[dg,List.length_append,ym,Nat.succ_mul]
  have:=(h3 (by omega)).2
  omega
end
end aZ
namespace aZ
open aj
section
variable {n l:Nat} {ord:List Nat} {F G:Fn→Prop} {f c:Fn}
theorem wB:∀l g,fs ord (fun g=>F g∨G g) l g↔fs ord F l g∨fs ord G l g
 |0,g=>Iff.rfl
 |l+1,g=>by
  constructor
  ·rintro⟨f,hf,b,rfl⟩
   rcases(wB l f).1 hf with h|h
   ·exact .inl ⟨f,h,b,rfl⟩
   ·exact .inr ⟨f,h,b,rfl⟩
  ·rintro(⟨f,hf,b,rfl⟩|⟨f,hf,b,rfl⟩)
   ·exact⟨f,(wB l f).2 (.inl hf),b,rfl⟩
   ·exact⟨f,(wB l f).2 (.inr hf),b,rfl⟩
theorem zw(g:Fn):cr n ord (fun g=>F g∨G g) g↔cr n ord F g∨cr n ord G g:=by
 constructor
 ·rintro⟨l,hl,hf,hh⟩
  rcases(wB l g).1 hf with h|h
  ·exact .inl ⟨l,hl,h,hh⟩
  ·exact .inr ⟨l,hl,h,hh⟩
 ·rintro(⟨l,hl,hf,hh⟩|⟨l,hl,hf,hh⟩)
  ·exact⟨l,hl,(wB l g).2 (.inl hf),hh⟩
  ·exact⟨l,hl,(wB l g).2 (.inr hf),hh⟩
theorem jV{v:Nat}(h:¬gQ f v)(x:Nat)(b:Bool):f (aI x v b)=f x:=by
 have h0:f (aI x v false)=f (aI x v true):=Classical.byContradiction fun hne=>h ⟨x,hne⟩
 have h1:=qx x v
 conv=>rhs;rw[←h1]
 cases b<;>cases x.testBit v<;>simp[h0]
theorem yc(hi:∀j,j<l→¬gQ f (ord.getD j 0)):∀k,k≤l→fs ord (fun g=>g=f) k f
 |0,_=>rfl
 |k+1,hk=>⟨f,yc hi k (by omega),false,funext fun x=>(jV (hi k (by omega)) x false).symm⟩
theorem yd(hi:∀j,j<l→¬gQ f (ord.getD j 0)):∀k,k≤l→∀g,fs ord (fun g=>g=f) k g→g=f
 |0,_,g,h=>h
 |k+1,hk,g,h=>by
  obtain⟨f',hf,b,rfl⟩:=h
  obtain rfl:=yd hi k (by omega) f' hf
  exact funext fun x=>jV (hi k (by omega)) x b
theorem vO(hi:∀j,j<l→¬gQ f (ord.getD j 0)){b:Bool}(hc:c=fun x=>f (aI x (ord.getD l 0) b)):
  (∀j,j<l+1→¬gQ c (ord.getD j 0))∧∀g,cr n ord (fun g=>g=c) g→cr n ord (fun g=>g=f) g:=by
 have h1:fs ord (fun g=>g=f) (l+1) c:=⟨f,yc hi l (Nat.le_refl _),b,hc⟩
 have h2:∀j,j<l+1→¬gQ c (ord.getD j 0):=fun j hj=>tW (l+1) c h1 j hj
 refine⟨h2,?_⟩
 rintro g ⟨m,hm,hf,hh⟩
 by_cases e:m<l+1
 ·obtain rfl:=yd h2 m (by omega) g hf
  exact absurd hh (h2 m e)
 ·have key:∀d g,fs ord (fun g=>g=c) (l+1+d) g→fs ord (fun g=>g=f) (l+1+d) g:=fun d=>by
   induction d with
   |zero=>intro g hg;obtain rfl:=yd h2 (l+1) (Nat.le_refl _) g hg;exact h1
   |succ d ih=>rintro g ⟨f',O9,b',rfl⟩;exact⟨f',ih f' O9,b',rfl⟩
  obtain⟨d,rfl⟩:∃d,m=l+1+d:=⟨m-(l+1),by omega⟩
  exact⟨_,hm,key d g hf,hh⟩
theorem HF(hi:∀j,j<l→¬gQ f (ord.getD j 0))(hl:l<n)(hh:gQ f (ord.getD l 0)):cr n ord (fun g=>g=f) f:=⟨l,hl,yc hi l (Nat.le_refl _),hh⟩
end
section
variable {K:Kd} {S:Nat→Fn} {ax:Nat→Nat} {ord:List Nat}
theorem Ok.below(h:Ok K S ax)(ho:Ord K.n ax ord){r l:Nat}(hr:live K.N r)(hl:l≤K.n)(hi:∀j,j<l→¬gQ (S r) (ord.getD j 0)):l≤dep K.n ax K.N r:=by
 cases e:K.N r with
 |none=>rw[cQ e];exact hl
 |some d=>
  rw[aM e]
  refine Classical.byContradiction fun hlt=>?_
  have pT:ax d.v<l:=Nat.lt_of_not_le hlt
  have:=hi _ pT
  rw[ho.of h.lv (h.mid.var e)]at this
  exact this (oN h.wf h.lv h.mid.int e)
theorem Ok.roomFor(h:Ok K S ax)(ho:Ord K.n ax ord){U:Fn→Prop}{k:Nat}(hk:pc U k)(hfit:k+2≤K.cap)(hU:∀g,cr K.n ord (K.held S) g→U g){d:Nd}
 (hlo:live K.N d.lo)(hhi:live K.N d.hi)(hne:d.lo≠d.hi)(hv:d.v<K.n)(hlt:ax d.v<dep K.n ax K.N d.lo∧ax d.v<dep K.n ax K.N d.hi)(hg:U (ite S d))(hT:K.T d=none):K.used<K.cap:=by
 have hs:=h.size ho
 have hu:=h.mid.room
 obtain⟨l1,a1,a2,a3⟩:=hs
 have UJ:ite S d∉l1:=fun hm=>by
  obtain⟨r,e,hr,he⟩:=(mC h.wf h.lv ho h.mid.int (fun r hr=>.inr (h.mid.held r hr)) h.reach (ite S d)).1 ((a3 _).2 hm)
  have hTd:¬K.N r=some d:=fun hN=>by
   have:=(h.mid.jL d r).2 ⟨hN,fun x=>x⟩
   rw[hT]at this;cases this
  apply hTd
  have MK:S r=ite S d:=he.symm
  have Xp:e.v=d.v:=by
   have e1:=h.lv.lt e.v (h.mid.var hr)
   have e2:=h.lv.lt d.v hv
   rcases Nat.lt_trichotomy (ax e.v) (ax d.v)with hh|hh|hh
   ·exfalso
    obtain⟨z,hz⟩:=oN h.wf h.lv h.mid.int hr
    rw[MK]at hz
    apply hz
    unfold ite
    have i1:=h.wf.dh h.lv h.mid.int hlo (h.mid.var hr) (by omega)
    have i2:=h.wf.dh h.lv h.mid.int hhi (h.mid.var hr) (by omega)
    have hev:d.v≠e.v:=fun qk=>by rw[qk]at hh;omega
    simp only[au,if_neg hev,i1,i2]
   ·exact h.lv.inj _ _ (h.mid.var hr) hv hh
   ·exfalso
    have hx:=h.wf.dh h.lv h.mid.int (r:=r) (.inr ⟨e,hr⟩) hv (by rw[aM hr];exact hh)
    apply hne
    refine h.wf.same h.lv h.mid.int hlo hhi fun x=>?_
    have i1:=h.wf.dh h.lv h.mid.int hlo hv hlt.1
    have i2:=h.wf.dh h.lv h.mid.int hhi hv hlt.2
    have q1:=hx x false
    have q2:=hx x true
    rw[MK]at q1 q2
    have q3:=q1.trans q2.symm
    unfold ite at q3
    simp only[au,if_true,i1,i2,Bool.false_eq_true,if_false]at q3
    exact q3
  have l9:∀(b:Bool) x,S (if b then e.hi else e.lo) x=S (if b then d.hi else d.lo) x:=fun b x=>by
   rw[←h.wf.child h.lv h.mid.int hr x b,MK,Xp]
   have i1:=h.wf.dh h.lv h.mid.int hlo hv hlt.1
   have i2:=h.wf.dh h.lv h.mid.int hhi hv hlt.2
   unfold ite
   rw[au,if_pos rfl,i1,i2]
   cases b<;>rfl
  have e1:e.lo=d.lo:=h.wf.same h.lv h.mid.int (h.mid.lo hr) hlo fun x=>l9 false x
  have e2:e.hi=d.hi:=h.wf.same h.lv h.mid.int (h.mid.hi hr) hhi fun x=>l9 true x
  have hed:∀a b:Nd,a.v=b.v→a.lo=b.lo→a.hi=b.hi→a=b:=fun a b h1 h2 h3=>by
   cases a;cases b;cases h1;cases h2;cases h3;rfl
  rw[hr,hed e d Xp e1 e2]
 obtain⟨l2,b1,b2,b3⟩:=hk
 have:=bZ (l:=ite S d::l1) (l':=l2) (List.nodup_cons.2 ⟨UJ,a1⟩) fun g US=>by
  rcases List.mem_cons.1 US with rfl|US
  ·exact(b3 _).1 hg
  ·exact(b3 _).1 (hU g ((a3 g).2 US))
 rw[List.length_cons]at this
 omega
end
end aZ
namespace aZ
open aj
section
variable {n v:Nat} {bs:List Bool} {lo hi ws:List Nat}
theorem An(x:Nat)(hx:x<2^n):bit (ik n bs) x=bs.getD x false:=by
 unfold bit ik
 have h:=pM hx
 rw[List.getD_eq_getElem?_getD,List.getElem?_map,List.getElem?_range h]
 show(eX bs (x/64) 64).testBit (x%64)=_
 rw[c9,decide_eq_true (Nat.mod_lt _ (by decide)),Bool.true_and,Nat.div_add_mod]
theorem Am(hn:n≤16)(hl:bs.length=2^n):cB n (ik n bs):=by
 refine⟨hn,by simp[ik],fun w hw=>?_⟩
 obtain⟨i,hi,rfl⟩:=List.mem_map.1 hw
 rw[List.mem_range]at hi
 have:eX bs i 64&&&ct n=eX bs i 64:=by
  apply Nat.eq_of_testBit_eq;intro j
  rw[Nat.testBit_and,fh,c9]
  by_cases h6:6≤n
  ·rw[if_pos h6]
   cases bs.getD (64*i+j) false<;>simp
  ·rw[if_neg h6]
   have M7:i=0:=by rw[sL (by omega)]at hi;omega
   subst M7
   by_cases hj:j<2^n
   ·simp[hj]
   ·have:bs.getD (64*0+j) false=false:=by
     rw[List.getD_eq_getElem?_getD,List.getElem?_eq_none (by omega)];rfl
    rw[this];simp
 rw[←this];exact Nat.and_le_right
def Uu(n v:Nat)(lo hi:List Nat):List Bool:=(List.range (2^n)).map fun x=>if x.testBit v then bit hi x else bit lo x
def Xn(n v:Nat)(lo hi:List Nat):List Nat:=ik n (Uu n v lo hi)
theorem Qy(hn:n≤16):cB n (Xn n v lo hi):=Am hn (by simp[Uu])
theorem Vh(hv:v<n):eL n (Xn n v lo hi)=fun x=>if x.testBit v then eL n hi x else eL n lo x:=by
 funext x
 unfold eL Xn
 have hx:x%2^n<2^n:=Nat.mod_lt _ (Nat.two_pow_pos n)
 rw[An _ hx,Uu,List.getD_eq_getElem?_getD,List.getElem?_map,List.getElem?_range hx]
 show(if(x%2^n).testBit v then _ else _)=_
 rw[Nat.testBit_mod_two_pow,decide_eq_true hv,Bool.true_and]
def lF(n:Nat)(b:Bool):List Bool:=List.replicate (2^n) b
def cA(n:Nat)(b:Bool):List Nat:=ik n (lF n b)
theorem oT(hn:n≤16)(b:Bool):cB n (cA n b):=Am hn (by simp[lF])
theorem gv(n:Nat)(b:Bool):eL n (cA n b)=fun _=>b:=by
 funext x
 unfold eL cA
 have hx:x%2^n<2^n:=Nat.mod_lt _ (Nat.two_pow_pos n)
 rw[An _ hx,lF,List.getD_eq_getElem?_getD,List.getElem?_replicate,if_pos hx];rfl
theorem Ai(h:∀v,v<n→¬gQ (eL n ws) v)(x:Nat):eL n ws x=eL n ws 0:=by
 have key:∀k,k≤n→eL n ws (x%2^k)=eL n ws 0:=fun k=>by
  induction k with
  |zero=>intro _;rw[show x%2^0=0 from Nat.mod_one x]
  |succ k ih=>
   intro hk
   rw[←ih (by omega)]
   have e:x%2^(k+1)=aI (x%2^k) k (x.testBit k):=by
    apply Nat.eq_of_testBit_eq;intro i
    rw[au,Nat.testBit_mod_two_pow,Nat.testBit_mod_two_pow]
    by_cases e:i=k
    ·subst e;simp
    ·rw[if_neg e]
     congr 1
     exact decide_eq_decide.2 (by omega)
   rw[e,jV (h k (by omega))]
 have:=key n (Nat.le_refl _)
 rw[←this]
 unfold eL
 rw[Nat.mod_mod]
theorem eJ(hn:n≤16)(hf:cB n ws)(b:Bool):ws=cA n b↔eL n ws=fun _=>b:=by
 constructor
 ·rintro rfl;exact gv n b
 ·intro h;exact lC hf (oT hn b) (h.trans (gv n b).symm)
theorem Y2:bit ws 0=eL n ws 0:=by unfold eL;rw[Nat.zero_mod]
theorem Vi(hn:n≤16)(hf:cB n ws)(h0:ws≠cA n false)(h1:ws≠cA n true):∃v,v<n∧aj.dep n ws v=true:=by
 refine Classical.byContradiction fun hno=>?_
 have n8:=Ai (n:=n) (ws:=ws) fun v hv hh=>hno ⟨v,hv,(iZ hf hv).1 hh⟩
 cases e:eL n ws 0 with
 |false=>exact h0 ((eJ hn hf false).2 (funext fun x=>(n8 x).trans e))
 |true=>exact h1 ((eJ hn hf true).2 (funext fun x=>(n8 x).trans e))
end
end aZ
set_option maxRecDepth 100000
namespace Go.Proofs
open Go Go.Sx
open aZ
theorem bF{ws:List Nat}{i:Nat}(h:i<ws.length):(iw ws)[i]? =some ((ws.getD i 0:Nat):Int):=by
 rw[cj (w:=ws.getD i 0)]
 rw[List.getD_eq_getElem?_getD,List.getElem?_eq_getElem h];rfl
theorem Mx{B:Hp}{v1 v2:Value}{a b:List Int}(h1:bW .i64 B v1 a)(h2:bW .i64 B v2 b)(bE:a.length<4611686018427387904):Rd Tryz.prog 191 #[v1,v2] B (· =.bool (decide (a=b))):=by
 intro g
 refine Eu (R:=aF _) ?_
 unfold L191
 refine h1.aR (h2.aR ?_)
 refine ae.pH (Br.dec (fun hne=>bO.mk (.refl _) (by rw[decide_eq_false (fun e=>hne (by rw[e]))])) (fun heq=>?_))
 have hl:a.length=b.length:=by omega
 refine⟨fun vs H=>∃i:Nat,vs=[.int .i64 (i:Int)]∧H=B∧i≤a.length∧∀j,j<i→a[j]? =b[j]?,fun vs _=>a.length-bg vs 0,JE.mk ⟨0,rfl,rfl,Nat.zero_le _,fun j hj=>absurd hj (Nat.not_lt_zero _)⟩,?_⟩
 rintro w H ⟨i,hv,rfl,hi,hq⟩ gs
 simp only[List.cons.injEq,and_true]at hv
 subst hv
 refine h1.aR (ae.dz (Br.dec (fun hlt=>?_) (fun hlt=>?_)))
 ·refine h1.ld (List.getElem?_eq_getElem hlt) (fun _ h=>h) ?_
  refine h2.ld (List.getElem?_eq_getElem (show i<b.length by omega)) (fun _ h=>h) ?_
  refine ae.dX (Br.dec (fun hne=>bO.mk (.refl _) ?_) (fun heq=>?_))
  ·rw[decide_eq_false]
   intro e;subst e;exact hne rfl
  ·refine ae.aH (b:=1) (by simp[aB];omega) ?_
   refine ay.of (.refl _) ⟨i+1,rfl,rfl,hlt,fun j hj=>?_⟩ (by show a.length-(((i+1:Nat):Int).toNat)<a.length-(((i:Nat):Int).toNat);omega)
   by_cases e:j=i
   ·subst e
    rw[List.getElem?_eq_getElem hlt,List.getElem?_eq_getElem (show j<b.length by omega),Classical.not_not.1 heq]
   ·exact hq j (by omega)
 ·refine bO.mk (.refl _) ?_
  rw[decide_eq_true]
  apply List.ext_getElem? fun j=>?_
  by_cases hj:j<i
  ·exact hq j hj
  ·rw[List.getElem?_eq_none (by omega),List.getElem?_eq_none (by omega)]
def Qw(n:Nat)(p:List Int):Prop:=p.length=n∧∀v:Nat,v<n→p.count (v:Int)=1
instance (n:Nat)(p:List Int):Decidable (Qw n p):=by unfold Qw;infer_instance
theorem P8{B:Hp}{v:Value}{p:List Int}{n:Nat}(h:bW .i64 B v p)(hn:n<4611686018427387904)(bE:p.length<4611686018427387904):Rd Tryz.prog 119 #[v,.int .i64 (n:Int)] B (· =.bool (decide (Qw n p))):=by
 intro g
 refine Fp (R:=aF _) ?_
 unfold L119
 refine h.aR ?_
 refine ae.pH (Br.dec (fun hne=>bO.mk (.refl _) (by rw[decide_eq_false (fun e=>hne e.1)])) (fun heq=>?_))
 have hl:p.length=n:=by omega
 refine⟨fun vs H=>∃i:Nat,vs=[.int .i64 (i:Int)]∧H=B∧i≤n∧∀v:Nat,v<i→p.count (v:Int)=1,fun vs _=>n-bg vs 0,JE.mk ⟨0,rfl,rfl,Nat.zero_le _,fun j hj=>absurd hj (Nat.not_lt_zero _)⟩,?_⟩
 rintro w H ⟨i,hv,rfl,hi,hq⟩ gs
 simp only[List.cons.injEq,and_true]at hv
 subst hv
 refine ae.dz (Br.dec (fun hlt=>?_) (fun hlt=>?_))
 ·refine h.aR ?_
  refine⟨fun vs H'=>∃k:Nat,vs=[.int .i64 (((p.take k).count (i:Int):Nat):Int),.int .i64 (k:Int)]∧H'=H∧k≤p.length,fun vs _=>p.length-bg vs 1,JE.mk ⟨0,rfl,rfl,Nat.zero_le _⟩,?_⟩
  rintro w1 w2 H' ⟨k,hv,rfl,hk⟩ gs
  simp only[List.cons.injEq,and_true]at hv
  obtain⟨rfl,rfl⟩:=hv
  refine ae.dz (Br.dec (fun dF=>?_) (fun dF=>?_))
  ·intro J hJ
   have jW:=List.count_le_length (a:=(i:Int)) (l:=p.take k)
   rw[List.length_take]at jW
   have fin:J [.int .i64 (((p.take (k+1)).count (i:Int):Nat):Int)] H':=hJ _ _ fun gs=>by
    refine ae.aH (b:=1) (by simp[aB];omega) ?_
    exact ay.of (.refl _) ⟨k+1,rfl,rfl,dF⟩ (by show p.length-(((k+1:Nat):Int).toNat)<p.length-(((k:Nat):Int).toNat);omega)
   rw[List.take_succ_eq_append_getElem dF,List.count_append,List.count_singleton]at fin
   refine h.ld (List.getElem?_eq_getElem dF) (fun _ h=>h) ?_
   refine ae.jG (Br.dec (fun he=>?_) (fun he=>?_))
   ·rw[he,beq_self_eq_true,if_pos rfl]at fin
    exact ae.aH (b:=1) (by simp[aB];omega) (JE.mk fin)
   ·rw[if_neg (by simpa using he),Nat.add_zero]at fin
    exact JE.mk fin
  ·obtain rfl:k=p.length:=by omega
   rw[List.take_length]
   refine ae.pH (b:=1) (Br.dec (fun hne=>bO.mk (.refl _) (by rw[decide_eq_false (fun e=>hne (e.2 i hlt))])) (fun aiV=>?_))
   refine ae.aH (b:=1) (by simp[aB];omega) ?_
   refine ay.of (.refl _) ⟨i+1,rfl,rfl,hlt,fun v hv=>?_⟩ (by show n-(((i+1:Nat):Int).toNat)<n-(((i:Nat):Int).toNat);omega)
   by_cases e:v=i
   ·subst e;omega
   ·exact hq v (by omega)
 ·obtain rfl:i=n:=by omega
  exact bO.mk (.refl _) (by rw[decide_eq_true ⟨hl,hq⟩])
theorem zV{p:List Int}{x:Int}{i:Nat}(h:x∉p.take i)(hi:i<p.length)(he:p[i]=x):p.idxOf x=i:=by
 have e:p=p.take i++p[i]::p.drop (i+1):=by
  conv=>lhs;rw[←List.take_append_drop i p]
  rw[List.drop_eq_getElem_cons hi]
 conv=>lhs;rw[e]
 rw[List.idxOf_append,if_neg h,he,List.idxOf_cons_self,List.length_take];omega
theorem zj{B:Hp}{v:Value}{p:List Int}{x:Int}(h:bW .i64 B v p)(bE:p.length<4611686018427387904):Rd Tryz.prog 188 #[v,.int .i64 x] B (· =.int .i64 (if x∈p then((p.idxOf x:Nat):Int)else-1)):=by
 intro g
 refine Ex (R:=aF _) ?_
 unfold L188
 refine h.aR ?_
 refine⟨fun vs H=>∃i:Nat,vs=[.int .i64 (i:Int)]∧H=B∧i≤p.length∧x∉p.take i,fun vs _=>p.length-bg vs 0,JE.mk ⟨0,rfl,rfl,Nat.zero_le _,by simp⟩,?_⟩
 rintro w H ⟨i,hv,rfl,hi,hq⟩ gs
 simp only[List.cons.injEq,and_true]at hv
 subst hv
 refine ae.dz (Br.dec (fun hlt=>?_) (fun hlt=>?_))
 ·refine h.ld (List.getElem?_eq_getElem hlt) (fun _ h=>h) ?_
  refine ae.jG (Br.dec (fun he=>bO.mk (.refl _) ?_) (fun he=>?_))
  ·rw[if_pos (by rw[←he];exact List.getElem_mem hlt),zV hq hlt he]
  ·refine ae.aH (b:=1) (by simp[aB];omega) ?_
   refine ay.of (.refl _) ⟨i+1,rfl,rfl,hlt,?_⟩ (by show p.length-(((i+1:Nat):Int).toNat)<p.length-(((i:Nat):Int).toNat);omega)
   rw[List.take_succ_eq_append_getElem hlt,List.mem_append,List.mem_singleton]
   rintro(h|h)
   ·exact hq h
   ·exact he h.symm
 ·refine bO.mk (.refl _) ?_
  rw[List.take_of_length_le (by omega)]at hq
  rw[if_neg hq]
def ng(p:List Int):Prop:=∀v:Nat,v<p.length→(v:Int)∈p
theorem rS{B:Hp}{v:Value}{p:List Int}(h:bW .i64 B v p)(bE:p.length<4611686018427387904):Rd Tryz.prog 235 #[v] B (fun r=>(r=.int .i64 0∧ng p∧p.length≤64)∨(r=.int .i64 13∧ng p∧64<p.length)∨(r=.int .i64 4∧¬ng p)):=by
 intro g
 refine DX (R:=aF _) ?_
 unfold L235
 refine⟨fun vs H=>∃i:Nat,vs=[.int .i64 (i:Int)]∧H=B∧i≤p.length∧∀v:Nat,v<i→(v:Int)∈p,fun vs _=>p.length-bg vs 0,JE.mk ⟨0,rfl,rfl,Nat.zero_le _,fun j hj=>absurd hj (Nat.not_lt_zero _)⟩,?_⟩
 rintro w H ⟨i,hv,rfl,hi,hq⟩ gs
 simp only[List.cons.injEq,and_true]at hv
 subst hv
 refine h.aR (ae.dz (Br.dec (fun hlt=>?_) (fun hlt=>?_)))
 ·refine ag.rd .here (zj h bE) ?_
  rintro v rfl
  by_cases hm:(i:Int)∈p
  ·rw[if_pos hm]
   refine ae.lss (Br.cq (by omega) ?_)
   refine ae.aH (b:=1) (by simp[aB];omega) ?_
   refine ay.of (.refl _) ⟨i+1,rfl,rfl,hlt,fun v hv=>?_⟩ (by show p.length-(((i+1:Nat):Int).toNat)<p.length-(((i:Nat):Int).toNat);omega)
   by_cases e:v=i
   ·subst e;exact hm
   ·exact hq v (by omega)
  ·rw[if_neg hm]
   exact ae.lss (Br.gf (by decide) (bO.mk (.refl _) (.inr (.inr ⟨rfl,fun ha=>hm (ha i hlt)⟩))))
 ·obtain rfl:i=p.length:=by omega
  refine h.aR (ae.me (b:=64) (Br.dec (fun hg=>bO.mk (.refl _) (.inr (.inl ⟨rfl,hq,hg⟩))) (fun hg=>bO.mk (.refl _) (.inl ⟨rfl,hq,by omega⟩))))
theorem nf{p:List Nat}{n:Nat}(hp:p.Perm (List.range n)):ng (iw p):=fun v hv=>by
 rw[an,hp.length_eq,List.length_range]at hv
 exact List.mem_map.2 ⟨v,hp.mem_iff.2 (List.mem_range.2 hv),rfl⟩
theorem KO{B:Hp}{v1 v2:Value}{p q:List Nat}{n:Nat}(h1:bW .i64 B v1 (iw p))(h2:bW .i64 B v2 (iw q))(hp:p.Perm (List.range n))(hq:q.Perm (List.range n))(hn:n≤64):Rd Tryz.prog 187 #[v1,v2] B (· =.int .i64 0):=by
 have e1:p.length=n:=by rw[hp.length_eq,List.length_range]
 have e2:q.length=n:=by rw[hq.length_eq,List.length_range]
 intro g
 refine Ey (R:=aF _) ?_
 unfold L187
 refine ag.rd .here (rS h1 (by rw[an];omega)) ?_
 rintro v (⟨rfl,_,_⟩|⟨_,_,hl⟩|⟨_,hno⟩)
 rotate_left
 ·rw[an]at hl;omega
 ·exact absurd (nf hp) hno
 refine ag.rd .here (rS h2 (by rw[an];omega)) ?_
 rintro v (⟨rfl,_,_⟩|⟨_,_,hl⟩|⟨_,hno⟩)
 rotate_left
 ·rw[an]at hl;omega
 ·exact absurd (nf hq) hno
 refine ae.jG ?_
 refine bM.or false (fun _=>ae.jG ⟨rfl,rfl⟩) rfl fun gs=>?_
 refine bM.or false (fun _=>?_) rfl fun gs=>Br.no ?_
 ·refine h1.aR (h2.aR (ae.pH ⟨rfl,?_⟩))
  rw[an,an,decide_eq_false (by omega)]
 ·exact ae.dX (Br.cq (by decide) (bO.mk (.refl _) rfl))
theorem Bz{B:Hp}{v:Value}{ord:List Nat}{l:Nat}(h:bW .i64 B v (iw ord))(hl:l+1<ord.length)(bE:ord.length≤1099511627776):
  Fc Tryz.prog 189 #[v,.int .i64 (l:Int)] B (fun r H=>∃N,H=N++B∧aQ 3 .i64 r (iw (eG ord l)) N):=by
 intro g
 refine Ew (R:=aF _) ?_
 unfold L189
 refine aQ.qc (C:=[]) (H:=B) (c:=fun X=>X++B) aQ.nil hnew h (by rw[an];simp;omega) (by rw[an];simp;omega) fun v' C' ho=>?_
 rw[List.nil_append]at ho
 refine DR.self ?_
 refine ae.aH (b:=1) (by simp[aB];omega) ?_
 refine ae.aH (b:=1) (by simp[aB];omega) ?_
 refine ho.ld (x:=((ord.getD (l+1) 0:Nat):Int)) (bF hl) (fun _ h=>List.mem_append_left _ h) ?_
 refine ho.ld (x:=((ord.getD l 0:Nat):Int)) (bF (by omega)) (fun _ h=>List.mem_append_left _ h) ?_
 refine ho.jD (x:=((ord.getD (l+1) 0:Nat):Int)) .left (by rw[an];omega) fun C2 nI=>?_
 refine nI.jD (x:=((ord.getD l 0:Nat):Int)) .left (by rw[List.length_set,an];omega) fun C3 yK=>?_
 refine aF.here ⟨C3,rfl,?_⟩
 have e:((iw ord).set l ((ord.getD (l+1) 0:Nat):Int)).set (l+1) ((ord.getD l 0:Nat):Int)=iw (eG ord l):=by
  unfold eG
  rw[fZ,fZ]
 rw[e]at yK
 exact yK
theorem BR{q:List Nat}{x:Nat}:(x:Int)∈iw q↔x∈q:=by
 unfold iw
 rw[List.mem_map]
 exact⟨fun⟨y,hy,e⟩=>by rw[←Int.ofNat.inj e];exact hy,fun h=>⟨x,h,rfl⟩⟩
theorem sW{B:Hp}{v:Value}{ord:List Nat}{l:Nat}(h:bW .i64 B v (iw ord))(hl:l+1<ord.length)(bE:ord.length≤1099511627776):
  Fc Tryz.prog 166 #[v,.int .i64 (l:Int)] B (fun r H=>∃N,H=N++B∧aQ 3 .i64 r (iw (eG ord l)) N):=by
 intro g
 refine EM (R:=aF _) ?_
 unfold L166
 refine aQ.qc (C:=[]) (H:=B) (c:=fun X=>X++B) aQ.nil hnew h (by rw[an];simp;omega) (by rw[an];simp;omega) fun v' C' ho=>?_
 rw[List.nil_append]at ho
 refine DR.self ?_
 refine ae.aH (b:=1) (by simp[aB];omega) ?_
 refine ae.aH (b:=1) (by simp[aB];omega) ?_
 refine ho.ld (x:=((ord.getD (l+1) 0:Nat):Int)) (bF hl) (fun _ h=>List.mem_append_left _ h) ?_
 refine ho.ld (x:=((ord.getD l 0:Nat):Int)) (bF (by omega)) (fun _ h=>List.mem_append_left _ h) ?_
 refine ho.jD (x:=((ord.getD (l+1) 0:Nat):Int)) .left (by rw[an];omega) fun C2 nI=>?_
 refine nI.jD (x:=((ord.getD l 0:Nat):Int)) .left (by rw[List.length_set,an];omega) fun C3 yK=>?_
 refine aF.here ⟨C3,rfl,?_⟩
 have e:((iw ord).set l ((ord.getD (l+1) 0:Nat):Int)).set (l+1) ((ord.getD l 0:Nat):Int)=iw (eG ord l):=by
  unfold eG
  rw[fZ,fZ]
 rw[e]at yK
 exact yK
theorem ME(q:List Nat)(x:Nat):(iw q).idxOf (x:Int)=q.idxOf x:=by
 induction q with
 |nil=>rfl
 |cons y q ih=>
  show(((y:Nat):Int)::iw q).idxOf (x:Int)=_
  rw[List.idxOf_cons,List.idxOf_cons,ih]
  have:(((y:Nat):Int)==(x:Int))=(y==x):=by
   rw[Bool.eq_iff_iff];simp[Int.natCast_inj]
  rw[this]
theorem CV{B:Hp}{v1 v2:Value}{p q:List Nat}{n:Nat}(h1:bW .i64 B v1 (iw p))(h2:bW .i64 B v2 (iw q))(hp:p.Perm (List.range n))(hq:q.Perm (List.range n))(hn:n≤64):
  Fc Tryz.prog 120 #[v1,v2] B (fun r H=>∃s C,r=.tuple #[s,.int .i64 0]∧H=C++B∧aQ 3 .i64 s (iw (path p q)) C):=by
 have e1:p.length=n:=by rw[hp.length_eq,List.length_range]
 have e2:q.length=n:=by rw[hq.length_eq,List.length_range]
 have g8:q.Nodup:=hq.nodup_iff.2 List.nodup_range
 have hpq:=hp.trans hq.symm
 intro g
 refine Fo (R:=aF _) ?_
 unfold L120
 refine ag.rd .here (KO h1 h2 hp hq hn) ?_
 rintro v rfl
 refine ae.dX (Br.cq (by decide) ?_)
 refine⟨fun vs H=>∃(i:Nat) (w8 w9:Value) (C N:Hp),vs=[w8,w9,.int .i64 (i:Int)]∧i≤n∧H=C++(N++B)∧aQ 3 .i64 w9 (iw (dg p q i)) C∧bW .i64 (N++B) w8 (iw (aE p (dg p q i))),fun vs _=>n-bg vs 2,
  JE.mk ⟨0,v1,_,[],[],rfl,Nat.zero_le _,rfl,aQ.nil,h1⟩,?_⟩
 rintro w8 w9 eo H ⟨i,u8,u9,C,N,hv,hi,rfl,ho,hw⟩ gs
 simp only[List.cons.injEq,and_true]at hv
 obtain⟨rfl,rfl,rfl⟩:=hv
 refine h2.aR ?_
 rw[an]
 refine ae.dz (Br.dec (fun hlt=>?_) (fun hlt=>?_))
 rotate_left
 ·obtain rfl:i=q.length:=by omega
  exact aF.mk (.cL .right _) ⟨w9,C,rfl,rfl,ho⟩
 have spec:=gT g8 hpq i (by omega)
 obtain⟨s1,s2,s3⟩:=spec
 obtain⟨s4,s5⟩:=s3 hlt
 have XV:=kg g8 hpq (i+1) (by omega)
 have rK:(i+1)*p.length≤64*64:=Nat.mul_le_mul (by omega) (by omega)
 refine h2.ld (n:=((q.getD i 0:Nat):Int)) (bF hlt) (fun _ h=>List.mem_append_right _ (List.mem_append_right _ h)) ?_
 have hmem:q.getD i 0∈aE p (dg p q i):=by
  have:q.getD i 0∈q:=by rw[List.getD_eq_getElem?_getD,List.getElem?_eq_getElem hlt];exact List.getElem_mem _
  exact((gR s1).trans hpq).mem_iff.2 this
 refine ag.rd (.app .here) (zj hw (by rw[an,dV];omega)) ?_
 rintro v rfl
 rw[if_pos (BR.2 hmem),ME]
 refine⟨fun vs H=>∃(j:Nat) (u8 u9:Value) (P:List Nat) (C N:Hp),vs=[u8,u9,.int .i64 (j:Int)]∧i≤j∧j<n∧P++A3 i j=dg p q (i+1)∧H=C++(N++B)∧aQ 3 .i64 u9 (iw P) C∧bW .i64 (N++B) u8 (iw (aE p P)),fun vs _=>bg vs 2,
  JE.mk ⟨Ua (aE p (dg p q i)) (q.getD i 0),w8,w9,dg p q i,C,N,rfl,s4,by omega,rfl,rfl,ho,hw⟩,?_⟩
 rintro AV jK lW H ⟨j,u8,u9,P,C2,N2,hv,hij,QO,hP,rfl,nI,mI⟩ gs
 simp only[List.cons.injEq,and_true]at hv
 obtain⟨rfl,rfl,rfl⟩:=hv
 refine ae.me (Br.dec (fun hgt=>?_) (fun hgt=>?_))
 ·obtain⟨j,rfl⟩:∃k,j=k+1:=⟨j-1,by omega⟩
  have hPl:P.length≤4096:=by
   have:=congrArg List.length hP
   rw[List.length_append]at this;omega
  refine ae.bH (b:=1) (by simp[aB];omega) (by omega) ?_
  rw[Nat.add_sub_cancel]
  refine ag.fn (.app .here) (Bz mI (by rw[dV];omega) (by rw[dV];omega)) ?_
  rintro v H ⟨N3,rfl,hv3⟩
  refine ae.bH (b:=1) (by simp[aB];omega) (by omega) ?_
  rw[Nat.add_sub_cancel]
  refine av.int (e:=3) (by kernel_rfl) (by kernel_rfl) (by kernel_rfl) fun bx=>?_
  refine nI.mW (.cons .left) (by exact .head _) (by rw[an];omega) (by rw[an];omega) fun v' C3 yK=>?_
  refine ae.bH (b:=1) (by simp[aB];omega) (by omega) ?_
  rw[Nat.add_sub_cancel]
  refine ay.of .tail ⟨j,v,v',P++[j],C3,N3++N2,rfl,by omega,by omega,?_,by rw[List.append_assoc],by rw[bT];exact yK,?_⟩ ?_
  ·rw[←hP,mU (show i≤j by omega),List.append_assoc];rfl
  ·rw[dU]
   rw[List.append_assoc]
   exact hv3.ints.mono fun _ h=>List.mem_append_left _ h
  ·simp only[bg];omega
 ·obtain rfl:j=i:=by omega
  rw[uo (Nat.le_refl _),List.append_nil]at hP
  subst hP
  refine ae.aH (b:=1) (by simp[aB];omega) ?_
  exact ay.of (.refl _) ⟨j+1,AV,jK,C2,N2,rfl,by omega,rfl,nI,mI⟩ (by simp only[bg];omega)
end Go.Proofs
set_option maxRecDepth 100000
namespace Go.Proofs
open Go Go.Sx
open aZ
theorem GN(a k:Nat):decide ((a>>>k)%2=1)=a.testBit k:=by
 cases hb:a.testBit k
 ·rw[decide_eq_false];rw[aj.sF,hb];simp
 ·rw[decide_eq_true];rw[aj.sF,hb]
theorem sk{B:Hp}{v:Value}{n x:Nat}{ws:List Nat}(ht:j5 B v ⟨n,ws⟩)(hf:aj.cB n ws)(hx:x<2^n):Rd Tryz.prog 162 #[v,.int .i64 (x:Int)] B (· =.bool (aj.bit ws x)):=by
 obtain⟨s,rfl,hw⟩:=ht
 have hn:=hf.lN
 have hp:2^n≤65536:=Nat.pow_le_pow_right (n:=2) (by decide) hn
 have hi:x/64<ws.length:=by rw[hf.len];exact aj.pM hx
 intro g
 refine ER (R:=aF _) ?_
 unfold L162
 intro b1 _
 refine aa.mk (Ld.mk (v:=s) (by exact .head _) rfl ?_)
 refine ae.vy (b:=64) (by simp[aB];omega) (by decide) ?_
 have hg:(iw ws)[x/64]? =some ((ws.getD (x/64) 0:Nat):Int):=bF hi
 refine hw.1.ld hg zS ?_
 have hlt:ws.getD (x/64) 0<18446744073709551616:=by
  rw[List.getD_eq_getElem?_getD,List.getElem?_eq_getElem hi];exact hf.lt (List.getElem_mem hi)
 refine ae.Ij (b:=64) (by decide) ?_
 refine ae.jU (by simpa[aB]using hlt) ?_
 refine ae.Ij (b:=2) (by decide) ?_
 refine ae.gz (b:=1) ?_
 rw[GN]
 exact bO.mk .tail rfl
theorem T6{F:Nat→Bool}{W i:Nat}(hi:i<W):((List.range W).map fun k=>if k<i then F k else false).set i (F i)=(List.range W).map fun k=>if k<i+1 then F k else false:=by
 apply List.ext_getElem?
 intro j
 by_cases e:i=j
 ·subst e;simp[hi]
 ·rw[List.getElem?_set_ne e]
  by_cases hj:j<W
  ·simp only[List.getElem?_map,List.getElem?_range hj,Option.map_some]
   by_cases h2:j<i
   ·rw[if_pos h2,if_pos (by omega)]
   ·rw[if_neg h2,if_neg (by omega)]
  ·rw[List.getElem?_eq_none (by simp;omega),List.getElem?_eq_none (by simp;omega)]
theorem Sa{F:Nat→Bool}{W:Nat}:List.replicate W false=(List.range W).map fun k=>if k<0 then F k else false:=by
 apply List.ext_getElem?
 intro j
 by_cases hj:j<W
 ·simp[hj]
 ·rw[List.getElem?_eq_none (by simp;omega),List.getElem?_eq_none (by simp;omega)]
theorem Sb{F:Nat→Bool}{W:Nat}:((List.range W).map fun k=>if k<W then F k else false)=(List.range W).map F:=List.map_congr_left fun k hk=>by rw[if_pos (List.mem_range.1 hk)]
theorem Jf(n:Nat)(b:Bool):lF n b=(List.range (2^n)).map fun _=>b:=by
 unfold lF
 apply List.ext_getElem?
 intro j
 by_cases hj:j<2^n
 ·simp[hj]
 ·rw[List.getElem?_eq_none (by simp;omega),List.getElem?_eq_none (by simp;omega)]
theorem p8{n:Nat}{b:Bool}(hn:n≤16)(B:Hp):Px Tryz.prog 236 #[.int .i64 (n:Int),.bool b] B (fun r H=>j5 H r ⟨n,cA n b⟩):=by
 intro g
 have hp:2^n≤65536:=Nat.pow_le_pow_right (n:=2) (by decide) hn
 refine DW (R:=aF _) ?_
 unfold L236
 intro b1 _
 refine ae.r3 (a:=1) (by simp[IntKind.bits];omega) (by rw[Nat.one_shiftLeft];simp[aB];omega) ?_
 rw[Nat.one_shiftLeft]
 refine cc.og (by omega) fun b2=>?_
 rw[Sa (F:=fun _=>b)]
 refine⟨fun vs H=>∃k:Nat,vs=[.int .i64 (k:Int)]∧k≤2^n∧H=(b1,.cells #[.int .i64 0,.slice none 0 0] 57 (0,0))::(b2,.cells (c4 ((List.range (2^n)).map fun j=>if j<k then b else false)) 4 (0,0))::B,
  fun vs _=>2^n-bg vs 0,JE.of .swap ⟨0,rfl,Nat.zero_le _,rfl⟩,?_⟩
 rintro w H ⟨k,hv,hk,rfl⟩ gs
 simp only[List.cons.injEq,and_true]at hv
 subst hv
 refine aG.mk (ae.dz (Br.dec (fun hlt=>?_) (fun hlt=>?_)))
 ·refine ah.nat hlt ?_
  refine St.og (l:=(List.range (2^n)).map fun j=>if j<k then b else false) (by exact .tail (.head _)) (by simpa using hlt) ?_
  rw[T6 (F:=fun _=>b) hlt]
  refine ae.aH (b:=1) (by simp[aB];omega) ?_
  exact ay.mk ⟨k+1,rfl,by omega,rfl⟩ (by simp[bg];omega)
 ·obtain rfl:k=2^n:=by omega
  rw[Sb (F:=fun _=>b),←Jf]
  have hlen:(lF n b).length=2^n:=by simp[lF]
  have hB:=iM.block (b:=b2) (cap:=2^n) (l:=lF n b) (T:=4) (fz:=(0,0)) (B:=(b2,.cells (c4 (lF n b)) 4 (0,0))::B) (.head _) (by omega)
  rw[hlen]at hB
  refine ag.px (.cons .here) (sC hn hB (by rw[hlen];exact iX) (by rw[hlen];exact iX)) ?_
  rintro r N ⟨s,rfl,hw⟩
  have hone:=aD hw
  refine St.whole (r:=[.int .i64 (n:Int),s]) (by exact .head _) rfl rfl (by simpa[Value.oneCell']using hone) ?_
  refine az.whole (r:=[.int .i64 (n:Int),s]) (by exact .head _) rfl ?_
  exact oV.mk (by repeat (first|exact aV.refl _|apply aV.cons|apply aV.app)) ⟨s,rfl,hw.mono zS⟩
theorem Xm{B:Hp}{v1 v2:Value}{n v:Nat}{lo hi:List Nat}(h1:j5 B v1 ⟨n,lo⟩)(f1:aj.cB n lo)(h2:j5 B v2 ⟨n,hi⟩)(f2:aj.cB n hi)(hv:v<64):
  Px Tryz.prog 237 #[.int .i64 (v:Int),v1,v2] B (fun r H=>j5 H r ⟨n,Xn n v lo hi⟩):=by
 obtain⟨s1,rfl,w1⟩:=h1
 obtain⟨s2,rfl,w2⟩:=h2
 have hn:=f1.lN
 have hp:2^n≤65536:=Nat.pow_le_pow_right (n:=2) (by decide) hn
 let F:Nat→Bool:=fun x=>if x.testBit v then aj.bit hi x else aj.bit lo x
 intro g
 refine DV (R:=aF _) ?_
 unfold L237
 intro b1 _ b3 _ b5 _
 refine aa.mk (Ld.mk (v:=.int .i64 (n:Int)) (by exact .tail _ (.tail _ (.head _))) rfl ?_)
 refine ae.r3 (a:=1) (by simp[IntKind.bits];omega) (by rw[Nat.one_shiftLeft];simp[aB];omega) ?_
 rw[Nat.one_shiftLeft]
 refine cc.og (by omega) fun b2=>?_
 rw[Sa (F:=F)]
 refine⟨fun vs H=>∃k:Nat,vs=[.int .i64 (k:Int)]∧k≤2^n∧H=(b5,.cells #[.int .i64 0,.slice none 0 0] 57 (0,0))::(b2,.cells (c4 ((List.range (2^n)).map fun j=>if j<k then F j else false)) 4 (0,0))::(b3,.cells #[.int .i64 (n:Int),s2] 57 (0,0))::(b1,.cells #[.int .i64 (n:Int),s1] 57 (0,0))::B,
  fun vs _=>2^n-bg vs 0,JE.of .swap ⟨0,rfl,Nat.zero_le _,rfl⟩,?_⟩
 rintro w H ⟨k,xQ,hk,rfl⟩ gs
 simp only[List.cons.injEq,and_true]at xQ
 subst xQ
 refine aG.mk (ae.dz (Br.dec (fun hlt=>?_) (fun hlt=>?_)))
 ·intro J hJ
  have fin:J [] ((b5,.cells #[.int .i64 0,.slice none 0 0] 57 (0,0))::(b2,.cells (c4 ((List.range (2^n)).map fun j=>if j<k+1 then F j else false)) 4 (0,0))::(b3,.cells #[.int .i64 (n:Int),s2] 57 (0,0))::(b1,.cells #[.int .i64 (n:Int),s1] 57 (0,0))::B):=hJ _ fun gs=>by
   refine ae.aH (b:=1) (by simp[aB];omega) ?_
   exact ay.mk ⟨k+1,rfl,by omega,rfl⟩ (by simp[bg];omega)
  refine ae.jU (by simp[aB];omega) (ae.Ij (b:=2) (by decide) (ae.gz (b:=1) ?_))
  rw[GN]
  refine Br.mk (fun hb'=>?_) (fun hb'=>?_)
  ·skip
   refine az.whole (r:=[.int .i64 (n:Int),s2]) (by exact .tail _ (.tail _ (.head _))) rfl ?_
   refine ag.rd (.cons (.cons (.cons (.cons .here)))) (sk (v:=.agg (List.toArray [.int .i64 (n:Int),s2])) (n:=n) (ws:=hi) ⟨s2,rfl,w2⟩ f2 hlt) ?_
   rintro r rfl
   refine ah.nat hlt ?_
   refine St.og (l:=(List.range (2^n)).map fun j=>if j<k then F j else false) (by exact .tail (.head _)) (by simpa using hlt) ?_
   have e:aj.bit hi k=F k:=by show _=if k.testBit v then _ else _;rw[if_pos hb']
   rw[e,T6 hlt]
   exact JE.mk fin
  ·skip
   refine az.whole (r:=[.int .i64 (n:Int),s1]) (by exact .tail _ (.tail _ (.tail _ (.head _)))) rfl ?_
   refine ag.rd (.cons (.cons (.cons (.cons .here)))) (sk (v:=.agg (List.toArray [.int .i64 (n:Int),s1])) (n:=n) (ws:=lo) ⟨s1,rfl,w1⟩ f1 hlt) ?_
   rintro r rfl
   refine ah.nat hlt ?_
   refine St.og (l:=(List.range (2^n)).map fun j=>if j<k then F j else false) (by exact .tail (.head _)) (by simpa using hlt) ?_
   have e:aj.bit lo k=F k:=by show _=if k.testBit v then _ else _;rw[hb'];rfl
   rw[e,T6 hlt]
   exact JE.mk fin
 ·obtain rfl:k=2^n:=by omega
  rw[Sb (F:=F)]
  have hlen:(Uu n v lo hi).length=2^n:=by simp[Uu]
  refine aa.mk (Ld.mk (v:=.int .i64 (n:Int)) (by exact .tail _ (.tail _ (.tail _ (.head _)))) rfl ?_)
  have hB:=iM.block (b:=b2) (cap:=2^n) (l:=Uu n v lo hi) (T:=4) (fz:=(0,0)) (B:=(b2,.cells (c4 (Uu n v lo hi)) 4 (0,0))::(b3,.cells #[.int .i64 (n:Int),s2] 57 (0,0))::(b1,.cells #[.int .i64 (n:Int),s1] 57 (0,0))::B) (.head _) (by omega)
  rw[hlen]at hB
  refine ag.px (.cons .here) (sC hn hB (by rw[hlen];exact iX) (by rw[hlen];exact iX)) ?_
  rintro r N ⟨s,rfl,hw⟩
  have hone:=aD hw
  refine St.whole (r:=[.int .i64 (n:Int),s]) (by exact .head _) rfl rfl (by simpa[Value.oneCell']using hone) ?_
  refine az.whole (r:=[.int .i64 (n:Int),s]) (by exact .head _) rfl ?_
  exact oV.mk (by repeat (first|exact aV.refl _|apply aV.cons|apply aV.app)) ⟨s,rfl,hw.mono zS⟩
theorem lp{B:Hp}{v:Value}{n:Nat}{ws:List Nat}(ht:j5 B v ⟨n,ws⟩)(hf:aj.cB n ws):Rd Tryz.prog 190 #[v] B (· =.bool (decide (ws=cA n false∨ws=cA n true))):=by
 obtain⟨s,rfl,hw⟩:=ht
 have hn:=hf.lN
 have hl:=fQ hf
 intro g
 refine Ev (R:=aF _) ?_
 unfold L190
 intro b1 _ J hJ
 refine DR.self ?_
 refine az.whole (r:=[.int .i64 (n:Int),s]) (by exact .head _) rfl ?_
 refine aa.mk (Ld.mk (v:=.int .i64 (n:Int)) (by exact .head _) rfl ?_)
 intro F1
 refine ag.px .here (p8 (b:=false) hn _) ?_
 rintro v N h1
 refine⟨.right,?_⟩
 intro F2
 refine ag.rd .here (kV (v1:=.agg (List.toArray [.int .i64 (n:Int),s])) (a:=⟨n,ws⟩) ⟨s,rfl,hw.mono zS⟩ h1 (by show ws.length<_;omega)) ?_
 rintro v rfl
 refine⟨.right,?_⟩
 refine Br.dec (fun he=>?_) (fun he=>?_)
 ·have he':ws=cA n false:=by injection he
  refine JE.of (.bN .tail) (hJ _ _ fun gs=>bO.mk (.refl _) ?_)
  rw[decide_eq_true (.inl he')]
 ·have he':ws≠cA n false:=fun e=>he (by rw[e])
  refine az.whole (r:=[.int .i64 (n:Int),s]) (by exact .head _) rfl ?_
  refine aa.mk (Ld.mk (v:=.int .i64 (n:Int)) (by exact .head _) rfl ?_)
  intro F3
  refine ag.px .here (p8 (b:=true) hn _) ?_
  rintro v N2 h2
  refine⟨.bN .right,?_⟩
  intro F4
  refine ag.rd .here (kV (v1:=.agg (List.toArray [.int .i64 (n:Int),s])) (a:=⟨n,ws⟩) ⟨s,rfl,hw.mono zS⟩ h2 (by show ws.length<_;omega)) ?_
  rintro v rfl
  refine⟨.bN .right,?_⟩
  refine aA.mk (JE.of (.bN (.bN .tail)) (hJ _ _ fun gs=>bO.mk (.refl _) ?_))
  by_cases h3:ws=cA n true
  ·subst h3
   rw[decide_eq_true rfl,decide_eq_true (.inr rfl)];rfl
  ·rw[decide_eq_false (fun e=>h3 (by injection e)),decide_eq_false (fun e=>e.elim he' h3)];rfl
end Go.Proofs
namespace Go.Sx
open Go
section
variable {P:Program} {g:Gh} {H C:Hp} {c:Hp→Hp}
theorem aS.LY{T:TypeId}{k j:Nat}{v x:Value}{rs:List (List Value)}(hs:aS T k v rs C)(hh:cy C H c){i:Nat}{kd:IntKind}{r:List Value}(hr:rs[i]? =some r)(hj:j<k)(h1:x.oneCell'=true){K:Hp→Prop}
 (hk:∀C',aS T k v (rs.set i (r.set j x)) C'→K (c C')):ah k v (.int kd (i:Int)) fun p=>aa j p fun q=>St 1 H q x K:=by
 obtain⟨A,B,e⟩:=hh.split
 have e2:=hh.spec.1
 rw[e]at e2
 subst e2
 have hi:=(List.getElem?_eq_some_iff.1 hr).1
 obtain⟨b',aL,rfl,rfl,aK⟩:=hs.pos (by omega)
 have hg:(rs++aL)[i]? =some r:=by rw[List.getElem?_append_left hi];exact hr
 have u5:=aK r (List.mem_append_left _ (List.mem_of_getElem? hr))
 refine ah.nat hi (aa.mk (St.cell (l:=rs++aL) (((cJ.head _).append B).bI A) aK hg hj h1 ?_))
 have e3:(rs++aL).set i (r.set j x)=rs.set i (r.set j x)++aL:=by rw[List.set_append_left _ _ hi]
 rw[e3]
 have:=hk [(b',.cells (rows (rs.set i (r.set j x)++aL)) T (0,0))] (aS.mk' (aL:=aL) (fun y hy=>?_) (by simp) (by simp))
 ·rwa [e]at this
 ·rcases List.mem_append.1 hy with hy|hy
  ·rcases List.mem_or_eq_of_mem_set hy with hy|rfl
   ·exact aK y (List.mem_append_left _ hy)
   ·simpa using u5
  ·exact aK y (List.mem_append_right _ hy)
theorem iq.app{α:Type}{p:List Value→α→Prop}{rs rs2:List (List Value)}{l l2:List α}(h:iq p rs l)(h2:iq p rs2 l2):iq p (rs++rs2) (l++l2):=by
 refine⟨by simp[h.1,h2.1],fun i r x a b=>?_⟩
 by_cases e:i<l.length
 ·rw[List.getElem?_append_left e]at b
  rw[List.getElem?_append_left (by rw[h.1];exact e)]at a
  exact h.2 i _ _ a b
 ·rw[List.getElem?_append_right (by omega)]at b
  rw[List.getElem?_append_right (by rw[h.1];omega),h.1]at a
  exact h2.2 _ _ _ a b
theorem iq.set{α:Type}{p:List Value→α→Prop}{rs:List (List Value)}{l:List α}(h:iq p rs l){i:Nat}{r:List Value}{x:α}(hx:p r x):iq p (rs.set i r) (l.set i x):=by
 refine⟨by simp[h.1],fun j r' x' a b=>?_⟩
 by_cases e:i=j
 ·subst e
  rw[List.getElem?_set_self']at a b
  cases h1:rs[i]? with
  |none=>rw[h1]at a;simp at a
  |some y=>
   cases h2:l[i]? with
   |none=>rw[h2]at b;simp at b
   |some z=>
    rw[h1]at a;rw[h2]at b
    simp at a b
    subst a;subst b;exact hx
 ·rw[List.getElem?_set_ne e]at a b
  exact h.2 j _ _ a b
theorem fK.qc{T:TypeId}{v x:Value}{ts WS:List Tb}{B0:Hp}(h:fK T v ts C B0)(hh:cy C H c)(hx:cT B0 x WS)(hs:∀y∈B0,y∈H)
 (hl:ts.length+WS.length≤4398046511103){K:Value→Hp→Prop}(hk:∀v' C',fK T v' (ts++WS) C' B0→K v' (c C')):App P T 2 32 (.agg #[.int .i64 0,.slice Option.none 0 0]) H v x K:=by
 obtain⟨A,B,e⟩:=hh.split
 have e2:=hh.spec.1
 rw[e]at e2
 subst e2
 obtain⟨rs,h1,h2⟩:=h
 obtain⟨rs2,g1,g2⟩:=hx
 obtain⟨a,cap,rfl,hc⟩:=Sl.cells (g1.mono hs)
 have l1:=h2.1
 have l2:=g2.1
 refine aS.apps h1 hc g1.1 (fun r hr u hu=>?_) ⟨[.int .i64 0,.slice Option.none 0 0],rfl,rfl⟩ (by omega) (by omega) fun v' C' ho=>by have:=hk v' C' ⟨_,ho,h2.app g2⟩;rwa [e]at this
 obtain⟨i,hi,he⟩:=List.getElem_of_mem hr
 have hlt:i<WS.length:=by omega
 obtain⟨s,h3,hw⟩:=g2.2 i r WS[i] (by rw[List.getElem?_eq_getElem hi,he]) (List.getElem?_eq_getElem hlt)
 subst h3
 simp only[List.mem_cons,List.not_mem_nil,or_false]at hu
 rcases hu with rfl|rfl
 ·rfl
 ·obtain⟨a,c,rfl,_⟩:=hw.1.shape;rfl
end
end Go.Sx
set_option maxRecDepth 100000
namespace Go.Proofs
open Go Go.Sx
open aZ
def Wu(n:Nat)(B:Hp)(v:Value)(LL:List aj.Fs):Prop:=∃rs,Sl 1 B v rs∧iq (fun r L=>∃x,r=[x]∧cT B x (gy n L)) rs LL
theorem Wu.aR{n:Nat}{B:Hp}{v:Value}{LL:List aj.Fs}(h:Wu n B v LL){K:Value→Prop}(hk:K (.int .i64 LL.length)):aG v K:=by
 obtain⟨rs,h1,h2⟩:=h;refine h1.aR ?_;rw[h2.1];exact hk
theorem Wu.ld{n:Nat}{B H:Hp}{v:Value}{LL:List aj.Fs}{kd:IntKind}(h:Wu n B v LL){i:Nat}{L:aj.Fs}(hi:LL[i]? =some L)(hs:∀x∈B,x∈H){K:Value→Prop}(hk:∀x,cT B x (gy n L)→K x):ah 1 v (.int kd (i:Int)) (fun p=>Ld H p K):=by
 obtain⟨rs,h1,h2⟩:=h
 obtain⟨r,hr,x,rfl,hx⟩:=h2.get hi
 exact ah.sl h1 hr fun p hp=>Ld.at hp hs (hk x hx)
section
variable {n:Nat} {ord:List Nat} {L:aj.Fs}
theorem GO:∀k,(cur n ord L k).length≤2^k*L.length
 |0=>by rw[cur,Nat.pow_zero,Nat.one_mul];exact qt L
 |k+1=>by
  have h1:=Af n (ord.getD k 0) (cur n ord L k)
  have h2:=GO k
  rw[cur,Nat.pow_succ,Nat.mul_comm (2^k) 2,Nat.mul_assoc]
  omega
theorem Av(hn:n≤16){k:Nat}(hk:k≤n):(cur n ord L k).length≤65536*L.length:=
 Nat.le_trans (GO k) (Nat.mul_le_mul_right _ (Nat.pow_le_pow_right (n:=2) (by decide) (Nat.le_trans hk hn)))
theorem nG(hn:n≤16){k:Nat}(hk:k≤n):(oO n ord L k).length≤65536*L.length:=
 Nat.le_trans (List.length_filter_le _ _) (Av hn hk)
theorem pA(hn:n≤16):∀k,k≤n→dW n ord L k≤k*(65536*L.length)
 |0,_=>by simp[dW]
 |k+1,hk=>by
  have h1:=pA hn k (by omega)
  have h2:=nG (ord:=ord) (L:=L) hn (k:=k) (by omega)
  rw[dW,Nat.succ_mul];omega
def iI(n:Nat)(ord:List Nat)(L:aj.Fs)(k:Nat):List aj.Fs:=(List.range k).map (oO n ord L)
theorem qE{k m:Nat}(h:m<k):(iI n ord L k)[m]? =some (oO n ord L m):=by unfold iI;rw[List.getElem?_map,List.getElem?_range h];rfl
theorem qF{B:Hp}{v o:Value}(hL:cT B v (gy n L))(ho:bW .i64 B o (iw ord))(hlen:ord.length=n)(hlt:∀i,i<n→ord.getD i 0<n)(hf:∀t∈L,aj.cB n t)(hn:n≤16)(bE:L.length≤2097152):
  Px Tryz.prog 227 #[v,o] B (fun r H=>Wu n H r (iI n ord L n)):=by
 intro g
 refine D4 (R:=aF _) ?_
 unfold L227
 refine ag.px .here (td hL hf (by omega)) ?_
 rintro v1 N0 AZ
 refine ho.aR ?_
 rw[an,hlen]
 refine⟨fun vs H=>∃(k:Nat) (w8 w9:Value) (rs:List (List Value)) (C N:Hp),vs=[w8,w9,.int .i64 (k:Int)]∧k≤n∧H=C++(N++B)∧aS 28 1 w8 rs C∧iq (fun r L=>∃x,r=[x]∧cT (N++B) x (gy n L)) rs (iI n ord L k)∧cT (N++B) w9 (gy n (cur n ord L k)),
  fun vs _=>n-bg vs 2,JE.mk ⟨0,_,v1,[],[],N0,rfl,Nat.zero_le _,rfl,aS.nil _ _,iq.nil,AZ⟩,?_⟩
 rintro w8 w9 eo H ⟨k,u8,u9,rs,C,N,hv,hk,rfl,hC,hE,hc⟩ gs
 simp only[List.cons.injEq,and_true]at hv
 obtain⟨rfl,rfl,rfl⟩:=hv
 refine ae.dz (Br.dec (fun dF=>?_) (fun dF=>?_))
 rotate_left
 ·obtain rfl:k=n:=by omega
  refine oV.mk (.app (.app (.refl _))) ⟨rs,(Sl.rE hC (by decide)).mono fun _ h=>List.mem_append_left _ h,hE.mono fun r L ⟨x,e,h⟩=>⟨x,e,h.mono fun _ h=>List.mem_append_right _ h⟩⟩
 have jW:=Av (ord:=ord) (L:=L) hn hk
 have SO:=nM (ord:=ord) hf hn k
 refine ho.ld (n:=((ord.getD k 0:Nat):Int)) (bF (by omega)) (fun _ h=>List.mem_append_right _ (List.mem_append_right _ h)) ?_
 refine ag.px (.app .here) (HT hc SO (hlt k dF) (by omega)) ?_
 rintro v2 N2 So
 obtain⟨sa,sc,rfl⟩:∃a c,v2=Value.slice a (gy n (oO n ord L k)).length c:=by obtain⟨rs,h1,h2⟩:=So;obtain⟨a,c,h,_⟩:=h1.shape;have:=h2.1;rw[this]at h;exact⟨a,c,h⟩
 refine av.cell (e:=28) (z:=.slice none 0 0) (by kernel_rfl) (by kernel_rfl) (by kernel_rfl) rfl fun bx=>?_
 have u5:=hE.1
 have A0:(iI n ord L k).length=k:=by simp[iI]
 refine hC.mW (r:=[.slice sa (gy n (oO n ord L k)).length sc]) (.cons .left) (by exact .head _) rfl (by simp[Value.oneCell']) ⟨[.slice none 0 0],rfl,rfl⟩ (by omega) (by omega) fun v' C3 hC3=>?_
 refine ag.px (B:=N2++(N++B)) (.cons (.app .here)) (HU (hc.mono fun _ h=>List.mem_append_right _ h) SO hn (hlt k dF) (by omega)) ?_
 rintro v3 N3 hv3
 refine ae.aH (b:=1) (by simp[aB];omega) ?_
 refine ay.of .tail ⟨k+1,v',v3,_,C3,N3++(N2++N),rfl,by omega,by simp only[List.append_assoc],hC3,?_,?_⟩ (by simp only[bg];omega)
 ·have e:iI n ord L (k+1)=iI n ord L k++[oO n ord L k]:=by unfold iI;rw[List.range_succ,List.map_append];rfl
  rw[e]
  simp only[List.append_assoc]
  exact(hE.mono fun r L ⟨x,e,h⟩=>⟨x,e,h.mono zS⟩).snoc ⟨_,rfl,So.mono zS⟩
 ·simp only[List.append_assoc];exact hv3
theorem LO{B:Hp}{v o:Value}(hL:cT B v (gy n L))(ho:bW .i64 B o (iw ord))(hlen:ord.length=n)(hlt:∀i,i<n→ord.getD i 0<n)(hf:∀t∈L,aj.cB n t)(hn:n≤16)(bE:L.length≤2097152):
  Rd Tryz.prog 229 #[v,o] B (· =.int .i64 ((dW n ord L n:Nat):Int)):=by
 intro g
 refine D2 (R:=aF _) ?_
 unfold L229
 refine ag.px .here (qF hL ho hlen hlt hf hn bE) ?_
 rintro v1 N AZ
 refine AZ.aR ?_
 rw[show(iI n ord L n).length=n by simp[iI]]
 refine⟨fun vs H=>∃k:Nat,vs=[.int .i64 ((dW n ord L k:Nat):Int),.int .i64 (k:Int)]∧k≤n∧H=N++B,fun vs _=>n-bg vs 1,JE.mk ⟨0,rfl,Nat.zero_le _,rfl⟩,?_⟩
 rintro w8 w9 H ⟨k,hv,hk,rfl⟩ gs
 simp only[List.cons.injEq,and_true]at hv
 obtain⟨rfl,rfl⟩:=hv
 refine ae.dz (Br.dec (fun dF=>?_) (fun dF=>?_))
 ·refine AZ.ld (qE dF) (fun _ h=>h) fun x hx=>?_
  refine hx.aR ?_
  rw[aW]
  have h1:=nG (ord:=ord) (L:=L) hn hk
  have h2:=pA (ord:=ord) (L:=L) hn k hk
  have h3:k*(65536*L.length)≤16*(65536*2097152):=Nat.mul_le_mul (by omega) (Nat.mul_le_mul_left _ bE)
  refine ae.aH (by simp[aB];omega) ?_
  refine ae.aH (b:=1) (by simp[aB];omega) ?_
  exact ay.of (.refl _) ⟨k+1,by rw[dW],by omega,rfl⟩ (by simp only[bg];omega)
 ·obtain rfl:k=n:=by omega
  exact bO.mk .right rfl
end
structure Md where
 n:Nat
 cap:Nat
 ord:List Nat
 held:List (List Nat×Nat)
 tr:List Nat
def Md.cw(M:Md):aj.Fs:=M.held.map Prod.fst
structure Md.oZ(M:Md):Prop where
 lN:M.n≤16
 cap:M.cap≤1048576
 len:M.ord.length=M.n
 lt:∀i,i<M.n→M.ord.getD i 0<M.n
 kR:∀t∈M.cw,aj.cB M.n t
 IU:M.held.length≤65536
 cnt:∀e∈M.held,e.2≤65535
 ZW:M.tr.length≤1099511627776
theorem Md.df(M:Md):M.cw.length=M.held.length:=by simp[Md.cw]
def OK(n:Nat)(B:Hp)(r:List Value)(e:List Nat×Nat):Prop:=∃s,r=[.int .i64 (n:Int),s,.int .i64 ((e.2:Nat):Int)]∧Words B s e.1
theorem OK.mono{n:Nat}{B B':Hp}{r:List Value}{e:List Nat×Nat}(h:OK n B r e)(hs:∀x∈B,x∈B'):OK n B' r e:=let ⟨s,h1,h2⟩:=h;⟨s,h1,h2.mono hs⟩
def fB(M:Md)(vo vh vt:Value):Array Value:=#[.int .i64 (M.n:Int),.int .i64 (M.cap:Int),vo,vh,vt]
structure MdR(mp:Nat)(M:Md)(B:Hp)(vo vh vt:Value)(rs:List (List Value)):Prop where
 GS:(mp,Obj.cells (fB M vo vh vt) 74 (0,0))∈B
 ord:bW .i64 B vo (iw M.ord)
 sl:Sl 3 B vh rs
 each:iq (OK M.n B) rs M.held
 tr:bW .i64 B vt (iw M.tr)
def Dk(mp:Nat)(M:Md)(B:Hp):Prop:=∃vo vh vt rs,MdR mp M B vo vh vt rs
theorem Dk.mono{mp:Nat}{M:Md}{B B':Hp}(h:Dk mp M B)(hs:∀x∈B,x∈B'):Dk mp M B':=by
 obtain⟨vo,vh,vt,rs,h⟩:=h
 exact⟨vo,vh,vt,rs,hs _ h.GS,h.ord.mono hs,h.sl.mono hs,h.each.mono fun _ _ h=>h.mono hs,h.tr.mono hs⟩
structure MdO(mp:Nat)(M:Md)(X:Hp)(vo vh vt:Value)(rs:List (List Value))(CO CH CT:Hp):Prop where
 ord:aQ 3 .i64 vo (iw M.ord) CO
 sl:aS 241 3 vh rs CH
 each:iq (OK M.n X) rs M.held
 tr:aQ 3 .i64 vt (iw M.tr) CT
def lI(mp:Nat)(M:Md)(X H:Hp):Prop:=∃vo vh vt rs CO CH CT,H=(mp,.cells (fB M vo vh vt) 74 (0,0))::(CO++(CH++(CT++X)))∧MdO mp M X vo vh vt rs CO CH CT
theorem lI.rd{mp:Nat}{M:Md}{X H:Hp}(h:lI mp M X H):Dk mp M H:=by
 obtain⟨vo,vh,vt,rs,CO,CH,CT,rfl,hO⟩:=h
 exact⟨vo,vh,vt,rs,.head _,hO.ord.ints.mono fun _ h=>.tail _ (List.mem_append_left _ h),(Sl.rE hO.sl (by decide)).mono fun _ h=>.tail _ (List.mem_append_right _ (List.mem_append_left _ h)),
  hO.each.mono fun _ _ h=>h.mono fun _ h=>.tail _ (List.mem_append_right _ (List.mem_append_right _ (List.mem_append_right _ h))),hO.tr.ints.mono fun _ h=>.tail _ (List.mem_append_right _ (List.mem_append_right _ (List.mem_append_left _ h)))⟩
theorem lI.sub{mp:Nat}{M:Md}{X H:Hp}(h:lI mp M X H):∀x∈X,x∈H:=by
 obtain⟨vo,vh,vt,rs,CO,CH,CT,rfl,hO⟩:=h
 exact fun _ h=>.tail _ (List.mem_append_right _ (List.mem_append_right _ (List.mem_append_right _ h)))
section
variable {mp:Nat} {M:Md} {B:Hp}
theorem nr(h:Dk mp M B)(hM:M.oZ):Px Tryz.prog 88 #[ptr mp] B (fun r H=>cT H r (gy M.n M.cw)):=by
 obtain⟨vo,vh,vt,rs,hR⟩:=h
 have Cq:=hM.IU
 have u5:=hR.each.1
 intro g
 refine Jv (R:=aF _) ?_
 unfold L88
 refine Nil.ptr (aa.mk (Ld.mk (v:=vh) hR.GS rfl ?_))
 refine hR.sl.aR ?_
 rw[u5]
 refine⟨fun vs H=>∃(k:Nat) (w:Value) (C:Hp),vs=[w,.int .i64 (k:Int)]∧k≤M.held.length∧H=C++B∧fK 57 w (gy M.n (M.cw.take k)) C B,fun vs _=>M.held.length-bg vs 1,JE.mk ⟨0,_,[],rfl,Nat.zero_le _,rfl,fK.nil⟩,?_⟩
 rintro w9 eo H ⟨k,w,C,hv,hk,rfl,hC⟩ gs
 simp only[List.cons.injEq,and_true]at hv
 obtain⟨rfl,rfl⟩:=hv
 refine ae.dz (Br.dec (fun hlt=>?_) (fun hlt=>?_))
 ·obtain⟨r,hr,s,rfl,hw⟩:=hR.each.get (List.getElem?_eq_getElem hlt)
  have hone:=aD hw
  refine ah.sl hR.sl hr fun p hp=>az.at hp rfl (by decide) (fun _ h=>List.mem_append_right _ h) ?_
  intro Pf _
  refine St.whole (r:=[.int .i64 (M.n:Int),s,.int .i64 ((M.held[k].2:Nat):Int)]) (by exact .head _) rfl rfl (by simpa[Value.oneCell']using hone) ?_
  refine aa.mk (az.mk (vs:=#[.int .i64 (M.n:Int),s]) (by exact .head _) (by simp) rfl ?_)
  refine eC fun xb=>?_
  have ht:M.cw[k]'(by rw[M.df];exact hlt)=M.held[k].1:=by simp[Md.cw]
  refine hC.app (A:=[_,_]) (t:=⟨M.n,M.held[k].1⟩) (s:=s) (by exact .head _) hw (by rw[aW,List.length_take];omega) fun v' C' bX=>?_
  rw[j9]at bX
  refine ae.aH (b:=1) (by simp[aB];omega) ?_
  refine ay.of (.skip .tail) ⟨k+1,v',C',rfl,hlt,rfl,?_⟩ (by simp only[bg];omega)
  rw[List.take_succ_eq_append_getElem (by rw[M.df];exact hlt),ht]
  exact bX
 ·obtain rfl:k=M.held.length:=by omega
  rw[←M.df,List.take_length]at hC
  exact oV.mk (.app (.refl _)) (hC.xy (fun _ h=>List.mem_append_left _ h) (fun _ h=>List.mem_append_right _ h))
theorem zA(h:Dk mp M B)(hM:M.oZ){v:Value}{L:aj.Fs}(hL:cT B v (gy M.n L))(hf:∀t∈L,aj.cB M.n t)(bE:L.length≤2097152):Rd Tryz.prog 167 #[ptr mp,v] B (· =.int .i64 ((dW M.n M.ord L M.n:Nat):Int)):=by
 obtain⟨vo,vh,vt,rs,hR⟩:=h
 intro g
 refine EL (R:=aF _) ?_
 unfold L167
 refine Nil.ptr (aa.mk (Ld.mk (v:=vo) hR.GS rfl ?_))
 refine ag.rd .here (LO hL hR.ord hM.len hM.lt hf hM.lN bE) ?_
 rintro v rfl
 exact bO.mk (.refl _) rfl
theorem Mg(h:Dk mp M B)(hM:M.oZ):Rd Tryz.prog 87 #[ptr mp] B (· =.int .i64 ((dW M.n M.ord M.cw M.n:Nat):Int)):=by
 have Cq:=hM.IU
 intro g
 refine Jw (R:=aF _) ?_
 unfold L87
 refine ag.px .here (nr h hM) ?_
 rintro v N hv
 refine ag.rd .here (zA (h.mono fun _ h=>List.mem_append_right _ h) hM hv hM.kR (by rw[M.df];omega)) ?_
 rintro v rfl
 exact bO.mk .right rfl
theorem Mh(h:Dk mp M B)(hM:M.oZ){v:Value}{L:aj.Fs}(hL:cT B v (gy M.n L))(hf:∀t∈L,aj.cB M.n t)(bE:L.length≤1048576):Rd Tryz.prog 122 #[ptr mp,v] B (· =.bool (decide (2+dW M.n M.ord (M.cw++L) M.n≤M.cap))):=by
 have Cq:=hM.IU
 have hcap:=hM.cap
 have hn:=hM.lN
 have htl:=M.df
 intro g
 refine Fm (R:=aF _) ?_
 unfold L122
 refine ag.px .here (nr h hM) ?_
 rintro v1 N AZ
 refine fK.qc (C:=[]) (c:=fun X=>X++(N++B)) (B0:=N++B) fK.nil hnew AZ (fun _ h=>h) (by rw[aW];simp;omega) fun v2 C2 nI=>?_
 refine fK.qc nI .left (hL.mono fun _ h=>List.mem_append_right _ h) (fun _ h=>List.mem_append_right _ h) (by rw[List.nil_append,aW,aW];omega) fun v3 C3 yK=>?_
 have e:[]++gy M.n M.cw++gy M.n L=gy M.n (M.cw++L):=by simp[gy]
 rw[e]at yK
 have h':=h.mono (B':=C3++(N++B)) fun _ h=>List.mem_append_right _ (List.mem_append_right _ h)
 have hff:∀t∈M.cw++L,aj.cB M.n t:=fun t ht=>by
  rcases List.mem_append.1 ht with ht|ht
  ·exact hM.kR t ht
  ·exact hf t ht
 refine DR.self ?_
 obtain⟨vo,vh,vt,rs,hR⟩:=h'
 refine Nil.ptr (aa.mk (Ld.mk (v:=.int .i64 (M.cap:Int)) hR.GS rfl ?_))
 refine ag.rd .here (zA ⟨vo,vh,vt,rs,hR⟩ hM (yK.xy (fun _ h=>List.mem_append_left _ h) (fun _ h=>List.mem_append_right _ h)) hff (by rw[List.length_append];omega)) ?_
 rintro v rfl
 have h2:=pA (ord:=M.ord) (L:=M.cw++L) hn M.n (Nat.le_refl _)
 rw[List.length_append]at h2
 have h3:M.n*(65536*(M.cw.length+L.length))≤16*(65536*2097152):=Nat.mul_le_mul hn (Nat.mul_le_mul_left _ (by omega))
 refine⟨.refl _,?_⟩
 refine ae.aH (a:=2) (by simp[aB];omega) ?_
 refine ae.zI ?_
 exact bO.mk (.bN .right) rfl
end
end Go.Proofs
set_option maxRecDepth 100000
namespace Go.Proofs
open Go Go.Sx
open aZ
section
variable {mp:Nat} {M:Md} {B:Hp}
theorem BP(h:Dk mp M B)(hM:M.oZ):Px Tryz.prog 172 #[ptr mp] B (fun r H=>Wu M.n H r (iI M.n M.ord M.cw M.n)):=by
 have Cq:=hM.IU
 intro g
 refine EJ (R:=aF _) ?_
 unfold L172
 obtain⟨vo,vh,vt,rs,hR⟩:=h
 refine DR.self ?_
 refine Nil.ptr (aa.mk (Ld.mk (v:=vo) hR.GS rfl ?_))
 refine ag.px .here (nr ⟨vo,vh,vt,rs,hR⟩ hM) ?_
 rintro v N hv
 refine⟨.right,?_⟩
 refine ag.px .here (qF hv (hR.ord.mono fun _ h=>List.mem_append_right _ h) hM.len hM.lt hM.kR hM.lN (by rw[M.df];omega)) ?_
 rintro v2 N2 So
 exact oV.mk (.app (.app (.refl _))) So
theorem qd{n:Nat}{ord:List Nat}{L:aj.Fs}(hn:n≤16)(hL:L.length≤1048576){k:Nat}(hk:k≤n):(iU n ord L k).length≤1099511627776:=by
 rw[m0]
 have h2:=pA (ord:=ord) (L:=L) hn k hk
 have h3:k*(65536*L.length)≤16*(65536*1048576):=Nat.mul_le_mul (by omega) (Nat.mul_le_mul_left _ hL)
 omega
theorem WR(h:Dk mp M B)(hM:M.oZ){l:Nat}(hl:l+1<M.n):Rd Tryz.prog 165 #[ptr mp,.int .i64 (l:Int)] B (· =.int .i64 (((rU M.n M.ord l M.cw).length:Nat):Int)):=by
 have Cq:=hM.IU
 have hn:=hM.lN
 have hlen:=hM.len
 have pT:=Ly hl hM.len hM.lt
 have htl:=M.df
 intro g
 refine EN (R:=aF _) ?_
 unfold L165
 refine ag.px .here (BP h hM) ?_
 rintro v1 N AZ
 refine AZ.aR ?_
 rw[show(iI M.n M.ord M.cw M.n).length=M.n by simp[iI]]
 refine⟨fun vs H=>∃(k:Nat) (w:Value) (C:Hp),vs=[w,.int .i64 (k:Int)]∧k≤M.n∧H=C++(N++B)∧fK 57 w (gy M.n (iU M.n M.ord M.cw k)) C (N++B),fun vs _=>M.n-bg vs 1,JE.mk ⟨0,_,[],rfl,Nat.zero_le _,rfl,fK.nil⟩,?_⟩
 rintro w8 w9 H ⟨k,w,C,hv,hk,rfl,hC⟩ gs
 simp only[List.cons.injEq,and_true]at hv
 obtain⟨rfl,rfl⟩:=hv
 refine ae.dz (Br.dec (fun dF=>?_) (fun dF=>?_))
 ·refine AZ.ld (qE dF) (fun _ h=>List.mem_append_right _ h) fun x hx=>?_
  have h1:=qd (ord:=M.ord) hn (L:=M.cw) (by omega) hk
  have h2:=nG (ord:=M.ord) (L:=M.cw) hn hk
  refine fK.qc hC .left hx (fun _ h=>List.mem_append_right _ h) (by rw[aW,aW];omega) fun v' C' ho=>?_
  refine ae.aH (b:=1) (by simp[aB];omega) ?_
  refine ay.of (.refl _) ⟨k+1,v',C',rfl,dF,rfl,?_⟩ (by simp only[bg];omega)
  have e:gy M.n (iU M.n M.ord M.cw k)++gy M.n (oO M.n M.ord M.cw k)=gy M.n (iU M.n M.ord M.cw (k+1)):=by rw[iU];simp[gy]
  rw[←e];exact ho
 ·obtain rfl:k=M.n:=by omega
  have h':=h.mono (B':=N++B) fun _ h=>List.mem_append_right _ h
  refine DR.self ?_
  obtain⟨vo,vh,vt,rs,hR⟩:=h'
  refine Nil.ptr (aa.mk (Ld.mk (v:=vo) (List.mem_append_right _ hR.GS) rfl ?_))
  refine ag.px (.app .here) (nr ⟨vo,vh,vt,rs,hR⟩ hM) ?_
  rintro v2 N2 So
  refine⟨.cL .right _,?_⟩
  refine ag.fn (.app .here) (sW (hR.ord.mono fun _ h=>List.mem_append_right _ h) (by omega) (by omega)) ?_
  rintro v3 H ⟨N3,rfl,yK⟩
  refine⟨.cL (.bN .right) _,?_⟩
  refine ag.px (.app .here) (qF (So.mono fun _ h=>List.mem_append_right _ h) (yK.ints.mono fun _ h=>List.mem_append_left _ h) (by rw[jM];exact hlen) pT hM.kR hn (by omega)) ?_
  rintro v4 N4 hv4
  refine⟨.cL (.bN (.bN .right)) _,?_⟩
  refine hv4.aR ?_
  rw[show(iI M.n (eG M.ord l) M.cw M.n).length=M.n by simp[iI]]
  refine⟨fun vs H=>∃(k:Nat) (w:Value) (C:Hp),vs=[w,.int .i64 (k:Int)]∧k≤M.n∧H=C++(N4++(N3++(N2++(N++B))))∧fK 57 w (gy M.n (iU M.n M.ord M.cw M.n++iU M.n (eG M.ord l) M.cw k)) C (N4++(N3++(N2++(N++B)))),
   fun vs _=>M.n-bg vs 1,JE.mk ⟨0,w8,C,rfl,Nat.zero_le _,rfl,by rw[iU,List.append_nil];exact hC.mono zS⟩,?_⟩
  rintro FY yE H ⟨k,w,C2,hv,u6,rfl,hC2⟩ gs
  simp only[List.cons.injEq,and_true]at hv
  obtain⟨rfl,rfl⟩:=hv
  have h0:=qd (ord:=M.ord) hn (L:=M.cw) (by omega) (Nat.le_refl M.n)
  have h1:=qd (ord:=eG M.ord l) hn (L:=M.cw) (by omega) u6
  refine ae.dz (Br.dec (fun dF=>?_) (fun dF=>?_))
  ·refine hv4.ld (qE dF) (fun _ h=>List.mem_append_right _ h) fun x hx=>?_
   have h2:=nG (ord:=eG M.ord l) (L:=M.cw) hn u6
   refine fK.qc hC2 .left hx (fun _ h=>List.mem_append_right _ h) (by rw[aW,aW,List.length_append];omega) fun v' C' ho=>?_
   refine ae.aH (b:=1) (by simp[aB];omega) ?_
   refine ay.of (.refl _) ⟨k+1,v',C',rfl,dF,rfl,?_⟩ (by simp only[bg];omega)
   have e:gy M.n (iU M.n M.ord M.cw M.n++iU M.n (eG M.ord l) M.cw k)++gy M.n (oO M.n (eG M.ord l) M.cw k)=gy M.n (iU M.n M.ord M.cw M.n++iU M.n (eG M.ord l) M.cw (k+1)):=by rw[iU];simp[gy]
   rw[←e];exact ho
  ·obtain rfl:k=M.n:=by omega
   have hff:∀t∈iU M.n M.ord M.cw M.n++iU M.n (eG M.ord l) M.cw M.n,aj.cB M.n t:=fun t ht=>by
    rcases List.mem_append.1 ht with ht|ht
    ·exact kK hM.kR hn _ t ht
    ·exact kK hM.kR hn _ t ht
   refine ag.px .here (td (hC2.xy (fun _ h=>List.mem_append_left _ h) (fun _ h=>List.mem_append_right _ h)) hff (by rw[List.length_append];omega)) ?_
   rintro v5 N5 hv5
   refine hv5.aR ?_
   rw[aW]
   exact bO.mk (.bN (.bN (.bN (.bN (.bN .right))))) rfl
theorem YV(h:Dk mp M B)(hM:M.oZ){l:Nat}(hl:l+1<M.n)(hno:M.cap<2+(rU M.n M.ord l M.cw).length):Rd Tryz.prog 86 #[ptr mp,.int .i64 (l:Int)] B (· =.int .i64 9):=by
 have hn:=hM.lN
 have SS:(rU M.n M.ord l M.cw).length≤4398046511104:=by
  have h0:=qd (ord:=M.ord) hn (L:=M.cw) (by have:=hM.IU;rw[M.df];omega) (Nat.le_refl M.n)
  have h1:=qd (ord:=eG M.ord l) hn (L:=M.cw) (by have:=hM.IU;rw[M.df];omega) (Nat.le_refl M.n)
  refine Nat.le_trans (qt _) ?_
  rw[List.length_append];omega
 intro g
 refine wU (R:=aF _) ?_
 unfold L86
 obtain⟨vo,vh,vt,rs,hR⟩:=h
 refine ae.lss ?_
 rw[decide_eq_false (by omega)]
 refine bM.or false (fun _=>?_) rfl fun gs=>Br.no ?_
 ·refine Nil.ptr (aa.mk (Ld.mk (v:=.int .i64 (M.n:Int)) hR.GS rfl ?_))
  refine ae.mq (c:=(M.n:Int) -2) rfl (by omega) ?_
  exact ae.gtr ⟨rfl,by rw[decide_eq_false (by omega)]⟩
 refine DR.self ?_
 refine Nil.ptr (aa.mk (Ld.mk (v:=.int .i64 (M.cap:Int)) hR.GS rfl ?_))
 refine ag.rd .here (WR ⟨vo,vh,vt,rs,hR⟩ hM hl) ?_
 rintro v rfl
 refine⟨.refl _,?_⟩
 refine ae.aH (a:=2) (by simp[aB];omega) ?_
 exact ae.me (Br.gf hno (bO.mk (.refl _) rfl))
theorem NS{X H:Hp}(h:lI mp M X H)(hM:M.oZ){l:Nat}(hl:l+1<M.n)(hfit:2+(rU M.n M.ord l M.cw).length≤M.cap):Fc Tryz.prog 86 #[ptr mp,.int .i64 (l:Int)] H (fun v H'=>v=.int .i64 0∧lI mp {M with ord:=eG M.ord l,tr:=M.tr++[l]} X H'):=by
 have hn:=hM.lN
 have hcap:=hM.cap
 have aip:=hM.ZW
 have hlen:=hM.len
 have hrd:=h.rd
 obtain⟨vo,vh,vt,rs,CO,CH,CT,rfl,hO⟩:=h
 intro g
 refine wU (R:=aF _) ?_
 unfold L86
 refine ae.lss ?_
 rw[decide_eq_false (by omega)]
 refine bM.or false (fun _=>?_) rfl fun gs=>Br.no ?_
 ·refine Nil.ptr (aa.mk (Ld.mk (v:=.int .i64 (M.n:Int)) (by exact .head _) rfl ?_))
  refine ae.mq (c:=(M.n:Int) -2) rfl (by omega) ?_
  exact ae.gtr ⟨rfl,by rw[decide_eq_false (by omega)]⟩
 refine DR.self ?_
 refine Nil.ptr (aa.mk (Ld.mk (v:=.int .i64 (M.cap:Int)) (by exact .head _) rfl ?_))
 refine ag.rd .here (WR hrd hM hl) ?_
 rintro v rfl
 refine⟨.refl _,?_⟩
 refine ae.aH (a:=2) (by simp[aB];omega) ?_
 refine ae.me (Br.cq (by omega) ?_)
 refine Nil.ptr (aa.mk (Ld.mk (v:=vo) (by exact .head _) rfl ?_))
 refine ag.fn (.cons .left) (sW hO.ord.ints (by omega) (by omega)) ?_
 rintro v H ⟨N,rfl,ho⟩
 refine Nil.ptr (aa.mk (St.one (c':=fB M v vh vt) (by exact .head _) ho.one (by simp[fB]) rfl ?_))
 refine Nil.ptr (aa.mk (Ld.mk (v:=vt) (by exact .head _) rfl ?_))
 refine av.int (e:=3) (by kernel_rfl) (by kernel_rfl) (by kernel_rfl) fun bx=>?_
 refine hO.tr.mW (.cons (.cons (.app (.app .left)))) (by exact .head _) (by rw[an];omega) (by rw[an];omega) fun v' Pq bX=>?_
 refine Nil.ptr (aa.mk (St.one (c':=fB M v vh v') (by exact .tail (.head _)) bX.one (by simp[fB]) rfl ?_))
 refine aF.mk (lT:=(mp,.cells (fB M v vh v') 74 (0,0))::(N++(CH++(Pq++X)))) (.skip (.cons ?_)) ⟨rfl,v,vh,v',rs,N,CH,Pq,rfl,ho,hO.sl,hO.each,by rw[bT];exact bX⟩
 exact aO.assoc.trans (.cL .right _)
theorem MR(h:Dk mp M B)(hM:M.oZ){v:Value}{t:List Nat}(ht:j5 B v ⟨M.n,t⟩)(hf:aj.cB M.n t):Rd Tryz.prog 96 #[ptr mp,v] B (fun r=>(∃e∈M.held,e.1=t∧r=.int .i64 ((e.2:Nat):Int))∨(t∉M.cw∧r=.int .i64 0)):=by
 obtain⟨s0,rfl,oP⟩:=ht
 obtain⟨vo,vh,vt,rs,hR⟩:=h
 have Cq:=hM.IU
 have u5:=hR.each.1
 intro g
 refine Jr (R:=aF _) ?_
 unfold L96
 intro b1 _
 refine Nil.ptr (aa.mk (Ld.mk (v:=vh) (.tail _ hR.GS) rfl ?_))
 refine hR.sl.aR ?_
 rw[u5]
 refine⟨fun vs H=>∃k:Nat,vs=[.int .i64 (k:Int)]∧k≤M.held.length∧H=(b1,.cells #[.int .i64 (M.n:Int),s0] 57 (0,0))::B∧t∉M.cw.take k,fun vs _=>M.held.length-bg vs 0,JE.mk ⟨0,rfl,Nat.zero_le _,rfl,by simp⟩,?_⟩
 rintro jy H ⟨k,hv,hk,rfl,hno⟩ gs
 simp only[List.cons.injEq,and_true]at hv
 subst hv
 refine ae.dz (Br.dec (fun hlt=>?_) (fun hlt=>?_))
 ·obtain⟨r,hr,s,rfl,hw⟩:=hR.each.get (List.getElem?_eq_getElem hlt)
  have hone:=aD hw
  have l8:M.cw[k]'(by rw[M.df];exact hlt)=M.held[k].1:=by simp[Md.cw]
  have jF:aj.cB M.n M.held[k].1:=hM.kR _ (by rw[←l8];exact List.getElem_mem _)
  refine ah.sl hR.sl hr fun p hp=>az.at hp rfl (by decide) (fun _ h=>.tail _ h) ?_
  intro qb _
  refine St.whole (r:=[.int .i64 (M.n:Int),s,.int .i64 ((M.held[k].2:Nat):Int)]) (by exact .head _) rfl rfl (by simpa[Value.oneCell']using hone) ?_
  refine aa.mk (az.mk (vs:=#[.int .i64 (M.n:Int),s]) (by exact .head _) (by simp) rfl ?_)
  refine az.whole (r:=[.int .i64 (M.n:Int),s0]) (by exact .tail _ (.head _)) rfl ?_
  have O6:=fQ jF
  refine ag.rd (B:=B) (.cons (.cons .here)) (kV (v1:=.agg (List.toArray [.int .i64 (M.n:Int),s])) (v2:=.agg (List.toArray [.int .i64 (M.n:Int),s0])) (a:=⟨M.n,M.held[k].1⟩) (b:=⟨M.n,t⟩) ⟨s,rfl,hw⟩ ⟨s0,rfl,oP⟩ (by show M.held[k].1.length<_;omega)) ?_
  rintro v rfl
  refine Br.dec (fun he=>?_) (fun he=>?_)
  ·have he':M.held[k].1=t:=by injection he
   refine aa.mk (Ld.mk (v:=.int .i64 ((M.held[k].2:Nat):Int)) (by exact .head _) rfl ?_)
   exact bO.mk (.skip .tail) (.inl ⟨M.held[k],List.getElem_mem hlt,he',rfl⟩)
  ·refine ae.aH (b:=1) (by simp[aB];omega) ?_
   refine ay.of .tail ⟨k+1,rfl,hlt,rfl,?_⟩ (by simp only[bg];omega)
   rw[List.take_succ_eq_append_getElem (by rw[M.df];exact hlt),l8,List.mem_append,List.mem_singleton]
   rintro(h|h)
   ·exact hno h
   ·exact he (by rw[h])
 ·obtain rfl:k=M.held.length:=by omega
  rw[←M.df,List.take_length]at hno
  exact bO.mk .tail (.inr ⟨hno,rfl⟩)
theorem zz{n cap:Nat}(hn:n≤64)(hc:cap≤1048576):Fc Tryz.prog 82 #[.int .i64 (n:Int),.int .i64 (cap:Int)] [] (fun v H=>∃mp,v=ptr mp∧lI mp ⟨n,cap,List.range n,[],[]⟩ [] H):=by
 intro g
 refine Jx (R:=aF _) ?_
 unfold L82
 refine Build.mk (cs:=[.int .i64 (n:Int),.int .i64 (cap:Int),.slice none 0 0,.slice none 0 0,.slice none 0 0]) (by kernel_rfl) ?_
 intro b2 _
 refine⟨fun vs H=>∃(k:Nat) (vo:Value) (CO:Hp),vs=[.int .i64 (k:Int)]∧k≤n∧H=(b2,.cells #[.int .i64 (n:Int),.int .i64 (cap:Int),vo,.slice none 0 0,.slice none 0 0] 74 (0,0))::CO∧aQ 3 .i64 vo (iw (List.range k)) CO,fun vs _=>n-bg vs 0,JE.mk ⟨0,_,[],rfl,Nat.zero_le _,rfl,aQ.nil⟩,?_⟩
 rintro w8 H ⟨k,vo,CO,hv,hk,rfl,hO⟩ gs
 simp only[List.cons.injEq,and_true]at hv
 subst hv
 refine ae.dz (Br.dec (fun hlt=>?_) (fun hlt=>?_))
 ·refine Nil.ptr (aa.mk (Ld.mk (v:=vo) (by exact .head _) rfl ?_))
  refine av.int (e:=3) (by kernel_rfl) (by kernel_rfl) (by kernel_rfl) fun bx=>?_
  refine hO.mW (.cons (.cons .here)) (by exact .head _) (by rw[an];simp;omega) (by rw[an];simp;omega) fun v' CO' bX=>?_
  refine Nil.ptr (aa.mk (St.one (c':=#[.int .i64 (n:Int),.int .i64 (cap:Int),v',.slice none 0 0,.slice none 0 0]) (by exact .tail (.head _)) bX.one (by simp) rfl ?_))
  refine ae.aH (b:=1) (by simp[aB];omega) ?_
  exact ay.of .tail ⟨k+1,v',CO',rfl,hlt,rfl,by rw[List.range_succ,bT];exact bX⟩ (by simp only[bg];omega)
 ·obtain rfl:k=n:=by omega
  exact aF.here ⟨b2,rfl,vo,.slice none 0 0,.slice none 0 0,[],CO,[],[],by simp[fB],hO,aS.nil _ _,iq.nil,aQ.nil⟩
end
def RW(held:List (List Nat×Nat))(t:List Nat)(held':List (List Nat×Nat)):Prop:=
 (∃i c,held[i]? =some (t,c)∧t∉(held.map Prod.fst).take i∧held'=held.set i (t,c+1))∨(t∉held.map Prod.fst∧held'=held++[(t,1)])
section
variable {mp:Nat} {M:Md} {B:Hp}
theorem zX{X H:Hp}(hM:M.oZ){v:Value}{t:List Nat}(ht:j5 H v ⟨M.n,t⟩)(hf:aj.cB M.n t)(hc:t=cA M.n false∨t=cA M.n true):Rd Tryz.prog 124 #[ptr mp,v] H (· =.int .i64 0):=by
 obtain⟨s0,rfl,oP⟩:=ht
 intro g
 refine uN (R:=aF _) ?_
 unfold L124
 intro b1 _
 refine az.whole (r:=[.int .i64 (M.n:Int),s0]) (by exact .head _) rfl ?_
 refine ag.rd (.cons .here) (lp (v:=.agg (List.toArray [.int .i64 (M.n:Int),s0])) (n:=M.n) (ws:=t) ⟨s0,rfl,oP⟩ hf) ?_
 rintro v rfl
 exact Br.gf hc (bO.mk .tail rfl)
theorem MU{X H:Hp}(h:lI mp M X H)(hM:M.oZ){v:Value}{t:List Nat}(ht:j5 X v ⟨M.n,t⟩)(hf:aj.cB M.n t)(hc:¬(t=cA M.n false∨t=cA M.n true))(hlt:∀e∈M.held,e.2<65535):
  Fc Tryz.prog 124 #[ptr mp,v] H (fun r H'=>r=.int .i64 0∧∃held',RW M.held t held'∧lI mp {M with held:=held'} X H'):=by
 have hsub:=h.sub
 obtain⟨s0,rfl,oP⟩:=ht
 have Cq:=hM.IU
 have afW:=aD oP
 obtain⟨vo,vh,vt,rs,CO,CH,CT,rfl,hO⟩:=h
 have u5:=hO.each.1
 intro g
 refine uN (R:=aF _) ?_
 unfold L124
 intro b1 _
 refine az.whole (r:=[.int .i64 (M.n:Int),s0]) (by exact .head _) rfl ?_
 refine ag.rd (.cons .here) (lp (v:=.agg (List.toArray [.int .i64 (M.n:Int),s0])) (n:=M.n) (ws:=t) ⟨s0,rfl,oP.mono hsub⟩ hf) ?_
 rintro v rfl
 refine Br.cq hc ?_
 refine⟨fun vs H=>∃k:Nat,vs=[.int .i64 (k:Int)]∧k≤M.held.length∧H=(b1,.cells #[.int .i64 (M.n:Int),s0] 57 (0,0))::(mp,.cells (fB M vo vh vt) 74 (0,0))::(CO++(CH++(CT++X)))∧t∉M.cw.take k,fun vs _=>M.held.length-bg vs 0,JE.mk ⟨0,rfl,Nat.zero_le _,rfl,by simp⟩,?_⟩
 rintro eo H ⟨k,hv,hk,rfl,hno⟩ gs
 simp only[List.cons.injEq,and_true]at hv
 subst hv
 have Ut:∀y∈CH,y∈(b1,Obj.cells #[.int .i64 (M.n:Int),s0] 57 (0,0))::(mp,.cells (fB M vo vh vt) 74 (0,0))::(CO++(CH++(CT++X))):=fun y h=>.tail _ (.tail _ (List.mem_append_right _ (List.mem_append_left _ h)))
 refine Nil.ptr (aa.mk (Ld.mk (v:=vh) (by exact .tail _ (.head _)) rfl ?_))
 refine hO.sl.aR ?_
 rw[u5]
 refine ae.dz (Br.dec (fun dF=>?_) (fun dF=>?_))
 ·obtain⟨r,hr,s,rfl,hw⟩:=hO.each.get (List.getElem?_eq_getElem dF)
  have l8:M.cw[k]'(by rw[M.df];exact dF)=M.held[k].1:=by simp[Md.cw]
  have jF:aj.cB M.n M.held[k].1:=hM.kR _ (by rw[←l8];exact List.getElem_mem _)
  have O6:=fQ jF
  have nT:=hlt _ (List.getElem_mem dF)
  refine DR.self ?_
  refine Nil.ptr (aa.mk (Ld.mk (v:=vh) (by exact .tail _ (.head _)) rfl ?_))
  refine hO.sl.Mq hr ⟨by decide,by decide⟩ Ut ?_
  refine az.whole (r:=[.int .i64 (M.n:Int),s0]) (by exact .head _) rfl ?_
  refine ag.rd (B:=X) (.cons (.cons (.app (.app (.app .here))))) (kV (v1:=.agg (List.toArray [.int .i64 (M.n:Int),s])) (v2:=.agg (List.toArray [.int .i64 (M.n:Int),s0])) (a:=⟨M.n,M.held[k].1⟩) (b:=⟨M.n,t⟩) ⟨s,rfl,hw⟩ ⟨s0,rfl,oP⟩ (by show M.held[k].1.length<_;omega)) ?_
  rintro v rfl
  refine⟨.refl _,?_⟩
  refine Br.dec (fun he=>?_) (fun he=>?_)
  ·have he':M.held[k].1=t:=by injection he
   refine Nil.ptr (aa.mk (Ld.mk (v:=vh) (by exact .tail _ (.head _)) rfl ?_))
   refine hO.sl.BY (j:=2) hr rfl Ut ?_
   refine ae.qP (b:=65535) (Br.cq (by omega) ?_)
   refine Nil.ptr (aa.mk (Ld.mk (v:=vh) (by exact .tail _ (.head _)) rfl ?_))
   refine hO.sl.BY (j:=2) hr rfl Ut ?_
   refine ae.aH (b:=1) (by simp[aB];omega) ?_
   refine hO.sl.LY (j:=2) (x:=.int .i64 ((M.held[k].2+1:Nat):Int)) (.cons (.cons (.app .left))) hr (by decide) rfl fun Kp bX=>?_
   refine aF.mk .tail ⟨rfl,M.held.set k (t,M.held[k].2+1),.inl ⟨k,M.held[k].2,?_,hno,rfl⟩,vo,vh,vt,_,CO,Kp,CT,rfl,hO.ord,bX,hO.each.set ⟨s,rfl,by rw[←he'];exact hw⟩,hO.tr⟩
   rw[List.getElem?_eq_getElem dF,←he']
  ·refine ae.aH (b:=1) (by simp[aB];omega) ?_
   refine ay.of (.refl _) ⟨k+1,rfl,dF,rfl,?_⟩ (by simp only[bg];omega)
   rw[List.take_succ_eq_append_getElem (by rw[M.df];exact dF),l8,List.mem_append,List.mem_singleton]
   rintro(h|h)
   ·exact hno h
   ·exact he (by rw[h])
 ·obtain rfl:k=M.held.length:=by omega
  rw[←M.df,List.take_length]at hno
  refine DR.of (R:=[(b1,.cells #[.int .i64 (M.n:Int),s0] 57 (0,0)),(mp,.cells (fB M vo vh vt) 74 (0,0))]) (.cons (.cons .nil)) ?_
  refine Nil.ptr (aa.mk (Ld.mk (v:=vh) (by exact .tail _ (.head _)) rfl ?_))
  refine az.whole (r:=[.int .i64 (M.n:Int),s0]) (by exact .head _) rfl ?_
  obtain⟨sa,sl,sc,rfl⟩:∃a l c,s0=Value.slice a l c:=by obtain⟨a,c,h,_⟩:=oP.1.shape;exact⟨a,_,c,h⟩
  refine Build.mk (cs:=[.int .i64 (M.n:Int),.slice sa sl sc,.int .i64 1]) (by kernel_rfl) ?_
  refine av.one (r:=[.int .i64 (M.n:Int),.slice sa sl sc,.int .i64 1]) (e:=241) (k:=3) (z:=.agg #[.int .i64 0,.slice none 0 0,.int .i64 0]) (by kernel_rfl) (by kernel_rfl) (by kernel_rfl) (by decide) rfl fun bx=>?_
  refine⟨.skip (.cons (.cons .nil)),?_⟩
  refine hO.sl.mW (r:=[.int .i64 (M.n:Int),.slice sa sl sc,.int .i64 1]) (.cons (.cons (.cons (.app .left)))) (by exact .head _) rfl (by simp[Value.oneCell']) ⟨[.int .i64 0,.slice none 0 0,.int .i64 0],rfl,rfl⟩ (by omega) (by omega) fun v' Kp bX=>?_
  refine⟨.skip (.cons (.cons .nil)),?_⟩
  have AZ:v'.oneCell'=true:=by obtain⟨a,c,e⟩:=aS.len bX;rw[e];rfl
  refine Nil.ptr (aa.mk (St.one (c':=fB M vo v' vt) (by exact .tail (.tail (.head _))) AZ (by simp[fB]) rfl ?_))
  exact aF.mk (.skip .tail) ⟨rfl,_,.inr ⟨hno,rfl⟩,vo,v',vt,_,CO,Kp,CT,rfl,hO.ord,bX,hO.each.snoc ⟨_,rfl,oP⟩,hO.tr⟩
end
section
variable {kp:Nat} {K:Kd} {ord ax tr:List Nat} {C:Hp} {S:Nat→aZ.Fn}
theorem LQ(h:lR kp K S ord ax tr C):Rd Tryz.prog 70 #[ptr kp] C (fun r=>∃n:Nat,(∀K:Value→Prop,K (.int .i64 (n:Int))→aG r K)∧n=((List.range K.ho.length).filter fun r=>decide (0<K.hold r)).length):=by
 obtain⟨b,hC,hO⟩:=h.rep
 have hcap:=h.ok.mid.cap
 have hle:=h.jQ
 have hfit:K.ho.length≤1048576:=by
  have:=hO.ul
  omega
 intro g
 refine wX (R:=aF _) ?_
 unfold L70
 refine ae.aJ (Br.no ?_)
 have MJ:∀z∈b.CH,z∈C:=by rw[hC];exact cy.sub (.cons (.app (.app (.app .left))))
 refine Nil.ptr (aa.mk (aa.mk (Ld.mk (v:=b.vh) (by rw[hC];exact .head _) rfl ?_)))
 refine hO.ho.aR ?_
 rw[an]
 let rts:Nat→List Nat:=fun k=>(List.range k).filter fun r=>decide (0<K.hold r)
 refine⟨fun vs H=>∃(k:Nat) (w:Value) (N:Hp),vs=[w,.int .i64 (k:Int)]∧k≤K.ho.length∧H=N++C∧aQ 77 .u32 w (iw (rts k)) N,fun vs _=>K.ho.length-bg vs 1,JE.mk ⟨0,_,[],rfl,Nat.zero_le _,rfl,aQ.nil⟩,?_⟩
 rintro jy eW H ⟨k,w,N,hv,hk,rfl,hN⟩ gs
 simp only[List.cons.injEq,and_true]at hv
 obtain⟨rfl,rfl⟩:=hv
 refine ae.dz (Br.dec (fun hlt=>?_) (fun hlt=>?_))
 ·intro J hJ
  have fin:∀w' N',aQ 77 .u32 w' (iw (rts (k+1))) N'→J [w'] (N'++C):=fun w' N' h'=>hJ _ _ fun gs=>by
   refine ae.aH (b:=1) (by simp[aB];omega) ?_
   exact ay.of (.refl _) ⟨k+1,w',N',rfl,hlt,rfl,h'⟩ (by simp only[bg];omega)
  have e:rts (k+1)=rts k++if 0<K.hold k then [k]else []:=by
   show(List.range (k+1)).filter _=_
   rw[List.range_succ,List.filter_append]
   congr 1
   by_cases hp:0<K.hold k<;>simp[hp]
  refine hO.ho.ld (x:=((K.hold k:Nat):Int)) (bF hlt) (fun z hz=>List.mem_append_right _ (MJ z hz)) ?_
  refine ae.me (b:=0) (Br.dec (fun hp=>?_) (fun hp=>?_))
  ·rw[e,if_pos hp]at fin
   refine bL.nat (by simp[aB];omega) ?_
   have u5:(rts k).length≤k:=by
    have:=List.length_filter_le (fun r=>decide (0<K.hold r)) (List.range k)
    rwa [List.length_range]at this
   refine av.int (e:=77) (by kernel_rfl) (by kernel_rfl) (by kernel_rfl) fun bx=>?_
   refine hN.mW (.cons .left) (by exact .head _) (by rw[an];omega) (by rw[an];omega) fun v' N' bX=>?_
   rw[bT]at fin
   exact JE.of .tail (fin v' N' bX)
  ·rw[e,if_neg hp,List.append_nil]at fin
   exact JE.mk (fin jy N hN)
 ·obtain rfl:k=K.ho.length:=by omega
  refine bO.mk .right ⟨(rts K.ho.length).length,fun Q hq=>hN.aR ?_,rfl⟩
  rw[an];exact hq
end
section
variable {kp:Nat} {K:Kd} {ord ax tr:List Nat} {C:Hp} {S:Nat→aZ.Fn}
theorem Ma(d:Nd):∀u∈aT d,u.oneCell'=true:=fun u hu=>by
 simp only[aT,List.mem_cons,List.not_mem_nil,or_false]at hu
 rcases hu with rfl|rfl|rfl<;>rfl
theorem Lv(h:lR kp K S ord ax tr C)(hn:K.n≤16):∀(k r deep:Nat) (X:Hp),K.n-dep K.n (lv ax) K.N r≤k→live K.N r→deep≤dep K.n (lv ax) K.N r→
  Px Tryz.prog 192 #[ptr kp,u32 r,.int .i64 (K.n:Int),.int .i64 (deep:Int)] (X++C) (fun v H=>∃s ws,v=.tuple #[s,.bool true]∧j5 H s ⟨K.n,ws⟩∧aj.cB K.n ws∧eL K.n ws=S r):=by
 intro k
 induction k with
 |zero=>
  intro r deep X hk hr hd
  have hle:=h.ok.wf.iA h.ok.lv r
  cases hN:K.N r with
  |some d=>
   rw[aM hN]at hk
   have:=h.ok.lv.lt _ (h.ok.mid.var hN);omega
  |none=>
   have nS:r<2:=by
    rcases hr with hr|⟨d,e⟩
    ·exact hr
    ·rw[hN]at e;cases e
   intro g
   refine oX (R:=aF _) ?_
   unfold L192
   intro b1 _
   refine ae.gz (b:=0) ?_
   refine bM.or (decide (r=1)) (fun _=>ae.gz (b:=1) ⟨rfl,rfl⟩) (by simp) fun gs=>?_
   rw[←Bool.decide_or]
   refine Br.gf (by omega) (ae.gz (b:=1) ?_)
   refine ag.px (.cons .here) (p8 (b:=decide (r=1)) hn _) ?_
   rintro v N ⟨s,rfl,hw⟩
   have hone:=aD hw
   refine St.whole (r:=[.int .i64 (K.n:Int),s]) (by exact .head _) rfl rfl (by simpa[Value.oneCell']using hone) ?_
   refine az.whole (r:=[.int .i64 (K.n:Int),s]) (by exact .head _) rfl ?_
   refine oV.mk (by repeat (first|exact aV.refl _|apply aV.cons|apply aV.app)) ⟨_,cA K.n (decide (r=1)),rfl,⟨s,rfl,hw.mono zS⟩,oT hn _,?_⟩
   rw[gv]
   funext x
   have hi:=h.ok.mid.int
   have:r=0∨r=1:=by omega
   rcases this with rfl|rfl
   ·exact(hi.zero x).symm
   ·exact(hi.one x).symm
 |succ k ih=>
  intro r deep X hk hr hd
  by_cases nS:r<2
  ·have hN:K.N r=none:=h.ok.wf.const nS
   intro g
   refine oX (R:=aF _) ?_
   unfold L192
   intro b1 _
   refine ae.gz (b:=0) ?_
   refine bM.or (decide (r=1)) (fun _=>ae.gz (b:=1) ⟨rfl,rfl⟩) (by simp) fun gs=>?_
   rw[←Bool.decide_or]
   refine Br.gf (by omega) (ae.gz (b:=1) ?_)
   refine ag.px (.cons .here) (p8 (b:=decide (r=1)) hn _) ?_
   rintro v N ⟨s,rfl,hw⟩
   have hone:=aD hw
   refine St.whole (r:=[.int .i64 (K.n:Int),s]) (by exact .head _) rfl rfl (by simpa[Value.oneCell']using hone) ?_
   refine az.whole (r:=[.int .i64 (K.n:Int),s]) (by exact .head _) rfl ?_
   refine oV.mk (by repeat (first|exact aV.refl _|apply aV.cons|apply aV.app)) ⟨_,cA K.n (decide (r=1)),rfl,⟨s,rfl,hw.mono zS⟩,oT hn _,?_⟩
   rw[gv]
   funext x
   have hi:=h.ok.mid.int
   have:r=0∨r=1:=by omega
   rcases this with rfl|rfl
   ·exact(hi.zero x).symm
   ·exact(hi.one x).symm
  ·obtain⟨d,hN⟩:∃d,K.N r=some d:=by
    rcases hr with hr|hr
    ·omega
    ·exact hr
   have u5:=h.fN hr
   have Cr:=h.ok.mid.var hN
   have hlo:=h.ok.wf.lo hN
   have hhi:=h.ok.wf.hi hN
   have hlb:=cU.2 hr
   have aiF:=h.fN hlo.1
   have aiP:=h.fN hhi.1
   have hdl:=h.ok.wf.iA h.ok.lv r
   rw[aM hN]at hk hd
   have hvl:=h.ok.lv.lt _ Cr
   intro g
   refine oX (R:=aF _) ?_
   unfold L192
   intro b1 _
   refine ae.gz (b:=0) ?_
   refine bM.or (decide (r=1)) (fun _=>ae.gz (b:=1) ⟨rfl,rfl⟩) (by simp) fun gs=>?_
   rw[←Bool.decide_or]
   refine Br.cq (by omega) ?_
   refine ag.rd (.cons (.app .here)) (tF h.rep (by omega)) ?_
   rintro v rfl
   rw[hlb,kE hN (by omega)]
   refine Ext.mk rfl (Ext.mk rfl ?_)
   intro qY _
   refine St.whole (r:=aT d) (by exact .head _) rfl rfl (Ma d) ?_
   refine ae.dX ?_
   refine bM.or false (fun _=>ae.gtr ⟨rfl,by rw[decide_eq_false (by omega)]⟩) rfl fun gs=>?_
   refine bM.or false (fun _=>aa.mk (Ld.mk (v:=.int .i64 (d.v:Int)) (by exact .head _) rfl (ae.lss ⟨rfl,by rw[decide_eq_false (by omega)]⟩))) rfl fun gs=>?_
   refine bM.or false (fun _=>aa.mk (Ld.mk (v:=.int .i64 (d.v:Int)) (by exact .head _) rfl (ae.geq ⟨rfl,by rw[decide_eq_false (by omega)]⟩))) rfl fun gs=>Br.no ?_
   refine aa.mk (Ld.mk (v:=u32 d.lo) (by exact .head _) rfl ?_)
   refine ae.aH (b:=1) (by simp[aB];omega) ?_
   refine ag.px (.cons (.cons .here)) (ih d.lo (deep+1) X (by omega) hlo.1 (by omega)) ?_
   rintro v N1 ⟨_,w1,rfl,⟨s1,rfl,jz⟩,hf1,Wa⟩
   have Cd:=aD jz
   refine Ext.mk rfl (Ext.mk rfl ?_)
   intro b43 _
   refine St.whole (r:=[.int .i64 (K.n:Int),s1]) (by exact .head _) rfl rfl (by simpa[Value.oneCell']using Cd) ?_
   refine aa.mk (Ld.mk (v:=u32 d.hi) (by exact .tail _ (.head _)) rfl ?_)
   refine ae.aH (b:=1) (by simp[aB];omega) ?_
   have hX:N1++(X++C)=(N1++X)++C:=(List.append_assoc _ _ _).symm
   rw[hX]at jz⊢
   refine ag.px (.cons (.cons (.cons .here))) (ih d.hi (deep+1) (N1++X) (by omega) hhi.1 (by omega)) ?_
   rintro v N2 ⟨_,w2,rfl,⟨s2,rfl,mI⟩,O8,V9⟩
   have nI:=aD mI
   refine Ext.mk rfl (Ext.mk rfl ?_)
   intro KE _
   refine St.whole (r:=[.int .i64 (K.n:Int),s2]) (by exact .head _) rfl rfl (by simpa[Value.oneCell']using nI) ?_
   refine Un.not ?_
   refine bM.or false (fun _=>Un.not ⟨rfl,rfl⟩) rfl fun gs=>Br.no ?_
   refine aa.mk (Ld.mk (v:=.int .i64 (d.v:Int)) (by exact .tail _ (.tail _ (.head _))) rfl ?_)
   refine az.whole (r:=[.int .i64 (K.n:Int),s1]) (by exact .tail _ (.head _)) rfl ?_
   refine az.whole (r:=[.int .i64 (K.n:Int),s2]) (by exact .head _) rfl ?_
   refine ag.px (B:=N2++((N1++X)++C)) (.cons (.cons (.cons (.cons .here)))) (Xm (v1:=.agg (List.toArray [.int .i64 (K.n:Int),s1])) (v2:=.agg (List.toArray [.int .i64 (K.n:Int),s2])) (n:=K.n) (lo:=w1) (hi:=w2) ⟨s1,rfl,jz.mono zS⟩ hf1 ⟨s2,rfl,mI⟩ O8 (by omega)) ?_
   rintro v N3 ⟨s3,rfl,Ux⟩
   have yK:=aD Ux
   refine St.whole (r:=[.int .i64 (K.n:Int),s3]) (by exact .tail (.tail (.tail (.head _)))) rfl rfl (by simpa[Value.oneCell']using yK) ?_
   refine az.whole (r:=[.int .i64 (K.n:Int),s3]) (by exact .tail _ (.tail _ (.tail _ (.head _)))) rfl ?_
   refine oV.mk (by rw[←hX];exact(by repeat (first|exact aV.refl _|apply aV.cons|apply aV.app))) ⟨_,Xn K.n d.v w1 w2,rfl,⟨s3,rfl,Ux.mono zS⟩,Qy hn,?_⟩
   rw[Vh Cr,Wa,V9]
   exact funext fun x=>(h.ok.mid.int.node hN x).symm
end
theorem NK{ord:List Nat}{F G:aZ.Fn→Prop}(h:∀g,F g→G g):∀l g,fs ord F l g→fs ord G l g
 |0,g,hg=>h g hg
 |l+1,g,⟨f,hf,b,e⟩=>⟨f,NK h l f hf,b,e⟩
theorem nD{n:Nat}{ord:List Nat}{F G:aZ.Fn→Prop}(h:∀g,F g→G g){g:aZ.Fn}(hg:cr n ord F g):cr n ord G g:=let ⟨l,a,b,c⟩:=hg;⟨l,a,NK h l g b,c⟩
structure AP(K:Kd)(S:Nat→aZ.Fn)(K':Kd)(S':Nat→aZ.Fn)(f:aZ.Fn)(r:Nat):Prop where
 n:K'.n=K.n
 cap:K'.cap=K.cap
 N:∀s d,K.N s=some d→K'.N s=some d
 fn:∀s,live K.N s→S' s=S s
 live:live K'.N r
 is:S' r=f
 hold:∀s,K'.hold s=K.hold s+if s=r∧2≤r then 1 else 0
theorem qD{N N':gK}(h:∀s d,N s=some d→N' s=some d){s:Nat}(hs:live N s):live N' s:=by
 rcases hs with hs|⟨d,hd⟩
 ·exact .inl hs
 ·exact .inr ⟨d,h s d hd⟩
theorem B6{K K5:Kd}{S S5:Nat→aZ.Fn}{ax:Nat→Nat}(hK:Ok K S ax)(Pb:Ok K5 S5 ax)(hold:∀s,K.hold s≠0→K5.hold s≠0)(h3:∀s d d',K.N s=some d→K5.N s=some d'→d'=d):
  ∀(k s:Nat) (d:Nd),K.N s=some d→ax d.v≤k→K5.N s=some d:=by
 intro k
 induction k with
 |zero=>
  intro s d hd hl
  have fin:live K5.N s→K5.N s=some d:=fun hs=>by
   rcases hs with hs|⟨d',ej⟩
   ·have:=(hK.mid.two hd).1;omega
   ·rw[ej,h3 s d d' hd ej]
  rcases hK.reach s d hd with h|⟨p,e,hp,he⟩
  ·exact fin (.inr (Pb.mid.held s (hold s h)))
  ·have h1:=hK.wf.lo hp
   have h2:=hK.wf.hi hp
   rcases he with rfl|rfl
   ·have:=h1.2;rw[aM hd]at this;omega
   ·have:=h2.2;rw[aM hd]at this;omega
 |succ k ih=>
  intro s d hd hl
  have fin:live K5.N s→K5.N s=some d:=fun hs=>by
   rcases hs with hs|⟨d',ej⟩
   ·have:=(hK.mid.two hd).1;omega
   ·rw[ej,h3 s d d' hd ej]
  rcases hK.reach s d hd with h|⟨p,e,hp,he⟩
  ·exact fin (.inr (Pb.mid.held s (hold s h)))
  ·have h1:=hK.wf.lo hp
   have h2:=hK.wf.hi hp
   rcases he with rfl|rfl
   ·have:=h1.2;rw[aM hd]at this
    exact fin (Pb.mid.lo (ih p e hp (by omega)))
   ·have:=h2.2;rw[aM hd]at this
    exact fin (Pb.mid.hi (ih p e hp (by omega)))
theorem AP.held{K K':Kd}{S S':Nat→aZ.Fn}{f:aZ.Fn}{r:Nat}(h:AP K S K' S' f r)(hm:∀s,K.hold s≠0→aZ.live K.N s)(g:aZ.Fn)(hg:K'.held S' g):K.held S g∨g=f:=by
 obtain⟨s,hs,rfl⟩:=hg
 by_cases h0:K.hold s=0
 ·right
  have:=h.hold s
  have hs':K'.hold s≠0:=hs
  rw[h0]at this
  by_cases e:s=r∧2≤r
  ·rw[e.1];exact h.is
  ·rw[if_neg e]at this;omega
 ·exact .inl ⟨s,h0,h.fn s (hm s h0)⟩
section
variable {kp:Nat}
theorem Re{n:Nat}{U:aZ.Fn→Prop}{ku:Nat}(hU:pc U ku){ord ax:List Nat}{o:Value}(hn:n≤16):
  ∀(k l:Nat) (K:Kd) (S:Nat→aZ.Fn) (C Y:Hp) (v:Value) (t:List Nat),n-l≤k→l≤n→K.n=n→ku+2≤K.cap→lR kp K S ord ax [] C→bW .i64 Y o (iw ord)→j5 Y v ⟨n,t⟩→aj.cB n t→
  (∀j,j<l→¬gQ (eL n t) (ord.getD j 0))→(∀g,cr n ord (K.held S) g→U g)→(∀g,cr n ord (fun g=>g=eL n t) g→U g)→(∀s,K.hold s+(n-l)+1≤65535)→
  Fc Tryz.prog 123 #[ptr kp,o,v,.int .i64 (l:Int)] (Y++C) (fun w H=>∃r K' S' C',w=.tuple #[u32 r,.int .i64 0]∧H=Y++C'∧lR kp K' S' ord ax [] C'∧AP K S K' S' (eL n t) r):=by
 intro k
 induction k with
 |zero=>
  intro l K S C Y v t hk hl S6 hcap hK ho ht hf QS hU1 Wh hB
  obtain rfl:l=n:=by omega
  obtain⟨s0,rfl,oP⟩:=ht
  have hlen:=hK.od.len
  have n8:=Ai (n:=l) (ws:=t) fun v hv hh=>by
   have:=hK.od.of hK.ok.lv (v:=v) (by omega)
   have hlv:=hK.ok.lv.lt v (by omega)
   exact QS _ (by rw[←S6];exact hlv) (by rw[this];exact hh)
  have hc:t=cA l false∨t=cA l true:=by
   cases e:eL l t 0 with
   |false=>exact .inl ((eJ hn hf false).2 (funext fun x=>(n8 x).trans e))
   |true=>exact .inr ((eJ hn hf true).2 (funext fun x=>(n8 x).trans e))
  intro g
  refine uO (R:=aF _) ?_
  unfold L123
  intro b1 _
  refine az.whole (r:=[.int .i64 (l:Int),s0]) (by exact .head _) rfl ?_
  refine ag.rd (.cons .left) (lp (v:=.agg (List.toArray [.int .i64 (l:Int),s0])) (n:=l) (ws:=t) ⟨s0,rfl,oP⟩ hf) ?_
  rintro v rfl
  refine Br.gf hc ?_
  refine az.whole (r:=[.int .i64 (l:Int),s0]) (by exact .head _) rfl ?_
  refine ag.rd (B:=Y) (args:=#[.agg (List.toArray [.int .i64 (l:Int),s0]),.int .i64 ((0:Nat):Int)]) (.cons .left) (sk (n:=l) (x:=0) (ws:=t) ⟨s0,rfl,oP⟩ hf (Nat.two_pow_pos _)) ?_
  rintro v rfl
  have hi:=hK.ok.mid.int
  have h0:aj.bit t 0=eL l t 0:=Y2
  rw[h0]
  refine Br.mk (fun hb=>?_) (fun hb=>?_)
  ·exact aF.mk .tail ⟨1,K,S,C,rfl,rfl,hK,rfl,rfl,fun _ _ h=>h,fun _ _=>rfl,.inl (by omega),funext fun x=>by rw[hi.one,n8 x,hb],fun s=>by simp⟩
  ·exact aF.mk .tail ⟨0,K,S,C,rfl,rfl,hK,rfl,rfl,fun _ _ h=>h,fun _ _=>rfl,.inl (by omega),funext fun x=>by rw[hi.zero,n8 x,hb],fun s=>by simp⟩
 |succ k ih=>
  intro l K S C Y v t hk hl S6 hcap hK ho ht hf QS hU1 Wh hB
  obtain⟨s0,rfl,oP⟩:=ht
  have hlen:ord.length=n:=by rw[hK.od.len,S6]
  intro g
  refine uO (R:=aF _) ?_
  unfold L123
  intro b1 _
  refine az.whole (r:=[.int .i64 (n:Int),s0]) (by exact .head _) rfl ?_
  refine ag.rd (.cons .left) (lp (v:=.agg (List.toArray [.int .i64 (n:Int),s0])) (n:=n) (ws:=t) ⟨s0,rfl,oP⟩ hf) ?_
  rintro v rfl
  refine Br.dec (fun hc=>?_) (fun hc=>?_)
  ·refine az.whole (r:=[.int .i64 (n:Int),s0]) (by exact .head _) rfl ?_
   refine ag.rd (B:=Y) (args:=#[.agg (List.toArray [.int .i64 (n:Int),s0]),.int .i64 ((0:Nat):Int)]) (.cons .left) (sk (n:=n) (x:=0) (ws:=t) ⟨s0,rfl,oP⟩ hf (Nat.two_pow_pos _)) ?_
   rintro v rfl
   have hi:=hK.ok.mid.int
   have h0:aj.bit t 0=eL n t 0:=Y2
   rw[h0]
   have n8:∀x,eL n t x=eL n t 0:=fun x=>by
    rcases hc with rfl|rfl
    ·rw[gv]
    ·rw[gv]
   refine Br.mk (fun hb=>?_) (fun hb=>?_)
   ·exact aF.mk .tail ⟨1,K,S,C,rfl,rfl,hK,rfl,rfl,fun _ _ h=>h,fun _ _=>rfl,.inl (by omega),funext fun x=>by rw[hi.one,n8 x,hb],fun s=>by simp⟩
   ·exact aF.mk .tail ⟨0,K,S,C,rfl,rfl,hK,rfl,rfl,fun _ _ h=>h,fun _ _=>rfl,.inl (by omega),funext fun x=>by rw[hi.zero,n8 x,hb],fun s=>by simp⟩
  ·obtain⟨u,hun,hud⟩:=Vi hn hf (fun e=>hc (.inl e)) (fun e=>hc (.inr e))
   have xR:=hK.ok.lv.lt u (by omega)
   have huo:ord.getD (lv ax u) 0=u:=hK.od.of hK.ok.lv (by omega)
   refine⟨fun vs H=>∃i:Nat,vs=[.int .i64 (i:Int)]∧H=(b1,.cells #[.int .i64 (n:Int),s0] 57 (0,0))::(Y++C)∧l≤i∧i≤lv ax u∧∀j,j<i→¬gQ (eL n t) (ord.getD j 0),fun vs _=>n-bg vs 0,JE.mk ⟨l,rfl,rfl,Nat.le_refl _,?_,QS⟩,?_⟩
   ·refine Classical.byContradiction fun hlt=>?_
    exact QS _ (Nat.lt_of_not_le hlt) (by rw[huo];exact(iZ hf hun).2 hud)
   rintro nY H ⟨i,hv,rfl,V2,hiu,GF⟩ gs
   simp only[List.cons.injEq,and_true]at hv
   subst hv
   have hin:i<n:=by omega
   have hov:=hK.od.bB i (by omega)
   have jA:ord.getD i 0<n:=by have:=hov.1;omega
   have VW:(iw ord)[i]? =some ((ord.getD i 0:Nat):Int):=bF (by omega)
   refine DR.self ?_
   refine az.whole (r:=[.int .i64 (n:Int),s0]) (by exact .head _) rfl ?_
   refine ho.ld VW (fun _ h=>.tail _ (List.mem_append_left _ h)) ?_
   refine ag.rd (.cons .left) (ue (v:=.agg (List.toArray [.int .i64 (n:Int),s0])) (n:=n) (ws:=t) ⟨s0,rfl,oP⟩ hf jA) ?_
   rintro v rfl
   refine Un.not ?_
   by_cases hd:aj.dep n t (ord.getD i 0)=true
   rotate_left
   ·have ej:aj.dep n t (ord.getD i 0)=false:=by cases h:aj.dep n t (ord.getD i 0);rfl;exact absurd h hd
    rw[ej]
    refine Br.yes ?_
    refine ae.aH (b:=1) (by simp[aB];omega) ?_
    refine ay.of (.refl _) ⟨i+1,rfl,rfl,by omega,?_,fun j hj=>?_⟩ (by simp only[bg];omega)
    ·refine Classical.byContradiction fun hlt=>?_
     have:i=lv ax u:=by omega
     subst this
     rw[huo]at hd;exact hd hud
    ·by_cases e:j=i
     ·subst e;exact fun hh=>hd ((iZ hf jA).1 hh)
     ·exact GF j (by omega)
   rw[hd]
   refine Br.no ?_
   have SJ:gQ (eL n t) (ord.getD i 0):=(iZ hf jA).2 hd
   refine DR.of (R:=(b1,.cells #[.int .i64 (n:Int),s0] 57 (0,0))::Y) (.cons .left) ?_
   refine az.whole (r:=[.int .i64 (n:Int),s0]) (by exact .head _) rfl ?_
   refine ho.ld VW (fun _ h=>.tail _ h) ?_
   refine ae.aH (b:=1) (by simp[aB];omega) ?_
   refine ag.px (B:=Y) (.cons .left) (ny (c:=false) (v:=.agg (List.toArray [.int .i64 (n:Int),s0])) (n:=n) (ws:=t) ⟨s0,rfl,oP⟩ hf jA) ?_
   rintro v1 N1 AZ
   refine⟨.cons (aO.left.trans aO.right),?_⟩
   have hf1:=aj.cH (v:=ord.getD i 0) (ws:=t) (b:=false) (n:=n) hn
   obtain⟨i1,WX⟩:=vO (n:=n) (c:=eL n (aj.ed n t (ord.getD i 0) false)) GF (jR hf jA false)
   refine ag.fn (C:=(N1++Y)++C) (.cons .here) (ih (i+1) K S C (N1++Y) v1 _ (by omega) (by omega) S6 hcap hK (ho.mono fun _ h=>List.mem_append_right _ h) AZ hf1 i1 hU1 (fun g hg=>Wh g (WX g hg)) (fun s=>by have:=hB s;omega)) ?_
   rintro w H ⟨r1,K1,S1,C1,rfl,rfl,u7,g1⟩
   refine⟨.cons (aO.left.trans aO.right),?_⟩
   refine Ext.mk rfl (Ext.mk rfl ?_)
   refine ae.dX (Br.cq (by decide) ?_)
   refine DR.of (R:=(b1,.cells #[.int .i64 (n:Int),s0] 57 (0,0))::Y) (.cons (aO.left.trans aO.right)) ?_
   refine az.whole (r:=[.int .i64 (n:Int),s0]) (by exact .head _) rfl ?_
   refine ho.ld VW (fun _ h=>.tail _ h) ?_
   refine ae.aH (b:=1) (by simp[aB];omega) ?_
   refine ag.px (B:=N1++Y) (.cons .left) (ny (c:=true) (v:=.agg (List.toArray [.int .i64 (n:Int),s0])) (n:=n) (ws:=t) ⟨s0,rfl,oP.mono fun _ h=>List.mem_append_right _ h⟩ hf jA) ?_
   rintro v2 N2 So
   refine⟨.cons (aO.left.trans (.bN .right)),?_⟩
   have O8:=aj.cH (v:=ord.getD i 0) (ws:=t) (b:=true) (n:=n) hn
   obtain⟨i2,WW⟩:=vO (n:=n) (c:=eL n (aj.ed n t (ord.getD i 0) true)) GF (jR hf jA true)
   have acU:∀s,K.hold s≠0→live K.N s:=fun s hs=>.inr (hK.ok.mid.held s hs)
   have Yo:∀g,cr n ord (K1.held S1) g→U g:=fun g hg=>by
    rcases(zw g).1 (nD (g1.held acU) hg)with h|h
    ·exact hU1 g h
    ·exact Wh g (WX g h)
   have hh1:∀s,K1.hold s≤K.hold s+1:=fun s=>by have:=g1.hold s;split at this<;>omega
   refine ag.fn (C:=(N2++(N1++Y))++C1) (.cons .here) (ih (i+1) K1 S1 C1 (N2++(N1++Y)) v2 _ (by omega) (by omega) (g1.n.trans S6) (by rw[g1.cap];exact hcap) u7 (ho.mono zS) So O8 i2 Yo (fun g hg=>Wh g (WW g hg)) (fun s=>by have:=hB s;have:=hh1 s;omega)) ?_
   rintro w H ⟨r2,K2,S2,C2,rfl,rfl,tR,g2⟩
   refine⟨.cons (aO.left.trans (.bN .right)),?_⟩
   refine Ext.mk rfl (Ext.mk rfl ?_)
   refine ae.dX (Br.cq (by decide) ?_)
   refine ho.ld VW (fun _ h=>.tail _ (List.mem_append_left _ (List.mem_append_right _ (List.mem_append_right _ h)))) ?_
   have l1:live K2.N r1:=by
    by_cases h2:r1<2
    ·exact .inl h2
    ·refine .inr (tR.ok.mid.held r1 ?_)
     have a:=g1.hold r1
     have b:=g2.hold r1
     rw[if_pos ⟨rfl,by omega⟩]at a
     omega
   have l2:=g2.live
   have e1:S2 r1=eL n (aj.ed n t (ord.getD i 0) false):=(g2.fn r1 g1.live).trans g1.is
   have e2:S2 r2=eL n (aj.ed n t (ord.getD i 0) true):=g2.is
   have hne:r1≠r2:=fun e=>by
    subst e
    rw[e1,jR hf jA,jR hf jA]at e2
    obtain⟨x,hx⟩:=SJ
    exact hx (congrFun e2 x)
   have n2:K2.n=n:=by rw[g2.n,g1.n,S6]
   have Z2:lv ax (ord.getD i 0)=i:=hov.2
   have b1':=tR.ok.below tR.od (l:=i+1) l1 (by omega) (by rw[e1];exact i1)
   have b2':=tR.ok.below tR.od (l:=i+1) l2 (by omega) (by rw[e2];exact i2)
   have X0:ite S2 ⟨ord.getD i 0,r1,r2⟩=eL n t:=by
    funext x
    unfold aZ.ite
    rw[e1,e2,jR hf jA,jR hf jA]
    conv=>rhs;rw[←aj.qx x (ord.getD i 0)]
    simp only
    cases x.testBit (ord.getD i 0)<;>rfl
   have X2:∀s,K2.hold s≤K.hold s+1:=fun s=>by
    have a:=g1.hold s
    have b:=g2.hold s
    by_cases c1:s=r1∧2≤r1
    ·rw[if_neg (fun c2=>hne (c1.1.symm.trans c2.1))]at b
     rw[if_pos c1]at a;omega
    ·rw[if_neg c1]at a;split at b<;>omega
   have acT:∀s,K1.hold s≠0→live K1.N s:=fun s hs=>.inr (u7.ok.mid.held s hs)
   have ads:∀g,cr n ord (K2.held S2) g→U g:=fun g hg=>by
    rcases(zw g).1 (nD (g2.held acT) hg)with h|h
    ·exact Yo g h
    ·exact Wh g (WW g h)
   refine ag.fn (.cons (.app .here)) (Qh tR (v:=ord.getD i 0) (by omega) l1 l2 (.inr ⟨by rw[Z2];omega,by rw[Z2];omega⟩)) ?_
   rintro w C3 (⟨r,K3,S3,rfl,CB,m⟩|⟨r,rfl,rfl,hl,h2,hfull,_⟩|⟨rfl,rfl,UZ,_,hT⟩)
   rotate_left
   ·have:=X2 r;have:=hB r;omega
   ·exfalso
    have:=tR.ok.roomFor tR.od hU (by rw[g2.cap,g1.cap];exact hcap) (by rw[n2];exact ads) (d:=⟨ord.getD i 0,r1,r2⟩) l1 l2 hne (by rw[n2];exact jA) ⟨by show lv ax (ord.getD i 0)<dep K2.n (lv ax) K2.N r1;rw[Z2];omega,by show lv ax (ord.getD i 0)<dep K2.n (lv ax) K2.N r2;rw[Z2];omega⟩ (by rw[X0];exact Wh _ (HF GF hin SJ)) hT
    omega
   refine Ext.mk rfl (Ext.mk rfl ?_)
   have aiw:=tR.fN l1
   have aiv:=tR.fN l2
   have MT:∀s,K2.hold s=K.hold s+(if s=r1∧2≤r1 then 1 else 0)+(if s=r2∧2≤r2 then 1 else 0):=fun s=>by rw[g2.hold,g1.hold]
   have Sy:∀s,K2.hold s≤K3.hold s:=fun s=>by rw[m.hold];split<;>omega
   refine ag.fn (.cons (.app .here)) (GM CB (r:=r1) (by omega) (fun h2=>by have:=Sy r1;have:=MT r1;rw[if_pos ⟨rfl,h2⟩]at this;omega)) ?_
   rintro w C4 ⟨rfl,K4,YC,f4⟩
   refine ag.fn (.cons (.app .here)) (GM YC (r:=r2) (by omega) (fun h2=>by
    have:=Sy r2;have:=MT r2;have h4:=f4.hold r2
    rw[if_neg (fun h=>hne h.1.symm)]at h4
    rw[if_neg (fun h=>hne h.1.symm),if_pos ⟨rfl,h2⟩]at this;omega)) ?_
   rintro w C5 ⟨rfl,K5,Pb,f5⟩
   have MS:∀s,K5.hold s=K.hold s+if s=r∧2≤r then 1 else 0:=fun s=>by
    rw[f5.hold,f4.hold,m.hold,MT]
    by_cases c1:s=r1∧2≤r1
    ·have c2:¬(s=r2∧2≤r2):=fun c2=>hne (c1.1.symm.trans c2.1)
     rw[if_neg c2,if_pos c1,if_neg c2]
     split<;>omega
    ·by_cases c2:s=r2∧2≤r2
     ·rw[if_pos c2,if_neg c1,if_neg c1]
      split<;>omega
     ·rw[if_neg c2,if_neg c1,if_neg c1,if_neg c2]
      split<;>omega
   have l5:live K5.N r:=by
    by_cases h2:r<2
    ·exact .inl h2
    ·refine .inr (Pb.ok.mid.held r ?_)
     rw[MS,if_pos ⟨rfl,by omega⟩];omega
   refine aF.mk (lT:=Y++C5) (.skip (aO.frame (.bN .right) C5)) ⟨r,K5,S3,C5,rfl,rfl,Pb,by rw[f5.n,f4.n,m.n,g2.n,g1.n],by rw[f5.cap,f4.cap,m.cap,g2.cap,g1.cap],fun s d hs=>B6 hK.ok Pb.ok (fun s h=>by rw[MS];omega) (fun s d d' h h'=>?_) _ s d hs (Nat.le_refl _),fun s hs=>?_,l5,by rw[m.is,X0],MS⟩
   ·have a:=m.N s d (g2.N s d (g1.N s d h))
    have b:=f4.N s d' (f5.N s d' h')
    rw[a]at b;exact(Option.some.inj b).symm
   ·have q1:=qD g1.N hs
    have q2:=qD g2.N q1
    rw[m.fn s q2,g2.fn s q1,g1.fn s hs]
end
end Go.Proofs
namespace aZ
open aj
structure sK(K:Kd)(S:Nat→Fn)(held:List (List Nat×Nat)):Prop where
 nd:(held.map Prod.fst).Nodup
 kR:∀e∈held,cB K.n e.1
 rt:∀r,K.hold r≠0→∃e∈held,eL K.n e.1=S r∧e.2=K.hold r
 lf:∀e∈held,∃r,2≤r∧K.hold r=e.2∧e.2≠0∧S r=eL K.n e.1
section
variable {K:Kd} {S:Nat→Fn} {ax:Nat→Nat} {ord:List Nat} {held:List (List Nat×Nat)}
theorem sK.iff(h:sK K S held)(g:Fn):K.held S g↔FT K.n (held.map Prod.fst) g:=by
 constructor
 ·rintro⟨r,hr,rfl⟩
  obtain⟨e,he,h1,_⟩:=h.rt r hr
  exact⟨e.1,List.mem_map.2 ⟨e,he,rfl⟩,h1.symm⟩
 ·rintro⟨t,ht,rfl⟩
  obtain⟨e,he,rfl⟩:=List.mem_map.1 ht
  obtain⟨r,_,h1,h2,h3⟩:=h.lf e he
  exact⟨r,fun h0=>h2 (by rw[←h1];exact h0),h3.symm⟩
theorem sK.xZ(h:sK K S held):K.held S=FT K.n (held.map Prod.fst):=funext fun g=>propext (h.iff g)
theorem sK.roots(h:sK K S held)(hok:Ok K S ax)(hm:K.ho.length≤1048576):((List.range K.ho.length).filter fun r=>decide (0<K.hold r)).length=held.length:=by
 let rts:=(List.range K.ho.length).filter fun r=>decide (0<K.hold r)
 have hr:∀r,r∈rts↔K.hold r≠0:=fun r=>by
  show r∈List.filter _ _↔_
  rw[List.mem_filter,List.mem_range,decide_eq_true_iff]
  constructor
  ·rintro⟨_,h⟩;omega
  ·intro h
   refine⟨?_,by omega⟩
   obtain⟨d,hd⟩:=hok.mid.held r h
   have:=hok.mid.fit hd
   rw[←hok.mid.len];exact this
 have hl:∀r,K.hold r≠0→live K.N r:=fun r h=>.inr (hok.mid.held r h)
 have n1:(rts.map S).Nodup:=List.pairwise_map.2 ((List.nodup_range.filter _).imp_of_mem fun{a b} ha hb hne heq=>hne (hok.wf.same hok.lv hok.mid.int (hl a ((hr a).1 ha)) (hl b ((hr b).1 hb)) (congrFun heq)))
 have n2:((held.map Prod.fst).map (eL K.n)).Nodup:=List.pairwise_map.2 (h.nd.imp_of_mem fun{a b} ha hb hne heq=>by
  obtain⟨e,he,rfl⟩:=List.mem_map.1 ha
  obtain⟨e',he',rfl⟩:=List.mem_map.1 hb
  exact hne (lC (h.kR e he) (h.kR e' he') heq))
 have s1:=bZ n1 (l':=(held.map Prod.fst).map (eL K.n)) fun g hg=>by
  obtain⟨r,hr',rfl⟩:=List.mem_map.1 hg
  obtain⟨e,he,h1,_⟩:=h.rt r ((hr r).1 hr')
  exact List.mem_map.2 ⟨e.1,List.mem_map.2 ⟨e,he,rfl⟩,h1⟩
 have s2:=bZ n2 (l':=rts.map S) fun g hg=>by
  obtain⟨t,ht,rfl⟩:=List.mem_map.1 hg
  obtain⟨e,he,rfl⟩:=List.mem_map.1 ht
  obtain⟨r,_,h1,h2,h3⟩:=h.lf e he
  exact List.mem_map.2 ⟨r,(hr r).2 (by rw[h1];exact h2),h3⟩
 simp only[List.length_map]at s1 s2
 show rts.length=held.length
 omega
theorem sK.count(h:sK K S held)(hok:Ok K S ax){r:Nat}{t:List Nat}(hr:live K.N r)(ht:eL K.n t=S r)(hf:cB K.n t):
  (∀e∈held,e.1=t→e.2=K.hold r)∧(t∉held.map Prod.fst→K.hold r=0):=by
 refine⟨fun e he h1=>?_,fun hno=>?_⟩
 ·obtain⟨r',_,h2,h3,h4⟩:=h.lf e he
  have hr':live K.N r':=.inr (hok.mid.held r' (by rw[h2];exact h3))
  have:r'=r:=hok.wf.same hok.lv hok.mid.int hr' hr (congrFun (by rw[h4,h1,ht]))
  rw[←this,h2]
 ·refine Classical.byContradiction fun h0=>?_
  obtain⟨e,he,h1,_⟩:=h.rt r h0
  exact hno (List.mem_map.2 ⟨e,he,lC (h.kR e he) hf (h1.trans ht.symm)⟩)
theorem sK.none(hn:∀r,K.hold r=0):sK K S []:=⟨by simp,by simp,fun r h=>absurd (hn r) h,by simp⟩
theorem sK.same{K':Kd}{S':Nat→Fn}(h:sK K S held)(hn:K'.n=K.n)(hh:∀r,K'.hold r=K.hold r)(hs:∀r,K.hold r≠0→S' r=S r):sK K' S' held:=by
 refine⟨h.nd,by rw[hn];exact h.kR,fun r hr=>?_,fun e he=>?_⟩
 ·rw[hh]at hr
  obtain⟨e,he,h1,h2⟩:=h.rt r hr
  exact⟨e,he,by rw[hn,h1,hs r hr],by rw[h2,hh]⟩
 ·obtain⟨r,h0,h1,h2,h3⟩:=h.lf e he
  exact⟨r,h0,by rw[hh,h1],h2,by rw[hs r (by rw[h1];exact h2),hn,h3]⟩
theorem yZ{n l:Nat}{F:Fn→Prop}(h:∀g,¬F g):yJ n ord l F=0:=by
 refine Bw (pc.none.congr fun g=>⟨False.elim,fun hg=>?_⟩)
 have key:∀ord k g,¬fs ord F k g:=fun ord k=>by
  induction k with
  |zero=>exact h
  |succ k ih=>rintro g ⟨f,hf,_⟩;exact ih f hf
 rcases hg with⟨k,_,hf,_⟩|⟨k,_,hf,_⟩
 ·exact key _ _ _ hf
 ·exact key _ _ _ hf
end
end aZ
set_option maxRecDepth 100000
namespace Go.Proofs
open Go Go.Sx
open aZ
def L5(kp mp:Nat)(vr vt:Value):Value:=.agg #[ptr kp,ptr mp,vr,vt]
structure oW(mp:Nat)(vr vt:Value)(K:Kd)(S:Nat→aZ.Fn)(ord tr:List Nat)(M:Md)(refs:List Nat)(ts:List (List Nat))(Y:Hp):Prop where
 md:Dk mp M Y
 NP:M.oZ
 n:M.n=K.n
 ord:M.ord=ord
 ZW:M.tr.length=tr.length
 ri:bW .u32 Y vr (iw refs)
 cw:cT Y vt (gy K.n ts)
 len:refs.length=ts.length
 Kw:sK K S M.held
 each:∀(i:Nat) (r:Nat) (t:List Nat),refs[i]? =some r→ts[i]? =some t→aj.cB K.n t∧eL K.n t=S r∧((r<2∧S r=fun _=>decide (r=1))∨K.hold r≠0)
 IU:refs.length≤65536
section
variable {kp mp:Nat} {vr vt:Value} {K:Kd} {S:Nat→aZ.Fn} {ord tr:List Nat} {M:Md} {refs:List Nat} {ts:List (List Nat)} {Y C:Hp}
theorem Ic(h:oW mp vr vt K S ord tr M refs ts Y):bC K S ord=dW M.n M.ord M.cw M.n:=by
 have h1:=h.NP
 unfold bC
 rw[h.Kw.xZ,←h.n,←h.ord]
 exact Gd h1.kR h1.lN h1.lt
theorem Oz(hA:At kp K S ord tr C)(h:oW mp vr vt K S ord tr M refs ts Y)(ig:tr.length≤1099511627776):Rd Tryz.prog 125 #[L5 kp mp vr vt] (Y++C) (· =.bool true):=by
 obtain⟨K',S',fC,hK,hk⟩:=hA
 have hM:=h.NP
 have qK:K.n≤16:=by rw[←h.n];exact hM.lN
 have hn':K'.n≤16:=by rw[hk.n];exact qK
 have XR:sK K' S' M.held:=h.Kw.same hk.n hk.hold hk.fn
 have af1:ord.length=K.n:=by rw[hK.od.len,hk.n]
 have af7:=hM.IU
 have hAt:At kp K S ord tr C:=⟨K',S',fC,hK,hk⟩
 have tK:vr.oneCell'=true:=by obtain⟨a,c,e,_⟩:=h.ri.shape;rw[e];rfl
 have tJ:vt.oneCell'=true:=by obtain⟨rs,h1,_⟩:=h.cw;obtain⟨a,c,e,_⟩:=h1.shape;rw[e];rfl
 intro g
 refine Fl (R:=aF _) ?_
 unfold L125
 intro b1 _
 show∀J3:List Value→Hp→Prop,_
 intro J3 Wj
 have MV:=h.md
 have fin:J3 [.bool false] ((b1,.cells #[ptr kp,ptr mp,vr,vt] 98 (0,0))::(Y++C)):=by
  refine Wj _ _ fun gs=>Br.no ?_
  refine aa.mk (Ld.mk (v:=vr) (by exact .head _) rfl ?_)
  refine h.ri.aR ?_
  rw[an]
  refine⟨fun vs H=>∃i:Nat,vs=[.int .i64 (i:Int)]∧i≤refs.length∧H=(b1,.cells #[ptr kp,ptr mp,vr,vt] 98 (0,0))::(Y++C),fun vs _=>refs.length-bg vs 0,JE.mk ⟨0,rfl,Nat.zero_le _,rfl⟩,?_⟩
  rintro kP H ⟨i,hv,hi,rfl⟩ gs
  simp only[List.cons.injEq,and_true]at hv
  subst hv
  have Cq:=h.IU
  refine ae.dz (Br.dec (fun hlt=>?_) (fun hlt=>?_))
  rotate_left
  ·exact bO.mk .tail rfl
  have xU:refs[i]? =some refs[i]:=List.getElem?_eq_getElem hlt
  have Z8:ts[i]? =some (ts[i]'(by rw[←h.len];exact hlt)):=List.getElem?_eq_getElem _
  obtain⟨O7,hfn,SI⟩:=h.each i _ _ xU Z8
  generalize ht:(ts[i]'(by rw[←h.len];exact hlt))=t at*
  generalize hr:refs[i]=r at*
  have z5:live K'.N r:=by
   rcases SI with h2|h2
   ·exact .inl h2.1
   ·exact .inr (hK.ok.mid.held r (by rw[hk.hold];exact h2))
  have hS:S' r=eL K.n t:=by
   rcases SI with h2|h2
   ·rw[hfn,h2.2]
    have i1:=hK.ok.mid.int
    have:r=0∨r=1:=by omega
    funext x
    rcases this with rfl|rfl
    ·exact i1.zero x
    ·exact i1.one x
   ·rw[hk.fn r h2,hfn]
  have u5:=hK.fN z5
  refine h.ri.ld (n:=((r:Nat):Int)) (by rw[cj xU]) (fun _ h=>.tail _ (List.mem_append_left _ h)) ?_
  obtain⟨vo,vh,Tp,rs,hR⟩:=MV
  refine DR.self ?_
  refine aa.mk (Ld.mk (v:=ptr kp) (by exact .head _) rfl ?_)
  refine aa.mk (Ld.mk (v:=ptr mp) (by exact .head _) rfl ?_)
  refine Nil.ptr (aa.mk (Ld.mk (v:=.int .i64 (M.n:Int)) (.tail _ (List.mem_append_left _ hR.GS)) rfl ?_))
  rw[show M.n=K'.n by rw[h.n,hk.n]]
  intro F26
  refine ag.px (B:=((b1,Obj.cells #[ptr kp,ptr mp,vr,vt] 98 (0,0))::Y)++C) .here (Lv hK hn' _ r 0 _ (Nat.le_refl _) z5 (Nat.zero_le _)) ?_
  rintro v N ⟨_,ws,rfl,⟨s,rfl,QA⟩,hfw,hew⟩
  have ach:ws=t:=lC hfw (by rw[hk.n];exact O7) (by rw[hew,hS,hk.n])
  subst ach
  have hos:=aD QA
  refine⟨.right,?_⟩
  refine Ext.mk rfl (Ext.mk rfl ?_)
  intro Jl _ F33
  refine St.whole (r:=[.int .i64 (K'.n:Int),s]) (by exact .head _) rfl rfl (by simpa[Value.oneCell']using hos) ?_
  refine⟨.skip .right,?_⟩
  intro G5 adF
  have ad9:G5 [.bool false] ((Jl,.cells (List.toArray [.int .i64 (K'.n:Int),s]) 57 (0,0))::(N++(((b1,Obj.cells #[ptr kp,ptr mp,vr,vt] 98 (0,0))::Y)++C))):=by
   refine adF _ _ fun gs=>Br.no ?_
   refine ae.aH (b:=1) (by simp[aB];omega) ?_
   exact ay.of (.skip .right) ⟨i+1,rfl,hlt,rfl⟩ (by simp only[bg];omega)
  refine DR.self ?_
  refine Un.not (Br.no ?_)
  refine az.whole (r:=[.int .i64 (K'.n:Int),s]) (by exact .head _) rfl ?_
  refine aa.mk (Ld.mk (v:=vt) (by exact .tail _ (List.mem_append_right _ (.head _))) rfl ?_)
  refine h.cw.ld (kU Z8) (fun _ h=>.tail _ (List.mem_append_right _ (.tail _ (List.mem_append_left _ h)))) fun s2 mI=>?_
  intro F47
  have O6:=fQ hfw
  refine ag.rd .here (kV (v1:=.agg (List.toArray [.int .i64 (K'.n:Int),s])) (v2:=.agg #[.int .i64 (K.n:Int),s2]) (a:=⟨K'.n,ws⟩) (b:=⟨K.n,ws⟩) ⟨s,rfl,QA.mono fun _ h=>.tail _ h⟩ ⟨s2,rfl,mI.mono fun _ h=>.tail _ (List.mem_append_right _ (.tail _ (List.mem_append_left _ h)))⟩ (by show ws.length<_;omega)) ?_
  rintro v rfl
  refine⟨.refl _,?_⟩
  rw[decide_eq_true (by rw[hk.n])]
  refine Un.not (aA.mk (Br.no ?_))
  refine aa.mk (Ld.mk (v:=ptr kp) (by exact .tail _ (List.mem_append_right _ (.head _))) rfl ?_)
  refine aa.mk (Ld.mk (v:=ptr mp) (by exact .tail _ (List.mem_append_right _ (.head _))) rfl ?_)
  refine az.whole (r:=[.int .i64 (K'.n:Int),s]) (by exact .head _) rfl ?_
  intro F57
  refine ag.rd (B:=C) (.cons (.app (.app .here))) (tE hK.rep (by omega) (fun s=>by have:=hK.jQ s;omega)) ?_
  rintro v rfl
  refine⟨.refl _,?_⟩
  intro F60
  refine ag.rd .here (MR (mp:=mp) (M:=M) (Dk.mono ⟨vo,vh,Tp,rs,hR⟩ fun _ h=>.tail _ (List.mem_append_right _ (.tail _ (List.mem_append_left _ h)))) hM (v:=.agg (List.toArray [.int .i64 (K'.n:Int),s])) (t:=ws) ⟨s,by rw[h.n,hk.n],QA.mono fun _ h=>.tail _ h⟩ (by rw[h.n,←hk.n];exact hfw)) ?_
  intro v U0
  refine⟨.refl _,?_⟩
  obtain⟨c1,c2⟩:=XR.count hK.ok z5 hew hfw
  have Sk:v=.int .i64 ((K'.hold r:Nat):Int):=by
   rcases U0 with⟨e,he,h1,h2⟩|⟨h1,h2⟩
   ·rw[h2,c1 e he h1]
   ·rw[h2,c2 h1];rfl
  subst Sk
  refine ae.pH ?_
  rw[decide_eq_false (fun hh=>hh rfl)]
  exact aA.mk (JE.mk ad9)
 obtain⟨vo,vh,Tp,rs,hR⟩:=h.md
 have hin:∀x∈Y,x∈(b1,Obj.cells #[ptr kp,ptr mp,vr,vt] 98 (0,0))::(Y++C):=fun _ h=>.tail _ (List.mem_append_left _ h)
 refine DR.self ?_
 refine aa.mk (Ld.mk (v:=ptr kp) (by exact .head _) rfl ?_)
 refine aa.mk (Ld.mk (v:=ptr mp) (by exact .head _) rfl ?_)
 refine Nil.ptr (aa.mk (Ld.mk (v:=vo) (hin _ hR.GS) rfl ?_))
 intro F73
 refine ag.fn (.cons (.app .here)) (AH hAt) ?_
 rintro v H ⟨N,rfl,ho⟩
 refine⟨.cons (.cL .right _),?_⟩
 intro F76
 have hY:∀x∈Y,x∈(b1,Obj.cells #[ptr kp,ptr mp,vr,vt] 98 (0,0))::(Y++(N++C)):=fun _ h=>.tail _ (List.mem_append_left _ h)
 refine ag.rd .here (Mx (ho.ints.mono fun _ h=>.tail _ (List.mem_append_right _ (List.mem_append_left _ h))) (hR.ord.mono hY) (by rw[an];omega)) ?_
 rintro v rfl
 refine⟨.cons (.cL .right _),?_⟩
 rw[decide_eq_true (by rw[h.ord])]
 refine Un.not (Br.no ?_)
 refine aa.mk (Ld.mk (v:=ptr kp) (by exact .head _) rfl ?_)
 refine aa.mk (Ld.mk (v:=ptr mp) (by exact .head _) rfl ?_)
 refine Nil.ptr (aa.mk (Ld.mk (v:=Tp) (hin _ hR.GS) rfl ?_))
 refine hR.tr.aR ?_
 intro F88
 refine ag.rd (B:=C) (.cons (.app (.app .here))) (kI hAt) ?_
 rintro v rfl
 refine⟨.cons (.cL .right _),?_⟩
 refine ae.pH ?_
 rw[an,h.ZW,decide_eq_false (fun hh=>hh rfl)]
 refine aA.mk (Br.no ?_)
 refine aa.mk (Ld.mk (v:=ptr kp) (by exact .head _) rfl ?_)
 refine aa.mk (Ld.mk (v:=ptr mp) (by exact .head _) rfl ?_)
 intro F97
 refine ag.rd (B:=C) (.cons (.app (.app .here))) (cM hAt) ?_
 rintro v rfl
 refine⟨.cons (.cL .right _),?_⟩
 intro ZN
 refine ag.rd (B:=Y) (.cons .left) (Mg h.md hM) ?_
 rintro v rfl
 refine⟨.cons (.cL .right _),?_⟩
 refine ae.pH ?_
 rw[Ic h,decide_eq_false (fun hh=>hh rfl)]
 refine aA.mk (Br.no ?_)
 refine aa.mk (Ld.mk (v:=ptr kp) (by exact .head _) rfl ?_)
 refine aa.mk (Ld.mk (v:=ptr mp) (by exact .head _) rfl ?_)
 refine Nil.ptr (aa.mk (Ld.mk (v:=vh) (hin _ hR.GS) rfl ?_))
 refine hR.sl.aR ?_
 rw[hR.each.1]
 intro ZM
 refine ag.rd (B:=C) (.cons (.app (.app .here))) (LQ hK) ?_
 rintro v ⟨q,hq,hqe⟩
 refine⟨.cons (.cL .right _),?_⟩
 refine hq _ ?_
 obtain⟨b,_,hO⟩:=hK.rep
 have xR:=hO.ul
 rw[XR.roots hK.ok (by omega)]at hqe
 subst hqe
 refine ae.pH ?_
 rw[decide_eq_false (fun hh=>hh rfl)]
 exact aA.mk (JE.of (.cons (.cL .right _)) fin)
end
end Go.Proofs
set_option maxRecDepth 100000
namespace Go.Proofs
open Go Go.Sx
open aZ
def tS(n c:Nat)(ord:List Nat):aj.Fs→aj.Fs→aj.Fs
 |A,[]=>A
 |A,t::L=>tS n c ord (if 2+dW n ord (A++[t]) n≤c∧¬(t=cA n false∨t=cA n true)∧t∉A then A++[t]else A) L
theorem oQ{n c:Nat}{ord:List Nat}{t:List Nat}:∀{L A:aj.Fs},tS n c ord A (L++[t])=tS n c ord (tS n c ord A L) [t]
 | [],_=>rfl
 |_::L,_=>oQ (L:=L)
theorem lI.frame{mp:Nat}{M:Md}{X H:Hp}(h:lI mp M X H)(Y:Hp):lI mp M (X++Y) (H++Y):=by
 obtain⟨vo,vh,vt,rs,CO,CH,CT,rfl,hO⟩:=h
 exact⟨vo,vh,vt,rs,CO,CH,CT,by simp,hO.ord,hO.sl,hO.each.mono fun _ _ h=>h.mono fun _ h=>List.mem_append_left _ h,hO.tr⟩
theorem sK.aef{K K':Kd}{S S':Nat→aZ.Fn}{ax fC:Nat→Nat}{held held':List (List Nat×Nat)}{t:List Nat}{r:Nat}(h:sK K S held)(hok:Ok K S ax)(tL:Ok K' S' fC)(hg:AP K S K' S' (eL K.n t) r)(hf:aj.cB K.n t)(h2:2≤r)(hb:RW held t held'):sK K' S' held':=by
 have hlv:∀s,K.hold s≠0→live K.N s:=fun s hs=>.inr (hok.mid.held s hs)
 have hn:=hg.n
 have key:∀s,K.hold s≠0→S' s=eL K.n t→s=r:=fun s hs he=>tL.wf.same tL.lv tL.mid.int (qD hg.N (hlv s hs)) hg.live (congrFun (by rw[he,hg.is]))
 have hr:K'.hold r=K.hold r+1:=by rw[hg.hold,if_pos ⟨rfl,h2⟩]
 have ho:∀s,s≠r→K'.hold s=K.hold s:=fun s hs=>by rw[hg.hold,if_neg (fun e=>hs e.1),Nat.add_zero]
 rcases hb with⟨i,c,hi,hno,rfl⟩|⟨hno,rfl⟩
 ·have V7:(t,c)∈held:=List.mem_of_getElem? hi
  have Ci:=(List.getElem?_eq_some_iff.1 hi).1
  have heq:held[i]=(t,c):=(List.getElem?_eq_some_iff.1 hi).2
  have UT:(held.set i (t,c+1)).map Prod.fst=held.map Prod.fst:=by
   apply List.ext_getElem?
   intro j
   rw[List.getElem?_map,List.getElem?_map]
   by_cases e:i=j
   ·subst e;rw[List.getElem?_set_self Ci,hi];rfl
   ·rw[List.getElem?_set_ne e]
  obtain⟨r0,IB,h1,x8,h3⟩:=h.lf _ V7
  have Xz:K.hold r0≠0:=by rw[h1];exact x8
  have e0:r0=r:=key r0 Xz (by rw[hg.fn r0 (hlv r0 Xz),h3])
  subst e0
  have hmem:∀e,e∈held.set i (t,c+1)→e=(t,c+1)∨(e∈held∧e.1≠t):=fun e he=>by
   obtain⟨j,hj,SG⟩:=List.getElem_of_mem he
   have SE:j<held.length:=by simpa using hj
   by_cases e':i=j
   ·subst e'
    left
    rw[←SG,List.getElem_set_self]
   ·right
    rw[List.getElem_set_ne e']at SG
    refine⟨by rw[←SG];exact List.getElem_mem _,fun h5=>?_⟩
    have g8:=h.nd
    have:=(List.getElem_inj (i:=i) (j:=j) (h₀:=by simpa using Ci) (h₁:=by simpa using SE) g8).1 (by simp[heq,SG,h5])
    exact e' this
  refine⟨by rw[UT];exact h.nd,fun e he=>?_,fun s hs=>?_,fun e he=>?_⟩
  ·rw[hn]
   rcases hmem e he with rfl|⟨h5,_⟩
   ·exact hf
   ·exact h.kR e h5
  ·by_cases e5:s=r0
   ·subst e5
    refine⟨(t,c+1),List.mem_iff_getElem?.2 ⟨i,List.getElem?_set_self Ci⟩,by rw[hn,hg.is],?_⟩
    rw[hr,h1]
   ·rw[ho s e5]at hs
    obtain⟨e,he,h6,h7⟩:=h.rt s hs
    obtain⟨j,hj,SG⟩:=List.getElem_of_mem he
    have hij:i≠j:=fun e'=>by
     subst e'
     rw[heq]at SG;subst SG
     exact e5 (key s hs (by rw[hg.fn s (hlv s hs),←h6]))
    refine⟨e,List.mem_iff_getElem?.2 ⟨j,by rw[List.getElem?_set_ne hij,List.getElem?_eq_getElem hj,SG]⟩,by rw[hn,h6,hg.fn s (hlv s hs)],by rw[h7,ho s e5]⟩
  ·rcases hmem e he with rfl|⟨h5,h6⟩
   ·exact⟨r0,IB,by rw[hr,h1],by simp,by rw[hg.is,hn]⟩
   ·obtain⟨s,g1,g2,g3,g4⟩:=h.lf e h5
    have g5:K.hold s≠0:=by rw[g2];exact g3
    have MK:s≠r0:=fun e'=>by
     subst e'
     rw[h3]at g4
     exact h6 (lC (h.kR e h5) hf g4.symm)
    exact⟨s,g1,by rw[ho s MK,g2],g3,by rw[hg.fn s (hlv s g5),hn,g4]⟩
 ·have IB:K.hold r=0:=by
   refine Classical.byContradiction fun h0=>?_
   obtain⟨e,he,h1,_⟩:=h.rt r h0
   apply hno
   refine List.mem_map.2 ⟨e,he,lC (h.kR e he) hf ?_⟩
   rw[h1,←hg.fn r (hlv r h0),hg.is]
  refine⟨by rw[List.map_append];exact List.nodup_append.2 ⟨h.nd,by simp,fun a ha b hb' e=>by simp at hb';subst hb';subst e;exact hno ha⟩,fun e he=>?_,fun s hs=>?_,fun e he=>?_⟩
  ·rw[hn]
   rcases List.mem_append.1 he with he|he
   ·exact h.kR e he
   ·simp at he;subst he;exact hf
  ·by_cases e5:s=r
   ·subst e5
    exact⟨(t,1),by simp,by rw[hn,hg.is],by rw[hr,IB]⟩
   ·rw[ho s e5]at hs
    obtain⟨e,he,h6,h7⟩:=h.rt s hs
    exact⟨e,by simp[he],by rw[hn,h6,hg.fn s (hlv s hs)],by rw[h7,ho s e5]⟩
  ·rcases List.mem_append.1 he with he|he
   ·obtain⟨s,g1,g2,g3,g4⟩:=h.lf e he
    have g5:K.hold s≠0:=by rw[g2];exact g3
    have MK:s≠r:=fun e'=>by subst e';exact g5 IB
    exact⟨s,g1,by rw[ho s MK,g2],g3,by rw[hg.fn s (hlv s g5),hn,g4]⟩
   ·simp at he;subst he
    exact⟨r,h2,by rw[hr,IB],by simp,by rw[hg.is,hn]⟩
theorem qU{held held':List (List Nat×Nat)}{t:List Nat}(hb:RW held t held'):held'.map Prod.fst=(if t∉held.map Prod.fst then held.map Prod.fst++[t]else held.map Prod.fst)∧held'.length≤held.length+1∧(∀m,(∀e∈held,e.2≤m)→∀e∈held',e.2≤m+1):=by
 rcases hb with⟨i,c,hi,hno,rfl⟩|⟨hno,rfl⟩
 ·have V7:(t,c)∈held:=List.mem_of_getElem? hi
  have Ci:=(List.getElem?_eq_some_iff.1 hi).1
  refine⟨?_,by simp,fun m hm e he=>?_⟩
  ·rw[if_neg (fun h=>h (List.mem_map.2 ⟨_,V7,rfl⟩))]
   apply List.ext_getElem?
   intro j
   rw[List.getElem?_map,List.getElem?_map]
   by_cases e:i=j
   ·subst e;rw[List.getElem?_set_self Ci,hi];rfl
   ·rw[List.getElem?_set_ne e]
  ·rcases List.mem_or_eq_of_mem_set he with he|rfl
   ·have:=hm e he;omega
   ·have:=hm _ V7;simp only at this⊢;omega
 ·refine⟨by rw[if_pos hno];simp,by simp,fun m hm e he=>?_⟩
  rcases List.mem_append.1 he with he|he
  ·have:=hm e he;omega
  ·simp at he;subst he;simp
theorem N7(p:List Nat)(v:Nat):(iw p).count (v:Int)=p.count v:=by
 induction p with
 |nil=>rfl
 |cons y p ih=>
  show(((y:Nat):Int)::iw p).count (v:Int)=_
  rw[List.count_cons,List.count_cons,ih]
  congr 1
  have:(((y:Nat):Int)==(v:Int))=(y==v):=by
   rw[Bool.eq_iff_iff];simp[Int.natCast_inj]
  rw[this]
theorem Qv{n:Nat}{p:List Nat}(hp:p.Perm (List.range n)):Qw n (iw p):=by
 refine⟨by rw[an,hp.length_eq,List.length_range],fun v hv=>?_⟩
 rw[N7,hp.count_eq]
 exact List.nodup_range.count (a:=v)|>.trans (if_pos (List.mem_range.2 hv))
theorem jg{n:Nat}{p:List Nat}(hp:p.Perm (List.range n)):p.length=n∧∀i,i<n→p.getD i 0<n:=by
 have h1:p.length=n:=by rw[hp.length_eq,List.length_range]
 refine⟨h1,fun i hi=>?_⟩
 have:p.getD i 0∈p:=by rw[List.getD_eq_getElem?_getD,List.getElem?_eq_getElem (show i<p.length by omega)];exact List.getElem_mem _
 exact List.mem_range.1 (hp.mem_iff.1 this)
theorem tq{kp mp:Nat}{vr vt:Value}(h1:vr.oneCell'=true)(h2:vt.oneCell'=true):∀u∈[ptr kp,ptr mp,vr,vt],u.oneCell'=true:=fun u hu=>by
 simp only[List.mem_cons,List.not_mem_nil,or_false]at hu
 rcases hu with rfl|rfl|rfl|rfl
 ·rfl
 ·rfl
 ·exact h1
 ·exact h2
theorem IC{mp:Nat}{M:Md}{X H:Hp}(h:lI mp M X H)(hM:M.oZ){v:Value}{t:List Nat}(ht:j5 X v ⟨M.n,t⟩)(hf:aj.cB M.n t)(hlt:∀e∈M.held,e.2<65535):
  Fc Tryz.prog 124 #[ptr mp,v] H (fun r H'=>r=.int .i64 0∧∃held',lI mp {M with held:=held'} X H'∧((t=cA M.n false∨t=cA M.n true)→held'=M.held)∧(¬(t=cA M.n false∨t=cA M.n true)→RW M.held t held')):=by
 by_cases hc:t=cA M.n false∨t=cA M.n true
 ·refine(zX (X:=X) (mp:=mp) hM (ht.mono h.sub) hf hc).mono ?_
  rintro v H ⟨rfl,rfl⟩
  exact⟨rfl,M.held,h,fun _=>rfl,fun h=>absurd hc h⟩
 ·refine(MU h hM ht hf hc hlt).mono ?_
  rintro v H ⟨rfl,held',hb,hm⟩
  exact⟨rfl,held',hm,fun h=>absurd h hc,fun _=>hb⟩
theorem lI.grow{mp:Nat}{M:Md}{X H:Hp}(h:lI mp M X H):aV X H:=by
 obtain⟨vo,vh,vt,rs,CO,CH,CT,rfl,_⟩:=h
 exact .cons (.app (.app (.app (.refl _))))
structure Lay(n c:Nat)(ord ax:List Nat)(L:aj.Fs)(Y:Hp)(i kp mp:Nat)(vr vt:Value)(K:Kd)(S:Nat→aZ.Fn)(M:Md)(refs:List Nat)(ts:aj.Fs)(HM C CR CS:Hp):Prop where
 ks:lR kp K S ord ax [] C
 kn:K.n=n
 kc:K.cap=c
 md:lI mp M Y HM
 mn:M.n=n
 mc:M.cap=c
 mo:M.ord=ord
 mt:M.tr=[]
 Kw:sK K S M.held
 cnt:∀s,K.hold s≤i
 hl:M.held.length≤i
 ec:∀e∈M.held,e.2≤i
 tb:M.cw=tS n c ord [] (L.take i)
 rf:aQ 77 .u32 vr (iw refs) CR
 tw:fK 57 vt (gy n ts) CS Y
 len:refs.length=ts.length
 rl:refs.length≤i
 each:∀(i:Nat) (r:Nat) (t:List Nat),refs[i]? =some r→ts[i]? =some t→aj.cB n t∧eL n t=S r∧((r<2∧S r=fun _=>decide (r=1))∨K.hold r≠0)
section
variable {n c:Nat} {ord:List Nat} {L:aj.Fs} {Y:Hp}
theorem Lay.NP{ax:List Nat}{i kp mp:Nat}{vr vt:Value}{K:Kd}{S:Nat→aZ.Fn}{M:Md}{refs:List Nat}{ts:aj.Fs}{HM C CR CS:Hp}(h:Lay n c ord ax L Y i kp mp vr vt K S M refs ts HM C CR CS)(hn:n≤8)(hc:c≤1048576)(hp:ord.Perm (List.range n))(hi:i≤60000):M.oZ:=by
 have ⟨h1,h2⟩:=jg hp
 have a:=h.hl
 refine⟨by rw[h.mn];omega,by rw[h.mc];exact hc,by rw[h.mo,h.mn];exact h1,by rw[h.mo,h.mn];exact h2,fun t ht=>?_,by omega,fun e he=>?_,by rw[h.mt];simp⟩
 ·obtain⟨e,he,rfl⟩:=List.mem_map.1 ht
  rw[h.mn,←h.kn];exact h.Kw.kR e he
 ·have:=h.ec e he;omega
theorem LD{o v:Value}(hn:1≤n∧n≤8)(hc:2≤c∧c≤1048576)(hp:ord.Perm (List.range n))(ho:bW .i64 Y o (iw ord))(hL:cT Y v (gy n L))(hf:∀t∈L,aj.cB n t)(bE:L.length≤60000):
  Fc Tryz.prog 52 #[.int .i64 (c:Int),o,v] Y (fun r H=>∃kp mp vr vt K S ax M refs ts C Y',r=.tuple #[L5 kp mp vr vt,.bool true,.bool true]∧H=Y'++C∧lR kp K S ord ax [] C∧oW mp vr vt K S ord [] M refs ts Y'∧K.n=n∧K.cap=c∧M.cw=tS n c ord [] L∧aV Y Y'):=by
 have ⟨hlen,hlt⟩:=jg hp
 have g8:ord.Nodup:=hp.nodup_iff.2 List.nodup_range
 have XU:((ord.length:Nat):Int)=(n:Int):=by rw[hlen]
 intro g
 refine JP (R:=aF _) ?_
 unfold L52
 intro b1 _
 refine ho.aR ?_
 rw[an,XU]
 intro J4 hJ4
 have fin:J4 [.bool false] ((b1,.cells #[.pointer none,.pointer none,.slice none 0 0,.slice none 0 0] 98 (0,0))::Y):=by
  refine hJ4 _ _ fun gs=>Br.no ?_
  refine hL.aR ?_
  rw[aW]
  refine⟨fun vs H=>∃i:Nat,vs=[.int .i64 (i:Int)]∧i≤L.length∧H=(b1,.cells #[.pointer none,.pointer none,.slice none 0 0,.slice none 0 0] 98 (0,0))::Y,fun vs _=>L.length-bg vs 0,JE.mk ⟨0,rfl,Nat.zero_le _,rfl⟩,?_⟩
  rintro fT H ⟨i,hv,hi,rfl⟩ gs
  simp only[List.cons.injEq,and_true]at hv
  subst hv
  refine ae.dz (Br.dec (fun dF=>?_) (fun dF=>?_))
  ·refine hL.ld (kU (List.getElem?_eq_getElem dF)) (fun _ h=>.tail _ h) fun s hw=>?_
   have hone:=aD hw
   have X5:=hf L[i] (List.getElem_mem dF)
   intro wL _
   refine St.whole (r:=[.int .i64 (n:Int),s]) (by exact .head _) rfl rfl (by simpa[Value.oneCell']using hone) ?_
   refine az.whole (r:=[.int .i64 (n:Int),s]) (by exact .head _) rfl ?_
   refine ag.rd (B:=Y) (.cons (.cons .here)) (LS (v:=.agg (List.toArray [.int .i64 (n:Int),s])) (t:=⟨n,L[i]⟩) ⟨s,rfl,hw⟩) ?_
   rintro v rfl
   rw[decide_eq_true (show TF ⟨(n:Int),L[i]⟩from⟨by simp,by simpa using X5⟩)]
   refine Un.not ?_
   refine bM.or false (fun _=>aa.mk (Ld.mk (v:=.int .i64 (n:Int)) (by exact .head _) rfl (ae.pH ⟨rfl,by rw[decide_eq_false (fun h=>h rfl)]⟩))) rfl fun gs=>Br.no ?_
   refine ae.aH (b:=1) (by simp[aB];omega) ?_
   exact ay.of .tail ⟨i+1,rfl,dF,rfl⟩ (by simp only[bg];omega)
  ·-- kernel and model
   refine ag.fn hnew (Mc (n:=n) (cap:=c) (by omega) hc) ?_
   rintro v C ⟨kp,rfl,hK⟩
   refine Ext.mk rfl (Ext.mk rfl ?_)
   refine ae.dX ?_
   refine bM.or false (fun _=>ae.aJ ⟨rfl,rfl⟩) rfl fun gs=>Br.no ?_
   refine ag.fn hnew (zz (n:=n) (cap:=c) (by omega) hc.2) ?_
   rintro v H0 ⟨mp,rfl,Q6⟩
   refine Build.mk (cs:=[ptr kp,ptr mp,.slice none 0 0,.slice none 0 0]) (by kernel_rfl) ?_
   refine St.whole (r:=[ptr kp,ptr mp,.slice none 0 0,.slice none 0 0]) (cJ.bI (cJ.bI (.head _) _) _) rfl rfl (by simp[Value.oneCell']) ?_
   refine aa.mk (Ld.mk (v:=ptr mp) (List.mem_append_right _ (List.mem_append_right _ (.head _))) rfl ?_)
   obtain⟨vo,vh,vt,rs,hR⟩:=Q6.rd
   refine Nil.ptr (aa.mk (Ld.mk (v:=vo) (List.mem_append_left _ hR.GS) rfl ?_))
   have UD:(List.range n).Perm (List.range n):=.refl _
   refine ag.pre (H':=(b1,.cells #[ptr kp,ptr mp,.slice none 0 0,.slice none 0 0] 98 (0,0))::((H0++Y)++C)) (.perm ?_) ?_
   ·refine(List.Perm.append_left H0 List.perm_middle).trans ?_
    refine List.perm_middle.trans (List.Perm.cons _ ?_)
    rw[List.append_assoc]
    exact List.Perm.append_left _ List.perm_append_comm
   refine ag.fn (.cons .left) (CV (n:=n) (hR.ord.mono fun _ h=>List.mem_append_left _ h) (ho.mono fun _ h=>List.mem_append_right _ h) UD hp (by omega)) ?_
   rintro v H ⟨s,CW,rfl,rfl,hW⟩
   refine Ext.mk rfl (Ext.mk rfl ?_)
   refine hW.aR ?_
   rw[an]
   obtain⟨Sv,qJ⟩:=sq g8 hp.symm
   have XE:(path (List.range n) ord).length≤64:=by
    have:=kg g8 hp.symm ord.length (Nat.le_refl _)
    rw[List.length_range,hlen]at this
    have h8:n*n≤8*8:=Nat.mul_le_mul hn.2 hn.2
    unfold path;rw[hlen];omega
   generalize aie:path (List.range n) ord=way at*
   have QJ:∀g,¬(K0 n c).held S0 g:=by
    rintro g ⟨r,hr,_⟩
    exact hr (by simp[Kd.hold,K0])
   have hsp:∀i,(aE (List.range n) (way.take i)).Perm (List.range n):=fun i=>gR fun l hl=>qJ l (List.mem_of_mem_take hl)
   have Cp:∀i,Md.oZ ⟨n,c,aE (List.range n) (way.take i),[],way.take i⟩:=fun i=>by
    have ⟨q1,q2⟩:=jg (hsp i)
    exact⟨by show n≤16;omega,hc.2,q1,q2,fun t ht=>by simp[Md.cw]at ht,by simp,by simp,by simp;omega⟩
   refine⟨fun vs H=>∃(i:Nat) (HM C':Hp),vs=[.int .i64 (i:Int)]∧i≤way.length∧H=(b1,.cells #[ptr kp,ptr mp,.slice none 0 0,.slice none 0 0] 98 (0,0))::(CW++(HM++C'))∧lI mp ⟨n,c,aE (List.range n) (way.take i),[],way.take i⟩ Y HM∧At kp (K0 n c) S0 (aE (List.range n) (way.take i)) (way.take i) C',
    fun vs _=>way.length-bg vs 0,JE.of (.cons aO.assoc) ⟨0,H0++Y,C,rfl,Nat.zero_le _,rfl,by simpa[aE]using Q6.frame Y,by simpa[aE]using hK.bB⟩,?_⟩
   rintro VR H ⟨i,HM,C',hv,hi,rfl,hMd,hA⟩ gs
   simp only[List.cons.injEq,and_true]at hv
   subst hv
   refine ae.dz (Br.dec (fun MY=>?_) (fun MY=>?_))
   ·have MG:way[i]+1<n:=by have:=qJ way[i] (List.getElem_mem MY);rwa [List.length_range]at this
    have Kx:(iw way)[i]? =some ((way[i]:Nat):Int):=by rw[cj (List.getElem?_eq_getElem MY)]
    refine hW.ld Kx (fun _ h=>.tail _ (List.mem_append_left _ h)) ?_
    intro Zz adD
    have l8:way.take (i+1)=way.take i++[way[i]]:=List.take_succ_eq_append_getElem MY
    have ad8:∀RN C2,lI mp ⟨n,c,aE (List.range n) (way.take (i+1)),[],way.take (i+1)⟩ Y RN→At kp (K0 n c) S0 (aE (List.range n) (way.take (i+1))) (way.take (i+1)) C2→Zz [.bool false] ((b1,.cells #[ptr kp,ptr mp,.slice none 0 0,.slice none 0 0] 98 (0,0))::(CW++(RN++C2))):=fun RN C2 q1 q2=>by
     refine adD _ _ fun gs=>Br.no ?_
     refine ae.aH (b:=1) (by simp[aB];omega) ?_
     exact ay.of (.refl _) ⟨i+1,RN,C2,rfl,MY,rfl,q1,q2⟩ (by simp only[bg];omega)
    refine ag.fn (.cons (.app (.app .here))) (sI hA (by exact MG) (by simp;omega) ?_) ?_
    ·unfold gW
     rw[yZ QJ];exact(by show 0+2≤c;omega)
    rintro v C2 ⟨rfl,nV⟩
    refine ae.dX (Split.go (by decide) ?_)
    refine aa.mk (Ld.mk (v:=ptr mp) (by exact .head _) rfl ?_)
    refine ag.fn (.cons (.app .left)) (NS hMd (Cp i) MG ?_) ?_
    ·have:=Ll (n:=n) (ord:=aE (List.range n) (way.take i)) (L:=[]) (l:=way[i]) (by simp) (by omega) (Cp i).lt MG (Cp i).len
     rw[yZ (by rintro g ⟨t,ht,_⟩;simp at ht)]at this
     show 2+(rU n (aE (List.range n) (way.take i)) way[i] []).length≤c
     omega
    rintro v RN ⟨rfl,U8⟩
    refine ae.dX (aA.mk (JE.mk (ad8 RN C2 ?_ ?_)))
    ·rw[l8,dU];exact U8
    ·rw[l8,dU];exact nV
   ·obtain rfl:i=way.length:=by omega
    rw[List.take_length,Sv]at hMd hA
    obtain⟨K1,S1,ax,u7,xW⟩:=hA
    refine ag.fn (.cons (.app (.app .here))) (Gz u7 (r:=1) (.inl (by omega)) (fun h=>absurd h (by omega))) ?_
    rintro v C3 ⟨rfl,K2,tR,mK⟩
    refine ae.dX (Br.cq (by decide) ?_)
    refine aa.mk (Ld.mk (v:=ptr mp) (by exact .head _) rfl ?_)
    obtain⟨vo,vh,vt,rs,CO,CH,CT,rfl,hO⟩:=hMd
    refine Nil.ptr (aa.mk (St.one (c':=fB ⟨n,c,ord,[],[]⟩ vo vh (.slice none 0 0)) (.tail (cJ.bI (cJ.append (.head _) C3) _)) rfl (by simp[fB]) rfl ?_))
    refine hL.aR ?_
    rw[aW]
    have Sz:∀s,K2.hold s=0:=fun s=>by
     rw[mK.hold,if_neg (by omega),xW.hold];simp[Kd.hold,K0]
    refine⟨fun vs H=>∃(i:Nat) (vr vt:Value) (K:Kd) (S:Nat→aZ.Fn) (M:Md) (refs:List Nat) (ts:aj.Fs) (HM C CR CS:Hp),vs=[.int .i64 (i:Int)]∧i≤L.length∧H=(b1,.cells #[ptr kp,ptr mp,vr,vt] 98 (0,0))::(CR++(CS++(HM++C)))∧Lay n c ord ax L Y i kp mp vr vt K S M refs ts HM C CR CS,
     fun vs _=>L.length-bg vs 0,JE.of (H':=(b1,.cells #[ptr kp,ptr mp,.slice none 0 0,.slice none 0 0] 98 (0,0))::([]++([]++(((mp,.cells (fB ⟨n,c,ord,[],[]⟩ vo vh (.slice none 0 0)) 74 (0,0))::(CO++(CH++([]++Y))))++C3)))) (.cons (.bN (aO.frame (.cons (.cL (.cL .right _) _)) C3))) ⟨0,.slice none 0 0,.slice none 0 0,K2,S1,⟨n,c,ord,[],[]⟩,[],[],_,C3,[],[],rfl,Nat.zero_le _,rfl,?_⟩,?_⟩
    ·exact {ks:=tR,kn:=mK.n.trans xW.n,kc:=mK.cap.trans xW.cap,md:=⟨vo,vh,.slice none 0 0,rs,CO,CH,[],rfl,hO.ord,hO.sl,hO.each,aQ.nil⟩,mn:=rfl,mc:=rfl,mo:=rfl,mt:=rfl,Kw:=sK.none Sz,cnt:=fun s=>by rw[Sz];exact Nat.zero_le _,hl:=Nat.zero_le _,ec:=by simp,tb:=rfl,rf:=aQ.nil,tw:=fK.nil,len:=rfl,rl:=Nat.zero_le _,each:=by simp}
    rintro Hr H ⟨i,vr,yU,K,S,M,refs,ts,HM,C4,CR,CS,hv,hi4,rfl,hY⟩ gs
    simp only[List.cons.injEq,and_true]at hv
    subst hv
    have GG:=hY.NP hn.2 hc.2 hp (by omega)
    refine ae.dz (Br.dec (fun MX=>?_) (fun MX=>?_))
    ·intro OH YJ
     have tK:vr.oneCell'=true:=hY.rf.one
     have tJ:yU.oneCell'=true:=by obtain⟨rs,h1,_⟩:=hY.tw;obtain⟨a,c,e⟩:=aS.len h1;rw[e];rfl
     have Z8:L[i]? =some L[i]:=List.getElem?_eq_getElem MX
     have O7:=hf L[i] (List.getElem_mem MX)
     have l8:L.take (i+1)=L.take i++[L[i]]:=List.take_succ_eq_append_getElem MX
     generalize hte:L[i]=t at*
     have YU:∀vr yU K S M refs ts HM C4 CR CS,Lay n c ord ax L Y (i+1) kp mp vr yU K S M refs ts HM C4 CR CS→OH [] ((b1,.cells #[ptr kp,ptr mp,vr,yU] 98 (0,0))::(CR++(CS++(HM++C4)))):=fun vr yU K S M refs ts HM C4 CR CS hY'=>by
      refine YJ _ fun gs=>?_
      refine ae.aH (b:=1) (by simp[aB];omega) ?_
      exact ay.of (.refl _) ⟨i+1,vr,yU,K,S,M,refs,ts,HM,C4,CR,CS,rfl,MX,rfl,hY'⟩ (by simp only[bg];omega)
     refine hL.ld (kU Z8) (fun _ h=>.tail _ (List.mem_append_right _ (List.mem_append_right _ (List.mem_append_left _ (hY.md.sub _ h))))) fun s hw=>?_
     have XH:=aD hw
     have htY:j5 Y (.agg (List.toArray [.int .i64 (n:Int),s])) ⟨n,t⟩:=⟨s,rfl,hw⟩
     intro De _
     refine St.whole (r:=[.int .i64 (n:Int),s]) (by exact .head _) rfl rfl (by simpa[Value.oneCell']using XH) ?_
     refine aa.mk (Ld.mk (v:=ptr mp) (by exact .tail _ (.head _)) rfl ?_)
     refine az.whole (r:=[.int .i64 (n:Int),s]) (by exact .head _) rfl ?_
     refine eC fun xb=>?_
     have acP:Dk mp M (HM++C4):=hY.md.rd.mono fun _ h=>List.mem_append_left _ h
     have acW:cT ((xb,Obj.cells #[.int .i64 (n:Int),s] 57 (0,0))::(De,.cells (List.toArray [.int .i64 (n:Int),s]) 57 (0,0))::(b1,.cells #[ptr kp,ptr mp,vr,yU] 98 (0,0))::(CR++(CS++(HM++C4)))) (.slice (some ⟨xb,0,none⟩) 1 1) (gy M.n [t]):=by
      rw[hY.mn]
      exact cT.one (cap:=0) (t:=⟨n,t⟩) (.head _) (hw.mono fun _ h=>.tail _ (.tail _ (.tail _ (List.mem_append_right _ (List.mem_append_right _ (List.mem_append_left _ (hY.md.sub _ h)))))))
     refine ag.rd .here (Mh (acP.mono fun _ h=>.tail _ (.tail _ (.tail _ (List.mem_append_right _ (List.mem_append_right _ h))))) GG acW (fun u hu=>by simp at hu;subst hu;rw[hY.mn];exact O7) (by simp)) ?_
     rintro v rfl
     rw[hY.mn,hY.mo,hY.mc]
     refine Un.not ?_
     by_cases hfit:2+dW n ord (M.cw++[t]) n≤c
     rotate_left
     ·rw[decide_eq_false hfit]
      refine Br.yes (JE.of (.skip .tail) (YU vr yU K S M refs ts HM C4 CR CS ?_))
      refine {hY with cnt:=fun s=>Nat.le_succ_of_le (hY.cnt s),hl:=Nat.le_succ_of_le hY.hl,ec:=fun e he=>Nat.le_succ_of_le (hY.ec e he),tb:=?_,rl:=Nat.le_succ_of_le hY.rl}
      rw[l8,oQ,←hY.tb]
      show M.cw=if _ then _ else _
      rw[if_neg (fun h=>hfit h.1)]
     rw[decide_eq_true hfit]
     refine Br.no ?_
     refine az.whole (r:=[.int .i64 (n:Int),s]) (by exact .tail _ (.head _)) rfl ?_
     have hfr:∀u∈M.cw++[t],aj.cB n u:=fun u hu=>by
      rcases List.mem_append.1 hu with hu|hu
      ·have:=GG.kR u hu;rwa [hY.mn]at this
      ·simp at hu;subst hu;exact O7
     have hU:=Oa (n:=n) (ord:=ord) (L:=M.cw++[t]) hfr (by omega) hlt
     have pV:=hY.Kw.xZ
     rw[hY.kn]at pV
     refine ag.fn (C:=HM++C4) (args:=#[ptr kp,o,.agg (List.toArray [.int .i64 (n:Int),s]),.int .i64 ((0:Nat):Int)]) (.cons (.cons (.cons (.app (.app .here))))) (Re hU (by omega) n 0 K S C4 HM _ t (by omega) (by omega) hY.kn (by rw[hY.kc];omega) hY.ks (ho.mono hY.md.sub) (htY.mono hY.md.sub) O7 (fun j hj=>absurd hj (Nat.not_lt_zero _)) (fun g hg=>?_) (fun g hg=>?_) (fun s=>by have:=hY.cnt s;omega)) ?_
     ·rw[pV]at hg
      exact nD (fun g ⟨u,hu,e⟩=>⟨u,List.mem_append_left _ hu,e⟩) hg
     ·exact nD (fun g e=>⟨t,by simp,e⟩) hg
     rintro w H ⟨r,K3,S3,C5,rfl,rfl,CB,hg⟩
     refine Ext.mk rfl (Ext.mk rfl ?_)
     refine ae.dX (Br.cq (by decide) ?_)
     refine aa.mk (Ld.mk (v:=ptr mp) (by exact .tail _ (.tail _ (.head _))) rfl ?_)
     refine az.whole (r:=[.int .i64 (n:Int),s]) (by exact .tail _ (.head _)) rfl ?_
     refine ag.fn (.cons (.cons (.cons (.app (.app .left))))) (IC hY.md GG (by rw[hY.mn];exact htY) (by rw[hY.mn];exact O7) (fun e he=>by have:=hY.ec e he;omega)) ?_
     rintro w RN ⟨rfl,held',U8,z6,Nm⟩
     rw[hY.mn]at z6 Nm
     refine aa.mk (Ld.mk (v:=vr) (by exact .tail _ (.tail _ (.head _))) rfl ?_)
     refine av.int (e:=77) (by kernel_rfl) (by kernel_rfl) (by kernel_rfl) fun yb=>?_
     refine hY.rf.mW (.cons (.cons (.cons (.cons .left)))) (by exact .head _) (by rw[an];have:=hY.rl;omega) (by rw[an];have:=hY.rl;omega) fun VT CR' Xw=>?_
     refine aa.mk (St.one (c':=#[ptr kp,ptr mp,VT,yU]) (by exact .tail (.tail (.tail (.head _)))) Xw.one (by simp) rfl ?_)
     refine aa.mk (Ld.mk (v:=yU) (by exact .tail _ (.tail _ (.tail _ (.head _)))) rfl ?_)
     refine az.whole (r:=[.int .i64 (n:Int),s]) (by exact .tail _ (.tail _ (.head _))) rfl ?_
     refine eC fun zb=>?_
     refine hY.tw.app (A:=_::_::_::_::_::CR') (B:=RN++C5) (t:=⟨n,t⟩) (s:=s) (by exact .head _) hw (by rw[aW,←hY.len];have:=hY.rl;omega) fun Tp CS' UA=>?_
     rw[j9]at UA
     have XI:Tp.oneCell'=true:=by obtain⟨rs,h1,_⟩:=UA;obtain⟨a,c,e⟩:=aS.len h1;rw[e];rfl
     refine aa.mk (St.one (c':=#[ptr kp,ptr mp,VT,Tp]) (by exact .tail (.tail (.tail (.tail (.head _))))) XI (by simp) rfl ?_)
     refine JE.of (.skip (.skip (.skip .tail))) (YU VT Tp K3 S3 {M with held:=held'} (refs++[r]) (ts++[t]) RN C5 CR' CS' ?_)
     have hlv:∀s,K.hold s≠0→live K.N s:=fun s hs=>.inr (hY.ks.ok.mid.held s hs)
     have hrc:(t=cA n false∨t=cA n true)↔r<2:=by
      have hint:=CB.ok.mid.int
      constructor
      ·intro kQ
       have:∃q,q<2∧∀x,S3 r x=S3 q x:=by
        rcases kQ with rfl|rfl
        ·exact⟨0,by omega,fun x=>by rw[hint.zero,hg.is,gv]⟩
        ·exact⟨1,by omega,fun x=>by rw[hint.one,hg.is,gv]⟩
       obtain⟨q,hq,he⟩:=this
       have:=CB.ok.wf.same CB.ok.lv hint hg.live (.inl hq) he
       omega
      ·intro hr
       have:r=0∨r=1:=by omega
       rcases this with rfl|rfl
       ·exact .inl ((eJ (by omega) O7 false).2 (by rw[←hg.is];exact funext hint.zero))
       ·exact .inr ((eJ (by omega) O7 true).2 (by rw[←hg.is];exact funext hint.one))
     have hgk:AP K S K3 S3 (eL K.n t) r:=by rw[hY.kn];exact hg
     have XQ:sK K3 S3 held':=by
      by_cases nS:r<2
      ·rw[z6 (hrc.2 nS)]
       exact hY.Kw.same hg.n (fun s=>by rw[hg.hold,if_neg (by omega),Nat.add_zero]) (fun s hs=>hg.fn s (hlv s hs))
      ·exact sK.aef hY.Kw hY.ks.ok CB.ok hgk (by rw[hY.kn];exact O7) (by omega) (Nm (fun h=>nS (hrc.1 h)))
     refine {ks:=CB,kn:=hg.n.trans hY.kn,kc:=hg.cap.trans hY.kc,md:=U8,mn:=hY.mn,mc:=hY.mc,mo:=hY.mo,mt:=hY.mt,Kw:=XQ,cnt:=fun s=>?_,hl:=?_,ec:=?_,tb:=?_,rf:=?_,tw:=UA,len:=by simp[hY.len],rl:=by simp;exact hY.rl,each:=?_}
     ·have:=hY.cnt s
      rw[hg.hold];split<;>omega
     ·by_cases nS:r<2
      ·rw[show({M with held:=held'}:Md).held=held' from rfl,z6 (hrc.2 nS)];exact Nat.le_succ_of_le hY.hl
      ·have:=(qU (Nm (fun h=>nS (hrc.1 h)))).2.1
       have:=hY.hl
       show held'.length≤i+1
       omega
     ·by_cases nS:r<2
      ·rw[show({M with held:=held'}:Md).held=held' from rfl,z6 (hrc.2 nS)];exact fun e he=>Nat.le_succ_of_le (hY.ec e he)
      ·exact(qU (Nm (fun h=>nS (hrc.1 h)))).2.2 i hY.ec
     ·rw[l8,oQ,←hY.tb]
      show held'.map Prod.fst=if _ then _ else _
      by_cases nS:r<2
      ·rw[z6 (hrc.2 nS),if_neg (fun h=>h.2.1 (hrc.2 nS))];rfl
      ·rw[(qU (Nm (fun h=>nS (hrc.1 h)))).1]
       by_cases hin:t∈M.cw
       ·rw[if_neg (fun h=>h hin),if_neg (fun h=>h.2.2 hin)];rfl
       ·rw[if_pos (show t∉M.held.map Prod.fst from hin),if_pos ⟨hfit,fun h=>nS (hrc.1 h),hin⟩];rfl
     ·rw[bT];exact Xw
     ·intro j q u hq hu
      by_cases e:j<refs.length
      ·rw[List.getElem?_append_left e]at hq
       rw[List.getElem?_append_left (by rw[←hY.len];exact e)]at hu
       obtain⟨q1,q2,q3⟩:=hY.each j q u hq hu
       have hlq:live K.N q:=by
        rcases q3 with q3|q3
        ·exact .inl q3.1
        ·exact hlv q q3
       refine⟨q1,by rw[q2,hg.fn q hlq],?_⟩
       rcases q3 with q3|q3
       ·exact .inl ⟨q3.1,by rw[hg.fn q hlq];exact q3.2⟩
       ·right;rw[hg.hold];omega
      ·rw[List.getElem?_append_right (by omega)]at hq
       rw[List.getElem?_append_right (by rw[←hY.len];omega),←hY.len]at hu
       obtain⟨e1,rfl⟩:j-refs.length=0∧q=r:=by
        cases hjj:j-refs.length with
        |zero=>rw[hjj]at hq;simp at hq;exact⟨rfl,hq.symm⟩
        |succ m=>rw[hjj]at hq;simp at hq
       rw[e1]at hu
       simp at hu
       subst hu
       refine⟨O7,hg.is.symm,?_⟩
       by_cases nS:q<2
       ·left
        refine⟨nS,?_⟩
        have hint:=CB.ok.mid.int
        have:q=0∨q=1:=by omega
        rcases this with rfl|rfl
        ·exact funext hint.zero
        ·exact funext hint.one
       ·right;rw[hg.hold,if_pos ⟨rfl,by omega⟩];omega
    ·obtain rfl:i=L.length:=by omega
     have tK:vr.oneCell'=true:=hY.rf.one
     have tJ:yU.oneCell'=true:=by obtain⟨rs,h1,_⟩:=hY.tw;obtain⟨a,c,e⟩:=aS.len h1;rw[e];rfl
     have e4:CR++(CS++(HM++C4))=(CR++(CS++HM))++C4:=by simp
     rw[e4]
     have O4:oW mp vr yU K S ord [] M refs ts (CR++(CS++HM)):={
      md:=hY.md.rd.mono zS
      NP:=GG
      n:=by rw[hY.mn,hY.kn]
      ord:=hY.mo
      ZW:=by rw[hY.mt]
      ri:=hY.rf.ints.mono fun _ h=>List.mem_append_left _ h
      cw:=by rw[hY.kn];exact hY.tw.xy (fun _ h=>List.mem_append_right _ (List.mem_append_left _ h)) (fun _ h=>List.mem_append_right _ (List.mem_append_right _ (hY.md.sub _ h)))
      len:=hY.len
      Kw:=hY.Kw
      each:=by rw[hY.kn];exact hY.each
      IU:=by have:=hY.rl;omega}
     refine DR.self ?_
     refine az.whole (r:=[ptr kp,ptr mp,vr,yU]) (by exact .head _) rfl ?_
     refine az.whole (r:=[ptr kp,ptr mp,vr,yU]) (by exact .head _) rfl ?_
     refine ag.rd (B:=(CR++(CS++HM))++C4) (.cons .here) (Oz hY.ks.bB O4 (by simp)) ?_
     rintro v rfl
     refine⟨.refl _,?_⟩
     refine St.whole (r:=[ptr kp,ptr mp,vr,yU]) (by exact .head _) rfl rfl (tq tK tJ) ?_
     refine az.whole (r:=[ptr kp,ptr mp,vr,yU]) (by exact .head _) rfl ?_
     refine aF.mk .tail ⟨kp,mp,vr,yU,K,S,ax,M,refs,ts,C4,_,rfl,rfl,hY.ks,O4,hY.kn,hY.kc,?_,.app (.app hY.md.grow)⟩
     have:=hY.tb
     rwa [List.take_length]at this
 refine ae.lss ?_
 rw[decide_eq_false (by omega)]
 refine Split.go rfl (ae.gtr ?_)
 rw[decide_eq_false (by omega)]
 refine aA.mk (Split.go rfl ?_)
 refine ag.rd (.cons .here) (P8 (n:=n) ho (by omega) (by rw[an];omega)) ?_
 rintro v rfl
 rw[decide_eq_true (Qv hp)]
 refine Un.not (aA.mk (Split.go rfl (ae.lss ?_)))
 rw[decide_eq_false (by omega)]
 refine aA.mk (Split.go rfl (ae.gtr ?_))
 rw[decide_eq_false (by omega)]
 refine aA.mk (Split.go rfl ?_)
 refine hL.aR ?_
 rw[aW]
 refine ae.gtr ?_
 rw[decide_eq_false (by omega)]
 exact aA.mk (JE.mk fin)
end
section
variable {kp:Nat} {K:Kd} {S:Nat→aZ.Fn} {ord tr:List Nat} {C:Hp} {m:Rm} {Q:List Nat→Prop}
theorem AL{held:List (List Nat×Nat)}(h:sK K S held)(hn:K.n≤16):aZ.Alike (rm K S) (vX K.n K.cap (held.map Prod.fst)) (fun ord=>ord.Perm (List.range K.n)):=by
 have hf:∀t∈held.map Prod.fst,aj.cB K.n t:=fun t ht=>by
  obtain⟨e,he,rfl⟩:=List.mem_map.1 ht
  exact h.kR e he
 refine⟨rfl,fun ord hp=>?_,fun ord l hp hl=>?_,fun ord l hp hl=>?_⟩
 ·show bC K S ord=_
  unfold bC
  rw[h.xZ]
  exact Gd hf hn (jg hp).2
 ·show decide (gW K S ord l)=decide _
  refine decide_eq_decide.2 ?_
  unfold gW
  rw[h.xZ,Ll hf hn (jg hp).2 hl (jg hp).1]
 ·have hl':l+1<K.n:=hl
  exact(y6 (by rw[(jg hp).1];exact hl')).trans hp
end
theorem RM{n c:Nat}(r:Nat):(K0 n c).hold r=0:=by simp[Kd.hold,K0]
theorem NX{n c:Nat}(hn:n≤16):aZ.Alike (rm (K0 n c) S0) (vX n c []) (fun ord=>ord.Perm (List.range n)):=AL (K:=K0 n c) (S:=S0) (held:=[]) (sK.none RM) hn
def k6:List Bool:=(List.range 16).map fun x=>decide (x&&&3=3)||decide (x&&&12=12)
theorem BJ:aj.ik 4 k6=[63624]:=by decide+kernel
theorem Ia:aj.cB 4 [63624]:=by decide+kernel
theorem vW(B:Hp):Px Tryz.prog 53 #[] B (fun r H=>j5 H r ⟨4,[63624]⟩):=by
 intro g
 refine JO (R:=aF _) ?_
 unfold L53
 intro b1 _
 refine⟨fun vs H=>∃(i:Nat) (w:Value) (C:Hp),vs=[w,.int .i64 (i:Int)]∧i≤16∧H=(b1,.cells #[.int .i64 0,.slice none 0 0] 57 (0,0))::(C++B)∧aS 4 1 w ((k6.take i).map fun b=>[Value.bool b]) C,fun vs _=>16-bg vs 1,JE.mk ⟨0,_,[],rfl,Nat.zero_le _,rfl,aS.nil _ _⟩,?_⟩
 rintro w7 w8 H ⟨i,w,C,hv,hi,rfl,hC⟩ gs
 simp only[List.cons.injEq,and_true]at hv
 obtain⟨rfl,rfl⟩:=hv
 have qJ:k6.length=16:=by simp[k6]
 refine ae.dz (b:=16) (Br.dec (fun hlt=>?_) (fun hlt=>?_))
 ·refine ae.jr (b:=3) (by simp[aB];omega) (by decide) (ae.gz (b:=3) ?_)
  refine bM.or (decide (i&&&12=12)) (fun _=>ae.jr (b:=12) (by simp[aB];omega) (by decide) (ae.gz (b:=12) ⟨rfl,rfl⟩)) (by simp) fun gs=>?_
  refine av.cell (e:=4) (z:=.bool false) (by kernel_rfl) (by kernel_rfl) (by kernel_rfl) rfl fun bx=>?_
  have hb:k6[i]'(by omega)=(decide (i&&&3=3)||decide (i&&&12=12)):=by simp[k6]
  have l8:k6.take (i+1)=k6.take i++[decide (i&&&3=3)||decide (i&&&12=12)]:=by rw[List.take_succ_eq_append_getElem (by omega),hb]
  refine hC.mW (r:=[.bool (decide (i&&&3=3)||decide (i&&&12=12))]) (.cons (.cons .left)) (by exact .head _) rfl (by simp[Value.oneCell']) ⟨[.bool false],rfl,rfl⟩ (by simp;omega) (by simp;omega) fun v' C' ho=>?_
  refine ae.aH (b:=1) (by simp[aB];omega) ?_
  refine ay.of .tail ⟨i+1,v',C',rfl,hlt,rfl,?_⟩ (by simp only[bg];omega)
  rw[l8,List.map_append];exact ho
 ·obtain rfl:i=16:=by omega
  rw[List.take_of_length_le (by omega)]at hC
  have hB:iM (C++B) w7 k6:=iM.mono (Sl.rE hC (by decide)) fun _ h=>List.mem_append_left _ h
  refine ag.px (args:=#[.int .i64 ((4:Nat):Int),w7]) (.cons .here) (sC (n:=4) (by omega) hB (by rw[qJ];decide) (by rw[qJ];decide)) ?_
  rintro r N ⟨s,rfl,hw⟩
  have hone:=aD hw
  refine St.whole (r:=[.int .i64 (4:Int),s]) (by exact .head _) rfl rfl (by simpa[Value.oneCell']using hone) ?_
  refine az.whole (r:=[.int .i64 (4:Int),s]) (by exact .head _) rfl ?_
  refine oV.mk (by repeat (first|exact aV.refl _|apply aV.cons|apply aV.app)) ⟨s,rfl,?_⟩
  rw[BJ]at hw
  exact hw.mono zS
section
variable {kp:Nat} {K:Kd} {S:Nat→aZ.Fn} {ord tr:List Nat} {C:Hp} {m:Rm} {Q:List Nat→Prop}
theorem Y9(hA:At kp K S ord tr C)(ql:aZ.Alike (rm K S) m Q)(hq:Q ord){w a b cnt:Nat}{ZY ord':List Nat}(hw:2≤w∧w≤4)(hp:w≤K.n+1)(ig:tr.length<274877906944)
 (hv:m.pass w ord=(ZY,cnt))(ha:m.size ord=a)(ho:aE ord ZY=ord')(hb:m.size ord'=b):
  Fc Tryz.prog 22 #[ptr kp,.int .i64 (w:Int)] C (fun v H=>v=.tuple #[rep a b cnt,.int .i64 0]∧At kp K S ord' (tr++ZY) H):=by
 obtain⟨e,QG⟩:=ql.pass (w:=w) hp hq
 rw[hv]at e QG
 refine(RI hA hw ig).mono ?_
 rintro v H ⟨rfl,h⟩
 rw[e]at h⊢
 simp only at h QG⊢
 rw[ho]at h QG⊢
 have e1:bC K S ord=a:=(ql.size ord hq).trans ha
 have e2:bC K S ord'=b:=(ql.size ord' QG).trans hb
 rw[e1,e2]
 exact⟨rfl,h⟩
end
theorem Rq:(Tryz.prog.fieldsOf 42).toList.map (fun f=>(f.name,f.type,f.offset))=[("Before",3,0),("After",3,1),("Swaps",3,2),("Optimal",4,3)]:=by kernel_rfl
theorem Rz:Tryz.prog.underlying 4=some .bool:=by kernel_rfl
theorem Us:Tryz.prog.underlying 3=some (.int .i64):=by kernel_rfl
theorem LU{g:Gh}{H:Hp}{o:Oper}{ρ:Operand→Value}{k:Value→Prop}{neq:Bool}{x y:Operand}{a1 a2 a3 b1 b2 b3:Nat}(ho:o.op=.binOp (cond neq .neq .eql) 42 x y 42)(hx:ρ x=rep a1 a2 a3)(hy:ρ y=rep b1 b2 b3)
 (hk:k (.bool (cond neq (!(decide (a1=b1) && (decide (a2=b2) &&decide (a3=b3)))) (decide (a1=b1) && (decide (a2=b2) &&decide (a3=b3)))))):jH Tryz.prog g o ρ H k:=by
 refine jH.struct (neq:=neq) ho hx hy (by kernel_rfl) (by kernel_rfl) (by kernel_rfl) (b:=(decide (a1=b1) && (decide (a2=b2) &&decide (a3=b3)))) ?_ hk
 intro w
 have h:=Rq
 generalize (Tryz.prog.fieldsOf 42).toList=fs at h
 rcases fs with _|⟨f1,_|⟨f2,_|⟨f3,_|⟨f4,_|⟨f5,fs⟩⟩⟩⟩⟩<;>simp only[List.map_cons,List.map_nil,List.cons.injEq,Prod.mk.injEq,and_true,reduceCtorEq,and_false]at h
 obtain⟨⟨n1,t1,o1⟩,⟨n2,t2,o2⟩,⟨n3,t3,o3⟩,n4,t4,o4⟩:=h
 let cs:Nat→Nat→Nat→Array Value:=fun a b c=>#[.int .i64 (a:Int),.int .i64 (b:Int),.int .i64 (c:Int),.bool false]
 have p1:∀a b c w,(part 3 (cs a b c) 0).run Tryz.prog w=.ok (.int .i64 (a:Int)) w:=fun a b c w=>run_part_plain (w:=w) (by kernel_rfl) rfl
 have p2:∀a b c w,(part 3 (cs a b c) 1).run Tryz.prog w=.ok (.int .i64 (b:Int)) w:=fun a b c w=>run_part_plain (w:=w) (by kernel_rfl) rfl
 have p3:∀a b c w,(part 3 (cs a b c) 2).run Tryz.prog w=.ok (.int .i64 (c:Int)) w:=fun a b c w=>run_part_plain (w:=w) (by kernel_rfl) rfl
 have p4:∀a b c w,(part 4 (cs a b c) 3).run Tryz.prog w=.ok (.bool false) w:=fun a b c w=>run_part_plain (w:=w) (by kernel_rfl) rfl
 have q1:∀(x y:Nat) w,(Op.equalIn 9999 3 (.int .i64 (x:Int)) (.int .i64 (y:Int))).run Tryz.prog w=.ok (decide (x=y)) w:=fun x y w=>by
  rw[run_equalIn_int w 9998 3 .i64 _ _ _ Us]
  congr 1
  rw[Bool.eq_iff_iff];simp only[beq_iff_eq,decide_eq_true_eq];exact Int.ofNat_inj
 have q2:∀x y w,(Op.equalIn 9999 4 (.bool x) (.bool y)).run Tryz.prog w=.ok (x==y) w:=fun x y w=>run_equalIn_bool' w 9998 4 x y Rz
 show(Op.eqFields 9999 (cs a1 a2 a3) (cs b1 b2 b3) [f1,f2,f3,f4]).run Tryz.prog w=_
 simp only[Op.eqFields,n1,n2,n3,n4,t1,t2,t3,t4,o1,o2,o3,o4,Sem.run_bind,p1,p2,p3,p4,q1,q2,Result.andThen_ok,Sem.run_ite,Sem.run_pure]
 by_cases h1:a1=b1<;>by_cases h2:a2=b2<;>by_cases h3:a3=b3<;>simp[h1,h2,h3]
theorem oW.W7{mp:Nat}{vr vt:Value}{K:Kd}{S:Nat→aZ.Fn}{ord tr:List Nat}{M:Md}{refs:List Nat}{ts:List (List Nat)}{Y:Hp}(h:oW mp vr vt K S ord tr M refs ts Y):vr.oneCell'=true∧vt.oneCell'=true:=by
 refine⟨?_,?_⟩
 ·obtain⟨a,c,e,_⟩:=h.ri.shape;rw[e];rfl
 ·obtain⟨rs,h1,_⟩:=h.cw;obtain⟨a,c,e,_⟩:=h1.shape;rw[e];rfl
theorem ez:[0,2,1,3].Perm (List.range 4):=by decide
theorem mB:[0,1,2,3].Perm (List.range 4):=by decide
theorem NF:tS 4 100 [0,2,1,3] [] [[63624]]=[[63624]]:=by decide+kernel
theorem vS{Y:Hp}{o v:Value}(ho:bW .i64 Y o (iw [0,2,1,3]))(hL:cT Y v (gy 4 [[63624]])):
  Fc Tryz.prog 52 #[.int .i64 100,o,v] Y (fun r H=>∃kp mp vr vt K S M refs ts C Y',r=.tuple #[L5 kp mp vr vt,.bool true,.bool true]∧H=Y'++C∧At kp K S [0,2,1,3] [] C∧oW mp vr vt K S [0,2,1,3] [] M refs ts Y'∧K.n=4∧aZ.Alike (rm K S) (vX 4 100 [[63624]]) (fun ord=>ord.Perm (List.range 4))):=by
 refine(LD (n:=4) (c:=100) (by decide) (by decide) ez ho hL (fun t ht=>by simp at ht;subst ht;exact Ia) (by simp)).mono ?_
 rintro r H ⟨kp,mp,vr,vt,K,S,ax,M,refs,ts,C,Y',rfl,rfl,hK,hP,hn,hc,ht,_⟩
 rw[NF]at ht
 refine⟨kp,mp,vr,vt,K,S,M,refs,ts,C,Y',rfl,rfl,hK.bB,hP,hn,?_⟩
 have:=AL hP.Kw (by omega)
 rw[hn,hc,show M.held.map Prod.fst=[[63624]]from ht]at this
 exact this
abbrev Q3:=Nat×Nat×Nat
def l3(q:Q3):List Nat:=[q.1,q.2.1,q.2.2]
def opB(op:Nat)(a b:Bool):Bool:=op.testBit (2*a.toNat+b.toNat)
section
variable {kp:Nat} {K:Kd} {S:Nat→aZ.Fn} {ord ax tr:List Nat} {C:Hp}
theorem su{n v:Nat}(hv:v<n):2^v<2^n:=Nat.pow_lt_pow_right (by decide) hv
end
end Go.Proofs
set_option maxRecDepth 100000
namespace Go.Proofs
open Go Go.Sx
theorem yS{n:Nat}(hn:n≤16)(B:Hp):Rd Tryz.prog 254 #[.int .i64 (n:Int)] B (· =.int .i64 ((aj.wN n:Nat):Int)):=by
 intro g
 refine DN (R:=aF _) ?_
 unfold L254
 have h1:1<<<n≤65536:=by rw[Nat.one_shiftLeft];exact Nat.pow_le_pow_right (n:=2) (by decide) hn
 refine ae.r3 (a:=1) (b:=n) (by simp[IntKind.bits];omega) (by simp[aB];omega) ?_
 refine ae.jU (b:=6) (by simp[aB];omega) ?_
 refine⟨_,_,_,rfl,rfl,?_⟩
 refine bO.mk (.refl _) ?_
 have:1<<<n>>>6=2^n/64:=by rw[Nat.one_shiftLeft,Nat.shiftRight_eq_div_pow]
 rw[this]
 congr 1
 unfold aj.wN
 rw[Nat.max_def]
 split<;>split<;>omega
theorem GK{n:Nat}(hn:n≤16)(B:Hp):Rd Tryz.prog 255 #[.int .i64 (n:Int)] B (· =.int .u64 ((aj.ct n:Nat):Int)):=by
 intro g
 refine DM (R:=aF _) ?_
 unfold L255
 refine ae.qP (a:=n) (b:=6) (Br.dec (fun h=>?_) (fun h=>?_))
 ·exact bO.mk (.refl _) (by unfold aj.ct;rw[if_pos h];rfl)
 ·have h1:2^n≤32:=Nat.pow_le_pow_right (n:=2) (by decide) (by omega:n≤5)
  have h2:2^2^n≤2^32:=Nat.pow_le_pow_right (by decide) h1
  have h3:=Nat.two_pow_pos (2^n)
  refine ae.pB (a:=1) (b:=n) ?_
  rw[Nat.one_shiftLeft,Nat.mod_eq_of_lt (by omega)]
  refine ae.pB (a:=1) ?_
  rw[Nat.one_shiftLeft,Nat.mod_eq_of_lt (by omega)]
  refine ae.bH (b:=1) (by simp[aB];omega) (by omega) ?_
  exact bO.mk (.refl _) (by unfold aj.ct;rw[if_neg h])
theorem Iu{n:Nat}{ws:List Nat}(hn:n≤16)(hl:ws.length=aj.wN n)(hw:∀w∈ws,w<18446744073709551616){w:Nat}(hg:ws[ws.length-1]? =some w):
  (lH w (aj.ct n)=0)↔aj.cB n ws:=by
 have key:∀w,w<18446744073709551616→(lH w (aj.ct n)=0↔w≤aj.ct n):=by
  intro w hw
  constructor
  ·intro h
   have:w&&&aj.ct n=w:=by
    apply Nat.eq_of_testBit_eq;intro j
    have:=congrArg (fun x=>x.testBit j) h
    simp only[cZ,Nat.zero_testBit]at this
    rw[Nat.testBit_and]
    cases h1:w.testBit j<;>cases h2:(aj.ct n).testBit j<;>simp_all
   rw[←this];exact Nat.and_le_right
  ·intro h
   have:=aj.mY h
   unfold lH;rw[this,Nat.xor_self]
 constructor
 ·intro h
  refine⟨hn,hl,fun u hu=>?_⟩
  by_cases h6:6≤n
  ·unfold aj.ct;rw[if_pos h6];have:=hw u hu;omega
  ·have h1:ws.length=1:=by rw[hl,aj.sL (by omega)]
   obtain⟨x,rfl⟩:=List.length_eq_one_iff.1 h1
   simp at hg hu
   subst hg;subst hu
   exact(key _ (hw _ (by simp))).1 h
 ·intro h
  exact(key w (hw w (List.mem_of_getElem? hg))).2 (h.full w (List.mem_of_getElem? hg))
theorem Ag{B:Hp}{v:Value}{t:Tb}(ht:j5 B v t):Rd Tryz.prog 232 #[v] B (· =.bool (decide (TF t))):=by
 obtain⟨tn,ws⟩:=t
 obtain⟨s,rfl,hs,hw⟩:=ht
 simp only at hs hw⊢
 intro g
 refine D0 (R:=aF _) ?_
 unfold L232
 intro b1 _ J hJ
 have hno:¬TF ⟨tn,ws⟩→JE J [.bool true] ((b1,.cells (Value.cells (.agg #[.int .i64 tn,s])) 57 (0,0))::B):=fun h=>
  JE.mk (hJ _ _ fun gs=>Br.yes (bO.mk .tail (by rw[decide_eq_false h])))
 refine DR.self ?_
 refine aa.mk (Ld.mk zM rfl ?_)
 refine ae.lss (Br.dec (fun h0=>hno fun h=>by have:=h.1;simp only at this;omega) (fun h0=>?_))
 obtain⟨n,rfl⟩:∃n:Nat,tn=n:=⟨tn.toNat,by omega⟩
 have U4:TF ⟨(n:Int),ws⟩↔aj.cB n ws:=by unfold TF;simp
 refine aa.mk (Ld.mk zM rfl ?_)
 refine ae.me (b:=16) (aA.mk (Br.dec (fun h1=>hno fun h=>by have:=(U4.1 h).lN;omega) (fun h1=>?_)))
 refine aa.mk (Ld.mk zM rfl ?_)
 refine hs.aR ?_
 refine aa.mk (Ld.mk zM rfl ?_)
 intro F
 refine ag.rd (.cons .here) (yS (by omega) B) ?_
 rintro v rfl
 refine⟨(by repeat (first|exact aO.refl _|apply aO.cons|apply aO.skip|apply aO.cL|apply aO.bN)),?_⟩
 rw[an]
 refine ae.pH (aA.mk ?_)
 simp only[cond_false]
 by_cases hl:ws.length=aj.wN n
 case neg=>rw[show decide (ws.length≠aj.wN n)=true by simp[hl]];exact hno fun h=>hl (U4.1 h).len
 rw[show decide (ws.length≠aj.wN n)=false by simp[hl]]
 refine JE.mk (hJ _ _ fun gs=>Br.no ?_)
 have hpos:=aj.Bd n
 obtain⟨w,hg⟩:∃w,ws[ws.length-1]? =some w:=⟨_,List.getElem?_eq_getElem (by omega)⟩
 refine DR.self ?_
 refine aa.mk (Ld.mk zM rfl ?_)
 refine aa.mk (Ld.mk zM rfl ?_)
 refine hs.aR ?_
 rw[an]
 refine ae.bH (b:=1) (by have:=aj.rj (n:=n) (by omega);simp[aB];omega) (by omega) ?_
 refine hs.ld (cj hg) zS ?_
 refine aa.mk (Ld.mk zM rfl ?_)
 refine ag.rd (.cons .here) (GK (by omega) B) ?_
 rintro v rfl
 refine⟨(by repeat (first|exact aO.refl _|apply aO.cons|apply aO.skip|apply aO.cL|apply aO.bN)),?_⟩
 refine ae.AJ (by have:=hw w (List.mem_of_getElem? hg);simpa[aB]using this) (by have:=aj.pY n;simpa[aB]using this) ?_
 refine ae.gz (b:=0) ?_
 refine bO.mk .tail ?_
 congr 1
 exact decide_eq_decide.2 ((Iu (by omega) hl hw hg).trans U4.symm)
theorem tX{B:Hp}{v:Value}{ts:List Tb}(ht:cT B v ts)(bE:ts.length<2^62):Rd Tryz.prog 220 #[v] B (· =.bool (decide (∀t∈ts,TF t∧some t.n=ts.head?.map Tb.n))):=by
 intro g
 refine Eb (R:=aF _) ?_
 unfold L220
 refine ht.aR ?_
 refine⟨fun vs H=>aV B H∧∃k:Nat,vs=[.int .i64 (k:Int)]∧k≤ts.length∧∀i t,i<k→ts[i]? =some t→TF t∧some t.n=ts.head?.map Tb.n,fun vs _=>ts.length-bg vs 0,JE.mk ⟨.refl _,0,rfl,by omega,by omega⟩,?_⟩
 rintro w H ⟨hg,k,hv,hk,aK⟩ gs
 simp only[List.cons.injEq,and_true]at hv
 subst hv
 refine ae.dz (Br.dec (fun hlt=>?_) (fun hlt=>?_))
 ·obtain⟨t,l8⟩:∃t,ts[k]? =some t:=⟨_,List.getElem?_eq_getElem hlt⟩
  obtain⟨t0,QD⟩:∃t,ts[0]? =some t:=⟨_,List.getElem?_eq_getElem (by omega)⟩
  have hh:ts.head?.map Tb.n=some t0.n:=by rw[List.head?_eq_getElem?,QD];rfl
  have Xs:=ht.mono hg.sub
  refine Xs.ld l8 (fun _ h=>h) fun s hs=>?_
  intro b1 _
  refine St.whole (r:=[.int .i64 t.n,s]) (by exact cJ.head _) rfl rfl ?_ ?_
  ·obtain⟨a,c,rfl,_⟩:=hs.1.shape;simp[Value.oneCell']
  intro J hJ
  have hno:∀H',aV B H'→¬(TF t∧some t.n=ts.head?.map Tb.n)→JE J [.bool true] H':=fun H' US h=>
   JE.mk (hJ _ _ fun gs=>Br.yes (bO.mk US.rR (by rw[decide_eq_false];exact fun hh=>h (hh t (List.mem_of_getElem? l8)))))
  have SK:aV B ((b1,Obj.cells (List.toArray [.int .i64 t.n,s]) 57 (0,0))::H):=.cons hg
  refine DR.self ?_
  refine az.whole (r:=[.int .i64 t.n,s]) (by exact List.Mem.head _) rfl ?_
  intro F
  refine ag.rd (B:=H) (.cons .here) (Ag ⟨s,rfl,hs⟩) ?_
  rintro v rfl
  refine⟨.refl _,Un.not ?_⟩
  by_cases hT:TF t
  case neg=>rw[decide_eq_false hT];exact Br.yes (hno _ SK fun h=>hT h.1)
  rw[decide_eq_true hT]
  refine Br.no ?_
  refine aa.mk (Ld.mk zM rfl ?_)
  refine Xs.Xe QD zS ?_
  refine ae.dX (aA.mk ?_)
  simp only[cond_false]
  by_cases hn:t.n=t0.n
  case neg=>rw[decide_eq_true hn];exact hno _ SK fun h=>hn (by have:=h.2;rw[hh]at this;simpa using this)
  rw[decide_eq_false (by simpa using hn)]
  refine JE.mk (hJ _ _ fun gs=>Br.no ?_)
  refine ae.aH (b:=1) (by simp[aB];omega) ?_
  refine ay.mk ⟨SK,k+1,rfl,by omega,fun i u hi hu=>?_⟩ (by simp[bg];omega)
  by_cases e:i=k
  ·subst e;rw[l8]at hu;cases hu;exact⟨hT,by rw[hh,hn]⟩
  ·exact aK i u (by omega) hu
 ·refine bO.mk hg.rR ?_
  rw[decide_eq_true]
  intro t htm
  obtain⟨i,hi,rfl⟩:=List.mem_iff_getElem.1 htm
  exact aK i _ (by omega) (List.getElem?_eq_getElem hi)
theorem tY{B:Hp}{b:Nat}{t:Tb}{s:Value}{T:TypeId}{fz:Nat×Nat}(hm:(b,Obj.cells #[.int .i64 t.n,s] T fz)∈B)(hw:Words B s t.ws):
  Rd Tryz.prog 220 #[.slice (some ⟨b,0,none⟩) 1 1] B (· =.bool (decide (TF t))):=
 (tX (cT.one (cap:=0) hm hw) (by simp)).mono fun v H ⟨h1,h2⟩=>⟨h1,by rw[h2];congr 1;simp⟩
theorem W8{B:Hp}{v:Value}{t:Tb}(ht:j5 B v t)(u:Int):Rd Tryz.prog 214 #[v,.int .i64 u] B (· =.int .i64 (if TF t then(if 0≤u∧u<t.n then 0 else 2)else 5)):=by
 obtain⟨s,rfl,hw⟩:=ht
 intro g
 refine Eg (R:=aF _) ?_
 unfold L214
 intro b1 _
 refine az.whole (r:=[.int .i64 t.n,s]) (by exact List.Mem.head _) rfl ?_
 refine eC fun b2=>?_
 refine ag.rd .here (tY (by exact List.Mem.head _) (hw.mono zS)) ?_
 rintro v rfl
 refine Un.not ?_
 by_cases hT:TF t
 ·rw[decide_eq_true hT,if_pos hT]
  refine Br.no (ae.lss ?_)
  refine bM.or (decide (t.n≤u)) (fun h=>?_) rfl ?_
  ·refine aa.mk (Ld.mk zM rfl ?_)
   exact ae.geq ⟨rfl,rfl⟩
  ·intro gs
   have hor:(decide (u<0)||decide (t.n≤u))=decide (¬(0≤u∧u<t.n)):=by
    by_cases h1:u<0<;>by_cases h2:t.n≤u<;>simp[h1,h2]<;>omega
   rw[hor]
   refine Br.dec (fun h=>?_) (fun h=>?_)
   ·exact bO.mk (by repeat (first|exact aO.refl _|apply aO.cons|apply aO.skip|apply aO.cL|apply aO.bN)) (by rw[if_neg h])
   ·exact bO.mk (by repeat (first|exact aO.refl _|apply aO.cons|apply aO.skip|apply aO.cL|apply aO.bN)) (by rw[if_pos (Classical.not_not.1 h)])
 ·rw[decide_eq_false hT,if_neg hT]
  exact Br.yes (bO.mk (by repeat (first|exact aO.refl _|apply aO.cons|apply aO.skip|apply aO.cL|apply aO.bN)) rfl)
theorem wI{u i:Nat}(hu:u<64)(hi:i<18446744073709551616)(Cn:i<9223372036854775808)(B:Hp):Rd Tryz.prog 219 #[.int .i64 (u:Int),.int .i64 (i:Int)] B
  (· =.int .u64 ((if 6≤u then(if(i>>>(u-6)).testBit 0 then 18446744073709551615 else 0)else aj.mask u:Nat):Int)):=by
 intro g
 refine Ec (R:=aF _) ?_
 unfold L219
 refine ae.qP (a:=u) (b:=6) (Br.dec (fun h=>?_) (fun h=>?_))
 ·refine bL.nat (by simpa[aB]using hi) ?_
  refine ae.bH (b:=6) (by simp[aB];omega) h ?_
  refine ae.jU (by simpa[aB]using hi) ?_
  have hs:i>>>(u-6)<18446744073709551616:=Nat.lt_of_le_of_lt (Nat.shiftRight_le _ _) hi
  refine ae.jr (b:=1) (by simpa[aB]using hs) (by decide) ?_
  refine Un.ab3 (by rw[aj.e9];split<;>decide) ?_
  refine bO.mk (.refl _) ?_
  rw[if_pos h,aj.e9]
  split<;>rfl
 ·refine⟨fun vs H=>H=B∧∃j:Nat,vs=[.int .u64 ((aj.yg u j:Nat):Int),.int .i64 (j:Int)]∧j≤64,fun vs _=>64-bg vs 1,JE.mk ⟨rfl,0,rfl,by omega⟩,?_⟩
  rintro w1 w2 H ⟨rfl,j,hv,hj⟩ gs
  simp only[List.cons.injEq,and_true]at hv
  obtain⟨rfl,rfl⟩:=hv
  refine ae.dz (b:=64) (Br.dec (fun hlt=>?_) (fun hlt=>?_))
  ·refine ae.jU (by simp[aB];omega) ?_
   have hs:j>>>u<64:=Nat.lt_of_le_of_lt (Nat.shiftRight_le _ _) hlt
   refine ae.jr (b:=1) (by simp[aB];omega) (by decide) ?_
   have h1:j>>>u&&&1≤1:=by rw[aj.e9];split<;>decide
   refine bL.nat (by simp[aB];omega) ?_
   refine ae.pB ?_
   have h2:((j>>>u&&&1)<<<j)<18446744073709551616:=by
    rw[Nat.shiftLeft_eq]
    calc _≤1*2^j:=Nat.mul_le_mul_right _ h1
     _<2^64:=by rw[Nat.one_mul];exact Nat.pow_lt_pow_right (by decide) hlt
   rw[Nat.mod_eq_of_lt h2]
   have h3:aj.yg u j<18446744073709551616:=Nat.lt_of_lt_of_le (aj.yf u j) (Nat.pow_le_pow_right (n:=2) (by decide) hj)
   refine ae.Gr (by simpa[aB]using h3) (by simpa[aB]using h2) ?_
   refine ae.aH (b:=1) (by simp[aB];omega) ?_
   exact ay.mk ⟨rfl,j+1,rfl,by omega⟩ (by simp[bg];omega)
  ·have:j=64:=by omega
   subst this
   exact bO.mk (.refl _) (by rw[if_neg h];rfl)
theorem pP{n:Nat}(hn:n≤16){fv:Value}{f:FuncId}{first cap:Array Value}(X4:fv=.func (.func f) first cap)(jW:cR Tryz.prog f=true){F:Nat→Nat}(hF:∀i,i<aj.wN n→F i<18446744073709551616){B:Hp}
 (hc:∀i:Nat,i<aj.wN n→Rd Tryz.prog f (first++ #[.int .i64 (i:Int)]++cap) B (· =.int .u64 ((F i:Nat):Int))):
  Px Tryz.prog 212 #[.int .i64 (n:Int),fv] B (fun v H=>j5 H v ⟨n,(List.range (aj.wN n)).map fun i=>F i&&&aj.ct n⟩):=by
 intro g
 have MG:=aj.rj hn
 refine Ei (R:=aF _) ?_
 unfold L212
 intro b1 _
 refine ag.rd (.cons .here) (yS hn B) ?_
 rintro v rfl
 refine cc.ints (gI hn).1 (gI hn).2 fun bw=>?_
 refine Build.mk (cs:=[.int .i64 (n:Int),.slice (some ⟨bw,0,none⟩) (aj.wN n) (aj.wN n)]) (by kernel_rfl) ?_
 intro b8 _
 refine St.whole (r:=[.int .i64 (n:Int),.slice (some ⟨bw,0,none⟩) (aj.wN n) (aj.wN n)]) (by exact cJ.head _) rfl rfl (by simp[Value.oneCell']) ?_
 refine aa.mk (Ld.mk zM rfl ?_)
 refine aG.mk ?_
 rw[range_zero (G:=fun i=>F i&&&aj.ct n)]
 refine⟨fun vs H=>∃i:Nat,vs=[.int .i64 (i:Int)]∧i≤aj.wN n∧H=(b8,.cells (List.toArray [.int .i64 (n:Int),.slice (some ⟨bw,0,none⟩) (aj.wN n) (aj.wN n)]) 57 (0,0))::
   (bw,.cells (aC .u64 (iw ((List.range (aj.wN n)).map fun k=>if k<i then F k&&&aj.ct n else 0))) 50 (0,0))::(b1,.cells #[.int .i64 0,.slice none 0 0] 57 (0,0))::B,
  fun vs _=>aj.wN n-bg vs 0,JE.mk ⟨0,rfl,by omega,rfl⟩,?_⟩
 rintro w H ⟨i,hv,hi,rfl⟩ gs
 simp only[List.cons.injEq,and_true]at hv
 subst hv
 refine ae.dz (Br.dec (fun hlt=>?_) (fun hlt=>?_))
 ·refine DR.self ?_
  refine aa.mk (Ld.mk zM rfl ?_)
  refine fx.of X4 jW ?_
  refine ag.rd (.cons (.cons (.cons .here))) (hc i hlt) ?_
  rintro v rfl
  refine⟨.refl _,?_⟩
  refine ag.rd (.cons (.cons (.cons .here))) (GK hn B) ?_
  rintro v rfl
  refine⟨.refl _,?_⟩
  refine ae.jr (by simpa[aB]using hF i hlt) (by simpa[aB]using aj.pY n) ?_
  refine ah.nat hlt ?_
  refine St.ints (l:=iw _) (by exact .tail (.head _)) (by simpa using hlt) ?_
  refine ae.aH (b:=1) (by simp[aB];omega) ?_
  rw[vZ hlt]
  exact ay.mk ⟨i+1,rfl,by omega,rfl⟩ (by simp[bg];omega)
 ·have:i=aj.wN n:=by omega
  subst this
  rw[th]
  refine az.whole (r:=[.int .i64 (n:Int),.slice (some ⟨bw,0,none⟩) (aj.wN n) (aj.wN n)]) (by exact List.Mem.head _) rfl ?_
  refine St.whole (r:=[.int .i64 (n:Int),.slice (some ⟨bw,0,none⟩) (aj.wN n) (aj.wN n)]) (by exact .tail (.tail (.head _))) rfl rfl (by simp[Value.oneCell']) ?_
  refine az.whole (r:=[.int .i64 (n:Int),.slice (some ⟨bw,0,none⟩) (aj.wN n) (aj.wN n)]) (by exact .tail _ (.tail _ (.head _))) rfl ?_
  refine oV.mk (by repeat (first|exact aV.refl _|apply aV.cons|apply aV.app)) ⟨_,rfl,?_⟩
  have:=Words.block (b:=bw) (cap:=aj.wN n) (ws:=(List.range (aj.wN n)).map fun i=>F i&&&aj.ct n) (T:=50) (fz:=(0,0)) (B:=(b8,.cells (List.toArray [.int .i64 (n:Int),.slice (some ⟨bw,0,none⟩) (aj.wN n) (aj.wN n)]) 57 (0,0))::
   (bw,.cells (aC .u64 (iw ((List.range (aj.wN n)).map fun i=>F i&&&aj.ct n))) 50 (0,0))::(b1,.cells (List.toArray [.int .i64 (n:Int),.slice (some ⟨bw,0,none⟩) (aj.wN n) (aj.wN n)]) 57 (0,0))::B) (by exact .tail _ (.head _)) (by simp) (fun w hw=>by
    obtain⟨k,_,rfl⟩:=List.mem_map.1 hw
    exact Nat.lt_of_le_of_lt Nat.and_le_right (aj.pY n))
  simpa using this
theorem Ns{B:Hp}{pv pb pa s:Value}{u n i:Nat}{c:Bool}{ws:List Nat}(hv:Go.Sx.At B pv [.int .i64 (u:Int)])(hb:Go.Sx.At B pb [.bool c])(ha:Go.Sx.At B pa [.int .i64 (n:Int),s])(hw:Words B s ws)(hf:aj.cB n ws)(hu:u<n)(hi:i<aj.wN n):
  Rd Tryz.prog 256 #[.int .i64 (i:Int),pv,pb,pa] B (· =.int .u64 ((aj.dG ws u c i:Nat):Int)):=by
 intro g
 have hn:=hf.lN
 have MG:=aj.rj hn
 refine DL (R:=aF _) ?_
 unfold L256
 refine Ld.at hv (fun _ h=>h) ?_
 refine ae.qP (a:=u) (b:=6) (Br.dec (fun h6=>?_) (fun h6=>?_))
 ·have hp:2^(u-6)≤1024:=Nat.pow_le_pow_right (n:=2) (by decide) (by omega:u-6≤10)
  refine Ld.at hv (fun _ h=>h) ?_
  refine ae.bH (b:=6) (by simp[aB];omega) h6 ?_
  refine ae.r3 (a:=1) (by simp[IntKind.bits];omega) (by rw[Nat.one_shiftLeft];simp[aB];omega) ?_
  rw[Nat.one_shiftLeft]
  refine ae.AJ (by simp[aB];omega) (by simp[aB];omega) ?_
  have hand:=jS i (2^(u-6))
  intro J hJ
  have QF:aj.aI i (u-6) c<aj.wN n:=by
   rw[aj.sM (by omega)]at hi⊢
   exact aj.fj hi (by omega)
  have fm:JE J [.int .i64 ((aj.aI i (u-6) c:Nat):Int)] B:=by
   refine JE.mk (hJ _ _ fun gs=>?_)
   refine aa.at ha fun q hq=>Ld.at hq (fun _ h=>h) ?_
   have hg:ws[aj.aI i (u-6) c]? =some (ws.getD (aj.aI i (u-6) c) 0):=by rw[List.getElem?_eq_getElem (by rw[hf.len];exact QF),List.getD_eq_getElem?_getD,List.getElem?_eq_getElem (by rw[hf.len];exact QF)];rfl
   refine hw.1.ld (cj hg) (fun _ h=>h) ?_
   exact bO.mk (.refl _) (by unfold aj.dG;rw[if_pos h6])
  refine Ld.at hb (fun _ h=>h) ?_
  cases c
  ·exact Br.no fm
  ·refine Br.yes ?_
   refine Ld.at hv (fun _ h=>h) ?_
   refine ae.bH (b:=6) (by simp[aB];omega) h6 ?_
   refine ae.r3 (a:=1) (by simp[IntKind.bits];omega) (by rw[Nat.one_shiftLeft];simp[aB];omega) ?_
   rw[Nat.one_shiftLeft]
   refine ae.Gr (by simp[aB];omega) (by simp[aB];omega) ?_
   have e:lH i (2^(u-6))|||2^(u-6)=aj.aI i (u-6) true:=by
    apply Nat.eq_of_testBit_eq;intro k
    rw[Nat.testBit_or,cZ,aj.au,Nat.testBit_two_pow]
    by_cases e:k=u-6
    ·simp[e]
    ·simp[e,Ne.symm e]
   rw[e];exact fm
 ·have hp:2^u≤32:=Nat.pow_le_pow_right (n:=2) (by decide) (by omega:u≤5)
  have hg:ws[i]? =some (ws.getD i 0):=by rw[List.getElem?_eq_getElem (by rw[hf.len];exact hi),List.getD_eq_getElem?_getD,List.getElem?_eq_getElem (by rw[hf.len];exact hi)];rfl
  have Kx:=hw.2 _ (List.mem_of_getElem? hg)
  have hm:=aj.su u
  refine DR.self ?_
  refine Ld.at hv (fun _ h=>h) (Ld.at hv (fun _ h=>h) ?_)
  refine ae.r3 (a:=1) (b:=u) (by simp[IntKind.bits];omega) (by rw[Nat.one_shiftLeft];simp[aB];omega) ?_
  rw[Nat.one_shiftLeft]
  refine ag.rd .here (wI (u:=u) (i:=0) (by omega) (by omega) (by omega) B) ?_
  rintro v rfl
  rw[if_neg h6]
  refine⟨.refl _,?_⟩
  refine Ld.at hb (fun _ h=>h) ?_
  cases c
  ·refine Br.no ?_
   refine aa.at ha fun q hq=>Ld.at hq (fun _ h=>h) ?_
   refine hw.1.ld (cj hg) (fun _ h=>h) ?_
   refine ae.AJ (by simpa[aB]using Kx) (by simpa[aB]using hm) ?_
   refine ae.pB ?_
   have:=jS (ws.getD i 0) (aj.mask u)
   refine ae.Gr (by simp only[aB];omega) (by simp only[aB];omega) ?_
   exact bO.mk (.refl _) (by unfold aj.dG;rw[if_neg h6];rfl)
  ·refine Br.yes ?_
   refine aa.at ha fun q hq=>Ld.at hq (fun _ h=>h) ?_
   refine hw.1.ld (cj hg) (fun _ h=>h) ?_
   refine ae.jr (by simpa[aB]using Kx) (by simpa[aB]using hm) ?_
   have h1:ws.getD i 0&&&aj.mask u≤ws.getD i 0:=Nat.and_le_left
   refine ae.jU (by simp only[aB];omega) ?_
   have h2:=Nat.shiftRight_le (ws.getD i 0&&&aj.mask u) (2^u)
   refine ae.Gr (by simp only[aB];omega) (by simp only[aB];omega) ?_
   exact bO.mk (.refl _) (by unfold aj.dG;rw[if_neg h6];rfl)
theorem x6{B:Hp}{v:Value}{n u:Nat}{ws:List Nat}{c:Bool}(ht:j5 B v ⟨n,ws⟩)(hf:aj.cB n ws)(hu:u<n):
  Px Tryz.prog 215 #[v,.int .i64 (u:Int),.bool c] B (fun v H=>j5 H v ⟨n,aj.ed n ws u c⟩):=by
 obtain⟨s,rfl,hw⟩:=ht
 intro g
 refine Ef (R:=aF _) ?_
 unfold L215
 intro b1 _ b3 _ b5 _ b7 _
 refine aa.mk (Ld.mk zM rfl ?_)
 refine ag.px (.cons .here) (pP hf.lN rfl (by kernel_rfl) (F:=fun i=>aj.dG ws u c i) (fun i hi=>?_) (fun i hi=>?_)) ?_
 ·unfold aj.dG
  split
  ·by_cases h:aj.aI i (u-6) c<ws.length
   ·rw[List.getD_eq_getElem?_getD,List.getElem?_eq_getElem h];exact hf.lt (List.getElem_mem h)
   ·rw[List.getD_eq_getElem?_getD,List.getElem?_eq_none (by omega)];decide
  ·have hg:ws.getD i 0<2^64:=by rw[List.getD_eq_getElem?_getD,List.getElem?_eq_getElem (by rw[hf.len];exact hi)];exact hf.lt (List.getElem_mem _)
   split
   ·refine Nat.or_lt_two_pow (n:=64) (Nat.lt_of_le_of_lt Nat.and_le_left hg) (Nat.lt_of_le_of_lt (Nat.shiftRight_le _ _) (Nat.lt_of_le_of_lt Nat.and_le_left hg))
   ·exact Nat.or_lt_two_pow (n:=64) (Nat.lt_of_le_of_lt (jS _ _) hg) (Nat.mod_lt _ (by decide))
 ·exact Ns (Go.Sx.At.block (l:=[.int .i64 (u:Int)]) zM) (Go.Sx.At.block (l:=[.bool c]) zM) (Go.Sx.At.block (l:=[.int .i64 (n:Int),s]) zM) (hw.mono zS) hf hu hi
 ·rintro v N ⟨s',rfl,dx⟩
  refine St.whole (r:=[.int .i64 (n:Int),s']) (by exact .head _) rfl rfl ?_ ?_
  ·have:=aD dx;simpa[Value.oneCell']using this
  refine az.whole (r:=[.int .i64 (n:Int),s']) (by exact .head _) rfl ?_
  exact oV.mk (by repeat (first|exact aV.refl _|apply aV.cons|apply aV.app)) ⟨s',rfl,dx.mono zS⟩
theorem Gb{B:Hp}{v:Value}{n u:Nat}{ws:List Nat}{c:Bool}(ht:j5 B v ⟨n,ws⟩)(hf:aj.cB n ws)(hu:u<n):
  Px Tryz.prog 148 #[v,.int .i64 (u:Int),.bool c] B (fun r H=>∃v',r=.tuple #[v',.int .i64 0]∧j5 H v' ⟨n,aj.ed n ws u c⟩):=by
 obtain⟨s,rfl,hw⟩:=ht
 intro g
 refine E6 (R:=aF _) ?_
 unfold L148
 intro b1 _ b3 _
 refine az.whole (r:=[.int .i64 (n:Int),s]) (by exact .tail _ (.head _)) rfl ?_
 refine ag.rd .here (W8 (t:=⟨n,ws⟩) ⟨s,rfl,hw.mono zS⟩ (u:Int)) ?_
 rintro v rfl
 rw[if_pos (show TF ⟨(n:Int),ws⟩from⟨by simp,by simpa using hf⟩),if_pos ⟨by omega,by simp only;omega⟩]
 refine ae.dX (Br.cq (by simp) ?_)
 refine az.whole (r:=[.int .i64 (n:Int),s]) (by exact .tail _ (.head _)) rfl ?_
 refine ag.px (.cons .here) (x6 (v:=.agg (List.toArray [.int .i64 (n:Int),s])) ⟨s,rfl,hw.mono zS⟩ hf hu) ?_
 rintro v N ⟨s',rfl,dx⟩
 refine St.whole (r:=[.int .i64 (n:Int),s']) (by exact .head _) rfl rfl ?_ ?_
 ·have:=aD dx;simpa[Value.oneCell']using this
 refine az.whole (r:=[.int .i64 (n:Int),s']) (by exact .head _) rfl ?_
 exact oV.mk (by repeat (first|exact aV.refl _|apply aV.cons|apply aV.app)) ⟨_,rfl,s',rfl,dx.mono zS⟩
theorem AD{w j:Nat}(hj:j<8):((List.range (j+1)).map fun i=>UInt8.ofNat (w>>>(8*i)))=((List.range j).map fun i=>UInt8.ofNat (w>>>(8*i)))++[UInt8.ofNat (w>>>(8*j))]:=by
 rw[List.range_succ,List.map_append];rfl
theorem Jj(l:List UInt8)(n:Nat):qV (l++[UInt8.ofNat n])=qV l++[[Value.int .u8 ((n%256:Nat):Int)]]:=by
 simp[qV]
theorem B5{B:Hp}{v:Value}{t:Tb}(ht:j5 B v t)(hl:t.ws.length≤4294967296):Rd Tryz.prog 234 #[v] B (· =xz (aj.gM t.ws)):=by
 obtain⟨s,rfl,hw⟩:=ht
 intro g
 refine DY (R:=aF _) ?_
 unfold L234
 intro b1 _
 refine aa.mk (Ld.mk zM rfl ?_)
 refine hw.1.aR ?_
 rw[an]
 refine⟨fun vs H=>∃(k:Nat) (v:Value) (C:Hp),vs=[v,.int .i64 (k:Int)]∧k≤t.ws.length∧H=C++B∧aS 5 1 v (qV (aj.gM (t.ws.take k))) C,fun vs _=>t.ws.length-bg vs 1,
  JE.of (.tail) ⟨0,_,[],rfl,by omega,rfl,aS.nil _ _⟩,?_⟩
 rintro w6 w7 H ⟨k,v,C,hv,hk,rfl,ho⟩ gs
 simp only[List.cons.injEq,and_true]at hv
 obtain⟨rfl,rfl⟩:=hv
 refine ae.dz (Br.dec (fun hlt=>?_) (fun hlt=>?_))
 ·have hg:t.ws[k]? =some t.ws[k]:=List.getElem?_eq_getElem hlt
  have hwk:=hw.2 _ (List.getElem_mem hlt)
  refine hw.1.ld (cj hg) zS ?_
  have hlen:(qV (aj.gM (t.ws.take k))).length=8*k:=by simp only[qV,List.length_map,aj.rI,List.length_take];omega
  refine⟨fun vs H=>∃(j:Nat) (v:Value) (C:Hp),vs=[v,.int .i64 (j:Int)]∧j≤8∧H=C++B∧aS 5 1 v (qV (aj.gM (t.ws.take k)++(List.range j).map fun i=>UInt8.ofNat (t.ws[k]>>>(8*i)))) C,fun vs _=>8-bg vs 1,
   JE.mk ⟨0,_,C,rfl,by omega,rfl,by simpa using ho⟩,?_⟩
  rintro w8 w9 H ⟨j,v,C,hv,hj,rfl,ho⟩ gs
  simp only[List.cons.injEq,and_true]at hv
  obtain⟨rfl,rfl⟩:=hv
  refine ae.dz (b:=8) (Br.dec (fun h8=>?_) (fun h8=>?_))
  ·refine ae.lg (a:=8) (by simp[aB];omega) ?_
   refine ae.jU (by simpa[aB]using hwk) ?_
   refine bL.aee ?_
   refine av.int (e:=5) (by kernel_rfl) (by kernel_rfl) (by kernel_rfl) fun xb=>?_
   refine ho.Dg (A:=[_]) (r:=[Value.int .u8 (((t.ws[k]>>>(8*j))%256:Nat):Int)]) (by exact .head _) rfl (by simp[Value.oneCell']) ⟨[.int .u8 0],rfl,rfl⟩ (by simp only[qV,List.length_map,List.length_append,List.length_range]at hlen⊢;omega) (by simp only[qV,List.length_map,List.length_append,List.length_range]at hlen⊢;omega) fun v' C' bX=>?_
   refine ae.aH (b:=1) (by simp[aB];omega) ?_
   refine ay.of .tail ⟨j+1,_,C',rfl,by omega,rfl,?_⟩ (by simp[bg];omega)
   rw[AD h8,←List.append_assoc,Jj];exact bX
  ·have:j=8:=by omega
   subst this
   refine ae.aH (b:=1) (by simp[aB];omega) ?_
   refine ay.mk ⟨k+1,_,C,rfl,by omega,rfl,?_⟩ (by simp[bg];omega)
   rw[List.take_succ_eq_append_getElem hlt,aj.gM,List.flatMap_append]
   simpa[aj.gM,aj.gI]using ho
 ·have:k=t.ws.length:=by omega
  subst this
  rw[List.take_length]at ho
  refine j4.own ho (fun _ h=>List.mem_append_left _ h) ?_
  exact bO.mk .right rfl
theorem Vm{B:Hp}{b n:Nat}{es:Array MapEntry}{ck:Nat}{m:List (List UInt8×List Nat)}{v:Value}{ws:List Nat}(hE:gw n B es ck m)(ht:j5 B v ⟨n,ws⟩)(hf:aj.cB n ws):
  Fc Tryz.prog 233 #[.map (some b),v] ((b,.map es ck)::B) (fun _ H=>∃es' eU N,H=(b,.map es' eU)::(N++B)∧gw n (N++B) es' eU (xw m ws)):=by
 obtain⟨s,rfl,hw⟩:=ht
 intro g
 refine DZ (R:=aF _) ?_
 unfold L233
 intro b1 _
 refine DR.self ?_
 refine az.whole (r:=[.int .i64 (n:Int),s]) (by exact .head _) rfl ?_
 refine az.whole (r:=[.int .i64 (n:Int),s]) (by exact .head _) rfl ?_
 refine ag.rd (.cons (.cons .here)) (B5 (t:=⟨n,ws⟩) ⟨s,rfl,hw⟩ (fQ hf)) ?_
 rintro v rfl
 refine⟨.refl _,?_⟩
 refine hE.cz (b:=b) ⟨s,rfl,hw⟩ hf fun es' eU CE=>⟨_,.tail (.head _),?_⟩
 exact aF.mk (lT:=(b,.map es' eU)::([]++B)) .tail ⟨es',eU,[],rfl,CE⟩
theorem Ih{B:Hp}{v:Value}{n:Nat}{ts:List Tb}{L:List (List Nat)}(ht:cT B v ts)(hL:ts=L.map fun ws=>⟨n,ws⟩)(hf:∀ws∈L,aj.cB n ws)(bE:L.length<4611686018427387904):
  Fc Tryz.prog 176 #[v] B (fun r H=>∃b es ck m N,r=.map (some b)∧H=(b,.map es ck)::(N++B)∧gw n (N++B) es ck m∧∀x,x∈m.map Prod.snd↔x∈L):=by
 have hlen:ts.length=L.length:=by rw[hL];simp
 intro g
 refine EF (R:=aF _) ?_
 unfold L176
 intro b _
 refine ht.aR ?_
 rw[hlen]
 refine⟨fun vs H=>∃(k:Nat) (es:Array MapEntry) (ck:Nat) (m:List (List UInt8×List Nat)) (N:Hp),vs=[.int .i64 (k:Int)]∧k≤L.length∧H=(b,.map es ck)::(N++B)∧gw n (N++B) es ck m∧∀x,x∈m.map Prod.snd↔x∈L.take k,
  fun vs _=>L.length-bg vs 0,JE.mk ⟨0,_,_,[],[],rfl,by omega,rfl,gw.empty _ _,by simp⟩,?_⟩
 rintro w H ⟨k,es,ck,m,N,hv,hk,rfl,hE,hm⟩ gs
 simp only[List.cons.injEq,and_true]at hv
 subst hv
 refine ae.dz (Br.dec (fun hlt=>?_) (fun hlt=>?_))
 ·have hg:ts[k]? =some ⟨n,L[k]⟩:=by rw[hL,List.getElem?_map,List.getElem?_eq_getElem hlt];rfl
  have jF:=hf L[k] (List.getElem_mem hlt)
  refine ht.ld hg zS fun s hw=>?_
  intro b2 _
  refine St.whole (r:=[.int .i64 (n:Int),s]) (by exact .head _) rfl rfl ?_ ?_
  ·have:=aD hw;simpa[Value.oneCell']using this
  refine az.whole (r:=[.int .i64 (n:Int),s]) (by exact .head _) rfl ?_
  refine ag.fn (.cons .here) (Vm hE ⟨s,rfl,hw.mono zS⟩ jF) ?_
  rintro r C' ⟨es',eU,N',rfl,CE⟩
  refine ae.aH (b:=1) (by simp[aB];omega) ?_
  refine ay.of .tail ⟨k+1,es',eU,xw m L[k],N'++N,rfl,by omega,by rw[List.append_assoc],by rw[List.append_assoc];exact CE,fun x=>?_⟩ (by simp[bg];omega)
  rw[qu hE.2 jF,hm,List.take_succ_eq_append_getElem hlt,List.mem_append,List.mem_singleton]
 ·have:k=L.length:=by omega
  subst this
  rw[List.take_length]at hm
  exact aF.here ⟨b,es,ck,m,N,rfl,rfl,hE,hm⟩
theorem Ae{B:Hp}{bm n u:Nat}{es:Array MapEntry}{ck:Nat}{m:List (List UInt8×List Nat)}(hm:(bm,Obj.map es ck)∈B)(hE:gw n B es ck m)(hu:u<n)(bE:m.length<4611686018427387904):
  Fc Tryz.prog 177 #[.map (some bm),.int .i64 (u:Int)] B (fun r H=>∃b' es' eU m' N,r=.tuple #[.map (some b'),.int .i64 ((aj.nodes n (m.map Prod.snd) u).length:Int)]∧H=(b',.map es' eU)::(N++B)∧gw n (N++B) es' eU m'∧
   ∀x,x∈m'.map Prod.snd↔∃t∈m.map Prod.snd,∃c,x=aj.ed n t u c):=by
 intro g
 refine EE (R:=aF _) ?_
 unfold L177
 intro b' _
 refine .inr ⟨bm,es,ck,rfl,.tail _ hm,fun bi _=>?_⟩
 refine⟨fun vs H=>∃(es':Array MapEntry) (eU:Nat) (m':List (List UInt8×List Nat)) (seen:Array Nat) (N:Hp) (D:List (List Nat)),vs=[.int .i64 ((aj.nodes n D u).length:Int)]∧
   H=(bi,.mapIter (some bm) ck seen ck)::(b',.map es' eU)::(N++B)∧gw n (N++B) es' eU m'∧(m.map Prod.snd).Perm (D++(dL es m seen).map Prod.snd)∧∀x,x∈m'.map Prod.snd↔∃t∈D,∃c,x=aj.ed n t u c,
  fun vs H=>match H with|(_,.mapIter _ _ seen _)::_=>(dL es m seen).length|_=>0,JE.mk ⟨_,_,[],_,[],[],rfl,rfl,gw.empty _ _,?_,by simp⟩,?_⟩
 ·rw[sV hE.1];simp
 rintro w H ⟨es',eU,m',seen,N,D,hv,rfl,CE,dP,hmem⟩ gs
 simp only[List.cons.injEq,and_true]at hv
 subst hv
 have hbm:∀{X:Hp},(bm,Obj.map es ck)∈X++B:=List.mem_append_right _ hm
 refine hE.1.next (.tail _ (.tail _ hbm)) (.head _) (fun e x seen' he hkey hval hstep Nn hfind=>⟨_,.head _,?_⟩) (fun Ce=>?_)
 ·obtain⟨bs,ws⟩:=x
  simp only at hval hkey
  refine Ext.mk rfl (Br.yes ?_)
  refine⟨bi,bm,ck,seen',e.born,ck,es,e,rfl,.head _,Nn,.tail _ (.tail _ hbm),hfind,?_⟩
  refine Ext.mk rfl ?_
  have hx:(bs,ws)∈m:=by
   have h:=hstep.mem_iff.2 (List.mem_cons_self (a:=(bs,ws)))
   unfold dL at h
   obtain⟨p,hp,lA⟩:=List.mem_map.1 h
   rw[←lA]
   exact(List.of_mem_zip (List.mem_filter.1 hp).1).2
  obtain⟨hbs,hf⟩:=hE.2 _ hx
  simp only at hbs hf
  obtain⟨s,X7,hw⟩:=hval
  rw[X7]
  have hone:=aD hw
  intro b1 _
  refine St.whole (r:=[.int .i64 (n:Int),s]) (by exact .head _) rfl rfl (by simpa[Value.oneCell']using hone) ?_
  refine az.whole (r:=[.int .i64 (n:Int),s]) (by exact .head _) rfl ?_
  refine ag.px (B:=N++B) (.cons (.cons (.cons .here))) (Gb (n:=n) (ws:=ws) ⟨s,rfl,hw.mono zS⟩ hf hu) ?_
  rintro r N1 ⟨v1,rfl,s1,rfl,jz⟩
  have tK:=aD jz
  refine Ext.mk rfl (Ext.mk rfl ?_)
  intro b2 _
  refine St.whole (r:=[.int .i64 (n:Int),s1]) (by exact .head _) rfl rfl (by simpa[Value.oneCell']using tK) ?_
  refine az.whole (r:=[.int .i64 (n:Int),s]) (by exact .tail _ (.head _)) rfl ?_
  refine ag.px (B:=N1++(N++B)) (.cons (.cons (.cons (.cons .here)))) (Gb (n:=n) (ws:=ws) ⟨s,rfl,hw.mono zS⟩ hf hu) ?_
  rintro r N2 ⟨v2,rfl,s2,rfl,mI⟩
  have tJ:=aD mI
  refine Ext.mk rfl (Ext.mk rfl ?_)
  intro b3 _
  refine St.whole (r:=[.int .i64 (n:Int),s2]) (by exact .head _) rfl rfl (by simpa[Value.oneCell']using tJ) ?_
  refine DR.self ?_
  refine az.whole (r:=[.int .i64 (n:Int),s1]) (by exact .tail _ (.head _)) rfl ?_
  refine az.whole (r:=[.int .i64 (n:Int),s2]) (by exact .head _) rfl ?_
  have f1:=aj.cH (v:=u) (ws:=ws) (b:=false) hf.lN
  have f2:=aj.cH (v:=u) (ws:=ws) (b:=true) hf.lN
  refine ag.rd (B:=N2++(N1++(N++B))) (.cons (.cons (.cons (.cons (.cons .here))))) (B5 (t:=⟨n,aj.ed n ws u false⟩) ⟨s1,rfl,jz.mono zS⟩ (fQ f1)) ?_
  rintro v rfl
  refine⟨.refl _,?_⟩
  refine ag.rd (B:=N2++(N1++(N++B))) (.cons (.cons (.cons (.cons (.cons .here))))) (B5 (t:=⟨n,aj.ed n ws u true⟩) ⟨s2,rfl,mI⟩ (fQ f2)) ?_
  rintro v rfl
  refine⟨.refl _,?_⟩
  intro J hJ
  have Cv:(aj.gM (aj.ed n ws u false)≠aj.gM (aj.ed n ws u true))↔aj.dep n ws u=true:=by
   simp only[aj.dep,ne_eq,decide_eq_true_eq]
   exact not_congr ⟨fun h=>f1.key_inj f2 h,fun h=>by rw[h]⟩
  have fm:JE J [.int .i64 ((aj.nodes n (D++[ws]) u).length:Int)] ((b3,.cells (List.toArray [.int .i64 (n:Int),s2]) 57 (0,0))::(b2,.cells (List.toArray [.int .i64 (n:Int),s1]) 57 (0,0))::
    (b1,.cells (List.toArray [.int .i64 (n:Int),s]) 57 (0,0))::(bi,.mapIter (some bm) ck seen' ck)::(b',.map es' eU)::(N2++(N1++(N++B)))):=by
   refine JE.mk (hJ _ _ fun gs=>?_)
   refine DR.of (R:=(b3,.cells (List.toArray [.int .i64 (n:Int),s2]) 57 (0,0))::(b2,.cells (List.toArray [.int .i64 (n:Int),s1]) 57 (0,0))::[]) ?_ ?_
   ·exact .cons (.cons (fun g w h=>(Own.left (B:=_) (A:=[]) h)))
   refine az.whole (r:=[.int .i64 (n:Int),s1]) (by exact .tail _ (.head _)) rfl ?_
   refine az.whole (r:=[.int .i64 (n:Int),s2]) (by exact .head _) rfl ?_
   have CD:=CE.mono (B':=N2++(N1++(N++B))) zS
   refine CD.cz (b:=b') (ws:=aj.ed n ws u false) ⟨s1,rfl,jz.mono zS⟩ f1 fun qm rT hE3=>⟨_,.tail (.tail (.tail (.tail (.head _)))),?_⟩
   refine⟨.cons (.cons (fun g w h=>(Own.left (B:=_) (A:=[]) h))),?_⟩
   refine hE3.cz (b:=b') (ws:=aj.ed n ws u true) ⟨s2,rfl,mI⟩ f2 fun Wl Wm hE4=>⟨_,.tail (.tail (.tail (.tail (.head _)))),?_⟩
   refine ay.of (H':=(bi,.mapIter (some bm) ck seen' ck)::(b',.map Wl Wm)::((N2++(N1++N))++B)) ?_ ⟨Wl,Wm,xw (xw m' (aj.ed n ws u false)) (aj.ed n ws u true),seen',N2++(N1++N),D++[ws],rfl,rfl,?_,?_,fun x=>?_⟩ ?_
   ·refine .skip (.skip (.skip (.cons (.cons ?_))))
    intro g w h;rw[List.append_assoc,List.append_assoc];exact h
   ·rw[List.append_assoc,List.append_assoc];exact hE4
   ·refine dP.trans ?_
    refine(List.Perm.append_left D (hstep.map Prod.snd)).trans ?_
    simp only[List.map_cons,List.append_assoc,List.cons_append,List.nil_append]
    exact .refl _
   ·rw[qu hE3.2 f2,qu CD.2 f1,hmem]
    constructor
    ·rintro((⟨t,ht,c,rfl⟩|rfl)|rfl)
     ·exact⟨t,by simp[ht],c,rfl⟩
     ·exact⟨ws,by simp,_,rfl⟩
     ·exact⟨ws,by simp,_,rfl⟩
    ·rintro⟨t,ht,c,rfl⟩
     rcases List.mem_append.1 ht with ht|ht
     ·exact .inl (.inl ⟨t,ht,c,rfl⟩)
     ·simp at ht;subst ht
      cases c
      ·exact .inl (.inr rfl)
      ·exact .inr rfl
   ·have:=hstep.length_eq
    simp only[List.length_cons]at this⊢
    omega
  refine ae.WY (Br.dec (fun h=>?_) (fun h=>?_))
  ·refine ae.aH (b:=1) ?_ ?_
   ·have h1:=dP.length_eq
    simp only[List.length_map,List.length_append]at h1
    have h2:(aj.nodes n D u).length≤D.length:=List.length_filter_le _ _
    simp[aB];omega
   ·have:(aj.nodes n (D++[ws]) u).length=(aj.nodes n D u).length+1:=by
     simp[aj.nodes,List.filter_append,Cv.1 h]
    rw[this]at fm;exact fm
  ·have:(aj.nodes n (D++[ws]) u).length=(aj.nodes n D u).length:=by
    have hd:aj.dep n ws u=false:=by cases hh:aj.dep n ws u;rfl;exact absurd (Cv.2 hh) h
    simp[aj.nodes,List.filter_append,hd]
   rw[this]at fm;exact fm
 ·refine Ext.mk rfl (Br.no ?_)
  rw[Ce]at dP
  simp only[List.map_nil,List.append_nil]at dP
  refine aF.mk (lT:=(b',.map es' eU)::(N++B)) .tail ⟨b',es',eU,m',N,?_,rfl,CE,fun x=>?_⟩
  ·rw[aj.k7 dP]
  ·rw[hmem]
   constructor
   ·rintro⟨t,ht,h⟩;exact⟨t,dP.mem_iff.2 ht,h⟩
   ·rintro⟨t,ht,h⟩;exact⟨t,dP.mem_iff.1 ht,h⟩
theorem HK{B:Hp}{v:Value}{ts:List Tb}(ht:cT B v ts)(bE:ts.length<2^62):Rd Tryz.prog 175 #[v] B (· =.bool (decide (∀t∈ts,TF t∧some t.n=ts.head?.map Tb.n))):=by
 intro g
 refine EG (R:=aF _) ?_
 unfold L175
 refine ht.aR ?_
 refine⟨fun vs H=>aV B H∧∃k:Nat,vs=[.int .i64 (k:Int)]∧k≤ts.length∧∀i t,i<k→ts[i]? =some t→TF t∧some t.n=ts.head?.map Tb.n,fun vs _=>ts.length-bg vs 0,JE.mk ⟨.refl _,0,rfl,by omega,by omega⟩,?_⟩
 rintro w H ⟨hg,k,hv,hk,aK⟩ gs
 simp only[List.cons.injEq,and_true]at hv
 subst hv
 refine ae.dz (Br.dec (fun hlt=>?_) (fun hlt=>?_))
 ·obtain⟨t,l8⟩:∃t,ts[k]? =some t:=⟨_,List.getElem?_eq_getElem hlt⟩
  obtain⟨t0,QD⟩:∃t,ts[0]? =some t:=⟨_,List.getElem?_eq_getElem (by omega)⟩
  have hh:ts.head?.map Tb.n=some t0.n:=by rw[List.head?_eq_getElem?,QD];rfl
  have Xs:=ht.mono hg.sub
  refine Xs.ld l8 (fun _ h=>h) fun s hs=>?_
  intro b1 _
  refine St.whole (r:=[.int .i64 t.n,s]) (by exact cJ.head _) rfl rfl ?_ ?_
  ·obtain⟨a,c,rfl,_⟩:=hs.1.shape;simp[Value.oneCell']
  intro J hJ
  have hno:∀H',aV B H'→¬(TF t∧some t.n=ts.head?.map Tb.n)→JE J [.bool true] H':=fun H' US h=>
   JE.mk (hJ _ _ fun gs=>Br.yes (bO.mk US.rR (by rw[decide_eq_false];exact fun hh=>h (hh t (List.mem_of_getElem? l8)))))
  have SK:aV B ((b1,Obj.cells (List.toArray [.int .i64 t.n,s]) 57 (0,0))::H):=.cons hg
  refine DR.self ?_
  refine az.whole (r:=[.int .i64 t.n,s]) (by exact List.Mem.head _) rfl ?_
  intro F
  refine ag.rd (B:=H) (.cons .here) (Ag ⟨s,rfl,hs⟩) ?_
  rintro v rfl
  refine⟨.refl _,Un.not ?_⟩
  by_cases hT:TF t
  case neg=>rw[decide_eq_false hT];exact Br.yes (hno _ SK fun h=>hT h.1)
  rw[decide_eq_true hT]
  refine Br.no ?_
  refine aa.mk (Ld.mk zM rfl ?_)
  refine Xs.Xe QD zS ?_
  refine ae.dX (aA.mk ?_)
  simp only[cond_false]
  by_cases hn:t.n=t0.n
  case neg=>rw[decide_eq_true hn];exact hno _ SK fun h=>hn (by have:=h.2;rw[hh]at this;simpa using this)
  rw[decide_eq_false (by simpa using hn)]
  refine JE.mk (hJ _ _ fun gs=>Br.no ?_)
  refine ae.aH (b:=1) (by simp[aB];omega) ?_
  refine ay.mk ⟨SK,k+1,rfl,by omega,fun i u hi hu=>?_⟩ (by simp[bg];omega)
  by_cases e:i=k
  ·subst e;rw[l8]at hu;cases hu;exact⟨hT,by rw[hh,hn]⟩
  ·exact aK i u (by omega) hu
 ·refine bO.mk hg.rR ?_
  rw[decide_eq_true]
  intro t htm
  obtain⟨i,hi,rfl⟩:=List.mem_iff_getElem.1 htm
  exact aK i _ (by omega) (List.getElem?_eq_getElem hi)
def qe(ts:List Tb):Prop:=∀t∈ts,TF t∧some t.n=ts.head?.map Tb.n
instance (ts:List Tb):Decidable (qe ts):=by unfold qe;infer_instance
theorem tc{B:Hp}{v:Value}{ts:List Tb}(ht:cT B v ts)(bE:ts.length<2^62):Rd Tryz.prog 175 #[v] B (· =.bool (decide (qe ts))):=HK ht bE
theorem zq{n:Nat}{L:List (List Nat)}(hf:∀ws∈L,aj.cB n ws):qe (L.map fun ws=>⟨n,ws⟩):=by
 intro t ht
 obtain⟨ws,QA,rfl⟩:=List.mem_map.1 ht
 refine⟨⟨by simp,by simpa using hf ws QA⟩,?_⟩
 cases L with
 |nil=>simp at QA
 |cons a b=>rfl
theorem Gt{ts:List Tb}(h:qe ts)(hne:ts≠[]):∃(n:Nat) (L:List (List Nat)),n≤16∧ts=L.map (fun ws=>⟨n,ws⟩)∧L≠[]∧∀ws∈L,aj.cB n ws:=by
 cases ts with
 |nil=>exact absurd rfl hne
 |cons t r=>
  have ht:=(h t (by simp)).1
  have hn:∀u∈t::r,u.n=t.n:=fun u hu=>by have:=(h u hu).2;simpa using this
  refine⟨t.n.toNat,(t::r).map Tb.ws,ht.2.lN,?_,by simp,fun ws QA=>?_⟩
  ·rw[List.map_map]
   conv=>lhs;rw[←List.map_id (t::r)]
   apply List.map_congr_left
   intro u hu
   have h1:=hn u hu
   have h2:=ht.1
   obtain⟨un,uw⟩:=u
   simp only[Function.comp,id]at h1⊢
   congr 1;omega
  ·obtain⟨u,hu,rfl⟩:=List.mem_map.1 QA
   have:=(h u hu).1.2
   rwa [hn u hu]at this
end Go.Proofs
namespace aZ
theorem Rm.qO(m:Rm):∀ls ord,m.cI 0 ls ord=ls.take (m.cI 0 ls ord).length
 | [],_=>rfl
 |c::cs,ord=>by
  by_cases hf:m.fit ord (0+c)=true
  ·have:=m.qO cs (eG ord (0+c))
   rw[cI,if_pos hf,List.length_cons,List.take_succ_cons,←this,Nat.zero_add]
  ·rw[cI,if_neg hf];simp
def Rm.can(m:Rm)(ord ls:List Nat):Bool:=decide ((m.cI 0 ls ord).length=ls.length)
theorem Rm.NG(m:Rm){ord ls:List Nat}{i:Nat}(hi:i<(m.cI 0 ls ord).length){l:Nat}(hl:ls[i]? =some l):m.fit (aE ord (ls.take i)) l=true:=by
 obtain⟨_,c,h1,h2⟩:=m.pX 0 ls ord i hi
 rw[hl]at h1;cases h1
 rw[m.qO,List.take_take,Nat.min_eq_left (Nat.le_of_lt hi),Nat.zero_add]at h2
 exact h2
theorem Rm.IQ(m:Rm){ord ls:List Nat}{l:Nat}(hl:ls[(m.cI 0 ls ord).length]? =some l):m.fit (aE ord (ls.take (m.cI 0 ls ord).length)) l=false:=by
 have:=m.tU 0 ls ord l hl
 rw[Nat.zero_add]at this
 rw[←m.qO]
 exact this
theorem Alike.can{A B:Rm}{Q:List Nat→Prop}(h:Alike A B Q){ord ls:List Nat}(hls:∀l∈ls,l+1<A.n)(hq:Q ord):A.can ord ls=B.can ord ls∧(A.cI 0 ls ord).length=(B.cI 0 ls ord).length:=by
 have:=h.cI (p:=0) (cs:=ls) (ord:=ord) (fun c hc=>by have:=hls c hc;omega) hq
 unfold Rm.can;rw[this];exact⟨rfl,rfl⟩
def road(a b:Nat):List Nat:=List.range' a (b-a)++(List.range' b (a-b)).reverse
theorem zh(a b:Nat):(road a b).length=(b-a)+(a-b):=by simp[road]
theorem zg{a b l n:Nat}(ha:a<n)(hb:b<n)(h:l∈road a b):l+1<n:=by
 unfold road at h
 rcases List.mem_append.1 h with h|h
 ·rw[List.mem_range'_1]at h;omega
 ·rw[List.mem_reverse,List.mem_range'_1]at h;omega
theorem mA{α:Type}[DecidableEq α]:∀{l p:List α},l.Nodup→(∀x∈l,x∈p)→p.length≤l.length→l.Perm p
 | [],p,_,_,h=>by
  have:p=[]:=List.length_eq_zero_iff.1 (by simpa using h)
  subst this;exact .refl _
 |x::t,p,hn,hs,hl=>by
  have hx:=hs x (by simp)
  have hp:=List.perm_cons_erase hx
  have hlen:(p.erase x).length=p.length-1:=List.length_erase_of_mem hx
  have hpos:=List.length_pos_of_mem hx
  refine(List.Perm.cons x (mA (List.nodup_cons.1 hn).2 (fun y hy=>?_) (by simp only[List.length_cons]at hl;omega))).trans hp.symm
  refine(List.mem_erase_of_ne fun e=>?_).2 (hs y (by simp[hy]))
  subst e;exact(List.nodup_cons.1 hn).1 hy
end aZ
