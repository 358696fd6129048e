import Derived.Test.YtfgkdmbicjdeoaaGreatS3
import Derived.Test.YtfgkdmbicjdeoaaGreatS2
import Derived.Laws.StructEq
import Derived.ChangeKeysEq
import Derived.Test.YtfgkdmbicjdeoaaGreatS1
set_option linter.unusedVariables false
set_option linter.unusedSimpArgs false
set_option linter.unusedSectionVars false
set_option maxRecDepth 100000
namespace Go.Proofs
open Go Go.Sx
open bc
section
def Ga(ops:Array Oper)(listed:Array Bool):Bool:=(List.range ops.size).all fun j=>match ops[j]? with
 |some oj=> !listed.getD j true||oj.after.toList.all fun e=> !Region.binds .any e||listed.getD e.on true
 |none=>true
theorem gz{ops:Array Oper}{listed:Array Bool}(h:Ga ops listed=true):eX .any ops listed:=by
 intro j oj hj hl e he hb
 unfold Ga at h
 have h1:=List.all_eq_true.1 h j (List.mem_range.2 (Array.getElem?_eq_some_iff.1 hj).1)
 simp only[hj,hl,Bool.not_true,Bool.false_or]at h1
 have h2:=List.all_eq_true.1 h1 e (Array.mem_toList_iff.2 he)
 rw[hb]at h2
 simpa using h2
theorem Pz{g:Gh}{mb nb:Nat}{es:Array MapEntry}{ck:Nat}{ks:List Nd}{d:Nd}(hmk:uh es ck ks){c:Obj→Hp}(Mj:∀o o',cK mb o o' (c o) (c o'))(WQ:∀o,(nb,Obj.cells (aT d).toArray 161 (0,0))∈c o){K:Hp→Prop}
 (hk:∀es' eN,uh es' eN (if d∈ks then ks else ks++[d])→K (c (.map es' eN))):
  Uh Tryz.prog g 10 (nD FF 10) [7,11] [.map (some mb),ptr nb] (c (.map es ck)) K:=by
 have hm:(mb,Obj.map es ck)∈c (.map es ck):=(Mj _ (.map es ck)).mem
 have hn:=WQ (.map es ck)
 obtain⟨m,hE,rfl⟩:=hmk
 intro a w hok hvs hw
 simp only[List.map_cons,List.map_nil,List.cons.injEq,and_true]at hvs
 obtain⟨h7,h11⟩:=hvs
 obtain⟨n,hnn⟩:∃n,n=a.tmps.size:=⟨_,rfl⟩
 obtain⟨fr,hfr⟩:∃fr:Fr,fr=fun s=>a.tmps.getD s undef:=⟨_,rfl⟩
 have ha:cA a.defers n a fr:=⟨rfl,hnn.symm,fun s=>by rw[hfr]⟩
 have f7:fr 7=.map (some mb):=by rw[hfr];exact h7
 have f11:fr 11=ptr nb:=by rw[hfr];exact h11
 rw[←hnn]at hok
 have eok:ij n (nD FF 10).toList=(Nat.blt 58 n&& (Nat.blt 59 n&& (Nat.blt 60 n&& (Nat.blt 61 n&& (Nat.blt 62 n&& (Nat.blt 63 n&& (true&&true))))))):=by kernel_rfl
 rw[eok]at hok
 simp only[Bool.and_eq_true,Bool.and_true]at hok
 obtain⟨k58,k59,k60,k61,k62,k63⟩:=hok
 refine wp_region_any (by kernel_rfl) ?_
 obtain⟨z0,YH⟩:∃z0:Int,z0=(ed m d).getD 0:=⟨_,rfl⟩
 obtain⟨S0,U6⟩:∃S0:World→Prop,S0=fun w=>Own g [(nb,Obj.cells (aT d).toArray 161 (0,0))] w∧(Instr.lookup 285 (.map (some mb)) (nK d) false).run Tryz.prog w=.ok (.int .i64 z0) w:=⟨_,rfl⟩
 have look:∀{es':Array MapEntry} {eN:Nat} {m':List (Nd×Int)} {H':Hp} {w':World},bq nK Zz es' eN m'→(mb,Obj.map es' eN)∈H'→Own g H' w'→(ed m' d).getD 0=z0→(Instr.lookup 285 (.map (some mb)) (nK d) false).run Tryz.prog w'=.ok (.int .i64 z0) w':=by
  intro es' eN m' H' w' h1 h2 h3 h4
  have hL:kC Tryz.prog 161 (.int .i64 0) false H' (.map (some mb)) (nK d) (· =.int .i64 z0):=by
   cases hg:ed m' d with
   |some z=>exact bq.PU (ke:=nK) (k:=d) pe kU h1 h2 hg (by rintro v rfl;rw[hg]at h4;simp at h4;rw[h4];rfl)
   |none=>exact bq.FI (ke:=nK) (k:=d) pe kU h1 h2 hg (by rw[hg]at h4;simp at h4;rw[←h4];rfl)
  obtain⟨v,hr,rfl⟩:=hL.run (P:=Tryz.prog) h3 (t:=285) (kt:=161) (e:=3) (kd:=.struct (Tryz.prog.fieldsOf 161)) (i:=(Tryz.prog.info? 3).get (by kernel_rfl)) (by kernel_rfl) FE rfl (by kernel_rfl) (by kernel_rfl)
  exact hr
 have oz:=hw.vY
 have s0:S0 {w with drawn:=w.drawn+1}:=by rw[U6];exact⟨Own.sub oz hn,look hE hm oz YH.symm⟩
 have W7:∀{o:Oper} {v:Value} (c:List PanicEntry) (a':Act) (w':World),(fun(e:Exit) (a':Act) (w':World)=>e=.normal∧a'.defers=a.defers∧a'.tmps.size=a.tmps.size∧(∀s,bJ (nD FF 10).toList s=false→a'.tmps.getD s undef=a.tmps.getD s undef)∧∃H',Own g H' w'∧K H') (.panic c) (a'.put o.dst v) w'→
   (fun(e:Exit) (a':Act) (w':World)=>e=.normal∧a'.defers=a.defers∧a'.tmps.size=a.tmps.size∧(∀s,bJ (nD FF 10).toList s=false→a'.tmps.getD s undef=a.tmps.getD s undef)∧∃H',Own g H' w'∧K H') (.panic c) a' w':=by
  rintro _ _ _ _ _ ⟨h,_⟩;cases h
 have hsel:Region.noSelect (nD FF 10)=true:=by kernel_rfl
 have hkeep:∀i,i<6→∀(j:Nat) (oj:Oper) (w w':World),(nD FF 10)[j]? =some oj→j≠i→¬mR .any (nD FF 10) i j→S0 w→(j≠6→S0 w→S0 w')→S0 w':=fun i hi j oj w w' _ _ hno h0 hs=>by
  by_cases e:j=6
  ·subst e;exact absurd (fun oj iE e he hb heq=>hno (.one iE he hb heq)) (six hi)
  ·exact hs e h0
 refine dj.any (S:=fun j w w'=>j≠6→S0 w→S0 w') ?_
 have hsz:(nD FF 10).size=7:=by kernel_rfl
 rw[hsz]
 refine dj.take (gz (by kernel_rfl)) (S0:=S0) (i:=0) (oi:=gF FF 10 0) (v:=.map (some mb)) (by kernel_rfl) hsel (by kernel_rfl) (by kernel_rfl) W7 (fun _ h _ _=>h) (hkeep 0 (by decide)) (.inl ⟨rfl,fun w hw=>?_⟩) s0 ?_
 ·rw[ha.eval];have:(execOp (ev fr) (gF FF 10 0))=pure (.value (fr 7)):=rfl
  rw[this,f7];rfl
 have BQ:=ha.put (d:=some 58) k58 (.map (some mb))
 change dj _ _ _ _ _ 6 _ (a.put (some 58) (.map (some mb))) _
 refine dj.take (gz (by kernel_rfl)) (S0:=S0) (i:=1) (oi:=gF FF 10 1) (v:=nK d) (by kernel_rfl) hsel (by kernel_rfl) (by kernel_rfl) W7 (fun _ h _ _=>h) (hkeep 1 (by decide)) (.inl ⟨rfl,fun w hw=>?_⟩) s0 ?_
 ·rw[BQ.eval]
  have e:Ar Tryz.prog g (gF FF 10 1) (ev (ct fr (some 58) (.map (some mb)))) [(nb,Obj.cells (aT d).toArray 161 (0,0))] (fun v=>v=nK d)=aA 3 [(nb,Obj.cells (aT d).toArray 161 (0,0))] (fr 11) (fun v=>v=nK d):=by kernel_rfl
  obtain⟨v,rfl,hr,_⟩:=ng (e.mpr (by rw[f11];exact aA.whole (r:=aT d) (.head _) rfl rfl))
  rw[U6]at hw
  exact hr _ hw.1
 have zq:=BQ.put (d:=some 59) k59 (nK d)
 change dj _ _ _ _ _ 5 _ ((a.put (some 58) (.map (some mb))).put (some 59) (nK d)) _
 refine dj.take (gz (by kernel_rfl)) (S0:=S0) (i:=2) (oi:=gF FF 10 2) (v:=.int .i64 z0) (by kernel_rfl) hsel (by kernel_rfl) (by kernel_rfl) W7 (fun _ h _ _=>h) (hkeep 2 (by decide)) (.inl ⟨rfl,fun w hw=>?_⟩) s0 ?_
 ·rw[zq.eval]
  have e:execOp (ev (ct (ct fr (some 58) (.map (some mb))) (some 59) (nK d))) (gF FF 10 2)=(do pure (.value (←Instr.lookup 285 (.map (some mb)) (nK d) false))):=rfl
  rw[U6]at hw
  rw[e]
  simp only[Sem.run_bind,hw.2,Result.andThen_ok,Sem.run_pure]
 have HR:=zq.put (d:=some 60) k60 (.int .i64 z0)
 change dj _ _ _ _ _ 4 _ (((a.put (some 58) (.map (some mb))).put (some 59) (nK d)).put (some 60) (.int .i64 z0)) _
 refine dj.take (gz (by kernel_rfl)) (S0:=S0) (i:=3) (oi:=gF FF 10 3) (v:=.int .i64 (IntKind.i64.wrap (z0+1))) (by kernel_rfl) hsel (by kernel_rfl) (by kernel_rfl) W7 (fun _ h _ _=>h) (hkeep 3 (by decide)) (.inl ⟨rfl,fun w hw=>?_⟩) s0 ?_
 ·rw[HR.eval]
  have e:Ar Tryz.prog g (gF FF 10 3) (ev (ct (ct (ct fr (some 58) (.map (some mb))) (some 59) (nK d)) (some 60) (.int .i64 z0))) [(nb,Obj.cells (aT d).toArray 161 (0,0))] (fun v=>v=.int .i64 (IntKind.i64.wrap (z0+1)))=ae .num .add (.int .i64 z0) (.int .i64 1) (fun v=>v=.int .i64 (IntKind.i64.wrap (z0+1))):=by kernel_rfl
  obtain⟨v,rfl,hr,_⟩:=ng (e.mpr (ae.add rfl))
  rw[U6]at hw
  exact hr _ hw.1
 have P4:=HR.put (d:=some 61) k61 (.int .i64 (IntKind.i64.wrap (z0+1)))
 change dj _ _ _ _ _ 3 _ ((((a.put (some 58) (.map (some mb))).put (some 59) (nK d)).put (some 60) (.int .i64 z0)).put (some 61) (.int .i64 (IntKind.i64.wrap (z0+1)))) _
 generalize (((a.put (some 58) (.map (some mb))).put (some 59) (nK d)).put (some 60) (.int .i64 z0)).put (some 61) (.int .i64 (IntKind.i64.wrap (z0+1)))=a4 at P4
 refine dj.all (rs:=[4]) (by kernel_rfl) (by simp) fun i hi=>?_
 simp only[List.mem_singleton]at hi
 subst hi
 have e4:(nD FF 10)[4]? =some (gF FF 10 4):=by kernel_rfl
 unfold wpOp
 rw[e4]
 simp only
 rw[if_pos (show Region.wanted (gF FF 10 4) (yielded (nD FF 10) a4.tmps)=true from rfl)]
 refine .inl ?_
 show(gF FF 10 4).upon Tryz.prog a4 _ _ ((execOp a4.eval (gF FF 10 4)).run Tryz.prog _)
 rw[P4.eval]
 refine mW.upon (g:=g) (KP:=fun _ _=>False) (bq.Qr (K:=fun v H'=>∃es' eN v0 st,bq nK Zz es' eN (if d∈m.map Prod.fst then m else m++[(d,0)])∧(∃e∈es'.toList,e.born=st)∧H'=c (.map es' eN)∧v=.tuple #[v0,.int .i64 (st:Int)])
  (t:=285) (kt:=161) (e:=3) (z:=.int .i64 0) (k:=d) (y0:=(0:Int)) pe kU FH (o:=gF FF 10 4) (mo:=.tmp 58) (ko:=.tmp 59) rfl rfl rfl (by kernel_rfl) FE rfl (by kernel_rfl) rfl hE Mj
  (fun es' eN v st h1 h2=>⟨es',eN,v,st,h1,h2,rfl,rfl⟩) _ oz) ?_ (fun _ _ _ _ h=>h.elim)
 rintro v H1 w1 jr ⟨rq,pQ,v0,st,RR,hst,rfl,rfl⟩
 have PR:(nb,Obj.cells (aT d).toArray 161 (0,0))∈c (.map rq pQ):=WQ _
 have FN:(mb,Obj.map rq pQ)∈c (.map rq pQ):=(Mj _ (.map rq pQ)).mem
 have s1:S0 w1:=by
  rw[U6]
  refine⟨Own.sub jr PR,look RR FN jr ?_⟩
  rw[YH]
  split
  ·rfl
  ·rename_i ei
   have e1:=j6.2 ei
   have e2:ed (m++[(d,0)]) d=some 0:=(jb (by
    have:=RR.nd;rw[if_neg ei]at this;exact this)).2 (by simp)
   rw[e1,e2];rfl
 refine⟨fun _ _=>s1,?_⟩
 have P3:=P4.put (d:=some 62) k62 (.tuple #[v0,.int .i64 (st:Int)])
 change dj _ _ _ _ _ 2 _ (a4.put (some 62) (.tuple #[v0,.int .i64 (st:Int)])) _
 generalize a4.put (some 62) (.tuple #[v0,.int .i64 (st:Int)])=a5 at P3
 refine dj.take (gz (by kernel_rfl)) (S0:=S0) (i:=5) (oi:=gF FF 10 5) (v:=.int .i64 (st:Int)) (by kernel_rfl) hsel (by kernel_rfl) (by kernel_rfl) W7 (fun _ h _ _=>h) (hkeep 5 (by decide)) (.inl ⟨rfl,fun w hw=>?_⟩) s1 ?_
 ·rw[P3.eval]
  obtain⟨v,rfl,hr,_⟩:=ng (P:=Tryz.prog) (g:=g) (o:=gF FF 10 5) (H:=[(nb,Obj.cells (aT d).toArray 161 (0,0))]) (k:=fun v=>v=.int .i64 (st:Int))
   (ρ:=ev (ct (ct (ct (ct (ct fr (some 58) (.map (some mb))) (some 59) (nK d)) (some 60) (.int .i64 z0)) (some 61) (.int .i64 (IntKind.i64.wrap (z0+1)))) (some 62) (.tuple #[v0,.int .i64 (st:Int)]))) ⟨_,_,rfl,rfl,rfl⟩
  rw[U6]at hw
  exact hr _ hw.1
 have P2:=P3.put (d:=some 63) k63 (.int .i64 (st:Int))
 change dj _ _ _ _ _ 1 _ (a5.put (some 63) (.int .i64 (st:Int))) _
 generalize a5.put (some 63) (.int .i64 (st:Int))=a6 at P2
 refine dj.all (rs:=[6]) (by kernel_rfl) (by simp) fun i hi=>?_
 simp only[List.mem_singleton]at hi
 subst hi
 have e6:(nD FF 10)[6]? =some (gF FF 10 6):=by kernel_rfl
 unfold wpOp
 rw[e6]
 simp only
 rw[if_pos (show Region.wanted (gF FF 10 6) (yielded (nD FF 10) a6.tmps)=true from rfl)]
 refine .inl ?_
 show(gF FF 10 6).upon Tryz.prog a6 _ _ ((execOp a6.eval (gF FF 10 6)).run Tryz.prog _)
 rw[P2.eval]
 refine mW.upon (g:=g) (KP:=fun _ _=>False) (bq.OV (vr:=fun v _=>∃z:Int,v=.int .i64 z) (K:=fun _ H'=>∃es',bq nK (fun v _=>∃z:Int,v=.int .i64 z) es' pQ (if d∈m.map Prod.fst then m else m++[(d,0)])∧H'=c (.map es' pQ))
  (o:=gF FF 10 6) (t:=285) (mo:=.tmp 58) (so:=.tmp 63) (xo:=.tmp 61) rfl rfl rfl (RR.mono fun v z h=>⟨z,h⟩) hst (fun _=>⟨_,rfl⟩) Mj
  (fun es' h1=>⟨es',h1,rfl⟩) _ jr) ?_ (fun _ _ _ _ h=>h.elim)
 rintro v H2 w2 mr ⟨p5,BT,rfl⟩
 refine⟨fun h=>absurd rfl h,?_⟩
 have U4:cA a.defers n a6 _:=P2
 change dj _ _ _ _ _ 0 _ a6 _
 refine dj.done (by kernel_rfl) ⟨rfl,U4.defers,by rw[U4.size,hnn],fun s hs=>?_,_,mr,hk p5 pQ ?_⟩ 0
 ·have eD:bJ (nD FF 10).toList s=(Nat.beq s 58||(Nat.beq s 59||(Nat.beq s 60||(Nat.beq s 61||(Nat.beq s 62||(Nat.beq s 63||(false||false))))))):=by kernel_rfl
  rw[eD]at hs
  simp only[Bool.or_eq_false_iff]at hs
  rw[U4.get]
  simp only[ct,hs,cond_false]
  rw[hfr]
 ·have:=uh.of BT
  have e:(if d∈m.map Prod.fst then m else m++[(d,(0:Int))]).map Prod.fst=if d∈m.map Prod.fst then m.map Prod.fst else m.map Prod.fst++[d]:=by
   split<;>simp
  rw[e]at this
  exact this
end
section
variable {kp:Nat} {K:Kd} {ord av tr:List Nat} {C:Hp} {S:Nat→bc.Fn}
theorem M6{H:Hp}(a b:Nd){K:Value→Hp→Prop}(h:∀x,K (.slice (some ⟨x,0,none⟩) 2 2) ((x,.cells (rows [aT a,aT b]) 161 (0,0))::H)):
  ax Tryz.prog 286 2 [(0,nK a),(1,nK b)] H K:=by
 refine⟨rows [aT a,aT b],161,3,.agg #[.int .i64 0,.int .u32 0,.int .u32 0],by kernel_rfl,by kernel_rfl,by kernel_rfl,by decide,?_,fun x _=>h x⟩
 have e1:Array.range (2*3)=#[0,1,2,3,4,5]:=rfl
 simp[Instr.fill,Value.cells,nK,aT,e1,rows,u32]
def gU(K:Kd)(x:Nat)(l:List Cx)(ks:List Nd)(m:List Nd):Prop:=m.Nodup∧∀k,k∈m↔((∃c∈l,k∈keys x c)∨k∈ks)∧K.T k=none∧k.lo≠k.hi
theorem gU.step{x:Nat}{l:List Cx}{ks m:List Nd}{d:Nd}(h:gU K x l ks m)(hd:K.T d=none∧d.lo≠d.hi):gU K x l (ks++[d]) (if d∈m then m else m++[d]):=by
 obtain⟨h1,h2⟩:=h
 constructor
 ·split
  ·exact h1
  ·rename_i hn
   exact List.nodup_append.2 ⟨h1,by simp,fun a ha b hb e=>by simp at hb;subst hb;subst e;exact hn ha⟩
 ·intro k
  by_cases hm:d∈m
  ·rw[if_pos hm,h2,List.mem_append,List.mem_singleton]
   constructor
   ·rintro⟨h3|h3,h4⟩
    ·exact⟨.inl h3,h4⟩
    ·exact⟨.inr (.inl h3),h4⟩
   ·rintro⟨h3|h3|rfl,h4⟩
    ·exact⟨.inl h3,h4⟩
    ·exact⟨.inr h3,h4⟩
    ·exact(h2 _).1 hm
  ·rw[if_neg hm,List.mem_append,List.mem_singleton,h2,List.mem_append,List.mem_singleton]
   constructor
   ·rintro(⟨h3|h3,h4⟩|rfl)
    ·exact⟨.inl h3,h4⟩
    ·exact⟨.inr (.inl h3),h4⟩
    ·exact⟨.inr (.inr rfl),hd⟩
   ·rintro⟨h3|h3|rfl,h4⟩
    ·exact .inl ⟨.inl h3,h4⟩
    ·exact .inl ⟨.inr h3,h4⟩
    ·exact .inr rfl
theorem gU.skip{x:Nat}{l:List Cx}{ks m:List Nd}{d:Nd}(h:gU K x l ks m)(hd:¬(K.T d=none∧d.lo≠d.hi)):gU K x l (ks++[d]) m:=by
 obtain⟨h1,h2⟩:=h
 refine⟨h1,fun k=>?_⟩
 rw[h2,List.mem_append,List.mem_singleton]
 constructor
 ·rintro⟨h3|h3,h4⟩
  ·exact⟨.inl h3,h4⟩
  ·exact⟨.inr (.inl h3),h4⟩
 ·rintro⟨h3|h3|rfl,h4⟩
  ·exact⟨.inl h3,h4⟩
  ·exact⟨.inr h3,h4⟩
  ·exact absurd h4 hd
theorem gU.wJ{x:Nat}{l:List Cx}{c:Cx}{m:List Nd}(h:gU K x l (keys x c) m):gU K x (l++[c]) [] m:=by
 obtain⟨h1,h2⟩:=h
 refine⟨h1,fun k=>?_⟩
 rw[h2]
 constructor
 ·rintro⟨⟨c',hc,hk⟩|h3,h4⟩
  ·exact⟨.inl ⟨c',List.mem_append_left _ hc,hk⟩,h4⟩
  ·exact⟨.inl ⟨c,by simp,h3⟩,h4⟩
 ·rintro⟨⟨c',hc,hk⟩|h3,h4⟩
  ·rcases List.mem_append.1 hc with hc|hc
   ·exact⟨.inl ⟨c',hc,hk⟩,h4⟩
   ·simp at hc;subst hc;exact⟨.inr hk,h4⟩
  ·cases h3
theorem MK(h:cY kp K ord av tr C){x:Nat}(hx:x<K.n){v:Value}{all:List Cx}{Na:Hp}(ha:aR 203 8 v (all.map iA) Na)(hlen:all.length≤1048576):
  Rd Tryz.prog 136 #[ptr kp,.int .i64 (x:Int),v] (Na++C) (fun r=>∃made,r=.int .i64 ((made.length:Nat):Int)∧Made K x all made):=by
 have h0:=h
 obtain⟨b,hC,hO⟩:=h
 intro g
 refine EB (R:=aE _) ?_
 unfold L136
 intro mb _
 refine ha.aS ?_
 rw[List.length_map]
 refine⟨fun vs H=>∃(i:Nat) (es:Array MapEntry) (ck:Nat) (m:List Nd),vs=[.int .i64 (i:Int)]∧H=(mb,.map es ck)::(Na++C)∧i≤all.length∧uh es ck m∧gU K x (all.take i) [] m,
  fun vs _=>all.length-bg vs 0,JE.mk ⟨0,_,_,[],rfl,rfl,Nat.zero_le _,uh.empty,by simp,by simp⟩,?_⟩
 rintro w H ⟨i,es,ck,m,hw,rfl,hi,hmk,LY⟩ gs
 simp only[List.cons.injEq,and_true]at hw
 subst hw
 refine ae.dL (Br.dec (fun hlt=>?_) (fun hge=>?_))
 rotate_left
 ·have:i=all.length:=by omega
  subst this
  rw[List.take_length]at LY
  obtain⟨m',he,rfl⟩:=hmk
  refine bq.Lq he (.head _) ?_
  refine bL.mk .tail ⟨m'.map Prod.fst,by rw[List.length_map],LY.1,fun k=>?_⟩
  rw[LY.2]
  constructor
  ·rintro⟨h3|h3,h4⟩
   ·exact⟨h3,h4⟩
   ·cases h3
  ·rintro⟨h3,h4⟩;exact⟨.inl h3,h4⟩
 obtain⟨c,nQ⟩:∃c,all[i]? =some c:=⟨_,List.getElem?_eq_getElem hlt⟩
 have lS:all.take (i+1)=all.take i++[c]:=by rw[List.take_add_one,nQ];rfl
 refine ha.FJ (r:=iA c) (by rw[List.getElem?_map,nQ];rfl) (fun y hy=>.tail _ (List.mem_append_left _ hy)) ?_
 intro mI _
 refine St.whole (r:=iA c) (by exact .head _) rfl rfl (kz _) ?_
 refine aa.mk (Ld.mk (by exact .head _) rfl ?_)
 refine aa.mk (Ld.mk (by exact .head _) rfl ?_)
 refine Build.mk (cs:=aT ⟨x,c.u6,c.rR⟩) (by kernel_rfl) ?_
 refine aa.mk (Ld.mk (by exact .head _) rfl ?_)
 refine aa.mk (Ld.mk (by exact .head _) rfl ?_)
 refine Build.mk (cs:=aT ⟨x,c.u5,c.rQ⟩) (by kernel_rfl) ?_
 refine M6 _ _ fun xb=>?_
 refine aG.mk ?_
 refine⟨fun vs H=>∃(j:Nat) (es:Array MapEntry) (ck:Nat) (m:List Nd),vs=[.int .i64 (j:Int)]∧H=(xb,.cells (rows [aT ⟨x,c.u6,c.rR⟩,aT ⟨x,c.u5,c.rQ⟩]) 161 (0,0))::(mb,.map es ck)::(Na++C)∧j≤2∧uh es ck m∧gU K x (all.take i) ((keys x c).take j) m,
  fun vs _=>2-bg vs 0,JE.of (.cons .tail) ⟨0,es,ck,m,rfl,rfl,Nat.zero_le _,hmk,LY⟩,?_⟩
 clear hmk LY
 rintro w H ⟨j,es,ck,m,hw,rfl,hj,hmk,LY⟩ gs
 simp only[List.cons.injEq,and_true]at hw
 subst hw
 refine ae.dL (b:=2) (Br.dec (fun dI=>?_) (fun hge=>?_))
 rotate_left
 ·have:j=2:=by omega
  subst this
  refine ae.aH (b:=1) (by simp[az];omega) ?_
  refine ay.of .tail ⟨i+1,es,ck,m,rfl,rfl,by omega,hmk,?_⟩ (by simp[bg];omega)
  rw[lS]
  exact gU.wJ LY
 obtain⟨d,BM,BL⟩:∃d,(keys x c)[j]? =some d∧d.v=x:=by
  rcases j with _|_|j
  ·exact⟨_,rfl,rfl⟩
  ·exact⟨_,rfl,rfl⟩
  ·omega
 have htj:(keys x c).take (j+1)=(keys x c).take j++[d]:=by rw[List.take_add_one,BM];rfl
 have hrow:[aT ⟨x,c.u6,c.rR⟩,aT ⟨x,c.u5,c.rQ⟩][j]? =some (aT d):=by
  have:[aT ⟨x,c.u6,c.rR⟩,aT ⟨x,c.u5,c.rQ⟩]=(keys x c).map aT:=rfl
  rw[this,List.getElem?_map,BM];rfl
 intro Yb ab2
 have next:∀es' eN m' H',uh es' eN m'→gU K x (all.take i) ((keys x c).take (j+1)) m'→aO H' ((xb,.cells (rows [aT ⟨x,c.u6,c.rR⟩,aT ⟨x,c.u5,c.rQ⟩]) 161 (0,0))::(mb,.map es' eN)::(Na++C))→JE Yb [] H':=fun es' eN m' H' h1 h2 h3=>
  JE.mk (ab2 _ fun gs=>ae.aH (b:=1) (by simp[az];omega) (ay.of h3 ⟨j+1,es',eN,m',rfl,rfl,by omega,h1,h2⟩ (by simp[bg];omega)))
 refine ah.nat dI ?_
 have hmem:(xb,Obj.cells (rows [aT ⟨x,c.u6,c.rR⟩,aT ⟨x,c.u5,c.rQ⟩]) 161 (0,0))∈(xb,Obj.cells (rows [aT ⟨x,c.u6,c.rR⟩,aT ⟨x,c.u5,c.rQ⟩]) 161 (0,0))::(mb,.map es ck)::(Na++C):=.head _
 refine aA.row (k:=3) hmem (by simp[aT]) hrow ?_
 intro Ud _
 refine St.whole (r:=aT d) (by exact .head _) rfl rfl (fun z hz=>by simp[aT,u32]at hz;rcases hz with rfl|rfl|rfl<;>rfl) ?_
 refine DR.self ?_
 rw[hC]
 refine Nil.ptr (aa.mk (aa.mk (Ld.mk (v:=ptr b.pt) (.tail _ (.tail _ (.tail _ (List.mem_append_right _ (.head _))))) rfl ?_)))
 refine aA.whole (r:=aT d) (by exact .head _) rfl ?_
 refine ag.rd (.cons (.cons (.cons (.app (.cons (.app .left)))))) (r4 (d:=d) hO.ut (by rw[BL];exact hx)) ?_
 rintro w rfl
 refine⟨.refl _,Ext.mk rfl (Ext.mk rfl (Un.not ?_))⟩
 have Rj:(!(K.T d).isSome)=decide (K.T d=none):=by cases K.T d<;>simp
 rw[Rj]
 refine cv.and (decide (d.lo≠d.hi)) (fun _=>?_) rfl fun gs=>?_
 ·refine aa.mk (Ld.mk (by exact .head _) rfl ?_)
  refine aa.mk (Ld.mk (by exact .head _) rfl ?_)
  exact ae.ql ⟨rfl,rfl⟩
 rw[←Bool.decide_and]
 rw[←hC]
 refine Br.dec (fun hd=>?_) (fun hd=>?_)
 ·refine Pz hmk (c:=fun o=>(Ud,.cells (aT d).toArray 161 (0,0))::(xb,.cells (rows [aT ⟨x,c.u6,c.rR⟩,aT ⟨x,c.u5,c.rQ⟩]) 161 (0,0))::(mb,o)::(Na++C)) (fun o o'=>.tail (.tail (.head _))) (fun o=>.head _) fun es' eN h1 gs=>?_
  exact next es' eN _ _ h1 (by rw[htj];exact LY.step hd) .tail
 ·exact next es ck m _ hmk (by rw[htj];exact LY.skip hd) .tail
end
def jw(l:List Cx):Nat→Nat:=fun s=>(l.map fun c=>e1 (some c.d) s).sum
theorem nf(c:Cx)(l:List Cx)(s:Nat):jw (c::l) s=e1 (some c.d) s+jw l s:=by simp[jw]
theorem G8(c:Cx)(l:List Cx)(s:Nat):jw (l++[c]) s=jw l s+e1 (some c.d) s:=by simp[jw]
theorem Xy(d:Nd)(s:Nat):e1 (some d) s≤2:=by rw[ef];split<;>split<;>omega
theorem wT(s:Nat):∀l:List Cx,jw l s≤2*l.length
 | []=>Nat.le_refl _
 |c::l=>by rw[nf,List.length_cons];have:=wT s l;have:=Xy c.d s;omega
theorem yI{s:Nat}:∀{l:List Cx},0<jw l s→∃c∈l,c.d.lo=s∨c.d.hi=s
 | [],h=>by simp[jw]at h
 |c::l,h=>by
  rw[nf]at h
  by_cases h0:0<e1 (some c.d) s
  ·refine⟨c,by simp,?_⟩
   rw[ef]at h0
   by_cases h1:c.d.lo=s
   ·exact .inl h1
   ·by_cases h2:c.d.hi=s
    ·exact .inr h2
    ·simp[h1,h2]at h0
  ·obtain⟨c',hc,h1⟩:=yI (s:=s) (l:=l) (by omega)
   exact⟨c',by simp[hc],h1⟩
theorem Fy{s:Nat}{c:Cx}(hs:c.d.lo=s∨c.d.hi=s):∀{l:List Cx},c∈l→0<jw l s
 |c'::l,h=>by
  rw[nf]
  rcases List.mem_cons.1 h with rfl|h
  ·rw[ef]
   rcases hs with hs|hs
   ·rw[if_pos hs];omega
   ·rw[if_pos hs];omega
  ·have:=Fy hs h;omega
def Idle(K:Kd):Prop:=∀s,K.N s=none→K.use s=0
theorem sB{K:Kd}{S:Nat→bc.Fn}{E:Nat→Prop}{P:Nat→Nat}(hm:ji K S E P)(hi:Idle K){M:Nat}(hP:∀s,P s≤M)(s:Nat):K.use s≤2097153+M:=by
 cases h:K.N s with
 |none=>rw[hi s h];omega
 |some d=>
  rw[hm.use h]
  have:=zN (N:=K.N) (r:=s) K.cap
  have:=hm.cap.2
  have:=hP s
  split<;>omega
section
variable {kp:Nat} {K K0:Kd} {ord av tr:List Nat} {C:Hp} {S S0:Nat→bc.Fn} {N6:Nat→Nat} {x y l:Nat} {all done rest:List Cx} {made:List Nd} {P:Nat→Nat}
theorem MH(b:TB K0 S0 N6 x y l all made)(h:cY kp K ord av tr C)(ht:TI K0 S0 N6 x y l made K S done rest P)(hd:∀c∈done,c∈all)(hr:∀c∈rest,c∈all){c:Cx}(hc:c∈all){k:Nd}(hk:k∈keys x c)
 (JF:PL P K.N)(Ma:Idle K)(hP:∀s,P s≤4194304):
  Fc Tryz.prog 138 #[ptr kp,.int .i64 (k.v:Int),u32 k.lo,u32 k.hi] C (fun v C'=>∃r K' S',v=u32 r∧cY kp K' ord av tr C'∧TI K0 S0 N6 x y l made K' S' done rest P∧ve K0 K' N6 x l r∧
   ((k.lo=k.hi∧r=k.lo)∨K'.N r=some k)∧PL P K'.N∧Idle K'∧(∀s d,K.N s=some d→K'.N s=some d)∧(∀s d,K'.N s=some d→s=r∨(K.N s=some d∧K.use s≤K'.use s))):=by
 have Wq:K.n≤64:=by obtain⟨_,_,hO⟩:=h;exact hO.uH
 have k6:=b.Ph hc
 have hkv:k.v=x∧rB K0 N6 l k.lo∧rB K0 N6 l k.hi:=by
  simp only[keys,List.mem_cons,List.not_mem_nil,or_false]at hk
  rcases hk with rfl|rfl
  ·exact⟨rfl,k6.1.1,k6.1.2⟩
  ·exact⟨rfl,k6.2.1,k6.2.2⟩
 have BC:=ht.pw b hd hkv.2.1
 have q6:=ht.pw b hd hkv.2.2
 have hxn:k.v<K.n:=by rw[hkv.1,ht.n];exact b.nb.xn
 by_cases he:k.lo=k.hi
 ·refine Fc.mono (by rw[←he];exact Qf C _ k.lo _) ?_
  rintro v C' ⟨rfl,rfl⟩
  exact⟨k.lo,K,S,rfl,h,ht,.inl hkv.2.1,.inl ⟨he,rfl⟩,JF,Ma,fun _ _ h=>h,fun s d h=>.inr ⟨h,Nat.le_refl _⟩⟩
 cases hT:K.T k with
 |some r=>
  obtain⟨h1,h2⟩:=ht.found b hc hk hT
  refine Fc.mono (Qh h he hxn hT) ?_
  rintro v C' ⟨rfl,rfl⟩
  exact⟨r,K,S,rfl,h,ht,h2,.inr h1,JF,Ma,fun _ _ h=>h,fun s d h=>.inr ⟨h,Nat.le_refl _⟩⟩
 |none=>
  have hfit:∀{t:Nat},live K.N t→t<2∨t<K.us.length:=fun ht'=>by
   rcases ht' with ht'|⟨d,ei⟩
   ·exact .inl ht'
   ·exact .inr (ht.mid.fit ei)
  have hkm:=ht.LF b hd hr hc hk he hkv.2.1 hkv.2.2 hT
  refine Fc.mono (Qg h (d:=k) he ⟨by omega,BC,q6⟩ hxn hT (ht.fits b hkm hT) (hfit BC) (hfit q6) (fun s=>by have:=sB ht.mid Ma hP s;omega)) ?_
  rintro v C' ⟨r,dk,bT,rfl,hN,h2,hrc,hlen,hru,xk,u0,u1,u2,o0,o1,zv⟩
  have hPr:P r=0:=by
   apply Decidable.byContradiction
   intro hne
   obtain⟨d,ei⟩:=JF r h2 (by omega)
   rw[hN]at ei;cases ei
  obtain⟨g1,g2⟩:=ht.lay b hd hr hc hk he hT hN ⟨h2,hrc⟩ hlen ⟨hru,xk⟩ u0 u1 o0 o1 hPr
  have hup:∀s d,K.N s=some d→up K.N r (some k) s=some d:=fun s d hs=>by
   rw[aP (fun e=>by rw[e,hN]at hs;cases hs)];exact hs
  refine⟨r,_,_,rfl,zv,g1,g2,.inr aN,fun t Of h0=>?_,fun s hs=>?_,hup,fun s d hs=>?_⟩
  ·obtain⟨d,ei⟩:=JF t Of h0
   exact⟨d,hup t d ei⟩
  ·have hs':up K.N r (some k) s=none:=hs
   have hne:s≠r:=fun e=>by subst e;rw[aN]at hs';cases hs'
   rw[aP hne]at hs'
   show dk.getD s 0=0
   by_cases U8:2≤s
   ·rw[u1 s U8 hne,Ma s hs',ef]
    have a1:k.lo≠s:=fun e=>by
     rcases BC with h5|⟨d,h5⟩
     ·omega
     ·rw[e,hs']at h5;cases h5
    have a2:k.hi≠s:=fun e=>by
     rcases q6 with h5|⟨d,h5⟩
     ·omega
     ·rw[e,hs']at h5;cases h5
    simp[a1,a2]
   ·rw[u2 s (by omega),Ma s hs']
  ·have hs':up K.N r (some k) s=some d:=hs
   by_cases e:s=r
   ·exact .inl e
   ·rw[aP e]at hs'
    refine .inr ⟨hs',?_⟩
    show K.use s≤dk.getD s 0
    rw[u1 s (ht.mid.two hs').1 e];omega
theorem Kp(h:cY kp K ord av tr C)(ht:TI K0 S0 N6 x y l made K S done rest P)(JF:PL P K.N)(Ma:Idle K)(hP:∀s,P s≤4194304){r:Nat}(hr:live K.N r):
  Fc Tryz.prog 139 #[ptr kp,u32 r] C (fun v C'=>∃K',v=.tuple #[]∧cY kp K' ord av tr C'∧TI K0 S0 N6 x y l made K' S done rest (fun s=>P s+if s=r then 1 else 0)∧PL (fun s=>P s+if s=r then 1 else 0) K'.N∧Idle K'∧
   K'.N=K.N∧(∀s,K.use s≤K'.use s)∧(2≤r→0<K'.use r)):=by
 have hfit:r<2∨r<K.us.length:=by
  rcases hr with hr|⟨d,hd⟩
  ·exact .inl hr
  ·exact .inr (ht.mid.fit hd)
 refine Fc.mono (AX h hfit (by have:=sB ht.mid Ma hP r;omega)) ?_
 rintro v C' ⟨rfl,zv⟩
 by_cases h2:2≤r
 ·have hrd:∃d,K.N r=some d:=by
   rcases hr with hr|hr
   ·omega
   ·exact hr
  have hlt:r<K.us.length:=by omega
  refine⟨_,rfl,zv,(ht.use (iH r) (lX h2 hlt) (fun s hs=>sC hs)).congr (fun s _=>?_),fun t Of h0=>?_,fun s hs=>?_,rfl,fun s=>?_,fun _=>?_⟩
  ·unfold up
   split
   ·rename_i e;subst e;rfl
   ·rfl
  ·by_cases e:t=r
   ·subst e;exact hrd
   ·simp[e]at h0;exact JF t Of h0
  ·show(qP K r).getD s 0=0
   have hne:s≠r:=fun e=>by
    obtain⟨d,hd⟩:=hrd
    have hs':K.N s=none:=hs
    rw[e,hd]at hs';cases hs'
   rw[sC hne];exact Ma s hs
  ·show K.use s≤(qP K r).getD s 0
   by_cases e:s=r
   ·subst e;rw[lX h2 hlt];omega
   ·rw[sC e];exact Nat.le_refl _
  ·show 0<(qP K r).getD r 0
   rw[lX h2 hlt];omega
 ·have e:qP K r=K.us:=by unfold qP;rw[if_pos (by omega)]
  have eK:({K with us:=qP K r}:Kd)=K:=by rw[e]
  rw[eK]at zv
  refine⟨K,rfl,zv,ht.congr (fun s hs=>?_),fun t Of h0=>?_,Ma,rfl,fun _=>Nat.le_refl _,fun h=>absurd h h2⟩
  ·rw[if_neg (by omega)];rfl
  ·have Zd:0<P t+if t=r then 1 else 0:=h0
   rw[if_neg (by omega)]at Zd;exact JF t Of Zd
theorem ve.mono{K K':Kd}(h:ve K0 K N6 x l y)(hm:∀s d,K.N s=some d→K'.N s=some d):ve K0 K' N6 x l y:=by
 rcases h with h|⟨e,h1,h2⟩
 ·exact .inl h
 ·exact .inr ⟨e,hm _ _ h1,h2⟩
end
section
variable {kp:Nat} {K:Kd} {ord av tr:List Nat} {C:Hp} {S:Nat→bc.Fn}
structure Kept(K:Kd)(S:Nat→bc.Fn)(K':Kd)(S':Nat→bc.Fn):Prop where
 n:K'.n=K.n
 cap:K'.cap=K.cap
 hold:∀r,K'.hold r=K.hold r
 held:∀g,K'.held S' g↔K.held S g
 fn:∀r,K.hold r≠0→S' r=S r
theorem Tf{x y l:Nat}(hne:x≠y)(hx:x<av.length)(hy:y<av.length):lv ((av.set x (l+1)).set y l)=rH (lv av) x y l:=by
 funext v
 show((av.set x (l+1)).set y l).getD v 0=_
 rw[g8 (by simpa using hy),g8 hx]
 unfold rH
 by_cases e:v=y
 ·rw[if_pos e,if_neg (by rw[e];exact Ne.symm hne),if_pos e]
 ·rw[if_neg e,if_neg e]
theorem K7(c:Cx)(rest:List Cx):jw (c::rest)=gT (gT (jw rest) [c.d.hi]) [c.d.lo]:=by
 funext s
 rw[nf,ef]
 unfold gT
 simp only[List.count_cons,List.count_nil,beq_iff_eq]
 omega
theorem Lm{x:Nat}{all:List Cx}{made:List Nd}(h:Made K x all made):made.length≤2*all.length:=by
 have h1:=bV (l':=all.flatMap (keys x)) h.nd fun k hk=>by
  obtain⟨⟨c,hc,hk'⟩,_⟩:=(h.mem k).1 hk
  exact List.mem_flatMap.2 ⟨c,hc,hk'⟩
 have h2:(all.flatMap (keys x)).length=2*all.length:=by
  clear h1 h
  induction all with
  |nil=>rfl
  |cons c all ih=>rw[List.flatMap_cons,List.length_append,ih,List.length_cons];simp[keys];omega
 omega
theorem Ku{x y l:Nat}{K1:Kd}{S1:Nat→bc.Fn}{all:List Cx}{made:List Nd}(b:TB K S (lv av) x y l all made)(h:TI K S (lv av) x y l made K1 S1 all [] (jw all))(hnew:∀r d,K.N r=none→K1.N r=some d→0<K1.use r):Pos K1:=by
 intro r d hd
 cases hN:K.N r with
 |none=>exact hnew r d hN hd
 |some d0=>
  rw[h.mid.use hd]
  rcases b.ok.reach r d0 hN with hh|⟨p,e,hp,Rn⟩
  ·have pZ:K1.hold r≠0:=by rw[h.hold];exact hh
   rw[if_neg pZ];omega
  ·by_cases hm:p∈all.map Cx.r
   ·obtain⟨c,hc,rfl⟩:=List.mem_map.1 hm
    have hcd:=(b.mD hc).1
    rw[hp]at hcd;cases hcd
    have:=Fy (s:=r) Rn hc
    omega
   ·have uY:=h.old hp hm
    have:dh K1.N r K1.cap≠0:=fun he=>by
     have:=jf he p (h.mid.two uY).2 e uY
     rcases Rn with Rn|Rn
     ·exact this.1 Rn
     ·exact this.2 Rn
    omega
theorem Fk(h:cY kp K ord av tr C)(hok:Ok K S (lv av))(ho:Ord K.n (lv av) ord)(Ma:Idle K){l:Nat}(hl:l+1<K.n):
  Fc Tryz.prog 59 #[ptr kp,.int .i64 (l:Int)] C (fun r C'=>
   (x5 K.n ord l (K.held S)+2≤K.cap∧r=.bool true∧∃K' S' fu,cY kp K' (ez ord l) fu tr C'∧Ok K' S' (lv fu)∧Ord K'.n (lv fu) (ez ord l)∧Idle K'∧Kept K S K' S')∨
   (K.cap<x5 K.n ord l (K.held S)+2∧r=.bool false∧C'=C)):=by
 have h0:=h
 have hcap:=h.cap
 obtain⟨b,hC,hO⟩:=h
 have zj:=hO.ol
 have Wq:=hO.uH
 have nb:=ho.nb hl
 obtain⟨x,hx⟩:∃x,x=ord.getD l 0:=⟨_,rfl⟩
 obtain⟨y,hy⟩:∃y,y=ord.getD (l+1) 0:=⟨_,rfl⟩
 rw[←hx,←hy]at nb
 intro g
 refine IU (R:=aE _) ?_
 unfold L59
 have hmk:(kp,Obj.cells (b.cells K.n) 117 (0,0))∈C:=by rw[hC];exact .head _
 have Ri:∀z∈b.CO,z∈C:=by rw[hC];exact cz.sub (.cons (.app (.app (.app (.app .left)))))
 refine Nil.ptr (aa.mk (Ld.mk (v:=b.vo) hmk rfl ?_))
 refine hO.od.ld (x:=(x:Int)) (by rw[hx];exact bE (by omega)) Ri ?_
 refine Nil.ptr (aa.mk (Ld.mk (v:=b.vo) hmk rfl ?_))
 refine ae.aH (b:=1) (by simp[az];omega) ?_
 refine hO.od.ld (x:=(y:Int)) (by rw[hy];exact bE (by omega)) Ri ?_
 refine ag.fn .here (xH h0 hok nb.xn) ?_
 rintro w H ⟨all,Na,rfl,aK,HP,hlen⟩
 refine DR.self (Nil.ptr (aa.mk ?_))
 refine ag.rd .here (MK h0 nb.xn aK hlen) ?_
 rintro w ⟨made,rfl,LZ⟩
 have hml:=Lm LZ
 have FL:=hok.mid.cap
 have aaM:=hok.mid.room
 refine ag.rd (.app .here) (y7 h0 (m:=made.length) (by omega) (by omega)) ?_
 rintro w rfl
 have agA:x5 K.n ord l (K.held S)=K.used-2+made.length:=AV (Kv hok ho hl (by rw[←hx,←hy];exact HP) (by rw[←hx];exact LZ))
 refine Un.not ?_
 by_cases hroom:K.used+made.length≤K.cap
 rotate_left
 ·rw[decide_eq_false hroom]
  exact Br.yes (aE.mk .right (.inr ⟨by omega,rfl,rfl⟩))
 rw[decide_eq_true hroom]
 refine Br.no ?_
 have tb:TB K S (lv av) x y l all made:=⟨hok,nb,HP,LZ,hroom⟩
 have gW:=HP.nd
 have hge:∀{i:Nat} {c:Cx},all[i]? =some c→c.r∉(all.take i).map Cx.r:=fun{i c} nQ hm=>by
  have h1:(all.take (i+1)).map Cx.r=(all.take i).map Cx.r++[c.r]:=by rw[List.take_add_one,nQ,List.map_append];rfl
  have h2:((all.take (i+1)).map Cx.r).Nodup:=gW.sublist ((List.take_sublist _ _).map _)
  rw[h1]at h2
  exact(List.nodup_append.1 h2).2.2 _ hm _ (by simp) rfl
 have lS:∀{i:Nat} {c:Cx},all[i]? =some c→all.take (i+1)=all.take i++[c]:=fun nQ=>by rw[List.take_add_one,nQ];rfl
 have YY:∀{i:Nat} {c:Cx},all[i]? =some c→all.drop i=c::all.drop (i+1):=fun{i c} nQ=>by
  obtain⟨hi,e⟩:=List.getElem?_eq_some_iff.1 nQ
  rw[List.drop_eq_getElem_cons hi,e]
 have TD:∀{i:Nat},∀c∈all.take i,c∈all:=fun c hc=>List.mem_of_mem_take hc
 have hmD:∀{i:Nat},∀c∈all.drop i,c∈all:=fun c hc=>List.mem_of_mem_drop hc
 refine aK.aS ?_
 rw[List.length_map]
 refine⟨fun vs H=>∃(i:Nat) (T':Nd→Option Nat) (C1:Hp),vs=[.int .i64 (i:Int)]∧H=Na++C1∧i≤all.length∧cY kp {K with T:=T'} ord av tr C1∧ji {K with T:=T'} S (fun s=>∃c∈all.take i,s=c.r) zero'∧(∀d,T' d=none∨T' d=K.T d),
  fun vs _=>all.length-bg vs 0,JE.mk ⟨0,K.T,C,rfl,rfl,Nat.zero_le _,h0,hok.mid.congr (fun s=>by simp[iB]) (fun _ _=>rfl),fun _=>.inr rfl⟩,?_⟩
 rintro w H ⟨i,T',C1,hw,rfl,hi,uN,HT,HS⟩ gs
 simp only[List.cons.injEq,and_true]at hw
 subst hw
 refine ae.dL (Br.dec (fun hlt=>?_) (fun PX=>?_))
 ·obtain⟨c,nQ⟩:∃c,all[i]? =some c:=⟨_,List.getElem?_eq_getElem hlt⟩
  have JD:c∈all:=List.mem_of_getElem? nQ
  obtain⟨xy,WM,hce⟩:=tb.mD JD
  refine aK.FJ (r:=iA c) (by rw[List.getElem?_map,nQ];rfl) (fun z hz=>List.mem_append_left _ hz) ?_
  intro Is _
  refine St.whole (r:=iA c) (by exact .head _) rfl rfl (kz _) ?_
  obtain⟨b1,rfl,RP⟩:=uN
  refine DR.self (Nil.ptr (aa.mk (aa.mk (Ld.mk (v:=ptr b1.pt) (.tail _ (List.mem_append_right _ (.head _))) rfl ?_))))
  refine aa.mk (aA.mk (vs:=(aT c.d).toArray) (.head _) (by simp[iA]) rfl ?_)
  have hTc:T' c.d=some c.r:=(HT.jB c.d c.r).2 ⟨xy,by rintro⟨c',kH,e⟩;exact hge nQ (e▸List.mem_map_of_mem kH)⟩
  refine ag.fn (.cons (.app (.cons (.app .left)))) (vD (d:=c.d) RP.ut (hok.mid.var xy) hTc) ?_
  rintro v Ow ⟨rfl,Tq⟩
  refine ae.aH (b:=1) (by simp[az];omega) ?_
  refine ay.of .tail ⟨i+1,oM T' c.d none,_,rfl,rfl,by omega,⟨{b1 with CT:=Ow},rfl,{RP with ut:=Tq}⟩,(HT.abm (r:=c.r) (d:=c.d) xy ?_).congr (fun s=>?_) (fun _ _=>rfl),fun d=>?_⟩ (by simp[bg];omega)
  ·rintro⟨c',kH,e⟩;exact hge nQ (e▸List.mem_map_of_mem kH)
  ·rw[lS nQ]
   constructor
   ·rintro(⟨c',kH,e⟩|e)
    ·exact⟨c',List.mem_append_left _ kH,e⟩
    ·exact⟨c,by simp,e⟩
   ·rintro⟨c',kH,e⟩
    rcases List.mem_append.1 kH with kH|kH
    ·exact .inl ⟨c',kH,e⟩
    ·simp at kH;subst kH;exact .inr e
  ·unfold oM
   split
   ·exact .inl rfl
   ·exact HS d
 have hi':i=all.length:=by omega
 subst hi'
 rw[List.take_length]at HT
 have hTI:=tb.start HT HS
 refine aK.aS ?_
 rw[List.length_map]
 refine⟨fun vs H=>∃(i:Nat) (K1:Kd) (S1:Nat→bc.Fn) (C1:Hp),vs=[.int .i64 (i:Int)]∧H=Na++C1∧i≤all.length∧cY kp K1 ord av tr C1∧TI K S (lv av) x y l made K1 S1 (all.take i) (all.drop i) (jw (all.take i))∧
   PL (jw (all.take i)) K1.N∧Idle K1∧(∀r d,K.N r=none→K1.N r=some d→0<K1.use r),
  fun vs _=>all.length-bg vs 0,JE.mk ⟨0,_,S,C1,rfl,rfl,Nat.zero_le _,uN,hTI,fun t _ h=>by simp[jw]at h,Ma,fun r d h1 h2=>by rw[h1]at h2;cases h2⟩,?_⟩
 clear hTI HT HS uN T' C1 PX hi
 rintro w H ⟨i,K1,S1,C1,hw,rfl,hi,uN,HS,P7,L9,Rr⟩ gs
 simp only[List.cons.injEq,and_true]at hw
 subst hw
 refine ae.dL (Br.dec (fun hlt=>?_) (fun PX=>?_))
 ·obtain⟨c,nQ⟩:∃c,all[i]? =some c:=⟨_,List.getElem?_eq_getElem hlt⟩
  have JD:c∈all:=List.mem_of_getElem? nQ
  obtain⟨xy,WM,hce⟩:=tb.mD JD
  rw[YY nQ]at HS
  have iD:∀c'∈c::all.drop (i+1),c'∈all:=by rw[←YY nQ];exact hmD
  have W9:∀s,jw (all.take i) s≤2097152:=fun s=>by have:=wT s (all.take i);rw[List.length_take]at this;omega
  refine aK.FJ (r:=iA c) (by rw[List.getElem?_map,nQ];rfl) (fun z hz=>List.mem_append_left _ hz) ?_
  intro JJ _
  refine St.whole (r:=iA c) (by exact .head _) rfl rfl (kz _) ?_
  refine DR.self (Nil.ptr (aa.mk ?_))
  refine aa.mk (Ld.mk (by exact .head _) rfl ?_)
  refine aa.mk (Ld.mk (by exact .head _) rfl ?_)
  refine ag.fn (.cons (.app .here)) (MH tb uN HS TD iD JD (k:=⟨x,c.u6,c.rR⟩) (by simp[keys]) P7 L9 (fun s=>by have:=W9 s;omega)) ?_
  rintro w C2 ⟨t0,K2,S2,rfl,tC,W4,VR,g0,P6,BF,ad3,aav⟩
  refine Nil.ptr (aa.mk ?_)
  refine ag.fn (.cons (.app .here)) (Kp tC W4 P6 BF (fun s=>by have:=W9 s;omega) (W4.pB tb TD VR)) ?_
  rintro w C3 ⟨K3,rfl,BR,hT3,T1,abp,hN3,aaO,Wd⟩
  have W8:∀s,(jw (all.take i) s+if s=t0 then 1 else 0)≤2097153:=fun s=>by have:=W9 s;split<;>omega
  refine DR.self (Nil.ptr (aa.mk ?_))
  refine aa.mk (Ld.mk (by exact .head _) rfl ?_)
  refine aa.mk (Ld.mk (by exact .head _) rfl ?_)
  refine ag.fn (.cons (.app .here)) (MH tb BR hT3 TD iD JD (k:=⟨x,c.u5,c.rQ⟩) (by simp[keys]) T1 abp (fun s=>by have:=W8 s;omega)) ?_
  rintro w C4 ⟨t1,K4,S4,rfl,Xg,hT4,VQ,g1,T0,abo,Q6,aau⟩
  refine Nil.ptr (aa.mk ?_)
  refine ag.fn (.cons (.app .here)) (Kp Xg hT4 T0 abo (fun s=>by have:=W8 s;omega) (hT4.pB tb TD VQ)) ?_
  rintro w C5 ⟨K5,rfl,Oe,Y4,ahx,abn,Xd,aaN,Wc⟩
  have Rb:ve K K5 (lv av) x l t0:=ve.mono VR (fun s d hs=>by rw[Xd];exact Q6 s d (by rw[hN3];exact hs))
  have Ra:ve K K5 (lv av) x l t1:=ve.mono VQ (fun s d hs=>by rw[Xd];exact hs)
  have g0':(c.u6=c.rR∧t0=c.u6)∨K5.N t0=some ⟨x,c.u6,c.rR⟩:=by
   rcases g0 with g0|g0
   ·exact .inl g0
   ·exact .inr (by rw[Xd];exact Q6 _ _ (by rw[hN3];exact g0))
  have g1':(c.u5=c.rQ∧t1=c.u5)∨K5.N t1=some ⟨x,c.u5,c.rQ⟩:=by
   rcases g1 with g1|g1
   ·exact .inl g1
   ·exact .inr (by rw[Xd];exact g1)
  have aa9:((all.take i++c::all.drop (i+1)).map Cx.r).Nodup:=by rw[←YY nQ,List.take_append_drop];exact gW
  obtain⟨hTn,hT6⟩:=Y4.wJ tb TD iD aa9 Rb Ra g0' g1' (P':=jw (all.take (i+1))) (fun s _=>by
   rw[lS nQ,G8,ef ⟨y,t0,t1⟩]
   have e1':(if t0=s then 1 else 0)=(if s=t0 then 1 else 0:Nat):=by split<;>split<;>first|rfl|(exfalso;omega)
   have e2':(if t1=s then 1 else 0)=(if s=t1 then 1 else 0:Nat):=by split<;>split<;>first|rfl|(exfalso;omega)
   simp only[e1',e2']
   omega)
  have L3:∀{t:Nat},ve K K5 (lv av) x l t→live K5.N t:=fun hk=>Y4.pB tb TD hk
  have TT:∃e,K5.N c.r=some e:=Y4.kept xy
  refine Build.mk (cs:=aT ⟨y,t0,t1⟩) (by kernel_rfl) ?_
  intro Zg _
  refine St.whole (r:=aT ⟨y,t0,t1⟩) (by exact .head _) rfl rfl (fun z hz=>by simp[aT,u32]at hz;rcases hz with rfl|rfl|rfl<;>rfl) ?_
  obtain⟨b5,rfl,Y6⟩:=Oe
  refine DR.self (Nil.ptr (aa.mk (aa.mk (Ld.mk (v:=ptr b5.pa) (.tail _ (.tail _ (List.mem_append_right _ (.head _)))) rfl ?_))))
  refine aa.mk (Ld.mk (by exact .tail _ (.head _)) rfl ?_)
  refine aA.whole (r:=aT ⟨y,t0,t1⟩) (by exact .head _) rfl ?_
  have Tn:y<K5.n:=by rw[Y4.n];exact nb.yn
  refine ag.fn (.cons (.cons (.app (.cons .left)))) (QA (d:=⟨y,t0,t1⟩) Y6.ar ⟨by show y<64;have:=Y6.uH;omega,L3 Rb,L3 Ra⟩ TT (tb.ok.mid.two xy).1) ?_
  rintro w Yr ⟨rfl,WU⟩
  refine DR.self (Nil.ptr (aa.mk (aa.mk (Ld.mk (v:=ptr b5.pt) (.tail _ (.tail _ (List.mem_append_right _ (.head _)))) rfl ?_))))
  refine aA.whole (r:=aT ⟨y,t0,t1⟩) (by exact .head _) rfl ?_
  refine aa.mk (Ld.mk (by exact .tail _ (.head _)) rfl ?_)
  refine ag.fn (.cons (.cons (.app (.cons (.app .left))))) (Fj (d:=⟨y,t0,t1⟩) (r:=c.r) Y6.ut Tn hTn) ?_
  rintro w Ow ⟨rfl,Tq⟩
  refine ae.aH (b:=1) (by simp[az];omega) ?_
  refine ay.of (.skip .tail) ⟨i+1,{K5 with N:=up K5.N c.r (some ⟨y,t0,t1⟩),T:=oM K5.T ⟨y,t0,t1⟩ (some c.r)},S4,_,rfl,rfl,by omega,⟨{b5 with CA:=Yr,CT:=Ow},rfl,{Y6 with ar:=WU,ut:=Tq}⟩,by rw[lS nQ]at hT6⊢;exact hT6,fun t Of hp=>?_,fun s hs=>?_,fun r d HG hrd=>?_⟩ (by simp[bg];omega)
  ·obtain⟨c',kH,lT⟩:=yI hp
   have abE:=TD c' kH
   have Mm:=(tb.mD abE).1
   have hlv:live K.N t:=by
    rcases lT with rfl|rfl
    ·exact tb.ok.mid.lo Mm
    ·exact tb.ok.mid.hi Mm
   rcases hlv with hlv|⟨d,hd⟩
   ·omega
   ·exact hT6.kept hd
  ·have hs':up K5.N c.r (some ⟨y,t0,t1⟩) s=none:=hs
   have hne:s≠c.r:=fun e=>by subst e;rw[aN]at hs';cases hs'
   rw[aP hne]at hs'
   exact abn s hs'
  ·have Tu:up K5.N c.r (some ⟨y,t0,t1⟩) r=some d:=hrd
   have hne:r≠c.r:=fun e=>by rw[e,xy]at HG;cases HG
   rw[aP hne,Xd]at Tu
   have Zb:2≤r:=(hT4.mid.two Tu).1
   show 0<K5.use r
   rcases aau r d Tu with e|⟨h3,hu3⟩
   ·rw[e]at Zb⊢;exact Wc Zb
   ·rw[hN3]at h3
    have h5:=aaN r
    rcases aav r d h3 with e|⟨h1,YJ⟩
    ·rw[e]at Zb⊢h5 hu3;have:=Wd Zb;omega
    ·have:=Rr r d HG h1
     have:=aaO r
     omega
 have hi':i=all.length:=by omega
 subst hi'
 rw[List.take_length,List.drop_length]at HS
 rw[List.take_length]at P7
 have uY:=Ku tb HS Rr
 refine aK.aS ?_
 rw[List.length_map]
 refine⟨fun vs H=>∃(i:Nat) (K2:Kd) (C2:Hp),vs=[.int .i64 (i:Int)]∧H=Na++C2∧i≤all.length∧cY kp K2 ord av tr C2∧ji K2 S1 iB (jw (all.drop i))∧Pos K2∧PL (jw (all.drop i)) K2.N∧vb K2 K1,
  fun vs _=>all.length-bg vs 0,JE.mk ⟨0,K1,C1,rfl,rfl,Nat.zero_le _,uN,HS.mid.congr (fun s=>by simp[iB]) (fun _ _=>rfl),uY,P7,.refl K1⟩,?_⟩
 clear uN P7 hi PX C1
 rintro w H ⟨i,K2,C2,hw,rfl,hi,tC,JG,kZ,P6,gK⟩ gs
 simp only[List.cons.injEq,and_true]at hw
 subst hw
 refine ae.dL (Br.dec (fun hlt=>?_) (fun PX=>?_))
 ·obtain⟨c,nQ⟩:∃c,all[i]? =some c:=⟨_,List.getElem?_eq_getElem hlt⟩
  have JD:c∈all:=List.mem_of_getElem? nQ
  obtain⟨xy,WM,hce⟩:=tb.mD JD
  have W9:∀s,jw (all.drop i) s≤2097152:=fun s=>by have:=wT s (all.drop i);rw[List.length_drop]at this;omega
  have hlo:=h0.lt (hok.mid.lo xy)
  have hhi:=h0.lt (hok.mid.hi xy)
  refine aK.FJ (r:=iA c) (by rw[List.getElem?_map,nQ];rfl) (fun z hz=>List.mem_append_left _ hz) ?_
  intro Qy _
  refine St.whole (r:=iA c) (by exact .head _) rfl rfl (kz _) ?_
  refine DR.self (Nil.ptr (aa.mk ?_))
  refine aa.mk (aa.mk (Ld.mk (by exact .head _) rfl ?_))
  have BF:Idle K2:=gK.idle L9
  have hub:∀s,K2.use s<2147483648:=fun s=>by have:=sB JG BF W9 s;omega
  rw[YY nQ,K7]at JG P6
  refine ag.fn (.cons (.app .here)) (oc tC JG kZ P6 hlo hub) ?_
  rintro w C3 ⟨rfl,K3,BR,Y7,Ro,T1,L5⟩
  refine DR.self (Nil.ptr (aa.mk ?_))
  refine aa.mk (aa.mk (Ld.mk (by exact .head _) rfl ?_))
  refine ag.fn (.cons (.app .here)) (oc BR Y7 Ro T1 hhi (fun s=>Nat.lt_of_le_of_lt (L5.us s) (hub s))) ?_
  rintro w C4 ⟨rfl,K4,Xg,hM4,UL,T0,TE⟩
  refine ae.aH (b:=1) (by simp[az];omega) ?_
  exact ay.of .tail ⟨i+1,K4,C4,rfl,rfl,by omega,Xg,hM4,UL,T0,TE.trans (L5.trans gK)⟩ (by simp[bg];omega)
 have hi':i=all.length:=by omega
 subst hi'
 rw[List.drop_length]at JG
 have BF:Idle K2:=gK.idle L9
 obtain⟨f1,f2,f3⟩:=HS.fin tb (K':=K2) (JG.congr (fun _=>Iff.rfl) (fun _ _=>rfl)) kZ (fun h=>gK.N h) gK.n (fun r=>by show K2.ho.getD r 0=K1.ho.getD r 0;rw[gK.ho])
 have PO:K2.n=K.n:=by rw[gK.n,HS.n]
 obtain⟨b2,rfl,Xc⟩:=tC
 refine DR.self (Nil.ptr (aa.mk (Ld.mk (v:=b2.vo) (List.mem_append_right _ (.head _)) rfl ?_)))
 refine Nil.ptr (aa.mk (Ld.mk (v:=b2.vo) (List.mem_append_right _ (.head _)) rfl ?_))
 refine ae.aH (b:=1) (by simp[az];omega) ?_
 refine Xc.od.ju (x:=(y:Int)) (.app (.cons (.app (.app (.app (.app .left)))))) (by rw[an];omega) fun CO1 Bz=>?_
 refine Bz.ju (x:=(x:Int)) (.app (.cons (.app (.app (.app (.app .left)))))) (by rw[List.length_set,an];omega) fun CO2 nr=>?_
 refine DR.self (Nil.ptr (aa.mk (Ld.mk (v:=b2.vl) (List.mem_append_right _ (.head _)) rfl ?_)))
 refine Nil.ptr (aa.mk (Ld.mk (v:=b2.vl) (List.mem_append_right _ (.head _)) rfl ?_))
 refine ae.aH (b:=1) (by simp[az];omega) ?_
 have BB:=Xc.ol.2
 have hxn:=nb.xn
 have Tn:=nb.yn
 refine Xc.lv.ju (x:=((l+1:Nat):Int)) (.app (.cons (.app (.app (.app (.app (.app .left))))))) (by rw[an];omega) fun CL1 BC=>?_
 refine BC.ju (x:=(l:Int)) (.app (.cons (.app (.app (.app (.app (.app .left))))))) (by rw[List.length_set,an];omega) fun CL2 q6=>?_
 rw[fS,fS]at nr q6
 have FM:(ord.set l y).set (l+1) x=ez ord l:=by rw[hx,hy];rfl
 rw[FM]at nr
 have hlv:lv ((av.set x (l+1)).set y l)=rH (lv av) x y l:=Tf nb.ne (by omega) (by omega)
 refine aE.mk .right (.inl ⟨by omega,rfl,K2,S1,_,⟨{b2 with CO:=CO2,CL:=CL2},rfl,{Xc with od:=nr,lv:=q6,ol:=?_}⟩,by rw[hlv];exact f1,by rw[hlv,PO,hx,hy];exact OS ho hl,BF,PO,by rw[gK.cap,HS.cap],fun r=>?_,f2,f3⟩)
 ·rw[jC];simp;exact Xc.ol
 ·show K2.ho.getD r 0=K.hold r
  rw[gK.ho];exact HS.hold r
end
structure lH(kp:Nat)(K:Kd)(S:Nat→bc.Fn)(ord av tr:List Nat)(C:Hp):Prop where
 rep:cY kp K ord av tr C
 ok:Ok K S (lv av)
 od:Ord K.n (lv av) ord
 idle:Idle K
 tr:u7 K.n K.cap (K.held S) ord tr.reverse
theorem Kept.refl(K:Kd)(S:Nat→bc.Fn):Kept K S K S:=⟨rfl,rfl,fun _=>rfl,fun _=>Iff.rfl,fun _ _=>rfl⟩
theorem Kept.trans{K K' K2:Kd}{S S' S2:Nat→bc.Fn}(h:Kept K S K' S')(h':Kept K' S' K2 S2):Kept K S K2 S2:=
 ⟨h'.n.trans h.n,h'.cap.trans h.cap,fun r=>(h'.hold r).trans (h.hold r),fun g=>(h'.held g).trans (h.held g),fun r hr=>(h'.fn r (by rw[h.hold];exact hr)).trans (h.fn r hr)⟩
section
variable {kp:Nat} {K:Kd} {ord av tr:List Nat} {C:Hp} {S:Nat→bc.Fn}
theorem FY(h:lH kp K S ord av tr C){l:Nat}(hl:l+1<K.n)(g7:tr.length<1099511627776):Fc Tryz.prog 17 #[ptr kp,.int .i64 (l:Int)] C (fun r C'=>
   (x5 K.n ord l (K.held S)+2≤K.cap∧r=.int .i64 0∧∃K' S' fu,lH kp K' S' (ez ord l) fu (tr++[l]) C'∧Kept K S K' S')∨
   (K.cap<x5 K.n ord l (K.held S)+2∧r=.int .i64 9∧C'=C)):=by
 have h0:=h
 obtain⟨b,hC,hO⟩:=h.rep
 have hn:=hO.uH
 intro g
 refine Jn (R:=aE _) ?_
 unfold L17
 refine ae.aJ (Br.no (ae.lss ?_))
 refine cv.or (decide ((K.n:Int) -2<l)) (fun _=>?_) (by simp) fun gs=>?_
 ·refine Nil.ptr (aa.mk (Ld.mk (v:=.int .i64 (K.n:Int)) (by rw[hC];exact .head _) rfl ?_))
  refine ae.jZ (c:=(K.n:Int) -2) rfl (by omega) ?_
  exact ae.gtr ⟨rfl,rfl⟩
 ·rw[←Bool.decide_or]
  refine Br.cq (by omega) ?_
  refine ag.fn .here (Fk h.rep h.ok h.od h.idle hl) ?_
  rintro w C' (⟨hfit,rfl,K',S',fu,zv,tt,TA,xw,pE⟩|⟨hno,rfl,rfl⟩)
  ·refine Un.not (Br.no ?_)
   obtain⟨b',rfl,xB⟩:=zv
   refine Nil.ptr (aa.mk (Ld.mk (v:=b'.vt) (by exact .head _) rfl ?_))
   refine ax.int (e:=3) (by kernel_rfl) (by kernel_rfl) (by kernel_rfl) fun bx=>?_
   refine xB.tr.mK (.cons (.cons (.app (.app (.app (.app (.app (.app .here)))))))) (by exact .head _) (by rw[an];omega) (by rw[an];omega) fun v' Zv bT=>?_
   refine Nil.ptr (aa.mk (St.one (by exact .tail (.head _)) bT.one (by simp[uP.cells]) rfl ?_))
   refine aE.mk .tail (.inl ⟨hfit,rfl,K',S',fu,⟨⟨{b' with vt:=v',CR:=Zv},rfl,{xB with tr:=by rw[bO];exact bT}⟩,tt,TA,xw,?_⟩,pE⟩)
   rw[pE.n,pE.cap]
   exact(u7.acD hO.ol.1 hl hfit h.tr).congr fun g=>(pE.held g).symm
  ·exact Un.not (Br.yes (aE.here (.inr ⟨hno,rfl,rfl⟩)))
theorem ON{l:Nat}(h:lH kp K S ord av (tr++[l]) C)(g7:tr.length<1099511627776):Fc Tryz.prog 18 #[ptr kp] C (fun r C'=>
   r=.tuple #[.int .i64 (l:Int),.int .i64 0]∧l+1<K.n∧∃K' S' fu,lH kp K' S' (ez ord l) fu tr C'∧Kept K S K' S'):=by
 have h0:=h
 obtain⟨b,hC,hO⟩:=h.rep
 have hn:=hO.uH
 have LJ:=h.tr
 rw[List.reverse_append]at LJ
 obtain⟨hl,hfit,aaQ⟩:l+1<K.n∧x5 K.n ord l (K.held S)+2≤K.cap∧u7 K.n K.cap (K.held S) (ez ord l) tr.reverse:=LJ
 have hmk:(kp,Obj.cells (b.cells K.n) 117 (0,0))∈C:=by rw[hC];exact .head _
 intro g
 refine Jm (R:=aE _) ?_
 unfold L18
 refine ae.aJ ?_
 refine cv.or false (fun _=>?_) rfl fun gs=>Br.no ?_
 ·refine Nil.ptr (aa.mk (Ld.mk (v:=b.vt) hmk rfl ?_))
  refine hO.tr.aS ?_
  refine ae.kJ ⟨rfl,?_⟩
  rw[decide_eq_false]
  rw[an,List.length_append];simp;omega
 refine Nil.ptr (aa.mk (Ld.mk (v:=b.vt) hmk rfl ?_))
 refine hO.tr.aS ?_
 rw[an,List.length_append]
 refine ae.bC (a:=tr.length+1) (b:=1) (by simp[az];omega) (by omega) ?_
 rw[Nat.add_sub_cancel]
 refine Nil.ptr (aa.mk (Ld.mk (v:=b.vt) hmk rfl ?_))
 refine hO.tr.ld (i:=tr.length) (x:=(l:Int)) (by rw[bO];simp[iw]) (by rw[hC];exact cz.sub (.cons (.app (.app (.app (.app (.app (.app .here)))))))) ?_
 refine ag.fn .here (Fk h.rep h.ok h.od h.idle hl) ?_
 rintro w C' (⟨_,rfl,K',S',fu,zv,tt,TA,xw,pE⟩|⟨hno,rfl,rfl⟩)
 rotate_left
 ·omega
 obtain⟨b',rfl,xB⟩:=zv
 refine Nil.ptr (aa.mk (Ld.mk (v:=b'.vt) (by exact .head _) rfl ?_))
 refine xB.tr.cut (i:=tr.length) (by rw[an];simp) fun v' xj=>?_
 refine Nil.ptr (aa.mk (St.one (by exact .head _) xj.one (by simp[uP.cells]) rfl ?_))
 refine aE.here ⟨rfl,hl,K',S',fu,⟨⟨{b' with vt:=v'},rfl,{xB with tr:=by rw[bO,List.take_left' (by simp)]at xj;exact xj}⟩,tt,TA,xw,?_⟩,pE⟩
 rw[pE.n,pE.cap]
 exact aaQ.congr fun g=>(pE.held g).symm
theorem lH.fJ(h:lH kp K S ord av tr C){r:Nat}(hl:live K.N r):r<1048576:=h.rep.lt hl
theorem lH.jG(h:lH kp K S ord av tr C)(r:Nat):K.hold r≤65535:=h.ok.mid.mx r
theorem lH.Kq(h:lH kp K S ord av tr C)(r:Nat):K.use r≤2097153:=by have:=sB h.ok.mid h.idle (M:=0) (fun _=>Nat.le_refl _) r;omega
structure Ul(K K':Kd)(r:Nat):Prop where
 n:K'.n=K.n
 cap:K'.cap=K.cap
 used:K'.used=K.used
 N:K'.N=K.N
 hold:∀s,K'.hold s=if s=r∧2≤r then K.hold s+1 else K.hold s
theorem HE(h:lH kp K S ord av tr C){r:Nat}(hl:live K.N r)(h2:2≤r)(hf:K.hold r=65535):Rd Tryz.prog 121 #[ptr kp,u32 r] C (· =.int .i64 8):=by
 have hr:=h.fJ hl
 obtain⟨b,hC,hO⟩:=h.rep
 have hfit:r<K.ho.length:=by
  rcases hl with hl|⟨d,hd⟩
  ·omega
  ·rw[←hO.ul.1];exact h.ok.mid.fit hd
 intro g
 refine uA (R:=aE _) ?_
 unfold L121
 refine ae.aJ (Br.no (Nil.ptr (aa.mk ?_)))
 refine ag.rd .here (mq h.rep (by omega)) ?_
 rintro w rfl
 rw[cR.2 hl]
 refine Un.not (Br.no ?_)
 intro J7 _
 refine ae.lQ (b:=1) (Br.gI (by omega) ?_)
 refine Nil.ptr (aa.mk (aa.mk (Ld.mk (v:=b.vh) (by rw[hC];exact .head _) rfl ?_)))
 refine hO.ho.ld (x:=((K.hold r:Nat):Int)) (bE hfit) (by rw[hC];exact cz.sub (.cons (.app (.app (.app .left))))) ?_
 rw[hf]
 exact ae.kJ (Br.gI rfl (bL.mk (.refl _) rfl))
theorem za(h:cY kp K ord av tr C)(P8:ji K S iB zero')(PW:Idle K){r:Nat}(hl:live K.N r)(hf:2≤r→K.hold r<65535):Fc Tryz.prog 121 #[ptr kp,u32 r] C (fun v C'=>v=.int .i64 0∧∃K',cY kp K' ord av [] C'∧
  ji K' S iB zero'∧Idle K'∧Ul K K' r∧(∀s,K.use s≤K'.use s)∧(2≤r→0<K'.use r)):=by
 have hr:=h.lt hl
 have h0:=h
 obtain⟨b,hC,hO⟩:=h
 intro g
 refine uA (R:=aE _) ?_
 unfold L121
 refine ae.aJ (Br.no (Nil.ptr (aa.mk ?_)))
 refine ag.rd .here (mq h0 (by omega)) ?_
 rintro w rfl
 rw[cR.2 hl]
 refine Un.not (Br.no ?_)
 intro J7 hJ7
 have fin:∀(K':Kd) C1,cY kp K' ord av tr C1→ji K' S iB zero'→Idle K'→Ul K K' r→(∀s,K.use s≤K'.use s)→(2≤r→0<K'.use r)→J7 [] C1:=fun K' C1 zv tt xw hm hu hp=>by
  refine hJ7 _ fun gs=>?_
  obtain⟨b',rfl,xB⟩:=zv
  refine Nil.ptr (aa.mk (St.one (by exact .head _) rfl (by simp[uP.cells]) rfl ?_))
  refine aE.mk (lJ:=({b' with vt:=.slice none 0 0,CR:=[]}:uP).hp kp K'.n) ?_ ⟨rfl,K',⟨{b' with vt:=.slice none 0 0,CR:=[]},rfl,{xB with tr:=aQ.nil}⟩,tt,xw,hm,hu,hp⟩
  refine .cons (.cJ (.cJ (.cJ (.cJ (.cJ (.cJ .nil _) _) _) _) _) _)
 refine ae.lQ (b:=1) (Br.dec (fun h2=>?_) (fun h2=>?_))
 rotate_left
 ·refine JE.mk (fin K C h0 P8 PW ⟨rfl,rfl,rfl,rfl,fun s=>?_⟩ (fun _=>Nat.le_refl _) (fun h=>by omega))
  rw[if_neg (by omega)]
 have oP:2≤r:=by omega
 have Oc:=hf oP
 obtain⟨d,hd⟩:∃d,K.N r=some d:=by
  rcases hl with hl|hl
  ·omega
  ·exact hl
 have YX:=P8.fit hd
 have xk:=hO.ul
 have hfit:r<K.ho.length:=by omega
 subst hC
 refine Nil.ptr (aa.mk (aa.mk (Ld.mk (v:=b.vh) (by exact .head _) rfl ?_)))
 refine hO.ho.ld (x:=((K.hold r:Nat):Int)) (bE hfit) (cz.sub (.cons (.app (.app (.app .left))))) ?_
 refine ae.kJ (Br.cq (by omega) ?_)
 refine Nil.ptr (aa.mk (aa.mk (Ld.mk (v:=b.vh) (by exact .head _) rfl ?_)))
 refine hO.ho.ld (x:=((K.hold r:Nat):Int)) (bE hfit) (cz.sub (.cons (.app (.app (.app .left))))) ?_
 refine ae.aH (b:=1) (by simp[az];omega) ?_
 refine hO.ho.ju (x:=((K.hold r+1:Nat):Int)) (.cons (.app (.app (.app .left)))) (by rw[an];exact hfit) fun Jv pZ=>?_
 rw[fS]at pZ
 have g1:∀s,(K.ho.set r (K.hold r+1)).getD s 0=if s=r then K.hold r+1 else K.hold s:=fun s=>g8 hfit
 refine Nil.ptr (aa.mk (aa.mk (Ld.mk (v:=b.vh) (by exact .head _) rfl ?_)))
 refine pZ.ld (x:=((K.hold r+1:Nat):Int)) (by rw[bE (by simpa using hfit),g1,if_pos rfl]) (cz.sub (.cons (.app (.app (.app .left))))) ?_
 refine ae.gp (b:=1) (Br.dec (fun h3=>?_) (fun h3=>?_))
 ·refine Nil.ptr (aa.mk (aa.mk (Ld.mk (v:=b.vu) (by exact .head _) rfl ?_)))
  refine hO.us.ld (x:=((K.use r:Nat):Int)) (bE YX) (cz.sub (.cons (.app (.app .left)))) ?_
  have hub:=sB P8 PW (M:=0) (fun _=>Nat.le_refl _) r
  refine ae.aH (b:=1) (by simp[az];omega) ?_
  refine hO.us.ju (x:=((K.use r+1:Nat):Int)) (.cons (.app (.app .left))) (by rw[an];exact YX) fun Ov xl=>?_
  rw[fS]at xl
  have g2:∀s,(K.us.set r (K.use r+1)).getD s 0=if s=r then K.use r+1 else K.use s:=fun s=>g8 YX
  have hM:=P8.keep (r:=r) (dk:=K.us.set r (K.use r+1)) (bT:=K.ho.set r (K.hold r+1)) ⟨d,hd⟩ Oc (by simp) (by rw[g1,if_pos rfl]) (fun s hs=>by rw[g1,if_neg hs]) (by rw[g2,if_pos rfl,if_pos (by omega)]) (fun s hs=>by rw[g2,if_neg hs])
  refine JE.mk (fin {K with us:=K.us.set r (K.use r+1),ho:=K.ho.set r (K.hold r+1)} _ ⟨{b with CU:=Ov,CH:=Jv},rfl,{hO with us:=xl,ho:=pZ,ul:=by simp;exact xk}⟩ hM (fun s hs=>?_) ⟨rfl,rfl,rfl,rfl,fun s=>?_⟩ (fun s=>?_) (fun _=>?_))
  ·show(K.us.set r (K.use r+1)).getD s 0=0
   have hs':K.N s=none:=hs
   rw[g2,if_neg (fun e=>by rw[e,hd]at hs';cases hs')];exact PW s hs'
  ·show(K.ho.set r (K.hold r+1)).getD s 0=_
   rw[g1]
   by_cases e:s=r
   ·subst e;rw[if_pos rfl,if_pos ⟨rfl,oP⟩]
   ·rw[if_neg e,if_neg (fun h=>e h.1)]
  ·show K.use s≤(K.us.set r (K.use r+1)).getD s 0
   rw[g2];split
   ·rename_i e;subst e;omega
   ·exact Nat.le_refl _
  ·show 0<(K.us.set r (K.use r+1)).getD r 0
   rw[g2,if_pos rfl];omega
 ·have hM:=P8.keep (r:=r) (dk:=K.us) (bT:=K.ho.set r (K.hold r+1)) ⟨d,hd⟩ Oc (by simp) (by rw[g1,if_pos rfl]) (fun s hs=>by rw[g1,if_neg hs]) (by show K.use r=_;rw[if_neg (by omega)];rfl) (fun s hs=>rfl)
  refine JE.mk (fin {K with ho:=K.ho.set r (K.hold r+1)} _ ⟨{b with CH:=Jv},rfl,{hO with ho:=pZ,ul:=by simp;exact xk}⟩ hM PW ⟨rfl,rfl,rfl,rfl,fun s=>?_⟩ (fun _=>Nat.le_refl _) (fun _=>?_))
  rotate_left
  ·show 0<K.use r
   rw[P8.use hd,if_neg (by omega)];omega
  show(K.ho.set r (K.hold r+1)).getD s 0=_
  rw[g1]
  by_cases e:s=r
  ·subst e;rw[if_pos rfl,if_pos ⟨rfl,oP⟩]
  ·rw[if_neg e,if_neg (fun h=>e h.1)]
theorem FK(h:lH kp K S ord av tr C){r:Nat}(hl:live K.N r)(hf:2≤r→K.hold r<65535):Fc Tryz.prog 121 #[ptr kp,u32 r] C (fun v C'=>v=.int .i64 0∧∃K',lH kp K' S ord av [] C'∧Ul K K' r):=by
 refine(za h.rep h.ok.mid h.idle hl hf).mono ?_
 rintro v C' ⟨rfl,K',zv,Y8,xw,hm,hu,hp⟩
 refine⟨rfl,K',⟨zv,⟨Y8,fun s d hs=>?_,by rw[hm.n];exact h.ok.lv,by rw[hm.n,hm.N];exact h.ok.wf⟩,by rw[hm.n];exact h.od,xw,trivial⟩,hm⟩
 rw[hm.N]at hs
 exact Nat.lt_of_lt_of_le (h.ok.pos s d hs) (hu s)
end
section
variable {kp:Nat} {K:Kd} {ord av tr:List Nat} {C:Hp} {S:Nat→bc.Fn}
theorem Po{K':Kd}{P:Nat→Nat}(hw:WF K.n (lv av) K.N)(hM:ji K' S iB P)(hN:∀{s d},K'.N s=some d→K.N s=some d)(hn:K'.n=K.n):WF K'.n (lv av) K'.N:=by
 have same:∀{t},live K'.N t→dep K'.n (lv av) K'.N t=dep K.n (lv av) K.N t:=fun{t} ht=>by
  cases e:K'.N t with
  |some f=>rw[aM e,aM (hN e)]
  |none=>
   have Rh:t<2:=by
    rcases ht with ht|⟨f,hf⟩
    ·exact ht
    ·rw[e]at hf;cases hf
   rw[cO e,cO (hw.const Rh),hn]
 refine hM.wf fun{s d} hs=>?_
 rw[same (hM.lo hs),same (hM.hi hs)]
 exact⟨(hw.lo (hN hs)).2,(hw.hi (hN hs)).2⟩
structure R2(K K':Kd)(r:Nat):Prop where
 n:K'.n=K.n
 cap:K'.cap=K.cap
 N:∀s d,K'.N s=some d→K.N s=some d
 hold:∀s,K'.hold s=if s=r∧2≤r then K.hold s-1 else K.hold s
theorem Xz(h:lH kp K S ord av tr C){r:Nat}(hr:r<4294967296)(h2:2≤r)(h0:K.hold r=0):Rd Tryz.prog 131 #[ptr kp,u32 r] C (· =.int .i64 3):=by
 intro g
 refine ux (R:=aE _) ?_
 unfold L131
 refine ae.aJ (Br.no ?_)
 intro J2 _
 refine ae.lQ (b:=1) (Br.gI (by omega) ?_)
 refine ag.rd .here (tf h.rep hr (fun s=>by have:=h.jG s;omega)) ?_
 rintro w rfl
 rw[h0]
 exact ae.kJ (Br.gI rfl (bL.mk (.refl _) rfl))
theorem FZ(h:lH kp K S ord av tr C){r:Nat}(hr:r<4294967296)(hh:2≤r→K.hold r≠0):Fc Tryz.prog 131 #[ptr kp,u32 r] C (fun v C'=>v=.int .i64 0∧∃K',lH kp K' S ord av [] C'∧R2 K K' r):=by
 have h0:=h
 obtain⟨b,hC,hO⟩:=h.rep
 intro g
 refine ux (R:=aE _) ?_
 unfold L131
 refine ae.aJ (Br.no ?_)
 intro J2 Au
 have fin:∀(K':Kd) C1,cY kp K' ord av tr C1→Ok K' S (lv av)→Idle K'→R2 K K' r→J2 [] C1:=fun K' C1 zv tt xw hm=>by
  refine Au _ fun gs=>?_
  obtain⟨b',rfl,xB⟩:=zv
  refine Nil.ptr (aa.mk (St.one (by exact .head _) rfl (by simp[uP.cells]) rfl ?_))
  have hod:Ord K'.n (lv av) ord:=by rw[hm.n];exact h.od
  refine aE.mk (lJ:=({b' with vt:=.slice none 0 0,CR:=[]}:uP).hp kp K'.n) ?_ ⟨rfl,K',⟨⟨{b' with vt:=.slice none 0 0,CR:=[]},rfl,{xB with tr:=aQ.nil}⟩,tt,hod,xw,trivial⟩,hm⟩
  refine .cons (.cJ (.cJ (.cJ (.cJ (.cJ (.cJ .nil _) _) _) _) _) _)
 refine ae.lQ (b:=1) (Br.dec (fun h2=>?_) (fun h2=>?_))
 rotate_left
 ·exact JE.mk (fin K C h.rep h.ok h.idle ⟨rfl,rfl,fun _ _ h=>h,fun s=>by rw[if_neg (by omega)]⟩)
 have oP:2≤r:=by omega
 have pZ:=hh oP
 obtain⟨d,hd⟩:=h.ok.mid.held r pZ
 have YX:=h.ok.mid.fit hd
 have xk:=hO.ul
 have hfit:r<K.ho.length:=by omega
 have hle:=h.jG r
 refine ag.rd .here (tf h.rep hr (fun s=>by have:=h.jG s;omega)) ?_
 rintro w rfl
 refine ae.kJ (Br.cq (by omega) ?_)
 subst hC
 refine Nil.ptr (aa.mk (aa.mk (Ld.mk (v:=b.vh) (by exact .head _) rfl ?_)))
 refine hO.ho.ld (x:=((K.hold r:Nat):Int)) (bE hfit) (cz.sub (.cons (.app (.app (.app .left))))) ?_
 refine ae.bC (b:=1) (by simp[az];omega) (by omega) ?_
 refine hO.ho.ju (x:=((K.hold r-1:Nat):Int)) (.cons (.app (.app (.app .left)))) (by rw[an];exact hfit) fun Jv hhh=>?_
 rw[fS]at hhh
 have g1:∀s,(K.ho.set r (K.hold r-1)).getD s 0=if s=r then K.hold r-1 else K.hold s:=fun s=>g8 hfit
 have hM:=h.ok.mid.drop (r:=r) (bT:=K.ho.set r (K.hold r-1)) (by omega) (by simp) (by rw[g1,if_pos rfl];omega) (fun s hs=>by rw[g1,if_neg hs])
 have uN:cY kp {K with ho:=K.ho.set r (K.hold r-1)} ord av tr (({b with CH:=Jv}:uP).hp kp K.n):=⟨_,rfl,{hO with ho:=hhh,ul:=by simp;exact xk}⟩
 have hho:∀s,(K.ho.set r (K.hold r-1)).getD s 0=if s=r∧2≤r then K.hold s-1 else K.hold s:=fun s=>by
  rw[g1]
  by_cases e:s=r
  ·subst e;rw[if_pos rfl,if_pos ⟨rfl,oP⟩]
  ·rw[if_neg e,if_neg (fun h=>e h.1)]
 refine Nil.ptr (aa.mk (aa.mk (Ld.mk (v:=b.vh) (by exact .head _) rfl ?_)))
 refine hhh.ld (x:=((K.hold r-1:Nat):Int)) (by rw[bE (by simpa using hfit),g1,if_pos rfl]) (cz.sub (.cons (.app (.app (.app .left))))) ?_
 refine ae.gp (b:=0) (Br.dec (fun h3=>?_) (fun h3=>?_))
 rotate_left
 ·rw[if_neg (by omega)]at hM
  exact JE.mk (fin {K with ho:=K.ho.set r (K.hold r-1)} _ uN ⟨hM,h.ok.pos,h.ok.lv,h.ok.wf⟩ h.idle ⟨rfl,rfl,fun _ _ h=>h,hho⟩)
 rw[if_pos (by omega)]at hM
 refine Nil.ptr (aa.mk ?_)
 have JG:ji {K with ho:=K.ho.set r (K.hold r-1)} S iB (gT zero' [r]):=hM.congr (fun _=>Iff.rfl) fun s _=>by
  unfold up gT zero'
  by_cases e:s=r
  ·subst e;simp
  ·simp[e,Ne.symm e]
 refine ag.fn .here (oc (P0:=zero') uN JG h.ok.pos (fun t Of h0=>?_) (h.fJ (.inr ⟨d,hd⟩)) (fun s=>by have:=h.Kq s;show K.use s<_;omega)) ?_
 ·by_cases e:t=r
  ·subst e;exact⟨d,hd⟩
  ·have Zd:0<zero' t+[r].count t:=h0
   simp[zero',Ne.symm e]at Zd
 rintro w C2 ⟨rfl,K2,tC,Y7,Ro,_,gK⟩
 refine JE.mk (fin K2 _ tC ⟨Y7,Ro,by rw[gK.n];exact h.ok.lv,Po h.ok.wf Y7 (fun h=>gK.N h) gK.n⟩ (gK.idle h.idle) ⟨gK.n,gK.cap,fun s e hs=>gK.N hs,fun s=>?_⟩)
 show K2.ho.getD s 0=_
 rw[gK.ho]
 exact hho s
structure Gq(K:Kd)(S:Nat→bc.Fn)(K':Kd)(S':Nat→bc.Fn)(f:bc.Fn)(r:Nat):Prop where
 n:K'.n=K.n
 cap:K'.cap=K.cap
 used:K'.used≤K.used+1
 N:∀s d,K.N s=some d→K'.N s=some d
 fn:∀s,live K.N s→S' s=S s
 live:live K'.N r
 is:S' r=f
 hold:∀s,K'.hold s=if s=r∧2≤r then K.hold s+1 else K.hold s
theorem Pg(h:lH kp K S ord av tr C){v lo hi:Nat}(hv:v<K.n)(hlo:live K.N lo)(hhi:live K.N hi)(hlt:lo=hi∨(lv av v<dep K.n (lv av) K.N lo∧lv av v<dep K.n (lv av) K.N hi)):
  Fc Tryz.prog 164 #[ptr kp,.int .i64 (v:Int),u32 lo,u32 hi] C (fun w C'=>
   (∃r K' S',w=.tuple #[u32 r,.int .i64 0]∧lH kp K' S' ord av [] C'∧Gq K S K' S' (ite S ⟨v,lo,hi⟩) r)∨
   (∃r,w=.tuple #[u32 0,.int .i64 8]∧C'=C∧live K.N r∧2≤r∧K.hold r=65535∧S r=ite S ⟨v,lo,hi⟩)∨
   (w=.tuple #[u32 0,.int .i64 9]∧C'=C∧K.cap≤K.used∧lo≠hi∧K.T ⟨v,lo,hi⟩=none)):=by
 have h0:=h
 have agV:=h.fJ hlo
 have ag5:=h.fJ hhi
 have BC:=cR.2 hlo
 have q6:=cR.2 hhi
 have hfe:rp K av (v:Int) lo hi=0:=by
  unfold rp
  rw[if_neg (by omega),if_neg (by rw[BC,q6];simp),if_neg]
  rintro⟨hne,hmin⟩
  rcases hlt with e|⟨a,b⟩
  ·exact hne e
  ·simp only[Int.toNat_natCast,lv]at hmin a b;omega
 intro g
 refine Eb (R:=aE _) ?_
 unfold L164
 refine ae.aJ (Br.no ?_)
 refine ag.rd .here (Qo h.rep (v:Int) (by omega) (by omega) (fun r d hd=>⟨h.ok.mid.var hd,(h.ok.mid.two hd).1⟩)) ?_
 rintro w rfl
 rw[hfe]
 refine ae.gj (Br.cq (by simp) ?_)
 refine ag.rd .here (O0 h.rep (lo:=lo) (hi:=hi) hv) ?_
 rintro w hw
 have there:∀(J9:List Value→Hp→Prop),(∀eP:Value,∀dX:Hp,(∀qw:Fr,ag Tryz.prog g 121 #[ptr kp,eP] dX (fun bj fk=>ae .num .neq bj (Value.int .i64 0) fun bB=>Br bB
   (aE (fun w C'=>(∃r K' S',w=.tuple #[u32 r,.int .i64 0]∧lH kp K' S' ord av [] C'∧Gq K S K' S' (ite S ⟨v,lo,hi⟩) r)∨
   (∃r,w=.tuple #[u32 0,.int .i64 8]∧C'=C∧live K.N r∧2≤r∧K.hold r=65535∧S r=ite S ⟨v,lo,hi⟩)∨
   (w=.tuple #[u32 0,.int .i64 9]∧C'=C∧K.cap≤K.used∧lo≠hi∧K.T ⟨v,lo,hi⟩=none)) (.returned (.tuple #[(Value.int .u32 0),bj])) fk) (aE (fun w C'=>(∃r K' S',w=.tuple #[u32 r,.int .i64 0]∧lH kp K' S' ord av [] C'∧Gq K S K' S' (ite S ⟨v,lo,hi⟩) r)∨
   (∃r,w=.tuple #[u32 0,.int .i64 8]∧C'=C∧live K.N r∧2≤r∧K.hold r=65535∧S r=ite S ⟨v,lo,hi⟩)∨
   (w=.tuple #[u32 0,.int .i64 9]∧C'=C∧K.cap≤K.used∧lo≠hi∧K.T ⟨v,lo,hi⟩=none)) (.returned (.tuple #[eP,(Value.int .i64 0)])) fk)) (au (aE (fun w C'=>(∃r K' S',w=.tuple #[u32 r,.int .i64 0]∧lH kp K' S' ord av [] C'∧Gq K S K' S' (ite S ⟨v,lo,hi⟩) r)∨
   (∃r,w=.tuple #[u32 0,.int .i64 8]∧C'=C∧live K.N r∧2≤r∧K.hold r=65535∧S r=ite S ⟨v,lo,hi⟩)∨
   (w=.tuple #[u32 0,.int .i64 9]∧C'=C∧K.cap≤K.used∧lo≠hi∧K.T ⟨v,lo,hi⟩=none)))))→J9 [eP] dX)→
   ∀r,live K.N r→S r=ite S ⟨v,lo,hi⟩→J9 [u32 r] C:=fun J9 Mz r hr hS=>by
  refine Mz _ _ fun gs=>?_
  by_cases hf:2≤r∧K.hold r=65535
  ·refine ag.rd .here (HE h hr hf.1 hf.2) ?_
   rintro w rfl
   exact ae.gj (Br.gI (by simp) (aE.here (.inr (.inl ⟨r,rfl,rfl,hr,hf.1,hf.2,hS⟩))))
  ·refine ag.fn .here (FK h hr (fun h2=>by have:=h.jG r;omega)) ?_
   rintro w C' ⟨rfl,K',zv,hm⟩
   refine ae.gj (Br.cq (by simp) (aE.here (.inl ⟨r,K',S,rfl,zv,⟨hm.n,hm.cap,by rw[hm.used];omega,fun s d hs=>by rw[hm.N];exact hs,fun _ _=>rfl,by rw[hm.N];exact hr,hS,hm.hold⟩⟩)))
 by_cases he:lo=hi
 ·rw[if_pos he]at hw
  subst hw
  refine Ext.mk rfl (Ext.mk rfl ?_)
  intro J9 Mz
  refine Un.not (Br.no (JE.mk (there J9 Mz lo hlo ?_)))
  funext z
  unfold bc.ite
  simp[he]
 rw[if_neg he]at hw
 have pD:lv av v<dep K.n (lv av) K.N lo∧lv av v<dep K.n (lv av) K.N hi:=by
  rcases hlt with e|e
  ·exact absurd e he
  ·exact e
 obtain⟨o,ho⟩:∃o,o=K.T ⟨v,lo,hi⟩:=⟨_,rfl⟩
 cases o with
 |some r=>
  have hT:K.T ⟨v,lo,hi⟩=some r:=ho.symm
  rw[hT]at hw
  subst hw
  refine Ext.mk rfl (Ext.mk rfl ?_)
  intro J9 Mz
  have hN:=((h.ok.mid.jB _ r).1 hT).1
  refine Un.not (Br.no (JE.mk (there J9 Mz r (.inr ⟨_,hN⟩) ?_)))
  funext z
  rw[h.ok.mid.int.node hN]
  rfl
 |none=>
  have hT:K.T ⟨v,lo,hi⟩=none:=ho.symm
  rw[hT]at hw
  subst hw
  refine Ext.mk rfl (Ext.mk rfl ?_)
  intro J9 Mz
  refine Un.not (Br.yes (Nil.ptr (aa.mk ?_)))
  have hcap:=h.ok.mid.cap
  refine ag.rd .here (y7 h.rep (m:=1) (by omega) (by omega)) ?_
  rintro w rfl
  refine Un.not ?_
  by_cases hroom:K.used+1≤K.cap
  rotate_left
  ·rw[decide_eq_false hroom]
   exact Br.yes (aE.here (.inr (.inr ⟨rfl,rfl,by omega,he,hT⟩)))
  rw[decide_eq_true hroom]
  refine Br.no (Nil.ptr (aa.mk ?_))
  refine Build.mk (cs:=aT ⟨v,lo,hi⟩) (by kernel_rfl) ?_
  have hfit:∀{t:Nat},live K.N t→t<2∨t<K.us.length:=fun ht'=>by
   rcases ht' with ht'|⟨d,ei⟩
   ·exact .inl ht'
   ·exact .inr (h.ok.mid.fit ei)
  have Wq:K.n≤64:=by obtain⟨_,_,hO⟩:=h.rep;exact hO.uH
  refine ag.fn .here (Fm h.rep (d:=⟨v,lo,hi⟩) ⟨by show v<64;omega,hlo,hhi⟩ hv hT (by omega) (hfit hlo) (hfit hhi) (fun s=>by have:=h.Kq s;omega)) ?_
  rintro w C1 ⟨r,dk,bT,rfl,hN,h2,hrc,hlen,hru,xk,u0,u1,u2,o0,o1,uN⟩
  have HT:=h.ok.mid.lay (r:=r) (d:=⟨v,lo,hi⟩) hN ⟨h2,hrc⟩ hv he hlo hhi hT (fun h=>h) rfl (by omega) hlen ⟨hru,xk⟩ u0 u1 o0 o1
  have abW:∀s d,K.N s=some d→up K.N r (some ⟨v,lo,hi⟩) s=some d:=fun s d hs=>by rw[aP (fun e=>by rw[e,hN]at hs;cases hs)];exact hs
  have hne:∀{t:Nat},live K.N t→t≠r:=fun ht=>fI ht h2 hN
  have L9:Idle {K with N:=up K.N r (some ⟨v,lo,hi⟩),T:=oM K.T ⟨v,lo,hi⟩ (some r),used:=K.used+1,us:=dk,ho:=bT}:=fun s hs=>by
   have hs':up K.N r (some ⟨v,lo,hi⟩) s=none:=hs
   have LN:s≠r:=fun e=>by subst e;rw[aN]at hs';cases hs'
   rw[aP LN]at hs'
   show dk.getD s 0=0
   by_cases U8:2≤s
   ·rw[u1 s U8 LN,h.idle s hs',ef]
    have a1:lo≠s:=fun e=>by
     rcases hlo with h5|⟨d,h5⟩
     ·omega
     ·rw[e,hs']at h5;cases h5
    have a2:hi≠s:=fun e=>by
     rcases hhi with h5|⟨d,h5⟩
     ·omega
     ·rw[e,hs']at h5;cases h5
    simp[a1,a2]
   ·rw[u2 s (by omega),h.idle s hs']
  refine JE.mk (Mz _ _ fun gs=>?_)
  refine ag.fn .here (za uN HT L9 (r:=r) (.inr ⟨_,aN⟩) (fun _=>by show bT.getD r 0<65535;rw[o0];omega)) ?_
  rintro w C2 ⟨rfl,K2,tC,JG,BF,hm,hu,hp⟩
  refine ae.gj (Br.cq (by simp) ?_)
  have PO:K2.n=K.n:=hm.n
  have Xe:K2.N=up K.N r (some ⟨v,lo,hi⟩):=hm.N
  have hpos:Pos K2:=fun s d hs=>by
   by_cases e:s=r
   ·rw[e];exact hp h2
   ·rw[Xe,aP e]at hs
    have h3:=hu s
    have h4:({K with N:=up K.N r (some ⟨v,lo,hi⟩),T:=oM K.T ⟨v,lo,hi⟩ (some r),used:=K.used+1,us:=dk,ho:=bT}:Kd).use s=dk.getD s 0:=rfl
    rw[h4,u1 s (h.ok.mid.two hs).1 e]at h3
    have:=h.ok.pos s d hs
    omega
  have BN:∀{t:Nat},live K.N t→dep K2.n (lv av) K2.N t=dep K.n (lv av) K.N t:=fun{t} ht=>by
   rw[Xe,PO]
   unfold dep
   rw[aP (hne ht)]
  have aaI:WF K2.n (lv av) K2.N:=JG.wf fun{s d} hs=>by
   rw[Xe]at hs
   by_cases e:s=r
   ·rw[e,aN]at hs;cases hs
    rw[BN hlo,BN hhi];exact pD
   ·rw[aP e]at hs
    rw[BN (h.ok.wf.lo hs).1,BN (h.ok.wf.hi hs).1]
    exact⟨(h.ok.wf.lo hs).2,(h.ok.wf.hi hs).2⟩
  have hS:∀s,live K.N s→up S r (ite S ⟨v,lo,hi⟩) s=S s:=fun s hs=>aP (hne hs)
  refine aE.here (.inl ⟨r,K2,up S r (ite S ⟨v,lo,hi⟩),rfl,⟨tC,⟨JG,hpos,by rw[PO];exact h.ok.lv,aaI⟩,by rw[PO];exact h.od,BF,trivial⟩,⟨PO,hm.cap,by rw[hm.used];exact Nat.le_refl _,fun s d hs=>by rw[Xe];exact abW s d hs,hS,.inr ⟨_,by rw[Xe];exact aN⟩,aN,fun s=>?_⟩⟩)
  rw[hm.hold]
  show(if s=r∧2≤r then bT.getD s 0+1 else bT.getD s 0)=_
  by_cases e:s=r
  ·subst e
   rw[if_pos ⟨rfl,h2⟩,if_pos ⟨rfl,h2⟩,o0]
   have:K.hold s=0:=by
    apply Decidable.byContradiction
    intro hne
    obtain⟨d,hd⟩:=h.ok.mid.held s hne
    rw[hN]at hd;cases hd
   omega
  ·rw[if_neg (fun h=>e h.1),if_neg (fun h=>e h.1),o1 s e]
end
theorem hnew{H:Hp}:cz [] H (fun X=>X++H):=cz.left
theorem LH{n:Nat}(hn:n≤64):Fc Tryz.prog 185 #[.int .i64 (n:Int)] [] (fun v H=>aQ 3 .i64 v (iw (List.range n)) H):=by
 intro g
 refine DX (R:=aE _) ?_
 unfold L185
 refine bZ.ints (by omega) (by omega) fun b=>?_
 have h0:aQ 3 .i64 (.slice (some ⟨b,0,none⟩) n n) (List.replicate n 0) [(b,.cells (aF .i64 (List.replicate n 0)) 3 (0,0))]:=by
  have:=aQ.made (T:=3) (kd:=.i64) (b:=b) (List.replicate n (0:Int))
  rw[List.length_replicate]at this;exact this
 refine⟨fun vs H=>∃j:Nat,vs=[.int .i64 (j:Int)]∧j≤n∧aQ 3 .i64 (.slice (some ⟨b,0,none⟩) n n) (iw (List.range j)++List.replicate (n-j) 0) H,fun vs _=>n-bg vs 0,JE.mk ⟨0,rfl,by omega,by simpa[iw]using h0⟩,?_⟩
 rintro w H ⟨j,hw,hj,hs⟩ gs
 simp only[List.cons.injEq,and_true]at hw
 subst hw
 refine ae.dL (Br.dec (fun hlt=>?_) (fun hlt=>?_))
 ·refine hs.ju (x:=(j:Int)) .here (by simp;omega) fun C' hs'=>?_
  refine ae.aH (b:=1) (by simp[az];omega) ?_
  have e:(iw (List.range j)++List.replicate (n-j) 0).set j (j:Int)=iw (List.range (j+1))++List.replicate (n-(j+1)) 0:=by
   rw[List.set_append_right _ _ (by simp)]
   rw[show n-j=(n-(j+1))+1 by omega,List.replicate_succ,List.range_succ,bO]
   simp[iw]
  rw[e]at hs'
  exact ay.of (.refl _) ⟨j+1,rfl,by omega,hs'⟩ (by show n-(((j+1:Nat):Int).toNat)<n-(((j:Nat):Int).toNat);omega)
 ·obtain rfl:j=n:=by omega
  exact aE.here (by simpa using hs)
theorem zg{n:Nat}(hn:n≤64):Fc Tryz.prog 116 #[.int .i64 (n:Int)] [] (fun v H=>∃s,v=.tuple #[s,.int .i64 0]∧aQ 3 .i64 s (iw (List.range n)) H):=by
 intro g
 refine EK (R:=aE _) ?_
 unfold L116
 refine ae.lss ?_
 rw[decide_eq_false (by omega)]
 refine cv.or false (fun _=>ae.gtr ⟨rfl,by rw[decide_eq_false (by omega)]⟩) rfl fun _=>Br.no ?_
 refine ag.fn .here (LH hn) ?_
 intro s H hs
 exact aE.here ⟨s,rfl,hs⟩
def K0(n cap:Nat):Kd:=⟨n,cap,2,fun _=>none,fun _=>none,[],[]⟩
def S0:Nat→bc.Fn:=fun r _=>decide (r=1)
theorem mi{n v:Nat}(hv:v<n):lv (List.range n) v=v:=by
 show(List.range n).getD v 0=v
 simp[List.getD,hv]
theorem X7{n cap:Nat}(hc:2≤cap∧cap≤1048576):Ok (K0 n cap) S0 (lv (List.range n)):=by
 have c0:∀k,lR (fun _=>none) k=0:=fun k=>by induction k with|zero=>rfl|succ k ih=>rw[lR,ih];rfl
 have hm:ji (K0 n cap) S0 iB zero':={
  two:=fun h=>nomatch h
  var:=fun h=>nomatch h
  ne:=fun h=>nomatch h
  lo:=fun h=>nomatch h
  hi:=fun h=>nomatch h
  int:=⟨fun _=>rfl,fun _=>rfl,fun h=>nomatch h⟩
  jB:=fun d r=>⟨fun h=>(nomatch h),fun h=>nomatch h.1⟩
  use:=fun h=>nomatch h
  len:=rfl
  fit:=fun h=>nomatch h
  held:=fun r h=>absurd (by simp[Kd.hold,K0]) h
  mx:=fun r=>by simp[Kd.hold,K0]
  room:=by show 2=2+lR (fun _=>none) _;rw[c0]
  cap:=hc}
 refine⟨hm,fun r d h=>(nomatch h),⟨fun v hv=>?_,fun u v hu hv h=>?_⟩,⟨fun h=>(nomatch h),fun h=>(nomatch h),fun h=>(nomatch h),fun h=>(nomatch h),fun h=>(nomatch h),fun h=>(nomatch h)⟩⟩
 ·have xj:v<n:=hv
  rw[mi xj];exact hv
 ·have xl:u<n:=hu
  have xj:v<n:=hv
  rwa [mi xl,mi xj]at h
theorem yT{pt n cap:Nat}{CT:Hp}(hu:mS pt n (fun _=>none) CT)(hc:2≤cap∧cap≤1048576):Fc Tryz.prog 118 #[.int .i64 (cap:Int),ptr pt] CT (fun v H=>∃pa CA,v=.tuple #[.agg #[ptr pa,ptr pt,.slice none 0 0,.slice none 0 0],.int .i64 0]∧ic pa cap 2 (fun _=>none) CA∧H=CA++CT):=by
 intro g
 refine EI (R:=aE _) ?_
 unfold L118
 intro b1 _
 refine ag.fn hnew (QC hc) ?_
 rintro v C ⟨pa,rfl,hA⟩
 refine Ext.mk rfl (Ext.mk rfl ?_)
 refine Build.mk (cs:=[ptr pa,ptr pt,.slice none 0 0,.slice none 0 0]) (by kernel_rfl) ?_
 refine St.whole (r:=[ptr pa,ptr pt,.slice none 0 0,.slice none 0 0]) (cK.bP (.head _) _) rfl rfl (by simp[Value.oneCell']) ?_
 refine aA.whole (r:=[ptr pa,ptr pt,.slice none 0 0,.slice none 0 0]) (by exact List.mem_append_right _ (.head _)) rfl ?_
 exact aE.mk (.cJ .tail _) ⟨pa,C,rfl,hA,rfl⟩
theorem S8{n cap:Nat}(hn:1≤n∧n≤64)(hc:2≤cap∧cap≤1048576):Fc Tryz.prog 51 #[.int .i64 (n:Int),.int .i64 (cap:Int)] [] (fun v C=>∃kp,v=.tuple #[ptr kp,.int .i64 0]∧lH kp (K0 n cap) S0 (List.range n) (List.range n) [] C):=by
 intro g
 refine IZ (R:=aE _) ?_
 unfold L51
 refine ag.fn .here (zg hn.2) ?_
 rintro v CO ⟨s,rfl,hO⟩
 obtain⟨sa,sl,sc,hse⟩:∃a l c,s=Value.slice a l c:=by obtain⟨a,c,h⟩:=aR.len hO;exact⟨a,_,c,h⟩
 refine Ext.mk rfl (Ext.mk rfl ?_)
 refine ae.gj ?_
 refine cv.or false (fun _=>ae.lss ⟨rfl,by rw[decide_eq_false (by omega)]⟩) rfl fun gs=>?_
 refine cv.or false (fun _=>ae.lss ⟨rfl,by rw[decide_eq_false (by omega)]⟩) rfl fun gs=>?_
 refine cv.or false (fun _=>ae.gtr ⟨rfl,by rw[decide_eq_false (by omega)]⟩) rfl fun gs=>Br.no ?_
 refine ag.fn hnew (OM hn) ?_
 rintro v CT ⟨pt,rfl,hT⟩
 refine Ext.mk rfl (Ext.mk rfl ?_)
 refine ae.gj (Br.no ?_)
 refine ag.fn .left (yT hT hc) ?_
 rintro v H ⟨pa,CA,rfl,hA,rfl⟩
 refine Ext.mk rfl (Ext.mk rfl ?_)
 intro b24 _
 refine St.whole (r:=[ptr pa,ptr pt,.slice none 0 0,.slice none 0 0]) (by exact .head _) rfl rfl (by simp[Value.oneCell']) ?_
 refine ae.gj (Br.no (DR.self ?_))
 refine aA.whole (r:=[ptr pa,ptr pt,.slice none 0 0,.slice none 0 0]) (by exact .head _) rfl ?_
 refine ag.fn (.cons (.app .here)) (tS (hO.ints.mono fun _ h=>h) (by simp;omega)) ?_
 rintro v H ⟨CL,rfl,hL⟩
 obtain⟨la,ll,lc,hle⟩:∃a l c,v=Value.slice a l c:=by obtain⟨a,c,h⟩:=aR.len hL;exact⟨a,_,c,h⟩
 refine⟨(.cons (.cJ .right _)),?_⟩
 subst hse hle
 refine Build.mk (cs:=[ptr pa,ptr pt,.slice none 0 0,.slice none 0 0,.int .i64 (n:Int),.slice sa sl sc,.slice la ll lc,.slice none 0 0]) (by kernel_rfl) ?_
 intro JK _
 refine⟨(.skip (.cons (.cJ .right _))),?_⟩
 let kb:uP:=⟨pa,pt,.slice none 0 0,.slice none 0 0,.slice sa sl sc,.slice la ll lc,.slice none 0 0,CA,CT,[],[],CO,CL,[]⟩
 refine aE.mk (lJ:=kb.hp JK n) ?_ ⟨JK,rfl,⟨kb,rfl,⟨hA,hT,aQ.nil,aQ.nil,hO,hL,aQ.nil,⟨rfl,by simp[K0]⟩,hn.2,by simp[K0]⟩⟩,X7 hc,⟨by simp[K0],fun l hl=>?_⟩,fun s _=>by simp[Kd.use,K0],trivial⟩
 ·refine .cons (.skip ((aO.assoc).trans ?_))
  show aO (CA++(CT++(CL++CO))) (CA++(CT++([]++([]++(CO++(CL++[]))))))
  simp only[List.nil_append,List.append_nil]
  exact .cJ (.cJ (.perm List.perm_append_comm) _) _
 ·have hl':l<n:=hl
  have e:(List.range n).getD l 0=l:=mi hl'
  rw[e];exact⟨hl,mi hl'⟩
end Go.Proofs
namespace bc
def aC(ord path:List Nat):List Nat:=path.foldl ez ord
theorem dP{ord path:List Nat}{l:Nat}:aC ord (path++[l])=ez (aC ord path) l:=by simp[aC]
theorem iV{ord path q:List Nat}:aC ord (path++q)=aC (aC ord path) q:=by simp[aC]
theorem dQ{ord:List Nat}:∀{path:List Nat},(aC ord path).length=ord.length:=by
 intro path
 unfold aC
 induction path generalizing ord with
 |nil=>rfl
 |cons l r ih=>rw[List.foldl_cons,ih];simp[ez]
def lF:Nat→List Nat
 |2=>[0]
 |3=>[1,0,1,0,1]
 |4=>[2,1,0,2,0,1,2,0,2,1,0,2,0,1,2,0,2,1,0,2,0,1,2]
 |_=>[]
structure Rm where
 n:Nat
 size:List Nat→Nat
 fit:List Nat→Nat→Bool
def Rm.cH(m:Rm)(p:Nat):List Nat→List Nat→List Nat
 | [],_=>[]
 |c::cs,ord=>if m.fit ord (p+c)then(p+c)::m.cH p cs (ez ord (p+c))else []
def Rm.keep(m:Rm)(ord path:List Nat):Nat→Nat
 |0=>0
 |i+1=>if m.size (aC ord (path.take (i+1)))<m.size (aC ord (path.take (m.keep ord path i)))then i+1 else m.keep ord path i
def Rm.visit(m:Rm)(w p:Nat)(ord:List Nat):List Nat×Nat:=
 let path:=m.cH p (lF w) ord
 let k:=m.keep ord path path.length
 (path.take k,path.length+(path.length-k))
def Rm.all(m:Rm)(w:Nat)(ord:List Nat):Nat→List Nat×Nat
 |0=>([],0)
 |i+1=>let a:=m.all w ord i;let b:=m.visit w i (aC ord a.1);(a.1++b.1,a.2+b.2)
def Rm.pass(m:Rm)(w:Nat)(ord:List Nat):List Nat×Nat:=m.all w ord (m.n+1-w)
theorem Rm.pG(m:Rm)(p:Nat):∀cs ord,(m.cH p cs ord).length≤cs.length
 | [],_=>by simp[cH]
 |c::cs,ord=>by
  rw[cH]
  split
  ·have:=m.pG p cs (ez ord (p+c));simp only[List.length_cons];omega
  ·simp
theorem Rm.pH(m:Rm)(p:Nat):∀cs ord i,i<(m.cH p cs ord).length→(m.cH p cs ord)[i]? =(cs[i]?).map (p+ ·)∧∃c,cs[i]? =some c∧m.fit (aC ord ((m.cH p cs ord).take i)) (p+c)=true
 | [],_,i,h=>by simp[cH]at h
 |c::cs,ord,i,h=>by
  by_cases hf:m.fit ord (p+c)=true
  ·rw[cH,if_pos hf]at h⊢
   cases i with
   |zero=>exact⟨by simp,c,rfl,hf⟩
   |succ i=>
    obtain⟨h1,c',h2,h3⟩:=m.pH p cs (ez ord (p+c)) i (by simpa using h)
    exact⟨by simpa using h1,c',by simpa using h2,by simpa[aC]using h3⟩
  ·rw[cH,if_neg hf]at h;simp at h
theorem Rm.tF(m:Rm)(p:Nat):∀cs ord c,cs[(m.cH p cs ord).length]? =some c→m.fit (aC ord (m.cH p cs ord)) (p+c)=false
 | [],_,c,h=>by simp at h
 |c'::cs,ord,c,h=>by
  by_cases hf:m.fit ord (p+c')=true
  ·rw[cH,if_pos hf]at h⊢
   have:=m.tF p cs (ez ord (p+c')) c (by simpa using h)
   simpa[aC]using this
  ·rw[cH,if_neg hf]at h⊢
   simp only[List.length_nil,List.getElem?_cons_zero,Option.some.injEq]at h
   subst h
   simpa[aC]using hf
theorem Rm.tE(m:Rm)(p:Nat){cs ord:List Nat}{l:Nat}(h:l∈m.cH p cs ord):∃c∈cs,l=p+c:=by
 obtain⟨i,hi,e⟩:=List.getElem_of_mem h
 obtain⟨h1,c,h2,_⟩:=m.pH p cs ord i hi
 rw[List.getElem?_eq_getElem hi,e,h2]at h1
 exact⟨c,List.mem_of_getElem? h2,by simpa using h1⟩
theorem Rm.xg(m:Rm)(ord path:List Nat):∀i,m.keep ord path i≤i
 |0=>Nat.le_refl _
 |i+1=>by rw[keep];split;omega;have:=m.xg ord path i;omega
theorem xK{w c:Nat}(h:c∈lF w):c+2≤w:=by
 unfold lF at h
 split at h
 ·simp at h;omega
 ·simp at h;omega
 ·simp at h;omega
 ·simp at h
theorem Gb(w:Nat):(lF w).length≤23:=by
 unfold lF
 split<;>simp
theorem Rm.GF(m:Rm){w p:Nat}{ord:List Nat}{l:Nat}(h:l∈(m.visit w p ord).1):l+2≤p+w:=by
 obtain⟨c,hc,rfl⟩:=m.tE p (List.mem_of_mem_take h)
 have:=xK hc
 omega
theorem Rm.vp(m:Rm)(w p:Nat)(ord:List Nat):(m.visit w p ord).1.length≤23∧(m.visit w p ord).2≤46:=by
 have h1:=m.pG p (lF w) ord
 have h2:=Gb w
 have h3:=m.xg ord (m.cH p (lF w) ord) (m.cH p (lF w) ord).length
 constructor
 ·show(List.take _ _).length≤23
  rw[List.length_take];omega
 ·show _+(_-_)≤46
  omega
theorem Rm.Gk(m:Rm)(w:Nat)(ord:List Nat):∀i,(m.all w ord i).1.length≤23*i∧(m.all w ord i).2≤46*i
 |0=>⟨Nat.le_refl _,Nat.le_refl _⟩
 |i+1=>by
  have h1:=m.Gk w ord i
  have h2:=m.vp w i (aC ord (m.all w ord i).1)
  constructor
  ·show((m.all w ord i).1++(m.visit w i (aC ord (m.all w ord i).1)).1).length≤_
   rw[List.length_append];omega
  ·show(m.all w ord i).2+(m.visit w i (aC ord (m.all w ord i).1)).2≤_
   omega
theorem Rm.all_succ(m:Rm)(w:Nat)(ord:List Nat)(i:Nat):m.all w ord (i+1)=((m.all w ord i).1++(m.visit w i (aC ord (m.all w ord i).1)).1,(m.all w ord i).2+(m.visit w i (aC ord (m.all w ord i).1)).2):=rfl
end bc
set_option maxRecDepth 100000
namespace Go.Proofs
open Go Go.Sx
open bc
def At(kp:Nat)(K:Kd)(S:Nat→bc.Fn)(ord tr:List Nat)(C:Hp):Prop:=∃K' S' fu,lH kp K' S' ord fu tr C∧Kept K S K' S'
noncomputable def bW(K:Kd)(S:Nat→bc.Fn)(ord:List Nat):Nat:=sz K.n ord (K.held S)
def gR(K:Kd)(S:Nat→bc.Fn)(ord:List Nat)(l:Nat):Prop:=x5 K.n ord l (K.held S)+2≤K.cap
section
variable {kp:Nat} {K:Kd} {S:Nat→bc.Fn} {ord tr:List Nat} {C:Hp}
theorem lH.bu{av:List Nat}(h:lH kp K S ord av tr C):At kp K S ord tr C:=⟨K,S,av,h,.refl _ _⟩
theorem y6{av:List Nat}(h:lH kp K S ord av tr C):K.used=bW K S ord+2:=by
 have h1:=QZ (h.ok.size h.od)
 have h2:=h.ok.mid.room
 unfold bW
 omega
theorem y9{K':Kd}{S':Nat→bc.Fn}(h:Kept K S K' S')(ord:List Nat):bW K' S' ord=bW K S ord:=by
 unfold bW;rw[h.n];exact Kz h.held
theorem vO{K':Kd}{S':Nat→bc.Fn}(h:Kept K S K' S')(ord:List Nat)(l:Nat):gR K' S' ord l↔gR K S ord l:=by
 unfold gR;rw[h.n,h.cap,GL h.held]
theorem At.len(h:At kp K S ord tr C):ord.length=K.n:=by
 obtain⟨K',S',fu,h,hk⟩:=h
 rw[←hk.n];exact h.od.len
theorem tX(h:At kp K S ord tr C):bW K S ord≤1048574:=by
 obtain⟨K',S',fu,h,hk⟩:=h
 rw[←y9 hk];have:=y6 h;have:=h.ok.mid.cap;omega
theorem At.uH(h:At kp K S ord tr C):K.n≤64:=by
 obtain⟨K',S',fu,h,hk⟩:=h
 obtain⟨b,_,hO⟩:=h.rep
 rw[←hk.n];exact hO.uH
theorem dF(h:At kp K S ord tr C):Rd Tryz.prog 15 #[ptr kp] C (· =.int .i64 ((bW K S ord:Nat):Int)):=by
 obtain⟨K',S',fu,h,hk⟩:=h
 have hs:=y6 h
 have hc:=h.ok.mid.cap
 refine(Pt h.rep (by omega) (by omega)).mono ?_
 rintro v H ⟨rfl,rfl⟩
 exact⟨rfl,by rw[hs,y9 hk];rfl⟩
theorem mJ(h:At kp K S ord tr C):Rd Tryz.prog 34 #[ptr kp] C (· =.int .i64 ((tr.length:Nat):Int)):=by
 obtain⟨K',S',fu,h,hk⟩:=h
 exact HC h.rep
theorem lj(h:At kp K S ord tr C):Rd Tryz.prog 61 #[ptr kp] C (· =.int .i64 ((K.n:Nat):Int)):=by
 obtain⟨K',S',fu,h,hk⟩:=h
 rw[←hk.n];exact y5 h.rep
theorem z8(h:At kp K S ord tr C):Fc Tryz.prog 13 #[ptr kp] C (fun r H=>∃N,H=N++C∧aQ 3 .i64 r (iw ord) N):=by
 obtain⟨K',S',fu,h,hk⟩:=h
 exact HD h.rep
theorem sg(h:At kp K S ord tr C){l:Nat}(hl:l+1<K.n)(g7:tr.length<1099511627776)(hf:gR K S ord l):Fc Tryz.prog 17 #[ptr kp,.int .i64 (l:Int)] C (fun r C'=>r=.int .i64 0∧At kp K S (ez ord l) (tr++[l]) C'):=by
 obtain⟨K',S',fu,h,hk⟩:=h
 refine(FY h (by rw[hk.n];exact hl) g7).mono ?_
 rintro v C' (⟨_,rfl,K2,S2,Tg,h2,uM⟩|⟨hno,_,_⟩)
 ·exact⟨rfl,K2,S2,Tg,h2,hk.trans uM⟩
 ·have:=(vO hk ord l).2 hf
  unfold gR at this;omega
theorem oE(h:At kp K S ord tr C){l:Nat}(hl:l+1<K.n)(g7:tr.length<1099511627776)(hf:¬gR K S ord l):Rd Tryz.prog 17 #[ptr kp,.int .i64 (l:Int)] C (· =.int .i64 9):=by
 obtain⟨K',S',fu,h,hk⟩:=h
 refine(FY h (by rw[hk.n];exact hl) g7).mono ?_
 rintro v C' (⟨To,_⟩|⟨hno,rfl,rfl⟩)
 ·exact absurd ((vO hk ord l).1 To) hf
 ·exact⟨rfl,rfl⟩
theorem xO{l:Nat}(h:At kp K S ord (tr++[l]) C)(g7:tr.length<1099511627776):Fc Tryz.prog 18 #[ptr kp] C (fun r C'=>r=.tuple #[.int .i64 (l:Int),.int .i64 0]∧At kp K S (ez ord l) tr C'):=by
 obtain⟨K',S',fu,h,hk⟩:=h
 refine(ON h g7).mono ?_
 rintro v C' ⟨rfl,_,K2,S2,Tg,h2,uM⟩
 exact⟨rfl,K2,S2,Tg,h2,hk.trans uM⟩
theorem SK(h:At kp K S ord tr C){l:Nat}(hl:l+1<K.n)(g7:tr.length<1099511627776)(hf:gR K S ord l):Fc Tryz.prog 144 #[ptr kp,.int .i64 (l:Int)] C (fun r C'=>
   r=.tuple #[.agg #[.int .i64 (l:Int),.int .i64 ((bW K S ord:Nat):Int),.int .i64 ((bW K S (ez ord l):Nat):Int)],.int .i64 0]∧At kp K S (ez ord l) (tr++[l]) C'):=by
 intro g
 refine uv (R:=aE _) ?_
 unfold L144
 intro b1 _
 refine ag.rd (.cons .here) (dF h) ?_
 rintro v rfl
 refine Build.mk (cs:=[.int .i64 (l:Int),.int .i64 ((bW K S ord:Nat):Int),.int .i64 0]) (by kernel_rfl) ?_
 intro b6 _
 refine St.whole (r:=[.int .i64 (l:Int),.int .i64 ((bW K S ord:Nat):Int),.int .i64 0]) (by exact .head _) rfl rfl (by simp[Value.oneCell']) ?_
 refine ag.fn (.cons (.cons .here)) (sg h hl g7 hf) ?_
 rintro v C' ⟨rfl,h'⟩
 refine ae.gj (Br.cq (by simp) ?_)
 refine ag.rd (.cons (.cons .here)) (dF h') ?_
 rintro v rfl
 refine aa.mk (St.one (by exact .head _) rfl (by simp) rfl ?_)
 refine aA.whole (r:=[.int .i64 (l:Int),.int .i64 ((bW K S ord:Nat):Int),.int .i64 ((bW K S (ez ord l):Nat):Int)]) (by exact .head _) rfl ?_
 refine St.whole (r:=[.int .i64 (l:Int),.int .i64 ((bW K S ord:Nat):Int),.int .i64 ((bW K S (ez ord l):Nat):Int)]) (by exact .tail (.head _)) rfl rfl (by simp[Value.oneCell']) ?_
 refine aA.whole (r:=[.int .i64 (l:Int),.int .i64 ((bW K S ord:Nat):Int),.int .i64 ((bW K S (ez ord l):Nat):Int)]) (by exact .tail _ (.head _)) rfl ?_
 exact aE.mk (.skip .tail) ⟨rfl,h'⟩
theorem SL(h:At kp K S ord tr C){l:Nat}(hl:l+1<K.n)(g7:tr.length<1099511627776)(hf:¬gR K S ord l):Rd Tryz.prog 144 #[ptr kp,.int .i64 (l:Int)] C (· =.tuple #[.agg #[.int .i64 0,.int .i64 0,.int .i64 0],.int .i64 9]):=by
 intro g
 refine uv (R:=aE _) ?_
 unfold L144
 intro b1 _
 refine ag.rd (.cons .here) (dF h) ?_
 rintro v rfl
 refine Build.mk (cs:=[.int .i64 (l:Int),.int .i64 ((bW K S ord:Nat):Int),.int .i64 0]) (by kernel_rfl) ?_
 intro b6 _
 refine St.whole (r:=[.int .i64 (l:Int),.int .i64 ((bW K S ord:Nat):Int),.int .i64 0]) (by exact .head _) rfl rfl (by simp[Value.oneCell']) ?_
 refine ag.rd (.cons (.cons .here)) (oE h hl g7 hf) ?_
 rintro v rfl
 refine ae.gj (Br.gI (by simp) ?_)
 refine Build.mk (cs:=[.int .i64 0,.int .i64 0,.int .i64 0]) (by kernel_rfl) ?_
 refine St.whole (r:=[.int .i64 0,.int .i64 0,.int .i64 0]) (by exact .tail (.head _)) rfl rfl (by simp[Value.oneCell']) ?_
 refine aA.whole (r:=[.int .i64 0,.int .i64 0,.int .i64 0]) (by exact .tail _ (.head _)) rfl ?_
 exact bL.mk (.skip .tail) rfl
theorem Gj{path:List Nat}(h:At kp K S (aC ord path) (tr++path) C)(hp:∀l∈path,l+1<K.n){k:Nat}(hk:k≤path.length)(g7:(tr++path).length<1099511627776):Fc Tryz.prog 145 #[ptr kp,.int .i64 ((tr.length+k:Nat):Int)] C (fun r C'=>
   r=.tuple #[.int .i64 ((path.length-k:Nat):Int),.int .i64 0]∧At kp K S (aC ord (path.take k)) (tr++path.take k) C'):=by
 have hlen:=h.len
 rw[dQ]at hlen
 rw[List.length_append]at g7
 intro g
 refine Eu (R:=aE _) ?_
 unfold L145
 refine ae.aJ (Br.no ?_)
 intro J2 Au
 refine ae.lss ?_
 rw[decide_eq_false (by omega)]
 refine Split.go rfl ?_
 refine ag.rd .here (mJ h) ?_
 rintro v rfl
 refine ae.gtr ?_
 rw[decide_eq_false (by rw[List.length_append];omega)]
 refine aD.mk ?_
 refine JE.mk (Au _ _ fun gs=>Br.no ?_)
 refine⟨fun vs H=>∃m,m≤path.length∧k≤m∧vs=[.int .i64 ((path.length-m:Nat):Int)]∧At kp K S (aC ord (path.take m)) (tr++path.take m) H,fun vs _=>path.length-bg vs 0,JE.mk ⟨path.length,Nat.le_refl _,hk,by simp,by simpa using h⟩,?_⟩
 rintro w H ⟨m,hm,hkm,hw,x7⟩ gs
 simp only[List.cons.injEq,and_true]at hw
 subst hw
 refine ag.rd .here (mJ x7) ?_
 rintro v rfl
 refine ae.lQ (Br.dec (fun hlt=>?_) (fun hlt=>?_))
 ·rw[List.length_append,List.length_take]at hlt
  obtain⟨m,rfl⟩:∃m',m=m'+1:=⟨m-1,by omega⟩
  have e:path.take (m+1)=path.take m++[path[m]]:=by rw[List.take_add_one,List.getElem?_eq_getElem (by omega)];rfl
  rw[e,←List.append_assoc,dP]at x7
  refine ag.fn .here (xO x7 (by simp;omega)) ?_
  rintro v C' ⟨rfl,h'⟩
  rw[oY (by rw[dQ,hlen];exact hp _ (List.getElem_mem _))]at h'
  refine ae.aH (b:=1) (by simp[az];omega) ?_
  refine ay.of (.refl _) ⟨m,by omega,by omega,by rw[show path.length-(m+1)+1=path.length-m by omega],h'⟩ ?_
  show path.length-(((path.length-(m+1)+1:Nat):Int).toNat)<path.length-(((path.length-(m+1):Nat):Int).toNat)
  omega
 ·rw[List.length_append,List.length_take]at hlt
  obtain rfl:m=k:=by omega
  exact aE.here ⟨rfl,x7⟩
end
theorem B9{w:Nat}(hw:2≤w∧w≤4):Fc Tryz.prog 14 #[.int .i64 (w:Int)] [] (fun v H=>∃s,v=.tuple #[s,.int .i64 0]∧aQ 3 .i64 s (iw (lF w)) H):=by
 intro g
 refine Jp (R:=aE _) ?_
 unfold L14
 obtain rfl|rfl|rfl:w=2∨w=3∨w=4:=by omega
 ·refine ae.kJ (Br.gI rfl ?_)
  refine ax.int (e:=3) (by kernel_rfl) (by kernel_rfl) (by kernel_rfl) fun bx=>?_
  exact aE.here ⟨_,rfl,aQ.made [0]⟩
 ·refine ae.kJ (Br.cq (by decide) (ae.kJ (Br.gI rfl ?_)))
  refine⟨aF .i64 (iw (lF 3)),3,1,.int .i64 0,by kernel_rfl,by kernel_rfl,by kernel_rfl,by decide,by kernel_rfl,fun bx _=>?_⟩
  exact aE.here ⟨_,rfl,aQ.made (iw (lF 3))⟩
 ·refine ae.kJ (Br.cq (by decide) (ae.kJ (Br.cq (by decide) (ae.kJ (Br.gI rfl ?_)))))
  refine⟨aF .i64 (iw (lF 4)),3,1,.int .i64 0,by kernel_rfl,by kernel_rfl,by kernel_rfl,by decide,by kernel_rfl,fun bx _=>?_⟩
  exact aE.here ⟨_,rfl,aQ.made (iw (lF 4))⟩
end Go.Proofs
set_option maxRecDepth 100000
namespace Go.Proofs
open Go Go.Sx
open bc
noncomputable instance {K:Kd}{S:Nat→bc.Fn}{ord:List Nat}{l:Nat}:Decidable (gR K S ord l):=Nat.decLe _ _
noncomputable def rm(K:Kd)(S:Nat→bc.Fn):Rm:=⟨K.n,bW K S,fun ord l=>decide (gR K S ord l)⟩
theorem ob{K:Kd}{S:Nat→bc.Fn}{ord:List Nat}{l:Nat}:(rm K S).fit ord l=true↔gR K S ord l:=by
 show decide (gR K S ord l)=true↔_
 exact decide_eq_true_iff
def Box(kp b1 rP:Nat)(cs:List Nat)(B:Hp):Prop:=∃vc Cc,B=(b1,.cells #[ptr kp] 26 (0,0))::(rP,.cells #[vc] 25 (0,0))::Cc∧aQ 3 .i64 vc (iw cs) Cc
section
variable {kp b1 rP w p:Nat} {K:Kd} {S:Nat→bc.Fn} {ord tr:List Nat} {B C:Hp}
theorem JW(hB:Box kp b1 rP (lF w) B)(h:At kp K S ord tr C)(hp:p+w≤K.n)(g7:tr.length<549755813888):
  Fc Tryz.prog 143 #[.int .i64 (p:Int),ptr b1,ptr rP] (B++C) (fun v H=>v=.int .i64 ((((rm K S).visit w p ord).2:Nat):Int)∧∃C',H=B++C'∧At kp K S (aC ord ((rm K S).visit w p ord).1) (tr++((rm K S).visit w p ord).1) C'):=by
 obtain⟨vc,Cc,rfl,hc⟩:=hB
 have hn:=h.uH
 have hlen:=h.len
 have jL:=Gb w
 let m:=rm K S
 let path:=m.cH p (lF w) ord
 have qt:path.length≤(lF w).length:=m.pG p _ _
 have We:∀l∈path,l+1<K.n:=fun l hl=>by
  obtain⟨c,hc,rfl⟩:=m.tE p hl
  have:=xK hc;omega
 let P0:Hp→Hp:=fun X=>(b1,.cells #[ptr kp] 26 (0,0))::(rP,.cells #[vc] 25 (0,0))::(Cc++X)
 intro g
 refine Ev (R:=aE _) ?_
 unfold L143
 rw[List.cons_append,List.cons_append]
 refine DR.self ?_
 refine Ld.mk (v:=ptr kp) (by exact .head _) rfl ?_
 refine Ld.mk (v:=ptr kp) (by exact .head _) rfl ?_
 refine ag.rd (.cons (.cons (.app .here))) (mJ h) ?_
 rintro v rfl
 refine⟨.refl _,?_⟩
 refine ag.rd (.cons (.cons (.app .here))) (dF h) ?_
 rintro v rfl
 refine⟨.refl _,?_⟩
 intro J8 hJ8
 have fin:∀C2,At kp K S (aC ord path) (tr++path) C2→J8 [.int .i64 ((m.keep ord path path.length:Nat):Int),.int .i64 ((path.length:Nat):Int)] (P0 C2):=fun C2 h2=>by
  refine hJ8 _ _ _ fun gs=>?_
  refine Ld.mk (v:=ptr kp) (by exact .head _) rfl ?_
  have hk:=m.xg ord path path.length
  refine ae.aH (by simp[az];omega) ?_
  refine ag.fn (.cons (.cons (.app .here))) (Gj h2 We hk (by rw[List.length_append];omega)) ?_
  rintro v C' ⟨rfl,h3⟩
  refine Ext.mk rfl (Ext.mk rfl ?_)
  refine ae.aH (by simp[az];omega) ?_
  exact aE.here ⟨rfl,C',by simp only[List.cons_append],h3⟩
 refine Ld.mk (v:=vc) (by exact .tail _ (.head _)) rfl ?_
 refine hc.aS ?_
 rw[an]
 refine⟨fun vs H=>∃i C2,i≤path.length∧vs=[.int .i64 ((bW K S (aC ord (path.take (m.keep ord path i))):Nat):Int),.int .i64 ((m.keep ord path i:Nat):Int),.int .i64 (i:Int),.int .i64 (i:Int)]∧H=P0 C2∧At kp K S (aC ord (path.take i)) (tr++path.take i) C2,
  fun vs _=>(lF w).length-bg vs 3,JE.mk ⟨0,C,Nat.zero_le _,rfl,rfl,by simpa[aC]using h⟩,?_⟩
 rintro jl AH uQ vm H ⟨i,C2,hi,hw,rfl,h2⟩ gs
 simp only[List.cons.injEq,and_true]at hw
 obtain⟨rfl,rfl,rfl,rfl⟩:=hw
 refine ae.dL (Br.dec (fun hlt=>?_) (fun hlt=>?_))
 rotate_left
 ·obtain rfl:i=path.length:=by omega
  rw[List.take_length]at h2
  exact JE.mk (fin C2 h2)
 intro NC MA
 have nQ:(lF w)[i]? =some (lF w)[i]:=List.getElem?_eq_getElem hlt
 have JD:(lF w)[i]+2≤w:=xK (List.getElem_mem _)
 refine hc.ld (x:=(((lF w)[i]:Nat):Int)) (by rw[bE hlt,List.getD,nQ];rfl) (cz.sub (.cons (.cons .left))) ?_
 refine Ld.mk (v:=ptr kp) (by exact .head _) rfl ?_
 refine ae.aH (by simp[az];omega) ?_
 by_cases xu:i=path.length
 ·-- no room
  subst xu
  rw[List.take_length]at h2
  have hno:¬gR K S (aC ord path) (p+(lF w)[path.length]):=fun hf=>by
   have:=m.tF p (lF w) ord _ nQ
   have h9:=ob.2 hf
   rw[show(rm K S).fit (aC ord path) (p+(lF w)[path.length])=false from this]at h9
   cases h9
  refine ag.rd (.cons (.cons (.app .here))) (SL h2 (by omega) (by rw[List.length_append];omega) hno) ?_
  rintro v rfl
  refine Ext.mk rfl (Ext.mk rfl ?_)
  intro XE _
  refine St.whole (r:=[.int .i64 0,.int .i64 0,.int .i64 0]) (by exact .head _) rfl rfl (by simp[Value.oneCell']) ?_
  refine ae.gj (Br.gI (by simp) ?_)
  exact JE.of .tail (fin C2 h2)
 ·have BE:i<path.length:=by omega
  obtain⟨e1,c',e2,hf⟩:=m.pH p (lF w) ord i BE
  rw[nQ]at e1 e2
  cases e2
  have To:gR K S (aC ord (path.take i)) (p+(lF w)[i]):=ob.1 hf
  have lS:path.take (i+1)=path.take i++[p+(lF w)[i]]:=by
   rw[List.take_add_one,show path[i]? =some (p+(lF w)[i])from e1];rfl
  refine ag.fn (.cons (.cons (.app .here))) (SK h2 (by omega) (by rw[List.length_append,List.length_take];omega) To) ?_
  rintro v C3 ⟨rfl,h3⟩
  rw[←dP,List.append_assoc,←lS]at h3
  refine Ext.mk rfl (Ext.mk rfl ?_)
  intro XE _
  refine St.whole (r:=[.int .i64 ((p+(lF w)[i]:Nat):Int),.int .i64 ((bW K S (aC ord (path.take i)):Nat):Int),.int .i64 ((bW K S (ez (aC ord (path.take i)) (p+(lF w)[i])):Nat):Int)]) (by exact .head _) rfl rfl (by simp[Value.oneCell']) ?_
  refine ae.gj (Br.cq (by simp) ?_)
  refine ae.aH (b:=1) (by simp[az];omega) ?_
  refine aa.mk (Ld.mk (v:=.int .i64 ((bW K S (ez (aC ord (path.take i)) (p+(lF w)[i])):Nat):Int)) (by exact .head _) rfl ?_)
  rw[←dP,←lS]
  refine ae.dL (Br.dec (fun dI=>?_) (fun dI=>?_))
  ·have hk:m.keep ord path (i+1)=i+1:=by rw[Rm.keep];exact if_pos dI
   refine aa.mk (Ld.mk (v:=.int .i64 ((bW K S (aC ord (path.take (i+1))):Nat):Int)) (by exact .head _) rfl ?_)
   refine JE.mk (MA _ _ _ _ fun gs=>?_)
   refine ae.aH (b:=1) (by simp[az];omega) ?_
   refine ay.of .tail ⟨i+1,C3,BE,by rw[hk],rfl,h3⟩ ?_
   show(lF w).length-(((i+1:Nat):Int).toNat)<(lF w).length-(((i:Nat):Int).toNat)
   omega
  ·have hk:m.keep ord path (i+1)=m.keep ord path i:=by rw[Rm.keep];exact if_neg dI
   refine JE.mk (MA _ _ _ _ fun gs=>?_)
   refine ae.aH (b:=1) (by simp[az];omega) ?_
   refine ay.of .tail ⟨i+1,C3,BE,by rw[hk],rfl,h3⟩ ?_
   show(lF w).length-(((i+1:Nat):Int).toNat)<(lF w).length-(((i:Nat):Int).toNat)
   omega
end
end Go.Proofs
namespace bc
open aj
def Ik(m o:Nat):Fn:=fun x=>decide (x&&&m=o&&&m)
theorem tP{m o x:Nat}:Ik m o x=true↔∀i,m.testBit i=true→x.testBit i=o.testBit i:=by
 unfold Ik
 rw[decide_eq_true_iff]
 constructor
 ·intro h i hi
  have:=congrArg (fun z=>Nat.testBit z i) h
  simpa[Nat.testBit_and,hi]using this
 ·intro h
  apply Nat.eq_of_testBit_eq;intro i
  rw[Nat.testBit_and,Nat.testBit_and]
  by_cases hi:m.testBit i=true
  ·rw[h i hi]
  ·simp[hi]
def Zf(m v:Nat):Nat:=if m.testBit v then m^^^2^v else m
theorem qQ(m v i:Nat):(Zf m v).testBit i=(m.testBit i&&decide (i≠v)):=by
 unfold Zf
 split
 ·rename_i h
  rw[Nat.testBit_xor,Nat.testBit_two_pow]
  by_cases e:i=v
  ·subst e;simp[h]
  ·simp[e,Ne.symm e]
 ·rename_i h
  by_cases e:i=v
  ·subst e;simp[h]
  ·simp[e]
theorem MX{m o v:Nat}{b:Bool}:(fun x=>Ik m o (aI x v b))=if m.testBit v=true∧b≠o.testBit v then(fun _=>false)else Ik (Zf m v) o:=by
 funext x
 split
 ·rename_i h
  rw[←Bool.not_eq_true,tP]
  intro h2
  have:=h2 v h.1
  rw[aq,if_pos rfl]at this
  exact h.2 this
 ·rename_i h
  rw[Bool.eq_iff_iff,tP,tP]
  constructor
  ·intro h2 i hi
   rw[qQ]at hi
   simp only[Bool.and_eq_true,decide_eq_true_eq]at hi
   have:=h2 i hi.1
   rwa [aq,if_neg hi.2]at this
  ·intro h2 i hi
   rw[aq]
   split
   ·rename_i e
    subst e
    exact Classical.byContradiction fun hne=>h ⟨hi,hne⟩
   ·rename_i e
    exact h2 i (by rw[qQ];simp[hi,e])
def rest(m:Nat)(ord:List Nat):Nat→Nat
 |0=>m
 |k+1=>Zf (rest m ord k) (ord.getD k 0)
section
variable {n m o:Nat} {ord:List Nat} {F:Fn→Prop}
theorem Qj(hF:∀g,F g↔m≠0∧g=Ik m o)(hm:m≠0):∀k,fs ord F k (Ik (rest m ord k) o)
 |0=>(hF _).2 ⟨hm,rfl⟩
 |k+1=>by
  refine⟨_,Qj hF hm k,o.testBit (ord.getD k 0),?_⟩
  rw[MX,if_neg (fun h=>h.2 rfl)]
  rfl
theorem getD_inj(hn:ord.Nodup){i j:Nat}(hi:i<ord.length)(hj:j<ord.length)(e:ord.getD i 0=ord.getD j 0):i=j:=by
 rw[List.getD_eq_getElem?_getD,List.getD_eq_getElem?_getD,List.getElem?_eq_getElem hi,List.getElem?_eq_getElem hj]at e
 exact(List.getElem_inj hn).1 e
theorem yu{l:Nat}(hl:l+1<ord.length):(ez ord l).Perm ord:=by
 unfold ez
 have e1:ord=ord.take l++ord.getD l 0::ord.getD (l+1) 0::ord.drop (l+2):=by
  conv=>lhs;rw[←List.take_append_drop l ord]
  congr 1
  rw[List.drop_eq_getElem_cons (by omega),List.drop_eq_getElem_cons (by omega)]
  simp[List.getD,List.getElem?_eq_getElem (show l<ord.length by omega),List.getElem?_eq_getElem hl]
 have ht:(ord.take l).length=l:=by simp;omega
 have e2:(ord.set l (ord.getD (l+1) 0)).set (l+1) (ord.getD l 0)=ord.take l++ord.getD (l+1) 0::ord.getD l 0::ord.drop (l+2):=by
  generalize hx:ord.getD l 0=x at*
  generalize hy:ord.getD (l+1) 0=y at*
  conv=>lhs;rw[e1]
  rw[List.set_append_right _ _ (by omega),ht,Nat.sub_self,List.set_cons_zero,List.set_append_right _ _ (by omega),ht,Nat.add_sub_cancel_left,List.set_cons_succ,List.set_cons_zero]
 rw[e2]
 conv=>rhs;rw[e1]
 exact List.Perm.append_left _ (List.Perm.swap _ _ _)
theorem gM:∀{path:List Nat} {ord:List Nat},(∀l∈path,l+1<ord.length)→(aC ord path).Perm ord
 | [],_,_=>.refl _
 |l::r,ord,h=>by
  show(aC (ez ord l) r).Perm ord
  have h1:=h l (by simp)
  exact(gM fun x hx=>by rw[jC];exact h x (by simp[hx])).trans (yu h1)
end
section
variable {A B:Rm} {Q:List Nat→Prop}
structure Alike(A B:Rm)(Q:List Nat→Prop):Prop where
 n:A.n=B.n
 size:∀ord,Q ord→A.size ord=B.size ord
 fit:∀ord l,Q ord→l+1<A.n→A.fit ord l=B.fit ord l
 ez:∀ord l,Q ord→l+1<A.n→Q (ez ord l)
theorem Alike.cH(h:Alike A B Q){p:Nat}:∀{cs ord},(∀c∈cs,p+c+1<A.n)→Q ord→A.cH p cs ord=B.cH p cs ord
 | [],_,_,_=>rfl
 |c::cs,ord,hc,hq=>by
  have h1:=hc c (by simp)
  rw[Rm.cH,Rm.cH,h.fit ord _ hq h1,h.cH (fun c kH=>hc c (by simp[kH])) (h.ez ord _ hq h1)]
theorem Alike.aC(h:Alike A B Q):∀{path ord},(∀l∈path,l+1<A.n)→Q ord→Q (aC ord path)
 | [],_,_,hq=>hq
 |l::r,ord,hp,hq=>h.aC (path:=r) (ord:=bc.ez ord l) (fun x hx=>hp x (by simp[hx])) (h.ez ord l hq (hp l (by simp)))
theorem Alike.keep(h:Alike A B Q){path ord:List Nat}(hp:∀l∈path,l+1<A.n)(hq:Q ord):∀i,A.keep ord path i=B.keep ord path i
 |0=>rfl
 |i+1=>by
  have q:∀j,Q (bc.aC ord (path.take j)):=fun j=>h.aC (fun l hl=>hp l (List.mem_of_mem_take hl)) hq
  rw[Rm.keep,Rm.keep,h.keep hp hq i,h.size _ (q _),h.size _ (q _)]
theorem Alike.visit(h:Alike A B Q){w p:Nat}{ord:List Nat}(hp:p+w≤A.n)(hq:Q ord):A.visit w p ord=B.visit w p ord:=by
 have hc:∀c∈lF w,p+c+1<A.n:=fun c hc=>by have:=xK hc;omega
 have hg:=h.cH hc hq
 have hm:∀l∈B.cH p (lF w) ord,l+1<A.n:=fun l hl=>by
  obtain⟨c,kH,rfl⟩:=B.tE p hl
  exact hc c kH
 unfold Rm.visit
 simp only[hg,h.keep hm hq]
theorem Alike.all(h:Alike A B Q){w:Nat}{ord:List Nat}(hq:Q ord):∀i,i+w≤A.n+1→A.all w ord i=B.all w ord i∧Q (bc.aC ord (B.all w ord i).1)
 |0,_=>⟨rfl,hq⟩
 |i+1,hi=>by
  obtain⟨h1,h2⟩:=h.all (w:=w) hq i (by omega)
  have hv:=h.visit (w:=w) (p:=i) (by omega) h2
  refine⟨by rw[Rm.all_succ,Rm.all_succ,h1,hv],?_⟩
  rw[Rm.all_succ]
  show Q (bc.aC ord (_++_))
  rw[iV]
  exact h.aC (fun l hl=>by have:=B.GF (w:=w) hl;omega) h2
theorem Alike.pass(h:Alike A B Q){w:Nat}{ord:List Nat}(hw:w≤A.n+1)(hq:Q ord):A.pass w ord=B.pass w ord∧Q (bc.aC ord (B.pass w ord).1):=by
 unfold Rm.pass
 rw[←h.n]
 exact h.all hq _ (by omega)
end
def flat(n s:Nat):Rm:=⟨n,fun _=>s,fun _ _=>true⟩
def A6(n cap:Nat)(L:aj.Fs):Rm:=⟨n,fun ord=>dR n ord L n,fun ord l=>decide ((rA n ord l L).length+2≤cap)⟩
end bc
set_option maxRecDepth 100000
namespace Go.Proofs
open Go Go.Sx
open bc
def rep(b a s:Nat):Value:=.agg #[.int .i64 (b:Int),.int .i64 (a:Int),.int .i64 (s:Int),.bool false]
def kQ(b1 rP b a s:Nat):Array Value:=#[.func (.func 143) #[] #[ptr b1,ptr rP],.int .i64 (b:Int),.int .i64 (a:Int),.int .i64 (s:Int),.bool false]
def Pass(pp kp w b a s:Nat)(B:Hp):Prop:=∃b1 rP B',B=(pp,.cells (kQ b1 rP b a s) 125 (0,0))::B'∧Box kp b1 rP (lF w) B'
section
variable {pp kp w p bf af sw:Nat} {K:Kd} {S:Nat→bc.Fn} {ord tr:List Nat} {B C:Hp}
theorem GB(kp:Nat)(w:Int)(C:Hp):Rd Tryz.prog 60 #[ptr kp,.int .i64 w] C (· =.int .i64 (if w<2∨4<w then 1 else 0)):=by
 intro g
 refine IT (R:=aE _) ?_
 unfold L60
 refine ae.aJ (Br.no (ae.lss ?_))
 refine cv.or (decide (4<w)) (fun _=>ae.gtr ⟨rfl,rfl⟩) (by simp) fun gs=>?_
 rw[←Bool.decide_or]
 exact Br.dec (fun h=>bL.mk (.refl _) (by rw[if_pos h])) (fun h=>bL.mk (.refl _) (by rw[if_neg h]))
theorem Nh(h:At kp K S ord tr C)(hw:2≤w∧w≤4):Fc Tryz.prog 62 #[ptr kp,.int .i64 (w:Int)] C (fun v H=>∃pp B,v=ptr pp∧H=B++C∧Pass pp kp w (bW K S ord) (bW K S ord) 0 B):=by
 intro g
 refine IQ (R:=aE _) ?_
 unfold L62
 intro b1 _
 refine DR.self ?_
 refine Ld.mk (v:=ptr kp) (by exact .head _) rfl ?_
 refine Ld.mk (v:=ptr kp) (by exact .head _) rfl ?_
 refine ag.rd (.cons .here) (dF h) ?_
 rintro v rfl
 refine⟨.refl _,?_⟩
 refine ag.rd (.cons .here) (dF h) ?_
 rintro v rfl
 refine⟨.refl _,?_⟩
 refine Build.mk (cs:=[.int .i64 ((bW K S ord:Nat):Int),.int .i64 ((bW K S ord:Nat):Int),.int .i64 0,.bool false]) (by kernel_rfl) ?_
 refine Build.mk (cs:=[.nilFunc,.int .i64 ((bW K S ord:Nat):Int),.int .i64 ((bW K S ord:Nat):Int),.int .i64 0,.bool false]) (by kernel_rfl) ?_
 intro mI _
 refine⟨.tail,?_⟩
 refine ag.fn hnew (B9 hw) ?_
 rintro v Cc ⟨s,rfl,hc⟩
 obtain⟨sa,sl,sc,rfl⟩:∃a l c,s=Value.slice a l c:=by obtain⟨a,c,h⟩:=aR.len hc;exact⟨a,_,c,h⟩
 refine Ext.mk rfl (Ext.mk rfl ?_)
 intro rP _
 refine St.one (c':=#[.slice sa sl sc]) (by exact .head _) rfl (by simp) rfl ?_
 refine Nil.ptr (aa.mk (St.one (c':=kQ b1 rP (bW K S ord) (bW K S ord) 0) (by repeat (first|exact cK.head _|apply cK.tail|apply cK.bP)) rfl (by simp[Value.cells]) rfl ?_))
 refine aE.mk (lJ:=((mI,.cells (kQ b1 rP (bW K S ord) (bW K S ord) 0) 125 (0,0))::(b1,.cells #[ptr kp] 26 (0,0))::(rP,.cells #[.slice sa sl sc] 25 (0,0))::Cc)++C) (.perm ?_) ⟨mI,_,rfl,rfl,b1,rP,_,rfl,_,Cc,rfl,hc⟩
 refine(List.Perm.cons _ (List.perm_middle.trans (List.Perm.cons _ List.perm_middle))).trans ?_
 refine(List.Perm.swap _ _ _).trans (List.Perm.cons _ (List.Perm.swap _ _ _))
theorem XA(hB:Pass pp kp w bf af sw B)(h:At kp K S ord tr C)(hp:p+w≤K.n)(g7:tr.length<549755813888)(hs:sw<4611686018427387904):
  Fc Tryz.prog 63 #[ptr pp,ptr kp,.int .i64 (p:Int)] (B++C) (fun v H=>v=.tuple #[]∧∃B' C',H=B'++C'∧Pass pp kp w bf (bW K S (aC ord ((rm K S).visit w p ord).1)) (sw+((rm K S).visit w p ord).2) B'∧At kp K S (aC ord ((rm K S).visit w p ord).1) (tr++((rm K S).visit w p ord).1) C'):=by
 obtain⟨b1,rP,B',rfl,hb⟩:=hB
 have hv:=((rm K S).vp w p ord).2
 intro g
 refine IP (R:=aE _) ?_
 unfold L63
 refine DR.of (R:=[(pp,.cells (kQ b1 rP bf af sw) 125 (0,0))]) (.cons .nil) ?_
 refine Nil.ptr (aa.mk (aa.mk (Ld.mk (v:=.int .i64 (sw:Int)) (by exact .head _) rfl ?_)))
 refine Nil.ptr (aa.mk (Ld.mk (v:=.func (.func 143) #[] #[ptr b1,ptr rP]) (by exact .head _) rfl ?_))
 refine fm.of rfl (by kernel_rfl) ?_
 refine ag.fn (args:=#[.int .i64 (p:Int),ptr b1,ptr rP]) (.cons .here) (JW hb h hp g7) ?_
 rintro v H ⟨rfl,C',rfl,h'⟩
 refine⟨.cons .nil,?_⟩
 refine ae.aH (by simp[az];omega) ?_
 refine Nil.ptr (aa.mk (aa.mk (St.one (c':=kQ b1 rP bf af (sw+((rm K S).visit w p ord).2)) (by exact .head _) rfl (by simp[kQ]) rfl ?_)))
 refine ag.rd (.cons (.app .here)) (dF h') ?_
 rintro v rfl
 refine Nil.ptr (aa.mk (aa.mk (St.one (c':=kQ b1 rP bf (bW K S (aC ord ((rm K S).visit w p ord).1)) (sw+((rm K S).visit w p ord).2)) (by exact .head _) rfl (by simp[kQ]) rfl ?_)))
 exact aE.here ⟨rfl,_::B',C',rfl,⟨b1,rP,B',rfl,hb⟩,h'⟩
theorem Oy(hB:Pass pp kp w bf (bW K S ord) sw B)(h:At kp K S ord tr C)(hw:2≤w∧w≤4)(g7:tr.length<274877906944)(hs:sw<2305843009213693952):
  Fc Tryz.prog 68 #[ptr pp,ptr kp,.int .i64 (w:Int)] (B++C) (fun v H=>v=.tuple #[]∧∃B' C',H=B'++C'∧Pass pp kp w bf (bW K S (aC ord ((rm K S).pass w ord).1)) (sw+((rm K S).pass w ord).2) B'∧At kp K S (aC ord ((rm K S).pass w ord).1) (tr++((rm K S).pass w ord).1) C'):=by
 have hn:=h.uH
 intro g
 refine IN (R:=aE _) ?_
 unfold L68
 refine⟨fun vs H=>∃i B' C',i≤K.n+1-w∧vs=[.int .i64 ((i:Nat):Int)]∧H=B'++C'∧Pass pp kp w bf (bW K S (aC ord ((rm K S).all w ord i).1)) (sw+((rm K S).all w ord i).2) B'∧At kp K S (aC ord ((rm K S).all w ord i).1) (tr++((rm K S).all w ord i).1) C',
  fun vs _=>K.n+1-bg vs 0,JE.mk ⟨0,B,C,Nat.zero_le _,rfl,rfl,by simpa[Rm.all,aC]using hB,by simpa[Rm.all,aC]using h⟩,?_⟩
 rintro w5 H ⟨i,B',C',hi,hv,rfl,hp,ha⟩ gs
 simp only[List.cons.injEq,and_true]at hv
 subst hv
 have vT:=(rm K S).Gk w ord i
 refine ae.aH (by simp[az];omega) ?_
 refine ag.rd (.app .here) (lj ha) ?_
 rintro v rfl
 refine ae.y4 (Br.dec (fun hle=>?_) (fun hle=>?_))
 ·refine ag.fn .here (XA hp ha (by omega) (by rw[List.length_append];omega) (by omega)) ?_
  rintro v H ⟨rfl,B2,C2,rfl,kZ,zq⟩
  rw[←iV,List.append_assoc,Nat.add_assoc]at*
  refine ae.aH (b:=1) (by simp[az];omega) ?_
  refine ay.of (.refl _) ⟨i+1,B2,C2,by omega,rfl,rfl,by rw[Rm.all_succ];exact kZ,by rw[Rm.all_succ];exact zq⟩ ?_
  show K.n+1-(((i+1:Nat):Int).toNat)<K.n+1-(((i:Nat):Int).toNat)
  omega
 ·obtain rfl:i=K.n+1-w:=by omega
  exact aE.here ⟨rfl,B',C',rfl,hp,ha⟩
end
end Go.Proofs
set_option maxRecDepth 100000
namespace Go.Proofs
open Go Go.Sx
open bc
section
variable {pp kp w p bf af sw:Nat} {K:Kd} {S:Nat→bc.Fn} {ord tr:List Nat} {B C:Hp}
theorem QD(h:At kp K S ord tr C)(hw:2≤w∧w≤4)(g7:tr.length<274877906944):
  Fc Tryz.prog 22 #[ptr kp,.int .i64 (w:Int)] C (fun v H=>v=.tuple #[rep (bW K S ord) (bW K S (aC ord ((rm K S).pass w ord).1)) ((rm K S).pass w ord).2,.int .i64 0]∧At kp K S (aC ord ((rm K S).pass w ord).1) (tr++((rm K S).pass w ord).1) H):=by
 have hn:=h.uH
 intro g
 refine Jl (R:=aE _) ?_
 unfold L22
 intro b1 _
 refine ag.rd (.cons .here) (GB kp w C) ?_
 rintro v rfl
 rw[if_neg (by omega)]
 refine ae.gj (Br.cq (by decide) ?_)
 refine ag.fn (.cons .here) (Nh h hw) ?_
 rintro v H ⟨pp,B,rfl,rfl,hB⟩
 refine ag.fn (.cons .here) (Oy hB h hw g7 (by omega)) ?_
 rintro v H ⟨rfl,B',C',rfl,hB',h'⟩
 rw[Nat.zero_add]at hB'
 obtain⟨x1,x18,B2,rfl,hb⟩:=hB'
 refine Nil.ptr (aa.mk ?_)
 refine aA.mk (vs:=#[.int .i64 ((bW K S ord:Nat):Int),.int .i64 ((bW K S (aC ord ((rm K S).pass w ord).1):Nat):Int),.int .i64 ((((rm K S).pass w ord).2:Nat):Int),.bool false]) (by exact .tail _ (.head _)) (by simp[kQ]) rfl ?_
 refine St.whole (r:=[.int .i64 ((bW K S ord:Nat):Int),.int .i64 ((bW K S (aC ord ((rm K S).pass w ord).1):Nat):Int),.int .i64 ((((rm K S).pass w ord).2:Nat):Int),.bool false]) (by exact .head _) rfl rfl (by simp[Value.oneCell']) ?_
 refine aA.whole (r:=[.int .i64 ((bW K S ord:Nat):Int),.int .i64 ((bW K S (aC ord ((rm K S).pass w ord).1):Nat):Int),.int .i64 ((((rm K S).pass w ord).2:Nat):Int),.bool false]) (by exact .head _) rfl ?_
 exact aE.mk (.skip .right) ⟨rfl,h'⟩
end
end Go.Proofs
namespace bc
def Aw(i:Nat):Nat→List Nat
 |0=>[]
 |j+1=>if i≤j then j::Aw i j else []
theorem tU{i j:Nat}(h:j≤i):Aw i j=[]:=by
 cases j with
 |zero=>rfl
 |succ j=>rw[Aw,if_neg (by omega)]
theorem mH{i j:Nat}(h:i≤j):Aw i (j+1)=j::Aw i j:=by rw[Aw,if_pos h]
theorem Ge{i l:Nat}:∀{j},l∈Aw i j→i≤l∧l<j
 |0,h=>by simp[Aw]at h
 |j+1,h=>by
  by_cases e:i≤j
  ·rw[mH e]at h
   rcases List.mem_cons.1 h with rfl|h
   ·omega
   ·have:=Ge h;omega
  ·rw[tU (by omega)]at h;simp at h
theorem xL(i:Nat):∀j,(Aw i j).length=j-i
 |0=>by simp[Aw]
 |j+1=>by
  by_cases e:i≤j
  ·rw[mH e,List.length_cons,xL i j];omega
  ·rw[tU (by omega)];simp;omega
theorem Gf{i k:Nat}:∀{j:Nat} {a:List Nat},i≤j→j<a.length→(k≤i→(aC a (Aw i j)).getD k 0=if k=i then a.getD j 0 else a.getD k 0)
 |0,a,hi,hj,hk=>by
  obtain rfl:i=0:=by omega
  obtain rfl:k=0:=by omega
  simp[Aw,aC]
 |j+1,a,hi,hj,hk=>by
  by_cases e:i≤j
  ·rw[mH e]
   show(aC (ez a j) (Aw i j)).getD k 0=_
   rw[Gf (j:=j) e (by rw[jC];omega) hk,eL (by omega),eL (by omega)]
   by_cases h:k=i
   ·subst h;simp
   ·rw[if_neg h,if_neg h,if_neg (by omega),if_neg (by omega)]
  ·obtain rfl:i=j+1:=by omega
   rw[tU (Nat.le_refl _)]
   show a.getD k 0=_
   split
   ·rename_i h;rw[h]
   ·rfl
def SW(p:List Nat)(x:Nat):Nat:=p.idxOf x
def de(p q:List Nat):Nat→List Nat
 |0=>[]
 |i+1=>de p q i++Aw i (SW (aC p (de p q i)) (q.getD i 0))
def path(p q:List Nat):List Nat:=de p q q.length
theorem K6{p:List Nat}{x:Nat}(h:x∈p):SW p x<p.length:=List.idxOf_lt_length_iff.2 h
theorem Fv{p:List Nat}{x:Nat}(h:x∈p):p.getD (SW p x) 0=x:=by
 have h1:=K6 h
 rw[List.getD_eq_getElem?_getD,List.getElem?_eq_getElem h1]
 show p[p.idxOf x]=x
 exact List.getElem_idxOf h1
section
variable {p q:List Nat}
theorem gO(hq:q.Nodup)(hp:p.Perm q):∀i,i≤q.length→(∀l∈de p q i,l+1<p.length)∧(∀k,k<i→(aC p (de p q i)).getD k 0=q.getD k 0)∧(i<q.length→i≤SW (aC p (de p q i)) (q.getD i 0)∧SW (aC p (de p q i)) (q.getD i 0)<p.length)
 |i,hi=>by
  have hlen:=hp.length_eq
  have base:(∀l∈de p q i,l+1<p.length)∧(∀k,k<i→(aC p (de p q i)).getD k 0=q.getD k 0):=by
   cases i with
   |zero=>exact⟨fun l hl=>by simp[de]at hl,fun k hk=>absurd hk (Nat.not_lt_zero _)⟩
   |succ i=>
    obtain⟨h1,h2,h3⟩:=gO hq hp i (by omega)
    obtain⟨h4,h5⟩:=h3 (by omega)
    have hm:q.getD i 0∈aC p (de p q i):=by
     have:q.getD i 0∈q:=by rw[List.getD_eq_getElem?_getD,List.getElem?_eq_getElem (show i<q.length by omega)];exact List.getElem_mem _
     exact((gM h1).trans hp).mem_iff.2 this
    refine⟨fun l hl=>?_,fun k hk=>?_⟩
    ·rcases List.mem_append.1 hl with hl|hl
     ·exact h1 l hl
     ·have:=Ge hl;omega
    ·rw[de,iV,Gf h4 (by rw[dQ];exact h5) (by omega)]
     split
     ·rename_i e;subst e;exact Fv hm
     ·exact h2 k (by omega)
  refine⟨base.1,base.2,fun hlt=>?_⟩
  have hm:q.getD i 0∈aC p (de p q i):=by
   have:q.getD i 0∈q:=by rw[List.getD_eq_getElem?_getD,List.getElem?_eq_getElem hlt];exact List.getElem_mem _
   exact((gM base.1).trans hp).mem_iff.2 this
  have h5:=K6 hm
  rw[dQ]at h5
  refine⟨?_,h5⟩
  refine Classical.byContradiction fun dI=>?_
  have:=base.2 _ (Nat.lt_of_not_le dI)
  rw[Fv hm]at this
  have:=getD_inj hq hlt (by omega) this
  omega
theorem rX(hq:q.Nodup)(hp:p.Perm q):aC p (path p q)=q∧∀l∈path p q,l+1<p.length:=by
 obtain⟨h1,h2,_⟩:=gO hq hp q.length (Nat.le_refl _)
 refine⟨zL (by rw[dQ];exact hp.length_eq) fun i hi=>h2 i ?_,h1⟩
 rw[dQ,hp.length_eq]at hi;exact hi
theorem j3(hq:q.Nodup)(hp:p.Perm q):∀i,i≤q.length→(de p q i).length≤i*p.length
 |0,_=>by simp[de]
 |i+1,hi=>by
  have:=j3 hq hp i (by omega)
  obtain⟨_,_,h3⟩:=gO hq hp i (by omega)
  rw[de,List.length_append,xL,Nat.succ_mul]
  have:=(h3 (by omega)).2
  omega
end
end bc
namespace bc
open aj
section
variable {n l:Nat} {ord:List Nat} {F G:Fn→Prop} {f c:Fn}
theorem vU:∀l g,fs ord (fun g=>F g∨G g) l g↔fs ord F l g∨fs ord G l g
 |0,g=>Iff.rfl
 |l+1,g=>by
  constructor
  ·rintro⟨f,hf,b,rfl⟩
   rcases(vU l f).1 hf with h|h
   ·exact .inl ⟨f,h,b,rfl⟩
   ·exact .inr ⟨f,h,b,rfl⟩
  ·rintro(⟨f,hf,b,rfl⟩|⟨f,hf,b,rfl⟩)
   ·exact⟨f,(vU l f).2 (.inl hf),b,rfl⟩
   ·exact⟨f,(vU l f).2 (.inr hf),b,rfl⟩
theorem yR(g:Fn):cg n ord (fun g=>F g∨G g) g↔cg n ord F g∨cg n ord G g:=by
 constructor
 ·rintro⟨l,hl,hf,hh⟩
  rcases(vU l g).1 hf with h|h
  ·exact .inl ⟨l,hl,h,hh⟩
  ·exact .inr ⟨l,hl,h,hh⟩
 ·rintro(⟨l,hl,hf,hh⟩|⟨l,hl,hf,hh⟩)
  ·exact⟨l,hl,(vU l g).2 (.inl hf),hh⟩
  ·exact⟨l,hl,(vU l g).2 (.inr hf),hh⟩
theorem jK{v:Nat}(h:¬gL f v)(x:Nat)(b:Bool):f (aI x v b)=f x:=by
 have h0:f (aI x v false)=f (aI x v true):=Classical.byContradiction fun hne=>h ⟨x,hne⟩
 have h1:=qe x v
 conv=>rhs;rw[←h1]
 cases b<;>cases x.testBit v<;>simp[h0]
theorem xF(hi:∀j,j<l→¬gL f (ord.getD j 0)):∀k,k≤l→fs ord (fun g=>g=f) k f
 |0,_=>rfl
 |k+1,hk=>⟨f,xF hi k (by omega),false,funext fun x=>(jK (hi k (by omega)) x false).symm⟩
theorem xG(hi:∀j,j<l→¬gL f (ord.getD j 0)):∀k,k≤l→∀g,fs ord (fun g=>g=f) k g→g=f
 |0,_,g,h=>h
 |k+1,hk,g,h=>by
  obtain⟨f',hf,b,rfl⟩:=h
  obtain rfl:=xG hi k (by omega) f' hf
  exact funext fun x=>jK (hi k (by omega)) x b
theorem vx(hi:∀j,j<l→¬gL f (ord.getD j 0)){b:Bool}(hc:c=fun x=>f (aI x (ord.getD l 0) b)):
  (∀j,j<l+1→¬gL c (ord.getD j 0))∧∀g,cg n ord (fun g=>g=c) g→cg n ord (fun g=>g=f) g:=by
 have h1:fs ord (fun g=>g=f) (l+1) c:=⟨f,xF hi l (Nat.le_refl _),b,hc⟩
 have h2:∀j,j<l+1→¬gL c (ord.getD j 0):=fun j hj=>tH (l+1) c h1 j hj
 refine⟨h2,?_⟩
 rintro g ⟨m,hm,hf,hh⟩
 by_cases e:m<l+1
 ·obtain rfl:=xG h2 m (by omega) g hf
  exact absurd hh (h2 m e)
 ·have key:∀d g,fs ord (fun g=>g=c) (l+1+d) g→fs ord (fun g=>g=f) (l+1+d) g:=fun d=>by
   induction d with
   |zero=>intro g hg;obtain rfl:=xG h2 (l+1) (Nat.le_refl _) g hg;exact h1
   |succ d ih=>rintro g ⟨f',Oc,b',rfl⟩;exact⟨f',ih f' Oc,b',rfl⟩
  obtain⟨d,rfl⟩:∃d,m=l+1+d:=⟨m-(l+1),by omega⟩
  exact⟨_,hm,key d g hf,hh⟩
theorem GS(hi:∀j,j<l→¬gL f (ord.getD j 0))(hl:l<n)(hh:gL f (ord.getD l 0)):cg n ord (fun g=>g=f) f:=⟨l,hl,xF hi l (Nat.le_refl _),hh⟩
end
section
variable {K:Kd} {S:Nat→Fn} {av:Nat→Nat} {ord:List Nat}
theorem Ok.below(h:Ok K S av)(ho:Ord K.n av ord){r l:Nat}(hr:live K.N r)(hl:l≤K.n)(hi:∀j,j<l→¬gL (S r) (ord.getD j 0)):l≤dep K.n av K.N r:=by
 cases e:K.N r with
 |none=>rw[cO e];exact hl
 |some d=>
  rw[aM e]
  refine Classical.byContradiction fun hlt=>?_
  have pD:av d.v<l:=Nat.lt_of_not_le hlt
  have:=hi _ pD
  rw[ho.of h.lv (h.mid.var e)]at this
  exact this (ov h.wf h.lv h.mid.int e)
theorem Ok.roomFor(h:Ok K S av)(ho:Ord K.n av ord){U:Fn→Prop}{k:Nat}(hk:oQ U k)(hfit:k+2≤K.cap)(hU:∀g,cg K.n ord (K.held S) g→U g){d:Nd}
 (hlo:live K.N d.lo)(hhi:live K.N d.hi)(hne:d.lo≠d.hi)(hv:d.v<K.n)(hlt:av d.v<dep K.n av K.N d.lo∧av d.v<dep K.n av K.N d.hi)(hg:U (ite S d))(hT:K.T d=none):K.used<K.cap:=by
 have hs:=h.size ho
 have hu:=h.mid.room
 obtain⟨l1,a1,a2,a3⟩:=hs
 have TC:ite S d∉l1:=fun hm=>by
  obtain⟨r,e,hr,he⟩:=(mg h.wf h.lv ho h.mid.int (fun r hr=>.inr (h.mid.held r hr)) h.reach (ite S d)).1 ((a3 _).2 hm)
  have hTd:¬K.N r=some d:=fun hN=>by
   have:=(h.mid.jB d r).2 ⟨hN,fun x=>x⟩
   rw[hT]at this;cases this
  apply hTd
  have LN:S r=ite S d:=he.symm
  have V0:e.v=d.v:=by
   have e1:=h.lv.lt e.v (h.mid.var hr)
   have e2:=h.lv.lt d.v hv
   rcases Nat.lt_trichotomy (av e.v) (av d.v)with hh|hh|hh
   ·exfalso
    obtain⟨z,hz⟩:=ov h.wf h.lv h.mid.int hr
    rw[LN]at hz
    apply hz
    unfold ite
    have i1:=h.wf.df h.lv h.mid.int hlo (h.mid.var hr) (by omega)
    have i2:=h.wf.df h.lv h.mid.int hhi (h.mid.var hr) (by omega)
    have hev:d.v≠e.v:=fun pZ=>by rw[pZ]at hh;omega
    simp only[aq,if_neg hev,i1,i2]
   ·exact h.lv.inj _ _ (h.mid.var hr) hv hh
   ·exfalso
    have hx:=h.wf.df h.lv h.mid.int (r:=r) (.inr ⟨e,hr⟩) hv (by rw[aM hr];exact hh)
    apply hne
    refine h.wf.same h.lv h.mid.int hlo hhi fun x=>?_
    have i1:=h.wf.df h.lv h.mid.int hlo hv hlt.1
    have i2:=h.wf.df h.lv h.mid.int hhi hv hlt.2
    have q1:=hx x false
    have q2:=hx x true
    rw[LN]at q1 q2
    have q3:=q1.trans q2.symm
    unfold ite at q3
    simp only[aq,if_true,i1,i2,Bool.false_eq_true,if_false]at q3
    exact q3
  have lT:∀(b:Bool) x,S (if b then e.hi else e.lo) x=S (if b then d.hi else d.lo) x:=fun b x=>by
   rw[←h.wf.child h.lv h.mid.int hr x b,LN,V0]
   have i1:=h.wf.df h.lv h.mid.int hlo hv hlt.1
   have i2:=h.wf.df h.lv h.mid.int hhi hv hlt.2
   unfold ite
   rw[aq,if_pos rfl,i1,i2]
   cases b<;>rfl
  have e1:e.lo=d.lo:=h.wf.same h.lv h.mid.int (h.mid.lo hr) hlo fun x=>lT false x
  have e2:e.hi=d.hi:=h.wf.same h.lv h.mid.int (h.mid.hi hr) hhi fun x=>lT true x
  have hed:∀a b:Nd,a.v=b.v→a.lo=b.lo→a.hi=b.hi→a=b:=fun a b h1 h2 h3=>by
   cases a;cases b;cases h1;cases h2;cases h3;rfl
  rw[hr,hed e d V0 e1 e2]
 obtain⟨l2,b1,b2,b3⟩:=hk
 have:=bV (l:=ite S d::l1) (l':=l2) (List.nodup_cons.2 ⟨TC,a1⟩) fun g TN=>by
  rcases List.mem_cons.1 TN with rfl|TN
  ·exact(b3 _).1 hg
  ·exact(b3 _).1 (hU g ((a3 g).2 TN))
 rw[List.length_cons]at this
 omega
end
end bc
namespace bc
open aj
section
variable {n v:Nat} {bs:List Bool} {lo hi ws:List Nat}
theorem zI(x:Nat)(hx:x<2^n):bit (g9 n bs) x=bs.getD x false:=by
 unfold bit g9
 have h:=pq hx
 rw[List.getD_eq_getElem?_getD,List.getElem?_map,List.getElem?_range h]
 show(eR bs (x/64) 64).testBit (x%64)=_
 rw[c4,decide_eq_true (Nat.mod_lt _ (by decide)),Bool.true_and,Nat.div_add_mod]
theorem zG(hn:n≤16)(hl:bs.length=2^n):cw n (g9 n bs):=by
 refine⟨hn,by simp[g9],fun w hw=>?_⟩
 obtain⟨i,hi,rfl⟩:=List.mem_map.1 hw
 rw[List.mem_range]at hi
 have:eR bs i 64&&&cj n=eR bs i 64:=by
  apply Nat.eq_of_testBit_eq;intro j
  rw[Nat.testBit_and,e9,c4]
  by_cases h6:6≤n
  ·rw[if_pos h6]
   cases bs.getD (64*i+j) false<;>simp
  ·rw[if_neg h6]
   have Mb:i=0:=by rw[sj (by omega)]at hi;omega
   subst Mb
   by_cases hj:j<2^n
   ·simp[hj]
   ·have:bs.getD (64*0+j) false=false:=by
     rw[List.getD_eq_getElem?_getD,List.getElem?_eq_none (by omega)];rfl
    rw[this];simp
 rw[←this];exact Nat.and_le_right
def Tm(n v:Nat)(lo hi:List Nat):List Bool:=(List.range (2^n)).map fun x=>if x.testBit v then bit hi x else bit lo x
def VY(n v:Nat)(lo hi:List Nat):List Nat:=g9 n (Tm n v lo hi)
theorem PA(hn:n≤16):cw n (VY n v lo hi):=zG hn (by simp[Tm])
theorem Ua(hv:v<n):eC n (VY n v lo hi)=fun x=>if x.testBit v then eC n hi x else eC n lo x:=by
 funext x
 unfold eC VY
 have hx:x%2^n<2^n:=Nat.mod_lt _ (Nat.two_pow_pos n)
 rw[zI _ hx,Tm,List.getD_eq_getElem?_getD,List.getElem?_map,List.getElem?_range hx]
 show(if(x%2^n).testBit v then _ else _)=_
 rw[Nat.testBit_mod_two_pow,decide_eq_true hv,Bool.true_and]
def lg(n:Nat)(b:Bool):List Bool:=List.replicate (2^n) b
def cu(n:Nat)(b:Bool):List Nat:=g9 n (lg n b)
theorem oD(hn:n≤16)(b:Bool):cw n (cu n b):=zG hn (by simp[lg])
theorem gg(n:Nat)(b:Bool):eC n (cu n b)=fun _=>b:=by
 funext x
 unfold eC cu
 have hx:x%2^n<2^n:=Nat.mod_lt _ (Nat.two_pow_pos n)
 rw[zI _ hx,lg,List.getD_eq_getElem?_getD,List.getElem?_replicate,if_pos hx];rfl
theorem zC(h:∀v,v<n→¬gL (eC n ws) v)(x:Nat):eC n ws x=eC n ws 0:=by
 have key:∀k,k≤n→eC n ws (x%2^k)=eC n ws 0:=fun k=>by
  induction k with
  |zero=>intro _;rw[show x%2^0=0 from Nat.mod_one x]
  |succ k ih=>
   intro hk
   rw[←ih (by omega)]
   have e:x%2^(k+1)=aI (x%2^k) k (x.testBit k):=by
    apply Nat.eq_of_testBit_eq;intro i
    rw[aq,Nat.testBit_mod_two_pow,Nat.testBit_mod_two_pow]
    by_cases e:i=k
    ·subst e;simp
    ·rw[if_neg e]
     congr 1
     exact decide_eq_decide.2 (by omega)
   rw[e,jK (h k (by omega))]
 have:=key n (Nat.le_refl _)
 rw[←this]
 unfold eC
 rw[Nat.mod_mod]
theorem eB(hn:n≤16)(hf:cw n ws)(b:Bool):ws=cu n b↔eC n ws=fun _=>b:=by
 constructor
 ·rintro rfl;exact gg n b
 ·intro h;exact k7 hf (oD hn b) (h.trans (gg n b).symm)
theorem XD:bit ws 0=eC n ws 0:=by unfold eC;rw[Nat.zero_mod]
theorem Ub(hn:n≤16)(hf:cw n ws)(h0:ws≠cu n false)(h1:ws≠cu n true):∃v,v<n∧aj.dep n ws v=true:=by
 refine Classical.byContradiction fun hno=>?_
 have nP:=zC (n:=n) (ws:=ws) fun v hv hh=>hno ⟨v,hv,(iS hf hv).1 hh⟩
 cases e:eC n ws 0 with
 |false=>exact h0 ((eB hn hf false).2 (funext fun x=>(nP x).trans e))
 |true=>exact h1 ((eB hn hf true).2 (funext fun x=>(nP x).trans e))
end
end bc
set_option maxRecDepth 100000
namespace Go.Proofs
open Go Go.Sx
open bc
theorem bE{ws:List Nat}{i:Nat}(h:i<ws.length):(iw ws)[i]? =some ((ws.getD i 0:Nat):Int):=by
 rw[cy (w:=ws.getD i 0)]
 rw[List.getD_eq_getElem?_getD,List.getElem?_eq_getElem h];rfl
theorem Ly{B:Hp}{v1 v2:Value}{a b:List Int}(h1:cE .i64 B v1 a)(h2:cE .i64 B v2 b)(bD:a.length<4611686018427387904):Rd Tryz.prog 191 #[v1,v2] B (· =.bool (decide (a=b))):=by
 intro g
 refine DP (R:=aE _) ?_
 unfold L191
 refine h1.aS (h2.aS ?_)
 refine ae.ql (Br.dec (fun hne=>bL.mk (.refl _) (by rw[decide_eq_false (fun e=>hne (by rw[e]))])) (fun heq=>?_))
 have hl:a.length=b.length:=by omega
 refine⟨fun vs H=>∃i:Nat,vs=[.int .i64 (i:Int)]∧H=B∧i≤a.length∧∀j,j<i→a[j]? =b[j]?,fun vs _=>a.length-bg vs 0,JE.mk ⟨0,rfl,rfl,Nat.zero_le _,fun j hj=>absurd hj (Nat.not_lt_zero _)⟩,?_⟩
 rintro w H ⟨i,hv,rfl,hi,hq⟩ gs
 simp only[List.cons.injEq,and_true]at hv
 subst hv
 refine h1.aS (ae.dL (Br.dec (fun hlt=>?_) (fun hlt=>?_)))
 ·refine h1.ld (List.getElem?_eq_getElem hlt) (fun _ h=>h) ?_
  refine h2.ld (List.getElem?_eq_getElem (show i<b.length by omega)) (fun _ h=>h) ?_
  refine ae.gj (Br.dec (fun hne=>bL.mk (.refl _) ?_) (fun heq=>?_))
  ·rw[decide_eq_false]
   intro e;subst e;exact hne rfl
  ·refine ae.aH (b:=1) (by simp[az];omega) ?_
   refine ay.of (.refl _) ⟨i+1,rfl,rfl,hlt,fun j hj=>?_⟩ (by show a.length-(((i+1:Nat):Int).toNat)<a.length-(((i:Nat):Int).toNat);omega)
   by_cases e:j=i
   ·subst e
    rw[List.getElem?_eq_getElem hlt,List.getElem?_eq_getElem (show j<b.length by omega),Classical.not_not.1 heq]
   ·exact hq j (by omega)
 ·refine bL.mk (.refl _) ?_
  rw[decide_eq_true]
  apply List.ext_getElem? fun j=>?_
  by_cases hj:j<i
  ·exact hq j hj
  ·rw[List.getElem?_eq_none (by omega),List.getElem?_eq_none (by omega)]
def Py(n:Nat)(p:List Int):Prop:=p.length=n∧∀v:Nat,v<n→p.count (v:Int)=1
instance (n:Nat)(p:List Int):Decidable (Py n p):=by unfold Py;infer_instance
theorem O7{B:Hp}{v:Value}{p:List Int}{n:Nat}(h:cE .i64 B v p)(hn:n<4611686018427387904)(bD:p.length<4611686018427387904):Rd Tryz.prog 119 #[v,.int .i64 (n:Int)] B (· =.bool (decide (Py n p))):=by
 intro g
 refine EH (R:=aE _) ?_
 unfold L119
 refine h.aS ?_
 refine ae.ql (Br.dec (fun hne=>bL.mk (.refl _) (by rw[decide_eq_false (fun e=>hne e.1)])) (fun heq=>?_))
 have hl:p.length=n:=by omega
 refine⟨fun vs H=>∃i:Nat,vs=[.int .i64 (i:Int)]∧H=B∧i≤n∧∀v:Nat,v<i→p.count (v:Int)=1,fun vs _=>n-bg vs 0,JE.mk ⟨0,rfl,rfl,Nat.zero_le _,fun j hj=>absurd hj (Nat.not_lt_zero _)⟩,?_⟩
 rintro w H ⟨i,hv,rfl,hi,hq⟩ gs
 simp only[List.cons.injEq,and_true]at hv
 subst hv
 refine ae.dL (Br.dec (fun hlt=>?_) (fun hlt=>?_))
 ·refine h.aS ?_
  refine⟨fun vs H'=>∃k:Nat,vs=[.int .i64 (((p.take k).count (i:Int):Nat):Int),.int .i64 (k:Int)]∧H'=H∧k≤p.length,fun vs _=>p.length-bg vs 1,JE.mk ⟨0,rfl,rfl,Nat.zero_le _⟩,?_⟩
  rintro w1 w2 H' ⟨k,hv,rfl,hk⟩ gs
  simp only[List.cons.injEq,and_true]at hv
  obtain⟨rfl,rfl⟩:=hv
  refine ae.dL (Br.dec (fun dI=>?_) (fun dI=>?_))
  ·intro J hJ
   have jL:=List.count_le_length (a:=(i:Int)) (l:=p.take k)
   rw[List.length_take]at jL
   have fin:J [.int .i64 (((p.take (k+1)).count (i:Int):Nat):Int)] H':=hJ _ _ fun gs=>by
    refine ae.aH (b:=1) (by simp[az];omega) ?_
    exact ay.of (.refl _) ⟨k+1,rfl,rfl,dI⟩ (by show p.length-(((k+1:Nat):Int).toNat)<p.length-(((k:Nat):Int).toNat);omega)
   rw[List.take_succ_eq_append_getElem dI,List.count_append,List.count_singleton]at fin
   refine h.ld (List.getElem?_eq_getElem dI) (fun _ h=>h) ?_
   refine ae.kJ (Br.dec (fun he=>?_) (fun he=>?_))
   ·rw[he,beq_self_eq_true,if_pos rfl]at fin
    exact ae.aH (b:=1) (by simp[az];omega) (JE.mk fin)
   ·rw[if_neg (by simpa using he),Nat.add_zero]at fin
    exact JE.mk fin
  ·obtain rfl:k=p.length:=by omega
   rw[List.take_length]
   refine ae.ql (b:=1) (Br.dec (fun hne=>bL.mk (.refl _) (by rw[decide_eq_false (fun e=>hne (e.2 i hlt))])) (fun aha=>?_))
   refine ae.aH (b:=1) (by simp[az];omega) ?_
   refine ay.of (.refl _) ⟨i+1,rfl,rfl,hlt,fun v hv=>?_⟩ (by show n-(((i+1:Nat):Int).toNat)<n-(((i:Nat):Int).toNat);omega)
   by_cases e:v=i
   ·subst e;omega
   ·exact hq v (by omega)
 ·obtain rfl:i=n:=by omega
  exact bL.mk (.refl _) (by rw[decide_eq_true ⟨hl,hq⟩])
theorem zf{p:List Int}{x:Int}{i:Nat}(h:x∉p.take i)(hi:i<p.length)(he:p[i]=x):p.idxOf x=i:=by
 have e:p=p.take i++p[i]::p.drop (i+1):=by
  conv=>lhs;rw[←List.take_append_drop i p]
  rw[List.drop_eq_getElem_cons hi]
 conv=>lhs;rw[e]
 rw[List.idxOf_append,if_neg h,he,List.idxOf_cons_self,List.length_take];omega
theorem yH{B:Hp}{v:Value}{p:List Int}{x:Int}(h:cE .i64 B v p)(bD:p.length<4611686018427387904):Rd Tryz.prog 188 #[v,.int .i64 x] B (· =.int .i64 (if x∈p then((p.idxOf x:Nat):Int)else-1)):=by
 intro g
 refine DU (R:=aE _) ?_
 unfold L188
 refine h.aS ?_
 refine⟨fun vs H=>∃i:Nat,vs=[.int .i64 (i:Int)]∧H=B∧i≤p.length∧x∉p.take i,fun vs _=>p.length-bg vs 0,JE.mk ⟨0,rfl,rfl,Nat.zero_le _,by simp⟩,?_⟩
 rintro w H ⟨i,hv,rfl,hi,hq⟩ gs
 simp only[List.cons.injEq,and_true]at hv
 subst hv
 refine ae.dL (Br.dec (fun hlt=>?_) (fun hlt=>?_))
 ·refine h.ld (List.getElem?_eq_getElem hlt) (fun _ h=>h) ?_
  refine ae.kJ (Br.dec (fun he=>bL.mk (.refl _) ?_) (fun he=>?_))
  ·rw[if_pos (by rw[←he];exact List.getElem_mem hlt),zf hq hlt he]
  ·refine ae.aH (b:=1) (by simp[az];omega) ?_
   refine ay.of (.refl _) ⟨i+1,rfl,rfl,hlt,?_⟩ (by show p.length-(((i+1:Nat):Int).toNat)<p.length-(((i:Nat):Int).toNat);omega)
   rw[List.take_succ_eq_append_getElem hlt,List.mem_append,List.mem_singleton]
   rintro(h|h)
   ·exact hq h
   ·exact he h.symm
 ·refine bL.mk (.refl _) ?_
  rw[List.take_of_length_le (by omega)]at hq
  rw[if_neg hq]
def mQ(p:List Int):Prop:=∀v:Nat,v<p.length→(v:Int)∈p
theorem ry{B:Hp}{v:Value}{p:List Int}(h:cE .i64 B v p)(bD:p.length<4611686018427387904):Rd Tryz.prog 235 #[v] B (fun r=>(r=.int .i64 0∧mQ p∧p.length≤64)∨(r=.int .i64 13∧mQ p∧64<p.length)∨(r=.int .i64 4∧¬mQ p)):=by
 intro g
 refine Dh (R:=aE _) ?_
 unfold L235
 refine⟨fun vs H=>∃i:Nat,vs=[.int .i64 (i:Int)]∧H=B∧i≤p.length∧∀v:Nat,v<i→(v:Int)∈p,fun vs _=>p.length-bg vs 0,JE.mk ⟨0,rfl,rfl,Nat.zero_le _,fun j hj=>absurd hj (Nat.not_lt_zero _)⟩,?_⟩
 rintro w H ⟨i,hv,rfl,hi,hq⟩ gs
 simp only[List.cons.injEq,and_true]at hv
 subst hv
 refine h.aS (ae.dL (Br.dec (fun hlt=>?_) (fun hlt=>?_)))
 ·refine ag.rd .here (yH h bD) ?_
  rintro v rfl
  by_cases hm:(i:Int)∈p
  ·rw[if_pos hm]
   refine ae.lss (Br.cq (by omega) ?_)
   refine ae.aH (b:=1) (by simp[az];omega) ?_
   refine ay.of (.refl _) ⟨i+1,rfl,rfl,hlt,fun v hv=>?_⟩ (by show p.length-(((i+1:Nat):Int).toNat)<p.length-(((i:Nat):Int).toNat);omega)
   by_cases e:v=i
   ·subst e;exact hm
   ·exact hq v (by omega)
  ·rw[if_neg hm]
   exact ae.lss (Br.gI (by decide) (bL.mk (.refl _) (.inr (.inr ⟨rfl,fun ha=>hm (ha i hlt)⟩))))
 ·obtain rfl:i=p.length:=by omega
  refine h.aS (ae.lQ (b:=64) (Br.dec (fun hg=>bL.mk (.refl _) (.inr (.inl ⟨rfl,hq,hg⟩))) (fun hg=>bL.mk (.refl _) (.inl ⟨rfl,hq,by omega⟩))))
theorem mP{p:List Nat}{n:Nat}(hp:p.Perm (List.range n)):mQ (iw p):=fun v hv=>by
 rw[an,hp.length_eq,List.length_range]at hv
 exact List.mem_map.2 ⟨v,hp.mem_iff.2 (List.mem_range.2 hv),rfl⟩
theorem JT{B:Hp}{v1 v2:Value}{p q:List Nat}{n:Nat}(h1:cE .i64 B v1 (iw p))(h2:cE .i64 B v2 (iw q))(hp:p.Perm (List.range n))(hq:q.Perm (List.range n))(hn:n≤64):Rd Tryz.prog 187 #[v1,v2] B (· =.int .i64 0):=by
 have e1:p.length=n:=by rw[hp.length_eq,List.length_range]
 have e2:q.length=n:=by rw[hq.length_eq,List.length_range]
 intro g
 refine DV (R:=aE _) ?_
 unfold L187
 refine ag.rd .here (ry h1 (by rw[an];omega)) ?_
 rintro v (⟨rfl,_,_⟩|⟨_,_,hl⟩|⟨_,hno⟩)
 rotate_left
 ·rw[an]at hl;omega
 ·exact absurd (mP hp) hno
 refine ag.rd .here (ry h2 (by rw[an];omega)) ?_
 rintro v (⟨rfl,_,_⟩|⟨_,_,hl⟩|⟨_,hno⟩)
 rotate_left
 ·rw[an]at hl;omega
 ·exact absurd (mP hq) hno
 refine ae.kJ ?_
 refine cv.or false (fun _=>ae.kJ ⟨rfl,rfl⟩) rfl fun gs=>?_
 refine cv.or false (fun _=>?_) rfl fun gs=>Br.no ?_
 ·refine h1.aS (h2.aS (ae.ql ⟨rfl,?_⟩))
  rw[an,an,decide_eq_false (by omega)]
 ·exact ae.gj (Br.cq (by decide) (bL.mk (.refl _) rfl))
theorem AY{B:Hp}{v:Value}{ord:List Nat}{l:Nat}(h:cE .i64 B v (iw ord))(hl:l+1<ord.length)(bD:ord.length≤1099511627776):
  Fc Tryz.prog 189 #[v,.int .i64 (l:Int)] B (fun r H=>∃N,H=N++B∧aQ 3 .i64 r (iw (ez ord l)) N):=by
 intro g
 refine DS (R:=aE _) ?_
 unfold L189
 refine aQ.pS (C:=[]) (H:=B) (c:=fun X=>X++B) aQ.nil hnew h (by rw[an];simp;omega) (by rw[an];simp;omega) fun v' C' ho=>?_
 rw[List.nil_append]at ho
 refine DR.self ?_
 refine ae.aH (b:=1) (by simp[az];omega) ?_
 refine ae.aH (b:=1) (by simp[az];omega) ?_
 refine ho.ld (x:=((ord.getD (l+1) 0:Nat):Int)) (bE hl) (fun _ h=>List.mem_append_left _ h) ?_
 refine ho.ld (x:=((ord.getD l 0:Nat):Int)) (bE (by omega)) (fun _ h=>List.mem_append_left _ h) ?_
 refine ho.ju (x:=((ord.getD (l+1) 0:Nat):Int)) .left (by rw[an];omega) fun C2 nr=>?_
 refine nr.ju (x:=((ord.getD l 0:Nat):Int)) .left (by rw[List.length_set,an];omega) fun C3 x6=>?_
 refine aE.here ⟨C3,rfl,?_⟩
 have e:((iw ord).set l ((ord.getD (l+1) 0:Nat):Int)).set (l+1) ((ord.getD l 0:Nat):Int)=iw (ez ord l):=by
  unfold ez
  rw[fS,fS]
 rw[e]at x6
 exact x6
theorem Bf{q:List Nat}{x:Nat}:(x:Int)∈iw q↔x∈q:=by
 unfold iw
 rw[List.mem_map]
 exact⟨fun⟨y,hy,e⟩=>by rw[←Int.ofNat.inj e];exact hy,fun h=>⟨x,h,rfl⟩⟩
theorem sF{B:Hp}{v:Value}{ord:List Nat}{l:Nat}(h:cE .i64 B v (iw ord))(hl:l+1<ord.length)(bD:ord.length≤1099511627776):
  Fc Tryz.prog 166 #[v,.int .i64 (l:Int)] B (fun r H=>∃N,H=N++B∧aQ 3 .i64 r (iw (ez ord l)) N):=by
 intro g
 refine D9 (R:=aE _) ?_
 unfold L166
 refine aQ.pS (C:=[]) (H:=B) (c:=fun X=>X++B) aQ.nil hnew h (by rw[an];simp;omega) (by rw[an];simp;omega) fun v' C' ho=>?_
 rw[List.nil_append]at ho
 refine DR.self ?_
 refine ae.aH (b:=1) (by simp[az];omega) ?_
 refine ae.aH (b:=1) (by simp[az];omega) ?_
 refine ho.ld (x:=((ord.getD (l+1) 0:Nat):Int)) (bE hl) (fun _ h=>List.mem_append_left _ h) ?_
 refine ho.ld (x:=((ord.getD l 0:Nat):Int)) (bE (by omega)) (fun _ h=>List.mem_append_left _ h) ?_
 refine ho.ju (x:=((ord.getD (l+1) 0:Nat):Int)) .left (by rw[an];omega) fun C2 nr=>?_
 refine nr.ju (x:=((ord.getD l 0:Nat):Int)) .left (by rw[List.length_set,an];omega) fun C3 x6=>?_
 refine aE.here ⟨C3,rfl,?_⟩
 have e:((iw ord).set l ((ord.getD (l+1) 0:Nat):Int)).set (l+1) ((ord.getD l 0:Nat):Int)=iw (ez ord l):=by
  unfold ez
  rw[fS,fS]
 rw[e]at x6
 exact x6
theorem LG(q:List Nat)(x:Nat):(iw q).idxOf (x:Int)=q.idxOf x:=by
 induction q with
 |nil=>rfl
 |cons y q ih=>
  show(((y:Nat):Int)::iw q).idxOf (x:Int)=_
  rw[List.idxOf_cons,List.idxOf_cons,ih]
  have:(((y:Nat):Int)==(x:Int))=(y==x):=by
   rw[Bool.eq_iff_iff];simp[Int.natCast_inj]
  rw[this]
theorem B4{B:Hp}{v1 v2:Value}{p q:List Nat}{n:Nat}(h1:cE .i64 B v1 (iw p))(h2:cE .i64 B v2 (iw q))(hp:p.Perm (List.range n))(hq:q.Perm (List.range n))(hn:n≤64):
  Fc Tryz.prog 120 #[v1,v2] B (fun r H=>∃s C,r=.tuple #[s,.int .i64 0]∧H=C++B∧aQ 3 .i64 s (iw (path p q)) C):=by
 have e1:p.length=n:=by rw[hp.length_eq,List.length_range]
 have e2:q.length=n:=by rw[hq.length_eq,List.length_range]
 have gW:q.Nodup:=hq.nodup_iff.2 List.nodup_range
 have hpq:=hp.trans hq.symm
 intro g
 refine EG (R:=aE _) ?_
 unfold L120
 refine ag.rd .here (JT h1 h2 hp hq hn) ?_
 rintro v rfl
 refine ae.gj (Br.cq (by decide) ?_)
 refine⟨fun vs H=>∃(i:Nat) (w8 w9:Value) (C N:Hp),vs=[w8,w9,.int .i64 (i:Int)]∧i≤n∧H=C++(N++B)∧aQ 3 .i64 w9 (iw (de p q i)) C∧cE .i64 (N++B) w8 (iw (aC p (de p q i))),fun vs _=>n-bg vs 2,
  JE.mk ⟨0,v1,_,[],[],rfl,Nat.zero_le _,rfl,aQ.nil,h1⟩,?_⟩
 rintro w8 w9 eY H ⟨i,u8,u9,C,N,hv,hi,rfl,ho,hw⟩ gs
 simp only[List.cons.injEq,and_true]at hv
 obtain⟨rfl,rfl,rfl⟩:=hv
 refine h2.aS ?_
 rw[an]
 refine ae.dL (Br.dec (fun hlt=>?_) (fun hlt=>?_))
 rotate_left
 ·obtain rfl:i=q.length:=by omega
  exact aE.mk (.cJ .right _) ⟨w9,C,rfl,rfl,ho⟩
 have spec:=gO gW hpq i (by omega)
 obtain⟨s1,s2,s3⟩:=spec
 obtain⟨s4,s5⟩:=s3 hlt
 have Ww:=j3 gW hpq (i+1) (by omega)
 have q6:(i+1)*p.length≤64*64:=Nat.mul_le_mul (by omega) (by omega)
 refine h2.ld (n:=((q.getD i 0:Nat):Int)) (bE hlt) (fun _ h=>List.mem_append_right _ (List.mem_append_right _ h)) ?_
 have hmem:q.getD i 0∈aC p (de p q i):=by
  have:q.getD i 0∈q:=by rw[List.getD_eq_getElem?_getD,List.getElem?_eq_getElem hlt];exact List.getElem_mem _
  exact((gM s1).trans hpq).mem_iff.2 this
 refine ag.rd (.app .here) (yH hw (by rw[an,dQ];omega)) ?_
 rintro v rfl
 rw[if_pos (Bf.2 hmem),LG]
 refine⟨fun vs H=>∃(j:Nat) (u8 u9:Value) (P:List Nat) (C N:Hp),vs=[u8,u9,.int .i64 (j:Int)]∧i≤j∧j<n∧P++Aw i j=de p q (i+1)∧H=C++(N++B)∧aQ 3 .i64 u9 (iw P) C∧cE .i64 (N++B) u8 (iw (aC p P)),fun vs _=>bg vs 2,
  JE.mk ⟨SW (aC p (de p q i)) (q.getD i 0),w8,w9,de p q i,C,N,rfl,s4,by omega,rfl,rfl,ho,hw⟩,?_⟩
 rintro Al jz lN H ⟨j,u8,u9,P,C2,N2,hv,hij,PT,hP,rfl,nr,mr⟩ gs
 simp only[List.cons.injEq,and_true]at hv
 obtain⟨rfl,rfl,rfl⟩:=hv
 refine ae.lQ (Br.dec (fun hgt=>?_) (fun hgt=>?_))
 ·obtain⟨j,rfl⟩:∃k,j=k+1:=⟨j-1,by omega⟩
  have hPl:P.length≤4096:=by
   have:=congrArg List.length hP
   rw[List.length_append]at this;omega
  refine ae.bC (b:=1) (by simp[az];omega) (by omega) ?_
  rw[Nat.add_sub_cancel]
  refine ag.fn (.app .here) (AY mr (by rw[dQ];omega) (by rw[dQ];omega)) ?_
  rintro v H ⟨N3,rfl,hv3⟩
  refine ae.bC (b:=1) (by simp[az];omega) (by omega) ?_
  rw[Nat.add_sub_cancel]
  refine ax.int (e:=3) (by kernel_rfl) (by kernel_rfl) (by kernel_rfl) fun bx=>?_
  refine nr.mK (.cons .left) (by exact .head _) (by rw[an];omega) (by rw[an];omega) fun v' C3 x6=>?_
  refine ae.bC (b:=1) (by simp[az];omega) (by omega) ?_
  rw[Nat.add_sub_cancel]
  refine ay.of .tail ⟨j,v,v',P++[j],C3,N3++N2,rfl,by omega,by omega,?_,by rw[List.append_assoc],by rw[bO];exact x6,?_⟩ ?_
  ·rw[←hP,mH (show i≤j by omega),List.append_assoc];rfl
  ·rw[dP]
   rw[List.append_assoc]
   exact hv3.ints.mono fun _ h=>List.mem_append_left _ h
  ·simp only[bg];omega
 ·obtain rfl:j=i:=by omega
  rw[tU (Nat.le_refl _),List.append_nil]at hP
  subst hP
  refine ae.aH (b:=1) (by simp[az];omega) ?_
  exact ay.of (.refl _) ⟨j+1,Al,jz,C2,N2,rfl,by omega,rfl,nr,mr⟩ (by simp only[bg];omega)
end Go.Proofs
set_option maxRecDepth 100000
namespace Go.Proofs
open Go Go.Sx
open bc
theorem F0(a k:Nat):decide ((a>>>k)%2=1)=a.testBit k:=by
 cases hb:a.testBit k
 ·rw[decide_eq_false];rw[aj.r8,hb];simp
 ·rw[decide_eq_true];rw[aj.r8,hb]
theorem rV{B:Hp}{v:Value}{n x:Nat}{ws:List Nat}(ht:jS B v ⟨n,ws⟩)(hf:aj.cw n ws)(hx:x<2^n):Rd Tryz.prog 162 #[v,.int .i64 (x:Int)] B (· =.bool (aj.bit ws x)):=by
 obtain⟨s,rfl,hw⟩:=ht
 have hn:=hf.lD
 have hp:2^n≤65536:=Nat.pow_le_pow_right (n:=2) (by decide) hn
 have hi:x/64<ws.length:=by rw[hf.len];exact aj.pq hx
 intro g
 refine Ed (R:=aE _) ?_
 unfold L162
 intro b1 _
 refine aa.mk (Ld.mk (v:=s) (by exact .head _) rfl ?_)
 refine ae.u3 (b:=64) (by simp[az];omega) (by decide) ?_
 have hg:(iw ws)[x/64]? =some ((ws.getD (x/64) 0:Nat):Int):=bE hi
 refine hw.1.ld hg zS ?_
 have hlt:ws.getD (x/64) 0<18446744073709551616:=by
  rw[List.getD_eq_getElem?_getD,List.getElem?_eq_getElem hi];exact hf.lt (List.getElem_mem hi)
 refine ae.Hq (b:=64) (by decide) ?_
 refine ae.jJ (by simpa[az]using hlt) ?_
 refine ae.Hq (b:=2) (by decide) ?_
 refine ae.gp (b:=1) ?_
 rw[F0]
 exact bL.mk .tail rfl
theorem SR{F:Nat→Bool}{W i:Nat}(hi:i<W):((List.range W).map fun k=>if k<i then F k else false).set i (F i)=(List.range W).map fun k=>if k<i+1 then F k else false:=by
 apply List.ext_getElem?
 intro j
 by_cases e:i=j
 ·subst e;simp[hi]
 ·rw[List.getElem?_set_ne e]
  by_cases hj:j<W
  ·simp only[List.getElem?_map,List.getElem?_range hj,Option.map_some]
   by_cases h2:j<i
   ·rw[if_pos h2,if_pos (by omega)]
   ·rw[if_neg h2,if_neg (by omega)]
  ·rw[List.getElem?_eq_none (by simp;omega),List.getElem?_eq_none (by simp;omega)]
theorem Q2{F:Nat→Bool}{W:Nat}:List.replicate W false=(List.range W).map fun k=>if k<0 then F k else false:=by
 apply List.ext_getElem?
 intro j
 by_cases hj:j<W
 ·simp[hj]
 ·rw[List.getElem?_eq_none (by simp;omega),List.getElem?_eq_none (by simp;omega)]
theorem Q4{F:Nat→Bool}{W:Nat}:((List.range W).map fun k=>if k<W then F k else false)=(List.range W).map F:=List.map_congr_left fun k hk=>by rw[if_pos (List.mem_range.1 hk)]
theorem Io(n:Nat)(b:Bool):lg n b=(List.range (2^n)).map fun _=>b:=by
 unfold lg
 apply List.ext_getElem?
 intro j
 by_cases hj:j<2^n
 ·simp[hj]
 ·rw[List.getElem?_eq_none (by simp;omega),List.getElem?_eq_none (by simp;omega)]
theorem pO{n:Nat}{b:Bool}(hn:n≤16)(B:Hp):Px Tryz.prog 236 #[.int .i64 (n:Int),.bool b] B (fun r H=>jS H r ⟨n,cu n b⟩):=by
 intro g
 have hp:2^n≤65536:=Nat.pow_le_pow_right (n:=2) (by decide) hn
 refine Dg (R:=aE _) ?_
 unfold L236
 intro b1 _
 refine ae.rI (a:=1) (by simp[IntKind.bits];omega) (by rw[Nat.one_shiftLeft];simp[az];omega) ?_
 rw[Nat.one_shiftLeft]
 refine bZ.nV (by omega) fun b2=>?_
 rw[Q2 (F:=fun _=>b)]
 refine⟨fun vs H=>∃k:Nat,vs=[.int .i64 (k:Int)]∧k≤2^n∧H=(b1,.cells #[.int .i64 0,.slice none 0 0] 57 (0,0))::(b2,.cells (cX ((List.range (2^n)).map fun j=>if j<k then b else false)) 4 (0,0))::B,
  fun vs _=>2^n-bg vs 0,JE.of .swap ⟨0,rfl,Nat.zero_le _,rfl⟩,?_⟩
 rintro w H ⟨k,hv,hk,rfl⟩ gs
 simp only[List.cons.injEq,and_true]at hv
 subst hv
 refine aG.mk (ae.dL (Br.dec (fun hlt=>?_) (fun hlt=>?_)))
 ·refine ah.nat hlt ?_
  refine St.nV (l:=(List.range (2^n)).map fun j=>if j<k then b else false) (by exact .tail (.head _)) (by simpa using hlt) ?_
  rw[SR (F:=fun _=>b) hlt]
  refine ae.aH (b:=1) (by simp[az];omega) ?_
  exact ay.mk ⟨k+1,rfl,by omega,rfl⟩ (by simp[bg];omega)
 ·obtain rfl:k=2^n:=by omega
  rw[Q4 (F:=fun _=>b),←Io]
  have hlen:(lg n b).length=2^n:=by simp[lg]
  have hB:=iG.block (b:=b2) (cap:=2^n) (l:=lg n b) (T:=4) (fz:=(0,0)) (B:=(b2,.cells (cX (lg n b)) 4 (0,0))::B) (.head _) (by omega)
  rw[hlen]at hB
  refine ag.px (.cons .here) (r5 hn hB (by rw[hlen];exact iQ) (by rw[hlen];exact iQ)) ?_
  rintro r N ⟨s,rfl,hw⟩
  have hone:=aB hw
  refine St.whole (r:=[.int .i64 (n:Int),s]) (by exact .head _) rfl rfl (by simpa[Value.oneCell']using hone) ?_
  refine aA.whole (r:=[.int .i64 (n:Int),s]) (by exact .head _) rfl ?_
  exact oG.mk (by repeat (first|exact aV.refl _|apply aV.cons|apply aV.app)) ⟨s,rfl,hw.mono zS⟩
theorem VX{B:Hp}{v1 v2:Value}{n v:Nat}{lo hi:List Nat}(h1:jS B v1 ⟨n,lo⟩)(f1:aj.cw n lo)(h2:jS B v2 ⟨n,hi⟩)(f2:aj.cw n hi)(hv:v<64):
  Px Tryz.prog 237 #[.int .i64 (v:Int),v1,v2] B (fun r H=>jS H r ⟨n,VY n v lo hi⟩):=by
 obtain⟨s1,rfl,w1⟩:=h1
 obtain⟨s2,rfl,w2⟩:=h2
 have hn:=f1.lD
 have hp:2^n≤65536:=Nat.pow_le_pow_right (n:=2) (by decide) hn
 let F:Nat→Bool:=fun x=>if x.testBit v then aj.bit hi x else aj.bit lo x
 intro g
 refine Df (R:=aE _) ?_
 unfold L237
 intro b1 _ b3 _ b5 _
 refine aa.mk (Ld.mk (v:=.int .i64 (n:Int)) (by exact .tail _ (.tail _ (.head _))) rfl ?_)
 refine ae.rI (a:=1) (by simp[IntKind.bits];omega) (by rw[Nat.one_shiftLeft];simp[az];omega) ?_
 rw[Nat.one_shiftLeft]
 refine bZ.nV (by omega) fun b2=>?_
 rw[Q2 (F:=F)]
 refine⟨fun vs H=>∃k:Nat,vs=[.int .i64 (k:Int)]∧k≤2^n∧H=(b5,.cells #[.int .i64 0,.slice none 0 0] 57 (0,0))::(b2,.cells (cX ((List.range (2^n)).map fun j=>if j<k then F j else false)) 4 (0,0))::(b3,.cells #[.int .i64 (n:Int),s2] 57 (0,0))::(b1,.cells #[.int .i64 (n:Int),s1] 57 (0,0))::B,
  fun vs _=>2^n-bg vs 0,JE.of .swap ⟨0,rfl,Nat.zero_le _,rfl⟩,?_⟩
 rintro w H ⟨k,xj,hk,rfl⟩ gs
 simp only[List.cons.injEq,and_true]at xj
 subst xj
 refine aG.mk (ae.dL (Br.dec (fun hlt=>?_) (fun hlt=>?_)))
 ·intro J hJ
  have fin:J [] ((b5,.cells #[.int .i64 0,.slice none 0 0] 57 (0,0))::(b2,.cells (cX ((List.range (2^n)).map fun j=>if j<k+1 then F j else false)) 4 (0,0))::(b3,.cells #[.int .i64 (n:Int),s2] 57 (0,0))::(b1,.cells #[.int .i64 (n:Int),s1] 57 (0,0))::B):=hJ _ fun gs=>by
   refine ae.aH (b:=1) (by simp[az];omega) ?_
   exact ay.mk ⟨k+1,rfl,by omega,rfl⟩ (by simp[bg];omega)
  refine ae.jJ (by simp[az];omega) (ae.Hq (b:=2) (by decide) (ae.gp (b:=1) ?_))
  rw[F0]
  refine Br.mk (fun hb'=>?_) (fun hb'=>?_)
  ·skip
   refine aA.whole (r:=[.int .i64 (n:Int),s2]) (by exact .tail _ (.tail _ (.head _))) rfl ?_
   refine ag.rd (.cons (.cons (.cons (.cons .here)))) (rV (v:=.agg (List.toArray [.int .i64 (n:Int),s2])) (n:=n) (ws:=hi) ⟨s2,rfl,w2⟩ f2 hlt) ?_
   rintro r rfl
   refine ah.nat hlt ?_
   refine St.nV (l:=(List.range (2^n)).map fun j=>if j<k then F j else false) (by exact .tail (.head _)) (by simpa using hlt) ?_
   have e:aj.bit hi k=F k:=by show _=if k.testBit v then _ else _;rw[if_pos hb']
   rw[e,SR hlt]
   exact JE.mk fin
  ·skip
   refine aA.whole (r:=[.int .i64 (n:Int),s1]) (by exact .tail _ (.tail _ (.tail _ (.head _)))) rfl ?_
   refine ag.rd (.cons (.cons (.cons (.cons .here)))) (rV (v:=.agg (List.toArray [.int .i64 (n:Int),s1])) (n:=n) (ws:=lo) ⟨s1,rfl,w1⟩ f1 hlt) ?_
   rintro r rfl
   refine ah.nat hlt ?_
   refine St.nV (l:=(List.range (2^n)).map fun j=>if j<k then F j else false) (by exact .tail (.head _)) (by simpa using hlt) ?_
   have e:aj.bit lo k=F k:=by show _=if k.testBit v then _ else _;rw[hb'];rfl
   rw[e,SR hlt]
   exact JE.mk fin
 ·obtain rfl:k=2^n:=by omega
  rw[Q4 (F:=F)]
  have hlen:(Tm n v lo hi).length=2^n:=by simp[Tm]
  refine aa.mk (Ld.mk (v:=.int .i64 (n:Int)) (by exact .tail _ (.tail _ (.tail _ (.head _)))) rfl ?_)
  have hB:=iG.block (b:=b2) (cap:=2^n) (l:=Tm n v lo hi) (T:=4) (fz:=(0,0)) (B:=(b2,.cells (cX (Tm n v lo hi)) 4 (0,0))::(b3,.cells #[.int .i64 (n:Int),s2] 57 (0,0))::(b1,.cells #[.int .i64 (n:Int),s1] 57 (0,0))::B) (.head _) (by omega)
  rw[hlen]at hB
  refine ag.px (.cons .here) (r5 hn hB (by rw[hlen];exact iQ) (by rw[hlen];exact iQ)) ?_
  rintro r N ⟨s,rfl,hw⟩
  have hone:=aB hw
  refine St.whole (r:=[.int .i64 (n:Int),s]) (by exact .head _) rfl rfl (by simpa[Value.oneCell']using hone) ?_
  refine aA.whole (r:=[.int .i64 (n:Int),s]) (by exact .head _) rfl ?_
  exact oG.mk (by repeat (first|exact aV.refl _|apply aV.cons|apply aV.app)) ⟨s,rfl,hw.mono zS⟩
theorem kW{B:Hp}{v:Value}{n:Nat}{ws:List Nat}(ht:jS B v ⟨n,ws⟩)(hf:aj.cw n ws):Rd Tryz.prog 190 #[v] B (· =.bool (decide (ws=cu n false∨ws=cu n true))):=by
 obtain⟨s,rfl,hw⟩:=ht
 have hn:=hf.lD
 have hl:=fM hf
 intro g
 refine DQ (R:=aE _) ?_
 unfold L190
 intro b1 _ J hJ
 refine DR.self ?_
 refine aA.whole (r:=[.int .i64 (n:Int),s]) (by exact .head _) rfl ?_
 refine aa.mk (Ld.mk (v:=.int .i64 (n:Int)) (by exact .head _) rfl ?_)
 intro F1
 refine ag.px .here (pO (b:=false) hn _) ?_
 rintro v N h1
 refine⟨.right,?_⟩
 intro F2
 refine ag.rd .here (kM (v1:=.agg (List.toArray [.int .i64 (n:Int),s])) (a:=⟨n,ws⟩) ⟨s,rfl,hw.mono zS⟩ h1 (by show ws.length<_;omega)) ?_
 rintro v rfl
 refine⟨.right,?_⟩
 refine Br.dec (fun he=>?_) (fun he=>?_)
 ·have he':ws=cu n false:=by injection he
  refine JE.of (.bQ .tail) (hJ _ _ fun gs=>bL.mk (.refl _) ?_)
  rw[decide_eq_true (.inl he')]
 ·have he':ws≠cu n false:=fun e=>he (by rw[e])
  refine aA.whole (r:=[.int .i64 (n:Int),s]) (by exact .head _) rfl ?_
  refine aa.mk (Ld.mk (v:=.int .i64 (n:Int)) (by exact .head _) rfl ?_)
  intro F3
  refine ag.px .here (pO (b:=true) hn _) ?_
  rintro v N2 h2
  refine⟨.bQ .right,?_⟩
  intro F4
  refine ag.rd .here (kM (v1:=.agg (List.toArray [.int .i64 (n:Int),s])) (a:=⟨n,ws⟩) ⟨s,rfl,hw.mono zS⟩ h2 (by show ws.length<_;omega)) ?_
  rintro v rfl
  refine⟨.bQ .right,?_⟩
  refine aD.mk (JE.of (.bQ (.bQ .tail)) (hJ _ _ fun gs=>bL.mk (.refl _) ?_))
  by_cases h3:ws=cu n true
  ·subst h3
   rw[decide_eq_true rfl,decide_eq_true (.inr rfl)];rfl
  ·rw[decide_eq_false (fun e=>h3 (by injection e)),decide_eq_false (fun e=>e.elim he' h3)];rfl
end Go.Proofs
namespace Go.Sx
open Go
section
variable {P:Program} {g:Gh} {H C:Hp} {c:Hp→Hp}
theorem aR.KX{T:TypeId}{k j:Nat}{v x:Value}{rs:List (List Value)}(hs:aR T k v rs C)(hh:cz C H c){i:Nat}{kd:IntKind}{r:List Value}(hr:rs[i]? =some r)(hj:j<k)(h1:x.oneCell'=true){K:Hp→Prop}
 (hk:∀C',aR T k v (rs.set i (r.set j x)) C'→K (c C')):ah k v (.int kd (i:Int)) fun p=>aa j p fun q=>St 1 H q x K:=by
 obtain⟨A,B,e⟩:=hh.split
 have e2:=hh.spec.1
 rw[e]at e2
 subst e2
 have hi:=(List.getElem?_eq_some_iff.1 hr).1
 obtain⟨b',aL,rfl,rfl,aK⟩:=hs.pos (by omega)
 have hg:(rs++aL)[i]? =some r:=by rw[List.getElem?_append_left hi];exact hr
 have uL:=aK r (List.mem_append_left _ (List.mem_of_getElem? hr))
 refine ah.nat hi (aa.mk (St.cell (l:=rs++aL) (((cK.head _).append B).bP A) aK hg hj h1 ?_))
 have e3:(rs++aL).set i (r.set j x)=rs.set i (r.set j x)++aL:=by rw[List.set_append_left _ _ hi]
 rw[e3]
 have:=hk [(b',.cells (rows (rs.set i (r.set j x)++aL)) T (0,0))] (aR.mk' (aL:=aL) (fun y hy=>?_) (by simp) (by simp))
 ·rwa [e]at this
 ·rcases List.mem_append.1 hy with hy|hy
  ·rcases List.mem_or_eq_of_mem_set hy with hy|rfl
   ·exact aK y (List.mem_append_left _ hy)
   ·simpa using uL
  ·exact aK y (List.mem_append_right _ hy)
theorem ia.app{α:Type}{p:List Value→α→Prop}{rs rs2:List (List Value)}{l l2:List α}(h:ia p rs l)(h2:ia p rs2 l2):ia p (rs++rs2) (l++l2):=by
 refine⟨by simp[h.1,h2.1],fun i r x a b=>?_⟩
 by_cases e:i<l.length
 ·rw[List.getElem?_append_left e]at b
  rw[List.getElem?_append_left (by rw[h.1];exact e)]at a
  exact h.2 i _ _ a b
 ·rw[List.getElem?_append_right (by omega)]at b
  rw[List.getElem?_append_right (by rw[h.1];omega),h.1]at a
  exact h2.2 _ _ _ a b
theorem ia.set{α:Type}{p:List Value→α→Prop}{rs:List (List Value)}{l:List α}(h:ia p rs l){i:Nat}{r:List Value}{x:α}(hx:p r x):ia p (rs.set i r) (l.set i x):=by
 refine⟨by simp[h.1],fun j r' x' a b=>?_⟩
 by_cases e:i=j
 ·subst e
  rw[List.getElem?_set_self']at a b
  cases h1:rs[i]? with
  |none=>rw[h1]at a;simp at a
  |some y=>
   cases h2:l[i]? with
   |none=>rw[h2]at b;simp at b
   |some z=>
    rw[h1]at a;rw[h2]at b
    simp at a b
    subst a;subst b;exact hx
 ·rw[List.getElem?_set_ne e]at a b
  exact h.2 j _ _ a b
theorem fG.pS{T:TypeId}{v x:Value}{ts Vv:List Tb}{B0:Hp}(h:fG T v ts C B0)(hh:cz C H c)(hx:cV B0 x Vv)(hs:∀y∈B0,y∈H)
 (hl:ts.length+Vv.length≤4398046511103){K:Value→Hp→Prop}(hk:∀v' C',fG T v' (ts++Vv) C' B0→K v' (c C')):App P T 2 32 (.agg #[.int .i64 0,.slice Option.none 0 0]) H v x K:=by
 obtain⟨A,B,e⟩:=hh.split
 have e2:=hh.spec.1
 rw[e]at e2
 subst e2
 obtain⟨rs,h1,h2⟩:=h
 obtain⟨rs2,g1,g2⟩:=hx
 obtain⟨a,cap,rfl,hc⟩:=Sl.cells (g1.mono hs)
 have l1:=h2.1
 have l2:=g2.1
 refine aR.apps h1 hc g1.1 (fun r hr u hu=>?_) ⟨[.int .i64 0,.slice Option.none 0 0],rfl,rfl⟩ (by omega) (by omega) fun v' C' ho=>by have:=hk v' C' ⟨_,ho,h2.app g2⟩;rwa [e]at this
 obtain⟨i,hi,he⟩:=List.getElem_of_mem hr
 have hlt:i<Vv.length:=by omega
 obtain⟨s,h3,hw⟩:=g2.2 i r Vv[i] (by rw[List.getElem?_eq_getElem hi,he]) (List.getElem?_eq_getElem hlt)
 subst h3
 simp only[List.mem_cons,List.not_mem_nil,or_false]at hu
 rcases hu with rfl|rfl
 ·rfl
 ·obtain⟨a,c,rfl,_⟩:=hw.1.shape;rfl
end
end Go.Sx
set_option maxRecDepth 100000
namespace Go.Proofs
open Go Go.Sx
open bc
def Vd(n:Nat)(B:Hp)(v:Value)(LL:List aj.Fs):Prop:=∃rs,Sl 1 B v rs∧ia (fun r L=>∃x,r=[x]∧cV B x (gn n L)) rs LL
theorem Vd.aS{n:Nat}{B:Hp}{v:Value}{LL:List aj.Fs}(h:Vd n B v LL){K:Value→Prop}(hk:K (.int .i64 LL.length)):aG v K:=by
 obtain⟨rs,h1,h2⟩:=h;refine h1.aS ?_;rw[h2.1];exact hk
theorem Vd.ld{n:Nat}{B H:Hp}{v:Value}{LL:List aj.Fs}{kd:IntKind}(h:Vd n B v LL){i:Nat}{L:aj.Fs}(hi:LL[i]? =some L)(hs:∀x∈B,x∈H){K:Value→Prop}(hk:∀x,cV B x (gn n L)→K x):ah 1 v (.int kd (i:Int)) (fun p=>Ld H p K):=by
 obtain⟨rs,h1,h2⟩:=h
 obtain⟨r,hr,x,rfl,hx⟩:=h2.get hi
 exact ah.sl h1 hr fun p hp=>Ld.at hp hs (hk x hx)
section
variable {n:Nat} {ord:List Nat} {L:aj.Fs}
theorem F5:∀k,(cur n ord L k).length≤2^k*L.length
 |0=>by rw[cur,Nat.pow_zero,Nat.one_mul];exact qa L
 |k+1=>by
  have h1:=zz n (ord.getD k 0) (cur n ord L k)
  have h2:=F5 k
  rw[cur,Nat.pow_succ,Nat.mul_comm (2^k) 2,Nat.mul_assoc]
  omega
theorem zR(hn:n≤16){k:Nat}(hk:k≤n):(cur n ord L k).length≤65536*L.length:=
 Nat.le_trans (F5 k) (Nat.mul_le_mul_right _ (Nat.pow_le_pow_right (n:=2) (by decide) (Nat.le_trans hk hn)))
theorem nm(hn:n≤16){k:Nat}(hk:k≤n):(ow n ord L k).length≤65536*L.length:=
 Nat.le_trans (List.length_filter_le _ _) (zR hn hk)
theorem oZ(hn:n≤16):∀k,k≤n→dR n ord L k≤k*(65536*L.length)
 |0,_=>by simp[dR]
 |k+1,hk=>by
  have h1:=oZ hn k (by omega)
  have h2:=nm (ord:=ord) (L:=L) hn (k:=k) (by omega)
  rw[dR,Nat.succ_mul];omega
def iC(n:Nat)(ord:List Nat)(L:aj.Fs)(k:Nat):List aj.Fs:=(List.range k).map (ow n ord L)
theorem qn{k m:Nat}(h:m<k):(iC n ord L k)[m]? =some (ow n ord L m):=by unfold iC;rw[List.getElem?_map,List.getElem?_range h];rfl
theorem qo{B:Hp}{v o:Value}(hL:cV B v (gn n L))(ho:cE .i64 B o (iw ord))(hlen:ord.length=n)(hlt:∀i,i<n→ord.getD i 0<n)(hf:∀t∈L,aj.cw n t)(hn:n≤16)(bD:L.length≤2097152):
  Px Tryz.prog 227 #[v,o] B (fun r H=>Vd n H r (iC n ord L n)):=by
 intro g
 refine Dp (R:=aE _) ?_
 unfold L227
 refine ag.px .here (sQ hL hf (by omega)) ?_
 rintro v1 N0 As
 refine ho.aS ?_
 rw[an,hlen]
 refine⟨fun vs H=>∃(k:Nat) (w8 w9:Value) (rs:List (List Value)) (C N:Hp),vs=[w8,w9,.int .i64 (k:Int)]∧k≤n∧H=C++(N++B)∧aR 28 1 w8 rs C∧ia (fun r L=>∃x,r=[x]∧cV (N++B) x (gn n L)) rs (iC n ord L k)∧cV (N++B) w9 (gn n (cur n ord L k)),
  fun vs _=>n-bg vs 2,JE.mk ⟨0,_,v1,[],[],N0,rfl,Nat.zero_le _,rfl,aR.nil _ _,ia.nil,As⟩,?_⟩
 rintro w8 w9 eY H ⟨k,u8,u9,rs,C,N,hv,hk,rfl,hC,hE,hc⟩ gs
 simp only[List.cons.injEq,and_true]at hv
 obtain⟨rfl,rfl,rfl⟩:=hv
 refine ae.dL (Br.dec (fun dI=>?_) (fun dI=>?_))
 rotate_left
 ·obtain rfl:k=n:=by omega
  refine oG.mk (.app (.app (.refl _))) ⟨rs,(Sl.qV hC (by decide)).mono fun _ h=>List.mem_append_left _ h,hE.mono fun r L ⟨x,e,h⟩=>⟨x,e,h.mono fun _ h=>List.mem_append_right _ h⟩⟩
 have jL:=zR (ord:=ord) (L:=L) hn hk
 have RG:=nx (ord:=ord) hf hn k
 refine ho.ld (n:=((ord.getD k 0:Nat):Int)) (bE (by omega)) (fun _ h=>List.mem_append_right _ (List.mem_append_right _ h)) ?_
 refine ag.px (.app .here) (G4 hc RG (hlt k dI) (by omega)) ?_
 rintro v2 N2 Rg
 obtain⟨sa,sc,rfl⟩:∃a c,v2=Value.slice a (gn n (ow n ord L k)).length c:=by obtain⟨rs,h1,h2⟩:=Rg;obtain⟨a,c,h,_⟩:=h1.shape;have:=h2.1;rw[this]at h;exact⟨a,c,h⟩
 refine ax.cell (e:=28) (z:=.slice none 0 0) (by kernel_rfl) (by kernel_rfl) (by kernel_rfl) rfl fun bx=>?_
 have uL:=hE.1
 have BB:(iC n ord L k).length=k:=by simp[iC]
 refine hC.mK (r:=[.slice sa (gn n (ow n ord L k)).length sc]) (.cons .left) (by exact .head _) rfl (by simp[Value.oneCell']) ⟨[.slice none 0 0],rfl,rfl⟩ (by omega) (by omega) fun v' C3 hC3=>?_
 refine ag.px (B:=N2++(N++B)) (.cons (.app .here)) (G5 (hc.mono fun _ h=>List.mem_append_right _ h) RG hn (hlt k dI) (by omega)) ?_
 rintro v3 N3 hv3
 refine ae.aH (b:=1) (by simp[az];omega) ?_
 refine ay.of .tail ⟨k+1,v',v3,_,C3,N3++(N2++N),rfl,by omega,by simp only[List.append_assoc],hC3,?_,?_⟩ (by simp only[bg];omega)
 ·have e:iC n ord L (k+1)=iC n ord L k++[ow n ord L k]:=by unfold iC;rw[List.range_succ,List.map_append];rfl
  rw[e]
  simp only[List.append_assoc]
  exact(hE.mono fun r L ⟨x,e,h⟩=>⟨x,e,h.mono zS⟩).snoc ⟨_,rfl,Rg.mono zS⟩
 ·simp only[List.append_assoc];exact hv3
theorem KN{B:Hp}{v o:Value}(hL:cV B v (gn n L))(ho:cE .i64 B o (iw ord))(hlen:ord.length=n)(hlt:∀i,i<n→ord.getD i 0<n)(hf:∀t∈L,aj.cw n t)(hn:n≤16)(bD:L.length≤2097152):
  Rd Tryz.prog 229 #[v,o] B (· =.int .i64 ((dR n ord L n:Nat):Int)):=by
 intro g
 refine Dm (R:=aE _) ?_
 unfold L229
 refine ag.px .here (qo hL ho hlen hlt hf hn bD) ?_
 rintro v1 N As
 refine As.aS ?_
 rw[show(iC n ord L n).length=n by simp[iC]]
 refine⟨fun vs H=>∃k:Nat,vs=[.int .i64 ((dR n ord L k:Nat):Int),.int .i64 (k:Int)]∧k≤n∧H=N++B,fun vs _=>n-bg vs 1,JE.mk ⟨0,rfl,Nat.zero_le _,rfl⟩,?_⟩
 rintro w8 w9 H ⟨k,hv,hk,rfl⟩ gs
 simp only[List.cons.injEq,and_true]at hv
 obtain⟨rfl,rfl⟩:=hv
 refine ae.dL (Br.dec (fun dI=>?_) (fun dI=>?_))
 ·refine As.ld (qn dI) (fun _ h=>h) fun x hx=>?_
  refine hx.aS ?_
  rw[aW]
  have h1:=nm (ord:=ord) (L:=L) hn hk
  have h2:=oZ (ord:=ord) (L:=L) hn k hk
  have h3:k*(65536*L.length)≤16*(65536*2097152):=Nat.mul_le_mul (by omega) (Nat.mul_le_mul_left _ bD)
  refine ae.aH (by simp[az];omega) ?_
  refine ae.aH (b:=1) (by simp[az];omega) ?_
  exact ay.of (.refl _) ⟨k+1,by rw[dR],by omega,rfl⟩ (by simp only[bg];omega)
 ·obtain rfl:k=n:=by omega
  exact bL.mk .right rfl
end
structure Md where
 n:Nat
 cap:Nat
 ord:List Nat
 held:List (List Nat×Nat)
 tr:List Nat
def Md.cr(M:Md):aj.Fs:=M.held.map Prod.fst
structure Md.oK(M:Md):Prop where
 lD:M.n≤16
 cap:M.cap≤1048576
 len:M.ord.length=M.n
 lt:∀i,i<M.n→M.ord.getD i 0<M.n
 kI:∀t∈M.cr,aj.cw M.n t
 HZ:M.held.length≤65536
 cnt:∀e∈M.held,e.2≤65535
 Yz:M.tr.length≤1099511627776
theorem Md.dc(M:Md):M.cr.length=M.held.length:=by simp[Md.cr]
def NI(n:Nat)(B:Hp)(r:List Value)(e:List Nat×Nat):Prop:=∃s,r=[.int .i64 (n:Int),s,.int .i64 ((e.2:Nat):Int)]∧Words B s e.1
theorem NI.mono{n:Nat}{B B':Hp}{r:List Value}{e:List Nat×Nat}(h:NI n B r e)(hs:∀x∈B,x∈B'):NI n B' r e:=let ⟨s,h1,h2⟩:=h;⟨s,h1,h2.mono hs⟩
def fq(M:Md)(vo vh vt:Value):Array Value:=#[.int .i64 (M.n:Int),.int .i64 (M.cap:Int),vo,vh,vt]
structure MdR(mp:Nat)(M:Md)(B:Hp)(vo vh vt:Value)(rs:List (List Value)):Prop where
 Gc:(mp,Obj.cells (fq M vo vh vt) 74 (0,0))∈B
 ord:cE .i64 B vo (iw M.ord)
 sl:Sl 3 B vh rs
 each:ia (NI M.n B) rs M.held
 tr:cE .i64 B vt (iw M.tr)
def Co(mp:Nat)(M:Md)(B:Hp):Prop:=∃vo vh vt rs,MdR mp M B vo vh vt rs
theorem Co.mono{mp:Nat}{M:Md}{B B':Hp}(h:Co mp M B)(hs:∀x∈B,x∈B'):Co mp M B':=by
 obtain⟨vo,vh,vt,rs,h⟩:=h
 exact⟨vo,vh,vt,rs,hs _ h.Gc,h.ord.mono hs,h.sl.mono hs,h.each.mono fun _ _ h=>h.mono hs,h.tr.mono hs⟩
structure MdO(mp:Nat)(M:Md)(X:Hp)(vo vh vt:Value)(rs:List (List Value))(CO CH CT:Hp):Prop where
 ord:aQ 3 .i64 vo (iw M.ord) CO
 sl:aR 241 3 vh rs CH
 each:ia (NI M.n X) rs M.held
 tr:aQ 3 .i64 vt (iw M.tr) CT
def lq(mp:Nat)(M:Md)(X H:Hp):Prop:=∃vo vh vt rs CO CH CT,H=(mp,.cells (fq M vo vh vt) 74 (0,0))::(CO++(CH++(CT++X)))∧MdO mp M X vo vh vt rs CO CH CT
theorem lq.rd{mp:Nat}{M:Md}{X H:Hp}(h:lq mp M X H):Co mp M H:=by
 obtain⟨vo,vh,vt,rs,CO,CH,CT,rfl,hO⟩:=h
 exact⟨vo,vh,vt,rs,.head _,hO.ord.ints.mono fun _ h=>.tail _ (List.mem_append_left _ h),(Sl.qV hO.sl (by decide)).mono fun _ h=>.tail _ (List.mem_append_right _ (List.mem_append_left _ h)),
  hO.each.mono fun _ _ h=>h.mono fun _ h=>.tail _ (List.mem_append_right _ (List.mem_append_right _ (List.mem_append_right _ h))),hO.tr.ints.mono fun _ h=>.tail _ (List.mem_append_right _ (List.mem_append_right _ (List.mem_append_left _ h)))⟩
theorem lq.sub{mp:Nat}{M:Md}{X H:Hp}(h:lq mp M X H):∀x∈X,x∈H:=by
 obtain⟨vo,vh,vt,rs,CO,CH,CT,rfl,hO⟩:=h
 exact fun _ h=>.tail _ (List.mem_append_right _ (List.mem_append_right _ (List.mem_append_right _ h)))
section
variable {mp:Nat} {M:Md} {B:Hp}
theorem mX(h:Co mp M B)(hM:M.oK):Px Tryz.prog 88 #[ptr mp] B (fun r H=>cV H r (gn M.n M.cr)):=by
 obtain⟨vo,vh,vt,rs,hR⟩:=h
 have BJ:=hM.HZ
 have uL:=hR.each.1
 intro g
 refine IC (R:=aE _) ?_
 unfold L88
 refine Nil.ptr (aa.mk (Ld.mk (v:=vh) hR.Gc rfl ?_))
 refine hR.sl.aS ?_
 rw[uL]
 refine⟨fun vs H=>∃(k:Nat) (w:Value) (C:Hp),vs=[w,.int .i64 (k:Int)]∧k≤M.held.length∧H=C++B∧fG 57 w (gn M.n (M.cr.take k)) C B,fun vs _=>M.held.length-bg vs 1,JE.mk ⟨0,_,[],rfl,Nat.zero_le _,rfl,fG.nil⟩,?_⟩
 rintro w9 eY H ⟨k,w,C,hv,hk,rfl,hC⟩ gs
 simp only[List.cons.injEq,and_true]at hv
 obtain⟨rfl,rfl⟩:=hv
 refine ae.dL (Br.dec (fun hlt=>?_) (fun hlt=>?_))
 ·obtain⟨r,hr,s,rfl,hw⟩:=hR.each.get (List.getElem?_eq_getElem hlt)
  have hone:=aB hw
  refine ah.sl hR.sl hr fun p hp=>aA.at hp rfl (by decide) (fun _ h=>List.mem_append_right _ h) ?_
  intro Oi _
  refine St.whole (r:=[.int .i64 (M.n:Int),s,.int .i64 ((M.held[k].2:Nat):Int)]) (by exact .head _) rfl rfl (by simpa[Value.oneCell']using hone) ?_
  refine aa.mk (aA.mk (vs:=#[.int .i64 (M.n:Int),s]) (by exact .head _) (by simp) rfl ?_)
  refine eU fun xb=>?_
  have ht:M.cr[k]'(by rw[M.dc];exact hlt)=M.held[k].1:=by simp[Md.cr]
  refine hC.app (A:=[_,_]) (t:=⟨M.n,M.held[k].1⟩) (s:=s) (by exact .head _) hw (by rw[aW,List.length_take];omega) fun v' C' bT=>?_
  rw[jX]at bT
  refine ae.aH (b:=1) (by simp[az];omega) ?_
  refine ay.of (.skip .tail) ⟨k+1,v',C',rfl,hlt,rfl,?_⟩ (by simp only[bg];omega)
  rw[List.take_succ_eq_append_getElem (by rw[M.dc];exact hlt),ht]
  exact bT
 ·obtain rfl:k=M.held.length:=by omega
  rw[←M.dc,List.take_length]at hC
  exact oG.mk (.app (.refl _)) (hC.wM (fun _ h=>List.mem_append_left _ h) (fun _ h=>List.mem_append_right _ h))
theorem yV(h:Co mp M B)(hM:M.oK){v:Value}{L:aj.Fs}(hL:cV B v (gn M.n L))(hf:∀t∈L,aj.cw M.n t)(bD:L.length≤2097152):Rd Tryz.prog 167 #[ptr mp,v] B (· =.int .i64 ((dR M.n M.ord L M.n:Nat):Int)):=by
 obtain⟨vo,vh,vt,rs,hR⟩:=h
 intro g
 refine D8 (R:=aE _) ?_
 unfold L167
 refine Nil.ptr (aa.mk (Ld.mk (v:=vo) hR.Gc rfl ?_))
 refine ag.rd .here (KN hL hR.ord hM.len hM.lt hf hM.lD bD) ?_
 rintro v rfl
 exact bL.mk (.refl _) rfl
theorem Lj(h:Co mp M B)(hM:M.oK):Rd Tryz.prog 87 #[ptr mp] B (· =.int .i64 ((dR M.n M.ord M.cr M.n:Nat):Int)):=by
 have BJ:=hM.HZ
 intro g
 refine ID (R:=aE _) ?_
 unfold L87
 refine ag.px .here (mX h hM) ?_
 rintro v N hv
 refine ag.rd .here (yV (h.mono fun _ h=>List.mem_append_right _ h) hM hv hM.kI (by rw[M.dc];omega)) ?_
 rintro v rfl
 exact bL.mk .right rfl
theorem Lk(h:Co mp M B)(hM:M.oK){v:Value}{L:aj.Fs}(hL:cV B v (gn M.n L))(hf:∀t∈L,aj.cw M.n t)(bD:L.length≤1048576):Rd Tryz.prog 122 #[ptr mp,v] B (· =.bool (decide (2+dR M.n M.ord (M.cr++L) M.n≤M.cap))):=by
 have BJ:=hM.HZ
 have hcap:=hM.cap
 have hn:=hM.lD
 have htl:=M.dc
 intro g
 refine EF (R:=aE _) ?_
 unfold L122
 refine ag.px .here (mX h hM) ?_
 rintro v1 N As
 refine fG.pS (C:=[]) (c:=fun X=>X++(N++B)) (B0:=N++B) fG.nil hnew As (fun _ h=>h) (by rw[aW];simp;omega) fun v2 C2 nr=>?_
 refine fG.pS nr .left (hL.mono fun _ h=>List.mem_append_right _ h) (fun _ h=>List.mem_append_right _ h) (by rw[List.nil_append,aW,aW];omega) fun v3 C3 x6=>?_
 have e:[]++gn M.n M.cr++gn M.n L=gn M.n (M.cr++L):=by simp[gn]
 rw[e]at x6
 have h':=h.mono (B':=C3++(N++B)) fun _ h=>List.mem_append_right _ (List.mem_append_right _ h)
 have hff:∀t∈M.cr++L,aj.cw M.n t:=fun t ht=>by
  rcases List.mem_append.1 ht with ht|ht
  ·exact hM.kI t ht
  ·exact hf t ht
 refine DR.self ?_
 obtain⟨vo,vh,vt,rs,hR⟩:=h'
 refine Nil.ptr (aa.mk (Ld.mk (v:=.int .i64 (M.cap:Int)) hR.Gc rfl ?_))
 refine ag.rd .here (yV ⟨vo,vh,vt,rs,hR⟩ hM (x6.wM (fun _ h=>List.mem_append_left _ h) (fun _ h=>List.mem_append_right _ h)) hff (by rw[List.length_append];omega)) ?_
 rintro v rfl
 have h2:=oZ (ord:=M.ord) (L:=M.cr++L) hn M.n (Nat.le_refl _)
 rw[List.length_append]at h2
 have h3:M.n*(65536*(M.cr.length+L.length))≤16*(65536*2097152):=Nat.mul_le_mul hn (Nat.mul_le_mul_left _ (by omega))
 refine⟨.refl _,?_⟩
 refine ae.aH (a:=2) (by simp[az];omega) ?_
 refine ae.y4 ?_
 exact bL.mk (.bQ .right) rfl
end
end Go.Proofs
set_option maxRecDepth 100000
namespace Go.Proofs
open Go Go.Sx
open bc
section
variable {mp:Nat} {M:Md} {B:Hp}
theorem Bd(h:Co mp M B)(hM:M.oK):Px Tryz.prog 172 #[ptr mp] B (fun r H=>Vd M.n H r (iC M.n M.ord M.cr M.n)):=by
 have BJ:=hM.HZ
 intro g
 refine D6 (R:=aE _) ?_
 unfold L172
 obtain⟨vo,vh,vt,rs,hR⟩:=h
 refine DR.self ?_
 refine Nil.ptr (aa.mk (Ld.mk (v:=vo) hR.Gc rfl ?_))
 refine ag.px .here (mX ⟨vo,vh,vt,rs,hR⟩ hM) ?_
 rintro v N hv
 refine⟨.right,?_⟩
 refine ag.px .here (qo hv (hR.ord.mono fun _ h=>List.mem_append_right _ h) hM.len hM.lt hM.kI hM.lD (by rw[M.dc];omega)) ?_
 rintro v2 N2 Rg
 exact oG.mk (.app (.app (.refl _))) Rg
theorem pT{n:Nat}{ord:List Nat}{L:aj.Fs}(hn:n≤16)(hL:L.length≤1048576){k:Nat}(hk:k≤n):(iO n ord L k).length≤1099511627776:=by
 rw[mO]
 have h2:=oZ (ord:=ord) (L:=L) hn k hk
 have h3:k*(65536*L.length)≤16*(65536*1048576):=Nat.mul_le_mul (by omega) (Nat.mul_le_mul_left _ hL)
 omega
theorem Vu(h:Co mp M B)(hM:M.oK){l:Nat}(hl:l+1<M.n):Rd Tryz.prog 165 #[ptr mp,.int .i64 (l:Int)] B (· =.int .i64 (((rA M.n M.ord l M.cr).length:Nat):Int)):=by
 have BJ:=hM.HZ
 have hn:=hM.lD
 have hlen:=hM.len
 have pD:=KB hl hM.len hM.lt
 have htl:=M.dc
 intro g
 refine Ea (R:=aE _) ?_
 unfold L165
 refine ag.px .here (Bd h hM) ?_
 rintro v1 N As
 refine As.aS ?_
 rw[show(iC M.n M.ord M.cr M.n).length=M.n by simp[iC]]
 refine⟨fun vs H=>∃(k:Nat) (w:Value) (C:Hp),vs=[w,.int .i64 (k:Int)]∧k≤M.n∧H=C++(N++B)∧fG 57 w (gn M.n (iO M.n M.ord M.cr k)) C (N++B),fun vs _=>M.n-bg vs 1,JE.mk ⟨0,_,[],rfl,Nat.zero_le _,rfl,fG.nil⟩,?_⟩
 rintro w8 w9 H ⟨k,w,C,hv,hk,rfl,hC⟩ gs
 simp only[List.cons.injEq,and_true]at hv
 obtain⟨rfl,rfl⟩:=hv
 refine ae.dL (Br.dec (fun dI=>?_) (fun dI=>?_))
 ·refine As.ld (qn dI) (fun _ h=>List.mem_append_right _ h) fun x hx=>?_
  have h1:=pT (ord:=M.ord) hn (L:=M.cr) (by omega) hk
  have h2:=nm (ord:=M.ord) (L:=M.cr) hn hk
  refine fG.pS hC .left hx (fun _ h=>List.mem_append_right _ h) (by rw[aW,aW];omega) fun v' C' ho=>?_
  refine ae.aH (b:=1) (by simp[az];omega) ?_
  refine ay.of (.refl _) ⟨k+1,v',C',rfl,dI,rfl,?_⟩ (by simp only[bg];omega)
  have e:gn M.n (iO M.n M.ord M.cr k)++gn M.n (ow M.n M.ord M.cr k)=gn M.n (iO M.n M.ord M.cr (k+1)):=by rw[iO];simp[gn]
  rw[←e];exact ho
 ·obtain rfl:k=M.n:=by omega
  have h':=h.mono (B':=N++B) fun _ h=>List.mem_append_right _ h
  refine DR.self ?_
  obtain⟨vo,vh,vt,rs,hR⟩:=h'
  refine Nil.ptr (aa.mk (Ld.mk (v:=vo) (List.mem_append_right _ hR.Gc) rfl ?_))
  refine ag.px (.app .here) (mX ⟨vo,vh,vt,rs,hR⟩ hM) ?_
  rintro v2 N2 Rg
  refine⟨.cJ .right _,?_⟩
  refine ag.fn (.app .here) (sF (hR.ord.mono fun _ h=>List.mem_append_right _ h) (by omega) (by omega)) ?_
  rintro v3 H ⟨N3,rfl,x6⟩
  refine⟨.cJ (.bQ .right) _,?_⟩
  refine ag.px (.app .here) (qo (Rg.mono fun _ h=>List.mem_append_right _ h) (x6.ints.mono fun _ h=>List.mem_append_left _ h) (by rw[jC];exact hlen) pD hM.kI hn (by omega)) ?_
  rintro v4 N4 hv4
  refine⟨.cJ (.bQ (.bQ .right)) _,?_⟩
  refine hv4.aS ?_
  rw[show(iC M.n (ez M.ord l) M.cr M.n).length=M.n by simp[iC]]
  refine⟨fun vs H=>∃(k:Nat) (w:Value) (C:Hp),vs=[w,.int .i64 (k:Int)]∧k≤M.n∧H=C++(N4++(N3++(N2++(N++B))))∧fG 57 w (gn M.n (iO M.n M.ord M.cr M.n++iO M.n (ez M.ord l) M.cr k)) C (N4++(N3++(N2++(N++B)))),
   fun vs _=>M.n-bg vs 1,JE.mk ⟨0,w8,C,rfl,Nat.zero_le _,rfl,by rw[iO,List.append_nil];exact hC.mono zS⟩,?_⟩
  rintro Fg xY H ⟨k,w,C2,hv,uM,rfl,hC2⟩ gs
  simp only[List.cons.injEq,and_true]at hv
  obtain⟨rfl,rfl⟩:=hv
  have h0:=pT (ord:=M.ord) hn (L:=M.cr) (by omega) (Nat.le_refl M.n)
  have h1:=pT (ord:=ez M.ord l) hn (L:=M.cr) (by omega) uM
  refine ae.dL (Br.dec (fun dI=>?_) (fun dI=>?_))
  ·refine hv4.ld (qn dI) (fun _ h=>List.mem_append_right _ h) fun x hx=>?_
   have h2:=nm (ord:=ez M.ord l) (L:=M.cr) hn uM
   refine fG.pS hC2 .left hx (fun _ h=>List.mem_append_right _ h) (by rw[aW,aW,List.length_append];omega) fun v' C' ho=>?_
   refine ae.aH (b:=1) (by simp[az];omega) ?_
   refine ay.of (.refl _) ⟨k+1,v',C',rfl,dI,rfl,?_⟩ (by simp only[bg];omega)
   have e:gn M.n (iO M.n M.ord M.cr M.n++iO M.n (ez M.ord l) M.cr k)++gn M.n (ow M.n (ez M.ord l) M.cr k)=gn M.n (iO M.n M.ord M.cr M.n++iO M.n (ez M.ord l) M.cr (k+1)):=by rw[iO];simp[gn]
   rw[←e];exact ho
  ·obtain rfl:k=M.n:=by omega
   have hff:∀t∈iO M.n M.ord M.cr M.n++iO M.n (ez M.ord l) M.cr M.n,aj.cw M.n t:=fun t ht=>by
    rcases List.mem_append.1 ht with ht|ht
    ·exact kB hM.kI hn _ t ht
    ·exact kB hM.kI hn _ t ht
   refine ag.px .here (sQ (hC2.wM (fun _ h=>List.mem_append_left _ h) (fun _ h=>List.mem_append_right _ h)) hff (by rw[List.length_append];omega)) ?_
   rintro v5 N5 hv5
   refine hv5.aS ?_
   rw[aW]
   exact bL.mk (.bQ (.bQ (.bQ (.bQ (.bQ .right))))) rfl
theorem Xx(h:Co mp M B)(hM:M.oK){l:Nat}(hl:l+1<M.n)(hno:M.cap<2+(rA M.n M.ord l M.cr).length):Rd Tryz.prog 86 #[ptr mp,.int .i64 (l:Int)] B (· =.int .i64 9):=by
 have hn:=hM.lD
 have RJ:(rA M.n M.ord l M.cr).length≤4398046511104:=by
  have h0:=pT (ord:=M.ord) hn (L:=M.cr) (by have:=hM.HZ;rw[M.dc];omega) (Nat.le_refl M.n)
  have h1:=pT (ord:=ez M.ord l) hn (L:=M.cr) (by have:=hM.HZ;rw[M.dc];omega) (Nat.le_refl M.n)
  refine Nat.le_trans (qa _) ?_
  rw[List.length_append];omega
 intro g
 refine wy (R:=aE _) ?_
 unfold L86
 obtain⟨vo,vh,vt,rs,hR⟩:=h
 refine ae.lss ?_
 rw[decide_eq_false (by omega)]
 refine cv.or false (fun _=>?_) rfl fun gs=>Br.no ?_
 ·refine Nil.ptr (aa.mk (Ld.mk (v:=.int .i64 (M.n:Int)) hR.Gc rfl ?_))
  refine ae.jZ (c:=(M.n:Int) -2) rfl (by omega) ?_
  exact ae.gtr ⟨rfl,by rw[decide_eq_false (by omega)]⟩
 refine DR.self ?_
 refine Nil.ptr (aa.mk (Ld.mk (v:=.int .i64 (M.cap:Int)) hR.Gc rfl ?_))
 refine ag.rd .here (Vu ⟨vo,vh,vt,rs,hR⟩ hM hl) ?_
 rintro v rfl
 refine⟨.refl _,?_⟩
 refine ae.aH (a:=2) (by simp[az];omega) ?_
 exact ae.lQ (Br.gI hno (bL.mk (.refl _) rfl))
theorem MP{X H:Hp}(h:lq mp M X H)(hM:M.oK){l:Nat}(hl:l+1<M.n)(hfit:2+(rA M.n M.ord l M.cr).length≤M.cap):Fc Tryz.prog 86 #[ptr mp,.int .i64 (l:Int)] H (fun v H'=>v=.int .i64 0∧lq mp {M with ord:=ez M.ord l,tr:=M.tr++[l]} X H'):=by
 have hn:=hM.lD
 have hcap:=hM.cap
 have agD:=hM.Yz
 have hlen:=hM.len
 have hrd:=h.rd
 obtain⟨vo,vh,vt,rs,CO,CH,CT,rfl,hO⟩:=h
 intro g
 refine wy (R:=aE _) ?_
 unfold L86
 refine ae.lss ?_
 rw[decide_eq_false (by omega)]
 refine cv.or false (fun _=>?_) rfl fun gs=>Br.no ?_
 ·refine Nil.ptr (aa.mk (Ld.mk (v:=.int .i64 (M.n:Int)) (by exact .head _) rfl ?_))
  refine ae.jZ (c:=(M.n:Int) -2) rfl (by omega) ?_
  exact ae.gtr ⟨rfl,by rw[decide_eq_false (by omega)]⟩
 refine DR.self ?_
 refine Nil.ptr (aa.mk (Ld.mk (v:=.int .i64 (M.cap:Int)) (by exact .head _) rfl ?_))
 refine ag.rd .here (Vu hrd hM hl) ?_
 rintro v rfl
 refine⟨.refl _,?_⟩
 refine ae.aH (a:=2) (by simp[az];omega) ?_
 refine ae.lQ (Br.cq (by omega) ?_)
 refine Nil.ptr (aa.mk (Ld.mk (v:=vo) (by exact .head _) rfl ?_))
 refine ag.fn (.cons .left) (sF hO.ord.ints (by omega) (by omega)) ?_
 rintro v H ⟨N,rfl,ho⟩
 refine Nil.ptr (aa.mk (St.one (c':=fq M v vh vt) (by exact .head _) ho.one (by simp[fq]) rfl ?_))
 refine Nil.ptr (aa.mk (Ld.mk (v:=vt) (by exact .head _) rfl ?_))
 refine ax.int (e:=3) (by kernel_rfl) (by kernel_rfl) (by kernel_rfl) fun bx=>?_
 refine hO.tr.mK (.cons (.cons (.app (.app .left)))) (by exact .head _) (by rw[an];omega) (by rw[an];omega) fun v' Ow bT=>?_
 refine Nil.ptr (aa.mk (St.one (c':=fq M v vh v') (by exact .tail (.head _)) bT.one (by simp[fq]) rfl ?_))
 refine aE.mk (lJ:=(mp,.cells (fq M v vh v') 74 (0,0))::(N++(CH++(Ow++X)))) (.skip (.cons ?_)) ⟨rfl,v,vh,v',rs,N,CH,Ow,rfl,ho,hO.sl,hO.each,by rw[bO];exact bT⟩
 exact aO.assoc.trans (.cJ .right _)
theorem LU(h:Co mp M B)(hM:M.oK){v:Value}{t:List Nat}(ht:jS B v ⟨M.n,t⟩)(hf:aj.cw M.n t):Rd Tryz.prog 96 #[ptr mp,v] B (fun r=>(∃e∈M.held,e.1=t∧r=.int .i64 ((e.2:Nat):Int))∨(t∉M.cr∧r=.int .i64 0)):=by
 obtain⟨s0,rfl,oz⟩:=ht
 obtain⟨vo,vh,vt,rs,hR⟩:=h
 have BJ:=hM.HZ
 have uL:=hR.each.1
 intro g
 refine Iz (R:=aE _) ?_
 unfold L96
 intro b1 _
 refine Nil.ptr (aa.mk (Ld.mk (v:=vh) (.tail _ hR.Gc) rfl ?_))
 refine hR.sl.aS ?_
 rw[uL]
 refine⟨fun vs H=>∃k:Nat,vs=[.int .i64 (k:Int)]∧k≤M.held.length∧H=(b1,.cells #[.int .i64 (M.n:Int),s0] 57 (0,0))::B∧t∉M.cr.take k,fun vs _=>M.held.length-bg vs 0,JE.mk ⟨0,rfl,Nat.zero_le _,rfl,by simp⟩,?_⟩
 rintro lB H ⟨k,hv,hk,rfl,hno⟩ gs
 simp only[List.cons.injEq,and_true]at hv
 subst hv
 refine ae.dL (Br.dec (fun hlt=>?_) (fun hlt=>?_))
 ·obtain⟨r,hr,s,rfl,hw⟩:=hR.each.get (List.getElem?_eq_getElem hlt)
  have hone:=aB hw
  have lS:M.cr[k]'(by rw[M.dc];exact hlt)=M.held[k].1:=by simp[Md.cr]
  have jx:aj.cw M.n M.held[k].1:=hM.kI _ (by rw[←lS];exact List.getElem_mem _)
  refine ah.sl hR.sl hr fun p hp=>aA.at hp rfl (by decide) (fun _ h=>.tail _ h) ?_
  intro pR _
  refine St.whole (r:=[.int .i64 (M.n:Int),s,.int .i64 ((M.held[k].2:Nat):Int)]) (by exact .head _) rfl rfl (by simpa[Value.oneCell']using hone) ?_
  refine aa.mk (aA.mk (vs:=#[.int .i64 (M.n:Int),s]) (by exact .head _) (by simp) rfl ?_)
  refine aA.whole (r:=[.int .i64 (M.n:Int),s0]) (by exact .tail _ (.head _)) rfl ?_
  have N9:=fM jx
  refine ag.rd (B:=B) (.cons (.cons .here)) (kM (v1:=.agg (List.toArray [.int .i64 (M.n:Int),s])) (v2:=.agg (List.toArray [.int .i64 (M.n:Int),s0])) (a:=⟨M.n,M.held[k].1⟩) (b:=⟨M.n,t⟩) ⟨s,rfl,hw⟩ ⟨s0,rfl,oz⟩ (by show M.held[k].1.length<_;omega)) ?_
  rintro v rfl
  refine Br.dec (fun he=>?_) (fun he=>?_)
  ·have he':M.held[k].1=t:=by injection he
   refine aa.mk (Ld.mk (v:=.int .i64 ((M.held[k].2:Nat):Int)) (by exact .head _) rfl ?_)
   exact bL.mk (.skip .tail) (.inl ⟨M.held[k],List.getElem_mem hlt,he',rfl⟩)
  ·refine ae.aH (b:=1) (by simp[az];omega) ?_
   refine ay.of .tail ⟨k+1,rfl,hlt,rfl,?_⟩ (by simp only[bg];omega)
   rw[List.take_succ_eq_append_getElem (by rw[M.dc];exact hlt),lS,List.mem_append,List.mem_singleton]
   rintro(h|h)
   ·exact hno h
   ·exact he (by rw[h])
 ·obtain rfl:k=M.held.length:=by omega
  rw[←M.dc,List.take_length]at hno
  exact bL.mk .tail (.inr ⟨hno,rfl⟩)
theorem yU{n cap:Nat}(hn:n≤64)(hc:cap≤1048576):Fc Tryz.prog 82 #[.int .i64 (n:Int),.int .i64 (cap:Int)] [] (fun v H=>∃mp,v=ptr mp∧lq mp ⟨n,cap,List.range n,[],[]⟩ [] H):=by
 intro g
 refine IE (R:=aE _) ?_
 unfold L82
 refine Build.mk (cs:=[.int .i64 (n:Int),.int .i64 (cap:Int),.slice none 0 0,.slice none 0 0,.slice none 0 0]) (by kernel_rfl) ?_
 intro b2 _
 refine⟨fun vs H=>∃(k:Nat) (vo:Value) (CO:Hp),vs=[.int .i64 (k:Int)]∧k≤n∧H=(b2,.cells #[.int .i64 (n:Int),.int .i64 (cap:Int),vo,.slice none 0 0,.slice none 0 0] 74 (0,0))::CO∧aQ 3 .i64 vo (iw (List.range k)) CO,fun vs _=>n-bg vs 0,JE.mk ⟨0,_,[],rfl,Nat.zero_le _,rfl,aQ.nil⟩,?_⟩
 rintro w8 H ⟨k,vo,CO,hv,hk,rfl,hO⟩ gs
 simp only[List.cons.injEq,and_true]at hv
 subst hv
 refine ae.dL (Br.dec (fun hlt=>?_) (fun hlt=>?_))
 ·refine Nil.ptr (aa.mk (Ld.mk (v:=vo) (by exact .head _) rfl ?_))
  refine ax.int (e:=3) (by kernel_rfl) (by kernel_rfl) (by kernel_rfl) fun bx=>?_
  refine hO.mK (.cons (.cons .here)) (by exact .head _) (by rw[an];simp;omega) (by rw[an];simp;omega) fun v' CO' bT=>?_
  refine Nil.ptr (aa.mk (St.one (c':=#[.int .i64 (n:Int),.int .i64 (cap:Int),v',.slice none 0 0,.slice none 0 0]) (by exact .tail (.head _)) bT.one (by simp) rfl ?_))
  refine ae.aH (b:=1) (by simp[az];omega) ?_
  exact ay.of .tail ⟨k+1,v',CO',rfl,hlt,rfl,by rw[List.range_succ,bO];exact bT⟩ (by simp only[bg];omega)
 ·obtain rfl:k=n:=by omega
  exact aE.here ⟨b2,rfl,vo,.slice none 0 0,.slice none 0 0,[],CO,[],[],by simp[fq],hO,aR.nil _ _,ia.nil,aQ.nil⟩
end
def QT(held:List (List Nat×Nat))(t:List Nat)(held':List (List Nat×Nat)):Prop:=
 (∃i c,held[i]? =some (t,c)∧t∉(held.map Prod.fst).take i∧held'=held.set i (t,c+1))∨(t∉held.map Prod.fst∧held'=held++[(t,1)])
section
variable {mp:Nat} {M:Md} {B:Hp}
theorem zi{X H:Hp}(hM:M.oK){v:Value}{t:List Nat}(ht:jS H v ⟨M.n,t⟩)(hf:aj.cw M.n t)(hc:t=cu M.n false∨t=cu M.n true):Rd Tryz.prog 124 #[ptr mp,v] H (· =.int .i64 0):=by
 obtain⟨s0,rfl,oz⟩:=ht
 intro g
 refine uy (R:=aE _) ?_
 unfold L124
 intro b1 _
 refine aA.whole (r:=[.int .i64 (M.n:Int),s0]) (by exact .head _) rfl ?_
 refine ag.rd (.cons .here) (kW (v:=.agg (List.toArray [.int .i64 (M.n:Int),s0])) (n:=M.n) (ws:=t) ⟨s0,rfl,oz⟩ hf) ?_
 rintro v rfl
 exact Br.gI hc (bL.mk .tail rfl)
theorem LX{X H:Hp}(h:lq mp M X H)(hM:M.oK){v:Value}{t:List Nat}(ht:jS X v ⟨M.n,t⟩)(hf:aj.cw M.n t)(hc:¬(t=cu M.n false∨t=cu M.n true))(hlt:∀e∈M.held,e.2<65535):
  Fc Tryz.prog 124 #[ptr mp,v] H (fun r H'=>r=.int .i64 0∧∃held',QT M.held t held'∧lq mp {M with held:=held'} X H'):=by
 have hsub:=h.sub
 obtain⟨s0,rfl,oz⟩:=ht
 have BJ:=hM.HZ
 have aeo:=aB oz
 obtain⟨vo,vh,vt,rs,CO,CH,CT,rfl,hO⟩:=h
 have uL:=hO.each.1
 intro g
 refine uy (R:=aE _) ?_
 unfold L124
 intro b1 _
 refine aA.whole (r:=[.int .i64 (M.n:Int),s0]) (by exact .head _) rfl ?_
 refine ag.rd (.cons .here) (kW (v:=.agg (List.toArray [.int .i64 (M.n:Int),s0])) (n:=M.n) (ws:=t) ⟨s0,rfl,oz.mono hsub⟩ hf) ?_
 rintro v rfl
 refine Br.cq hc ?_
 refine⟨fun vs H=>∃k:Nat,vs=[.int .i64 (k:Int)]∧k≤M.held.length∧H=(b1,.cells #[.int .i64 (M.n:Int),s0] 57 (0,0))::(mp,.cells (fq M vo vh vt) 74 (0,0))::(CO++(CH++(CT++X)))∧t∉M.cr.take k,fun vs _=>M.held.length-bg vs 0,JE.mk ⟨0,rfl,Nat.zero_le _,rfl,by simp⟩,?_⟩
 rintro eY H ⟨k,hv,hk,rfl,hno⟩ gs
 simp only[List.cons.injEq,and_true]at hv
 subst hv
 have Tl:∀y∈CH,y∈(b1,Obj.cells #[.int .i64 (M.n:Int),s0] 57 (0,0))::(mp,.cells (fq M vo vh vt) 74 (0,0))::(CO++(CH++(CT++X))):=fun y h=>.tail _ (.tail _ (List.mem_append_right _ (List.mem_append_left _ h)))
 refine Nil.ptr (aa.mk (Ld.mk (v:=vh) (by exact .tail _ (.head _)) rfl ?_))
 refine hO.sl.aS ?_
 rw[uL]
 refine ae.dL (Br.dec (fun dI=>?_) (fun dI=>?_))
 ·obtain⟨r,hr,s,rfl,hw⟩:=hO.each.get (List.getElem?_eq_getElem dI)
  have lS:M.cr[k]'(by rw[M.dc];exact dI)=M.held[k].1:=by simp[Md.cr]
  have jx:aj.cw M.n M.held[k].1:=hM.kI _ (by rw[←lS];exact List.getElem_mem _)
  have N9:=fM jx
  have nF:=hlt _ (List.getElem_mem dI)
  refine DR.self ?_
  refine Nil.ptr (aa.mk (Ld.mk (v:=vh) (by exact .tail _ (.head _)) rfl ?_))
  refine hO.sl.Ls hr ⟨by decide,by decide⟩ Tl ?_
  refine aA.whole (r:=[.int .i64 (M.n:Int),s0]) (by exact .head _) rfl ?_
  refine ag.rd (B:=X) (.cons (.cons (.app (.app (.app .here))))) (kM (v1:=.agg (List.toArray [.int .i64 (M.n:Int),s])) (v2:=.agg (List.toArray [.int .i64 (M.n:Int),s0])) (a:=⟨M.n,M.held[k].1⟩) (b:=⟨M.n,t⟩) ⟨s,rfl,hw⟩ ⟨s0,rfl,oz⟩ (by show M.held[k].1.length<_;omega)) ?_
  rintro v rfl
  refine⟨.refl _,?_⟩
  refine Br.dec (fun he=>?_) (fun he=>?_)
  ·have he':M.held[k].1=t:=by injection he
   refine Nil.ptr (aa.mk (Ld.mk (v:=vh) (by exact .tail _ (.head _)) rfl ?_))
   refine hO.sl.Bm (j:=2) hr rfl Tl ?_
   refine ae.qz (b:=65535) (Br.cq (by omega) ?_)
   refine Nil.ptr (aa.mk (Ld.mk (v:=vh) (by exact .tail _ (.head _)) rfl ?_))
   refine hO.sl.Bm (j:=2) hr rfl Tl ?_
   refine ae.aH (b:=1) (by simp[az];omega) ?_
   refine hO.sl.KX (j:=2) (x:=.int .i64 ((M.held[k].2+1:Nat):Int)) (.cons (.cons (.app .left))) hr (by decide) rfl fun Jv bT=>?_
   refine aE.mk .tail ⟨rfl,M.held.set k (t,M.held[k].2+1),.inl ⟨k,M.held[k].2,?_,hno,rfl⟩,vo,vh,vt,_,CO,Jv,CT,rfl,hO.ord,bT,hO.each.set ⟨s,rfl,by rw[←he'];exact hw⟩,hO.tr⟩
   rw[List.getElem?_eq_getElem dI,←he']
  ·refine ae.aH (b:=1) (by simp[az];omega) ?_
   refine ay.of (.refl _) ⟨k+1,rfl,dI,rfl,?_⟩ (by simp only[bg];omega)
   rw[List.take_succ_eq_append_getElem (by rw[M.dc];exact dI),lS,List.mem_append,List.mem_singleton]
   rintro(h|h)
   ·exact hno h
   ·exact he (by rw[h])
 ·obtain rfl:k=M.held.length:=by omega
  rw[←M.dc,List.take_length]at hno
  refine DR.of (R:=[(b1,.cells #[.int .i64 (M.n:Int),s0] 57 (0,0)),(mp,.cells (fq M vo vh vt) 74 (0,0))]) (.cons (.cons .nil)) ?_
  refine Nil.ptr (aa.mk (Ld.mk (v:=vh) (by exact .tail _ (.head _)) rfl ?_))
  refine aA.whole (r:=[.int .i64 (M.n:Int),s0]) (by exact .head _) rfl ?_
  obtain⟨sa,sl,sc,rfl⟩:∃a l c,s0=Value.slice a l c:=by obtain⟨a,c,h,_⟩:=oz.1.shape;exact⟨a,_,c,h⟩
  refine Build.mk (cs:=[.int .i64 (M.n:Int),.slice sa sl sc,.int .i64 1]) (by kernel_rfl) ?_
  refine ax.one (r:=[.int .i64 (M.n:Int),.slice sa sl sc,.int .i64 1]) (e:=241) (k:=3) (z:=.agg #[.int .i64 0,.slice none 0 0,.int .i64 0]) (by kernel_rfl) (by kernel_rfl) (by kernel_rfl) (by decide) rfl fun bx=>?_
  refine⟨.skip (.cons (.cons .nil)),?_⟩
  refine hO.sl.mK (r:=[.int .i64 (M.n:Int),.slice sa sl sc,.int .i64 1]) (.cons (.cons (.cons (.app .left)))) (by exact .head _) rfl (by simp[Value.oneCell']) ⟨[.int .i64 0,.slice none 0 0,.int .i64 0],rfl,rfl⟩ (by omega) (by omega) fun v' Jv bT=>?_
  refine⟨.skip (.cons (.cons .nil)),?_⟩
  have As:v'.oneCell'=true:=by obtain⟨a,c,e⟩:=aR.len bT;rw[e];rfl
  refine Nil.ptr (aa.mk (St.one (c':=fq M vo v' vt) (by exact .tail (.tail (.head _))) As (by simp[fq]) rfl ?_))
  exact aE.mk (.skip .tail) ⟨rfl,_,.inr ⟨hno,rfl⟩,vo,v',vt,_,CO,Jv,CT,rfl,hO.ord,bT,hO.each.snoc ⟨_,rfl,oz⟩,hO.tr⟩
end
section
variable {kp:Nat} {K:Kd} {ord av tr:List Nat} {C:Hp} {S:Nat→bc.Fn}
theorem KQ(h:lH kp K S ord av tr C):Rd Tryz.prog 70 #[ptr kp] C (fun r=>∃n:Nat,(∀K:Value→Prop,K (.int .i64 (n:Int))→aG r K)∧n=((List.range K.ho.length).filter fun r=>decide (0<K.hold r)).length):=by
 obtain⟨b,hC,hO⟩:=h.rep
 have hcap:=h.ok.mid.cap
 have hle:=h.jG
 have hfit:K.ho.length≤1048576:=by
  have:=hO.ul
  omega
 intro g
 refine wB (R:=aE _) ?_
 unfold L70
 refine ae.aJ (Br.no ?_)
 have LM:∀z∈b.CH,z∈C:=by rw[hC];exact cz.sub (.cons (.app (.app (.app .left))))
 refine Nil.ptr (aa.mk (aa.mk (Ld.mk (v:=b.vh) (by rw[hC];exact .head _) rfl ?_)))
 refine hO.ho.aS ?_
 rw[an]
 let rts:Nat→List Nat:=fun k=>(List.range k).filter fun r=>decide (0<K.hold r)
 refine⟨fun vs H=>∃(k:Nat) (w:Value) (N:Hp),vs=[w,.int .i64 (k:Int)]∧k≤K.ho.length∧H=N++C∧aQ 77 .u32 w (iw (rts k)) N,fun vs _=>K.ho.length-bg vs 1,JE.mk ⟨0,_,[],rfl,Nat.zero_le _,rfl,aQ.nil⟩,?_⟩
 rintro lB eP H ⟨k,w,N,hv,hk,rfl,hN⟩ gs
 simp only[List.cons.injEq,and_true]at hv
 obtain⟨rfl,rfl⟩:=hv
 refine ae.dL (Br.dec (fun hlt=>?_) (fun hlt=>?_))
 ·intro J hJ
  have fin:∀w' N',aQ 77 .u32 w' (iw (rts (k+1))) N'→J [w'] (N'++C):=fun w' N' h'=>hJ _ _ fun gs=>by
   refine ae.aH (b:=1) (by simp[az];omega) ?_
   exact ay.of (.refl _) ⟨k+1,w',N',rfl,hlt,rfl,h'⟩ (by simp only[bg];omega)
  have e:rts (k+1)=rts k++if 0<K.hold k then [k]else []:=by
   show(List.range (k+1)).filter _=_
   rw[List.range_succ,List.filter_append]
   congr 1
   by_cases hp:0<K.hold k<;>simp[hp]
  refine hO.ho.ld (x:=((K.hold k:Nat):Int)) (bE hlt) (fun z hz=>List.mem_append_right _ (LM z hz)) ?_
  refine ae.lQ (b:=0) (Br.dec (fun hp=>?_) (fun hp=>?_))
  ·rw[e,if_pos hp]at fin
   refine bI.nat (by simp[az];omega) ?_
   have uL:(rts k).length≤k:=by
    have:=List.length_filter_le (fun r=>decide (0<K.hold r)) (List.range k)
    rwa [List.length_range]at this
   refine ax.int (e:=77) (by kernel_rfl) (by kernel_rfl) (by kernel_rfl) fun bx=>?_
   refine hN.mK (.cons .left) (by exact .head _) (by rw[an];omega) (by rw[an];omega) fun v' N' bT=>?_
   rw[bO]at fin
   exact JE.of .tail (fin v' N' bT)
  ·rw[e,if_neg hp,List.append_nil]at fin
   exact JE.mk (fin lB N hN)
 ·obtain rfl:k=K.ho.length:=by omega
  refine bL.mk .right ⟨(rts K.ho.length).length,fun Q hq=>hN.aS ?_,rfl⟩
  rw[an];exact hq
end
section
variable {kp:Nat} {K:Kd} {ord av tr:List Nat} {C:Hp} {S:Nat→bc.Fn}
theorem Le(d:Nd):∀u∈aT d,u.oneCell'=true:=fun u hu=>by
 simp only[aT,List.mem_cons,List.not_mem_nil,or_false]at hu
 rcases hu with rfl|rfl|rfl<;>rfl
theorem Ky(h:lH kp K S ord av tr C)(hn:K.n≤16):∀(k r deep:Nat) (X:Hp),K.n-dep K.n (lv av) K.N r≤k→live K.N r→deep≤dep K.n (lv av) K.N r→
  Px Tryz.prog 192 #[ptr kp,u32 r,.int .i64 (K.n:Int),.int .i64 (deep:Int)] (X++C) (fun v H=>∃s ws,v=.tuple #[s,.bool true]∧jS H s ⟨K.n,ws⟩∧aj.cw K.n ws∧eC K.n ws=S r):=by
 intro k
 induction k with
 |zero=>
  intro r deep X hk hr hd
  have hle:=h.ok.wf.iq h.ok.lv r
  cases hN:K.N r with
  |some d=>
   rw[aM hN]at hk
   have:=h.ok.lv.lt _ (h.ok.mid.var hN);omega
  |none=>
   have nE:r<2:=by
    rcases hr with hr|⟨d,e⟩
    ·exact hr
    ·rw[hN]at e;cases e
   intro g
   refine oI (R:=aE _) ?_
   unfold L192
   intro b1 _
   refine ae.gp (b:=0) ?_
   refine cv.or (decide (r=1)) (fun _=>ae.gp (b:=1) ⟨rfl,rfl⟩) (by simp) fun gs=>?_
   rw[←Bool.decide_or]
   refine Br.gI (by omega) (ae.gp (b:=1) ?_)
   refine ag.px (.cons .here) (pO (b:=decide (r=1)) hn _) ?_
   rintro v N ⟨s,rfl,hw⟩
   have hone:=aB hw
   refine St.whole (r:=[.int .i64 (K.n:Int),s]) (by exact .head _) rfl rfl (by simpa[Value.oneCell']using hone) ?_
   refine aA.whole (r:=[.int .i64 (K.n:Int),s]) (by exact .head _) rfl ?_
   refine oG.mk (by repeat (first|exact aV.refl _|apply aV.cons|apply aV.app)) ⟨_,cu K.n (decide (r=1)),rfl,⟨s,rfl,hw.mono zS⟩,oD hn _,?_⟩
   rw[gg]
   funext x
   have hi:=h.ok.mid.int
   have:r=0∨r=1:=by omega
   rcases this with rfl|rfl
   ·exact(hi.zero x).symm
   ·exact(hi.one x).symm
 |succ k ih=>
  intro r deep X hk hr hd
  by_cases nE:r<2
  ·have hN:K.N r=none:=h.ok.wf.const nE
   intro g
   refine oI (R:=aE _) ?_
   unfold L192
   intro b1 _
   refine ae.gp (b:=0) ?_
   refine cv.or (decide (r=1)) (fun _=>ae.gp (b:=1) ⟨rfl,rfl⟩) (by simp) fun gs=>?_
   rw[←Bool.decide_or]
   refine Br.gI (by omega) (ae.gp (b:=1) ?_)
   refine ag.px (.cons .here) (pO (b:=decide (r=1)) hn _) ?_
   rintro v N ⟨s,rfl,hw⟩
   have hone:=aB hw
   refine St.whole (r:=[.int .i64 (K.n:Int),s]) (by exact .head _) rfl rfl (by simpa[Value.oneCell']using hone) ?_
   refine aA.whole (r:=[.int .i64 (K.n:Int),s]) (by exact .head _) rfl ?_
   refine oG.mk (by repeat (first|exact aV.refl _|apply aV.cons|apply aV.app)) ⟨_,cu K.n (decide (r=1)),rfl,⟨s,rfl,hw.mono zS⟩,oD hn _,?_⟩
   rw[gg]
   funext x
   have hi:=h.ok.mid.int
   have:r=0∨r=1:=by omega
   rcases this with rfl|rfl
   ·exact(hi.zero x).symm
   ·exact(hi.one x).symm
  ·obtain⟨d,hN⟩:∃d,K.N r=some d:=by
    rcases hr with hr|hr
    ·omega
    ·exact hr
   have uL:=h.fJ hr
   have BL:=h.ok.mid.var hN
   have hlo:=h.ok.wf.lo hN
   have hhi:=h.ok.wf.hi hN
   have hlb:=cR.2 hr
   have agU:=h.fJ hlo.1
   have ag4:=h.fJ hhi.1
   have hdl:=h.ok.wf.iq h.ok.lv r
   rw[aM hN]at hk hd
   have hvl:=h.ok.lv.lt _ BL
   intro g
   refine oI (R:=aE _) ?_
   unfold L192
   intro b1 _
   refine ae.gp (b:=0) ?_
   refine cv.or (decide (r=1)) (fun _=>ae.gp (b:=1) ⟨rfl,rfl⟩) (by simp) fun gs=>?_
   rw[←Bool.decide_or]
   refine Br.cq (by omega) ?_
   refine ag.rd (.cons (.app .here)) (tg h.rep (by omega)) ?_
   rintro v rfl
   rw[hlb,kj hN (by omega)]
   refine Ext.mk rfl (Ext.mk rfl ?_)
   intro qI _
   refine St.whole (r:=aT d) (by exact .head _) rfl rfl (Le d) ?_
   refine ae.gj ?_
   refine cv.or false (fun _=>ae.gtr ⟨rfl,by rw[decide_eq_false (by omega)]⟩) rfl fun gs=>?_
   refine cv.or false (fun _=>aa.mk (Ld.mk (v:=.int .i64 (d.v:Int)) (by exact .head _) rfl (ae.lss ⟨rfl,by rw[decide_eq_false (by omega)]⟩))) rfl fun gs=>?_
   refine cv.or false (fun _=>aa.mk (Ld.mk (v:=.int .i64 (d.v:Int)) (by exact .head _) rfl (ae.geq ⟨rfl,by rw[decide_eq_false (by omega)]⟩))) rfl fun gs=>Br.no ?_
   refine aa.mk (Ld.mk (v:=u32 d.lo) (by exact .head _) rfl ?_)
   refine ae.aH (b:=1) (by simp[az];omega) ?_
   refine ag.px (.cons (.cons .here)) (ih d.lo (deep+1) X (by omega) hlo.1 (by omega)) ?_
   rintro v N1 ⟨_,w1,rfl,⟨s1,rfl,jr⟩,hf1,UY⟩
   have Bz:=aB jr
   refine Ext.mk rfl (Ext.mk rfl ?_)
   intro b43 _
   refine St.whole (r:=[.int .i64 (K.n:Int),s1]) (by exact .head _) rfl rfl (by simpa[Value.oneCell']using Bz) ?_
   refine aa.mk (Ld.mk (v:=u32 d.hi) (by exact .tail _ (.head _)) rfl ?_)
   refine ae.aH (b:=1) (by simp[az];omega) ?_
   have hX:N1++(X++C)=(N1++X)++C:=(List.append_assoc _ _ _).symm
   rw[hX]at jr⊢
   refine ag.px (.cons (.cons (.cons .here))) (ih d.hi (deep+1) (N1++X) (by omega) hhi.1 (by omega)) ?_
   rintro v N2 ⟨_,w2,rfl,⟨s2,rfl,mr⟩,Ob,UX⟩
   have nr:=aB mr
   refine Ext.mk rfl (Ext.mk rfl ?_)
   intro JJ _
   refine St.whole (r:=[.int .i64 (K.n:Int),s2]) (by exact .head _) rfl rfl (by simpa[Value.oneCell']using nr) ?_
   refine Un.not ?_
   refine cv.or false (fun _=>Un.not ⟨rfl,rfl⟩) rfl fun gs=>Br.no ?_
   refine aa.mk (Ld.mk (v:=.int .i64 (d.v:Int)) (by exact .tail _ (.tail _ (.head _))) rfl ?_)
   refine aA.whole (r:=[.int .i64 (K.n:Int),s1]) (by exact .tail _ (.head _)) rfl ?_
   refine aA.whole (r:=[.int .i64 (K.n:Int),s2]) (by exact .head _) rfl ?_
   refine ag.px (B:=N2++((N1++X)++C)) (.cons (.cons (.cons (.cons .here)))) (VX (v1:=.agg (List.toArray [.int .i64 (K.n:Int),s1])) (v2:=.agg (List.toArray [.int .i64 (K.n:Int),s2])) (n:=K.n) (lo:=w1) (hi:=w2) ⟨s1,rfl,jr.mono zS⟩ hf1 ⟨s2,rfl,mr⟩ Ob (by omega)) ?_
   rintro v N3 ⟨s3,rfl,Tp⟩
   have x6:=aB Tp
   refine St.whole (r:=[.int .i64 (K.n:Int),s3]) (by exact .tail (.tail (.tail (.head _)))) rfl rfl (by simpa[Value.oneCell']using x6) ?_
   refine aA.whole (r:=[.int .i64 (K.n:Int),s3]) (by exact .tail _ (.tail _ (.tail _ (.head _)))) rfl ?_
   refine oG.mk (by rw[←hX];exact(by repeat (first|exact aV.refl _|apply aV.cons|apply aV.app))) ⟨_,VY K.n d.v w1 w2,rfl,⟨s3,rfl,Tp.mono zS⟩,PA hn,?_⟩
   rw[Ua BL,UY,UX]
   exact funext fun x=>(h.ok.mid.int.node hN x).symm
end
theorem MJ{ord:List Nat}{F G:bc.Fn→Prop}(h:∀g,F g→G g):∀l g,fs ord F l g→fs ord G l g
 |0,g,hg=>h g hg
 |l+1,g,⟨f,hf,b,e⟩=>⟨f,MJ h l f hf,b,e⟩
theorem ni{n:Nat}{ord:List Nat}{F G:bc.Fn→Prop}(h:∀g,F g→G g){g:bc.Fn}(hg:cg n ord F g):cg n ord G g:=let ⟨l,a,b,c⟩:=hg;⟨l,a,MJ h l g b,c⟩
structure Af(K:Kd)(S:Nat→bc.Fn)(K':Kd)(S':Nat→bc.Fn)(f:bc.Fn)(r:Nat):Prop where
 n:K'.n=K.n
 cap:K'.cap=K.cap
 N:∀s d,K.N s=some d→K'.N s=some d
 fn:∀s,live K.N s→S' s=S s
 live:live K'.N r
 is:S' r=f
 hold:∀s,K'.hold s=K.hold s+if s=r∧2≤r then 1 else 0
theorem qm{N N':gC}(h:∀s d,N s=some d→N' s=some d){s:Nat}(hs:live N s):live N' s:=by
 rcases hs with hs|⟨d,hd⟩
 ·exact .inl hs
 ·exact .inr ⟨d,h s d hd⟩
theorem Bt{K K5:Kd}{S S5:Nat→bc.Fn}{av:Nat→Nat}(hK:Ok K S av)(Oe:Ok K5 S5 av)(hold:∀s,K.hold s≠0→K5.hold s≠0)(h3:∀s d d',K.N s=some d→K5.N s=some d'→d'=d):
  ∀(k s:Nat) (d:Nd),K.N s=some d→av d.v≤k→K5.N s=some d:=by
 intro k
 induction k with
 |zero=>
  intro s d hd hl
  have fin:live K5.N s→K5.N s=some d:=fun hs=>by
   rcases hs with hs|⟨d',ei⟩
   ·have:=(hK.mid.two hd).1;omega
   ·rw[ei,h3 s d d' hd ei]
  rcases hK.reach s d hd with h|⟨p,e,hp,he⟩
  ·exact fin (.inr (Oe.mid.held s (hold s h)))
  ·have h1:=hK.wf.lo hp
   have h2:=hK.wf.hi hp
   rcases he with rfl|rfl
   ·have:=h1.2;rw[aM hd]at this;omega
   ·have:=h2.2;rw[aM hd]at this;omega
 |succ k ih=>
  intro s d hd hl
  have fin:live K5.N s→K5.N s=some d:=fun hs=>by
   rcases hs with hs|⟨d',ei⟩
   ·have:=(hK.mid.two hd).1;omega
   ·rw[ei,h3 s d d' hd ei]
  rcases hK.reach s d hd with h|⟨p,e,hp,he⟩
  ·exact fin (.inr (Oe.mid.held s (hold s h)))
  ·have h1:=hK.wf.lo hp
   have h2:=hK.wf.hi hp
   rcases he with rfl|rfl
   ·have:=h1.2;rw[aM hd]at this
    exact fin (Oe.mid.lo (ih p e hp (by omega)))
   ·have:=h2.2;rw[aM hd]at this
    exact fin (Oe.mid.hi (ih p e hp (by omega)))
theorem Af.held{K K':Kd}{S S':Nat→bc.Fn}{f:bc.Fn}{r:Nat}(h:Af K S K' S' f r)(hm:∀s,K.hold s≠0→bc.live K.N s)(g:bc.Fn)(hg:K'.held S' g):K.held S g∨g=f:=by
 obtain⟨s,hs,rfl⟩:=hg
 by_cases h0:K.hold s=0
 ·right
  have:=h.hold s
  have hs':K'.hold s≠0:=hs
  rw[h0]at this
  by_cases e:s=r∧2≤r
  ·rw[e.1];exact h.is
  ·rw[if_neg e]at this;omega
 ·exact .inl ⟨s,h0,h.fn s (hm s h0)⟩
section
variable {kp:Nat}
theorem Qe{n:Nat}{U:bc.Fn→Prop}{ku:Nat}(hU:oQ U ku){ord av:List Nat}{o:Value}(hn:n≤16):
  ∀(k l:Nat) (K:Kd) (S:Nat→bc.Fn) (C Y:Hp) (v:Value) (t:List Nat),n-l≤k→l≤n→K.n=n→ku+2≤K.cap→lH kp K S ord av [] C→cE .i64 Y o (iw ord)→jS Y v ⟨n,t⟩→aj.cw n t→
  (∀j,j<l→¬gL (eC n t) (ord.getD j 0))→(∀g,cg n ord (K.held S) g→U g)→(∀g,cg n ord (fun g=>g=eC n t) g→U g)→(∀s,K.hold s+(n-l)+1≤65535)→
  Fc Tryz.prog 123 #[ptr kp,o,v,.int .i64 (l:Int)] (Y++C) (fun w H=>∃r K' S' C',w=.tuple #[u32 r,.int .i64 0]∧H=Y++C'∧lH kp K' S' ord av [] C'∧Af K S K' S' (eC n t) r):=by
 intro k
 induction k with
 |zero=>
  intro l K S C Y v t hk hl RQ hcap hK ho ht hf PV hU1 U5 hB
  obtain rfl:l=n:=by omega
  obtain⟨s0,rfl,oz⟩:=ht
  have hlen:=hK.od.len
  have nP:=zC (n:=l) (ws:=t) fun v hv hh=>by
   have:=hK.od.of hK.ok.lv (v:=v) (by omega)
   have hlv:=hK.ok.lv.lt v (by omega)
   exact PV _ (by rw[←RQ];exact hlv) (by rw[this];exact hh)
  have hc:t=cu l false∨t=cu l true:=by
   cases e:eC l t 0 with
   |false=>exact .inl ((eB hn hf false).2 (funext fun x=>(nP x).trans e))
   |true=>exact .inr ((eB hn hf true).2 (funext fun x=>(nP x).trans e))
  intro g
  refine uz (R:=aE _) ?_
  unfold L123
  intro b1 _
  refine aA.whole (r:=[.int .i64 (l:Int),s0]) (by exact .head _) rfl ?_
  refine ag.rd (.cons .left) (kW (v:=.agg (List.toArray [.int .i64 (l:Int),s0])) (n:=l) (ws:=t) ⟨s0,rfl,oz⟩ hf) ?_
  rintro v rfl
  refine Br.gI hc ?_
  refine aA.whole (r:=[.int .i64 (l:Int),s0]) (by exact .head _) rfl ?_
  refine ag.rd (B:=Y) (args:=#[.agg (List.toArray [.int .i64 (l:Int),s0]),.int .i64 ((0:Nat):Int)]) (.cons .left) (rV (n:=l) (x:=0) (ws:=t) ⟨s0,rfl,oz⟩ hf (Nat.two_pow_pos _)) ?_
  rintro v rfl
  have hi:=hK.ok.mid.int
  have h0:aj.bit t 0=eC l t 0:=XD
  rw[h0]
  refine Br.mk (fun hb=>?_) (fun hb=>?_)
  ·exact aE.mk .tail ⟨1,K,S,C,rfl,rfl,hK,rfl,rfl,fun _ _ h=>h,fun _ _=>rfl,.inl (by omega),funext fun x=>by rw[hi.one,nP x,hb],fun s=>by simp⟩
  ·exact aE.mk .tail ⟨0,K,S,C,rfl,rfl,hK,rfl,rfl,fun _ _ h=>h,fun _ _=>rfl,.inl (by omega),funext fun x=>by rw[hi.zero,nP x,hb],fun s=>by simp⟩
 |succ k ih=>
  intro l K S C Y v t hk hl RQ hcap hK ho ht hf PV hU1 U5 hB
  obtain⟨s0,rfl,oz⟩:=ht
  have hlen:ord.length=n:=by rw[hK.od.len,RQ]
  intro g
  refine uz (R:=aE _) ?_
  unfold L123
  intro b1 _
  refine aA.whole (r:=[.int .i64 (n:Int),s0]) (by exact .head _) rfl ?_
  refine ag.rd (.cons .left) (kW (v:=.agg (List.toArray [.int .i64 (n:Int),s0])) (n:=n) (ws:=t) ⟨s0,rfl,oz⟩ hf) ?_
  rintro v rfl
  refine Br.dec (fun hc=>?_) (fun hc=>?_)
  ·refine aA.whole (r:=[.int .i64 (n:Int),s0]) (by exact .head _) rfl ?_
   refine ag.rd (B:=Y) (args:=#[.agg (List.toArray [.int .i64 (n:Int),s0]),.int .i64 ((0:Nat):Int)]) (.cons .left) (rV (n:=n) (x:=0) (ws:=t) ⟨s0,rfl,oz⟩ hf (Nat.two_pow_pos _)) ?_
   rintro v rfl
   have hi:=hK.ok.mid.int
   have h0:aj.bit t 0=eC n t 0:=XD
   rw[h0]
   have nP:∀x,eC n t x=eC n t 0:=fun x=>by
    rcases hc with rfl|rfl
    ·rw[gg]
    ·rw[gg]
   refine Br.mk (fun hb=>?_) (fun hb=>?_)
   ·exact aE.mk .tail ⟨1,K,S,C,rfl,rfl,hK,rfl,rfl,fun _ _ h=>h,fun _ _=>rfl,.inl (by omega),funext fun x=>by rw[hi.one,nP x,hb],fun s=>by simp⟩
   ·exact aE.mk .tail ⟨0,K,S,C,rfl,rfl,hK,rfl,rfl,fun _ _ h=>h,fun _ _=>rfl,.inl (by omega),funext fun x=>by rw[hi.zero,nP x,hb],fun s=>by simp⟩
  ·obtain⟨u,hun,hud⟩:=Ub hn hf (fun e=>hc (.inl e)) (fun e=>hc (.inr e))
   have xk:=hK.ok.lv.lt u (by omega)
   have huo:ord.getD (lv av u) 0=u:=hK.od.of hK.ok.lv (by omega)
   refine⟨fun vs H=>∃i:Nat,vs=[.int .i64 (i:Int)]∧H=(b1,.cells #[.int .i64 (n:Int),s0] 57 (0,0))::(Y++C)∧l≤i∧i≤lv av u∧∀j,j<i→¬gL (eC n t) (ord.getD j 0),fun vs _=>n-bg vs 0,JE.mk ⟨l,rfl,rfl,Nat.le_refl _,?_,PV⟩,?_⟩
   ·refine Classical.byContradiction fun hlt=>?_
    exact PV _ (Nat.lt_of_not_le hlt) (by rw[huo];exact(iS hf hun).2 hud)
   rintro nJ H ⟨i,hv,rfl,hli,hiu,FP⟩ gs
   simp only[List.cons.injEq,and_true]at hv
   subst hv
   have hin:i<n:=by omega
   have hov:=hK.od.bu i (by omega)
   have js:ord.getD i 0<n:=by have:=hov.1;omega
   have UJ:(iw ord)[i]? =some ((ord.getD i 0:Nat):Int):=bE (by omega)
   refine DR.self ?_
   refine aA.whole (r:=[.int .i64 (n:Int),s0]) (by exact .head _) rfl ?_
   refine ho.ld UJ (fun _ h=>.tail _ (List.mem_append_left _ h)) ?_
   refine ag.rd (.cons .left) (tO (v:=.agg (List.toArray [.int .i64 (n:Int),s0])) (n:=n) (ws:=t) ⟨s0,rfl,oz⟩ hf js) ?_
   rintro v rfl
   refine Un.not ?_
   by_cases hd:aj.dep n t (ord.getD i 0)=true
   rotate_left
   ·have ei:aj.dep n t (ord.getD i 0)=false:=by cases h:aj.dep n t (ord.getD i 0);rfl;exact absurd h hd
    rw[ei]
    refine Br.yes ?_
    refine ae.aH (b:=1) (by simp[az];omega) ?_
    refine ay.of (.refl _) ⟨i+1,rfl,rfl,by omega,?_,fun j hj=>?_⟩ (by simp only[bg];omega)
    ·refine Classical.byContradiction fun hlt=>?_
     have:i=lv av u:=by omega
     subst this
     rw[huo]at hd;exact hd hud
    ·by_cases e:j=i
     ·subst e;exact fun hh=>hd ((iS hf js).1 hh)
     ·exact FP j (by omega)
   rw[hd]
   refine Br.no ?_
   have RB:gL (eC n t) (ord.getD i 0):=(iS hf js).2 hd
   refine DR.of (R:=(b1,.cells #[.int .i64 (n:Int),s0] 57 (0,0))::Y) (.cons .left) ?_
   refine aA.whole (r:=[.int .i64 (n:Int),s0]) (by exact .head _) rfl ?_
   refine ho.ld UJ (fun _ h=>.tail _ h) ?_
   refine ae.aH (b:=1) (by simp[az];omega) ?_
   refine ag.px (B:=Y) (.cons .left) (m0 (c:=false) (v:=.agg (List.toArray [.int .i64 (n:Int),s0])) (n:=n) (ws:=t) ⟨s0,rfl,oz⟩ hf js) ?_
   rintro v1 N1 As
   refine⟨.cons (aO.left.trans aO.right),?_⟩
   have hf1:=aj.cF (v:=ord.getD i 0) (ws:=t) (b:=false) (n:=n) hn
   obtain⟨i1,VB⟩:=vx (n:=n) (c:=eC n (aj.dV n t (ord.getD i 0) false)) FP (jH hf js false)
   refine ag.fn (C:=(N1++Y)++C) (.cons .here) (ih (i+1) K S C (N1++Y) v1 _ (by omega) (by omega) RQ hcap hK (ho.mono fun _ h=>List.mem_append_right _ h) As hf1 i1 hU1 (fun g hg=>U5 g (VB g hg)) (fun s=>by have:=hB s;omega)) ?_
   rintro w H ⟨r1,K1,S1,C1,rfl,rfl,uN,g1⟩
   refine⟨.cons (aO.left.trans aO.right),?_⟩
   refine Ext.mk rfl (Ext.mk rfl ?_)
   refine ae.gj (Br.cq (by decide) ?_)
   refine DR.of (R:=(b1,.cells #[.int .i64 (n:Int),s0] 57 (0,0))::Y) (.cons (aO.left.trans aO.right)) ?_
   refine aA.whole (r:=[.int .i64 (n:Int),s0]) (by exact .head _) rfl ?_
   refine ho.ld UJ (fun _ h=>.tail _ h) ?_
   refine ae.aH (b:=1) (by simp[az];omega) ?_
   refine ag.px (B:=N1++Y) (.cons .left) (m0 (c:=true) (v:=.agg (List.toArray [.int .i64 (n:Int),s0])) (n:=n) (ws:=t) ⟨s0,rfl,oz.mono fun _ h=>List.mem_append_right _ h⟩ hf js) ?_
   rintro v2 N2 Rg
   refine⟨.cons (aO.left.trans (.bQ .right)),?_⟩
   have Ob:=aj.cF (v:=ord.getD i 0) (ws:=t) (b:=true) (n:=n) hn
   obtain⟨i2,VA⟩:=vx (n:=n) (c:=eC n (aj.dV n t (ord.getD i 0) true)) FP (jH hf js true)
   have abg:∀s,K.hold s≠0→live K.N s:=fun s hs=>.inr (hK.ok.mid.held s hs)
   have W3:∀g,cg n ord (K1.held S1) g→U g:=fun g hg=>by
    rcases(yR g).1 (ni (g1.held abg) hg)with h|h
    ·exact hU1 g h
    ·exact U5 g (VB g h)
   have hh1:∀s,K1.hold s≤K.hold s+1:=fun s=>by have:=g1.hold s;split at this<;>omega
   refine ag.fn (C:=(N2++(N1++Y))++C1) (.cons .here) (ih (i+1) K1 S1 C1 (N2++(N1++Y)) v2 _ (by omega) (by omega) (g1.n.trans RQ) (by rw[g1.cap];exact hcap) uN (ho.mono zS) Rg Ob i2 W3 (fun g hg=>U5 g (VA g hg)) (fun s=>by have:=hB s;have:=hh1 s;omega)) ?_
   rintro w H ⟨r2,K2,S2,C2,rfl,rfl,tC,g2⟩
   refine⟨.cons (aO.left.trans (.bQ .right)),?_⟩
   refine Ext.mk rfl (Ext.mk rfl ?_)
   refine ae.gj (Br.cq (by decide) ?_)
   refine ho.ld UJ (fun _ h=>.tail _ (List.mem_append_left _ (List.mem_append_right _ (List.mem_append_right _ h)))) ?_
   have l1:live K2.N r1:=by
    by_cases h2:r1<2
    ·exact .inl h2
    ·refine .inr (tC.ok.mid.held r1 ?_)
     have a:=g1.hold r1
     have b:=g2.hold r1
     rw[if_pos ⟨rfl,by omega⟩]at a
     omega
   have l2:=g2.live
   have e1:S2 r1=eC n (aj.dV n t (ord.getD i 0) false):=(g2.fn r1 g1.live).trans g1.is
   have e2:S2 r2=eC n (aj.dV n t (ord.getD i 0) true):=g2.is
   have hne:r1≠r2:=fun e=>by
    subst e
    rw[e1,jH hf js,jH hf js]at e2
    obtain⟨x,hx⟩:=RB
    exact hx (congrFun e2 x)
   have n2:K2.n=n:=by rw[g2.n,g1.n,RQ]
   have YE:lv av (ord.getD i 0)=i:=hov.2
   have b1':=tC.ok.below tC.od (l:=i+1) l1 (by omega) (by rw[e1];exact i1)
   have b2':=tC.ok.below tC.od (l:=i+1) l2 (by omega) (by rw[e2];exact i2)
   have WB:ite S2 ⟨ord.getD i 0,r1,r2⟩=eC n t:=by
    funext x
    unfold bc.ite
    rw[e1,e2,jH hf js,jH hf js]
    conv=>rhs;rw[←aj.qe x (ord.getD i 0)]
    simp only
    cases x.testBit (ord.getD i 0)<;>rfl
   have WD:∀s,K2.hold s≤K.hold s+1:=fun s=>by
    have a:=g1.hold s
    have b:=g2.hold s
    by_cases c1:s=r1∧2≤r1
    ·rw[if_neg (fun c2=>hne (c1.1.symm.trans c2.1))]at b
     rw[if_pos c1]at a;omega
    ·rw[if_neg c1]at a;split at b<;>omega
   have abf:∀s,K1.hold s≠0→live K1.N s:=fun s hs=>.inr (uN.ok.mid.held s hs)
   have abN:∀g,cg n ord (K2.held S2) g→U g:=fun g hg=>by
    rcases(yR g).1 (ni (g2.held abf) hg)with h|h
    ·exact W3 g h
    ·exact U5 g (VA g h)
   refine ag.fn (.cons (.app .here)) (Pg tC (v:=ord.getD i 0) (by omega) l1 l2 (.inr ⟨by rw[YE];omega,by rw[YE];omega⟩)) ?_
   rintro w C3 (⟨r,K3,S3,rfl,BR,m⟩|⟨r,rfl,rfl,hl,h2,hfull,_⟩|⟨rfl,rfl,TT,_,hT⟩)
   rotate_left
   ·have:=WD r;have:=hB r;omega
   ·exfalso
    have:=tC.ok.roomFor tC.od hU (by rw[g2.cap,g1.cap];exact hcap) (by rw[n2];exact abN) (d:=⟨ord.getD i 0,r1,r2⟩) l1 l2 hne (by rw[n2];exact js) ⟨by show lv av (ord.getD i 0)<dep K2.n (lv av) K2.N r1;rw[YE];omega,by show lv av (ord.getD i 0)<dep K2.n (lv av) K2.N r2;rw[YE];omega⟩ (by rw[WB];exact U5 _ (GS FP hin RB)) hT
    omega
   refine Ext.mk rfl (Ext.mk rfl ?_)
   have agK:=tC.fJ l1
   have agJ:=tC.fJ l2
   have LW:∀s,K2.hold s=K.hold s+(if s=r1∧2≤r1 then 1 else 0)+(if s=r2∧2≤r2 then 1 else 0):=fun s=>by rw[g2.hold,g1.hold]
   have Rp:∀s,K2.hold s≤K3.hold s:=fun s=>by rw[m.hold];split<;>omega
   refine ag.fn (.cons (.app .here)) (FZ BR (r:=r1) (by omega) (fun h2=>by have:=Rp r1;have:=LW r1;rw[if_pos ⟨rfl,h2⟩]at this;omega)) ?_
   rintro w C4 ⟨rfl,K4,Xg,f4⟩
   refine ag.fn (.cons (.app .here)) (FZ Xg (r:=r2) (by omega) (fun h2=>by
    have:=Rp r2;have:=LW r2;have h4:=f4.hold r2
    rw[if_neg (fun h=>hne h.1.symm)]at h4
    rw[if_neg (fun h=>hne h.1.symm),if_pos ⟨rfl,h2⟩]at this;omega)) ?_
   rintro w C5 ⟨rfl,K5,Oe,f5⟩
   have LV:∀s,K5.hold s=K.hold s+if s=r∧2≤r then 1 else 0:=fun s=>by
    rw[f5.hold,f4.hold,m.hold,LW]
    by_cases c1:s=r1∧2≤r1
    ·have c2:¬(s=r2∧2≤r2):=fun c2=>hne (c1.1.symm.trans c2.1)
     rw[if_neg c2,if_pos c1,if_neg c2]
     split<;>omega
    ·by_cases c2:s=r2∧2≤r2
     ·rw[if_pos c2,if_neg c1,if_neg c1]
      split<;>omega
     ·rw[if_neg c2,if_neg c1,if_neg c1,if_neg c2]
      split<;>omega
   have l5:live K5.N r:=by
    by_cases h2:r<2
    ·exact .inl h2
    ·refine .inr (Oe.ok.mid.held r ?_)
     rw[LV,if_pos ⟨rfl,by omega⟩];omega
   refine aE.mk (lJ:=Y++C5) (.skip (aO.frame (.bQ .right) C5)) ⟨r,K5,S3,C5,rfl,rfl,Oe,by rw[f5.n,f4.n,m.n,g2.n,g1.n],by rw[f5.cap,f4.cap,m.cap,g2.cap,g1.cap],fun s d hs=>Bt hK.ok Oe.ok (fun s h=>by rw[LV];omega) (fun s d d' h h'=>?_) _ s d hs (Nat.le_refl _),fun s hs=>?_,l5,by rw[m.is,WB],LV⟩
   ·have a:=m.N s d (g2.N s d (g1.N s d h))
    have b:=f4.N s d' (f5.N s d' h')
    rw[a]at b;exact(Option.some.inj b).symm
   ·have q1:=qm g1.N hs
    have q2:=qm g2.N q1
    rw[m.fn s q2,g2.fn s q1,g1.fn s hs]
end
end Go.Proofs
namespace bc
open aj
structure ug(K:Kd)(S:Nat→Fn)(held:List (List Nat×Nat)):Prop where
 nd:(held.map Prod.fst).Nodup
 kI:∀e∈held,cw K.n e.1
 rt:∀r,K.hold r≠0→∃e∈held,eC K.n e.1=S r∧e.2=K.hold r
 lf:∀e∈held,∃r,2≤r∧K.hold r=e.2∧e.2≠0∧S r=eC K.n e.1
section
variable {K:Kd} {S:Nat→Fn} {av:Nat→Nat} {ord:List Nat} {held:List (List Nat×Nat)}
theorem ug.iff(h:ug K S held)(g:Fn):K.held S g↔FT K.n (held.map Prod.fst) g:=by
 constructor
 ·rintro⟨r,hr,rfl⟩
  obtain⟨e,he,h1,_⟩:=h.rt r hr
  exact⟨e.1,List.mem_map.2 ⟨e,he,rfl⟩,h1.symm⟩
 ·rintro⟨t,ht,rfl⟩
  obtain⟨e,he,rfl⟩:=List.mem_map.1 ht
  obtain⟨r,_,h1,h2,h3⟩:=h.lf e he
  exact⟨r,fun h0=>h2 (by rw[←h1];exact h0),h3.symm⟩
theorem ug.xx(h:ug K S held):K.held S=FT K.n (held.map Prod.fst):=funext fun g=>propext (h.iff g)
theorem ug.roots(h:ug K S held)(hok:Ok K S av)(hm:K.ho.length≤1048576):((List.range K.ho.length).filter fun r=>decide (0<K.hold r)).length=held.length:=by
 let rts:=(List.range K.ho.length).filter fun r=>decide (0<K.hold r)
 have hr:∀r,r∈rts↔K.hold r≠0:=fun r=>by
  show r∈List.filter _ _↔_
  rw[List.mem_filter,List.mem_range,decide_eq_true_iff]
  constructor
  ·rintro⟨_,h⟩;omega
  ·intro h
   refine⟨?_,by omega⟩
   obtain⟨d,hd⟩:=hok.mid.held r h
   have:=hok.mid.fit hd
   rw[←hok.mid.len];exact this
 have hl:∀r,K.hold r≠0→live K.N r:=fun r h=>.inr (hok.mid.held r h)
 have n1:(rts.map S).Nodup:=List.pairwise_map.2 ((List.nodup_range.filter _).imp_of_mem fun{a b} ha hb hne heq=>hne (hok.wf.same hok.lv hok.mid.int (hl a ((hr a).1 ha)) (hl b ((hr b).1 hb)) (congrFun heq)))
 have n2:((held.map Prod.fst).map (eC K.n)).Nodup:=List.pairwise_map.2 (h.nd.imp_of_mem fun{a b} ha hb hne heq=>by
  obtain⟨e,he,rfl⟩:=List.mem_map.1 ha
  obtain⟨e',he',rfl⟩:=List.mem_map.1 hb
  exact hne (k7 (h.kI e he) (h.kI e' he') heq))
 have s1:=bV n1 (l':=(held.map Prod.fst).map (eC K.n)) fun g hg=>by
  obtain⟨r,hr',rfl⟩:=List.mem_map.1 hg
  obtain⟨e,he,h1,_⟩:=h.rt r ((hr r).1 hr')
  exact List.mem_map.2 ⟨e.1,List.mem_map.2 ⟨e,he,rfl⟩,h1⟩
 have s2:=bV n2 (l':=rts.map S) fun g hg=>by
  obtain⟨t,ht,rfl⟩:=List.mem_map.1 hg
  obtain⟨e,he,rfl⟩:=List.mem_map.1 ht
  obtain⟨r,_,h1,h2,h3⟩:=h.lf e he
  exact List.mem_map.2 ⟨r,(hr r).2 (by rw[h1];exact h2),h3⟩
 simp only[List.length_map]at s1 s2
 show rts.length=held.length
 omega
theorem ug.count(h:ug K S held)(hok:Ok K S av){r:Nat}{t:List Nat}(hr:live K.N r)(ht:eC K.n t=S r)(hf:cw K.n t):
  (∀e∈held,e.1=t→e.2=K.hold r)∧(t∉held.map Prod.fst→K.hold r=0):=by
 refine⟨fun e he h1=>?_,fun hno=>?_⟩
 ·obtain⟨r',_,h2,h3,h4⟩:=h.lf e he
  have hr':live K.N r':=.inr (hok.mid.held r' (by rw[h2];exact h3))
  have:r'=r:=hok.wf.same hok.lv hok.mid.int hr' hr (congrFun (by rw[h4,h1,ht]))
  rw[←this,h2]
 ·refine Classical.byContradiction fun h0=>?_
  obtain⟨e,he,h1,_⟩:=h.rt r h0
  exact hno (List.mem_map.2 ⟨e,he,k7 (h.kI e he) hf (h1.trans ht.symm)⟩)
theorem ug.none(hn:∀r,K.hold r=0):ug K S []:=⟨by simp,by simp,fun r h=>absurd (hn r) h,by simp⟩
theorem ug.same{K':Kd}{S':Nat→Fn}(h:ug K S held)(hn:K'.n=K.n)(hh:∀r,K'.hold r=K.hold r)(hs:∀r,K.hold r≠0→S' r=S r):ug K' S' held:=by
 refine⟨h.nd,by rw[hn];exact h.kI,fun r hr=>?_,fun e he=>?_⟩
 ·rw[hh]at hr
  obtain⟨e,he,h1,h2⟩:=h.rt r hr
  exact⟨e,he,by rw[hn,h1,hs r hr],by rw[h2,hh]⟩
 ·obtain⟨r,h0,h1,h2,h3⟩:=h.lf e he
  exact⟨r,h0,by rw[hh,h1],h2,by rw[hs r (by rw[h1];exact h2),hn,h3]⟩
theorem yl{n l:Nat}{F:Fn→Prop}(h:∀g,¬F g):x5 n ord l F=0:=by
 refine AV (oQ.none.congr fun g=>⟨False.elim,fun hg=>?_⟩)
 have key:∀ord k g,¬fs ord F k g:=fun ord k=>by
  induction k with
  |zero=>exact h
  |succ k ih=>rintro g ⟨f,hf,_⟩;exact ih f hf
 rcases hg with⟨k,_,hf,_⟩|⟨k,_,hf,_⟩
 ·exact key _ _ _ hf
 ·exact key _ _ _ hf
end
end bc
set_option maxRecDepth 100000
namespace Go.Proofs
open Go Go.Sx
open bc
def K9(kp mp:Nat)(vr vt:Value):Value:=.agg #[ptr kp,ptr mp,vr,vt]
structure oH(mp:Nat)(vr vt:Value)(K:Kd)(S:Nat→bc.Fn)(ord tr:List Nat)(M:Md)(refs:List Nat)(ts:List (List Nat))(Y:Hp):Prop where
 md:Co mp M Y
 MO:M.oK
 n:M.n=K.n
 ord:M.ord=ord
 Yz:M.tr.length=tr.length
 ri:cE .u32 Y vr (iw refs)
 cr:cV Y vt (gn K.n ts)
 len:refs.length=ts.length
 JA:ug K S M.held
 each:∀(i:Nat) (r:Nat) (t:List Nat),refs[i]? =some r→ts[i]? =some t→aj.cw K.n t∧eC K.n t=S r∧((r<2∧S r=fun _=>decide (r=1))∨K.hold r≠0)
 HZ:refs.length≤65536
section
variable {kp mp:Nat} {vr vt:Value} {K:Kd} {S:Nat→bc.Fn} {ord tr:List Nat} {M:Md} {refs:List Nat} {ts:List (List Nat)} {Y C:Hp}
theorem Hg(h:oH mp vr vt K S ord tr M refs ts Y):bW K S ord=dR M.n M.ord M.cr M.n:=by
 have h1:=h.MO
 unfold bW
 rw[h.JA.xx,←h.n,←h.ord]
 exact Fo h1.kI h1.lD h1.lt
theorem Nv(hA:At kp K S ord tr C)(h:oH mp vr vt K S ord tr M refs ts Y)(g7:tr.length≤1099511627776):Rd Tryz.prog 125 #[K9 kp mp vr vt] (Y++C) (· =.bool true):=by
 obtain⟨K',S',fu,hK,hk⟩:=hA
 have hM:=h.MO
 have qu:K.n≤16:=by rw[←h.n];exact hM.lD
 have hn':K'.n≤16:=by rw[hk.n];exact qu
 have Ws:ug K' S' M.held:=h.JA.same hk.n hk.hold hk.fn
 have aet:ord.length=K.n:=by rw[hK.od.len,hk.n]
 have aez:=hM.HZ
 have hAt:At kp K S ord tr C:=⟨K',S',fu,hK,hk⟩
 have tq:vr.oneCell'=true:=by obtain⟨a,c,e,_⟩:=h.ri.shape;rw[e];rfl
 have tp:vt.oneCell'=true:=by obtain⟨rs,h1,_⟩:=h.cr;obtain⟨a,c,e,_⟩:=h1.shape;rw[e];rfl
 intro g
 refine EE (R:=aE _) ?_
 unfold L125
 intro b1 _
 show∀J3:List Value→Hp→Prop,_
 intro J3 U7
 have LY:=h.md
 have fin:J3 [.bool false] ((b1,.cells #[ptr kp,ptr mp,vr,vt] 98 (0,0))::(Y++C)):=by
  refine U7 _ _ fun gs=>Br.no ?_
  refine aa.mk (Ld.mk (v:=vr) (by exact .head _) rfl ?_)
  refine h.ri.aS ?_
  rw[an]
  refine⟨fun vs H=>∃i:Nat,vs=[.int .i64 (i:Int)]∧i≤refs.length∧H=(b1,.cells #[ptr kp,ptr mp,vr,vt] 98 (0,0))::(Y++C),fun vs _=>refs.length-bg vs 0,JE.mk ⟨0,rfl,Nat.zero_le _,rfl⟩,?_⟩
  rintro kG H ⟨i,hv,hi,rfl⟩ gs
  simp only[List.cons.injEq,and_true]at hv
  subst hv
  have BJ:=h.HZ
  refine ae.dL (Br.dec (fun hlt=>?_) (fun hlt=>?_))
  rotate_left
  ·exact bL.mk .tail rfl
  have xm:refs[i]? =some refs[i]:=List.getElem?_eq_getElem hlt
  have YK:ts[i]? =some (ts[i]'(by rw[←h.len];exact hlt)):=List.getElem?_eq_getElem _
  obtain⟨Oa,hfn,RA⟩:=h.each i _ _ xm YK
  generalize ht:(ts[i]'(by rw[←h.len];exact hlt))=t at*
  generalize hr:refs[i]=r at*
  have zm:live K'.N r:=by
   rcases RA with h2|h2
   ·exact .inl h2.1
   ·exact .inr (hK.ok.mid.held r (by rw[hk.hold];exact h2))
  have hS:S' r=eC K.n t:=by
   rcases RA with h2|h2
   ·rw[hfn,h2.2]
    have i1:=hK.ok.mid.int
    have:r=0∨r=1:=by omega
    funext x
    rcases this with rfl|rfl
    ·exact i1.zero x
    ·exact i1.one x
   ·rw[hk.fn r h2,hfn]
  have uL:=hK.fJ zm
  refine h.ri.ld (n:=((r:Nat):Int)) (by rw[cy xm]) (fun _ h=>.tail _ (List.mem_append_left _ h)) ?_
  obtain⟨vo,vh,Sd,rs,hR⟩:=LY
  refine DR.self ?_
  refine aa.mk (Ld.mk (v:=ptr kp) (by exact .head _) rfl ?_)
  refine aa.mk (Ld.mk (v:=ptr mp) (by exact .head _) rfl ?_)
  refine Nil.ptr (aa.mk (Ld.mk (v:=.int .i64 (M.n:Int)) (.tail _ (List.mem_append_left _ hR.Gc)) rfl ?_))
  rw[show M.n=K'.n by rw[h.n,hk.n]]
  intro F26
  refine ag.px (B:=((b1,Obj.cells #[ptr kp,ptr mp,vr,vt] 98 (0,0))::Y)++C) .here (Ky hK hn' _ r 0 _ (Nat.le_refl _) zm (Nat.zero_le _)) ?_
  rintro v N ⟨_,ws,rfl,⟨s,rfl,PC⟩,YW,hew⟩
  have aaH:ws=t:=k7 YW (by rw[hk.n];exact Oa) (by rw[hew,hS,hk.n])
  subst aaH
  have hos:=aB PC
  refine⟨.right,?_⟩
  refine Ext.mk rfl (Ext.mk rfl ?_)
  intro Is _ F33
  refine St.whole (r:=[.int .i64 (K'.n:Int),s]) (by exact .head _) rfl rfl (by simpa[Value.oneCell']using hos) ?_
  refine⟨.skip .right,?_⟩
  intro Gr ab1
  have acC:Gr [.bool false] ((Is,.cells (List.toArray [.int .i64 (K'.n:Int),s]) 57 (0,0))::(N++(((b1,Obj.cells #[ptr kp,ptr mp,vr,vt] 98 (0,0))::Y)++C))):=by
   refine ab1 _ _ fun gs=>Br.no ?_
   refine ae.aH (b:=1) (by simp[az];omega) ?_
   exact ay.of (.skip .right) ⟨i+1,rfl,hlt,rfl⟩ (by simp only[bg];omega)
  refine DR.self ?_
  refine Un.not (Br.no ?_)
  refine aA.whole (r:=[.int .i64 (K'.n:Int),s]) (by exact .head _) rfl ?_
  refine aa.mk (Ld.mk (v:=vt) (by exact .tail _ (List.mem_append_right _ (.head _))) rfl ?_)
  refine h.cr.ld (kL YK) (fun _ h=>.tail _ (List.mem_append_right _ (.tail _ (List.mem_append_left _ h)))) fun s2 mr=>?_
  intro F47
  have N9:=fM YW
  refine ag.rd .here (kM (v1:=.agg (List.toArray [.int .i64 (K'.n:Int),s])) (v2:=.agg #[.int .i64 (K.n:Int),s2]) (a:=⟨K'.n,ws⟩) (b:=⟨K.n,ws⟩) ⟨s,rfl,PC.mono fun _ h=>.tail _ h⟩ ⟨s2,rfl,mr.mono fun _ h=>.tail _ (List.mem_append_right _ (.tail _ (List.mem_append_left _ h)))⟩ (by show ws.length<_;omega)) ?_
  rintro v rfl
  refine⟨.refl _,?_⟩
  rw[decide_eq_true (by rw[hk.n])]
  refine Un.not (aD.mk (Br.no ?_))
  refine aa.mk (Ld.mk (v:=ptr kp) (by exact .tail _ (List.mem_append_right _ (.head _))) rfl ?_)
  refine aa.mk (Ld.mk (v:=ptr mp) (by exact .tail _ (List.mem_append_right _ (.head _))) rfl ?_)
  refine aA.whole (r:=[.int .i64 (K'.n:Int),s]) (by exact .head _) rfl ?_
  intro F57
  refine ag.rd (B:=C) (.cons (.app (.app .here))) (tf hK.rep (by omega) (fun s=>by have:=hK.jG s;omega)) ?_
  rintro v rfl
  refine⟨.refl _,?_⟩
  intro F60
  refine ag.rd .here (LU (mp:=mp) (M:=M) (Co.mono ⟨vo,vh,Sd,rs,hR⟩ fun _ h=>.tail _ (List.mem_append_right _ (.tail _ (List.mem_append_left _ h)))) hM (v:=.agg (List.toArray [.int .i64 (K'.n:Int),s])) (t:=ws) ⟨s,by rw[h.n,hk.n],PC.mono fun _ h=>.tail _ h⟩ (by rw[h.n,←hk.n];exact YW)) ?_
  intro v TU
  refine⟨.refl _,?_⟩
  obtain⟨c1,c2⟩:=Ws.count hK.ok zm hew YW
  have Re:v=.int .i64 ((K'.hold r:Nat):Int):=by
   rcases TU with⟨e,he,h1,h2⟩|⟨h1,h2⟩
   ·rw[h2,c1 e he h1]
   ·rw[h2,c2 h1];rfl
  subst Re
  refine ae.ql ?_
  rw[decide_eq_false (fun hh=>hh rfl)]
  exact aD.mk (JE.mk acC)
 obtain⟨vo,vh,Sd,rs,hR⟩:=h.md
 have hin:∀x∈Y,x∈(b1,Obj.cells #[ptr kp,ptr mp,vr,vt] 98 (0,0))::(Y++C):=fun _ h=>.tail _ (List.mem_append_left _ h)
 refine DR.self ?_
 refine aa.mk (Ld.mk (v:=ptr kp) (by exact .head _) rfl ?_)
 refine aa.mk (Ld.mk (v:=ptr mp) (by exact .head _) rfl ?_)
 refine Nil.ptr (aa.mk (Ld.mk (v:=vo) (hin _ hR.Gc) rfl ?_))
 intro F73
 refine ag.fn (.cons (.app .here)) (z8 hAt) ?_
 rintro v H ⟨N,rfl,ho⟩
 refine⟨.cons (.cJ .right _),?_⟩
 intro F76
 have hY:∀x∈Y,x∈(b1,Obj.cells #[ptr kp,ptr mp,vr,vt] 98 (0,0))::(Y++(N++C)):=fun _ h=>.tail _ (List.mem_append_left _ h)
 refine ag.rd .here (Ly (ho.ints.mono fun _ h=>.tail _ (List.mem_append_right _ (List.mem_append_left _ h))) (hR.ord.mono hY) (by rw[an];omega)) ?_
 rintro v rfl
 refine⟨.cons (.cJ .right _),?_⟩
 rw[decide_eq_true (by rw[h.ord])]
 refine Un.not (Br.no ?_)
 refine aa.mk (Ld.mk (v:=ptr kp) (by exact .head _) rfl ?_)
 refine aa.mk (Ld.mk (v:=ptr mp) (by exact .head _) rfl ?_)
 refine Nil.ptr (aa.mk (Ld.mk (v:=Sd) (hin _ hR.Gc) rfl ?_))
 refine hR.tr.aS ?_
 intro F88
 refine ag.rd (B:=C) (.cons (.app (.app .here))) (mJ hAt) ?_
 rintro v rfl
 refine⟨.cons (.cJ .right _),?_⟩
 refine ae.ql ?_
 rw[an,h.Yz,decide_eq_false (fun hh=>hh rfl)]
 refine aD.mk (Br.no ?_)
 refine aa.mk (Ld.mk (v:=ptr kp) (by exact .head _) rfl ?_)
 refine aa.mk (Ld.mk (v:=ptr mp) (by exact .head _) rfl ?_)
 intro F97
 refine ag.rd (B:=C) (.cons (.app (.app .here))) (dF hAt) ?_
 rintro v rfl
 refine⟨.cons (.cJ .right _),?_⟩
 intro Yq
 refine ag.rd (B:=Y) (.cons .left) (Lj h.md hM) ?_
 rintro v rfl
 refine⟨.cons (.cJ .right _),?_⟩
 refine ae.ql ?_
 rw[Hg h,decide_eq_false (fun hh=>hh rfl)]
 refine aD.mk (Br.no ?_)
 refine aa.mk (Ld.mk (v:=ptr kp) (by exact .head _) rfl ?_)
 refine aa.mk (Ld.mk (v:=ptr mp) (by exact .head _) rfl ?_)
 refine Nil.ptr (aa.mk (Ld.mk (v:=vh) (hin _ hR.Gc) rfl ?_))
 refine hR.sl.aS ?_
 rw[hR.each.1]
 intro Yp
 refine ag.rd (B:=C) (.cons (.app (.app .here))) (KQ hK) ?_
 rintro v ⟨q,hq,hqe⟩
 refine⟨.cons (.cJ .right _),?_⟩
 refine hq _ ?_
 obtain⟨b,_,hO⟩:=hK.rep
 have xk:=hO.ul
 rw[Ws.roots hK.ok (by omega)]at hqe
 subst hqe
 refine ae.ql ?_
 rw[decide_eq_false (fun hh=>hh rfl)]
 exact aD.mk (JE.of (.cons (.cJ .right _)) fin)
end
end Go.Proofs
set_option maxRecDepth 100000
namespace Go.Proofs
open Go Go.Sx
open bc
def tD(n c:Nat)(ord:List Nat):aj.Fs→aj.Fs→aj.Fs
 |A,[]=>A
 |A,t::L=>tD n c ord (if 2+dR n ord (A++[t]) n≤c∧¬(t=cu n false∨t=cu n true)∧t∉A then A++[t]else A) L
theorem oA{n c:Nat}{ord:List Nat}{t:List Nat}:∀{L A:aj.Fs},tD n c ord A (L++[t])=tD n c ord (tD n c ord A L) [t]
 | [],_=>rfl
 |_::L,_=>oA (L:=L)
theorem lq.frame{mp:Nat}{M:Md}{X H:Hp}(h:lq mp M X H)(Y:Hp):lq mp M (X++Y) (H++Y):=by
 obtain⟨vo,vh,vt,rs,CO,CH,CT,rfl,hO⟩:=h
 exact⟨vo,vh,vt,rs,CO,CH,CT,by simp,hO.ord,hO.sl,hO.each.mono fun _ _ h=>h.mono fun _ h=>List.mem_append_left _ h,hO.tr⟩
theorem ug.acI{K K':Kd}{S S':Nat→bc.Fn}{av fu:Nat→Nat}{held held':List (List Nat×Nat)}{t:List Nat}{r:Nat}(h:ug K S held)(hok:Ok K S av)(tt:Ok K' S' fu)(hg:Af K S K' S' (eC K.n t) r)(hf:aj.cw K.n t)(h2:2≤r)(hb:QT held t held'):ug K' S' held':=by
 have hlv:∀s,K.hold s≠0→live K.N s:=fun s hs=>.inr (hok.mid.held s hs)
 have hn:=hg.n
 have key:∀s,K.hold s≠0→S' s=eC K.n t→s=r:=fun s hs he=>tt.wf.same tt.lv tt.mid.int (qm hg.N (hlv s hs)) hg.live (congrFun (by rw[he,hg.is]))
 have hr:K'.hold r=K.hold r+1:=by rw[hg.hold,if_pos ⟨rfl,h2⟩]
 have ho:∀s,s≠r→K'.hold s=K.hold s:=fun s hs=>by rw[hg.hold,if_neg (fun e=>hs e.1),Nat.add_zero]
 rcases hb with⟨i,c,hi,hno,rfl⟩|⟨hno,rfl⟩
 ·have UU:(t,c)∈held:=List.mem_of_getElem? hi
  have BE:=(List.getElem?_eq_some_iff.1 hi).1
  have heq:held[i]=(t,c):=(List.getElem?_eq_some_iff.1 hi).2
  have TO:(held.set i (t,c+1)).map Prod.fst=held.map Prod.fst:=by
   apply List.ext_getElem?
   intro j
   rw[List.getElem?_map,List.getElem?_map]
   by_cases e:i=j
   ·subst e;rw[List.getElem?_set_self BE,hi];rfl
   ·rw[List.getElem?_set_ne e]
  obtain⟨r0,HG,h1,xC,h3⟩:=h.lf _ UU
  have Wa:K.hold r0≠0:=by rw[h1];exact xC
  have e0:r0=r:=key r0 Wa (by rw[hg.fn r0 (hlv r0 Wa),h3])
  subst e0
  have hmem:∀e,e∈held.set i (t,c+1)→e=(t,c+1)∨(e∈held∧e.1≠t):=fun e he=>by
   obtain⟨j,hj,Ry⟩:=List.getElem_of_mem he
   have Rw:j<held.length:=by simpa using hj
   by_cases e':i=j
   ·subst e'
    left
    rw[←Ry,List.getElem_set_self]
   ·right
    rw[List.getElem_set_ne e']at Ry
    refine⟨by rw[←Ry];exact List.getElem_mem _,fun h5=>?_⟩
    have gW:=h.nd
    have:=(List.getElem_inj (i:=i) (j:=j) (h₀:=by simpa using BE) (h₁:=by simpa using Rw) gW).1 (by simp[heq,Ry,h5])
    exact e' this
  refine⟨by rw[TO];exact h.nd,fun e he=>?_,fun s hs=>?_,fun e he=>?_⟩
  ·rw[hn]
   rcases hmem e he with rfl|⟨h5,_⟩
   ·exact hf
   ·exact h.kI e h5
  ·by_cases e5:s=r0
   ·subst e5
    refine⟨(t,c+1),List.mem_iff_getElem?.2 ⟨i,List.getElem?_set_self BE⟩,by rw[hn,hg.is],?_⟩
    rw[hr,h1]
   ·rw[ho s e5]at hs
    obtain⟨e,he,h6,h7⟩:=h.rt s hs
    obtain⟨j,hj,Ry⟩:=List.getElem_of_mem he
    have hij:i≠j:=fun e'=>by
     subst e'
     rw[heq]at Ry;subst Ry
     exact e5 (key s hs (by rw[hg.fn s (hlv s hs),←h6]))
    refine⟨e,List.mem_iff_getElem?.2 ⟨j,by rw[List.getElem?_set_ne hij,List.getElem?_eq_getElem hj,Ry]⟩,by rw[hn,h6,hg.fn s (hlv s hs)],by rw[h7,ho s e5]⟩
  ·rcases hmem e he with rfl|⟨h5,h6⟩
   ·exact⟨r0,HG,by rw[hr,h1],by simp,by rw[hg.is,hn]⟩
   ·obtain⟨s,g1,g2,g3,g4⟩:=h.lf e h5
    have g5:K.hold s≠0:=by rw[g2];exact g3
    have LN:s≠r0:=fun e'=>by
     subst e'
     rw[h3]at g4
     exact h6 (k7 (h.kI e h5) hf g4.symm)
    exact⟨s,g1,by rw[ho s LN,g2],g3,by rw[hg.fn s (hlv s g5),hn,g4]⟩
 ·have HG:K.hold r=0:=by
   refine Classical.byContradiction fun h0=>?_
   obtain⟨e,he,h1,_⟩:=h.rt r h0
   apply hno
   refine List.mem_map.2 ⟨e,he,k7 (h.kI e he) hf ?_⟩
   rw[h1,←hg.fn r (hlv r h0),hg.is]
  refine⟨by rw[List.map_append];exact List.nodup_append.2 ⟨h.nd,by simp,fun a ha b hb' e=>by simp at hb';subst hb';subst e;exact hno ha⟩,fun e he=>?_,fun s hs=>?_,fun e he=>?_⟩
  ·rw[hn]
   rcases List.mem_append.1 he with he|he
   ·exact h.kI e he
   ·simp at he;subst he;exact hf
  ·by_cases e5:s=r
   ·subst e5
    exact⟨(t,1),by simp,by rw[hn,hg.is],by rw[hr,HG]⟩
   ·rw[ho s e5]at hs
    obtain⟨e,he,h6,h7⟩:=h.rt s hs
    exact⟨e,by simp[he],by rw[hn,h6,hg.fn s (hlv s hs)],by rw[h7,ho s e5]⟩
  ·rcases List.mem_append.1 he with he|he
   ·obtain⟨s,g1,g2,g3,g4⟩:=h.lf e he
    have g5:K.hold s≠0:=by rw[g2];exact g3
    have LN:s≠r:=fun e'=>by subst e';exact g5 HG
    exact⟨s,g1,by rw[ho s LN,g2],g3,by rw[hg.fn s (hlv s g5),hn,g4]⟩
   ·simp at he;subst he
    exact⟨r,h2,by rw[hr,HG],by simp,by rw[hg.is,hn]⟩
theorem qE{held held':List (List Nat×Nat)}{t:List Nat}(hb:QT held t held'):held'.map Prod.fst=(if t∉held.map Prod.fst then held.map Prod.fst++[t]else held.map Prod.fst)∧held'.length≤held.length+1∧(∀m,(∀e∈held,e.2≤m)→∀e∈held',e.2≤m+1):=by
 rcases hb with⟨i,c,hi,hno,rfl⟩|⟨hno,rfl⟩
 ·have UU:(t,c)∈held:=List.mem_of_getElem? hi
  have BE:=(List.getElem?_eq_some_iff.1 hi).1
  refine⟨?_,by simp,fun m hm e he=>?_⟩
  ·rw[if_neg (fun h=>h (List.mem_map.2 ⟨_,UU,rfl⟩))]
   apply List.ext_getElem?
   intro j
   rw[List.getElem?_map,List.getElem?_map]
   by_cases e:i=j
   ·subst e;rw[List.getElem?_set_self BE,hi];rfl
   ·rw[List.getElem?_set_ne e]
  ·rcases List.mem_or_eq_of_mem_set he with he|rfl
   ·have:=hm e he;omega
   ·have:=hm _ UU;simp only at this⊢;omega
 ·refine⟨by rw[if_pos hno];simp,by simp,fun m hm e he=>?_⟩
  rcases List.mem_append.1 he with he|he
  ·have:=hm e he;omega
  ·simp at he;subst he;simp
theorem MY(p:List Nat)(v:Nat):(iw p).count (v:Int)=p.count v:=by
 induction p with
 |nil=>rfl
 |cons y p ih=>
  show(((y:Nat):Int)::iw p).count (v:Int)=_
  rw[List.count_cons,List.count_cons,ih]
  congr 1
  have:(((y:Nat):Int)==(v:Int))=(y==v):=by
   rw[Bool.eq_iff_iff];simp[Int.natCast_inj]
  rw[this]
theorem Pw{n:Nat}{p:List Nat}(hp:p.Perm (List.range n)):Py n (iw p):=by
 refine⟨by rw[an,hp.length_eq,List.length_range],fun v hv=>?_⟩
 rw[MY,hp.count_eq]
 exact List.nodup_range.count (a:=v)|>.trans (if_pos (List.mem_range.2 hv))
theorem iY{n:Nat}{p:List Nat}(hp:p.Perm (List.range n)):p.length=n∧∀i,i<n→p.getD i 0<n:=by
 have h1:p.length=n:=by rw[hp.length_eq,List.length_range]
 refine⟨h1,fun i hi=>?_⟩
 have:p.getD i 0∈p:=by rw[List.getD_eq_getElem?_getD,List.getElem?_eq_getElem (show i<p.length by omega)];exact List.getElem_mem _
 exact List.mem_range.1 (hp.mem_iff.1 this)
theorem yK{kp mp:Nat}{vr vt:Value}(h1:vr.oneCell'=true)(h2:vt.oneCell'=true):∀u∈[ptr kp,ptr mp,vr,vt],u.oneCell'=true:=fun u hu=>by
 simp only[List.mem_cons,List.not_mem_nil,or_false]at hu
 rcases hu with rfl|rfl|rfl|rfl
 ·rfl
 ·rfl
 ·exact h1
 ·exact h2
theorem HH{mp:Nat}{M:Md}{X H:Hp}(h:lq mp M X H)(hM:M.oK){v:Value}{t:List Nat}(ht:jS X v ⟨M.n,t⟩)(hf:aj.cw M.n t)(hlt:∀e∈M.held,e.2<65535):
  Fc Tryz.prog 124 #[ptr mp,v] H (fun r H'=>r=.int .i64 0∧∃held',lq mp {M with held:=held'} X H'∧((t=cu M.n false∨t=cu M.n true)→held'=M.held)∧(¬(t=cu M.n false∨t=cu M.n true)→QT M.held t held')):=by
 by_cases hc:t=cu M.n false∨t=cu M.n true
 ·refine(zi (X:=X) (mp:=mp) hM (ht.mono h.sub) hf hc).mono ?_
  rintro v H ⟨rfl,rfl⟩
  exact⟨rfl,M.held,h,fun _=>rfl,fun h=>absurd hc h⟩
 ·refine(LX h hM ht hf hc hlt).mono ?_
  rintro v H ⟨rfl,held',hb,hm⟩
  exact⟨rfl,held',hm,fun h=>absurd h hc,fun _=>hb⟩
theorem lq.grow{mp:Nat}{M:Md}{X H:Hp}(h:lq mp M X H):aV X H:=by
 obtain⟨vo,vh,vt,rs,CO,CH,CT,rfl,_⟩:=h
 exact .cons (.app (.app (.app (.refl _))))
structure Zp(n c:Nat)(ord av:List Nat)(L:aj.Fs)(Y:Hp)(i kp mp:Nat)(vr vt:Value)(K:Kd)(S:Nat→bc.Fn)(M:Md)(refs:List Nat)(ts:aj.Fs)(HM C CR CS:Hp):Prop where
 ks:lH kp K S ord av [] C
 kn:K.n=n
 kc:K.cap=c
 md:lq mp M Y HM
 mn:M.n=n
 mc:M.cap=c
 mo:M.ord=ord
 mt:M.tr=[]
 JA:ug K S M.held
 cnt:∀s,K.hold s≤i
 hl:M.held.length≤i
 ec:∀e∈M.held,e.2≤i
 tb:M.cr=tD n c ord [] (L.take i)
 rf:aQ 77 .u32 vr (iw refs) CR
 tw:fG 57 vt (gn n ts) CS Y
 len:refs.length=ts.length
 rl:refs.length≤i
 each:∀(i:Nat) (r:Nat) (t:List Nat),refs[i]? =some r→ts[i]? =some t→aj.cw n t∧eC n t=S r∧((r<2∧S r=fun _=>decide (r=1))∨K.hold r≠0)
section
variable {n c:Nat} {ord:List Nat} {L:aj.Fs} {Y:Hp}
theorem Zp.MO{av:List Nat}{i kp mp:Nat}{vr vt:Value}{K:Kd}{S:Nat→bc.Fn}{M:Md}{refs:List Nat}{ts:aj.Fs}{HM C CR CS:Hp}(h:Zp n c ord av L Y i kp mp vr vt K S M refs ts HM C CR CS)(hn:n≤8)(hc:c≤1048576)(hp:ord.Perm (List.range n))(hi:i≤60000):M.oK:=by
 have ⟨h1,h2⟩:=iY hp
 have a:=h.hl
 refine⟨by rw[h.mn];omega,by rw[h.mc];exact hc,by rw[h.mo,h.mn];exact h1,by rw[h.mo,h.mn];exact h2,fun t ht=>?_,by omega,fun e he=>?_,by rw[h.mt];simp⟩
 ·obtain⟨e,he,rfl⟩:=List.mem_map.1 ht
  rw[h.mn,←h.kn];exact h.JA.kI e he
 ·have:=h.ec e he;omega
theorem KG{o v:Value}(hn:1≤n∧n≤8)(hc:2≤c∧c≤1048576)(hp:ord.Perm (List.range n))(ho:cE .i64 Y o (iw ord))(hL:cV Y v (gn n L))(hf:∀t∈L,aj.cw n t)(bD:L.length≤60000):
  Fc Tryz.prog 52 #[.int .i64 (c:Int),o,v] Y (fun r H=>∃kp mp vr vt K S av M refs ts C Y',r=.tuple #[K9 kp mp vr vt,.bool true,.bool true]∧H=Y'++C∧lH kp K S ord av [] C∧oH mp vr vt K S ord [] M refs ts Y'∧K.n=n∧K.cap=c∧M.cr=tD n c ord [] L∧aV Y Y'):=by
 have ⟨hlen,hlt⟩:=iY hp
 have gW:ord.Nodup:=hp.nodup_iff.2 List.nodup_range
 have Wv:((ord.length:Nat):Int)=(n:Int):=by rw[hlen]
 intro g
 refine IY (R:=aE _) ?_
 unfold L52
 intro b1 _
 refine ho.aS ?_
 rw[an,Wv]
 intro J4 hJ4
 have fin:J4 [.bool false] ((b1,.cells #[.pointer none,.pointer none,.slice none 0 0,.slice none 0 0] 98 (0,0))::Y):=by
  refine hJ4 _ _ fun gs=>Br.no ?_
  refine hL.aS ?_
  rw[aW]
  refine⟨fun vs H=>∃i:Nat,vs=[.int .i64 (i:Int)]∧i≤L.length∧H=(b1,.cells #[.pointer none,.pointer none,.slice none 0 0,.slice none 0 0] 98 (0,0))::Y,fun vs _=>L.length-bg vs 0,JE.mk ⟨0,rfl,Nat.zero_le _,rfl⟩,?_⟩
  rintro gm H ⟨i,hv,hi,rfl⟩ gs
  simp only[List.cons.injEq,and_true]at hv
  subst hv
  refine ae.dL (Br.dec (fun dI=>?_) (fun dI=>?_))
  ·refine hL.ld (kL (List.getElem?_eq_getElem dI)) (fun _ h=>.tail _ h) fun s hw=>?_
   have hone:=aB hw
   have WH:=hf L[i] (List.getElem_mem dI)
   intro wi _
   refine St.whole (r:=[.int .i64 (n:Int),s]) (by exact .head _) rfl rfl (by simpa[Value.oneCell']using hone) ?_
   refine aA.whole (r:=[.int .i64 (n:Int),s]) (by exact .head _) rfl ?_
   refine ag.rd (B:=Y) (.cons (.cons .here)) (KS (v:=.agg (List.toArray [.int .i64 (n:Int),s])) (t:=⟨n,L[i]⟩) ⟨s,rfl,hw⟩) ?_
   rintro v rfl
   rw[decide_eq_true (show TF ⟨(n:Int),L[i]⟩from⟨by simp,by simpa using WH⟩)]
   refine Un.not ?_
   refine cv.or false (fun _=>aa.mk (Ld.mk (v:=.int .i64 (n:Int)) (by exact .head _) rfl (ae.ql ⟨rfl,by rw[decide_eq_false (fun h=>h rfl)]⟩))) rfl fun gs=>Br.no ?_
   refine ae.aH (b:=1) (by simp[az];omega) ?_
   exact ay.of .tail ⟨i+1,rfl,dI,rfl⟩ (by simp only[bg];omega)
  ·-- kernel and model
   refine ag.fn hnew (S8 (n:=n) (cap:=c) (by omega) hc) ?_
   rintro v C ⟨kp,rfl,hK⟩
   refine Ext.mk rfl (Ext.mk rfl ?_)
   refine ae.gj ?_
   refine cv.or false (fun _=>ae.aJ ⟨rfl,rfl⟩) rfl fun gs=>Br.no ?_
   refine ag.fn hnew (yU (n:=n) (cap:=c) (by omega) hc.2) ?_
   rintro v H0 ⟨mp,rfl,P8⟩
   refine Build.mk (cs:=[ptr kp,ptr mp,.slice none 0 0,.slice none 0 0]) (by kernel_rfl) ?_
   refine St.whole (r:=[ptr kp,ptr mp,.slice none 0 0,.slice none 0 0]) (cK.bP (cK.bP (.head _) _) _) rfl rfl (by simp[Value.oneCell']) ?_
   refine aa.mk (Ld.mk (v:=ptr mp) (List.mem_append_right _ (List.mem_append_right _ (.head _))) rfl ?_)
   obtain⟨vo,vh,vt,rs,hR⟩:=P8.rd
   refine Nil.ptr (aa.mk (Ld.mk (v:=vo) (List.mem_append_left _ hR.Gc) rfl ?_))
   have Tv:(List.range n).Perm (List.range n):=.refl _
   refine ag.pre (H':=(b1,.cells #[ptr kp,ptr mp,.slice none 0 0,.slice none 0 0] 98 (0,0))::((H0++Y)++C)) (.perm ?_) ?_
   ·refine(List.Perm.append_left H0 List.perm_middle).trans ?_
    refine List.perm_middle.trans (List.Perm.cons _ ?_)
    rw[List.append_assoc]
    exact List.Perm.append_left _ List.perm_append_comm
   refine ag.fn (.cons .left) (B4 (n:=n) (hR.ord.mono fun _ h=>List.mem_append_left _ h) (ho.mono fun _ h=>List.mem_append_right _ h) Tv hp (by omega)) ?_
   rintro v H ⟨s,CW,rfl,rfl,hW⟩
   refine Ext.mk rfl (Ext.mk rfl ?_)
   refine hW.aS ?_
   rw[an]
   obtain⟨Rn,qt⟩:=rX gW hp.symm
   have Wf:(path (List.range n) ord).length≤64:=by
    have:=j3 gW hp.symm ord.length (Nat.le_refl _)
    rw[List.length_range,hlen]at this
    have h8:n*n≤8*8:=Nat.mul_le_mul hn.2 hn.2
    unfold path;rw[hlen];omega
   generalize agt:path (List.range n) ord=way at*
   have PM:∀g,¬(K0 n c).held S0 g:=by
    rintro g ⟨r,hr,_⟩
    exact hr (by simp[Kd.hold,K0])
   have hsp:∀i,(aC (List.range n) (way.take i)).Perm (List.range n):=fun i=>gM fun l hl=>qt l (List.mem_of_mem_take hl)
   have BI:∀i,Md.oK ⟨n,c,aC (List.range n) (way.take i),[],way.take i⟩:=fun i=>by
    have ⟨q1,q2⟩:=iY (hsp i)
    exact⟨by show n≤16;omega,hc.2,q1,q2,fun t ht=>by simp[Md.cr]at ht,by simp,by simp,by simp;omega⟩
   refine⟨fun vs H=>∃(i:Nat) (HM C':Hp),vs=[.int .i64 (i:Int)]∧i≤way.length∧H=(b1,.cells #[ptr kp,ptr mp,.slice none 0 0,.slice none 0 0] 98 (0,0))::(CW++(HM++C'))∧lq mp ⟨n,c,aC (List.range n) (way.take i),[],way.take i⟩ Y HM∧At kp (K0 n c) S0 (aC (List.range n) (way.take i)) (way.take i) C',
    fun vs _=>way.length-bg vs 0,JE.of (.cons aO.assoc) ⟨0,H0++Y,C,rfl,Nat.zero_le _,rfl,by simpa[aC]using P8.frame Y,by simpa[aC]using hK.bu⟩,?_⟩
   rintro UF H ⟨i,HM,C',hv,hi,rfl,hMd,hA⟩ gs
   simp only[List.cons.injEq,and_true]at hv
   subst hv
   refine ae.dL (Br.dec (fun L1=>?_) (fun L1=>?_))
   ·have LI:way[i]+1<n:=by have:=qt way[i] (List.getElem_mem L1);rwa [List.length_range]at this
    have JB:(iw way)[i]? =some ((way[i]:Nat):Int):=by rw[cy (List.getElem?_eq_getElem L1)]
    refine hW.ld JB (fun _ h=>.tail _ (List.mem_append_left _ h)) ?_
    intro X9 abZ
    have lS:way.take (i+1)=way.take i++[way[i]]:=List.take_succ_eq_append_getElem L1
    have acB:∀QH C2,lq mp ⟨n,c,aC (List.range n) (way.take (i+1)),[],way.take (i+1)⟩ Y QH→At kp (K0 n c) S0 (aC (List.range n) (way.take (i+1))) (way.take (i+1)) C2→X9 [.bool false] ((b1,.cells #[ptr kp,ptr mp,.slice none 0 0,.slice none 0 0] 98 (0,0))::(CW++(QH++C2))):=fun QH C2 q1 q2=>by
     refine abZ _ _ fun gs=>Br.no ?_
     refine ae.aH (b:=1) (by simp[az];omega) ?_
     exact ay.of (.refl _) ⟨i+1,QH,C2,rfl,L1,rfl,q1,q2⟩ (by simp only[bg];omega)
    refine ag.fn (.cons (.app (.app .here))) (sg hA (by exact LI) (by simp;omega) ?_) ?_
    ·unfold gR
     rw[yl PM];exact(by show 0+2≤c;omega)
    rintro v C2 ⟨rfl,qv⟩
    refine ae.gj (Split.go (by decide) ?_)
    refine aa.mk (Ld.mk (v:=ptr mp) (by exact .head _) rfl ?_)
    refine ag.fn (.cons (.app .left)) (MP hMd (BI i) LI ?_) ?_
    ·have:=Ko (n:=n) (ord:=aC (List.range n) (way.take i)) (L:=[]) (l:=way[i]) (by simp) (by omega) (BI i).lt LI (BI i).len
     rw[yl (by rintro g ⟨t,ht,_⟩;simp at ht)]at this
     show 2+(rA n (aC (List.range n) (way.take i)) way[i] []).length≤c
     omega
    rintro v QH ⟨rfl,T2⟩
    refine ae.gj (aD.mk (JE.mk (acB QH C2 ?_ ?_)))
    ·rw[lS,dP];exact T2
    ·rw[lS,dP];exact qv
   ·obtain rfl:i=way.length:=by omega
    rw[List.take_length,Rn]at hMd hA
    obtain⟨K1,S1,av,uN,xq⟩:=hA
    refine ag.fn (.cons (.app (.app .here))) (FK uN (r:=1) (.inl (by omega)) (fun h=>absurd h (by omega))) ?_
    rintro v C3 ⟨rfl,K2,tC,mw⟩
    refine ae.gj (Br.cq (by decide) ?_)
    refine aa.mk (Ld.mk (v:=ptr mp) (by exact .head _) rfl ?_)
    obtain⟨vo,vh,vt,rs,CO,CH,CT,rfl,hO⟩:=hMd
    refine Nil.ptr (aa.mk (St.one (c':=fq ⟨n,c,ord,[],[]⟩ vo vh (.slice none 0 0)) (.tail (cK.bP (cK.append (.head _) C3) _)) rfl (by simp[fq]) rfl ?_))
    refine hL.aS ?_
    rw[aW]
    have Rq:∀s,K2.hold s=0:=fun s=>by
     rw[mw.hold,if_neg (by omega),xq.hold];simp[Kd.hold,K0]
    refine⟨fun vs H=>∃(i:Nat) (vr vt:Value) (K:Kd) (S:Nat→bc.Fn) (M:Md) (refs:List Nat) (ts:aj.Fs) (HM C CR CS:Hp),vs=[.int .i64 (i:Int)]∧i≤L.length∧H=(b1,.cells #[ptr kp,ptr mp,vr,vt] 98 (0,0))::(CR++(CS++(HM++C)))∧Zp n c ord av L Y i kp mp vr vt K S M refs ts HM C CR CS,
     fun vs _=>L.length-bg vs 0,JE.of (H':=(b1,.cells #[ptr kp,ptr mp,.slice none 0 0,.slice none 0 0] 98 (0,0))::([]++([]++(((mp,.cells (fq ⟨n,c,ord,[],[]⟩ vo vh (.slice none 0 0)) 74 (0,0))::(CO++(CH++([]++Y))))++C3)))) (.cons (.bQ (aO.frame (.cons (.cJ (.cJ .right _) _)) C3))) ⟨0,.slice none 0 0,.slice none 0 0,K2,S1,⟨n,c,ord,[],[]⟩,[],[],_,C3,[],[],rfl,Nat.zero_le _,rfl,?_⟩,?_⟩
    ·exact {ks:=tC,kn:=mw.n.trans xq.n,kc:=mw.cap.trans xq.cap,md:=⟨vo,vh,.slice none 0 0,rs,CO,CH,[],rfl,hO.ord,hO.sl,hO.each,aQ.nil⟩,mn:=rfl,mc:=rfl,mo:=rfl,mt:=rfl,JA:=ug.none Rq,cnt:=fun s=>by rw[Rq];exact Nat.zero_le _,hl:=Nat.zero_le _,ec:=by simp,tb:=rfl,rf:=aQ.nil,tw:=fG.nil,len:=rfl,rl:=Nat.zero_le _,each:=by simp}
    rintro GD H ⟨i,vr,yg,K,S,M,refs,ts,HM,C4,CR,CS,hv,hi4,rfl,hY⟩ gs
    simp only[List.cons.injEq,and_true]at hv
    subst hv
    have FQ:=hY.MO hn.2 hc.2 hp (by omega)
    refine ae.dL (Br.dec (fun L0=>?_) (fun L0=>?_))
    ·intro NF Xn
     have tq:vr.oneCell'=true:=hY.rf.one
     have tp:yg.oneCell'=true:=by obtain⟨rs,h1,_⟩:=hY.tw;obtain⟨a,c,e⟩:=aR.len h1;rw[e];rfl
     have YK:L[i]? =some L[i]:=List.getElem?_eq_getElem L0
     have Oa:=hf L[i] (List.getElem_mem L0)
     have lS:L.take (i+1)=L.take i++[L[i]]:=List.take_succ_eq_append_getElem L0
     generalize hte:L[i]=t at*
     have Xw:∀vr yg K S M refs ts HM C4 CR CS,Zp n c ord av L Y (i+1) kp mp vr yg K S M refs ts HM C4 CR CS→NF [] ((b1,.cells #[ptr kp,ptr mp,vr,yg] 98 (0,0))::(CR++(CS++(HM++C4)))):=fun vr yg K S M refs ts HM C4 CR CS hY'=>by
      refine Xn _ fun gs=>?_
      refine ae.aH (b:=1) (by simp[az];omega) ?_
      exact ay.of (.refl _) ⟨i+1,vr,yg,K,S,M,refs,ts,HM,C4,CR,CS,rfl,L0,rfl,hY'⟩ (by simp only[bg];omega)
     refine hL.ld (kL YK) (fun _ h=>.tail _ (List.mem_append_right _ (List.mem_append_right _ (List.mem_append_left _ (hY.md.sub _ h))))) fun s hw=>?_
     have Wi:=aB hw
     have htY:jS Y (.agg (List.toArray [.int .i64 (n:Int),s])) ⟨n,t⟩:=⟨s,rfl,hw⟩
     intro Cg _
     refine St.whole (r:=[.int .i64 (n:Int),s]) (by exact .head _) rfl rfl (by simpa[Value.oneCell']using Wi) ?_
     refine aa.mk (Ld.mk (v:=ptr mp) (by exact .tail _ (.head _)) rfl ?_)
     refine aA.whole (r:=[.int .i64 (n:Int),s]) (by exact .head _) rfl ?_
     refine eU fun xb=>?_
     have abb:Co mp M (HM++C4):=hY.md.rd.mono fun _ h=>List.mem_append_left _ h
     have abi:cV ((xb,Obj.cells #[.int .i64 (n:Int),s] 57 (0,0))::(Cg,.cells (List.toArray [.int .i64 (n:Int),s]) 57 (0,0))::(b1,.cells #[ptr kp,ptr mp,vr,yg] 98 (0,0))::(CR++(CS++(HM++C4)))) (.slice (some ⟨xb,0,none⟩) 1 1) (gn M.n [t]):=by
      rw[hY.mn]
      exact cV.one (cap:=0) (t:=⟨n,t⟩) (.head _) (hw.mono fun _ h=>.tail _ (.tail _ (.tail _ (List.mem_append_right _ (List.mem_append_right _ (List.mem_append_left _ (hY.md.sub _ h)))))))
     refine ag.rd .here (Lk (abb.mono fun _ h=>.tail _ (.tail _ (.tail _ (List.mem_append_right _ (List.mem_append_right _ h))))) FQ abi (fun u hu=>by simp at hu;subst hu;rw[hY.mn];exact Oa) (by simp)) ?_
     rintro v rfl
     rw[hY.mn,hY.mo,hY.mc]
     refine Un.not ?_
     by_cases hfit:2+dR n ord (M.cr++[t]) n≤c
     rotate_left
     ·rw[decide_eq_false hfit]
      refine Br.yes (JE.of (.skip .tail) (Xw vr yg K S M refs ts HM C4 CR CS ?_))
      refine {hY with cnt:=fun s=>Nat.le_succ_of_le (hY.cnt s),hl:=Nat.le_succ_of_le hY.hl,ec:=fun e he=>Nat.le_succ_of_le (hY.ec e he),tb:=?_,rl:=Nat.le_succ_of_le hY.rl}
      rw[lS,oA,←hY.tb]
      show M.cr=if _ then _ else _
      rw[if_neg (fun h=>hfit h.1)]
     rw[decide_eq_true hfit]
     refine Br.no ?_
     refine aA.whole (r:=[.int .i64 (n:Int),s]) (by exact .tail _ (.head _)) rfl ?_
     have hfr:∀u∈M.cr++[t],aj.cw n u:=fun u hu=>by
      rcases List.mem_append.1 hu with hu|hu
      ·have:=FQ.kI u hu;rwa [hY.mn]at this
      ·simp at hu;subst hu;exact Oa
     have hU:=M1 (n:=n) (ord:=ord) (L:=M.cr++[t]) hfr (by omega) hlt
     have pF:=hY.JA.xx
     rw[hY.kn]at pF
     refine ag.fn (C:=HM++C4) (args:=#[ptr kp,o,.agg (List.toArray [.int .i64 (n:Int),s]),.int .i64 ((0:Nat):Int)]) (.cons (.cons (.cons (.app (.app .here))))) (Qe hU (by omega) n 0 K S C4 HM _ t (by omega) (by omega) hY.kn (by rw[hY.kc];omega) hY.ks (ho.mono hY.md.sub) (htY.mono hY.md.sub) Oa (fun j hj=>absurd hj (Nat.not_lt_zero _)) (fun g hg=>?_) (fun g hg=>?_) (fun s=>by have:=hY.cnt s;omega)) ?_
     ·rw[pF]at hg
      exact ni (fun g ⟨u,hu,e⟩=>⟨u,List.mem_append_left _ hu,e⟩) hg
     ·exact ni (fun g e=>⟨t,by simp,e⟩) hg
     rintro w H ⟨r,K3,S3,C5,rfl,rfl,BR,hg⟩
     refine Ext.mk rfl (Ext.mk rfl ?_)
     refine ae.gj (Br.cq (by decide) ?_)
     refine aa.mk (Ld.mk (v:=ptr mp) (by exact .tail _ (.tail _ (.head _))) rfl ?_)
     refine aA.whole (r:=[.int .i64 (n:Int),s]) (by exact .tail _ (.head _)) rfl ?_
     refine ag.fn (.cons (.cons (.cons (.app (.app .left))))) (HH hY.md FQ (by rw[hY.mn];exact htY) (by rw[hY.mn];exact Oa) (fun e he=>by have:=hY.ec e he;omega)) ?_
     rintro w QH ⟨rfl,held',T2,zn,Mo⟩
     rw[hY.mn]at zn Mo
     refine aa.mk (Ld.mk (v:=vr) (by exact .tail _ (.tail _ (.head _))) rfl ?_)
     refine ax.int (e:=77) (by kernel_rfl) (by kernel_rfl) (by kernel_rfl) fun yb=>?_
     refine hY.rf.mK (.cons (.cons (.cons (.cons .left)))) (by exact .head _) (by rw[an];have:=hY.rl;omega) (by rw[an];have:=hY.rl;omega) fun UG Zv V7=>?_
     refine aa.mk (St.one (c':=#[ptr kp,ptr mp,UG,yg]) (by exact .tail (.tail (.tail (.head _)))) V7.one (by simp) rfl ?_)
     refine aa.mk (Ld.mk (v:=yg) (by exact .tail _ (.tail _ (.tail _ (.head _)))) rfl ?_)
     refine aA.whole (r:=[.int .i64 (n:Int),s]) (by exact .tail _ (.tail _ (.head _))) rfl ?_
     refine eU fun zb=>?_
     refine hY.tw.app (A:=_::_::_::_::_::Zv) (B:=QH++C5) (t:=⟨n,t⟩) (s:=s) (by exact .head _) hw (by rw[aW,←hY.len];have:=hY.rl;omega) fun Sd CS' Ts=>?_
     rw[jX]at Ts
     have Wj:Sd.oneCell'=true:=by obtain⟨rs,h1,_⟩:=Ts;obtain⟨a,c,e⟩:=aR.len h1;rw[e];rfl
     refine aa.mk (St.one (c':=#[ptr kp,ptr mp,UG,Sd]) (by exact .tail (.tail (.tail (.tail (.head _))))) Wj (by simp) rfl ?_)
     refine JE.of (.skip (.skip (.skip .tail))) (Xw UG Sd K3 S3 {M with held:=held'} (refs++[r]) (ts++[t]) QH C5 Zv CS' ?_)
     have hlv:∀s,K.hold s≠0→live K.N s:=fun s hs=>.inr (hY.ks.ok.mid.held s hs)
     have hrc:(t=cu n false∨t=cu n true)↔r<2:=by
      have hint:=BR.ok.mid.int
      constructor
      ·intro kH
       have:∃q,q<2∧∀x,S3 r x=S3 q x:=by
        rcases kH with rfl|rfl
        ·exact⟨0,by omega,fun x=>by rw[hint.zero,hg.is,gg]⟩
        ·exact⟨1,by omega,fun x=>by rw[hint.one,hg.is,gg]⟩
       obtain⟨q,hq,he⟩:=this
       have:=BR.ok.wf.same BR.ok.lv hint hg.live (.inl hq) he
       omega
      ·intro hr
       have:r=0∨r=1:=by omega
       rcases this with rfl|rfl
       ·exact .inl ((eB (by omega) Oa false).2 (by rw[←hg.is];exact funext hint.zero))
       ·exact .inr ((eB (by omega) Oa true).2 (by rw[←hg.is];exact funext hint.one))
     have hgk:Af K S K3 S3 (eC K.n t) r:=by rw[hY.kn];exact hg
     have Wr:ug K3 S3 held':=by
      by_cases nE:r<2
      ·rw[zn (hrc.2 nE)]
       exact hY.JA.same hg.n (fun s=>by rw[hg.hold,if_neg (by omega),Nat.add_zero]) (fun s hs=>hg.fn s (hlv s hs))
      ·exact ug.acI hY.JA hY.ks.ok BR.ok hgk (by rw[hY.kn];exact Oa) (by omega) (Mo (fun h=>nE (hrc.1 h)))
     refine {ks:=BR,kn:=hg.n.trans hY.kn,kc:=hg.cap.trans hY.kc,md:=T2,mn:=hY.mn,mc:=hY.mc,mo:=hY.mo,mt:=hY.mt,JA:=Wr,cnt:=fun s=>?_,hl:=?_,ec:=?_,tb:=?_,rf:=?_,tw:=Ts,len:=by simp[hY.len],rl:=by simp;exact hY.rl,each:=?_}
     ·have:=hY.cnt s
      rw[hg.hold];split<;>omega
     ·by_cases nE:r<2
      ·rw[show({M with held:=held'}:Md).held=held' from rfl,zn (hrc.2 nE)];exact Nat.le_succ_of_le hY.hl
      ·have:=(qE (Mo (fun h=>nE (hrc.1 h)))).2.1
       have:=hY.hl
       show held'.length≤i+1
       omega
     ·by_cases nE:r<2
      ·rw[show({M with held:=held'}:Md).held=held' from rfl,zn (hrc.2 nE)];exact fun e he=>Nat.le_succ_of_le (hY.ec e he)
      ·exact(qE (Mo (fun h=>nE (hrc.1 h)))).2.2 i hY.ec
     ·rw[lS,oA,←hY.tb]
      show held'.map Prod.fst=if _ then _ else _
      by_cases nE:r<2
      ·rw[zn (hrc.2 nE),if_neg (fun h=>h.2.1 (hrc.2 nE))];rfl
      ·rw[(qE (Mo (fun h=>nE (hrc.1 h)))).1]
       by_cases hin:t∈M.cr
       ·rw[if_neg (fun h=>h hin),if_neg (fun h=>h.2.2 hin)];rfl
       ·rw[if_pos (show t∉M.held.map Prod.fst from hin),if_pos ⟨hfit,fun h=>nE (hrc.1 h),hin⟩];rfl
     ·rw[bO];exact V7
     ·intro j q u hq hu
      by_cases e:j<refs.length
      ·rw[List.getElem?_append_left e]at hq
       rw[List.getElem?_append_left (by rw[←hY.len];exact e)]at hu
       obtain⟨q1,q2,q3⟩:=hY.each j q u hq hu
       have hlq:live K.N q:=by
        rcases q3 with q3|q3
        ·exact .inl q3.1
        ·exact hlv q q3
       refine⟨q1,by rw[q2,hg.fn q hlq],?_⟩
       rcases q3 with q3|q3
       ·exact .inl ⟨q3.1,by rw[hg.fn q hlq];exact q3.2⟩
       ·right;rw[hg.hold];omega
      ·rw[List.getElem?_append_right (by omega)]at hq
       rw[List.getElem?_append_right (by rw[←hY.len];omega),←hY.len]at hu
       obtain⟨e1,rfl⟩:j-refs.length=0∧q=r:=by
        cases hjj:j-refs.length with
        |zero=>rw[hjj]at hq;simp at hq;exact⟨rfl,hq.symm⟩
        |succ m=>rw[hjj]at hq;simp at hq
       rw[e1]at hu
       simp at hu
       subst hu
       refine⟨Oa,hg.is.symm,?_⟩
       by_cases nE:q<2
       ·left
        refine⟨nE,?_⟩
        have hint:=BR.ok.mid.int
        have:q=0∨q=1:=by omega
        rcases this with rfl|rfl
        ·exact funext hint.zero
        ·exact funext hint.one
       ·right;rw[hg.hold,if_pos ⟨rfl,by omega⟩];omega
    ·obtain rfl:i=L.length:=by omega
     have tq:vr.oneCell'=true:=hY.rf.one
     have tp:yg.oneCell'=true:=by obtain⟨rs,h1,_⟩:=hY.tw;obtain⟨a,c,e⟩:=aR.len h1;rw[e];rfl
     have e4:CR++(CS++(HM++C4))=(CR++(CS++HM))++C4:=by simp
     rw[e4]
     have N7:oH mp vr yg K S ord [] M refs ts (CR++(CS++HM)):={
      md:=hY.md.rd.mono zS
      MO:=FQ
      n:=by rw[hY.mn,hY.kn]
      ord:=hY.mo
      Yz:=by rw[hY.mt]
      ri:=hY.rf.ints.mono fun _ h=>List.mem_append_left _ h
      cr:=by rw[hY.kn];exact hY.tw.wM (fun _ h=>List.mem_append_right _ (List.mem_append_left _ h)) (fun _ h=>List.mem_append_right _ (List.mem_append_right _ (hY.md.sub _ h)))
      len:=hY.len
      JA:=hY.JA
      each:=by rw[hY.kn];exact hY.each
      HZ:=by have:=hY.rl;omega}
     refine DR.self ?_
     refine aA.whole (r:=[ptr kp,ptr mp,vr,yg]) (by exact .head _) rfl ?_
     refine aA.whole (r:=[ptr kp,ptr mp,vr,yg]) (by exact .head _) rfl ?_
     refine ag.rd (B:=(CR++(CS++HM))++C4) (.cons .here) (Nv hY.ks.bu N7 (by simp)) ?_
     rintro v rfl
     refine⟨.refl _,?_⟩
     refine St.whole (r:=[ptr kp,ptr mp,vr,yg]) (by exact .head _) rfl rfl (yK tq tp) ?_
     refine aA.whole (r:=[ptr kp,ptr mp,vr,yg]) (by exact .head _) rfl ?_
     refine aE.mk .tail ⟨kp,mp,vr,yg,K,S,av,M,refs,ts,C4,_,rfl,rfl,hY.ks,N7,hY.kn,hY.kc,?_,.app (.app hY.md.grow)⟩
     have:=hY.tb
     rwa [List.take_length]at this
 refine ae.lss ?_
 rw[decide_eq_false (by omega)]
 refine Split.go rfl (ae.gtr ?_)
 rw[decide_eq_false (by omega)]
 refine aD.mk (Split.go rfl ?_)
 refine ag.rd (.cons .here) (O7 (n:=n) ho (by omega) (by rw[an];omega)) ?_
 rintro v rfl
 rw[decide_eq_true (Pw hp)]
 refine Un.not (aD.mk (Split.go rfl (ae.lss ?_)))
 rw[decide_eq_false (by omega)]
 refine aD.mk (Split.go rfl (ae.gtr ?_))
 rw[decide_eq_false (by omega)]
 refine aD.mk (Split.go rfl ?_)
 refine hL.aS ?_
 rw[aW]
 refine ae.gtr ?_
 rw[decide_eq_false (by omega)]
 exact aD.mk (JE.mk fin)
end
section
variable {kp:Nat} {K:Kd} {S:Nat→bc.Fn} {ord tr:List Nat} {C:Hp} {m:Rm} {Q:List Nat→Prop}
theorem Nu{held:List (List Nat×Nat)}(h:ug K S held)(hn:K.n≤16):bc.Alike (rm K S) (A6 K.n K.cap (held.map Prod.fst)) (fun ord=>ord.Perm (List.range K.n)):=by
 have hf:∀t∈held.map Prod.fst,aj.cw K.n t:=fun t ht=>by
  obtain⟨e,he,rfl⟩:=List.mem_map.1 ht
  exact h.kI e he
 refine⟨rfl,fun ord hp=>?_,fun ord l hp hl=>?_,fun ord l hp hl=>?_⟩
 ·show bW K S ord=_
  unfold bW
  rw[h.xx]
  exact Fo hf hn (iY hp).2
 ·show decide (gR K S ord l)=decide _
  refine decide_eq_decide.2 ?_
  unfold gR
  rw[h.xx,Ko hf hn (iY hp).2 hl (iY hp).1]
 ·have hl':l+1<K.n:=hl
  exact(yu (by rw[(iY hp).1];exact hl')).trans hp
end
def kR:List Bool:=(List.range 16).map fun x=>decide (x&&&3=3)||decide (x&&&12=12)
theorem A8:aj.g9 4 kR=[63624]:=by decide+kernel
theorem He:aj.cw 4 [63624]:=by decide+kernel
theorem GZ(B:Hp):Px Tryz.prog 53 #[] B (fun r H=>jS H r ⟨4,[63624]⟩):=by
 intro g
 refine IX (R:=aE _) ?_
 unfold L53
 intro b1 _
 refine⟨fun vs H=>∃(i:Nat) (w:Value) (C:Hp),vs=[w,.int .i64 (i:Int)]∧i≤16∧H=(b1,.cells #[.int .i64 0,.slice none 0 0] 57 (0,0))::(C++B)∧aR 4 1 w ((kR.take i).map fun b=>[Value.bool b]) C,fun vs _=>16-bg vs 1,JE.mk ⟨0,_,[],rfl,Nat.zero_le _,rfl,aR.nil _ _⟩,?_⟩
 rintro w7 w8 H ⟨i,w,C,hv,hi,rfl,hC⟩ gs
 simp only[List.cons.injEq,and_true]at hv
 obtain⟨rfl,rfl⟩:=hv
 have qt:kR.length=16:=by simp[kR]
 refine ae.dL (b:=16) (Br.dec (fun hlt=>?_) (fun hlt=>?_))
 ·refine ae.jg (b:=3) (by simp[az];omega) (by decide) (ae.gp (b:=3) ?_)
  refine cv.or (decide (i&&&12=12)) (fun _=>ae.jg (b:=12) (by simp[az];omega) (by decide) (ae.gp (b:=12) ⟨rfl,rfl⟩)) (by simp) fun gs=>?_
  refine ax.cell (e:=4) (z:=.bool false) (by kernel_rfl) (by kernel_rfl) (by kernel_rfl) rfl fun bx=>?_
  have hb:kR[i]'(by omega)=(decide (i&&&3=3)||decide (i&&&12=12)):=by simp[kR]
  have lS:kR.take (i+1)=kR.take i++[decide (i&&&3=3)||decide (i&&&12=12)]:=by rw[List.take_succ_eq_append_getElem (by omega),hb]
  refine hC.mK (r:=[.bool (decide (i&&&3=3)||decide (i&&&12=12))]) (.cons (.cons .left)) (by exact .head _) rfl (by simp[Value.oneCell']) ⟨[.bool false],rfl,rfl⟩ (by simp;omega) (by simp;omega) fun v' C' ho=>?_
  refine ae.aH (b:=1) (by simp[az];omega) ?_
  refine ay.of .tail ⟨i+1,v',C',rfl,hlt,rfl,?_⟩ (by simp only[bg];omega)
  rw[lS,List.map_append];exact ho
 ·obtain rfl:i=16:=by omega
  rw[List.take_of_length_le (by omega)]at hC
  have hB:iG (C++B) w7 kR:=iG.mono (Sl.qV hC (by decide)) fun _ h=>List.mem_append_left _ h
  refine ag.px (args:=#[.int .i64 ((4:Nat):Int),w7]) (.cons .here) (r5 (n:=4) (by omega) hB (by rw[qt];decide) (by rw[qt];decide)) ?_
  rintro r N ⟨s,rfl,hw⟩
  have hone:=aB hw
  refine St.whole (r:=[.int .i64 (4:Int),s]) (by exact .head _) rfl rfl (by simpa[Value.oneCell']using hone) ?_
  refine aA.whole (r:=[.int .i64 (4:Int),s]) (by exact .head _) rfl ?_
  refine oG.mk (by repeat (first|exact aV.refl _|apply aV.cons|apply aV.app)) ⟨s,rfl,?_⟩
  rw[A8]at hw
  exact hw.mono zS
section
variable {kp:Nat} {K:Kd} {S:Nat→bc.Fn} {ord tr:List Nat} {C:Hp} {m:Rm} {Q:List Nat→Prop}
theorem XJ(hA:At kp K S ord tr C)(vT:bc.Alike (rm K S) m Q)(hq:Q ord){w a b cnt:Nat}{YC ord':List Nat}(hw:2≤w∧w≤4)(hp:w≤K.n+1)(g7:tr.length<274877906944)
 (hv:m.pass w ord=(YC,cnt))(ha:m.size ord=a)(ho:aC ord YC=ord')(hb:m.size ord'=b):
  Fc Tryz.prog 22 #[ptr kp,.int .i64 (w:Int)] C (fun v H=>v=.tuple #[rep a b cnt,.int .i64 0]∧At kp K S ord' (tr++YC) H):=by
 obtain⟨e,PI⟩:=vT.pass (w:=w) hp hq
 rw[hv]at e PI
 refine(QD hA hw g7).mono ?_
 rintro v H ⟨rfl,h⟩
 rw[e]at h⊢
 simp only at h PI⊢
 rw[ho]at h PI⊢
 have e1:bW K S ord=a:=(vT.size ord hq).trans ha
 have e2:bW K S ord'=b:=(vT.size ord' PI).trans hb
 rw[e1,e2]
 exact⟨rfl,h⟩
end
theorem oH.aar{mp:Nat}{vr vt:Value}{K:Kd}{S:Nat→bc.Fn}{ord tr:List Nat}{M:Md}{refs:List Nat}{ts:List (List Nat)}{Y:Hp}(h:oH mp vr vt K S ord tr M refs ts Y):vr.oneCell'=true∧vt.oneCell'=true:=by
 refine⟨?_,?_⟩
 ·obtain⟨a,c,e,_⟩:=h.ri.shape;rw[e];rfl
 ·obtain⟨rs,h1,_⟩:=h.cr;obtain⟨a,c,e,_⟩:=h1.shape;rw[e];rfl
theorem iZ:[0,2,1,3].Perm (List.range 4):=by decide
theorem sW:[0,1,2,3].Perm (List.range 4):=by decide
theorem ME:tD 4 100 [0,2,1,3] [] [[63624]]=[[63624]]:=by decide+kernel
theorem GP{Y:Hp}{o v:Value}(ho:cE .i64 Y o (iw [0,2,1,3]))(hL:cV Y v (gn 4 [[63624]])):
  Fc Tryz.prog 52 #[.int .i64 100,o,v] Y (fun r H=>∃kp mp vr vt K S M refs ts C Y',r=.tuple #[K9 kp mp vr vt,.bool true,.bool true]∧H=Y'++C∧At kp K S [0,2,1,3] [] C∧oH mp vr vt K S [0,2,1,3] [] M refs ts Y'∧K.n=4∧bc.Alike (rm K S) (A6 4 100 [[63624]]) (fun ord=>ord.Perm (List.range 4))):=by
 refine(KG (n:=4) (c:=100) (by decide) (by decide) iZ ho hL (fun t ht=>by simp at ht;subst ht;exact He) (by simp)).mono ?_
 rintro r H ⟨kp,mp,vr,vt,K,S,av,M,refs,ts,C,Y',rfl,rfl,hK,hP,hn,hc,ht,_⟩
 rw[ME]at ht
 refine⟨kp,mp,vr,vt,K,S,M,refs,ts,C,Y',rfl,rfl,hK.bu,hP,hn,?_⟩
 have:=Nu hP.JA (by omega)
 rw[hn,hc,show M.held.map Prod.fst=[[63624]]from ht]at this
 exact this
abbrev Q3:=Nat×Nat×Nat
def l3(q:Q3):List Nat:=[q.1,q.2.1,q.2.2]
def opB(op:Nat)(a b:Bool):Bool:=op.testBit (2*a.toNat+b.toNat)
section
variable {kp:Nat} {K:Kd} {S:Nat→bc.Fn} {ord av tr:List Nat} {C:Hp}
theorem rZ{n v:Nat}(hv:v<n):2^v<2^n:=Nat.pow_lt_pow_right (by decide) hv
end
end Go.Proofs
set_option maxRecDepth 100000
namespace Go.Proofs
open Go Go.Sx
theorem yf{n:Nat}(hn:n≤16)(B:Hp):Rd Tryz.prog 254 #[.int .i64 (n:Int)] B (· =.int .i64 ((aj.wN n:Nat):Int)):=by
 intro g
 refine C9 (R:=aE _) ?_
 unfold L254
 have h1:1<<<n≤65536:=by rw[Nat.one_shiftLeft];exact Nat.pow_le_pow_right (n:=2) (by decide) hn
 refine ae.rI (a:=1) (b:=n) (by simp[IntKind.bits];omega) (by simp[az];omega) ?_
 refine ae.jJ (b:=6) (by simp[az];omega) ?_
 refine⟨_,_,_,rfl,rfl,?_⟩
 refine bL.mk (.refl _) ?_
 have:1<<<n>>>6=2^n/64:=by rw[Nat.one_shiftLeft,Nat.shiftRight_eq_div_pow]
 rw[this]
 congr 1
 unfold aj.wN
 rw[Nat.max_def]
 split<;>split<;>omega
theorem FX{n:Nat}(hn:n≤16)(B:Hp):Rd Tryz.prog 255 #[.int .i64 (n:Int)] B (· =.int .u64 ((aj.cj n:Nat):Int)):=by
 intro g
 refine C8 (R:=aE _) ?_
 unfold L255
 refine ae.qz (a:=n) (b:=6) (Br.dec (fun h=>?_) (fun h=>?_))
 ·exact bL.mk (.refl _) (by unfold aj.cj;rw[if_pos h];rfl)
 ·have h1:2^n≤32:=Nat.pow_le_pow_right (n:=2) (by decide) (by omega:n≤5)
  have h2:2^2^n≤2^32:=Nat.pow_le_pow_right (by decide) h1
  have h3:=Nat.two_pow_pos (2^n)
  refine ae.o5 (a:=1) (b:=n) ?_
  rw[Nat.one_shiftLeft,Nat.mod_eq_of_lt (by omega)]
  refine ae.o5 (a:=1) ?_
  rw[Nat.one_shiftLeft,Nat.mod_eq_of_lt (by omega)]
  refine ae.bC (b:=1) (by simp[az];omega) (by omega) ?_
  exact bL.mk (.refl _) (by unfold aj.cj;rw[if_neg h])
theorem Hz{n:Nat}{ws:List Nat}(hn:n≤16)(hl:ws.length=aj.wN n)(hw:∀w∈ws,w<18446744073709551616){w:Nat}(hg:ws[ws.length-1]? =some w):
  (lp w (aj.cj n)=0)↔aj.cw n ws:=by
 have key:∀w,w<18446744073709551616→(lp w (aj.cj n)=0↔w≤aj.cj n):=by
  intro w hw
  constructor
  ·intro h
   have:w&&&aj.cj n=w:=by
    apply Nat.eq_of_testBit_eq;intro j
    have:=congrArg (fun x=>x.testBit j) h
    simp only[cW,Nat.zero_testBit]at this
    rw[Nat.testBit_and]
    cases h1:w.testBit j<;>cases h2:(aj.cj n).testBit j<;>simp_all
   rw[←this];exact Nat.and_le_right
  ·intro h
   have:=aj.mM h
   unfold lp;rw[this,Nat.xor_self]
 constructor
 ·intro h
  refine⟨hn,hl,fun u hu=>?_⟩
  by_cases h6:6≤n
  ·unfold aj.cj;rw[if_pos h6];have:=hw u hu;omega
  ·have h1:ws.length=1:=by rw[hl,aj.sj (by omega)]
   obtain⟨x,rfl⟩:=List.length_eq_one_iff.1 h1
   simp at hg hu
   subst hg;subst hu
   exact(key _ (hw _ (by simp))).1 h
 ·intro h
  exact(key w (hw w (List.mem_of_getElem? hg))).2 (h.full w (List.mem_of_getElem? hg))
theorem zA{B:Hp}{v:Value}{t:Tb}(ht:jS B v t):Rd Tryz.prog 232 #[v] B (· =.bool (decide (TF t))):=by
 obtain⟨tn,ws⟩:=t
 obtain⟨s,rfl,hs,hw⟩:=ht
 simp only at hs hw⊢
 intro g
 refine Dk (R:=aE _) ?_
 unfold L232
 intro b1 _ J hJ
 have hno:¬TF ⟨tn,ws⟩→JE J [.bool true] ((b1,.cells (Value.cells (.agg #[.int .i64 tn,s])) 57 (0,0))::B):=fun h=>
  JE.mk (hJ _ _ fun gs=>Br.yes (bL.mk .tail (by rw[decide_eq_false h])))
 refine DR.self ?_
 refine aa.mk (Ld.mk zM rfl ?_)
 refine ae.lss (Br.dec (fun h0=>hno fun h=>by have:=h.1;simp only at this;omega) (fun h0=>?_))
 obtain⟨n,rfl⟩:∃n:Nat,tn=n:=⟨tn.toNat,by omega⟩
 have TY:TF ⟨(n:Int),ws⟩↔aj.cw n ws:=by unfold TF;simp
 refine aa.mk (Ld.mk zM rfl ?_)
 refine ae.lQ (b:=16) (aD.mk (Br.dec (fun h1=>hno fun h=>by have:=(TY.1 h).lD;omega) (fun h1=>?_)))
 refine aa.mk (Ld.mk zM rfl ?_)
 refine hs.aS ?_
 refine aa.mk (Ld.mk zM rfl ?_)
 intro F
 refine ag.rd (.cons .here) (yf (by omega) B) ?_
 rintro v rfl
 refine⟨(by repeat (first|exact aO.refl _|apply aO.cons|apply aO.skip|apply aO.cJ|apply aO.bQ)),?_⟩
 rw[an]
 refine ae.ql (aD.mk ?_)
 simp only[cond_false]
 by_cases hl:ws.length=aj.wN n
 case neg=>rw[show decide (ws.length≠aj.wN n)=true by simp[hl]];exact hno fun h=>hl (TY.1 h).len
 rw[show decide (ws.length≠aj.wN n)=false by simp[hl]]
 refine JE.mk (hJ _ _ fun gs=>Br.no ?_)
 have hpos:=aj.AE n
 obtain⟨w,hg⟩:∃w,ws[ws.length-1]? =some w:=⟨_,List.getElem?_eq_getElem (by omega)⟩
 refine DR.self ?_
 refine aa.mk (Ld.mk zM rfl ?_)
 refine aa.mk (Ld.mk zM rfl ?_)
 refine hs.aS ?_
 rw[an]
 refine ae.bC (b:=1) (by have:=aj.qO (n:=n) (by omega);simp[az];omega) (by omega) ?_
 refine hs.ld (cy hg) zS ?_
 refine aa.mk (Ld.mk zM rfl ?_)
 refine ag.rd (.cons .here) (FX (by omega) B) ?_
 rintro v rfl
 refine⟨(by repeat (first|exact aO.refl _|apply aO.cons|apply aO.skip|apply aO.cJ|apply aO.bQ)),?_⟩
 refine ae.Aa (by have:=hw w (List.mem_of_getElem? hg);simpa[az]using this) (by have:=aj.pI n;simpa[az]using this) ?_
 refine ae.gp (b:=0) ?_
 refine bL.mk .tail ?_
 congr 1
 exact decide_eq_decide.2 ((Hz (by omega) hl hw hg).trans TY.symm)
theorem tI{B:Hp}{v:Value}{ts:List Tb}(ht:cV B v ts)(bD:ts.length<2^62):Rd Tryz.prog 220 #[v] B (· =.bool (decide (∀t∈ts,TF t∧some t.n=ts.head?.map Tb.n))):=by
 intro g
 refine Dx (R:=aE _) ?_
 unfold L220
 refine ht.aS ?_
 refine⟨fun vs H=>aV B H∧∃k:Nat,vs=[.int .i64 (k:Int)]∧k≤ts.length∧∀i t,i<k→ts[i]? =some t→TF t∧some t.n=ts.head?.map Tb.n,fun vs _=>ts.length-bg vs 0,JE.mk ⟨.refl _,0,rfl,by omega,by omega⟩,?_⟩
 rintro w H ⟨hg,k,hv,hk,aK⟩ gs
 simp only[List.cons.injEq,and_true]at hv
 subst hv
 refine ae.dL (Br.dec (fun hlt=>?_) (fun hlt=>?_))
 ·obtain⟨t,lS⟩:∃t,ts[k]? =some t:=⟨_,List.getElem?_eq_getElem hlt⟩
  obtain⟨t0,PF⟩:∃t,ts[0]? =some t:=⟨_,List.getElem?_eq_getElem (by omega)⟩
  have hh:ts.head?.map Tb.n=some t0.n:=by rw[List.head?_eq_getElem?,PF];rfl
  have V3:=ht.mono hg.sub
  refine V3.ld lS (fun _ h=>h) fun s hs=>?_
  intro b1 _
  refine St.whole (r:=[.int .i64 t.n,s]) (by exact cK.head _) rfl rfl ?_ ?_
  ·obtain⟨a,c,rfl,_⟩:=hs.1.shape;simp[Value.oneCell']
  intro J hJ
  have hno:∀H',aV B H'→¬(TF t∧some t.n=ts.head?.map Tb.n)→JE J [.bool true] H':=fun H' TN h=>
   JE.mk (hJ _ _ fun gs=>Br.yes (bL.mk TN.ru (by rw[decide_eq_false];exact fun hh=>h (hh t (List.mem_of_getElem? lS)))))
  have RC:aV B ((b1,Obj.cells (List.toArray [.int .i64 t.n,s]) 57 (0,0))::H):=.cons hg
  refine DR.self ?_
  refine aA.whole (r:=[.int .i64 t.n,s]) (by exact List.Mem.head _) rfl ?_
  intro F
  refine ag.rd (B:=H) (.cons .here) (zA ⟨s,rfl,hs⟩) ?_
  rintro v rfl
  refine⟨.refl _,Un.not ?_⟩
  by_cases hT:TF t
  case neg=>rw[decide_eq_false hT];exact Br.yes (hno _ RC fun h=>hT h.1)
  rw[decide_eq_true hT]
  refine Br.no ?_
  refine aa.mk (Ld.mk zM rfl ?_)
  refine V3.VP PF zS ?_
  refine ae.gj (aD.mk ?_)
  simp only[cond_false]
  by_cases hn:t.n=t0.n
  case neg=>rw[decide_eq_true hn];exact hno _ RC fun h=>hn (by have:=h.2;rw[hh]at this;simpa using this)
  rw[decide_eq_false (by simpa using hn)]
  refine JE.mk (hJ _ _ fun gs=>Br.no ?_)
  refine ae.aH (b:=1) (by simp[az];omega) ?_
  refine ay.mk ⟨RC,k+1,rfl,by omega,fun i u hi hu=>?_⟩ (by simp[bg];omega)
  by_cases e:i=k
  ·subst e;rw[lS]at hu;cases hu;exact⟨hT,by rw[hh,hn]⟩
  ·exact aK i u (by omega) hu
 ·refine bL.mk hg.ru ?_
  rw[decide_eq_true]
  intro t htm
  obtain⟨i,hi,rfl⟩:=List.mem_iff_getElem.1 htm
  exact aK i _ (by omega) (List.getElem?_eq_getElem hi)
theorem tJ{B:Hp}{b:Nat}{t:Tb}{s:Value}{T:TypeId}{fz:Nat×Nat}(hm:(b,Obj.cells #[.int .i64 t.n,s] T fz)∈B)(hw:Words B s t.ws):
  Rd Tryz.prog 220 #[.slice (some ⟨b,0,none⟩) 1 1] B (· =.bool (decide (TF t))):=
 (tI (cV.one (cap:=0) hm hw) (by simp)).mono fun v H ⟨h1,h2⟩=>⟨h1,by rw[h2];congr 1;simp⟩
theorem VK{B:Hp}{v:Value}{t:Tb}(ht:jS B v t)(u:Int):Rd Tryz.prog 214 #[v,.int .i64 u] B (· =.int .i64 (if TF t then(if 0≤u∧u<t.n then 0 else 2)else 5)):=by
 obtain⟨s,rfl,hw⟩:=ht
 intro g
 refine DC (R:=aE _) ?_
 unfold L214
 intro b1 _
 refine aA.whole (r:=[.int .i64 t.n,s]) (by exact List.Mem.head _) rfl ?_
 refine eU fun b2=>?_
 refine ag.rd .here (tJ (by exact List.Mem.head _) (hw.mono zS)) ?_
 rintro v rfl
 refine Un.not ?_
 by_cases hT:TF t
 ·rw[decide_eq_true hT,if_pos hT]
  refine Br.no (ae.lss ?_)
  refine cv.or (decide (t.n≤u)) (fun h=>?_) rfl ?_
  ·refine aa.mk (Ld.mk zM rfl ?_)
   exact ae.geq ⟨rfl,rfl⟩
  ·intro gs
   have hor:(decide (u<0)||decide (t.n≤u))=decide (¬(0≤u∧u<t.n)):=by
    by_cases h1:u<0<;>by_cases h2:t.n≤u<;>simp[h1,h2]<;>omega
   rw[hor]
   refine Br.dec (fun h=>?_) (fun h=>?_)
   ·exact bL.mk (by repeat (first|exact aO.refl _|apply aO.cons|apply aO.skip|apply aO.cJ|apply aO.bQ)) (by rw[if_neg h])
   ·exact bL.mk (by repeat (first|exact aO.refl _|apply aO.cons|apply aO.skip|apply aO.cJ|apply aO.bQ)) (by rw[if_pos (Classical.not_not.1 h)])
 ·rw[decide_eq_false hT,if_neg hT]
  exact Br.yes (bL.mk (by repeat (first|exact aO.refl _|apply aO.cons|apply aO.skip|apply aO.cJ|apply aO.bQ)) rfl)
theorem we{u i:Nat}(hu:u<64)(hi:i<18446744073709551616)(BG:i<9223372036854775808)(B:Hp):Rd Tryz.prog 219 #[.int .i64 (u:Int),.int .i64 (i:Int)] B
  (· =.int .u64 ((if 6≤u then(if(i>>>(u-6)).testBit 0 then 18446744073709551615 else 0)else aj.mask u:Nat):Int)):=by
 intro g
 refine Dy (R:=aE _) ?_
 unfold L219
 refine ae.qz (a:=u) (b:=6) (Br.dec (fun h=>?_) (fun h=>?_))
 ·refine bI.nat (by simpa[az]using hi) ?_
  refine ae.bC (b:=6) (by simp[az];omega) h ?_
  refine ae.jJ (by simpa[az]using hi) ?_
  have hs:i>>>(u-6)<18446744073709551616:=Nat.lt_of_le_of_lt (Nat.shiftRight_le _ _) hi
  refine ae.jg (b:=1) (by simpa[az]using hs) (by decide) ?_
  refine Un.aax (by rw[aj.eW];split<;>decide) ?_
  refine bL.mk (.refl _) ?_
  rw[if_pos h,aj.eW]
  split<;>rfl
 ·refine⟨fun vs H=>H=B∧∃j:Nat,vs=[.int .u64 ((aj.xJ u j:Nat):Int),.int .i64 (j:Int)]∧j≤64,fun vs _=>64-bg vs 1,JE.mk ⟨rfl,0,rfl,by omega⟩,?_⟩
  rintro w1 w2 H ⟨rfl,j,hv,hj⟩ gs
  simp only[List.cons.injEq,and_true]at hv
  obtain⟨rfl,rfl⟩:=hv
  refine ae.dL (b:=64) (Br.dec (fun hlt=>?_) (fun hlt=>?_))
  ·refine ae.jJ (by simp[az];omega) ?_
   have hs:j>>>u<64:=Nat.lt_of_le_of_lt (Nat.shiftRight_le _ _) hlt
   refine ae.jg (b:=1) (by simp[az];omega) (by decide) ?_
   have h1:j>>>u&&&1≤1:=by rw[aj.eW];split<;>decide
   refine bI.nat (by simp[az];omega) ?_
   refine ae.o5 ?_
   have h2:((j>>>u&&&1)<<<j)<18446744073709551616:=by
    rw[Nat.shiftLeft_eq]
    calc _≤1*2^j:=Nat.mul_le_mul_right _ h1
     _<2^64:=by rw[Nat.one_mul];exact Nat.pow_lt_pow_right (by decide) hlt
   rw[Nat.mod_eq_of_lt h2]
   have h3:aj.xJ u j<18446744073709551616:=Nat.lt_of_lt_of_le (aj.xI u j) (Nat.pow_le_pow_right (n:=2) (by decide) hj)
   refine ae.FB (by simpa[az]using h3) (by simpa[az]using h2) ?_
   refine ae.aH (b:=1) (by simp[az];omega) ?_
   exact ay.mk ⟨rfl,j+1,rfl,by omega⟩ (by simp[bg];omega)
  ·have:j=64:=by omega
   subst this
   exact bL.mk (.refl _) (by rw[if_neg h];rfl)
theorem pz{n:Nat}(hn:n≤16){fv:Value}{f:FuncId}{first cap:Array Value}(WG:fv=.func (.func f) first cap)(jL:cP Tryz.prog f=true){F:Nat→Nat}(hF:∀i,i<aj.wN n→F i<18446744073709551616){B:Hp}
 (hc:∀i:Nat,i<aj.wN n→Rd Tryz.prog f (first++ #[.int .i64 (i:Int)]++cap) B (· =.int .u64 ((F i:Nat):Int))):
  Px Tryz.prog 212 #[.int .i64 (n:Int),fv] B (fun v H=>jS H v ⟨n,(List.range (aj.wN n)).map fun i=>F i&&&aj.cj n⟩):=by
 intro g
 have LI:=aj.qO hn
 refine DE (R:=aE _) ?_
 unfold L212
 intro b1 _
 refine ag.rd (.cons .here) (yf hn B) ?_
 rintro v rfl
 refine bZ.ints (gA hn).1 (gA hn).2 fun bw=>?_
 refine Build.mk (cs:=[.int .i64 (n:Int),.slice (some ⟨bw,0,none⟩) (aj.wN n) (aj.wN n)]) (by kernel_rfl) ?_
 intro b8 _
 refine St.whole (r:=[.int .i64 (n:Int),.slice (some ⟨bw,0,none⟩) (aj.wN n) (aj.wN n)]) (by exact cK.head _) rfl rfl (by simp[Value.oneCell']) ?_
 refine aa.mk (Ld.mk zM rfl ?_)
 refine aG.mk ?_
 rw[range_zero (G:=fun i=>F i&&&aj.cj n)]
 refine⟨fun vs H=>∃i:Nat,vs=[.int .i64 (i:Int)]∧i≤aj.wN n∧H=(b8,.cells (List.toArray [.int .i64 (n:Int),.slice (some ⟨bw,0,none⟩) (aj.wN n) (aj.wN n)]) 57 (0,0))::
   (bw,.cells (aF .u64 (iw ((List.range (aj.wN n)).map fun k=>if k<i then F k&&&aj.cj n else 0))) 50 (0,0))::(b1,.cells #[.int .i64 0,.slice none 0 0] 57 (0,0))::B,
  fun vs _=>aj.wN n-bg vs 0,JE.mk ⟨0,rfl,by omega,rfl⟩,?_⟩
 rintro w H ⟨i,hv,hi,rfl⟩ gs
 simp only[List.cons.injEq,and_true]at hv
 subst hv
 refine ae.dL (Br.dec (fun hlt=>?_) (fun hlt=>?_))
 ·refine DR.self ?_
  refine aa.mk (Ld.mk zM rfl ?_)
  refine fm.of WG jL ?_
  refine ag.rd (.cons (.cons (.cons .here))) (hc i hlt) ?_
  rintro v rfl
  refine⟨.refl _,?_⟩
  refine ag.rd (.cons (.cons (.cons .here))) (FX hn B) ?_
  rintro v rfl
  refine⟨.refl _,?_⟩
  refine ae.jg (by simpa[az]using hF i hlt) (by simpa[az]using aj.pI n) ?_
  refine ah.nat hlt ?_
  refine St.ints (l:=iw _) (by exact .tail (.head _)) (by simpa using hlt) ?_
  refine ae.aH (b:=1) (by simp[az];omega) ?_
  rw[vE hlt]
  exact ay.mk ⟨i+1,rfl,by omega,rfl⟩ (by simp[bg];omega)
 ·have:i=aj.wN n:=by omega
  subst this
  rw[sU]
  refine aA.whole (r:=[.int .i64 (n:Int),.slice (some ⟨bw,0,none⟩) (aj.wN n) (aj.wN n)]) (by exact List.Mem.head _) rfl ?_
  refine St.whole (r:=[.int .i64 (n:Int),.slice (some ⟨bw,0,none⟩) (aj.wN n) (aj.wN n)]) (by exact .tail (.tail (.head _))) rfl rfl (by simp[Value.oneCell']) ?_
  refine aA.whole (r:=[.int .i64 (n:Int),.slice (some ⟨bw,0,none⟩) (aj.wN n) (aj.wN n)]) (by exact .tail _ (.tail _ (.head _))) rfl ?_
  refine oG.mk (by repeat (first|exact aV.refl _|apply aV.cons|apply aV.app)) ⟨_,rfl,?_⟩
  have:=Words.block (b:=bw) (cap:=aj.wN n) (ws:=(List.range (aj.wN n)).map fun i=>F i&&&aj.cj n) (T:=50) (fz:=(0,0)) (B:=(b8,.cells (List.toArray [.int .i64 (n:Int),.slice (some ⟨bw,0,none⟩) (aj.wN n) (aj.wN n)]) 57 (0,0))::
   (bw,.cells (aF .u64 (iw ((List.range (aj.wN n)).map fun i=>F i&&&aj.cj n))) 50 (0,0))::(b1,.cells (List.toArray [.int .i64 (n:Int),.slice (some ⟨bw,0,none⟩) (aj.wN n) (aj.wN n)]) 57 (0,0))::B) (by exact .tail _ (.head _)) (by simp) (fun w hw=>by
    obtain⟨k,_,rfl⟩:=List.mem_map.1 hw
    exact Nat.lt_of_le_of_lt Nat.and_le_right (aj.pI n))
  simpa using this
theorem Mu{B:Hp}{pv pb pa s:Value}{u n i:Nat}{c:Bool}{ws:List Nat}(hv:Go.Sx.At B pv [.int .i64 (u:Int)])(hb:Go.Sx.At B pb [.bool c])(ha:Go.Sx.At B pa [.int .i64 (n:Int),s])(hw:Words B s ws)(hf:aj.cw n ws)(hu:u<n)(hi:i<aj.wN n):
  Rd Tryz.prog 256 #[.int .i64 (i:Int),pv,pb,pa] B (· =.int .u64 ((aj.dA ws u c i:Nat):Int)):=by
 intro g
 have hn:=hf.lD
 have LI:=aj.qO hn
 refine C7 (R:=aE _) ?_
 unfold L256
 refine Ld.at hv (fun _ h=>h) ?_
 refine ae.qz (a:=u) (b:=6) (Br.dec (fun h6=>?_) (fun h6=>?_))
 ·have hp:2^(u-6)≤1024:=Nat.pow_le_pow_right (n:=2) (by decide) (by omega:u-6≤10)
  refine Ld.at hv (fun _ h=>h) ?_
  refine ae.bC (b:=6) (by simp[az];omega) h6 ?_
  refine ae.rI (a:=1) (by simp[IntKind.bits];omega) (by rw[Nat.one_shiftLeft];simp[az];omega) ?_
  rw[Nat.one_shiftLeft]
  refine ae.Aa (by simp[az];omega) (by simp[az];omega) ?_
  have hand:=jI i (2^(u-6))
  intro J hJ
  have PG:aj.aI i (u-6) c<aj.wN n:=by
   rw[aj.sk (by omega)]at hi⊢
   exact aj.fc hi (by omega)
  have ff:JE J [.int .i64 ((aj.aI i (u-6) c:Nat):Int)] B:=by
   refine JE.mk (hJ _ _ fun gs=>?_)
   refine aa.at ha fun q hq=>Ld.at hq (fun _ h=>h) ?_
   have hg:ws[aj.aI i (u-6) c]? =some (ws.getD (aj.aI i (u-6) c) 0):=by rw[List.getElem?_eq_getElem (by rw[hf.len];exact PG),List.getD_eq_getElem?_getD,List.getElem?_eq_getElem (by rw[hf.len];exact PG)];rfl
   refine hw.1.ld (cy hg) (fun _ h=>h) ?_
   exact bL.mk (.refl _) (by unfold aj.dA;rw[if_pos h6])
  refine Ld.at hb (fun _ h=>h) ?_
  cases c
  ·exact Br.no ff
  ·refine Br.yes ?_
   refine Ld.at hv (fun _ h=>h) ?_
   refine ae.bC (b:=6) (by simp[az];omega) h6 ?_
   refine ae.rI (a:=1) (by simp[IntKind.bits];omega) (by rw[Nat.one_shiftLeft];simp[az];omega) ?_
   rw[Nat.one_shiftLeft]
   refine ae.FB (by simp[az];omega) (by simp[az];omega) ?_
   have e:lp i (2^(u-6))|||2^(u-6)=aj.aI i (u-6) true:=by
    apply Nat.eq_of_testBit_eq;intro k
    rw[Nat.testBit_or,cW,aj.aq,Nat.testBit_two_pow]
    by_cases e:k=u-6
    ·simp[e]
    ·simp[e,Ne.symm e]
   rw[e];exact ff
 ·have hp:2^u≤32:=Nat.pow_le_pow_right (n:=2) (by decide) (by omega:u≤5)
  have hg:ws[i]? =some (ws.getD i 0):=by rw[List.getElem?_eq_getElem (by rw[hf.len];exact hi),List.getD_eq_getElem?_getD,List.getElem?_eq_getElem (by rw[hf.len];exact hi)];rfl
  have JB:=hw.2 _ (List.mem_of_getElem? hg)
  have hm:=aj.rZ u
  refine DR.self ?_
  refine Ld.at hv (fun _ h=>h) (Ld.at hv (fun _ h=>h) ?_)
  refine ae.rI (a:=1) (b:=u) (by simp[IntKind.bits];omega) (by rw[Nat.one_shiftLeft];simp[az];omega) ?_
  rw[Nat.one_shiftLeft]
  refine ag.rd .here (we (u:=u) (i:=0) (by omega) (by omega) (by omega) B) ?_
  rintro v rfl
  rw[if_neg h6]
  refine⟨.refl _,?_⟩
  refine Ld.at hb (fun _ h=>h) ?_
  cases c
  ·refine Br.no ?_
   refine aa.at ha fun q hq=>Ld.at hq (fun _ h=>h) ?_
   refine hw.1.ld (cy hg) (fun _ h=>h) ?_
   refine ae.Aa (by simpa[az]using JB) (by simpa[az]using hm) ?_
   refine ae.o5 ?_
   have:=jI (ws.getD i 0) (aj.mask u)
   refine ae.FB (by simp only[az];omega) (by simp only[az];omega) ?_
   exact bL.mk (.refl _) (by unfold aj.dA;rw[if_neg h6];rfl)
  ·refine Br.yes ?_
   refine aa.at ha fun q hq=>Ld.at hq (fun _ h=>h) ?_
   refine hw.1.ld (cy hg) (fun _ h=>h) ?_
   refine ae.jg (by simpa[az]using JB) (by simpa[az]using hm) ?_
   have h1:ws.getD i 0&&&aj.mask u≤ws.getD i 0:=Nat.and_le_left
   refine ae.jJ (by simp only[az];omega) ?_
   have h2:=Nat.shiftRight_le (ws.getD i 0&&&aj.mask u) (2^u)
   refine ae.FB (by simp only[az];omega) (by simp only[az];omega) ?_
   exact bL.mk (.refl _) (by unfold aj.dA;rw[if_neg h6];rfl)
theorem xA{B:Hp}{v:Value}{n u:Nat}{ws:List Nat}{c:Bool}(ht:jS B v ⟨n,ws⟩)(hf:aj.cw n ws)(hu:u<n):
  Px Tryz.prog 215 #[v,.int .i64 (u:Int),.bool c] B (fun v H=>jS H v ⟨n,aj.dV n ws u c⟩):=by
 obtain⟨s,rfl,hw⟩:=ht
 intro g
 refine DB (R:=aE _) ?_
 unfold L215
 intro b1 _ b3 _ b5 _ b7 _
 refine aa.mk (Ld.mk zM rfl ?_)
 refine ag.px (.cons .here) (pz hf.lD rfl (by kernel_rfl) (F:=fun i=>aj.dA ws u c i) (fun i hi=>?_) (fun i hi=>?_)) ?_
 ·unfold aj.dA
  split
  ·by_cases h:aj.aI i (u-6) c<ws.length
   ·rw[List.getD_eq_getElem?_getD,List.getElem?_eq_getElem h];exact hf.lt (List.getElem_mem h)
   ·rw[List.getD_eq_getElem?_getD,List.getElem?_eq_none (by omega)];decide
  ·have hg:ws.getD i 0<2^64:=by rw[List.getD_eq_getElem?_getD,List.getElem?_eq_getElem (by rw[hf.len];exact hi)];exact hf.lt (List.getElem_mem _)
   split
   ·refine Nat.or_lt_two_pow (n:=64) (Nat.lt_of_le_of_lt Nat.and_le_left hg) (Nat.lt_of_le_of_lt (Nat.shiftRight_le _ _) (Nat.lt_of_le_of_lt Nat.and_le_left hg))
   ·exact Nat.or_lt_two_pow (n:=64) (Nat.lt_of_le_of_lt (jI _ _) hg) (Nat.mod_lt _ (by decide))
 ·exact Mu (Go.Sx.At.block (l:=[.int .i64 (u:Int)]) zM) (Go.Sx.At.block (l:=[.bool c]) zM) (Go.Sx.At.block (l:=[.int .i64 (n:Int),s]) zM) (hw.mono zS) hf hu hi
 ·rintro v N ⟨s',rfl,dr⟩
  refine St.whole (r:=[.int .i64 (n:Int),s']) (by exact .head _) rfl rfl ?_ ?_
  ·have:=aB dr;simpa[Value.oneCell']using this
  refine aA.whole (r:=[.int .i64 (n:Int),s']) (by exact .head _) rfl ?_
  exact oG.mk (by repeat (first|exact aV.refl _|apply aV.cons|apply aV.app)) ⟨s',rfl,dr.mono zS⟩
theorem Fl{B:Hp}{v:Value}{n u:Nat}{ws:List Nat}{c:Bool}(ht:jS B v ⟨n,ws⟩)(hf:aj.cw n ws)(hu:u<n):
  Px Tryz.prog 148 #[v,.int .i64 (u:Int),.bool c] B (fun r H=>∃v',r=.tuple #[v',.int .i64 0]∧jS H v' ⟨n,aj.dV n ws u c⟩):=by
 obtain⟨s,rfl,hw⟩:=ht
 intro g
 refine Er (R:=aE _) ?_
 unfold L148
 intro b1 _ b3 _
 refine aA.whole (r:=[.int .i64 (n:Int),s]) (by exact .tail _ (.head _)) rfl ?_
 refine ag.rd .here (VK (t:=⟨n,ws⟩) ⟨s,rfl,hw.mono zS⟩ (u:Int)) ?_
 rintro v rfl
 rw[if_pos (show TF ⟨(n:Int),ws⟩from⟨by simp,by simpa using hf⟩),if_pos ⟨by omega,by simp only;omega⟩]
 refine ae.gj (Br.cq (by simp) ?_)
 refine aA.whole (r:=[.int .i64 (n:Int),s]) (by exact .tail _ (.head _)) rfl ?_
 refine ag.px (.cons .here) (xA (v:=.agg (List.toArray [.int .i64 (n:Int),s])) ⟨s,rfl,hw.mono zS⟩ hf hu) ?_
 rintro v N ⟨s',rfl,dr⟩
 refine St.whole (r:=[.int .i64 (n:Int),s']) (by exact .head _) rfl rfl ?_ ?_
 ·have:=aB dr;simpa[Value.oneCell']using this
 refine aA.whole (r:=[.int .i64 (n:Int),s']) (by exact .head _) rfl ?_
 exact oG.mk (by repeat (first|exact aV.refl _|apply aV.cons|apply aV.app)) ⟨_,rfl,s',rfl,dr.mono zS⟩
theorem z5{w j:Nat}(hj:j<8):((List.range (j+1)).map fun i=>UInt8.ofNat (w>>>(8*i)))=((List.range j).map fun i=>UInt8.ofNat (w>>>(8*i)))++[UInt8.ofNat (w>>>(8*j))]:=by
 rw[List.range_succ,List.map_append];rfl
theorem Iq(l:List UInt8)(n:Nat):qF (l++[UInt8.ofNat n])=qF l++[[Value.int .u8 ((n%256:Nat):Int)]]:=by
 simp[qF]
theorem Bs{B:Hp}{v:Value}{t:Tb}(ht:jS B v t)(hl:t.ws.length≤4294967296):Rd Tryz.prog 234 #[v] B (· =wO (aj.gG t.ws)):=by
 obtain⟨s,rfl,hw⟩:=ht
 intro g
 refine Di (R:=aE _) ?_
 unfold L234
 intro b1 _
 refine aa.mk (Ld.mk zM rfl ?_)
 refine hw.1.aS ?_
 rw[an]
 refine⟨fun vs H=>∃(k:Nat) (v:Value) (C:Hp),vs=[v,.int .i64 (k:Int)]∧k≤t.ws.length∧H=C++B∧aR 5 1 v (qF (aj.gG (t.ws.take k))) C,fun vs _=>t.ws.length-bg vs 1,
  JE.of (.tail) ⟨0,_,[],rfl,by omega,rfl,aR.nil _ _⟩,?_⟩
 rintro w6 w7 H ⟨k,v,C,hv,hk,rfl,ho⟩ gs
 simp only[List.cons.injEq,and_true]at hv
 obtain⟨rfl,rfl⟩:=hv
 refine ae.dL (Br.dec (fun hlt=>?_) (fun hlt=>?_))
 ·have hg:t.ws[k]? =some t.ws[k]:=List.getElem?_eq_getElem hlt
  have hwk:=hw.2 _ (List.getElem_mem hlt)
  refine hw.1.ld (cy hg) zS ?_
  have hlen:(qF (aj.gG (t.ws.take k))).length=8*k:=by simp only[qF,List.length_map,aj.qZ,List.length_take];omega
  refine⟨fun vs H=>∃(j:Nat) (v:Value) (C:Hp),vs=[v,.int .i64 (j:Int)]∧j≤8∧H=C++B∧aR 5 1 v (qF (aj.gG (t.ws.take k)++(List.range j).map fun i=>UInt8.ofNat (t.ws[k]>>>(8*i)))) C,fun vs _=>8-bg vs 1,
   JE.mk ⟨0,_,C,rfl,by omega,rfl,by simpa using ho⟩,?_⟩
  rintro w8 w9 H ⟨j,v,C,hv,hj,rfl,ho⟩ gs
  simp only[List.cons.injEq,and_true]at hv
  obtain⟨rfl,rfl⟩:=hv
  refine ae.dL (b:=8) (Br.dec (fun h8=>?_) (fun h8=>?_))
  ·refine ae.g6 (a:=8) (by simp[az];omega) ?_
   refine ae.jJ (by simpa[az]using hwk) ?_
   refine bI.acH ?_
   refine ax.int (e:=5) (by kernel_rfl) (by kernel_rfl) (by kernel_rfl) fun xb=>?_
   refine ho.Ci (A:=[_]) (r:=[Value.int .u8 (((t.ws[k]>>>(8*j))%256:Nat):Int)]) (by exact .head _) rfl (by simp[Value.oneCell']) ⟨[.int .u8 0],rfl,rfl⟩ (by simp only[qF,List.length_map,List.length_append,List.length_range]at hlen⊢;omega) (by simp only[qF,List.length_map,List.length_append,List.length_range]at hlen⊢;omega) fun v' C' bT=>?_
   refine ae.aH (b:=1) (by simp[az];omega) ?_
   refine ay.of .tail ⟨j+1,_,C',rfl,by omega,rfl,?_⟩ (by simp[bg];omega)
   rw[z5 h8,←List.append_assoc,Iq];exact bT
  ·have:j=8:=by omega
   subst this
   refine ae.aH (b:=1) (by simp[az];omega) ?_
   refine ay.mk ⟨k+1,_,C,rfl,by omega,rfl,?_⟩ (by simp[bg];omega)
   rw[List.take_succ_eq_append_getElem hlt,aj.gG,List.flatMap_append]
   simpa[aj.gG,aj.gA]using ho
 ·have:k=t.ws.length:=by omega
  subst this
  rw[List.take_length]at ho
  refine jR.own ho (fun _ h=>List.mem_append_left _ h) ?_
  exact bL.mk .right rfl
theorem Uf{B:Hp}{b n:Nat}{es:Array MapEntry}{ck:Nat}{m:List (List UInt8×List Nat)}{v:Value}{ws:List Nat}(hE:gh n B es ck m)(ht:jS B v ⟨n,ws⟩)(hf:aj.cw n ws):
  Fc Tryz.prog 233 #[.map (some b),v] ((b,.map es ck)::B) (fun _ H=>∃es' eN N,H=(b,.map es' eN)::(N++B)∧gh n (N++B) es' eN (wK m ws)):=by
 obtain⟨s,rfl,hw⟩:=ht
 intro g
 refine Dj (R:=aE _) ?_
 unfold L233
 intro b1 _
 refine DR.self ?_
 refine aA.whole (r:=[.int .i64 (n:Int),s]) (by exact .head _) rfl ?_
 refine aA.whole (r:=[.int .i64 (n:Int),s]) (by exact .head _) rfl ?_
 refine ag.rd (.cons (.cons .here)) (Bs (t:=⟨n,ws⟩) ⟨s,rfl,hw⟩ (fM hf)) ?_
 rintro v rfl
 refine⟨.refl _,?_⟩
 refine hE.ct (b:=b) ⟨s,rfl,hw⟩ hf fun es' eN BU=>⟨_,.tail (.head _),?_⟩
 exact aE.mk (lJ:=(b,.map es' eN)::([]++B)) .tail ⟨es',eN,[],rfl,BU⟩
theorem Hl{B:Hp}{v:Value}{n:Nat}{ts:List Tb}{L:List (List Nat)}(ht:cV B v ts)(hL:ts=L.map fun ws=>⟨n,ws⟩)(hf:∀ws∈L,aj.cw n ws)(bD:L.length<4611686018427387904):
  Fc Tryz.prog 176 #[v] B (fun r H=>∃b es ck m N,r=.map (some b)∧H=(b,.map es ck)::(N++B)∧gh n (N++B) es ck m∧∀x,x∈m.map Prod.snd↔x∈L):=by
 have hlen:ts.length=L.length:=by rw[hL];simp
 intro g
 refine D2 (R:=aE _) ?_
 unfold L176
 intro b _
 refine ht.aS ?_
 rw[hlen]
 refine⟨fun vs H=>∃(k:Nat) (es:Array MapEntry) (ck:Nat) (m:List (List UInt8×List Nat)) (N:Hp),vs=[.int .i64 (k:Int)]∧k≤L.length∧H=(b,.map es ck)::(N++B)∧gh n (N++B) es ck m∧∀x,x∈m.map Prod.snd↔x∈L.take k,
  fun vs _=>L.length-bg vs 0,JE.mk ⟨0,_,_,[],[],rfl,by omega,rfl,gh.empty _ _,by simp⟩,?_⟩
 rintro w H ⟨k,es,ck,m,N,hv,hk,rfl,hE,hm⟩ gs
 simp only[List.cons.injEq,and_true]at hv
 subst hv
 refine ae.dL (Br.dec (fun hlt=>?_) (fun hlt=>?_))
 ·have hg:ts[k]? =some ⟨n,L[k]⟩:=by rw[hL,List.getElem?_map,List.getElem?_eq_getElem hlt];rfl
  have jx:=hf L[k] (List.getElem_mem hlt)
  refine ht.ld hg zS fun s hw=>?_
  intro b2 _
  refine St.whole (r:=[.int .i64 (n:Int),s]) (by exact .head _) rfl rfl ?_ ?_
  ·have:=aB hw;simpa[Value.oneCell']using this
  refine aA.whole (r:=[.int .i64 (n:Int),s]) (by exact .head _) rfl ?_
  refine ag.fn (.cons .here) (Uf hE ⟨s,rfl,hw.mono zS⟩ jx) ?_
  rintro r C' ⟨es',eN,N',rfl,BU⟩
  refine ae.aH (b:=1) (by simp[az];omega) ?_
  refine ay.of .tail ⟨k+1,es',eN,wK m L[k],N'++N,rfl,by omega,by rw[List.append_assoc],by rw[List.append_assoc];exact BU,fun x=>?_⟩ (by simp[bg];omega)
  rw[qb hE.2 jx,hm,List.take_succ_eq_append_getElem hlt,List.mem_append,List.mem_singleton]
 ·have:k=L.length:=by omega
  subst this
  rw[List.take_length]at hm
  exact aE.here ⟨b,es,ck,m,N,rfl,rfl,hE,hm⟩
theorem zy{B:Hp}{bm n u:Nat}{es:Array MapEntry}{ck:Nat}{m:List (List UInt8×List Nat)}(hm:(bm,Obj.map es ck)∈B)(hE:gh n B es ck m)(hu:u<n)(bD:m.length<4611686018427387904):
  Fc Tryz.prog 177 #[.map (some bm),.int .i64 (u:Int)] B (fun r H=>∃b' es' eN m' N,r=.tuple #[.map (some b'),.int .i64 ((aj.nodes n (m.map Prod.snd) u).length:Int)]∧H=(b',.map es' eN)::(N++B)∧gh n (N++B) es' eN m'∧
   ∀x,x∈m'.map Prod.snd↔∃t∈m.map Prod.snd,∃c,x=aj.dV n t u c):=by
 intro g
 refine D1 (R:=aE _) ?_
 unfold L177
 intro b' _
 refine .inr ⟨bm,es,ck,rfl,.tail _ hm,fun bi _=>?_⟩
 refine⟨fun vs H=>∃(es':Array MapEntry) (eN:Nat) (m':List (List UInt8×List Nat)) (seen:Array Nat) (N:Hp) (D:List (List Nat)),vs=[.int .i64 ((aj.nodes n D u).length:Int)]∧
   H=(bi,.mapIter (some bm) ck seen ck)::(b',.map es' eN)::(N++B)∧gh n (N++B) es' eN m'∧(m.map Prod.snd).Perm (D++(dH es m seen).map Prod.snd)∧∀x,x∈m'.map Prod.snd↔∃t∈D,∃c,x=aj.dV n t u c,
  fun vs H=>match H with|(_,.mapIter _ _ seen _)::_=>(dH es m seen).length|_=>0,JE.mk ⟨_,_,[],_,[],[],rfl,rfl,gh.empty _ _,?_,by simp⟩,?_⟩
 ·rw[sE hE.1];simp
 rintro w H ⟨es',eN,m',seen,N,D,hv,rfl,BU,dM,hmem⟩ gs
 simp only[List.cons.injEq,and_true]at hv
 subst hv
 have hbm:∀{X:Hp},(bm,Obj.map es ck)∈X++B:=List.mem_append_right _ hm
 refine hE.1.next (.tail _ (.tail _ hbm)) (.head _) (fun e x seen' he hkey hval hstep Mp hfind=>⟨_,.head _,?_⟩) (fun BA=>?_)
 ·obtain⟨bs,ws⟩:=x
  simp only at hval hkey
  refine Ext.mk rfl (Br.yes ?_)
  refine⟨bi,bm,ck,seen',e.born,ck,es,e,rfl,.head _,Mp,.tail _ (.tail _ hbm),hfind,?_⟩
  refine Ext.mk rfl ?_
  have hx:(bs,ws)∈m:=by
   have h:=hstep.mem_iff.2 (List.mem_cons_self (a:=(bs,ws)))
   unfold dH at h
   obtain⟨p,hp,kZ⟩:=List.mem_map.1 h
   rw[←kZ]
   exact(List.of_mem_zip (List.mem_filter.1 hp).1).2
  obtain⟨hbs,hf⟩:=hE.2 _ hx
  simp only at hbs hf
  obtain⟨s,WJ,hw⟩:=hval
  rw[WJ]
  have hone:=aB hw
  intro b1 _
  refine St.whole (r:=[.int .i64 (n:Int),s]) (by exact .head _) rfl rfl (by simpa[Value.oneCell']using hone) ?_
  refine aA.whole (r:=[.int .i64 (n:Int),s]) (by exact .head _) rfl ?_
  refine ag.px (B:=N++B) (.cons (.cons (.cons .here))) (Fl (n:=n) (ws:=ws) ⟨s,rfl,hw.mono zS⟩ hf hu) ?_
  rintro r N1 ⟨v1,rfl,s1,rfl,jr⟩
  have tq:=aB jr
  refine Ext.mk rfl (Ext.mk rfl ?_)
  intro b2 _
  refine St.whole (r:=[.int .i64 (n:Int),s1]) (by exact .head _) rfl rfl (by simpa[Value.oneCell']using tq) ?_
  refine aA.whole (r:=[.int .i64 (n:Int),s]) (by exact .tail _ (.head _)) rfl ?_
  refine ag.px (B:=N1++(N++B)) (.cons (.cons (.cons (.cons .here)))) (Fl (n:=n) (ws:=ws) ⟨s,rfl,hw.mono zS⟩ hf hu) ?_
  rintro r N2 ⟨v2,rfl,s2,rfl,mr⟩
  have tp:=aB mr
  refine Ext.mk rfl (Ext.mk rfl ?_)
  intro b3 _
  refine St.whole (r:=[.int .i64 (n:Int),s2]) (by exact .head _) rfl rfl (by simpa[Value.oneCell']using tp) ?_
  refine DR.self ?_
  refine aA.whole (r:=[.int .i64 (n:Int),s1]) (by exact .tail _ (.head _)) rfl ?_
  refine aA.whole (r:=[.int .i64 (n:Int),s2]) (by exact .head _) rfl ?_
  have f1:=aj.cF (v:=u) (ws:=ws) (b:=false) hf.lD
  have f2:=aj.cF (v:=u) (ws:=ws) (b:=true) hf.lD
  refine ag.rd (B:=N2++(N1++(N++B))) (.cons (.cons (.cons (.cons (.cons .here))))) (Bs (t:=⟨n,aj.dV n ws u false⟩) ⟨s1,rfl,jr.mono zS⟩ (fM f1)) ?_
  rintro v rfl
  refine⟨.refl _,?_⟩
  refine ag.rd (B:=N2++(N1++(N++B))) (.cons (.cons (.cons (.cons (.cons .here))))) (Bs (t:=⟨n,aj.dV n ws u true⟩) ⟨s2,rfl,mr⟩ (fM f2)) ?_
  rintro v rfl
  refine⟨.refl _,?_⟩
  intro J hJ
  have BN:(aj.gG (aj.dV n ws u false)≠aj.gG (aj.dV n ws u true))↔aj.dep n ws u=true:=by
   simp only[aj.dep,ne_eq,decide_eq_true_eq]
   exact not_congr ⟨fun h=>f1.key_inj f2 h,fun h=>by rw[h]⟩
  have ff:JE J [.int .i64 ((aj.nodes n (D++[ws]) u).length:Int)] ((b3,.cells (List.toArray [.int .i64 (n:Int),s2]) 57 (0,0))::(b2,.cells (List.toArray [.int .i64 (n:Int),s1]) 57 (0,0))::
    (b1,.cells (List.toArray [.int .i64 (n:Int),s]) 57 (0,0))::(bi,.mapIter (some bm) ck seen' ck)::(b',.map es' eN)::(N2++(N1++(N++B)))):=by
   refine JE.mk (hJ _ _ fun gs=>?_)
   refine DR.of (R:=(b3,.cells (List.toArray [.int .i64 (n:Int),s2]) 57 (0,0))::(b2,.cells (List.toArray [.int .i64 (n:Int),s1]) 57 (0,0))::[]) ?_ ?_
   ·exact .cons (.cons (fun g w h=>(Own.left (B:=_) (A:=[]) h)))
   refine aA.whole (r:=[.int .i64 (n:Int),s1]) (by exact .tail _ (.head _)) rfl ?_
   refine aA.whole (r:=[.int .i64 (n:Int),s2]) (by exact .head _) rfl ?_
   have BT:=BU.mono (B':=N2++(N1++(N++B))) zS
   refine BT.ct (b:=b') (ws:=aj.dV n ws u false) ⟨s1,rfl,jr.mono zS⟩ f1 fun p5 rz hE3=>⟨_,.tail (.tail (.tail (.tail (.head _)))),?_⟩
   refine⟨.cons (.cons (fun g w h=>(Own.left (B:=_) (A:=[]) h))),?_⟩
   refine hE3.ct (b:=b') (ws:=aj.dV n ws u true) ⟨s2,rfl,mr⟩ f2 fun U9 Va hE4=>⟨_,.tail (.tail (.tail (.tail (.head _)))),?_⟩
   refine ay.of (H':=(bi,.mapIter (some bm) ck seen' ck)::(b',.map U9 Va)::((N2++(N1++N))++B)) ?_ ⟨U9,Va,wK (wK m' (aj.dV n ws u false)) (aj.dV n ws u true),seen',N2++(N1++N),D++[ws],rfl,rfl,?_,?_,fun x=>?_⟩ ?_
   ·refine .skip (.skip (.skip (.cons (.cons ?_))))
    intro g w h;rw[List.append_assoc,List.append_assoc];exact h
   ·rw[List.append_assoc,List.append_assoc];exact hE4
   ·refine dM.trans ?_
    refine(List.Perm.append_left D (hstep.map Prod.snd)).trans ?_
    simp only[List.map_cons,List.append_assoc,List.cons_append,List.nil_append]
    exact .refl _
   ·rw[qb hE3.2 f2,qb BT.2 f1,hmem]
    constructor
    ·rintro((⟨t,ht,c,rfl⟩|rfl)|rfl)
     ·exact⟨t,by simp[ht],c,rfl⟩
     ·exact⟨ws,by simp,_,rfl⟩
     ·exact⟨ws,by simp,_,rfl⟩
    ·rintro⟨t,ht,c,rfl⟩
     rcases List.mem_append.1 ht with ht|ht
     ·exact .inl (.inl ⟨t,ht,c,rfl⟩)
     ·simp at ht;subst ht
      cases c
      ·exact .inl (.inr rfl)
      ·exact .inr rfl
   ·have:=hstep.length_eq
    simp only[List.length_cons]at this⊢
    omega
  refine ae.VC (Br.dec (fun h=>?_) (fun h=>?_))
  ·refine ae.aH (b:=1) ?_ ?_
   ·have h1:=dM.length_eq
    simp only[List.length_map,List.length_append]at h1
    have h2:(aj.nodes n D u).length≤D.length:=List.length_filter_le _ _
    simp[az];omega
   ·have:(aj.nodes n (D++[ws]) u).length=(aj.nodes n D u).length+1:=by
     simp[aj.nodes,List.filter_append,BN.1 h]
    rw[this]at ff;exact ff
  ·have:(aj.nodes n (D++[ws]) u).length=(aj.nodes n D u).length:=by
    have hd:aj.dep n ws u=false:=by cases hh:aj.dep n ws u;rfl;exact absurd (BN.2 hh) h
    simp[aj.nodes,List.filter_append,hd]
   rw[this]at ff;exact ff
 ·refine Ext.mk rfl (Br.no ?_)
  rw[BA]at dM
  simp only[List.map_nil,List.append_nil]at dM
  refine aE.mk (lJ:=(b',.map es' eN)::(N++B)) .tail ⟨b',es',eN,m',N,?_,rfl,BU,fun x=>?_⟩
  ·rw[aj.kS dM]
  ·rw[hmem]
   constructor
   ·rintro⟨t,ht,h⟩;exact⟨t,dM.mem_iff.2 ht,h⟩
   ·rintro⟨t,ht,h⟩;exact⟨t,dM.mem_iff.1 ht,h⟩
theorem GW{B:Hp}{v:Value}{ts:List Tb}(ht:cV B v ts)(bD:ts.length<2^62):Rd Tryz.prog 175 #[v] B (· =.bool (decide (∀t∈ts,TF t∧some t.n=ts.head?.map Tb.n))):=by
 intro g
 refine D3 (R:=aE _) ?_
 unfold L175
 refine ht.aS ?_
 refine⟨fun vs H=>aV B H∧∃k:Nat,vs=[.int .i64 (k:Int)]∧k≤ts.length∧∀i t,i<k→ts[i]? =some t→TF t∧some t.n=ts.head?.map Tb.n,fun vs _=>ts.length-bg vs 0,JE.mk ⟨.refl _,0,rfl,by omega,by omega⟩,?_⟩
 rintro w H ⟨hg,k,hv,hk,aK⟩ gs
 simp only[List.cons.injEq,and_true]at hv
 subst hv
 refine ae.dL (Br.dec (fun hlt=>?_) (fun hlt=>?_))
 ·obtain⟨t,lS⟩:∃t,ts[k]? =some t:=⟨_,List.getElem?_eq_getElem hlt⟩
  obtain⟨t0,PF⟩:∃t,ts[0]? =some t:=⟨_,List.getElem?_eq_getElem (by omega)⟩
  have hh:ts.head?.map Tb.n=some t0.n:=by rw[List.head?_eq_getElem?,PF];rfl
  have V3:=ht.mono hg.sub
  refine V3.ld lS (fun _ h=>h) fun s hs=>?_
  intro b1 _
  refine St.whole (r:=[.int .i64 t.n,s]) (by exact cK.head _) rfl rfl ?_ ?_
  ·obtain⟨a,c,rfl,_⟩:=hs.1.shape;simp[Value.oneCell']
  intro J hJ
  have hno:∀H',aV B H'→¬(TF t∧some t.n=ts.head?.map Tb.n)→JE J [.bool true] H':=fun H' TN h=>
   JE.mk (hJ _ _ fun gs=>Br.yes (bL.mk TN.ru (by rw[decide_eq_false];exact fun hh=>h (hh t (List.mem_of_getElem? lS)))))
  have RC:aV B ((b1,Obj.cells (List.toArray [.int .i64 t.n,s]) 57 (0,0))::H):=.cons hg
  refine DR.self ?_
  refine aA.whole (r:=[.int .i64 t.n,s]) (by exact List.Mem.head _) rfl ?_
  intro F
  refine ag.rd (B:=H) (.cons .here) (zA ⟨s,rfl,hs⟩) ?_
  rintro v rfl
  refine⟨.refl _,Un.not ?_⟩
  by_cases hT:TF t
  case neg=>rw[decide_eq_false hT];exact Br.yes (hno _ RC fun h=>hT h.1)
  rw[decide_eq_true hT]
  refine Br.no ?_
  refine aa.mk (Ld.mk zM rfl ?_)
  refine V3.VP PF zS ?_
  refine ae.gj (aD.mk ?_)
  simp only[cond_false]
  by_cases hn:t.n=t0.n
  case neg=>rw[decide_eq_true hn];exact hno _ RC fun h=>hn (by have:=h.2;rw[hh]at this;simpa using this)
  rw[decide_eq_false (by simpa using hn)]
  refine JE.mk (hJ _ _ fun gs=>Br.no ?_)
  refine ae.aH (b:=1) (by simp[az];omega) ?_
  refine ay.mk ⟨RC,k+1,rfl,by omega,fun i u hi hu=>?_⟩ (by simp[bg];omega)
  by_cases e:i=k
  ·subst e;rw[lS]at hu;cases hu;exact⟨hT,by rw[hh,hn]⟩
  ·exact aK i u (by omega) hu
 ·refine bL.mk hg.ru ?_
  rw[decide_eq_true]
  intro t htm
  obtain⟨i,hi,rfl⟩:=List.mem_iff_getElem.1 htm
  exact aK i _ (by omega) (List.getElem?_eq_getElem hi)
def pU(ts:List Tb):Prop:=∀t∈ts,TF t∧some t.n=ts.head?.map Tb.n
instance (ts:List Tb):Decidable (pU ts):=by unfold pU;infer_instance
theorem sP{B:Hp}{v:Value}{ts:List Tb}(ht:cV B v ts)(bD:ts.length<2^62):Rd Tryz.prog 175 #[v] B (· =.bool (decide (pU ts))):=GW ht bD
theorem yO{n:Nat}{L:List (List Nat)}(hf:∀ws∈L,aj.cw n ws):pU (L.map fun ws=>⟨n,ws⟩):=by
 intro t ht
 obtain⟨ws,PC,rfl⟩:=List.mem_map.1 ht
 refine⟨⟨by simp,by simpa using hf ws PC⟩,?_⟩
 cases L with
 |nil=>simp at PC
 |cons a b=>rfl
theorem FD{ts:List Tb}(h:pU ts)(hne:ts≠[]):∃(n:Nat) (L:List (List Nat)),n≤16∧ts=L.map (fun ws=>⟨n,ws⟩)∧L≠[]∧∀ws∈L,aj.cw n ws:=by
 cases ts with
 |nil=>exact absurd rfl hne
 |cons t r=>
  have ht:=(h t (by simp)).1
  have hn:∀u∈t::r,u.n=t.n:=fun u hu=>by have:=(h u hu).2;simpa using this
  refine⟨t.n.toNat,(t::r).map Tb.ws,ht.2.lD,?_,by simp,fun ws PC=>?_⟩
  ·rw[List.map_map]
   conv=>lhs;rw[←List.map_id (t::r)]
   apply List.map_congr_left
   intro u hu
   have h1:=hn u hu
   have h2:=ht.1
   obtain⟨un,uw⟩:=u
   simp only[Function.comp,id]at h1⊢
   congr 1;omega
  ·obtain⟨u,hu,rfl⟩:=List.mem_map.1 PC
   have:=(h u hu).1.2
   rwa [hn u hu]at this
end Go.Proofs
namespace bc
theorem Rm.qy(m:Rm):∀ls ord,m.cH 0 ls ord=ls.take (m.cH 0 ls ord).length
 | [],_=>rfl
 |c::cs,ord=>by
  by_cases hf:m.fit ord (0+c)=true
  ·have:=m.qy cs (ez ord (0+c))
   rw[cH,if_pos hf,List.length_cons,List.take_succ_cons,←this,Nat.zero_add]
  ·rw[cH,if_neg hf];simp
def Rm.can(m:Rm)(ord ls:List Nat):Bool:=decide ((m.cH 0 ls ord).length=ls.length)
theorem Rm.MF(m:Rm){ord ls:List Nat}{i:Nat}(hi:i<(m.cH 0 ls ord).length){l:Nat}(hl:ls[i]? =some l):m.fit (aC ord (ls.take i)) l=true:=by
 obtain⟨_,c,h1,h2⟩:=m.pH 0 ls ord i hi
 rw[hl]at h1;cases h1
 rw[m.qy,List.take_take,Nat.min_eq_left (Nat.le_of_lt hi),Nat.zero_add]at h2
 exact h2
theorem Rm.HW(m:Rm){ord ls:List Nat}{l:Nat}(hl:ls[(m.cH 0 ls ord).length]? =some l):m.fit (aC ord (ls.take (m.cH 0 ls ord).length)) l=false:=by
 have:=m.tF 0 ls ord l hl
 rw[Nat.zero_add]at this
 rw[←m.qy]
 exact this
theorem Alike.can{A B:Rm}{Q:List Nat→Prop}(h:Alike A B Q){ord ls:List Nat}(hls:∀l∈ls,l+1<A.n)(hq:Q ord):A.can ord ls=B.can ord ls∧(A.cH 0 ls ord).length=(B.cH 0 ls ord).length:=by
 have:=h.cH (p:=0) (cs:=ls) (ord:=ord) (fun c hc=>by have:=hls c hc;omega) hq
 unfold Rm.can;rw[this];exact⟨rfl,rfl⟩
def road(a b:Nat):List Nat:=List.range' a (b-a)++(List.range' b (a-b)).reverse
theorem yG(a b:Nat):(road a b).length=(b-a)+(a-b):=by simp[road]
theorem yF{a b l n:Nat}(ha:a<n)(hb:b<n)(h:l∈road a b):l+1<n:=by
 unfold road at h
 rcases List.mem_append.1 h with h|h
 ·rw[List.mem_range'_1]at h;omega
 ·rw[List.mem_reverse,List.mem_range'_1]at h;omega
theorem me{α:Type}[DecidableEq α]:∀{l p:List α},l.Nodup→(∀x∈l,x∈p)→p.length≤l.length→l.Perm p
 | [],p,_,_,h=>by
  have:p=[]:=List.length_eq_zero_iff.1 (by simpa using h)
  subst this;exact .refl _
 |x::t,p,hn,hs,hl=>by
  have hx:=hs x (by simp)
  have hp:=List.perm_cons_erase hx
  have hlen:(p.erase x).length=p.length-1:=List.length_erase_of_mem hx
  have hpos:=List.length_pos_of_mem hx
  refine(List.Perm.cons x (me (List.nodup_cons.1 hn).2 (fun y hy=>?_) (by simp only[List.length_cons]at hl;omega))).trans hp.symm
  refine(List.mem_erase_of_ne fun e=>?_).2 (hs y (by simp[hy]))
  subst e;exact(List.nodup_cons.1 hn).1 hy
end bc
set_option maxRecDepth 100000
namespace Go.Proofs
open Go Go.Sx
open bc
theorem zc{l:List Nat}(h:l.Nodup):(iw l).Nodup:=List.pairwise_map.2 (h.imp fun hne e=>hne (Int.ofNat.inj e))
theorem qJ{p:List Int}:mQ p↔p.Perm (iw (List.range p.length)):=by
 constructor
 ·intro h
  refine(me (zc List.nodup_range) (fun x hx=>?_) (by rw[an,List.length_range];exact Nat.le_refl _)).symm
  obtain⟨k,hk,rfl⟩:=List.mem_map.1 hx
  exact h k (List.mem_range.1 hk)
 ·intro h v hv
  exact h.mem_iff.2 (List.mem_map.2 ⟨v,List.mem_range.2 hv,rfl⟩)
theorem Np{p:List Int}(hn:p.Nodup)(h:∀x∈p,0≤x∧x<(p.length:Int)):mQ p:=by
 refine qJ.2 (me hn (fun x hx=>?_) (by rw[an,List.length_range];exact Nat.le_refl _))
 obtain⟨h1,h2⟩:=h x hx
 exact List.mem_map.2 ⟨x.toNat,List.mem_range.2 (by omega),by show((x.toNat:Nat):Int)=x;omega⟩
theorem Nq{p:List Int}(h:mQ p){x:Int}(hx:x∈p):0≤x∧x<(p.length:Int):=by
 have:=(qJ.1 h).mem_iff.1 hx
 obtain⟨k,hk,rfl⟩:=List.mem_map.1 this
 have:=List.mem_range.1 hk
 show(0:Int)≤(k:Int)∧(k:Int)<_
 omega
theorem Ab{p:List Int}(h:mQ p):p.Nodup:=(qJ.1 h).nodup_iff.2 (zc List.nodup_range)
theorem KJ{p:List Int}{i n W:Nat}(hi:i<p.length)(hn:p[i]=(n:Int))(hw:n<W):((List.range W).map fun k=>decide (((k:Nat):Int)∈p.take i)).set n true=(List.range W).map fun k=>decide (((k:Nat):Int)∈p.take (i+1)):=by
 apply List.ext_getElem?
 intro j
 rw[List.take_succ_eq_append_getElem hi,hn]
 by_cases hj:j<W
 ·by_cases e:n=j
  ·subst e;rw[List.getElem?_set_self (by simpa using hw)];simp[hw]
  ·rw[List.getElem?_set_ne e]
   simp only[List.getElem?_map,List.getElem?_range hj,Option.map_some,List.mem_append,List.mem_singleton]
   congr 1
   have:¬((j:Nat):Int)=(n:Int):=by omega
   simp[this]
 ·rw[List.getElem?_eq_none (by simp;omega),List.getElem?_eq_none (by simp;omega)]
theorem GU{p:List Int}{W:Nat}:List.replicate W false=(List.range W).map fun k=>decide (((k:Nat):Int)∈p.take 0):=by
 apply List.ext_getElem?
 intro j
 by_cases hj:j<W
 ·simp[hj]
 ·rw[List.getElem?_eq_none (by simp;omega),List.getElem?_eq_none (by simp;omega)]
theorem qi{B:Hp}{v:Value}{p:List Int}(h:cE .i64 B v p)(bD:p.length≤70368744177664):Rd Tryz.prog 101 #[v] B (fun r=>(r=.int .i64 0∧mQ p∧p.length≤64)∨(r=.int .i64 13∧mQ p∧64<p.length)∨(r=.int .i64 4∧¬mQ p)):=by
 intro g
 refine EX (R:=aE _) ?_
 unfold L101
 refine h.aS (bZ.nV (by omega) fun b=>h.aS ?_)
 rw[GU (p:=p)]
 refine⟨fun vs H=>∃i:Nat,vs=[.int .i64 (i:Int)]∧H=(b,.cells (cX ((List.range p.length).map fun k=>decide (((k:Nat):Int)∈p.take i))) 4 (0,0))::B∧i≤p.length∧(p.take i).Nodup∧∀x∈p.take i,0≤x∧x<(p.length:Int),fun vs _=>p.length-bg vs 0,
  JE.mk ⟨0,rfl,rfl,Nat.zero_le _,by simp,by simp⟩,?_⟩
 rintro w H ⟨i,hv,rfl,hi,gW,hin⟩ gs
 simp only[List.cons.injEq,and_true]at hv
 subst hv
 refine ae.dL (Br.dec (fun hlt=>?_) (fun hlt=>?_))
 ·refine h.ld (List.getElem?_eq_getElem hlt) (fun _ h=>.tail _ h) ?_
  obtain⟨x,hx⟩:∃x,p[i]=x:=⟨_,rfl⟩
  have hxm:x∈p:=by rw[←hx];exact List.getElem_mem hlt
  rw[hx]
  have hB:=iG.block (b:=b) (cap:=p.length) (l:=(List.range p.length).map fun k=>decide (((k:Nat):Int)∈p.take i)) (T:=4) (fz:=(0,0)) (B:=(b,.cells (cX ((List.range p.length).map fun k=>decide (((k:Nat):Int)∈p.take i))) 4 (0,0))::B) (.head _) (by simp)
  rw[List.length_map,List.length_range]at hB
  refine ae.lss ?_
  refine cv.or (decide ((p.length:Int)≤x)) (fun _=>h.aS (ae.geq ⟨rfl,rfl⟩)) (by simp) fun gs=>?_
  rw[←Bool.decide_or]
  refine cv.or (decide (x∈p.take i)) (fun hno=>?_) (by simp) fun gs=>?_
  ·have HJ:=of_decide_eq_false hno
   obtain⟨n,rfl⟩:∃n:Nat,x=n:=⟨x.toNat,by omega⟩
   refine hB.ld (b:=decide (((n:Nat):Int)∈p.take i)) ?_ (fun _ h=>h) ⟨rfl,rfl⟩
   rw[List.getElem?_map,List.getElem?_range (by omega)];rfl
  rw[←Bool.decide_or]
  refine Br.dec (fun BO=>bL.mk .tail (.inr (.inr ⟨rfl,fun ha=>?_⟩))) (fun WE=>?_)
  ·have h1:=Nq ha hxm
   rcases BO with hb|hb
   ·omega
   ·have h2:=Ab ha
    rw[←List.take_append_drop i p,List.nodup_append]at h2
    refine h2.2.2 x hb x ?_ rfl
    rw[List.drop_eq_getElem_cons hlt,hx];exact .head _
  ·obtain⟨n,rfl⟩:∃n:Nat,x=n:=⟨x.toNat,by omega⟩
   refine ah.nat (by omega) ?_
   refine St.nV (l:=(List.range p.length).map fun k=>decide (((k:Nat):Int)∈p.take i)) (.head _) (by simp;omega) ?_
   rw[KJ hlt hx (by omega)]
   refine ae.aH (b:=1) (by simp[az];omega) ?_
   refine ay.mk ⟨i+1,rfl,rfl,hlt,?_,fun x YI=>?_⟩ (by simp only[bg];omega)
   ·rw[List.take_succ_eq_append_getElem hlt,hx,List.nodup_append]
    exact⟨gW,by simp,fun a ha b hb e=>by simp at hb;subst hb;subst e;exact WE (.inr ha)⟩
   ·rw[List.take_succ_eq_append_getElem hlt,hx,List.mem_append,List.mem_singleton]at YI
    rcases YI with YI|rfl
    ·exact hin x YI
    ·omega
 ·obtain rfl:i=p.length:=by omega
  rw[List.take_length]at gW hin
  have aK:=Np gW hin
  refine h.aS (ae.lQ (b:=64) (Br.dec (fun hg=>bL.mk .tail (.inr (.inl ⟨rfl,aK,hg⟩))) (fun hg=>bL.mk .tail (.inl ⟨rfl,aK,by omega⟩))))
theorem GR{B:Hp}{v:Value}{p:List Int}{x:Int}(h:cE .i64 B v p)(bD:p.length<4611686018427387904):Rd Tryz.prog 179 #[v,.int .i64 x] B (· =.int .i64 (if x∈p then((p.idxOf x:Nat):Int)else-1)):=by
 intro g
 refine DZ (R:=aE _) ?_
 unfold L179
 refine h.aS ?_
 refine⟨fun vs H=>∃i:Nat,vs=[.int .i64 (i:Int)]∧H=B∧i≤p.length∧x∉p.take i,fun vs _=>p.length-bg vs 0,JE.mk ⟨0,rfl,rfl,Nat.zero_le _,by simp⟩,?_⟩
 rintro w H ⟨i,hv,rfl,hi,hq⟩ gs
 simp only[List.cons.injEq,and_true]at hv
 subst hv
 refine ae.dL (Br.dec (fun hlt=>?_) (fun hlt=>?_))
 ·refine h.ld (List.getElem?_eq_getElem hlt) (fun _ h=>h) ?_
  refine ae.kJ (Br.dec (fun he=>bL.mk (.refl _) ?_) (fun he=>?_))
  ·rw[if_pos (by rw[he];exact List.getElem_mem hlt),zf hq hlt he.symm]
  ·refine ae.aH (b:=1) (by simp[az];omega) ?_
   refine ay.of (.refl _) ⟨i+1,rfl,rfl,hlt,?_⟩ (by simp only[bg];omega)
   rw[List.take_succ_eq_append_getElem hlt,List.mem_append,List.mem_singleton]
   rintro(h|h)
   ·exact hq h
   ·exact he h
 ·refine bL.mk (.refl _) ?_
  rw[List.take_of_length_le (by omega)]at hq
  rw[if_neg hq]
theorem Qu{B:Hp}{v1 v2:Value}{p q:List Nat}{n:Nat}(h1:cE .i64 B v1 (iw p))(h2:cE .i64 B v2 (iw q))(hp:p.Perm (List.range n))(hq:q.Perm (List.range n))(hn:n≤64):Rd Tryz.prog 178 #[v1,v2] B (· =.int .i64 0):=by
 have e1:p.length=n:=by rw[hp.length_eq,List.length_range]
 have e2:q.length=n:=by rw[hq.length_eq,List.length_range]
 intro g
 refine D0 (R:=aE _) ?_
 unfold L178
 refine ag.rd .here (qi h1 (by rw[an];omega)) ?_
 rintro v (⟨rfl,_,_⟩|⟨_,_,hl⟩|⟨_,hno⟩)
 rotate_left
 ·rw[an]at hl;omega
 ·exact absurd (mP hp) hno
 refine ag.rd .here (qi h2 (by rw[an];omega)) ?_
 rintro v (⟨rfl,_,_⟩|⟨_,_,hl⟩|⟨_,hno⟩)
 rotate_left
 ·rw[an]at hl;omega
 ·exact absurd (mP hq) hno
 refine ae.kJ ?_
 refine cv.or false (fun _=>ae.kJ ⟨rfl,rfl⟩) rfl fun gs=>?_
 refine cv.or false (fun _=>?_) rfl fun gs=>Br.no ?_
 ·refine h1.aS (h2.aS (ae.ql ⟨rfl,?_⟩))
  rw[an,an,decide_eq_false (by omega)]
 ·exact⟨.i64,0,0,rfl,rfl,bL.mk (.refl _) rfl⟩
end Go.Proofs
namespace Go.Sx
open Go
section
variable {P:Program} {g:Gh} {H:Hp}
theorem ax.S7{t e:TypeId}{z:Value}{a b c d:Value}{K:Value→Hp→Prop}(h1:P.underlying t=some (.slice e))(h2:dK P e=some 2)(h3:fj P e=some z)
 (h:∀x,K (.slice (some ⟨x,0,Option.none⟩) 2 2) ((x,.cells (rows [[a,b],[c,d]]) e (0,0))::H)):ax P t 2 [(0,.agg #[a,b]),(1,.agg #[c,d])] H K:=by
 refine⟨rows [[a,b],[c,d]],e,2,z,h1,h2,h3,by decide,?_,fun b _=>h b⟩
 have e1:Array.range (2*2)=#[0,1,2,3]:=rfl
 simp[Instr.fill,Value.cells,rows,e1]
theorem ax.S6{t e:TypeId}{z:Value}{a b c d x y:Value}{K:Value→Hp→Prop}(h1:P.underlying t=some (.slice e))(h2:dK P e=some 2)(h3:fj P e=some z)
 (h:∀u,K (.slice (some ⟨u,0,Option.none⟩) 3 3) ((u,.cells (rows [[a,b],[c,d],[x,y]]) e (0,0))::H)):ax P t 3 [(0,.agg #[a,b]),(1,.agg #[c,d]),(2,.agg #[x,y])] H K:=by
 refine⟨rows [[a,b],[c,d],[x,y]],e,2,z,h1,h2,h3,by decide,?_,fun b _=>h b⟩
 have e1:Array.range (3*2)=#[0,1,2,3,4,5]:=rfl
 simp[Instr.fill,Value.cells,rows,e1]
theorem ax.VT{t e:TypeId}{kd:IntKind}{x y z u:Int}{K:Value→Hp→Prop}(h1:P.underlying t=some (.slice e))(h2:dK P e=some 1)(h3:fj P e=some (.int kd 0))
 (h:∀b,K (.slice (some ⟨b,0,Option.none⟩) 4 4) ((b,.cells (aF kd [x,y,z,u]) e (0,0))::H)):ax P t 4 [(0,.int kd x),(1,.int kd y),(2,.int kd z),(3,.int kd u)] H K:=by
 refine⟨aF kd [x,y,z,u],e,1,_,h1,h2,h3,by decide,?_,fun b _=>h b⟩
 have e1:Array.range (4*1)=#[0,1,2,3]:=rfl
 simp[Instr.fill,Value.cells,aF,e1]
theorem aR.made{T:TypeId}{k b:Nat}(rs:List (List Value))(h:∀r∈rs,r.length=k):aR T k (.slice (some ⟨b,0,none⟩) rs.length rs.length) rs [(b,.cells (rows rs) T (0,0))]:=
 .inr ⟨b,[],by simp,by simp,by simpa using h⟩
end
end Go.Sx
