import Derived.Test.YtpndkbhmngcmfaaGreatDoorL1
import Derived.Laws.StructEq
import Derived.ChangeKeysEq
import Derived.Defers
import Derived.Recover
import Derived.Test.YtpndkbhmngcmfaaGreatDoorProg
import Derived.RangeFuncIn
import Derived.RangeFuncLeaves
import Derived.RangeFuncRecord
import Derived.RangeFuncSeq
import Derived.Sort.AssemblyPlain
set_option linter.unusedVariables false
set_option linter.unusedSimpArgs false
set_option linter.unusedSectionVars false
namespace Go.Sx
open Go
section
variable {P:Program} {g:Gh} {H:Hp}
def m4(P:Program)(t:TypeId)(x y:zV):Prop:=
 (∃q a b,P.underlying t=some (.int q)/\x=.int q a/\y=.int q b)\/(∃a b,P.underlying t=some .bool/\x=.bool a/\y=.bool b)
theorem m4.eq{t:TypeId}{x y:zV}(h:m4 P t x y)(d:Nat)(w:World):∃b,(Op.equalIn (d+1) t x y).run P w=.ok b w/\(b=true↔x=y):=by
 rcases h with⟨q,a,b,hu,rfl,rfl⟩|⟨a,b,hu,rfl,rfl⟩
 ·exact⟨a==b,by simp[Op.equalIn,run_underlying hu],by simp⟩
 exact⟨a==b,by simp[Op.equalIn,run_underlying hu],by simp⟩
theorem iP{t:TypeId}{xs:Array zV}{o:Nat}{x:zV}(hu:(∃q,P.underlying t=some (.int q))\/P.underlying t=some .bool)(h:xs[o]? =some x)(w:World):(part t xs o).run P w=.ok x w:=by
 rcases hu with⟨q,hu⟩|hu<;>simp[part,isAgg,run_underlying hu,h]
theorem iE(d:Nat)(xs ys:Array zV)(w:World):∀fs:List Field,(∀f∈fs,f.name≠ "_" /\∃x y,xs[f.offset]? =some x/\ys[f.offset]? =some y/\m4 P f.type x y)->
  ∃b,(Op.eqFields (d+1) xs ys fs).run P w=.ok b w/\(b=true↔∀f∈fs,xs[f.offset]? =ys[f.offset]?)
 | [],_=>⟨true,by simp[Op.eqFields],by simp⟩
 |f::fs,h=>by
  obtain⟨hn,x,y,hx,hy,hp⟩:=h f zI;obtain⟨b',ih,hb'⟩:=iE d xs ys w fs λg hg=>h g (by simp[hg]);have hu:(∃q,P.underlying f.type=some (.int q))\/P.underlying f.type=some .bool:=by
   rcases hp with⟨q,_,_,hu,_⟩|⟨_,_,hu,_⟩
   ·exact .inl ⟨q,hu⟩
   exact .inr hu
  obtain⟨b,hr,hb⟩:=hp.eq d w;have p1:=iP hu hx w;have p2:=iP hu hy w;cases b with
  |false=>
   refine⟨false,by simp[Op.eqFields,hn,p1,p2,hr],?_⟩;simp only[xas,xag,forall_eq_or_imp,false_iff,hx,hy,xao];exact λhh=>absurd (hb.2 hh.1) zD
  |true=>
   refine⟨b',by simp[Op.eqFields,hn,p1,p2,hr,ih],?_⟩;rw[hb'];simp only[xag,forall_eq_or_imp,hx,hy,xao,hb.1 rfl,xdw]
theorem vN.flat{t:TypeId}{fs:Array Field}(ht:P.underlying t=some (.struct fs))(hp:P.stoodInHeld t=false){xs ys:Array zV}{p:Prop}[Decidable p]
 (h:∀f∈fs.toList,f.name≠ "_" /\∃x y,xs[f.offset]? =some x/\ys[f.offset]? =some y/\m4 P f.type x y)(he:(∀f∈fs.toList,xs[f.offset]? =ys[f.offset]?)↔p):vN P t (.agg xs) (.agg ys) (decide p):=by
 have e:P.fieldsOf t=fs:=by simp[Program.fieldsOf,ht]
 intro w;show(Op.equalIn (9998+1+1) t _ _).run P w=_;rw[run_equalIn_struct w (9998+1) t xs ys (by rw[e];exact ht) hp,e];obtain⟨b,hr,hb⟩:=iE (P:=P) 9998 xs ys w fs.toList h;rw[hr];congr 1;rw[xcH,hb,he,xaH]
theorem jf.flat{t:TypeId}{fs:Array Field}(ht:P.underlying t=some (.struct fs)){xs:Array zV}
 (h:∀f∈fs.toList,f.name≠ "_" /\∃x,xs[f.offset]? =some x/\m4 P f.type x x):jf P t (.agg xs):=by
 intro b w;have gen:∀d,(Instr.checkKey b (d+1+1) t (.agg xs)).run P w=.ok () w:=by
  intro d;unfold Instr.checkKey;simp only[Sem.run_bind,run_underlying ht,Result.andThen_ok];rw[<-Array.forIn_toList];clear ht;generalize fs.toList=l at h;induction l with
  |nil=>simp
  |cons f l ih=>
   obtain⟨hn,x,hx,hp⟩:=h f zI;have hu:(∃q,P.underlying f.type=some (.int q))\/P.underlying f.type=some .bool:=by
    rcases hp with⟨q,_,_,hu,_⟩|⟨_,_,hu,_⟩
    ·exact .inl ⟨q,hu⟩
    exact .inr hu
   have p1:=iP hu hx w;have p2:(Instr.checkKey b (d+1) f.type x).run P w=.ok () w:=by
    rcases hp with⟨q,a,_,hu,rfl,_⟩|⟨a,_,hu,rfl,_⟩
    ·simp only[Instr.checkKey,Sem.run_bind,run_underlying hu,Result.andThen_ok,Sem.run_pure]
    simp only[Instr.checkKey,Sem.run_bind,run_underlying hu,Result.andThen_ok,Sem.run_pure]
   have:=ih λg hg=>h g (by simp[hg]);simp only[xdB,Sem.run_bind];simp[hn,p1,p2];simpa using this
 exact gen 9998
theorem ik(n:Nat){xs:Array zV}(h:∀x∈xs.toList,(∃q a,x=.int q a)\/∃a,x=.bool a):Instr.sameBits (n+1+1) (.agg xs) (.agg xs)=true:=by
 simp only[Instr.sameBits,beq_self_eq_true,xcE,xb9];intro x hx;obtain⟨a,b⟩:=x;have h1:=List.of_mem_zip hx;have e:a=b:=by
  obtain⟨i,hi,he⟩:=xcC.1 hx;simp at he;exact he.1.symm.trans he.2
 subst e;rcases h a h1.1 with⟨q,z,rfl⟩|⟨z,rfl⟩<;>simp[Instr.sameBits]
end
section
variable {κ:Type} [DecidableEq κ] {β:Type} {ke:κ->zV} {vr:zV->β->Prop} {es:Array MapEntry} {ck b:Nat} {m:List (κ×β)} {P:Program} {H:Hp}
def nF(m:List (κ×β))(k:κ):List (κ×β):=m.filter λy=>¬y.1=k
theorem ob{k k':κ}:bR (nF m k) k'=if k'=k then none else bR m k':=by
 unfold bR nF;rw[List.find?_filter];by_cases e:k'=k
 ·rw[xaf e];rw[xdn.2]
  ·rfl
  intro x _;simp;intro h1 h2;exact h1 (h2.trans e)
 rw[xac e];congr 1;congr 1
 funext y
 by_cases e2:y.1=k'
 ·have:¬y.1=k:=λe3=>e (e2.symm.trans e3);simp[e2,this,e]
 simp[e2]
theorem oa{k k':κ}{x:β}:bR (cE m k x) k'=if k'=k then some x else bR m k':=by
 unfold bR cE;by_cases hk:k∈m.map Prod.fst
 ·rw[xaf hk];by_cases e:k'=k
  ·subst e;rw[xaf rfl];induction m with
   |nil=>simp at hk
   |cons y m ih=>
    rw[xay,xbB];by_cases ey:y.1=k'
    ·simp[ey]
    rw[xac ey];simp only[ey,xc8];rw[ih];rw[xay]at hk;rcases xag.1 hk with h|h
    ·exact absurd h.symm ey
    simpa using h
  rw[xac e];have:∀l:List (κ×β),(List.find? (λy=>decide (y.1=k')) (l.map λy=>if y.1=k then(k,x)else y)).map Prod.snd=(List.find? (λy=>decide (y.1=k')) l).map Prod.snd:=by
   intro l;induction l with
   |nil=>rfl
   |cons y l ih=>
    rw[xay,xbB,xbB];by_cases ey:y.1=k
    ·have h1:decide (k=k')=false:=by simpa using λh=>e h.symm
     have h2:decide (y.1=k')=false:=by rw[ey];exact h1
     simp only[xaf ey,h1,h2];exact ih
    simp only[xac ey];cases decide (y.1=k')with
    |true=>rfl
    |false=>exact ih
  exact this m
 rw[xac hk];rw[List.find?_append];by_cases e:k'=k
 ·subst e;have:List.find? (λy=>decide (y.1=k')) m=none:=by
   rw[xdn];intro y hy;simp;intro h;exact hk (xaq.2 ⟨y,hy,h⟩)
  simp[this]
 have:¬k=k':=λh=>e h.symm;rw[xac e];cases List.find? (λy=>decide (y.1=k')) m<;>simp[this]
theorem r9(nd:(m.map Prod.fst).Nodup){i:Nat}{k:κ}{y:β}(hi:m[i]? =some (k,y)):nF m k=m.eraseIdx i:=by
 unfold nF;induction m generalizing i with
 |nil=>simp at hi
 |cons z m ih=>
  rw[xay,xa1]at nd;cases i with
  |zero=>
   simp at hi;subst hi;rw[List.eraseIdx_cons_zero,List.filter_cons_of_neg zI];rw[List.filter_eq_self];intro w hw;simp only[decide_not,xbg,xaV];intro e;exact nd.1 (xaq.2 ⟨w,hw,e⟩)
  |succ i=>
   simp at hi;have hz:¬z.1=k:=λe=>nd.1 (xaq.2 ⟨_,xaI hi,e.symm⟩);rw[List.eraseIdx_cons_succ,List.filter_cons_of_pos (by simpa using hz),ih nd.2 hi]
omit [DecidableEq κ] in
theorem br.less(h:br ke vr es ck m)(i:Nat):br ke vr (es.eraseIdxIfInBounds i) ck (m.eraseIdx i):=by
 have hl:(es.eraseIdxIfInBounds i).toList=es.toList.eraseIdx i:=by
  unfold Array.eraseIdxIfInBounds;split
  ·simp
  rename_i hh;rw[List.eraseIdx_of_length_le (by simpa using hh)]
 refine⟨?_,λj e x he hx=>?_,?_,?_,λe he=>?_⟩
 ·have:=xb7 List.length hl;rw[xbD,List.length_eraseIdx]at this;rw[this,List.length_eraseIdx,xbD,h.len]
 ·rw[<-xa7,hl,List.getElem?_eraseIdx]at he;rw[List.getElem?_eraseIdx]at hx;split at he
  ·rename_i hh;rw[xaf hh]at hx;exact h.key j e x (by simpa using he) hx
  rename_i hh;rw[xac hh]at hx;exact h.key (j+1) e x (by simpa using he) hx
 ·rw[<-fV];exact h.nd.sublist (List.eraseIdx_sublist _ _)
 ·rw[hl,<-fV];exact h.born.sublist (List.eraseIdx_sublist _ _)
 rw[hl]at he;exact h.lt e (List.mem_of_mem_eraseIdx he)
theorem br.LU{P:Program}{kt:TypeId}{k:κ}{K:Hp->Prop}(hk:∀a b,vN P kt (ke a) (ke b) (decide (a=b)))(hc:∀a,jf P kt (ke a))(h:br ke vr es ck m)(hm:(b,Obj.map es ck)∈H)
 (h1:∀es',br ke vr es' ck (nF m k)->∃H',bW b (.map es ck) (.map es' ck) H H'/\K H'):jR P kt H (.map (some b)) (ke k) K:=by
 refine⟨hc k,.inr ?_⟩;rcases h.vz hk k with⟨i,y,e,g1,g2,g3,g4⟩|⟨g1,g2⟩
 ·refine⟨b,es,ck,_,rfl,g4,?_⟩;have:=h.less i;rw[<-r9 h.nd g2]at this;exact h1 _ this
 refine⟨b,es,ck,_,rfl,g2,hm,?_⟩;have e:nF m k=m:=by
  unfold nF;rw[List.filter_eq_self];intro w hw;simp only[decide_not,xbg,xaV];intro e;exact g1 (xaq.2 ⟨w,hw,e⟩)
 obtain⟨H',hu,hK⟩:=h1 es (by rw[e];exact h);have:∀{H H':Hp},bW b (.map es ck) (.map es ck) H H'->H'=H:=by
  intro H H' hu;generalize ho:Obj.map es ck=o at hu;induction hu with
  |head R=>rfl
  |tail _ ih=>rw[ih]
 rw[this hu]at hK;exact hK
end
section
variable {P:Program} {H:Hp}
theorem aC.u6{T:TypeId}{k:Nat}{v:zV}{rs:List (List zV)}{C:Hp}(hs:aC T k v rs C){i:Nat}{kd:IntKind}{r:List zV}(hr:rs[i]? =some r)(hC:∀y∈C,y∈H){K:zV->Prop}(hk:K (.agg r.toArray)):
  ai k v (.int kd (i:Int)) λp=>aA k H p K:=by
 have hi:=(xae.1 hr).1;obtain⟨b',ax,rfl,rfl,aL⟩:=hs.pos zO;exact ai.nat hi (aA.row (hC _ (List.Mem.head _)) aL (by rw[xaM hi];exact hr) hk)
theorem aC.E6{T:TypeId}{k:Nat}{v x:zV}{rs:List (List zV)}{C:Hp}(hs:aC T k v rs C){i j:Nat}{kd:IntKind}{r:List zV}(hr:rs[i]? =some r)(hj:r[j]? =some x)(hC:∀y∈C,y∈H){K:zV->Prop}(hk:K x):
  ai k v (.int kd (i:Int)) λp=>ah j p λq=>Ld H q K:=by
 have hi:=(xae.1 hr).1;obtain⟨b',ax,rfl,rfl,aL⟩:=hs.pos zO;exact ai.nat hi (ah.mk (Ld.row (hC _ (List.Mem.head _)) aL (by rw[xaM hi];exact hr) hj hk))
theorem aC.Gc{T:TypeId}{v x:zV}{rs:List (List zV)}{C:Hp}(hs:aC T 1 v rs C){i:Nat}{kd:IntKind}(hr:rs[i]? =some [x])(hC:∀y∈C,y∈H){K:zV->Prop}(hk:K x):
  ai 1 v (.int kd (i:Int)) λp=>Ld H p K:=by
 have hi:=(xae.1 hr).1;obtain⟨b',ax,rfl,rfl,aL⟩:=hs.pos zO;exact ai.nat hi (Ld.GW (l:=rs++ax) (hC _ (List.Mem.head _)) aL (by rw[xaM hi];exact hr) hk)
theorem aC.E5{T:TypeId}{k n:Nat}{v:zV}{rs:List (List zV)}{C:Hp}(hs:aC T k v rs C){i:Nat}{kd:IntKind}{r:List zV}(hr:rs[i]? =some r)(hn:0<n/\n<=k)(hC:∀y∈C,y∈H){K:zV->Prop}(hk:K (.agg (r.take n).toArray)):
  ai k v (.int kd (i:Int)) λp=>ah 0 p λq=>aA n H q K:=by
 have hi:=(xae.1 hr).1;obtain⟨b',ax,rfl,rfl,aL⟩:=hs.pos zO;have Qk:r.length=k:=aL r (xad _ (xaI hr));refine ai.nat hi (ah.mk ?_);have ON:At H (.pointer (some ⟨b',0+i*k+0,none⟩)) (r.take n):=⟨b',_,_,_,_,rfl,hC _ (List.Mem.head _),λj x hj=>by
  have Ft:j<n:=by have:=(xae.1 hj).1;simp at this;omega
  rw[List.getElem?_take,xaf Ft]at hj;rw[xcr,xaW,dI aL zO,xaM hi,hr];exact hj⟩
 exact aA.at ON zP hn.1 (λ_ h=>h) hk
theorem aC.zk{T:TypeId}{k:Nat}{v:zV}{rs:List (List zV)}{C A B:Hp}(hs:aC T k v rs C){i:Nat}{kd:IntKind}{xs:List zV}(hi:i<rs.length)(hx:xs.length=k)(h1:∀x∈xs,x.oneCell'=true){K:Hp->Prop}
 (hk:∀C',aC T k v (rs.set i xs) C'->K (A++(C'++B))):ai k v (.int kd (i:Int)) λp=>St k (A++(C++B)) p (.agg xs.toArray) K:=by
 obtain⟨b',ax,rfl,rfl,aL⟩:=hs.pos zO;refine ai.nat hi (St.row (l:=rs++ax) (((bW.head _).append B).aB A) aL zP hx h1 ?_);have e:(rs++ax).set i xs=rs.set i xs++ax:=by rw[xdd _ _ hi]
 rw[e];refine hk [(b',_)] (aC.mk' (ax:=ax) (λy hy=>?_) zI zI);rcases xav.1 hy with hy|hy
 ·rcases xcG hy with hy|rfl
  ·exact aL y (xad _ hy)
  exact hx
 exact aL y (xaa _ hy)
theorem aR.ld{T:TypeId}{kd rQ:IntKind}{v:zV}{l:List Int}{C:Hp}(hs:aR T kd v l C){i:Nat}{x:Int}(hx:l[i]? =some x)(hC:∀y∈C,y∈H){K:zV->Prop}(hk:K (.int kd x)):ai 1 v (.int rQ (i:Int)) λp=>Ld H p K:=
 aC.Gc hs (x:=.int kd x) (by simp[hx]) hC hk
theorem aR.put{T:TypeId}{kd rQ:IntKind}{v:zV}{l:List Int}{C A B:Hp}(hs:aR T kd v l C){i:Nat}{x:Int}(hi:i<l.length){K:Hp->Prop}
 (hk:∀C',aR T kd v (l.set i x) C'->K (A++(C'++B))):ai 1 v (.int rQ (i:Int)) λp=>St 1 (A++(C++B)) p (.int kd x) K:=by
 have hi':i<(l.map λn=>[Value.int kd n]).length:=by simpa using hi
 obtain⟨b',ax,rfl,rfl,aL⟩:=aC.pos hs zO;refine ai.nat hi' ?_;refine St.cell (l:=l.map (λn=>[Value.int kd n])++ax) (i:=i) (k:=1) (j:=0) (r:=[.int kd l[i]]) (((bW.head _).append B).aB A) aL (by rw[xaM hi'];simp[hi]) zO rfl ?_;have e:(l.map (λn=>[Value.int kd n])++ax).set i ([Value.int kd l[i]].set 0 (.int kd x))=(l.set i x).map (λn=>[Value.int kd n])++ax:=by
  rw[xdd _ _ hi',xdc];rfl
 rw[e];refine hk [(b',_)] (aC.mk' (ax:=ax) (λr hr'=>?_) zI zI);rcases xav.1 hr' with hr'|hr'
 ·obtain⟨y,_,rfl⟩:=xaq.1 hr';rfl
 exact aL r (xaa _ hr')
theorem aN.nil{H:Hp}:aN H []:=λ_ _ h=>h.e8
theorem aC.cut{T:TypeId}{k i:Nat}{v:zV}{rs:List (List zV)}{C:Hp}(hs:aC T k v rs C)(hi:i<=rs.length){kd:IntKind}{K:zV->Prop}(hk:∀v',aC T k v' (rs.take i) C->K v'):
  bT k v none (some (.int kd (i:Int))) K:=by
 by_cases hp:0<rs.length
 ·obtain⟨b',ax,rfl,rfl,aL⟩:=hs.pos hp;refine bT.upto zO (hk _ ?_);have e:rs++ax=rs.take i++(rs.drop i++ax):=by rw[<-xat,xbK]
  rw[e]at aL⊢;exact aC.mk' aL zP zP
 obtain rfl:rs=[]:=xbU zO;obtain rfl:i=0:=by simpa using hi
 obtain⟨a,c,rfl⟩:=hs.len;exact bT.upto (xaB _) (hk _ (by simpa using hs))
theorem aR.cut{T:TypeId}{kd rQ:IntKind}{i:Nat}{v:zV}{l:List Int}{C:Hp}(hs:aR T kd v l C)(hi:i<=l.length){K:zV->Prop}(hk:∀v',aR T kd v' (l.take i) C->K v'):
  bT 1 v none (some (.int rQ (i:Int))) K:=
 aC.cut hs (by simpa using hi) λv' h=>hk v' (by unfold aR;rw[List.map_take];exact h)
end
end Go.Sx
namespace Go.Sx
open Go
section
variable {P:Program} {H C:Hp} {c:Hp->Hp}
theorem bu.split(h:bu C H c):∃A B,∀X,c X=A++(X++B):=by
 induction h with
 |here=>exact⟨[],[],λX=>by simp⟩
 | @left A=>exact⟨[],A,λX=>rfl⟩
 | @cons x H c h ih=>
  obtain⟨A,B,e⟩:=ih;exact⟨x::A,B,λX=>by show x::c X=_;rw[e];rfl⟩
 | @app A' H c h ih=>
  obtain⟨A,B,e⟩:=ih;exact⟨A'++A,B,λX=>by show A'++c X=_;rw[e,xat]⟩
theorem bu.sub(h:bu C H c):∀x∈C,x∈H:=λx hx=>by
 obtain⟨A,B,e⟩:=h.split;rw[h.spec.1,e];exact xaa _ (xad _ hx)
theorem bu.bX{b:Nat}{o o':Obj}{C':Hp}(h:bu C H c)(u:bW b o o' C C'):bW b o o' H (c C'):=by
 obtain⟨A,B,e⟩:=h.split;rw[h.spec.1,e,e];exact(u.append B).aB A
theorem aC.nP{elem k bytes:Nat}{zero:zV}{v:zV}{rs:List (List zV)}(h:aC elem k v rs C)(hh:bu C H c){xb:Nat}{r:List zV}{xT:TypeId}{fz:Nat×Nat}{xc:Nat}
 (hx:(xb,Obj.cells r.toArray xT fz)∈H)(hr:r.length=k)(h1:∀u∈r,u.oneCell'=true)(hz:∃z:List zV,zero.cells=z.toArray/\z.length=k)
 (hb:(rs.length+1)*bytes<=140737488355328)(mI:rs.length+1<=9223372036854775807){K:zV->Hp->Prop}
 (hk:∀v' C',aC elem k v' (rs++[r]) C'->K v' (c C')):App P elem k bytes zero H v (.slice (some ⟨xb,0,none⟩) 1 xc) K:=by
 obtain⟨A,B,e⟩:=hh.split;have e2:=hh.spec.1;rw[e]at e2;subst e2;exact h.DF hx hr h1 hz hb mI λv' C' ho=>by have:=hk v' C' ho;rwa [e]at this
theorem aR.nP{T:TypeId}{kd:IntKind}{v:zV}{l:List Int}{bytes:Nat}(h:aR T kd v l C)(hh:bu C H c){xb xc:Nat}{x:Int}{xT:TypeId}{fz:Nat×Nat}(hx:(xb,Obj.cells (an kd [x]) xT fz)∈H)
 (hb:(l.length+1)*bytes<=140737488355328)(hm:l.length+1<=9223372036854775807){K:zV->Hp->Prop}(hk:∀v' C',aR T kd v' (l++[x]) C'->K v' (c C')):App P T 1 bytes (.int kd 0) H v (.slice (some ⟨xb,0,none⟩) 1 xc) K:=by
 obtain⟨A,B,e⟩:=hh.split;have e2:=hh.spec.1;rw[e]at e2;subst e2;exact h.app hx hb hm λv' C' ho=>by have:=hk v' C' ho;rwa [e]at this
theorem aR.EF{T:TypeId}{kd:IntKind}{v x:zV}{l l2:List Int}{bytes:Nat}(h:aR T kd v l C)(hh:bu C H c)(hx:eV kd H x l2)
 (hb:(l.length+l2.length)*bytes<=140737488355328)(hm:l.length+l2.length<=9223372036854775807){K:zV->Hp->Prop}(hk:∀v' C',aR T kd v' (l++l2) C'->K v' (c C')):App P T 1 bytes (.int kd 0) H v x K:=by
 obtain⟨A,B,e⟩:=hh.split;have e2:=hh.spec.1;rw[e]at e2;subst e2;exact h.apps hx hb hm λv' C' ho=>by have:=hk v' C' ho;rwa [e]at this
theorem aR.o8{T:TypeId}{kd rQ:IntKind}{v:zV}{l:List Int}(hs:aR T kd v l C)(hh:bu C H c){i:Nat}{x:Int}(hi:i<l.length){K:Hp->Prop}
 (hk:∀C',aR T kd v (l.set i x) C'->K (c C')):ai 1 v (.int rQ (i:Int)) λp=>St 1 H p (.int kd x) K:=by
 obtain⟨A,B,e⟩:=hh.split;have e2:=hh.spec.1;rw[e]at e2;subst e2;exact hs.put hi λC' ho=>by have:=hk C' ho;rwa [e]at this
theorem aR.one{T:TypeId}{kd:IntKind}{v:zV}{l:List Int}(h:aR T kd v l C):v.oneCell'=true:=by obtain⟨a,c,e⟩:=aC.len h;rw[e];rfl
theorem fc(l:zL)(i x:Nat):(iw l).set i (x:Int)=iw (l.set i x):=by unfold iw;rw[xdc]
theorem dy(a b:zL):iw (a++b)=iw a++iw b:=by unfold iw;rw[xau]
theorem cc{l:zL}{i:Nat}(h:i<l.length):(iw l)[i]? =some ((l.getD i 0:Nat):Int):=by
 rw[gI (xab h)];simp[List.getD,xab h]
end
end Go.Sx
namespace Go.Sx
open Go
theorem fx{p:Nat->Prop}(h:∃k,p k):∃k,p k/\∀j,p j->k<=j:=by
 obtain⟨k,hk⟩:=h;induction k using Nat.strongRecOn with
 |_ k ih=>
  by_cases e:∃j,j<k/\p j
  ·obtain⟨j,hj,hp⟩:=e;exact ih j hj hp
  exact⟨k,hk,λj hp=>xca λhlt=>e ⟨j,hlt,hp⟩⟩
open Classical in
noncomputable def gF(J:Nat->List zV->Hp->Prop)(vs:List zV)(H:Hp):Nat:=if h:∃k,J k vs H then Classical.choose (fx h)else 0
theorem wD{J:Nat->List zV->Hp->Prop}{vs:List zV}{H:Hp}{k:Nat}(h:J k vs H):gF J vs H<=k:=by
 unfold gF;rw[dif_pos ⟨k,h⟩];exact(xbZ (fx ⟨k,h⟩)).2 k h
theorem qL{J:Nat->List zV->Hp->Prop}{vs:List zV}{H:Hp}(h:∃k,J k vs H):J (gF J vs H) vs H:=by
 unfold gF;rw[dif_pos h];exact(xbZ (fx h)).1
def gS(J:Nat->List zV->Hp->Prop):List zV->Hp->Prop:=λvs H=>∃k,J k vs H
theorem gS.open{J:Nat->List zV->Hp->Prop}{vs:List zV}{H:Hp}(h:gS J vs H):∃k,J k vs H/\k=gF J vs H:=⟨_,qL h,rfl⟩
theorem gS.mk{J:Nat->List zV->Hp->Prop}{vs:List zV}{H:Hp}(k:Nat)(h:J k vs H):JE (gS J) vs H:=JE.mk ⟨k,h⟩
theorem gS.back{J:Nat->List zV->Hp->Prop}{vs vs':List zV}{H H' H0:Hp}{k:Nat}(e:aN H H')(hk:k=gF J vs H0)(k':Nat)(h:J k' vs' H')(hlt:k'<k):aI (gS J) (gF J) vs' H vs H0:=
 aI.of e ⟨k',h⟩ (xbk (wD h) zO)
theorem Hf{vs:List zV}{H:Hp}{Q:(List zV->Hp->Prop)->(List zV->Hp->Nat)->Prop}(J:Nat->List zV->Hp->Prop)(k:Nat)(h:J k vs H)(hq:Q (gS J) (gF J)):
  ∃(I:List zV->Hp->Prop) (m:List zV->Hp->Nat),JE I vs H/\Q I m:=⟨_,_,gS.mk k h,hq⟩
section
variable {P:Program} {H:Hp}
theorem aj.Eb{t e:Nat}{kd:IntKind}{x y:Int}{K:zV->Hp->Prop}(h1:P.underlying t=some (.slice e))(h2:bL P e=some 1)(h3:c8 P e=some (.int kd 0))
 (h:∀b,K (.slice (some ⟨b,0,Option.none⟩) 2 2) ((b,.cells (an kd [x,y]) e zZ)::H)):aj P t 2 [(0,.int kd x),(1,.int kd y)] H K:=by
 refine⟨an kd [x,y],e,1,_,h1,h2,h3,by decide,?_,λb _=>h b⟩;have e1:Array.range (2*1)=#[0,1]:=rfl;simp[Instr.fill,Value.cells,an,e1]
theorem wc(kd:IntKind)(l:List Int):rows (l.map λn=>[Value.int kd n])=an kd l:=by
 unfold rows an;congr 1;induction l with
 |nil=>rfl
 |cons x l ih=>rw[xay,xbz,ih];rfl
theorem aR.made{T:TypeId}{kd:IntKind}{b:Nat}(l:List Int):aR T kd (.slice (some ⟨b,0,none⟩) l.length l.length) l [(b,.cells (an kd l) T zZ)]:=by
 have:=aC.mk' (T:=T) (k:=1) (b:=b) (n:=l.length) (c:=l.length) (rs:=l.map λn=>[Value.int kd n]) (ax:=[]) (λr hr=>by
  rw[xaT]at hr;obtain⟨x,_,rfl⟩:=xaq.1 hr;rfl) zI zI
 rw[xaT,wc]at this;exact this
end
end Go.Sx
namespace Go.Sx
open Go
section
variable {P:Program} {g:Gh}
structure nj where
 f:FuncId
 l:List zV
def g6(P:Program)(g:Gh)(f:FuncId)(args:Array zV)(H:Hp)(R:Ending->Hp->Prop):Prop:=
 ∀w,Own g H w->∀u,CallsD P f args u w λe u' w'=>u'=u/\∃H',Own g H' w'/\R e H'
def gu(P:Program)(g:Gh)(f:FuncId)(args:Array zV)(H:Hp)(K:Hp->Prop):Prop:=g6 P g f args H λe H'=>(∃v,e=.returned v)/\K H'
def yZ(P:Program)(g:Gh)(K:Hp->Prop):List nj->Hp->Prop
 | [],H=>K H
 |x::r,H=>gu P g x.f x.l.toArray H (yZ P g K r)
def DQ(P:Program)(o:Oper)(ρ:Operand->zV)(k:nj->Prop):Prop:=
 match o.op with
 | .defer c=>match c.callee with
  | .value x=>match ρ x with
   | .func (.func f) first cap=>cond (bA P f) (k ⟨f,first.toList++(c.args.toList.map ρ++cap.toList)⟩) False
   |_=>False
  |_=>False
 |_=>False
def u7:Code->Option (Array Oper×Oper)
 | .region _ ops false=>match ops.toList.getLast? with
  |some o=>match o.op with
   | .defer _=>some (ops,o)
   |_=>none
  |none=>none
 |_=>none
def A8(P:Program)(g:Gh)(fn:Func)(R:Ending->Hp->Prop)(dl:List nj):Exit->Fr->Hp->Prop
 | .normal,fr,H=>yZ P g (λH'=>iL P fr H' fn.results.toList λvs=>R (.returned (mg vs)) H') dl H
 | .ret,fr,H=>yZ P g (λH'=>iL P fr H' fn.results.toList λvs=>R (.returned (mg vs)) H') dl H
 |_,_,_=>False
def sE(P:Program)(g:Gh)(n:Nat)(E:List nj->Exit->Fr->Hp->Prop):Code->Hn->List nj->Fr->Hp->Prop
 | .seq x y,hn,dl,fr,H=>
  match u7 x with
  |some (ops,o)=>cond (o.dst.isNone&&o.guard.isNone)
    (cf P g n ops false (ops.toList.length+1) false none [] ops.toList.dropLast fr H (λ_ fr' H'=>DQ P o (ev fr') λd=>sE P g n E y hn.b (d::dl) fr' H') (λ_ _=>False)) False
  |none=>match hn.m with
   |0=>den P g n x hn.a (qf (sE P g n E y hn.b dl) (E dl)) fr H
   |_=>cond (Cq x hn.I)
    (IN hn.L.length (λvs H'=>∀gs,sE P g n E y hn.b dl (mix hn.L vs hn.I fr gs) H') λJ=>den P g n x hn.a (qf (λfr' H'=>JE J (rT fr' hn.L) H') (E dl)) fr H) False
 |c,hn,dl,fr,H=>den P g n c hn (E dl) fr H
def Bd(P:Program)(g:Gh)(fn:Func)(hn:Hn)(args:List zV)(H:Hp)(R:Ending->Hp->Prop):Prop:=
 match fn.body with
 |some c=>cond (Nat.ble args.length fn.ntmps) (sE P g fn.ntmps (A8 P g fn R) c hn [] (c5 args 0) H) False
 |none=>False
def M7:List PanicEntry->Hp->Prop:=λ_ _=>∀_:Fr,False
def Mc(P:Program)(x:nj)(d:Deferred):Prop:=∃cap args,d={target:=.fn (.func x.f) cap,args:=args}/\args++cap=x.l.toArray/\bA P x.f=true
inductive kI(P:Program):List nj->List Deferred->Prop
 |nil:kI P [] []
 |cons {x d l ds} (h:Mc P x d) (hr:kI P l ds):kI P (x::l) (d::ds)
theorem me{fn:Func}{tmps:Array zV}{K:Hp->Prop}{R:Ending->World->Prop}(hK:∀H w,Own g H w->K H->∃v,(results fn tmps).run P w=.ok v w/\R (.returned v) w):
  ∀{dl:List nj} {ds:List Deferred},kI P dl ds->∀H w,Own g H w->yZ P g K dl H->Leaves P fn tmps R ds .returning w
 |_,_,.nil,H,w,hw,h=>hK H w hw h
 |_,_,.cons ⟨cap,args,hd,ha,hc⟩ hr,H,w,hw,h=>by
  subst hd;refine leaves_cons zI ?_ ((h w hw .returning).mono ?_)
  ·show(callFunc _ (args++cap)).run P w=_;rw[ha];exact cv hc _ w
  rintro e u' w' ⟨rfl,H',ho,⟨v,rfl⟩,hk⟩;exact me hK hr H' w' ho hk
theorem iW{fn:Func}{R:Ending->Hp->Prop}{n:Nat}{dl:List nj}{ds:List Deferred}(hd:kI P dl ds){e:Exit}{fr:Fr}{H:Hp}{a:Act}{w:World}(ha:aZ ds n a fr)(hw:Own g H w)(h:A8 P g fn R dl e fr H):
  bodyPostD P fn (λe w'=>∃H',Own g H' w'/\R e H') e a w:=by
 have key:∀{H},Own g H w->yZ P g (λH'=>iL P fr H' fn.results.toList λvs=>R (.returned (mg vs)) H') dl H->Leaves P fn a.tmps (λe w'=>∃H',Own g H' w'/\R e H') a.defers .returning w:=λhw h=>by
  rw[ha.defers];refine me (λH w hw h=>?_) hd _ _ hw h;obtain⟨vs,hr,hk⟩:=de ha hw h;exact⟨_,hr,H,hw,hk⟩
 cases e with
 |normal=>exact key hw h
 |ret=>exact key hw h
 |panic ch=>exact h.elim
 |exit id=>exact h.elim
 |goto l=>exact h.elim
 |outgrown=>exact h.elim
theorem mF{c:Code}{ops:Array Oper}{o:Oper}(h:u7 c=some (ops,o)):∃id d,c=.region id ops false/\ops.toList=ops.toList.dropLast++[o]/\o.op=.defer d:=by
 unfold u7 at h;split at h
 ·rename_i id ops';split at h
  ·rename_i o' ho;split at h
   ·rename_i d hd;simp only[xao,xcZ]at h;obtain⟨rfl,rfl⟩:=h;refine⟨id,d,rfl,?_,hd⟩;obtain⟨hne,e⟩:=List.getLast?_eq_some_iff.1 ho;rw[e];simp
   cases h
  cases h
 cases h
theorem rP{o:Oper}{fr:Fr}{k:nj->Prop}(h:DQ P o (ev fr) k):∃x d,k x/\Mc P x d/\∀w,(execOp (ev fr) o).run P w=.ok (.defer d) w:=by
 unfold DQ at h;split at h<;>try exact h.elim
 rename_i c hop;split at h<;>try exact h.elim
 rename_i x hc;split at h<;>try exact h.elim
 rename_i f first cap hx
 cases fH:bA P f<;>simp only[fH,xaj,xah]at h;refine⟨_,{target:=.fn (.func f) cap,args:=first++c.args.map (ev fr)},h,⟨cap,_,rfl,?_,fH⟩,λw=>?_⟩
 ·apply xch;simp
 simp only[execOp,hop,resolve,hc,hx,Deferred.ofValue,Sem.run_bind,Sem.run_pure,Result.andThen_ok]
theorem sD{n:Nat}{fn:Func}{R:Ending->Hp->Prop}:∀(c:Code) (hn:Hn) (dl:List nj) (fr:Fr) (H:Hp),sE P g n (A8 P g fn R) c hn dl fr H->∀(ds:List Deferred),kI P dl ds->∀(a:Act) (w:World),aZ ds n a fr->Own g H w->
  c.wp P (bodyPostD P fn λe w'=>∃H',Own g H' w'/\R e H') a w:=by
 have plain:∀(c:Code) (hn:Hn) (dl:List nj) (fr:Fr) (H:Hp),den P g n c hn (A8 P g fn R dl) fr H->∀(ds:List Deferred),kI P dl ds->∀(a:Act) (w:World),aZ ds n a fr->Own g H w->
   c.wp P (bodyPostD P fn λe w'=>∃H',Own g H' w'/\R e H') a w:=λc hn dl fr H h ds hd a w ha hw=>
  wp_mono (ew c hn _ fr H h a w ha hw) λe a' w' ⟨fr',H',bU,hw',_,hq⟩=>iW hd bU hw' hq
 intro c;induction c with
 |seq x y _ ih=>
  intro hn dl fr H h ds hd a w ha hw;unfold sE at h;split at h
  ·rename_i ops o hx;obtain⟨id,d,rfl,hl,hop⟩:=mF hx;cases hc:(o.dst.isNone&&o.guard.isNone)<;>simp only[hc,xaj,xah]at h;simp only[xap,Option.isNone_iff_eq_none]at hc;refine wp_seq (wp_region_list ?_);rw[hl];refine bj _ _ _ _ _ fr H _ _ h trivial (dB.nil fr) a w ha hw [o] _ ?_ ?_
   ·intro a' w' iq fr' H' bU hw' _ _ hk;refine wpList_plain hc.2 λK hK=>?_;obtain⟨x,dd,hx,hok,hrun⟩:=rP hk;show o.upon P a' K _ ((execOp a'.eval o).run P w');rw[bU.eval,hrun];refine hK _ _ ?_;refine ih _ _ fr' H' hx (dd::ds) (.cons hok hd) _ _ ?_ hw';rw[hc.1];exact⟨xb7 _ bU.defers,bU.size,bU.get⟩
   intro ch a' w' fr' H' _ _ hk;exact hk.elim
  split at h
  ·refine wp_seq (wp_mono (ew x _ _ fr H h a w ha hw) ?_);rintro e a' w' ⟨fr',H',bU,hw',ho,hq⟩;cases e with
   |normal=>exact ih _ _ fr' H' hq ds hd a' w' bU hw'
   |ret=>exact iW (e:=.ret) hd bU hw' hq
   |exit id=>exact hq.elim
   |goto l=>exact hq.elim
   |panic ch=>exact hq.elim
   |outgrown=>exact hq.elim
  ·cases hno:Cq x hn.I<;>simp only[hno,xaj,xah]at h;have h':=h (λvs H'=>∀gs,sE P g n (A8 P g fn R) y hn.b dl (mix hn.L vs hn.I fr gs) H') (nk.intro (λvs H' hh=>hh) _);refine wp_seq (wp_mono (ew x _ _ fr H h' a w ha hw) ?_);rintro e a' w' ⟨fr',H',bU,hw',ho,hq⟩;cases e with
   |normal=>
    obtain⟨Hj,hent,hq⟩:=hq;have I1:=hq fr';rw[mB λs hs=>ho rfl s (my hno s hs)]at I1;exact ih _ _ fr' Hj I1 ds hd a' w' bU (hent _ _ hw')
   |ret=>exact iW (e:=.ret) hd bU hw' hq
   |exit id=>exact hq.elim
   |goto l=>exact hq.elim
   |panic ch=>exact hq.elim
   |outgrown=>exact hq.elim
 |_=>intro hn dl fr H h;exact plain _ hn dl fr H h
theorem pC{args:List zV}{m:Nat}(hle:args.length<=m):aZ [] m {tmps:=args.toArray++Array.replicate (m-args.toArray.size) undef,defers:=[]} (c5 args 0):=by
 refine⟨rfl,by simp;omega,λs=>?_⟩;rw[fT,xai,xc4];simp only[xb1,xbX,xaD,xcN];by_cases hs:s<args.length
 ·simp[hs,List.getD]
 rw[xac hs,xb8];have:args.getD s undef=undef:=by simp[List.getD,xaE (xca hs)]
 rw[this];split<;>rfl
theorem rm{f:FuncId}{fn:Func}{hn:Hn}{args:List zV}{H:Hp}{R:Ending->Hp->Prop}(hf:P.funcs[f]? =some fn)(h:Bd P g fn hn args H R):aX P g f args.toArray H R:=by
 intro w hw;unfold Bd at h;split at h<;>try exact h.elim
 rename_i c hc;cases hl:Nat.ble args.length fn.ntmps<;>simp only[hl,xaj,xah]at h;exact calls_of_wp_defers hf hc (sD c hn [] _ H h [] .nil _ w (pC (xbr hl)) hw)
theorem ri{f:FuncId}{fn:Func}{hn:Hn}{args:List zV}{H:Hp}{R:Ending->Hp->Prop}(hf:P.funcs[f]? =some fn)(h:sG P g fn hn args H R):g6 P g f args.toArray H R:=by
 intro w hw u;unfold sG at h;split at h<;>try exact h.elim
 rename_i c hc;cases hl:Nat.ble args.length fn.ntmps<;>simp only[hl,xaj,xah]at h;refine callsD_of_wp hf hc (wp_mono (ew c hn _ _ H h _ w (pC (xbr hl)) hw) ?_);rintro e a' w' ⟨fr',H',bU,hw',_,hq⟩;cases e with
 |normal=>obtain⟨vs,hr,hk⟩:=de bU hw' hq;exact⟨bU.defers,_,hr,H',hw',hk⟩
 |ret=>obtain⟨vs,hr,hk⟩:=de bU hw' hq;exact⟨bU.defers,_,hr,H',hw',hk⟩
 |panic ch=>exact⟨bU.defers,H',hw',hq⟩
 |exit id=>exact hq.elim
 |goto l=>exact hq.elim
 |outgrown=>exact hq.elim
abbrev Jt:=List zV->Hp->Prop
abbrev Mt:=List zV->Hp->Nat
abbrev Rt:=Ending->Hp->Prop
abbrev Hn.n(a b:Hn):Hn:=.h 0 [] [] a b
theorem EO{f:FuncId}{fn:Func}{hn:Hn}{args:List zV}{H:Hp}{R:Rt}{L:Prop}(hf:P.funcs[f]? =some fn)(h:L)(e:sG P g fn hn args H R=L):aX P g f args.toArray H R:=sF hf (e.mpr h)
theorem y9{f:FuncId}{fn:Func}{hn:Hn}{args:List zV}{H:Hp}{R:Rt}{L:Prop}(hf:P.funcs[f]? =some fn)(h:L)(e:Bd P g fn hn args H R=L):aX P g f args.toArray H R:=rm hf (e.mpr h)
theorem za{f:FuncId}{fn:Func}{hn:Hn}{args:List zV}{H:Hp}{R:Rt}{L:Prop}(hf:P.funcs[f]? =some fn)(h:L)(e:sG P g fn hn args H R=L):g6 P g f args.toArray H R:=ri hf (e.mpr h)
end
end Go.Sx
namespace Go.Sx
open Go
section
variable {P:Program} {g:Gh} {H:Hp}
def Nb(P:Program)(f:FuncId)(args:Array zV)(C:Hp)(Q:zV->Hp->Prop):Prop:=∀g,g6 P g f args C (bc Q)
theorem gu.fn{f:FuncId}{args:Array zV}{C H:Hp}{c:Hp->Hp}{Q:zV->Hp->Prop}{K:Hp->Prop}(hh:bu C H c)(hc:Nb P f args C Q)(hk:∀v C',Q v C'->K (c C')):gu P g f args H K:=by
 intro w hw u;obtain⟨rfl,F,hp⟩:=hh.spec;have hw':Own g (C++F) w:=aN.perm (hp C) g w hw;refine((hc (g.add F)) w (Own.cJ.1 hw') u).mono ?_;rintro e u' w' ⟨rfl,H',ho,v,C',rfl,he,hq⟩;have h1:Own g (H'++F) w':=Own.cJ.2 ho;have h2:Own g (c H') w':=aN.perm (hp H').symm g w' h1;exact⟨rfl,c C',hh.eS he g w' h2,⟨v,rfl⟩,hk _ _ hq⟩
end
end Go.Sx
namespace Go.Sx
open Go
section
variable {P:Program} {g:Gh}
def je(P:Program)(f:FuncId)(g:Gh)(args:Array zV)(u:FrameMode)(H:Hp)(K:Hp->Prop):Prop:=
 ∀w,Own g H w->CallsD P f args u w λe u' w'=>(∃v,e=.returned v)/\settle u'=.returning/\∃H',Own g H' w'/\K H'
def vS(P:Program)(g:Gh)(K:Hp->Prop):List nj->Hp->Prop
 | [],H=>K H
 |x::r,H=>je P x.f g x.l.toArray .returning H (vS P g K r)
def xj(P:Program)(g:Gh)(fn:Func)(R:Ending->Hp->Prop)(dl:List nj):Exit->Fr->Hp->Prop
 | .normal,fr,H=>vS P g (λH'=>iL P fr H' fn.results.toList λvs=>R (.returned (mg vs)) H') dl H
 | .ret,fr,H=>vS P g (λH'=>iL P fr H' fn.results.toList λvs=>R (.returned (mg vs)) H') dl H
 | .panic ch,fr,H=>match dl with
  | []=>R (.panicked ch) H
  |x::r=>je P x.f g x.l.toArray (.panicking ch) H (vS P g (λH'=>iL P fr H' fn.results.toList λvs=>R (.returned (mg vs)) H') r)
 |_,_,_=>False
def pQ(P:Program)(g:Gh)(n:Nat)(E:List nj->Exit->Fr->Hp->Prop):Code->(List nj->Fr->Hp->Prop)->List nj->Fr->Hp->Prop
 | .skip,k,dl,fr,H=>k dl fr H
 | .ret,_,dl,fr,H=>E dl .ret fr H
 | .seq x y,k,dl,fr,H=>pQ P g n E x (pQ P g n E y k) dl fr H
 | .cond c x y,k,dl,fr,H=>Br (ev fr c) (pQ P g n E x k dl fr H) (pQ P g n E y k dl fr H)
 | .region id ops draw,k,dl,fr,H=>
  cond draw False
  (match u7 (.region id ops false)with
  |some (_,o)=>cond (o.dst.isNone&&o.guard.isNone)
    (cf P g n ops false (ops.toList.length+1) false none [] ops.toList.dropLast fr H (λ_ fr' H'=>DQ P o (ev fr') λd=>k (d::dl) fr' H') (λ_ _=>False)) False
  |none=>cf P g n ops false (ops.toList.length+1) false none [] ops.toList fr H (λ_ fr' H'=>k dl fr' H') (λch H'=>∀gs,E dl (.panic ch) (ko ops.toList gs fr) H'))
 |_,_,_,_,_=>False
def Bc(P:Program)(g:Gh)(fn:Func)(args:List zV)(H:Hp)(R:Ending->Hp->Prop):Prop:=
 match fn.body with
 |some c=>cond (Nat.ble args.length fn.ntmps) (pQ P g fn.ntmps (xj P g fn R) c (λdl fr H'=>xj P g fn R dl .normal fr H') [] (c5 args 0) H) False
 |none=>False
def fX(l:List Oper)(a a':Act):Prop:=∀s,aF l s=false->a'.tmps.getD s undef=a.tmps.getD s undef
theorem fX.put{L:List Oper}{a0 a:Act}(h:fX L a0 a){o:Oper}(ho:∀s,aF L s=false->aF [({(default:Oper)with dst:=o.dst})] s=false)(v:zV):fX L a0 (a.put o.dst v):=by
 intro s hs;rw[<-h s hs];have:=ho s hs;cases hd:o.dst with
 |none=>rfl
 |some d=>
  rw[hd]at this;simp only[aF,Bool.or_false]at this;have hne:d≠s:=λe=>by subst e;simp at this
  simp only[Act.put,xai,xa0 hne]
theorem LetsOut.and{Q Q':Exit->Act->World->Prop}(hq:∀a w,Q .outgrown a w->Q' .outgrown a w)(h:LetsOut Q):LetsOut Q':=by
 obtain⟨a,w,h⟩:=h;exact⟨a,w,hq _ _ h⟩
theorem ct{ops:Array Oper}{Q:Exit->Act->World->Prop}{L:List Oper}{a0:Act}:∀(rest:List Oper),(∀s,aF L s=false->aF rest s=false)->∀(a:Act) (w:World),fX L a0 a->wpList P ops Q rest a w->
  wpList P ops (λe a' w'=>Q e a' w'/\(jD e=true->fX L a0 a')) rest a w
 | [],_,a,w,hs,h=>⟨h,λe=>by cases e⟩
 |o::r,hL,a,w,hs,h=>by
  have ho:∀s,aF L s=false->aF [({(default:Oper)with dst:=o.dst})] s=false:=λs h=>by
   have:=hL s h;rw[bF,xar]at this;exact this.1
  have hr:∀s,aF L s=false->aF r s=false:=λs h=>by
   have:=hL s h;rw[bF,xar]at this;exact this.2
  have hout:LetsOut Q->LetsOut (λe a' w'=>Q e a' w'/\(jD e=true->fX L a0 a')):=LetsOut.and λa w h=>⟨h,λe=>by cases e⟩;unfold wpList at h⊢;split at h<;>rename_i hw
  ·rw[xaf hw];rcases h with h|⟨h1,h2⟩
   ·left;unfold Oper.wp at h⊢;generalize (execOp a.eval o).run P w=res at h⊢;cases res with
    |ok n w'=>
     cases n<;>simp only[Oper.upon]at h⊢ <;>first|exact h|skip
     case value v=>exact ct r hr _ _ (hs.put ho v) h
     case skip=>exact ct r hr _ _ (hs.put ho undef) h
     case defer d=>exact ct r hr _ _ (fX.put (a:={a with defers:=d::a.defers}) hs ho undef) h
     case enter f args=>
      refine h.mono λe w'' he=>?_;cases e with
      |returned v=>exact ct r hr _ _ (hs.put ho v) he
      |panicked ch=>exact⟨he,λ_=>hs⟩
      |outgrown=>exact hout he
     case row row args=>exact h.mono λv w'' he=>ct r hr _ _ (hs.put ho v) he
    |halt x w'=>
     cases x<;>simp only[Oper.upon]at h⊢ <;>first|exact⟨h,λ_=>hs⟩|exact h
   exact .inr ⟨h1,hout h2⟩
  rw[xac hw];exact ct r hr _ _ (hs.put ho undef) h
def ID(P:Program)(g:Gh)(n:Nat)(fn:Func)(R:Ending->Hp->Prop)(k:List nj->Fr->Hp->Prop):Exit->Act->World->Prop
 | .normal,a,w=>∃dl ds fr H,kI P dl ds/\aZ ds n a fr/\Own g H w/\k dl fr H
 |e,a,w=>∃dl ds fr H,kI P dl ds/\aZ ds n a fr/\Own g H w/\xj P g fn R dl e fr H
theorem Dn{l:List Oper}{fr fr':Fr}(h:∀s,aF l s=false->fr' s=fr s):ko l fr' fr=fr':=by
 funext s
 unfold ko;cases hb:aF l s
 ·exact(h s hb).symm
 rfl
theorem sC{n:Nat}{fn:Func}{R:Ending->Hp->Prop}:∀(c:Code) (k:List nj->Fr->Hp->Prop) (dl:List nj) (fr:Fr) (H:Hp),pQ P g n (xj P g fn R) c k dl fr H->∀(ds:List Deferred),kI P dl ds->∀(a:Act) (w:World),aZ ds n a fr->Own g H w->
  c.wp P (ID P g n fn R k) a w:=by
 intro c;induction c with
 |skip=>intro k dl fr H h ds hd a w ha hw;exact wp_skip ⟨dl,ds,fr,H,hd,ha,hw,h⟩
 |ret=>intro k dl fr H h ds hd a w ha hw;exact wp_ret ⟨dl,ds,fr,H,hd,ha,hw,h⟩
 |seq x y Ed Ec=>
  intro k dl fr H h ds hd a w ha hw;unfold pQ at h;refine wp_seq (wp_mono (Ed _ dl fr H h ds hd a w ha hw) ?_);rintro e a' w' hq;cases e with
  |normal=>
   obtain⟨Pv,ds',fr',H',jW,bU,hw',hq⟩:=hq;exact Ec _ Pv fr' H' hq ds' jW a' w' bU hw'
  |exit id=>exact hq
  |goto l=>exact hq
  |ret=>exact hq
  |panic ch=>exact hq
  |outgrown=>exact hq
 |cond c x y Ed Ec=>
  intro k dl fr H h ds hd a w ha hw;unfold pQ at h;obtain⟨b,hb,ht,hf⟩:=h;exact wp_cond_split (t:=b) (by rw[ha.eval];exact hb) (λe=>Ed _ dl fr H (ht e) ds hd a w ha hw) (λe=>Ec _ dl fr H (hf e) ds hd a w ha hw)
 |region id ops draw=>
  intro k dl fr H h ds hd a w ha hw;unfold pQ at h;cases draw<;>simp only[xaj,xah]at h;split at h
  ·rename_i ops' o hx;obtain⟨id',d,e1,hl,hop⟩:=mF hx;simp only[Code.region.injEq]at e1;obtain⟨rfl,rfl,_⟩:=e1;cases hc:(o.dst.isNone&&o.guard.isNone)<;>simp only[hc,xaj,xah]at h;simp only[xap,Option.isNone_iff_eq_none]at hc;refine wp_region_list ?_;rw[hl];refine bj _ _ _ _ _ fr H _ _ h trivial (dB.nil fr) a w ha hw [o] _ ?_ ?_
   ·intro a' w' iq fr' H' bU hw' _ _ hk;refine wpList_plain hc.2 λK hK=>?_;obtain⟨x,dd,hx,hok,hrun⟩:=rP hk;show o.upon P a' K _ ((execOp a'.eval o).run P w');rw[bU.eval,hrun];refine hK _ _ ?_;refine⟨x::dl,dd::ds,fr',H',.cons hok hd,?_,hw',hx⟩;rw[hc.1];exact⟨xb7 _ bU.defers,bU.size,bU.get⟩
   intro ch a' w' fr' H' _ _ hk;exact hk.elim
  have h1:=bj (rest:=[]) _ _ _ _ _ fr H _ _ h trivial (dB.nil fr) a w ha hw (λe a' w'=>match e with
   | .normal=>∃fr' H',aZ ds n a' fr'/\Own g H' w'/\k dl fr' H'
   | .panic ch=>∃fr' H',aZ ds n a' fr'/\Own g H' w'/\∀gs,xj P g fn R dl (.panic ch) (ko ops.toList gs fr) H'
   |_=>False) (λa' w' iq fr' H' bU hw' _ _ hk=>⟨fr',H',bU,hw',hk⟩) (λch a' w' fr' H' bU hw' hk=>⟨fr',H',bU,hw',hk⟩)
  rw[xaT]at h1;refine wp_mono (wp_region_list (ct (L:=ops.toList) (a0:=a) ops.toList (λs h=>h) a w (λs _=>rfl) h1)) ?_;rintro e a' w' ⟨hq,hs⟩;cases e with
  |normal=>
   obtain⟨fr',H',bU,hw',hk⟩:=hq;exact⟨dl,ds,fr',H',hd,bU,hw',hk⟩
  |panic ch=>
   obtain⟨fr',H',bU,hw',hk⟩:=hq;refine⟨dl,ds,fr',H',hd,bU,hw',?_⟩;have:=hk fr';rwa [Dn λs h=>by rw[<-bU.get,<-ha.get];exact hs rfl s h]at this
  |exit id=>exact hq.elim
  |goto l=>exact hq.elim
  |ret=>exact hq.elim
  |outgrown=>exact hq.elim
 |_=>intro k dl fr H h;exact h.elim
theorem je.cons{x:nj}{d:Deferred}{ds:List Deferred}{fn:Func}{tmps:Array zV}{u:FrameMode}{H:Hp}{w:World}{K:Hp->Prop}{R:Ending->World->Prop}(hu:u≠.run)(hd:Mc P x d)(hw:Own g H w)(h:je P x.f g x.l.toArray u H K)
 (hk:∀H' w',Own g H' w'->K H'->Leaves P fn tmps R ds .returning w'):Leaves P fn tmps R (d::ds) u w:=by
 obtain⟨cap,args,rfl,ha,hc⟩:=hd;refine leaves_cons hu ?_ ((h w hw).mono ?_)
 ·show(callFunc _ (args++cap)).run P w=_;rw[ha];exact cv hc _ w
 rintro e u' w' ⟨⟨v,rfl⟩,p4,H',ho,hk'⟩;show Leaves _ _ _ _ _ (settle u') w';rw[p4];exact hk _ _ ho hk'
theorem kL{fn:Func}{tmps:Array zV}{K:Hp->Prop}{R:Ending->World->Prop}(hK:∀H w,Own g H w->K H->∃v,(results fn tmps).run P w=.ok v w/\R (.returned v) w):
  ∀{dl:List nj} {ds:List Deferred},kI P dl ds->∀H w,Own g H w->vS P g K dl H->Leaves P fn tmps R ds .returning w
 |_,_,.nil,H,w,hw,h=>hK H w hw h
 |_,_,.cons hx hr,H,w,hw,h=>je.cons zI hx hw h λH' w' ho hk=>kL hK hr H' w' ho hk
theorem iV{fn:Func}{R:Ending->Hp->Prop}{n:Nat}{dl:List nj}{ds:List Deferred}(hd:kI P dl ds){e:Exit}{fr:Fr}{H:Hp}{a:Act}{w:World}(ha:aZ ds n a fr)(hw:Own g H w)(h:xj P g fn R dl e fr H):
  bodyPostD P fn (λe w'=>∃H',Own g H' w'/\R e H') e a w:=by
 have fin:∀{dl ds H w},kI P dl ds->Own g H w->vS P g (λH'=>iL P fr H' fn.results.toList λvs=>R (.returned (mg vs)) H') dl H->Leaves P fn a.tmps (λe w'=>∃H',Own g H' w'/\R e H') ds .returning w:=λhd hw h=>by
  exact kL (λH w hw h=>by
   obtain⟨vs,hr,hk⟩:=de ha hw h;exact⟨_,hr,H,hw,hk⟩) hd _ _ hw h
 cases e with
 |normal=>show Leaves _ _ _ _ a.defers _ _;rw[ha.defers];exact fin hd hw h
 |ret=>show Leaves _ _ _ _ a.defers _ _;rw[ha.defers];exact fin hd hw h
 |panic ch=>
  show Leaves _ _ _ _ a.defers _ _;rw[ha.defers];cases hd with
  |nil=>exact⟨H,hw,h⟩
  |cons hx hr=>exact je.cons zI hx hw h λH' w' ho hk=>fin hr ho hk
 |exit id=>exact h.elim
 |goto l=>exact h.elim
 |outgrown=>exact h.elim
theorem rj{f:FuncId}{fn:Func}{args:List zV}{H:Hp}{R:Ending->Hp->Prop}(hf:P.funcs[f]? =some fn)(h:Bc P g fn args H R):aX P g f args.toArray H R:=by
 intro w hw;unfold Bc at h;split at h<;>try exact h.elim
 rename_i c hc;cases hl:Nat.ble args.length fn.ntmps<;>simp only[hl,xaj,xah]at h;refine calls_of_wp_defers hf hc (wp_mono (sC c _ [] _ H h [] .nil _ w (pC (xbr hl)) hw) ?_);intro e a' w' hq;cases e with
 |normal=>obtain⟨dl,ds,fr,H',hd,ha,ho,hk⟩:=hq;exact iV (e:=.normal) hd ha ho hk
 |ret=>obtain⟨dl,ds,fr,H',hd,ha,ho,hk⟩:=hq;exact iV (e:=.ret) hd ha ho hk
 |panic ch=>obtain⟨dl,ds,fr,H',hd,ha,ho,hk⟩:=hq;exact iV (e:=.panic ch) hd ha ho hk
 |exit id=>obtain⟨dl,ds,fr,H',hd,ha,ho,hk⟩:=hq;exact hk.elim
 |goto l=>obtain⟨dl,ds,fr,H',hd,ha,ho,hk⟩:=hq;exact hk.elim
 |outgrown=>obtain⟨dl,ds,fr,H',hd,ha,ho,hk⟩:=hq;exact hk.elim
theorem EN{f:FuncId}{fn:Func}{args:List zV}{H:Hp}{R:Rt}{L:Prop}(hf:P.funcs[f]? =some fn)(h:L)(e:Bc P g fn args H R=L):aX P g f args.toArray H R:=rj hf (e.mpr h)
theorem je.rec{f:FuncId}{fn:Func}{id d0 d1:Nat}{o0 o1:Oper}{rest:Code}{hn:Hn}{args:List zV}{u u':FrameMode}{v:zV}{H:Hp}{K:Hp->Prop}(hf:P.funcs[f]? =some fn)(hb:fn.body=some (.seq (.region id #[o0,o1] false) rest))
 (h0:o0.op=.call ⟨.builtin .recover,#[],#[]⟩)(g0:o0.guard=none)(e0:o0.dst=some d0)(h1:o1.op=.assign (.tmp d0))(g1:o1.guard=none)(e1:o1.dst=some d1)(hr:fn.results=#[])
 (hl:Nat.ble args.length fn.ntmps=true)(b0:Nat.blt d0 fn.ntmps=true)(b1:Nat.blt d1 fn.ntmps=true)
 (hu:(u=.returning/\v=.nilIface/\u'=.returning)\/(u=.panicking [{v,recovered:=false}]/\u'=.panicking [{v,recovered:=true}]))
 (h:den P g fn.ntmps rest hn (λe _ H'=>match e with| .normal=>K H'| .ret=>K H'|_=>False) (bX (bX (c5 args 0) (some d0) v) (some d1) v) H):je P f g args.toArray u H K:=by
 intro w hw;have hs:settle u'=.returning:=by
  rcases hu with⟨_,_,rfl⟩|⟨_,rfl⟩<;>rfl
 refine callsD_of_wpS (R:=λe u' w'=>(∃v,e=.returned v)/\settle u'=.returning/\∃H',Own g H' w'/\K H') hf hb λc₀ cs hc=>?_;refine wpS_seq (wpS_region ?_);have wM:(match recoverD (c₀::cs)with|some (v',cs')=>(v',cs')|none=>(.nilIface,c₀::cs))=(v,{c₀ with mode:=u'}::cs):=by
  rcases hu with⟨h1,rfl,rfl⟩|⟨h1,rfl⟩
  ·rw[h1]at hc;unfold recoverD;simp only[hc];rw[<-hc]
  rw[h1]at hc;unfold recoverD;simp only[hc]
 have hA:=pC (args:=args) (m:=fn.ntmps) (xbr hl);have NW:∀t,Region.wanted o0 t=true:=λt=>by unfold Region.wanted;rw[g0]
 have kg:∀t,Region.wanted o1 t=true:=λt=>by unfold Region.wanted;rw[g1]
 have key:wpOpsS P #[o0,o1] (Exit.thenS (rest.wpS P (bodyPostS P fn c₀ cs λe u' w'=>(∃v,e=.returned v)/\settle u'=.returning/\∃H',Own g H' w'/\K H')) (bodyPostS P fn c₀ cs λe u' w'=>(∃v,e=.returned v)/\settle u'=.returning/\∃H',Own g H' w'/\K H')) [0,1]
   {tmps:=args.toArray++Array.replicate (fn.ntmps-args.toArray.size) undef,defers:=[]} (c₀::cs) w:=by
  generalize LC:({tmps:=args.toArray++Array.replicate (fn.ntmps-args.toArray.size) undef,defers:=[]}:Act)=A0 at hA⊢;have a1:aZ [] fn.ntmps (A0.put o0.dst v) (bX (c5 args 0) (some d0) v):=by rw[e0];exact hA.put (d:=some d0) (by simpa[cq]using b0) v
  have a2:aZ [] fn.ntmps ((A0.put o0.dst v).put o1.dst v) (bX (bX (c5 args 0) (some d0) v) (some d1) v):=by rw[e1];exact a1.put (d:=some d1) (by simpa[cq]using b1) v
  have D0:wpOpsS P #[o0,o1] (Exit.thenS (rest.wpS P (bodyPostS P fn c₀ cs λe u' w'=>(∃v,e=.returned v)/\settle u'=.returning/\∃H',Own g H' w'/\K H')) (bodyPostS P fn c₀ cs λe u' w'=>(∃v,e=.returned v)/\settle u'=.returning/\∃H',Own g H' w'/\K H')) [1] (A0.put o0.dst v) ({c₀ with mode:=u'}::cs) w:=by
   simp only[wpOpsS,xcq,xcS,xbV,kg,xaS];have hx:execOp (A0.put o0.dst v).eval o1=pure (.value v):=by
    rw[a1.eval];simp only[execOp,h1,ev];simp[bX]
   rw[hx];simp only[Sem.run_pure,Oper.upon];refine wpS_of_wp (wp_mono (ew rest hn _ _ H h _ w a2 hw) ?_);rintro e a' w' ⟨fr',H',bU,hw',_,hq⟩;cases e with
   |normal=>
    refine⟨bU.defers,u',rfl,.tuple #[],?_,⟨_,rfl⟩,hs,H',hw',hq⟩;simp[results,hr]
   |ret=>
    refine⟨bU.defers,u',rfl,.tuple #[],?_,⟨_,rfl⟩,hs,H',hw',hq⟩;simp[results,hr]
   |exit id=>exact hq.elim
   |goto l=>exact hq.elim
   |panic ch=>exact hq.elim
   |outgrown=>exact hq.elim
  unfold wpOpsS;simp only[xcq,xbV,NW,xaS];have hx:execOp A0.eval o0=pure .recover:=by
   simp[execOp,h0,resolve,invoke,builtin]
  rw[hx];simp only[Sem.run_pure];cases hq:recoverD (c₀::cs)with
  |none=>
   rw[hq]at wM;simp only[xcZ]at wM;obtain⟨rfl,hcs⟩:=wM;simp only;rw[hcs];exact D0
  |some p=>
   obtain⟨v',cs'⟩:=p;rw[hq]at wM;simp only[xcZ]at wM;obtain⟨rfl,rfl⟩:=wM;exact D0
 exact key
end
end Go.Sx
set_option maxRecDepth 100000
namespace Go.Proofs
open Go Go.Sx Tryz
variable {g:Gh} {a0 a1 a2 a3 a4 a5 a6 a7 a8 a9 GJ GI JA Jz Jy Jx:zV} {H:Hp} {R:Rt}
abbrev pt(b:Nat):zV:=.pointer (some ⟨b,0,none⟩)
noncomputable abbrev zQ:=Tryz.prog
abbrev CF:=aa Tryz.prog
abbrev iv(n:Int):zV:=.int .i64 n
abbrev ui(n:Int):zV:=.int .u32 n
abbrev wi(n:Int):zV:=.int .u64 n
abbrev bi(n:Int):zV:=.int .u8 n
abbrev vT:zV:=.bool true
abbrev vF:zV:=.bool false
abbrev lE:=ae .num .eql
abbrev lN:=ae .num .neq
abbrev lL:=ae .num .lss
abbrev lG:=ae .num .gtr
abbrev lA:=ae .num .add
abbrev lS:=ae .num .sub
abbrev lD(n:Nat)(p:zV)(H:Hp)(k:zV->Prop):Prop:=ah n p λv=>Ld H v k
abbrev lM(n:Nat)(p:zV)(H:Hp)(k:zV->Prop):Prop:=Nil p λq=>ah n q λv=>Ld H v k
abbrev lI(e:Nat)(p i:zV)(H:Hp)(k:zV->Prop):Prop:=ai e p i λv=>Ld H v k
abbrev lX(v:zV)(k:zV->zV->Prop):Prop:=Ext 0 v λx=>Ext 1 v λy=>k x y
abbrev rt(R:Rt)(v:zV)(H:Hp):Prop:=R (.returned v) H
abbrev tP(a b:zV):zV:=.tuple #[a,b]
abbrev lW(H:Hp)(c:Array zV)(t:Nat)(k:Nat->Hp->Prop):Prop:=vK H (.cells c t zZ) k
abbrev lO(a:zV)(i:Bool->Prop)(k:Bool->Prop):Prop:=bO a false i (λt=>vT=Value.bool t) λt=>∀_:Fr,k t
abbrev lU(a:zV)(i:Bool->Prop)(k:Bool->Prop):Prop:=bO a true i (λt=>vF=Value.bool t) λt=>∀_:Fr,k t
abbrev lV(H:Hp)(v:zV)(t:Bool):Prop:=H=H/\v=Value.bool t
abbrev lC(n:Nat)(p:zV)(k:zV->Prop):Prop:=Nil p λq=>ah n q k
abbrev lQ(n:Nat)(H:Hp)(c:Array zV)(t:Nat)(v:zV)(k:Nat->Hp->Prop):Prop:=vK H (.cells c t zZ) λb H=>St n H (pt b) v λH=>k b H
abbrev sc:=aX Tryz.prog
theorem sd{g:Gh}{f:FuncId}{fn:Func}(hn:Hn){args:List zV}{H:Hp}{R:Rt}{L:Prop}(hf:Tryz.prog.funcs[f]? =some fn)(h:L)(e:sG Tryz.prog g fn hn args H R=L:=by kernel_rfl):sc g f args.toArray H R:=EO hf h e
abbrev Y0:=Gh->Hp->Rt->Prop
abbrev Y1:=Gh->zV->Hp->Rt->Prop
abbrev Y2:=Gh->zV->zV->Hp->Rt->Prop
abbrev Y3:=Gh->zV->zV->zV->Hp->Rt->Prop
abbrev Y4:=Gh->zV->zV->zV->zV->Hp->Rt->Prop
abbrev Y5:=Gh->zV->zV->zV->zV->zV->Hp->Rt->Prop
abbrev CR(R:Rt)(g:Gh)(f:Nat)(a:Array zV)(H:Hp)(K:zV->Hp->Prop):Prop:=aa Tryz.prog g f a H K (cP R)
abbrev CN(g:Gh)(f:Nat)(a:Array zV)(H:Hp)(K:zV->Hp->Prop):Prop:=aa Tryz.prog g f a H K DO
abbrev lK(H:Hp)(v:zV)(t:Nat)(k:Nat->Hp->Prop):Prop:=vK H (.cells (Value.cells v) t zZ) k
abbrev i0:zV:=iv 0
abbrev i1:zV:=iv 1
abbrev oG:=ae .num .geq
abbrev oA:=ae .num .and
abbrev oR:=ae .num .shr
abbrev oL:=ae .num .shl
abbrev oO:=ae .num .or
abbrev oQ:=ae .num .leq
abbrev oM:=ae .num .mul
abbrev oP(a:zV)(k:zV->Prop):Prop:=ae .ptr .eql a (.pointer none) k
abbrev jA(A:Hp->Prop)(B:Jt->Prop):Prop:=∀J:Jt,(∀H,(∀_:Fr,A H)->J [] H)->B J
abbrev jB(A:zV->Hp->Prop)(B:Jt->Prop):Prop:=∀J:Jt,(∀w H,(∀_:Fr,A w H)->J [w] H)->B J
abbrev jC(A:zV->zV->Hp->Prop)(B:Jt->Prop):Prop:=∀J:Jt,(∀w x H,(∀_:Fr,A w x H)->J [w,x] H)->B J
abbrev yA(l:List zV)(H:Hp)(K:Jt->Mt->zV->Hp->Prop):Prop:=∃(I:Jt) (m:Mt),JE I l H/\∀w H,I [w] H->∀_:Fr,K I m w H
abbrev yB(l:List zV)(H:Hp)(K:Jt->Mt->zV->zV->Hp->Prop):Prop:=∃(I:Jt) (m:Mt),JE I l H/\∀w x H,I [w,x] H->∀_:Fr,K I m w x H
abbrev nC:Array zV:=#[i0,ui 0,ui 0]
abbrev sZ:zV:=.slice none 0 0
abbrev qA(L:Y0)(f:Nat):Prop:=∀{g H R},L g H R->sc g f #[] H R
abbrev qB(L:Y1)(f:Nat):Prop:=∀{g a H R},L g a H R->sc g f #[a] H R
abbrev qC(L:Y2)(f:Nat):Prop:=∀{g a b H R},L g a b H R->sc g f #[a,b] H R
abbrev qD(L:Y3)(f:Nat):Prop:=∀{g a b c H R},L g a b c H R->sc g f #[a,b,c] H R
abbrev qE(L:Y4)(f:Nat):Prop:=∀{g a b c d H R},L g a b c d H R->sc g f #[a,b,c,d] H R
abbrev qF(L:Y5)(f:Nat):Prop:=∀{g a b c d e H R},L g a b c d e H R->sc g f #[a,b,c,d,e] H R
def hr(m:Nat)(T:zL):Nat->Nat->Hn->Hn
 |_,0,x=>x
 |i,k+1,x=>.h m [i] T (hr m T (i+1) k x) .e
def hN:Nat->Hn->Hn
 |0,x=>x
 |k+1,x=>.n .e (hN k x)
def zA(x:Hn):Hn:=.n .e x
def zB(x:Hn):Hn:=.n x .e
def zE(m:Nat)(A T:zL)(x:Hn):Hn:=.h m A T x .e
def zF(m:Nat)(A T:zL):Hn:=.h m A T .e .e
def yR:Nat->zL:=List.range
def L4:Y0:=λa b c=>CR c a 7 #[] b λb d=>oP b λe=>Br e (rt c vF d) (CR c a 10 #[(iv 396)] d λd e=>ae .str .add (.string (ByteArray.mk #[108,105,118,101])) d λd=>CR c a 8 #[b,d] e λd e=>lQ 3 e #[(.string (ByteArray.mk #[])),i0,i0] 27 d λd e=>CR c a 10 #[(iv 397)] e λe f=>ae .str .add (.string (ByteArray.mk #[108,105,118,101])) e λe=>CR c a 8 #[b,e] f λe f=>lQ 3 f #[(.string (ByteArray.mk #[])),i0,i0] 27 e λe f=>jB (λg h=>Br g (rt c vF h) (CR c a 8 #[b,(.string (ByteArray.mk #[97,98,99,100,101,102,103,104,105,106,107,108,109,110,111,112,32,61,32,120,48]))] h λg h=>lQ 3 h #[(.string (ByteArray.mk #[])),i0,i0] 27 g λg h=>CR c a 8 #[b,(.string (ByteArray.mk #[97,98,99,100,101,102,103,104,105,106,107,108,109,110,111,112,113,32,61,32,120,48]))] h λh i=>lQ 3 i #[(.string (ByteArray.mk #[])),i0,i0] 27 h λh i=>jB (λj k=>Br j (rt c vF k) (CR c a 8 #[b,(.string (ByteArray.mk #[110,101,119,32,54,52,32,49,48,52,56,53,55,54]))] k λj k=>lQ 3 k #[(.string (ByteArray.mk #[])),i0,i0] 27 j λj k=>CR c a 8 #[b,(.string (ByteArray.mk #[110,97,109,101,115]))] k λk l=>lQ 3 l #[(.string (ByteArray.mk #[])),i0,i0] 27 k λk l=>CR c a 8 #[b,(.string (ByteArray.mk #[110,101,119,32,49,32,50]))] l λl m=>lQ 3 m #[(.string (ByteArray.mk #[])),i0,i0] 27 l λl m=>CR c a 8 #[b,(.string (ByteArray.mk #[102,32,61,32,120,48]))] m λm n=>lQ 3 n #[(.string (ByteArray.mk #[])),i0,i0] 27 m λm n=>jB (λo p=>Br o (rt c vF p) (jB (λo q=>Br o (rt c vF q) (jB (λo r=>Br o (rt c vF r) (jB (λo s=>Br o (rt c vF s) (jB (λo t=>rt c o t) λo=>CR c a 8 #[b,(.string (ByteArray.mk #[101,118,97,108,32,102,32,120]))] s λs t=>CR c a 11 #[s,(iv 14),(iv 7)] t λs t=>Split s true (CR c a 8 #[b,(.string (ByteArray.mk #[115,119,97,112,32,48]))] t λs u=>CR c a 11 #[s,i1,i0] u λs u=>az vT s vF λs=>Split s true (CR c a 8 #[b,(.string (ByteArray.mk #[110,97,109,101,115]))] u λs v=>BY 0 s λs=>ae .str .eql s (.string (ByteArray.mk #[])) λs=>az vT s vF λs=>JE o [s] v) (az vF undef vF λs=>JE o [s] u)) (az vF undef vF λs=>az s undef vF λs=>JE o [s] t))) λo=>CR c a 8 #[b,(.string (ByteArray.mk #[32,102,32,120]))] r λr s=>CR c a 11 #[r,(iv 15),i1] s λr s=>Un .not r λr=>Split r false (CR c a 8 #[b,(.string (ByteArray.mk #[100,114,111,112]))] s λr t=>CR c a 11 #[r,(iv 14),(iv 4)] t λr t=>Un .not r λr=>az vF vT r λr=>Split r false (CR c a 8 #[b,(.string (ByteArray.mk #[102,32,61,32]))] t λr u=>CR c a 11 #[r,(iv 14),(iv 4)] u λr u=>Un .not r λr=>az vF vT r λr=>Split r false (CR c a 8 #[b,(.string (ByteArray.mk #[111,114,100,101,114,32,48,32,48]))] u λr v=>CR c a 11 #[r,i1,i0] v λr v=>Un .not r λr=>az vF vT r λr=>JE o [r] v) (az vT vT undef λr=>JE o [r] u)) (az vT vT undef λr=>az r vT undef λr=>JE o [r] t)) (az vT vT undef λr=>az r vT undef λr=>az r vT undef λr=>JE o [r] s))) λo=>CR c a 8 #[b,(.string (ByteArray.mk #[119,105,110,100,111,119,32,53]))] q λq r=>CR c a 11 #[q,i1,(iv 7)] r λq r=>Un .not q λq=>Split q false (CR c a 8 #[b,(.string (ByteArray.mk #[115,105,102,116,32,57,57]))] r λq s=>CR c a 11 #[q,i1,i0] s λq s=>Un .not q λq=>az vF vT q λq=>Split q false (CR c a 8 #[b,(.string (ByteArray.mk #[115,104,111,119,32,102]))] s λq t=>CR c a 11 #[q,(iv 15),(iv 5)] t λq t=>Un .not q λq=>az vF vT q λq=>Split q false (CR c a 8 #[b,(.string (ByteArray.mk #[108,105,118,101,32,110,111,119]))] t λq u=>CR c a 11 #[q,(iv 14),(iv 5)] u λq u=>Un .not q λq=>az vF vT q λq=>JE o [q] u) (az vT vT undef λq=>JE o [q] t)) (az vT vT undef λq=>az q vT undef λq=>JE o [q] s)) (az vT vT undef λq=>az q vT undef λq=>az q vT undef λq=>JE o [q] r))) λo=>CR c a 8 #[b,(.string (ByteArray.mk #[110,101,119,32,54,53,32,53]))] p λp q=>CR c a 11 #[p,i1,(iv 4)] q λp q=>Un .not p λp=>Split p false (CR c a 8 #[b,(.string (ByteArray.mk #[110,101,119,32,53,32,49]))] q λp r=>CR c a 11 #[p,i1,(iv 6)] r λp r=>Un .not p λp=>az vF vT p λp=>Split p false (CR c a 8 #[b,(.string (ByteArray.mk #[110,101,119,32,53,32,49,48,52,56,53,55,55]))] r λp s=>CR c a 11 #[p,i1,(iv 6)] s λp s=>Un .not p λp=>az vF vT p λp=>Split p false (CR c a 8 #[b,(.string (ByteArray.mk #[110,101,119,32,53]))] s λb p=>CR c a 11 #[b,(iv 14),(iv 5)] p λb p=>Un .not b λb=>az vF vT b λb=>JE o [b] p) (az vT vT undef λb=>JE o [b] s)) (az vT vT undef λb=>az b vT undef λb=>JE o [b] r)) (az vT vT undef λb=>az b vT undef λb=>az b vT undef λb=>JE o [b] q))) λb=>lD 2 (pt j) n λj=>lN j i0 λj=>Split j false (lD 2 (pt k) n λj=>lN j i0 λj=>az vF vT j λj=>Split j false (lD 0 (pt k) n λj=>ae .str .neq j (.string (ByteArray.mk #[])) λj=>az vF vT j λj=>Split j false (lD 2 (pt l) n λj=>lN j i0 λj=>az vF vT j λj=>Split j false (aA 3 n (pt m) λj=>CR c a 11 #[j,(iv 9),i0] n λj k=>Un .not j λj=>az vF vT j λj=>JE b [j] k) (az vT vT undef λj=>JE b [j] n)) (az vT vT undef λj=>az j vT undef λj=>JE b [j] n)) (az vT vT undef λj=>az j vT undef λj=>az j vT undef λj=>JE b [j] n)) (az vT vT undef λj=>az j vT undef λj=>az j vT undef λj=>az j vT undef λj=>JE b [j] n))) λb=>lD 0 (pt g) i λj=>ae .str .neq j (.string (ByteArray.mk #[49])) λj=>Split j false (lD 2 (pt g) i λg=>lN g i0 λg=>az vF vT g λg=>Split g false (aA 3 i (pt h) λg=>CR c a 11 #[g,(iv 15),i0] i λg h=>Un .not g λg=>az vF vT g λg=>JE b [g] h) (az vT vT undef λg=>JE b [g] i)) (az vT vT undef λg=>az g vT undef λg=>JE b [g] i))) λb=>lD 2 (pt d) f λg=>lN g i0 λg=>Split g false (lD 0 (pt d) f λd=>ae .str .neq d (.string (ByteArray.mk #[48])) λd=>az vF vT d λd=>Split d false (aA 3 f (pt e) λd=>CR c a 11 #[d,(iv 13),i0] f λa c=>Un .not a λa=>az vF vT a λa=>JE b [a] c) (az vT vT undef λa=>JE b [a] f)) (az vT vT undef λa=>az a vT undef λa=>JE b [a] f))
theorem BJ:qA L4 4:=λh=>sd (hN 5 (.n (zF 1 [33] [1]) (zA (zA (.n (zF 1 [50] [1]) (hN 4 (.n (zF 1 [81] [1]) (.n (zF 1 [103] [1]) (.n (zF 1 [125] [1]) (.n (zF 1 [147] [1]) (zF 1 [0] []))))))))))) func4 h
def L7:Y0:=λ_ a b=>Build Tryz.prog 48 [] λc=>lK a c 48 λa c=>rt b (pt a) c
theorem BI:qA L7 7:=λh=>sd .e func7 h
def L8:Y2:=λa b c d e=>lW d #[(.string (ByteArray.mk #[])),i0,i0] 27 λd f=>oP b λg=>Br g (Build Tryz.prog 27 [] λg=>St 3 f (pt d) g λg=>aA 3 g (pt d) λh=>rt e h g) (CR e a 15 #[b] f λ_ f=>au c λg=>lG g (iv 400) λg=>Br g (CR e a 16 #[i0,(iv 13)] f λg h=>St 3 h (pt d) g λg=>aA 3 g (pt d) λh=>rt e h g) (CR e a 17 #[c] f λf g=>bp f λh=>lE h i0 λh=>Br h (Build Tryz.prog 27 [] λh=>St 3 g (pt d) h λh=>aA 3 h (pt d) λi=>rt e i h) (ai 3 f i0 λh=>ah 0 h λh=>Ld g h λh=>CR e a 18 #[b,h] g λg h=>lX g λg i=>lQ 3 h #[(.string (ByteArray.mk #[])),(.string (ByteArray.mk #[])),.nilFunc] 54 g λg h=>Br i (DR h λi=>lD 1 (pt g) i λj=>bT 3 f (some i1) none λk=>au c λl=>∀m:Hp,
CN (a.add m) 19 #[b,j,k,l] h λj k=>aN k i/\
lX j λi j=>lW k #[(.string (ByteArray.mk #[])),i0,i0] 27 λk l=>∀_:Hp,
St 3 l (pt k) j λj=>lD 2 (pt k) j λl=>lN l i0 λl=>Br l (aA 3 j (pt k) λk=>St 3 j (pt d) k λk=>aA 3 k (pt d) λl=>rt e l k) (lD 2 (pt g) j λg=>cr Tryz.prog a g #[i] j (λg i=>St 3 i (pt d) g λg=>aA 3 g (pt d) λi=>rt e i g) (cP e))) (ai 3 f i0 λg=>ah 0 g λg=>Ld h g λg=>CR e a 20 #[b,g] h λg h=>Un .not g λg=>lO g (λg=>bp f λi=>lL i (iv 2) λi=>(lV h i g)) λg=>lO (Value.bool g) (λg=>ai 3 f i1 λi=>ah 0 i λi=>Ld h i λi=>ae .str .neq i (.string (ByteArray.mk #[61])) λi=>(lV h i g)) λg=>Br (Value.bool g) (ai 3 f i0 λg=>ah 1 g λg=>Ld h g λg=>CR e a 16 #[g,(iv 15)] h λg i=>St 3 i (pt d) g λg=>aA 3 g (pt d) λi=>rt e i g) (DR h λg=>ai 3 f i0 λi=>ah 0 i λi=>Ld g i λi=>ai 3 f i1 λf=>aA 3 g f λf=>CN a 22 #[c,f] h λf h=>aN h g/\
CN a 21 #[b,i,c,f] h λa b=>aN b g/\
St 3 b (pt d) a λa=>aA 3 a (pt d) λb=>rt e b a)))))
theorem m6:qC L8 8:=λh=>sd (hN 6 (.n (zA (zA (zB (zB (zE 1 [] [] (hr 0 [] 0 7 (zE 1 [11] [] (hr 0 [] 7 7 .e)))))))) (.n (zB (zF 0 [] [1])) (zB (zF 0 (yR 13) []))))) func8 h
def L10:Y1:=λ_ a b c=>∃(d:Jt) (e:Mt),JE d [(.string (ByteArray.mk #[])),i0] b/\∀b f:zV,∀g:Hp,d [b,f] g->∀_:Fr,
lL f a λa=>Br a (ae .str .add b (.string (ByteArray.mk #[32])) λa=>lA f i1 λh=>aI d e [a,h] g [b,f] g) (rt c b g)
theorem yI:qB L10 10:=λh=>sd (zA (zA (zB (zA (zB (zF 0 [3,4] [0])))))) func10 h
def L11:Y3:=λ_ a b c d e=>lK d a 27 λa d=>lD 0 (pt a) d λf=>ae .str .eql f (.string (ByteArray.mk #[])) λf=>lU f (λf=>lD 1 (pt a) d λg=>lE g c λc=>(lV d c f)) λf=>lU (Value.bool f) (λc=>lD 2 (pt a) d λa=>lE a b λa=>(lV d a c)) λc=>rt e (Value.bool c) d
theorem yH:qD L11 11:=λh=>sd (zA (zB (zF 0 [] [1]))) func11 h
def L15:Y1:=λa b c d=>lM 0 b c λe=>oP e λe=>Br e (CR d a 27 #[(iv 8),(iv 1000)] c λa e=>lX a λa _=>lC 0 b λf=>St 1 e f a λa=>oT a λa e=>lC 1 b λb=>St 1 e b a λa=>rt d (.tuple #[]) a) (rt d (.tuple #[]) c)
theorem oY:qB L15 15:=λh=>sd .e func15 h
def L16:Y2:=λ_ a b c d=>lW c #[(.string (ByteArray.mk #[])),i0,i0] 27 λc e=>Build Tryz.prog 27 [(1,a),(2,b)] λa=>St 3 e (pt c) a λa=>aA 3 a (pt c) λb=>rt d b a
theorem yG:qC L16 16:=λh=>sd .e func16 h
def L17:Y1:=λa b c d=>∃(e:Jt) (f:Mt),JE e [sZ,(iv (-1)),i0] c/\∀c g h:zV,∀i:Hp,e [c,g,h] i->∀_:Fr,
au b λj=>oQ h j λj=>Br j (jC (λj k l=>lA h i1 λm=>aI e f [j,k,m] l [c,g,h] i) λe=>au b λf=>lE h f λf=>lO f (λf=>aY b h λj=>lE j (bi 32) λj=>(lV i j f)) λf=>lU (Value.bool f) (λj=>oG g i0 λk=>(lV i k j)) λj=>Br (Value.bool j) (aG Tryz.prog a (bQ Tryz.f17 8 4) (ev (λa=>cond (Nat.beq a 30) b (cond (Nat.beq a 31) g (cond (Nat.beq a 32) h (undef))))) i λa=>Build Tryz.prog 58 [(0,a),(1,g),(2,h)] λa=>aj Tryz.prog 50 1 [(0,a)] i λa b=>App Tryz.prog 58 3 32 (.agg #[(.string (ByteArray.mk #[])),i0,i0]) b c a λa b=>JE e [a,(iv (-1))] b) (Un .not (Value.bool f) λa=>lU a (λa=>lL g i0 λb=>(lV i b a)) λa=>Br (Value.bool a) (JE e [c,h] i) (JE e [c,g] i))) (rt d c i)
theorem yF:qB L17 17:=λh=>sd (hN 3 (zB (zA (zB (zE 0 [3,4,5] [0] (zA (zE 1 [3,4] [0,5] (zB (.n (zF 0 [] [1]) (zB (.n (zF 0 [] [1]) (zA (zB (zF 0 [] [1])))))))))))))) func17 h
def L18:Y2:=λa b c d e=>lK d c 9 λc d=>lW d #[(.string (ByteArray.mk #[])),(.string (ByteArray.mk #[])),.nilFunc] 54 λd f=>CR e a 28 #[b] f λb f=>CR e a 29 #[b,(.func (.func 30) #[] #[(pt c)])] f λa c=>lL a i0 λf=>Br f (Build Tryz.prog 54 [] λf=>St 3 c (pt d) f λf=>aA 3 f (pt d) λg=>rt e (tP g vF) f) (ai 3 b a λa=>aA 3 c a λa=>St 3 c (pt d) a λa=>aA 3 a (pt d) λb=>rt e (tP b vT) a)
theorem yE:qC L18 18:=λh=>sd .e func18 h
def L19:Y4:=λa b c d e f g=>lW f #[(.string (ByteArray.mk #[])),i0,i0] 27 λf h=>jB (λi j=>bp d λk=>yB [sZ,i0] j λj l m n o=>lL n k λk=>Br k (ai 3 d n λk=>aA 3 o k λk=>lQ 3 o #[(.string (ByteArray.mk #[])),i0,i0] 58 k λk p=>au i λq=>oG n q λq=>Br q (lD 1 (pt k) p λq=>CR g a 16 #[q,(iv 14)] p λq r=>St 3 r (pt f) q λq=>aA 3 q (pt f) λr=>rt g (tP sZ r) q) (aA 3 p (pt k) λq=>Build Tryz.prog 78 [(0,q)] λq=>lQ 4 p #[(.string (ByteArray.mk #[])),i0,i0,i0] 78 q λp q=>jB (λr s=>Un .not r λr=>Br r (lD 1 (pt k) s λr=>CR g a 16 #[r,(iv 14)] s λr t=>St 3 t (pt f) r λr=>aA 3 r (pt f) λt=>rt g (tP sZ t) r) (aA 4 s (pt p) λr=>aj Tryz.prog 59 1 [(0,r)] s λr s=>App Tryz.prog 78 4 40 (.agg #[(.string (ByteArray.mk #[])),i0,i0,i0]) s m r λr s=>lA n i1 λt=>aI j l [r,t] s [m,n] o)) λj=>aY i n λl=>lE l (bi 110) λl=>Br l (lD 0 (pt k) q λl=>CR g a 32 #[l] q λl n=>lX l λl r=>ah 3 (pt p) λp=>St 1 n p l λl=>JE j [r] l) (lD 0 (pt k) q λk=>CR g a 20 #[b,k] q λk l=>JE j [k] l))) (bp d λj=>au i λk=>lL j k λj=>Br j (CR g a 16 #[e,(iv 14)] o λe j=>St 3 j (pt f) e λe=>aA 3 e (pt f) λj=>rt g (tP sZ j) e) (bp m λe=>yA [i0] o λj k l n=>lL l e λe=>Br e (ai 4 m l λe=>aA 4 n e λe=>lQ 4 n #[(.string (ByteArray.mk #[])),i0,i0,i0] 78 e λe o=>lM 1 b o λb=>ah 0 (pt e) λp=>ah 0 p λp=>Ld o p λp=>lR (.string) (ui 0) true o b p λb=>lX b λ_ b=>aY i l λi=>lE i (bi 115) λi=>lU i (λi=>Un .not b λb=>(lV o b i)) λi=>Br (Value.bool i) (ah 0 (pt e) λb=>ah 1 b λb=>Ld o b λb=>CR g a 16 #[b,(iv 15)] o λb e=>St 3 e (pt f) b λb=>aA 3 b (pt f) λe=>rt g (tP sZ e) b) (lA l i1 λb=>aI j k [b] o [l] n)) (Build Tryz.prog 27 [] λb=>St 3 n (pt f) b λb=>aA 3 b (pt f) λe=>rt g (tP m e) b)))) λb=>ae .str .eql c (.string (ByteArray.mk #[43])) λe=>Br e (bp d λd=>CR g a 31 #[(.string (ByteArray.mk #[110])),d] h λa d=>JE b [a] d) (JE b [c] h)
theorem yD:qE L19 19:=λh=>sd (zA (.h 1 [1] [0,2,3,9] .e (zA (.n (zA (zB (zE 0 [10,26] [0,1,2,3,9,24,25] (zA (zA (zB (zB (hN 3 (zF 1 [14] [0,1,2,3,9,10,12,13,24,25,26]))))))))) (zA (zB (zA (zB (zE 0 [74] [0,1,9,10,72,73] (zA (zA (zB (zB (zA (zA (zB (zF 0 [] [1]))))))))))))))))) func19 h
def L20:Y2:=λa b c d e=>CR e a 18 #[b,c] d λb d=>lX b λb f=>lQ 3 d #[(.string (ByteArray.mk #[])),(.string (ByteArray.mk #[])),.nilFunc] 54 b λ_ b=>CR e a 33 #[c] b λa b=>lU a (λa=>Un .not f λc=>(lV b c a)) λa=>rt e (Value.bool a) b
theorem yC:qC L20 20:=λh=>sd (zA (zA (zB (zF 0 [] [1])))) func20 h
def L21:Y4:=λa b c d e f g=>lW f #[(.string (ByteArray.mk #[])),i0,i0] 27 λf h=>DR h λi=>lM 0 b i λj=>aG Tryz.prog a (bQ Tryz.f21 1 6) (ev (λk=>cond (Nat.beq k 17) d (cond (Nat.beq k 18) e (undef)))) i λd=>CN a 34 #[j,d] h λd h=>aN h i/\
lX d λi j=>Ext 2 d λd=>lE d (iv 14) λk=>lO k (λk=>lE d (iv 2) λl=>(lV h l k)) λk=>lO (Value.bool k) (λk=>lE d (iv 7) λl=>(lV h l k)) λk=>Br (Value.bool k) (lA e j λe=>CR g a 16 #[e,d] h λe j=>St 3 j (pt f) e λe=>aA 3 e (pt f) λj=>rt g j e) (CR g a 35 #[b,c,i,d] h λa b=>St 3 b (pt f) a λa=>aA 3 a (pt f) λb=>rt g b a)
theorem yz:qE L21 21:=λh=>sd (zA (.n (zF 0 (yR 15) []) (zB (zB (zF 0 [] [1]))))) func21 h
def L22:Y2:=λ_ a b c d=>lK c b 58 λb c=>lD 2 (pt b) c λb=>yA [b] c λb c e f=>au a λg=>lL e g λg=>lU g (λg=>aY a e λa=>lE a (bi 32) λa=>(lV f a g)) λg=>Br (Value.bool g) (lA e i1 λa=>aI b c [a] f [e] f) (rt d e f)
theorem yy:qC L22 22:=λh=>sd (zA (zA (zB (zB (zE 0 [5] [0] (zB (zB (zF 0 [] [1])))))))) func22 h
def L23:Y2:=λa b c d e=>lW d #[(.pointer none)] 64 λd f=>lW f #[i0] 3 λf g=>lW g #[i0] 25 λg h=>au b λi=>lG i (iv 65536) λi=>Br i (St 1 h (pt d) (.pointer none) λi=>St 1 i (pt f) i0 λi=>St 1 i (pt g) (iv 13) λi=>Ld i (pt d) λj=>Ld i (pt f) λk=>Ld i (pt g) λl=>rt e (.tuple #[j,k,l]) i) (CF a 37 #[b] h (λb h=>Build Tryz.prog 94 [(0,b),(1,c)] λb=>lK h b 94 λb c=>CF a 38 #[(pt b),i0,i0] c (λc h=>St 1 h (pt d) c λc=>CF a 39 #[(pt b),i0] c (λ_ b=>Ld b (pt d) λc=>St 1 b (pt d) c λb=>St 1 b (pt f) i0 λb=>St 1 b (pt g) i0 λb=>je Tryz.prog 36 a #[(pt d),(pt f),(pt g)] .returning b λb=>Ld b (pt d) λc=>Ld b (pt f) λh=>Ld b (pt g) λi=>rt e (.tuple #[c,h,i]) b) (λb c=>∀_:Fr,je Tryz.prog 36 a #[(pt d),(pt f),(pt g)] (.panicking b) c λb=>Ld b (pt d) λc=>Ld b (pt f) λh=>Ld b (pt g) λi=>rt e (.tuple #[c,h,i]) b)) (λb c=>∀_:Fr,je Tryz.prog 36 a #[(pt d),(pt f),(pt g)] (.panicking b) c λb=>Ld b (pt d) λc=>Ld b (pt f) λh=>Ld b (pt g) λi=>rt e (.tuple #[c,h,i]) b)) (λb c=>∀_:Fr,je Tryz.prog 36 a #[(pt d),(pt f),(pt g)] (.panicking b) c λa=>Ld a (pt d) λb=>Ld a (pt f) λc=>Ld a (pt g) λd=>rt e (.tuple #[b,c,d]) a))
theorem yx(h:L23 g a0 a1 H R):sc g 23 #[a0,a1] H R:=
 EN func23 h zK
def L27:Y2:=λa b c d e=>CR e a 46 #[b] d λd f=>lX d λd g=>lN g i0 λg=>lO g (λg=>lL b i1 λh=>(lV f h g)) λg=>lO (Value.bool g) (λg=>lL c (iv 2) λh=>(lV f h g)) λg=>lO (Value.bool g) (λg=>lG c (iv 1048576) λh=>(lV f h g)) λg=>Br (Value.bool g) (rt e (tP (.pointer none) i1) f) (CR e a 47 #[b] f λf g=>lX f λf h=>lN h i0 λi=>Br i (rt e (tP (.pointer none) h) g) (CR e a 48 #[c,f] g λc f=>lX c λc g=>lQ 4 f #[(.pointer none),(.pointer none),sZ,sZ] 119 c λc f=>lN g i0 λh=>Br h (rt e (tP (.pointer none) g) f) (DR f λg=>aA 4 g (pt c) λc=>CN a 49 #[d] f λa f=>aN f g/\
Build Tryz.prog 124 [(0,c),(1,b),(2,d),(3,a)] λa=>lK f a 124 λa b=>aN b g/\
rt e (tP (pt a) i0) b)))
theorem oX:qC L27 27:=λh=>sd (zA (zA (.n (zB (zF 0 [] [1])) (hN 4 (zB (zF 0 (yR 9) [])))))) func27 h
def L28:Y1:=λ_ a b c=>Build Tryz.prog 54 [(0,(.string (ByteArray.mk #[110,101,119]))),(1,(.string (ByteArray.mk #[110,110]))),(2,(.func (.func 50) #[a] #[]))] λd=>Build Tryz.prog 54 [(0,(.string (ByteArray.mk #[97,110,100]))),(1,(.string (ByteArray.mk #[100,115,115]))),(2,(.func (.func 51) #[a] #[]))] λe=>Build Tryz.prog 54 [(0,(.string (ByteArray.mk #[111,114]))),(1,(.string (ByteArray.mk #[100,115,115]))),(2,(.func (.func 52) #[a] #[]))] λf=>Build Tryz.prog 54 [(0,(.string (ByteArray.mk #[120,111,114]))),(1,(.string (ByteArray.mk #[100,115,115]))),(2,(.func (.func 53) #[a] #[]))] λg=>Build Tryz.prog 54 [(0,(.string (ByteArray.mk #[110,111,116]))),(1,(.string (ByteArray.mk #[100,115]))),(2,(.func (.func 54) #[a] #[]))] λh=>Build Tryz.prog 54 [(0,(.string (ByteArray.mk #[100,114,111,112]))),(1,(.string (ByteArray.mk #[115]))),(2,(.func (.func 55) #[a] #[]))] λi=>Build Tryz.prog 54 [(0,(.string (ByteArray.mk #[115,104,111,119]))),(1,(.string (ByteArray.mk #[115]))),(2,(.func (.func 56) #[a] #[]))] λj=>Build Tryz.prog 54 [(0,(.string (ByteArray.mk #[101,118,97,108]))),(1,(.string (ByteArray.mk #[115,110]))),(2,(.func (.func 57) #[a] #[]))] λk=>Build Tryz.prog 54 [(0,(.string (ByteArray.mk #[115,97,116,115]))),(1,(.string (ByteArray.mk #[115]))),(2,(.func (.func 58) #[a] #[]))] λl=>Build Tryz.prog 54 [(0,(.string (ByteArray.mk #[108,101,97,115,116]))),(1,(.string (ByteArray.mk #[115]))),(2,(.func (.func 59) #[a] #[]))] λm=>Build Tryz.prog 54 [(0,(.string (ByteArray.mk #[115,97,109,101]))),(1,(.string (ByteArray.mk #[115,115]))),(2,(.func (.func 60) #[a] #[]))] λn=>Build Tryz.prog 54 [(0,(.string (ByteArray.mk #[108,105,118,101]))),(1,(.string (ByteArray.mk #[]))),(2,(.func (.func 61) #[a] #[]))] λo=>Build Tryz.prog 54 [(0,(.string (ByteArray.mk #[111,114,100,101,114]))),(1,(.string (ByteArray.mk #[43]))),(2,(.func (.func 62) #[a] #[]))] λp=>Build Tryz.prog 54 [(0,(.string (ByteArray.mk #[115,119,97,112]))),(1,(.string (ByteArray.mk #[110]))),(2,(.func (.func 63) #[a] #[]))] λq=>Build Tryz.prog 54 [(0,(.string (ByteArray.mk #[115,105,102,116]))),(1,(.string (ByteArray.mk #[110]))),(2,(.func (.func 64) #[a] #[]))] λr=>Build Tryz.prog 54 [(0,(.string (ByteArray.mk #[115,101,116,116,108,101]))),(1,(.string (ByteArray.mk #[110]))),(2,(.func (.func 65) #[a] #[]))] λs=>Build Tryz.prog 54 [(0,(.string (ByteArray.mk #[119,105,110,100,111,119]))),(1,(.string (ByteArray.mk #[110]))),(2,(.func (.func 66) #[a] #[]))] λt=>Build Tryz.prog 54 [(0,(.string (ByteArray.mk #[101,120,97,99,116]))),(1,(.string (ByteArray.mk #[]))),(2,(.func (.func 67) #[a] #[]))] λu=>Build Tryz.prog 54 [(0,(.string (ByteArray.mk #[110,97,109,101,115]))),(1,(.string (ByteArray.mk #[]))),(2,(.func (.func 68) #[a] #[]))] λa=>aj Tryz.prog 72 19 [(0,d),(1,e),(2,f),(3,g),(4,h),(5,i),(6,j),(7,k),(8,l),(9,m),(10,n),(11,o),(12,p),(13,q),(14,r),(15,s),(16,t),(17,u),(18,a)] b λa b=>rt c a b
theorem yw:qB L28 28:=λh=>sd .e func28 h
def L29:Y2:=λa b c d e=>bp b λf=>yA [i0] d λd g h i=>lL h f λf=>Br f (ai 3 b h λb=>aA 3 i b λb=>cr Tryz.prog a c #[b] i (λa b=>Br a (rt e h b) (lA h i1 λa=>aI d g [a] b [h] i)) (cP e)) (e (.returned (iv (-1))) i)
theorem yu:qC L29 29:=λh=>sd (zA (zB (zA (zB (zF 0 [8] [0,1,7]))))) func29 h
def L30:Y2:=λ_ a b c d=>lK c a 54 λa c=>lD 0 (pt a) c λa=>Ld c b λb=>ae .str .eql a b λa=>rt d a c
theorem yq:qC L30 30:=λh=>sd .e func30 h
def L31:Y2:=λa b c d e=>lE c i0 λf=>Br f (e (.returned (.string (ByteArray.mk #[]))) d) (lE c i1 λf=>Br f (rt e b d) (jA (λf=>au b λg=>aM .u64 g λg=>aM .u64 c λh=>CR e a 69 #[g,h] f λf g=>lX f λf h=>jA (λi=>aM .i64 h λj=>au b λk=>lE k i0 λk=>Br k (e (.returned (.string (ByteArray.mk #[]))) i) (jA (λk=>jB (λl m=>lW m #[(.pointer none),sZ] 129 λm n=>CR e a 71 #[(pt m),j] n λ_ n=>CR e a 72 #[(pt m),b] n λ_ n=>∃(o:Jt) (p:Mt),JE o [] n/\∀n:Hp,o [] n->∀_:Fr,
CR e a 73 #[(pt m)] n λq r=>lL q j λq=>Br q (CR e a 73 #[(pt m)] r λq s=>lS j q λq=>CR e a 73 #[(pt m)] s λs t=>aG Tryz.prog a (bQ Tryz.f31 39 5) (ev (λu=>cond (Nat.beq u 116) q (cond (Nat.beq u 117) s (cond (Nat.beq u 118) l (undef))))) t λl=>CR e a 74 #[(pt m)] t λq s=>aG Tryz.prog a (bQ Tryz.f31 40 2) (ev (λu=>cond (Nat.beq u 120) q (cond (Nat.beq u 121) l (undef)))) s λl=>CR e a 72 #[(pt m),l] s λ_ l=>aI o p [] l [] n) (CR e a 74 #[(pt m)] r λl m=>rt e l m)) λl=>lG j (iv 8192) λm=>Br m (au b λm=>ae .num .quo (iv 8192) m λm=>au b λn=>oM m n λm=>lE m i0 λn=>Br n (au b λn=>JE l [n] k) (JE l [m] k)) (JE l [j] k)) λk=>aY b i0 λl=>jB (λm n=>Br m (jB (λm o=>Br m (aG Tryz.prog a (bQ Tryz.f31 21 1) (ev (λu=>cond (Nat.beq u 56) j (undef))) o λm=>rt e m o) (jB (λm p=>Br m (aG Tryz.prog a (bQ Tryz.f31 23 1) (ev (λu=>cond (Nat.beq u 65) j (undef))) p λm=>rt e m p) (jB (λm q=>Br m (aG Tryz.prog a (bQ Tryz.f31 25 1) (ev (λu=>cond (Nat.beq u 74) j (undef))) q λm=>rt e m q) (jB (λm r=>Br m (aG Tryz.prog a (bQ Tryz.f31 27 1) (ev (λu=>cond (Nat.beq u 83) j (undef))) r λm=>rt e m r) (jB (λm s=>Br m (aG Tryz.prog a (bQ Tryz.f31 29 1) (ev (λu=>cond (Nat.beq u 92) j (undef))) s λm=>rt e m s) (JE k [] s)) λm=>oQ j (iv 64) λs=>Split s true (CR e a 70 #[(.string (ByteArray.mk #[9,9,9,9,9,9,9,9,9,9,9,9,9,9,9,9,9,9,9,9,9,9,9,9,9,9,9,9,9,9,9,9,9,9,9,9,9,9,9,9,9,9,9,9,9,9,9,9,9,9,9,9,9,9,9,9,9,9,9,9,9,9,9,9])),b] r λs t=>az vT s vF λs=>JE m [s] t) (az vF undef vF λs=>JE m [s] r))) λm=>oQ j (iv 128) λr=>Split r true (CR e a 70 #[(.string (ByteArray.mk #[61,61,61,61,61,61,61,61,61,61,61,61,61,61,61,61,61,61,61,61,61,61,61,61,61,61,61,61,61,61,61,61,61,61,61,61,61,61,61,61,61,61,61,61,61,61,61,61,61,61,61,61,61,61,61,61,61,61,61,61,61,61,61,61,61,61,61,61,61,61,61,61,61,61,61,61,61,61,61,61,61,61,61,61,61,61,61,61,61,61,61,61,61,61,61,61,61,61,61,61,61,61,61,61,61,61,61,61,61,61,61,61,61,61,61,61,61,61,61,61,61,61,61,61,61,61,61,61])),b] q λr s=>az vT r vF λr=>JE m [r] s) (az vF undef vF λr=>JE m [r] q))) λm=>oQ j (iv 64) λq=>Split q true (CR e a 70 #[(.string (ByteArray.mk #[48,48,48,48,48,48,48,48,48,48,48,48,48,48,48,48,48,48,48,48,48,48,48,48,48,48,48,48,48,48,48,48,48,48,48,48,48,48,48,48,48,48,48,48,48,48,48,48,48,48,48,48,48,48,48,48,48,48,48,48,48,48,48,48])),b] p λq r=>az vT q vF λq=>JE m [q] r) (az vF undef vF λq=>JE m [q] p))) λm=>oQ j (iv 128) λp=>Split p true (CR e a 70 #[(.string (ByteArray.mk #[45,45,45,45,45,45,45,45,45,45,45,45,45,45,45,45,45,45,45,45,45,45,45,45,45,45,45,45,45,45,45,45,45,45,45,45,45,45,45,45,45,45,45,45,45,45,45,45,45,45,45,45,45,45,45,45,45,45,45,45,45,45,45,45,45,45,45,45,45,45,45,45,45,45,45,45,45,45,45,45,45,45,45,45,45,45,45,45,45,45,45,45,45,45,45,45,45,45,45,45,45,45,45,45,45,45,45,45,45,45,45,45,45,45,45,45,45,45,45,45,45,45,45,45,45,45,45,45])),b] o λp q=>az vT p vF λp=>JE m [p] q) (az vF undef vF λp=>JE m [p] o))) λm=>oQ j (iv 128) λj=>Split j true (CR e a 70 #[(.string (ByteArray.mk #[32,32,32,32,32,32,32,32,32,32,32,32,32,32,32,32,32,32,32,32,32,32,32,32,32,32,32,32,32,32,32,32,32,32,32,32,32,32,32,32,32,32,32,32,32,32,32,32,32,32,32,32,32,32,32,32,32,32,32,32,32,32,32,32,32,32,32,32,32,32,32,32,32,32,32,32,32,32,32,32,32,32,32,32,32,32,32,32,32,32,32,32,32,32,32,32,32,32,32,32,32,32,32,32,32,32,32,32,32,32,32,32,32,32,32,32,32,32,32,32,32,32,32,32,32,32,32,32])),b] n λb j=>az vT b vF λb=>JE m [b] j) (az vF undef vF λb=>JE m [b] n)) (JE k [] n)) λb=>lE l (bi 32) λj=>Br j (JE b [j] i) (lE l (bi 45) λj=>Br j (JE b [j] i) (lE l (bi 48) λj=>Br j (JE b [j] i) (lE l (bi 61) λj=>Br j (JE b [j] i) (lE l (bi 9) λj=>JE b [j] i)))))) λb=>lG f (wi 0) λf=>lO f (λf=>lG h (wi 9223372036854775807) λh=>(lV g h f)) λf=>Br (Value.bool f) (cg Tryz.prog a (bQ Tryz.f31 10 1) (ev (λu=>cond (Nat.beq u 35) (.iface 9 (.string (ByteArray.mk #[115,116,114,105,110,103,115,58,32,82,101,112,101,97,116,32,111,117,116,112,117,116,32,108,101,110,103,116,104,32,111,118,101,114,102,108,111,119]))) (undef))) g (λ_ f=>JE b [] f) (cP e)) (JE b [] g)) λb=>lL c i0 λc=>Br c (cg Tryz.prog a (bQ Tryz.f31 7 1) (ev (λu=>cond (Nat.beq u 19) (.iface 9 (.string (ByteArray.mk #[115,116,114,105,110,103,115,58,32,110,101,103,97,116,105,118,101,32,82,101,112,101,97,116,32,99,111,117,110,116]))) (undef))) d (λ_ a=>JE b [] a) (cP e)) (JE b [] d)))
theorem yp:qC L31 31:=λh=>sd (zA (zA (.h 1 [] [0,1] .e (zA (.h 1 [] [0,6] (zB (zF 0 [] [1])) (zA (zA (.h 1 [] [0,7] (zA (zB (.h 1 [43] [0,7] .e (zB (zB (.h 1 [49] [0,7] .e (zA (.h 1 [58] [0,7] .e (zA (.h 1 [67] [0,7] .e (zA (.h 1 [76] [0,7] .e (zA (zF 1 [85] [0,7])))))))))))))) (zA (.h 1 [8] [0,7] .e (hN 3 (zB (zB (zF 0 [] [7,8,9])))))))))))))) func31 h
def L32:Y1:=λ_ a b c=>au a λd=>lL d i1 λd=>lO d (λd=>au a λe=>lG e (iv 18) λe=>(lV b e d)) λd=>Br (Value.bool d) (rt c (tP i0 vF) b) (au a λd=>yB [i0,i0] b λb e f g h=>lL g d λd=>Br d (aY a g λd=>lL d (bi 48) λd=>lO d (λd=>aY a g λi=>lG i (bi 57) λi=>(lV h i d)) λd=>Br (Value.bool d) (rt c (tP i0 vF) h) (oM (iv 10) f λd=>aY a g λa=>lS a (bi 48) λa=>aM .i64 a λa=>lA d a λa=>lA g i1 λd=>aI b e [a,d] h [f,g] h)) (rt c (tP f vT) h))
theorem yo:qB L32 32:=λh=>sd (zA (.n (zB (zF 0 [] [1])) (zA (zB (zA (zB (zE 0 [4,16] [0,15] (zA (zA (zB (zB (zA (zB (zB (zF 0 [] [1]))))))))))))))) func32 h
def L33:Y1:=λ_ a b c=>au a λd=>yA [i0] b λb e f g=>lL f d λd=>Br d (aY a f λd=>lL d (bi 97) λd=>lO d (λd=>aY a f λh=>lG h (bi 122) λh=>(lV g h d)) λd=>Br (Value.bool d) (rt c vF g) (lA f i1 λd=>aI b e [d] g [f] g)) (au a λb=>oG b i1 λb=>lU b (λb=>au a λa=>oQ a (iv 16) λa=>(lV g a b)) λb=>rt c (Value.bool b) g)
theorem yn:qB L33 33:=λh=>sd (zA (.n (zA (zB (zE 0 [6] [0,5] (zA (zA (zB (zB (zA (zB (zF 0 [] [1])))))))))) (zB (zF 0 [] [1])))) func33 h
def L34:Y2:=λa b c d e=>oP b λf=>Br f (rt e (.tuple #[(ui 0),i0,(iv 10)]) d) (CR e a 75 #[b] d λd f=>CR e a 23 #[c,d] f λc d=>lX c λf g=>Ext 2 c λc=>lN c i0 λh=>Br h (rt e (.tuple #[(ui 0),g,c]) d) (CR e a 76 #[b,f] d λa b=>lX a λa c=>rt e (.tuple #[a,i0,c]) b))
theorem ym:qC L34 34:=λh=>sd .e func34 h
variable {g:Gh} {a0 a1 a2 a3 a4 a5 a6 a7 a8 a9 GJ GI JA Jz Jy Jx:zV} {H:Hp} {R:Rt}
def L35:Y4:=λa b c d e f g=>lW f #[(.string (ByteArray.mk #[])),i0,i0] 27 λf h=>lN e i0 λi=>Br i (CR g a 16 #[i0,e] h λe i=>St 3 i (pt f) e λe=>aA 3 e (pt f) λi=>rt g i e) (CR g a 77 #[b,c,d] h λa b=>St 3 b (pt f) a λa=>aA 3 a (pt f) λb=>rt g b a)
theorem oW:qE L35 35:=λh=>sd .e func35 h
def L37:Y1:=λa b c d=>cg zQ a (bQ Tryz.f37 3 1) (ev (λe=>cond (Nat.beq e 13) b (undef))) c (λc f=>yB [sZ,i0] f λf g h i j=>cg zQ a (bQ Tryz.f37 4 0) (ev (λe=>cond (Nat.beq e 14) c (undef))) j (λc k=>Ext 0 c λl=>Br l (Ext 1 c λl=>Ext 2 c λc=>lL l i λm=>lO m (λm=>lE c (Value.int .i32 32) λn=>(lV k n m)) λm=>Br (Value.bool m) (aI f g [h,i] k [h,i] j) (Build zQ 141 [(0,(iv 16)),(1,l),(2,i0)] λm=>lQ 3 k #[i0,i0,i0] 141 m λm n=>jB (λo p=>CR d a 79 #[] p λp q=>bp p λr=>yB [o,i0] q λo q s t u=>lL t r λr=>Br r (jB (λr v=>lA t i1 λw=>aI o q [r,w] v [s,t] u) λo=>ai 2 p t λp=>aA 2 u p λp=>lQ 2 u #[(.string (ByteArray.mk #[])),i0] 146 p λp q=>jB (λr t=>Br r (DR t λr=>lD 1 (pt p) r λv=>Build zQ 141 [(0,v),(1,l),(2,i0)] λv=>lD 0 (pt p) r λw=>au w λw=>St 3 t (pt m) v λv=>aN v r/\
JE o [w] v) (JE o [s] t)) λo=>DR q λr=>lE s i0 λt=>Br t (aG zQ a (bQ Tryz.f37 15 5) (ev (λe=>cond (Nat.beq e 54) b (cond (Nat.beq e 55) l (undef)))) r λt=>lD 0 (pt p) r λp=>∀r:Hp,
CN (a.add r) 70 #[t,p] q λp r=>az vT p vF λp=>JE o [p] r) (JE o [vF] q)) (aA 3 u (pt m) λo=>aj zQ 91 1 [(0,o)] u λo p=>App zQ 141 3 24 (.agg #[i0,i0,i0]) p h o λo p=>lD 0 (pt m) p λq=>lE q (iv 16) λq=>Br q (rt d o p) (lA l s λq=>aI f g [o,q] p [h,i] j))) λf=>lE c (Value.int .i32 120) λc=>Br c (lA l i1 λc=>aG zQ a (bQ Tryz.f37 9 3) (ev (λe=>cond (Nat.beq e 31) b (cond (Nat.beq e 33) c (undef)))) n λc=>CR d a 78 #[c] n λa c=>lX a λa e=>lG e i0 λg=>Br g (Build zQ 141 [(0,(iv 3)),(1,l),(2,a)] λa=>lA i1 e λe=>St 3 c (pt m) a λa=>JE f [e] a) (JE f [i0] c)) (JE f [i0] n))) (au b λa=>Build zQ 141 [(0,i0),(1,a),(2,i0)] λa=>aj zQ 91 1 [(0,a)] k λa b=>App zQ 141 3 24 (.agg #[i0,i0,i0]) b h a λa b=>rt d a b)) (cP d)) (cP d)
theorem yl:qB L37 37:=λh=>sd (hN 3 (zB (zA (zB (zE 0 [3,4] [0,14] (zA (zA (zB (zA (.n (zB (zF 0 [] [1])) (zA (.h 1 [8] [0,3,5,7,14] .e (zB (zA (zB (zE 0 [8,47] [0,3,5,7,14,45,46] (zA (zA (zE 1 [8] [0,3,5,7,14,45,46,47] (zB (zA (.h 1 [60] [0,3,5,7,8,12,14,45,46,47] (zE 1 [] [] (hr 0 [] 0 2 (.h 2 [2] [] (hr 0 [] 3 7 .e) (hr 0 [] 3 6 (zF 3 [9] []))))) (zB (zF 0 (yR 9) [])))))))))))))))))))))))) func37 h
def L38:Y3:=λa b c d e f=>lE c (iv 5) λg=>Br g (CR f a 80 #[b,d] e λg h=>rt f g h) (CR f a 81 #[c] e λe g=>lA c i1 λh=>CR f a 38 #[b,h,d] g λg h=>yA [g] h λg h i j=>CR f a 82 #[b] j λk l=>BY 0 k λk=>lE k e λk=>Br k (CR f a 83 #[b] l λ_ k=>lE e (iv 8) λm=>Br m (CR f a 38 #[b,c,d] k λm n=>aj zQ 99 2 [(0,i),(1,m)] n λm n=>Build zQ 101 [(0,(iv 8)),(2,m)] λm=>lK n m 101 λm n=>rt f (pt m) n) (lA c i1 λc=>CR f a 38 #[b,c,d] k λa b=>aj zQ 99 2 [(0,i),(1,a)] b λa b=>Build zQ 101 [(0,e),(2,a)] λa=>lK b a 101 λa b=>aI g h [(pt a)] b [i] j)) (rt f i l))
theorem yj:qD L38 38:=λh=>sd (hN 4 (zB (zB (zF 0 [8] [0,1,2,7])))) func38 h
def L39:Y2:=λa b c d e=>CR e a 83 #[b] d λb d=>lQ 3 d #[i0,i0,i0] 141 b λb d=>lD 0 (pt b) d λf=>lN f c λc=>Br c (aA 3 d (pt b) λb=>CR e a 84 #[b,(iv 14)] d λ_ a=>rt e (.tuple #[]) a) (rt e (.tuple #[]) d)
theorem yh:qC L39 39:=λh=>sd .e func39 h
def L46:Y1:=λa b c d=>lL b i0 λe=>lO e (λe=>lG b (iv 64) λf=>(lV c f e)) λe=>Br (Value.bool e) (rt d (tP sZ i1) c) (CR d a 95 #[b] c λa b=>rt d (tP a i0) b)
theorem oV:qB L46 46:=λh=>sd (zA (zB (zB (zF 0 [] [1])))) func46 h
def L47:Y1:=λ_ a b c=>lL a i1 λd=>lO d (λd=>lG a (iv 64) λe=>(lV b e d)) λd=>Br (Value.bool d) (rt c (tP (.pointer none) i1) b) (dG 160 1 8 (.map none) b a a λb d=>Build zQ 159 [(0,b)] λb=>lK d b 159 λb d=>yA [i0] d λd e f g=>lL f a λa=>Br a (lM 0 (pt b) g λa=>oT g λh i=>ai 1 a f λa=>St 1 i a h λa=>lA f i1 λh=>aI d e [h] a [f] g) (rt c (tP (pt b) i0) g))
theorem yg:qB L47 47:=λh=>sd (zA (.n (zB (zF 0 [] [1])) (zA (zB (zA (zB (zF 0 [17] [4,16]))))))) func47 h
def L48:Y2:=λa b c d e=>lW d #[(.pointer none),(.pointer none),sZ,sZ] 119 λd f=>CR e a 96 #[b] f λa b=>lX a λa f=>Build zQ 119 [(0,a),(1,c)] λa=>St 4 b (pt d) a λa=>aA 4 a (pt d) λb=>rt e (tP b f) a
theorem yf:qC L48 48:=λh=>sd .e func48 h
def L49:Y1:=λ_ a b c=>ae .slice .eql a sZ λd=>Br d (rt c sZ b) (aj zQ 110 0 [] b λb d=>App zQ 3 1 8 i0 d b a λa b=>rt c a b)
theorem ye:qB L49 49:=λh=>sd .e func49 h
def L50:Y2:=λa b c d e=>lW d #[(.string (ByteArray.mk #[])),i0,i0] 27 λd f=>ai 4 c i0 λg=>ah 3 g λg=>Ld f g λg=>lL g i1 λg=>lO g (λg=>ai 4 c i0 λh=>ah 3 h λh=>Ld f h λh=>lG h (iv 64) λh=>(lV f h g)) λg=>Br (Value.bool g) (ai 4 c i0 λg=>ah 0 g λg=>ah 1 g λg=>Ld f g λg=>CR e a 16 #[g,i1] f λg h=>St 3 h (pt d) g λg=>aA 3 g (pt d) λh=>rt e h g) (DR f λg=>ai 4 c i0 λh=>ah 3 h λh=>Ld g h λh=>ai 4 c i1 λi=>ah 3 i λi=>Ld g i λi=>CN a 27 #[h,i] f λf h=>aN h g/\
lX f λf g=>lN g i0 λi=>Br i (ai 4 c i1 λc=>ah 0 c λc=>ah 1 c λc=>Ld h c λc=>CR e a 16 #[c,g] h λa c=>St 3 c (pt d) a λa=>aA 3 a (pt d) λc=>rt e c a) (lC 0 b λa=>St 1 h a f λa=>oT a λa c=>lC 1 b λb=>St 1 c b a λa=>Build zQ 27 [] λb=>St 3 a (pt d) b λa=>aA 3 a (pt d) λb=>rt e b a))
theorem yd:qC L50 50:=λh=>sd (zA (.n (zB (zF 0 [] [1])) (zB (zF 0 (yR 14) [])))) func50 h
def L61:Y2:=λa b _ c d=>lW c #[(.string (ByteArray.mk #[])),i0,i0] 27 λc e=>lM 0 b e λb=>CR d a 111 #[b] e λb e=>CR d a 110 #[b] e λb e=>CR d a 103 #[b,i0] e λa b=>St 3 b (pt c) a λa=>aA 3 a (pt c) λb=>rt d b a
theorem yc:qC L61 61:=λh=>sd .e func61 h
def L62:Y2:=λa b c d e=>lW d #[(.string (ByteArray.mk #[])),i0,i0] 27 λd f=>bp c λg=>lE g i0 λg=>Br g (lM 0 b f λg=>CR e a 112 #[g] f λg h=>bp g λi=>yB [sZ,i0] h λh j k l m=>lL l i λi=>Br i (lI 1 g l m λg=>CR e a 110 #[g] m λg i=>aj zQ 30 1 [(0,g)] i λg i=>App zQ 9 1 16 (.string (ByteArray.mk #[])) i k g λg i=>lA l i1 λn=>aI h j [g,n] i [k,l] m) (CR e a 113 #[k,(.string (ByteArray.mk #[32]))] m λg h=>CR e a 103 #[g,i0] h λg h=>St 3 h (pt d) g λg=>aA 3 g (pt d) λh=>rt e h g)) (bp c λg=>lM 0 b f λh=>CR e a 75 #[h] f λf h=>lN g f λf=>Br f (CR e a 16 #[i0,i1] h λf g=>St 3 g (pt d) f λf=>aA 3 f (pt d) λg=>rt e g f) (bp c λf=>yB [sZ,i0] h λg h i j k=>lL j f λf=>Br f (ai 4 c j λc=>aA 4 k c λc=>lQ 4 k #[(.string (ByteArray.mk #[])),i0,i0,i0] 78 c λc f=>lD 3 (pt c) f λc=>aj zQ 110 1 [(0,c)] f λc f=>App zQ 3 1 8 i0 f i c λc f=>lA j i1 λl=>aI g h [c,l] f [i,j] k) (lM 0 b k λb=>CR e a 114 #[b,i] k λb c=>lX b λb f=>CR e a 110 #[b] c λb c=>CR e a 103 #[b,f] c λa b=>St 3 b (pt d) a λa=>aA 3 a (pt d) λb=>rt e b a)))
theorem yb:qC L62 62:=λh=>sd (zA (.n (zA (zB (zA (zB (zA (zB (zF 0 [5,22] [4,20,21]))))))) (zA (zA (zB (zA (zB (zF 0 [8,46] [0,4,44,45])))))))) func62 h
def L63:Y2:=λa b c d e=>lW d #[(.string (ByteArray.mk #[])),i0,i0] 27 λd f=>DR f λg=>lM 0 b g λb=>ai 4 c i0 λc=>ah 3 c λc=>Ld g c λc=>CN a 115 #[b,c] f λb c=>CN a 103 #[(.string (ByteArray.mk #[])),b] c λa b=>aN b g/\
St 3 b (pt d) a λa=>aA 3 a (pt d) λb=>rt e b a
theorem ya:qC L63 63:=λh=>sd (zA (zB (zF 0 (yR 11) []))) func63 h
def L64:Y2:=λa b c d e=>lW d #[(.string (ByteArray.mk #[])),i0,i0] 27 λd f=>ai 4 c i0 λc=>ah 3 c λc=>Ld f c λc=>CR e a 116 #[b,(bi 1),c] f λa b=>St 3 b (pt d) a λa=>aA 3 a (pt d) λb=>rt e b a
theorem x9:qC L64 64:=λh=>sd .e func64 h
def L66:Y2:=λa b c d e=>lW d #[(.string (ByteArray.mk #[])),i0,i0] 27 λd f=>ai 4 c i0 λg=>ah 3 g λg=>Ld f g λg=>lL g (iv 2) λg=>lO g (λg=>ai 4 c i0 λh=>ah 3 h λh=>Ld f h λh=>lG h (iv 4) λh=>(lV f h g)) λg=>Br (Value.bool g) (ai 4 c i0 λg=>ah 0 g λg=>ah 1 g λg=>Ld f g λg=>CR e a 16 #[g,i1] f λg h=>St 3 h (pt d) g λg=>aA 3 g (pt d) λh=>rt e h g) (ai 4 c i0 λc=>ah 3 c λc=>Ld f c λc=>lS c (iv 2) λc=>aM .u8 c λc=>lA (bi 3) c λc=>CR e a 116 #[b,c,(iv 100)] f λa b=>St 3 b (pt d) a λa=>aA 3 a (pt d) λb=>rt e b a)
theorem x7:qC L66 66:=λh=>sd (zA (zB (zB (zF 0 [] [1])))) func66 h
def L68:Y2:=λa b _ c d=>lW c #[(.string (ByteArray.mk #[])),i0,i0] 27 λc e=>lM 1 b e λb=>CR d a 118 #[b] e λb e=>CR d a 117 #[b] e λb e=>CR d a 113 #[b,(.string (ByteArray.mk #[32]))] e λb e=>CR d a 103 #[b,i0] e λa b=>St 3 b (pt c) a λa=>aA 3 a (pt c) λb=>rt d b a
theorem x5:qC L68 68:=λh=>sd .e func68 h
def L69:Y2:=λa b c d e=>Br vF (aM .u32 b λf=>aM .u32 c λg=>CR e a 119 #[f,g] d λf g=>lX f λf h=>aM .u64 f λf=>aM .u64 h λh=>rt e (tP f h) g) (CR e a 120 #[b,c] d λa b=>lX a λa c=>rt e (tP a c) b)
theorem x3:qC L69 69:=λh=>sd .e func69 h
def L70:Y2:=λa b c d e=>CR e a 121 #[b,c] d λa b=>rt e a b
theorem xZ:qC L70 70:=λh=>sd .e func70 h
def L71:Y2:=λa b c d e=>CR e a 122 #[b] d λ_ d=>jA (λf=>lM 1 b f λg=>aG zQ a (bQ Tryz.f71 3 4) (ev (λh=>cond (Nat.beq h 12) g (undef))) f λg=>lM 1 b f λi=>bp i λi=>lS g i λg=>lL g c λg=>Br g (CR e a 123 #[b,c] f λ_ b=>rt e (.tuple #[]) b) (rt e (.tuple #[]) f)) λb=>lL c i0 λc=>Br c (cg zQ a (bQ Tryz.f71 2 1) (ev (λh=>cond (Nat.beq h 8) (.iface 9 (.string (ByteArray.mk #[115,116,114,105,110,103,115,46,66,117,105,108,100,101,114,46,71,114,111,119,58,32,110,101,103,97,116,105,118,101,32,99,111,117,110,116]))) (undef))) d (λ_ a=>JE b [] a) (cP e)) (JE b [] d)
theorem xY:qC L71 71:=λh=>sd (zA (zF 1 [] [0,1])) func71 h
def L72:Y2:=λa b c d e=>CR e a 122 #[b] d λ_ d=>lM 1 b d λf=>cg zQ a (bQ Tryz.f72 2 6) (ev (λa=>cond (Nat.beq a 12) f (cond (Nat.beq a 13) c (undef)))) d (λa d=>lC 1 b λb=>St 1 d b a λa=>au c λb=>rt e (tP b .nilIface) a) (cP e)
theorem xX:qC L72 72:=λh=>sd .e func72 h
def L73:Y1:=λ_ a b c=>lM 1 a b λa=>bp a λa=>rt c a b
theorem xW:qB L73 73:=λh=>sd .e func73 h
def L74:Y1:=λa b c d=>DR c λe=>lM 1 b e λf=>lM 1 b e λb=>bp b λb=>cg zQ a (bQ Tryz.f74 1 4) (ev (λg=>cond (Nat.beq g 6) f (undef))) c (λc f=>aN f e/\
cg zQ a (bQ Tryz.f74 1 10) (ev (λg=>cond (Nat.beq g 7) c (cond (Nat.beq g 12) b (undef)))) f (λa b=>aN b e/\
rt d a b) DO) DO
theorem xV:qB L74 74:=λh=>sd (zA (zB (zF 0 [0,1,2,3,5,6,7,8,9,4,10,11] []))) func74 h
def L75:Y1:=λ_ a b c=>oP a λd=>Br d (rt c i0 b) (lM 4 a b λa=>rt c a b)
theorem xU:qB L75 75:=λh=>sd .e func75 h
def L76:Y2:=λa b c d e=>lK d b 45 λb d=>lW d #[sZ] 189 λd f=>lM 2 c f λg=>bp g λh=>yA [i0] f λf i j k=>lL j h λh=>Br h (lI 1 g j k λg=>Ld k (pt b) λh=>CF a 76 #[h,g] k (λg h=>lX g λg l=>lN l i0 λm=>Br m (gu zQ a 124 #[(pt d),(pt b)] h λm=>rt e (tP (ui 0) l) m) (Ld h (pt d) λl=>aj zQ 189 1 [(0,g)] h λg h=>App zQ 82 1 4 (ui 0) h l g λg h=>St 1 h (pt d) g λg=>lA j i1 λh=>aI f i [h] g [j] k)) M7) (lM 0 c k λf=>jB (λg h=>Br g (DR h λg=>Ld g (pt b) λi=>lM 0 c g λj=>lE j (iv 2) λj=>CN a 125 #[i,j] h λi j=>aN j g/\
lX i λg i=>gu zQ a 124 #[(pt d),(pt b)] j λj=>rt e (tP g i) j) (lE f (iv 3) λg=>Br g (DR h λg=>Ld g (pt b) λi=>lM 1 c g λc=>CN a 126 #[i,c] h λc i=>aN i g/\
lX c λc g=>gu zQ a 124 #[(pt d),(pt b)] i λi=>rt e (tP c g) i) (lE f (iv 4) λc=>Br c (DR h λc=>Ld c (pt b) λg=>Ld c (pt d) λi=>lI 1 i i0 c λi=>CN a 101 #[g,i] h λg i=>aN i c/\
lX g λc g=>gu zQ a 124 #[(pt d),(pt b)] i λi=>rt e (tP c g) i) (lE f (iv 5) λc=>Br c (DR h λc=>Ld c (pt b) λg=>Ld c (pt d) λi=>lI 1 i i0 c λi=>Ld c (pt d) λj=>lI 1 j i1 c λj=>CN a 98 #[g,i,j] h λg i=>aN i c/\
lX g λc g=>gu zQ a 124 #[(pt d),(pt b)] i λi=>rt e (tP c g) i) (lE f (iv 6) λc=>Br c (DR h λc=>Ld c (pt b) λg=>Ld c (pt d) λi=>lI 1 i i0 c λi=>Ld c (pt d) λj=>lI 1 j i1 c λj=>CN a 100 #[g,i,j] h λg i=>aN i c/\
lX g λc g=>gu zQ a 124 #[(pt d),(pt b)] i λi=>rt e (tP c g) i) (lE f (iv 7) λc=>Br c (DR h λc=>Ld c (pt b) λg=>Ld c (pt d) λi=>lI 1 i i0 c λi=>Ld c (pt d) λj=>lI 1 j i1 c λj=>CN a 99 #[g,i,j] h λg i=>aN i c/\
lX g λc g=>gu zQ a 124 #[(pt d),(pt b)] i λi=>rt e (tP c g) i) (lE f (iv 8) λc=>Br c (DR h λc=>Ld c (pt b) λg=>Ld c (pt d) λi=>lI 1 i i0 c λi=>Ld c (pt d) λj=>lI 1 j i1 c λj=>CN a 127 #[g,(bi 11),i,j] h λg i=>aN i c/\
lX g λc g=>gu zQ a 124 #[(pt d),(pt b)] i λi=>rt e (tP c g) i) (lE f (iv 9) λc=>Br c (DR h λc=>Ld c (pt b) λg=>Ld c (pt d) λi=>lI 1 i i0 c λi=>Ld c (pt d) λj=>lI 1 j i1 c λj=>CN a 127 #[g,(bi 9),i,j] h λg i=>aN i c/\
lX g λc g=>gu zQ a 124 #[(pt d),(pt b)] i λi=>rt e (tP c g) i) (DR h λc=>Ld c (pt b) λg=>Ld c (pt d) λi=>lI 1 i i0 c λi=>Ld c (pt d) λj=>lI 1 j i1 c λj=>Ld c (pt d) λl=>lI 1 l (iv 2) c λl=>CN a 128 #[g,i,j,l] h λg h=>aN h c/\
lX g λc g=>gu zQ a 124 #[(pt d),(pt b)] h λa=>rt e (tP c g) a))))))))) λa=>lE f i1 λb=>Br b (JE a [b] k) (lE f (iv 2) λb=>JE a [b] k))
theorem xS(h:L76 g a0 a1 H R):sc g 76 #[a0,a1] H R:=
 y9 (hn:=(hN 3 (.n (zA (zB (zF 0 [17] [1,2,6,15,16]))) (.n (zA (zB (.h 1 [39] [1,2,6,38] .e (.n (zB (zF 0 (yR 11) [])) (zA (.n (zB (zF 0 (yR 10) [])) (zA (.n (zB (zF 0 (yR 9) [])) (zA (.n (zB (zF 0 (yR 12) [])) (zA (.n (zB (zF 0 (yR 12) [])) (zA (.n (zB (zF 0 (yR 12) [])) (zA (.n (zB (zF 0 (yR 12) [])) (zA (zB (zB (zF 0 (yR 12) [])))))))))))))))))))) (zB (zF 0 (yR 15) [])))))) func76 h zK
def L77:Y3:=λa b c d e f=>lW e #[(.string (ByteArray.mk #[])),i0,i0] 27 λe g=>jA (λh=>lM 1 b h λi=>jc (.string) h i c d λh=>lM 0 b h λi=>aj zQ 189 1 [(0,d)] h λd h=>CR f a 129 #[i,d] h λd h=>lX d λd i=>CR f a 110 #[d] h λd h=>CR f a 103 #[d,i] h λd h=>St 3 h (pt e) d λd=>aA 3 d (pt e) λe=>rt f e d) λd=>lM 1 b g λe=>lR (.string) (ui 0) true g e c λc=>lX c λc e=>Br e (lM 0 b g λb=>CR f a 102 #[b,c] g λ_ a=>JE d [] a) (JE d [] g)
theorem xR:qD L77 77:=λh=>sd (zA (zF 1 [] [0,1,2,6])) func77 h
def L78:Y1:=λa b c d=>jC (λe f g=>rt d (tP e f) g) λe=>cg zQ a (bQ Tryz.f78 2 1) (ev (λf=>cond (Nat.beq f 8) b (undef))) c (λb c=>yB [i0,i0] c λc g h i j=>cg zQ a (bQ Tryz.f78 3 0) (ev (λf=>cond (Nat.beq f 9) b (undef))) j (λa b=>Ext 0 a λf=>Br f (Ext 2 a λa=>lL a (Value.int .i32 48) λf=>lO f (λf=>lG a (Value.int .i32 57) λk=>(lV b k f)) λf=>lO (Value.bool f) (λf=>lE i i1 λk=>bO k true (λk=>lE h i0 λl=>(lV b l k)) (λk=>vF=Value.bool k) λk=>∀_:Fr,
(lV b (Value.bool k) f)) λf=>Br (Value.bool f) (JE e [h,i] b) (oM (iv 10) h λf=>lS a (Value.int .i32 48) λa=>aM .i64 a λa=>lA f a λa=>xE a (iv 1048576) λa=>lA i i1 λf=>aI c g [a,f] b [h,i] j)) (JE e [h,i] b)) (cP d)) (cP d)
theorem xQ:qB L78 78:=λh=>sd (zA (zA (zE 1 [4,5] [] (zA (zB (zE 0 [4,5] [9] (zA (zA (zB (zA (zB (zB (zF 0 [] [1]))))))))))))) func78 h
def L79:Y0:=λ_ a b=>Build zQ 146 [(0,(.string (ByteArray.mk #[60,45,62]))),(1,(iv 9))] λc=>Build zQ 146 [(0,(.string (ByteArray.mk #[45,62]))),(1,(iv 8))] λd=>Build zQ 146 [(0,(.string (ByteArray.mk #[48]))),(1,i1)] λe=>Build zQ 146 [(0,(.string (ByteArray.mk #[49]))),(1,(iv 2))] λf=>Build zQ 146 [(0,(.string (ByteArray.mk #[33]))),(1,(iv 4))] λg=>Build zQ 146 [(0,(.string (ByteArray.mk #[38]))),(1,(iv 5))] λh=>Build zQ 146 [(0,(.string (ByteArray.mk #[94]))),(1,(iv 6))] λi=>Build zQ 146 [(0,(.string (ByteArray.mk #[124]))),(1,(iv 7))] λj=>Build zQ 146 [(0,(.string (ByteArray.mk #[40]))),(1,(iv 10))] λk=>Build zQ 146 [(0,(.string (ByteArray.mk #[41]))),(1,(iv 11))] λl=>Build zQ 146 [(0,(.string (ByteArray.mk #[91]))),(1,(iv 12))] λm=>Build zQ 146 [(0,(.string (ByteArray.mk #[63]))),(1,(iv 13))] λn=>Build zQ 146 [(0,(.string (ByteArray.mk #[58]))),(1,(iv 14))] λo=>Build zQ 146 [(0,(.string (ByteArray.mk #[93]))),(1,(iv 15))] λp=>aj zQ 144 14 [(0,c),(1,d),(2,e),(3,f),(4,g),(5,h),(6,i),(7,j),(8,k),(9,l),(10,m),(11,n),(12,o),(13,p)] a λa c=>rt b a c
theorem xP:qA L79 79:=λh=>sd .e func79 h
def L80:Y2:=λa b c d e=>CR e a 83 #[b] d λd f=>lQ 3 f #[i0,i0,i0] 141 d λd f=>lD 0 (pt d) f λg=>jB (λh i=>Br h (lD 0 (pt d) i λh=>Build zQ 101 [(0,h)] λh=>lK i h 101 λh j=>rt e (pt h) j) (lE g (iv 3) λh=>Br h (jA (λh=>lD 2 (pt d) h λj=>Build zQ 101 [(0,(iv 3)),(1,j)] λj=>lK h j 101 λh j=>rt e (pt h) j) λh=>lD 2 (pt d) i λj=>lM 1 b i λk=>oG j k λj=>Br j (aA 3 i (pt d) λj=>CR e a 84 #[j,(iv 2)] i λ_ j=>JE h [] j) (JE h [] i)) (lE g (iv 4) λh=>Br h (aA 3 i (pt d) λh=>CR e a 130 #[h,c] i λh j=>CR e a 80 #[b,h] j λh j=>aj zQ 99 1 [(0,h)] j λh j=>Build zQ 101 [(0,(iv 4)),(2,h)] λh=>lK j h 101 λh j=>rt e (pt h) j) (lE g (iv 10) λh=>Br h (aA 3 i (pt d) λh=>CR e a 130 #[h,c] i λh j=>CR e a 38 #[b,i0,h] j λh j=>CR e a 39 #[b,(iv 11)] j λ_ j=>rt e h j) (lE g (iv 12) λh=>Br h (aA 3 i (pt d) λh=>CR e a 130 #[h,c] i λc h=>CR e a 38 #[b,i0,c] h λh j=>CR e a 39 #[b,(iv 13)] j λ_ j=>CR e a 38 #[b,i0,c] j λj k=>CR e a 39 #[b,(iv 14)] k λ_ k=>CR e a 38 #[b,i0,c] k λc k=>CR e a 39 #[b,(iv 15)] k λ_ b=>aj zQ 99 3 [(0,h),(1,j),(2,c)] b λb c=>Build zQ 101 [(0,(iv 12)),(2,b)] λb=>lK c b 101 λb c=>rt e (pt b) c) (aA 3 i (pt d) λb=>CR e a 84 #[b,(iv 14)] i λ_ a=>rt e (.pointer none) a)))))) λa=>lE g i1 λb=>Br b (JE a [b] f) (lE g (iv 2) λb=>JE a [b] f)
theorem xO:qC L80 80:=λh=>sd (zA (zA (zB (zA (zB (.h 1 [14] [0,1,5,13] .e (zA (zA (zB (zF 1 [] [5])))))))))) func80 h
def L81:Y1:=λ_ a b c=>aj zQ 196 5 [(0,(iv 9)),(1,(iv 8)),(2,(iv 7)),(3,(iv 6)),(4,(iv 5))] b λb d=>lI 1 b a d λa=>rt c a d
theorem xN:qB L81 81:=λh=>sd .e func81 h
def L82:Y1:=λ_ a b c=>lW b #[i0,i0,i0] 141 λb d=>lM 0 a d λa=>ai 3 a i0 λa=>aA 3 d a λa=>St 3 d (pt b) a λa=>aA 3 a (pt b) λb=>rt c b a
theorem xM:qB L82 82:=λh=>sd .e func82 h
def L83:Y1:=λ_ a b c=>lW b #[i0,i0,i0] 141 λb d=>lM 0 a d λe=>ai 3 e i0 λe=>aA 3 d e λe=>lQ 3 d #[i0,i0,i0] 141 e λd e=>lM 0 a e λf=>bT 3 f (some i1) none λf=>lC 0 a λa=>St 1 e a f λa=>aA 3 a (pt d) λd=>St 3 a (pt b) d λa=>aA 3 a (pt b) λb=>rt c b a
theorem xL:qB L83 83:=λh=>sd .e func83 h
def L84:Y2:=λa b c d e=>lK d b 141 λb d=>lD 1 (pt b) d λb=>Build zQ 88 [(0,b),(1,c)] λb=>cg zQ a (bQ Tryz.f84 1 5) (ev (λa=>cond (Nat.beq a 8) (.iface 88 b) (undef))) d (λ_ a=>rt e (.tuple #[]) a) (cP e)
theorem xK:qC L84 84:=λh=>sd .e func84 h
def L95:Y1:=λ_ a b c=>dG 3 1 8 i0 b a a λb d=>yA [i0] d λd e f g=>lL f a λa=>Br a (ai 1 b f λa=>St 1 g a f λa=>lA f i1 λh=>aI d e [h] a [f] g) (rt c b g)
theorem xJ:qB L95 95:=λh=>sd (zA (zA (zB (zA (zB (zF 0 [8] [3,7])))))) func95 h
def L96:Y1:=λ_ a b c=>lL a (iv 2) λd=>lO d (λd=>lG a (iv 1048576) λe=>(lV b e d)) λd=>Br (Value.bool d) (rt c (tP (.pointer none) i1) b) (Build zQ 199 [(0,a),(3,(iv 2))] λa=>lK b a 199 λa b=>yA [(ui 0)] b λb d e f=>lL e (ui 2) λg=>Br g (lM 1 (pt a) f λg=>Build zQ 201 [(0,(iv (-1))),(1,e),(2,e)] λh=>Build zQ 203 [(0,h),(1,vT),(2,(bi 255))] λh=>aj zQ 197 1 [(0,h)] f λh i=>App zQ 203 5 24 (.agg #[i0,(ui 0),(ui 0),vF,(bi 0)]) i g h λg h=>lC 1 (pt a) λi=>St 1 h i g λg=>lA e (ui 1) λh=>aI b d [h] g [e] f) (rt c (tP (pt a) i0) f))
theorem xI:qB L96 96:=λh=>sd (zA (.n (zB (zF 0 [] [1])) (zA (zB (zA (zB (zF 0 [15] [4]))))))) func96 h
def L98:Y3:=λa b c d e f=>CR f a 127 #[b,(bi 8),c,d] e λa b=>lX a λa c=>rt f (tP a c) b
theorem xH:qD L98 98:=λh=>sd .e func98 h
def L99:Y3:=λa b c d e f=>CR f a 127 #[b,(bi 14),c,d] e λa b=>lX a λa c=>rt f (tP a c) b
theorem xG:qD L99 99:=λh=>sd .e func99 h
def L100:Y3:=λa b c d e f=>CR f a 127 #[b,(bi 6),c,d] e λa b=>lX a λa c=>rt f (tP a c) b
theorem uI:qD L100 100:=λh=>sd .e func100 h
def L101:Y2:=λa b c d e=>CR e a 127 #[b,(bi 3),c,(ui 0)] d λa b=>lX a λa c=>rt e (tP a c) b
theorem uH:qC L101 101:=λh=>sd .e func101 h
def L102:Y2:=λa b c d e=>oP b λf=>Br f (rt e (iv 10) d) (jA (λf=>lC 7 b λg=>St 1 f g sZ λf=>rt e i0 f) λf=>lG c (ui 1) λg=>Br g (CR e a 131 #[b,c] d λg h=>lE g i0 λg=>Br g (rt e (iv 3) h) (lC 0 b λg=>ah 3 g λg=>Ld h g λg=>lI 1 g c h λi=>lS i (Value.int .i32 1) λi=>ai 1 g c λg=>St 1 h g i λg=>lC 0 b λh=>ah 3 h λh=>Ld g h λh=>lI 1 h c g λh=>lE h (Value.int .i32 0) λh=>Br h (lC 0 b λb=>CR e a 132 #[b,c] g λ_ a=>JE f [] a) (JE f [] g))) (JE f [] d))
theorem ni:qC L102 102:=λh=>sd (zA (zA (zF 1 [] [0]))) func102 h
def L103:Y2:=λa b c d e=>lW d #[(.string (ByteArray.mk #[])),i0,i0] 27 λd f=>lN c i0 λg=>Br g (CR e a 16 #[i0,c] f λa c=>St 3 c (pt d) a λa=>aA 3 a (pt d) λc=>rt e c a) (Build zQ 27 [(0,b)] λa=>St 3 f (pt d) a λa=>aA 3 a (pt d) λb=>rt e b a)
theorem uG:qC L103 103:=λh=>sd .e func103 h
variable {g:Gh} {a0 a1 a2 a3 a4 a5 a6 a7 a8 a9 GJ GI JA Jz Jy Jx:zV} {H:Hp} {R:Rt}
def L106:Y1:=λ_ a b c=>Br a (c (.returned (.string (ByteArray.mk #[49]))) b) (c (.returned (.string (ByteArray.mk #[48]))) b)
theorem uF:qB L106 106:=λh=>sd .e func106 h
def L108:Y1:=λa b c d=>CR d a 143 #[b,(iv 10)] c λa b=>rt d a b
theorem uE:qB L108 108:=λh=>sd .e func108 h
def L110:Y1:=λa b c d=>CR d a 145 #[b] c λa b=>rt d a b
theorem uD:qB L110 110:=λh=>sd .e func110 h
def L111:Y1:=λa b c d=>oP b λe=>Br e (rt d i0 c) (lC 0 b λb=>ah 0 b λb=>Ld c b λb=>CR d a 146 #[b] c λa b=>lS a (iv 2) λa=>rt d a b)
theorem uC:qB L111 111:=λh=>sd .e func111 h
def L112:Y1:=λa b c d=>oP b λe=>Br e (rt d sZ c) (lM 5 b c λb=>CR d a 49 #[b] c λa b=>rt d a b)
theorem uB:qB L112 112:=λh=>sd .e func112 h
def L113:Y2:=λa b c d e=>bp b λf=>lE f i0 λg=>Br g (e (.returned (.string (ByteArray.mk #[]))) d) (lE f i1 λf=>Br f (lI 1 b i0 d λf=>rt e f d) (jB (λf g=>bp b λh=>yB [f,i0] g λf g i j k=>lL j h λh=>Br h (lI 1 b j k λh=>jA (λl=>au h λm=>lA i m λm=>lA j i1 λn=>aI f g [m,n] l [i,j] k) λf=>au h λg=>lS (iv 9223372036854775807) i λh=>lG g h λg=>Br g (cg zQ a (bQ Tryz.f113 15 1) (ev (λg=>cond (Nat.beq g 50) (.iface 9 (.string (ByteArray.mk #[115,116,114,105,110,103,115,58,32,74,111,105,110,32,111,117,116,112,117,116,32,108,101,110,103,116,104,32,111,118,101,114,102,108,111,119]))) (undef))) k (λ_ h=>JE f [] h) (cP e)) (JE f [] k)) (lW k #[(.pointer none),sZ] 129 λf h=>CR e a 71 #[(pt f),i] h λ_ h=>lI 1 b i0 h λi=>CR e a 72 #[(pt f),i] h λ_ h=>bT 1 b (some i1) none λi=>bp i λj=>yA [i0] h λh k l m=>lL l j λj=>Br j (lI 1 i l m λi=>CR e a 72 #[(pt f),c] m λ_ j=>CR e a 72 #[(pt f),i] j λ_ i=>lA l i1 λj=>aI h k [j] i [l] m) (CR e a 74 #[(pt f)] m λf h=>rt e f h))) λf=>au c λh=>lG h i0 λh=>Br h (jA (λh=>au c λi=>bp b λj=>lS j i1 λj=>oM i j λi=>lA i0 i λi=>JE f [i] h) λh=>au c λc=>bp b λb=>lS b i1 λb=>ae .num .quo (iv 9223372036854775807) b λb=>oG c b λb=>Br b (cg zQ a (bQ Tryz.f113 9 1) (ev (λg=>cond (Nat.beq g 30) (.iface 9 (.string (ByteArray.mk #[115,116,114,105,110,103,115,58,32,74,111,105,110,32,111,117,116,112,117,116,32,108,101,110,103,116,104,32,111,118,101,114,102,108,111,119]))) (undef))) d (λ_ a=>JE h [] a) (cP e)) (JE h [] d)) (JE f [i0] d)))
theorem nh:qC L113 113:=λh=>sd (hN 3 (.h 1 [5] [0,1] (zA (zB (zF 1 [] [0,1,5]))) (.n (zA (zB (zE 0 [5,41] [0,1,39,40] (zA (zA (zB (zB (zA (zF 1 [] [0,1,5,7,39,40,41]))))))))) (hN 3 (zB (zA (zB (zF 0 [65] [1,8,63,64])))))))) func113 h
def L115:Y2:=λa b c d e=>oP b λf=>Br f (rt e (iv 10) d) (lL c i0 λf=>lO f (λf=>lM 4 b d λg=>lS g (iv 2) λg=>lG c g λg=>(lV d g f)) λf=>Br (Value.bool f) (rt e i1 d) (CR e a 150 #[b,c] d λa d=>Un .not a λa=>Br a (rt e (iv 9) d) (lM 7 b d λa=>aj zQ 110 1 [(0,c)] d λc d=>App zQ 3 1 8 i0 d a c λa c=>lC 7 b λb=>St 1 c b a λa=>rt e i0 a)))
theorem uA:qC L115 115:=λh=>sd (zA (zB (zB (zA (zA (zB (zF 0 [] [1]))))))) func115 h
def L116:Y3:=λa b c d e f=>lW e #[(.string (ByteArray.mk #[])),i0,i0] 27 λe g=>lM 0 b g λb=>CR f a 151 #[b,c,d] g λb c=>lX b λb d=>lQ 4 c #[i0,i0,i0,vF] 224 b λb c=>DR c λg=>lD 0 (pt b) g λh=>lD 1 (pt b) g λi=>lD 2 (pt b) g λj=>lD 3 (pt b) g λb=>CN a 110 #[h] c λc h=>aN h g/\
CN a 110 #[i] h λh i=>aN i g/\
CN a 110 #[j] i λi j=>aN j g/\
CN a 106 #[b] j λb j=>aN j g/\
aj zQ 30 4 [(0,c),(1,h),(2,i),(3,b)] j λb c=>aN c g/\
CN a 113 #[b,(.string (ByteArray.mk #[32]))] c λb c=>aN c g/\
CN a 103 #[b,d] c λa b=>aN b g/\
St 3 b (pt e) a λa=>aA 3 a (pt e) λb=>rt f b a
theorem uz:qD L116 116:=λh=>sd (zA (zA (zB (zF 0 [0,1,3,4,6,7,9,10,14,2,5,8,11,12,13,15,16] [])))) func116 h
def L117:Y1:=λa b c d=>CR d a 152 #[b] c λb c=>CR d a 153 #[b] c λ_ a=>rt d b a
theorem uy:qB L117 117:=λh=>sd .e func117 h
def L118:Y1:=λ_ a b c=>lK b a 46 λa b=>c (.returned (.func (.func 154) #[] #[(pt a)])) b
theorem ux:qB L118 118:=λh=>sd .e func118 h
def L120:Y2:=λ_ a b c d=>oA a (wi 4294967295) λe=>oR a (wi 32) λf=>oA b (wi 4294967295) λg=>oR b (wi 32) λh=>oM e g λi=>oM f g λg=>oR i (wi 32) λi=>lA g i λg=>oA g (wi 4294967295) λi=>oR g (wi 32) λg=>oM e h λe=>lA i e λe=>oM f h λf=>lA f g λf=>oR e (wi 32) λe=>lA f e λe=>oM a b λa=>rt d (tP e a) c
theorem uw:qC L120 120:=λh=>sd .e func120 h
def L121:Y2:=λa b c d e=>au b λf=>au c λg=>oG f g λf=>lU f (λf=>au c λg=>aG zQ a (bQ Tryz.f121 1 9) (ev (λa=>cond (Nat.beq a 11) b (cond (Nat.beq a 13) g (undef)))) d λa=>ae .str .eql a c λa=>(lV d a f)) λf=>rt e (Value.bool f) d
theorem uv:qC L121 121:=λh=>sd (zA (zB (zF 0 [] [1]))) func121 h
def L122:Y1:=λa b c d=>lM 0 b c λe=>oP e λe=>Br e (aG zQ a (bQ Tryz.f122 1 2) (ev (λe=>cond (Nat.beq e 8) b (undef))) c λf=>cg zQ a (bQ Tryz.f122 1 3) (ev (λe=>cond (Nat.beq e 9) f (undef))) c (λf g=>aG zQ a (bQ Tryz.f122 1 4) (ev (λe=>cond (Nat.beq e 10) f (undef))) g λf=>lC 0 b λh=>St 1 g h f λf=>rt d (.tuple #[]) f) (cP d)) (lM 0 b c λf=>aG zQ a (bQ Tryz.f122 2 5) (ev (λe=>cond (Nat.beq e 17) f (cond (Nat.beq e 18) b (undef)))) c λa=>Br a (False) (rt d (.tuple #[]) c))
theorem uu:qB L122 122:=λh=>sd .e func122 h
def L123:Y2:=λa b c d e=>DR d λf=>lM 1 b f λg=>aG zQ a (bQ Tryz.f123 0 4) (ev (λh=>cond (Nat.beq h 8) g (undef))) f λg=>oM (iv 2) g λg=>lA g c λc=>lM 1 b f λg=>bp g λg=>cg zQ a (bQ Tryz.f123 0 8) (ev (λh=>cond (Nat.beq h 12) c (undef))) d (λc d=>aN d f/\
bT 1 c none (some g) λc=>lM 1 b d λf=>cg zQ a (bQ Tryz.f123 1 5) (ev (λh=>cond (Nat.beq h 20) c (cond (Nat.beq h 24) f (undef)))) d (λ_ a=>lC 1 b λb=>St 1 a b c λa=>rt e (.tuple #[]) a) (cP e)) DO
theorem ur:qC L123 123:=λh=>sd (zB (zF 0 [0,1,2,3,4,5,6,7,9,10,11,12,13,8,14,15] [])) func123 h
def L124:Y2:=λa b c d e=>Ld d b λb=>bp b λf=>yA [i0] d λd g h i=>lL h f λf=>Br f (lI 1 b h i λb=>Ld i c λc=>CR e a 102 #[c,b] i λ_ a=>lA h i1 λb=>aI d g [b] a [h] i) (rt e (.tuple #[]) i)
theorem rO(h:L124 g a0 a1 H R):g6 zQ g 124 #[a0,a1] H R:=
 za (hn:=(zA (zB (zF 0 [6] [1,4,5])))) func124 h zK
def L125:Y2:=λa b c d e=>oP b λf=>Br f (rt e (tP (ui 0) (iv 10)) d) (jB (λf g=>CR e a 157 #[b,f] g λa b=>rt e (tP f a) b) λa=>Br c (JE a [(ui 1)] d) (JE a [(ui 0)] d))
theorem uo:qC L125 125:=λh=>sd (hN 3 (zF 1 [6] [0])) func125 h
def L126:Y2:=λa b c d e=>oP b λf=>Br f (rt e (tP (ui 0) (iv 10)) d) (CR e a 158 #[b,c,(ui 0),(ui 1)] d λa b=>lX a λa c=>rt e (tP a c) b)
theorem um:qC L126 126:=λh=>sd .e func126 h
def L127:Y4:=λa b c d e f g=>lK f c 5 λc f=>oP b λh=>Br h (rt g (tP (ui 0) (iv 10)) f) (Ld f (pt c) λh=>lG h (bi 15) λh=>Br h (rt g (tP (ui 0) i1) f) (aj zQ 189 2 [(0,d),(1,e)] f λf h=>CR g a 159 #[b,f] h λb f=>lX b λb h=>lN h i0 λi=>Br i (rt g (tP (ui 0) h) f) (Build zQ 237 [(0,d),(1,e)] λd=>CR g a 160 #[b,d,(.func (.func 161) #[] #[(pt c)])] f λa b=>lX a λa c=>rt g (tP a c) b)))
theorem uk:qE L127 127:=λh=>sd .e func127 h
def L128:Y4:=λa b c d e f g=>aj zQ 189 3 [(0,c),(1,d),(2,e)] f λf h=>CR g a 159 #[b,f] h λb f=>lX b λb h=>lN h i0 λi=>Br i (rt g (tP (ui 0) h) f) (Build zQ 237 [(0,c),(1,d),(2,e)] λc=>CR g a 160 #[b,c,(.func (.func 163) #[] #[])] f λa b=>lX a λa c=>rt g (tP a c) b)
theorem uj:qE L128 128:=λh=>sd .e func128 h
def L129:Y2:=λa b c d e=>CR e a 136 #[b,c] d λd f=>lN d i0 λg=>Br g (rt e (tP i0 d) f) (lQ 1 f #[i0] 3 i0 λd f=>CR e a 164 #[b,c,(.func (.func 165) #[] #[(pt d)])] f λ_ a=>Ld a (pt d) λb=>rt e (tP b i0) a)
theorem uh:qC L129 129:=λh=>sd .e func129 h
def L130:Y2:=λa b c d e=>lK d b 141 λb d=>jA (λf=>lA c i1 λg=>rt e g f) λf=>oG c (iv 1000) λc=>Br c (aA 3 d (pt b) λb=>CR e a 84 #[b,(iv 7)] d λ_ a=>JE f [] a) (JE f [] d)
theorem ug:qC L130 130:=λh=>sd (zA (zF 1 [] [1])) func130 h
def L131:Y2:=λ_ a b c d=>oP a λe=>lO e (λe=>aM .i64 b λf=>lC 0 a λg=>ah 3 g λg=>Ld c g λg=>bp g λg=>oG f g λf=>(lV c f e)) λe=>Br (Value.bool e) (rt d i0 c) (lC 0 a λa=>ah 3 a λa=>Ld c a λa=>lI 1 a b c λa=>aM .i64 a λa=>rt d a c)
theorem uf:qC L131 131:=λh=>sd (zA (zB (zB (zF 0 [] [1])))) func131 h
def L132:Y2:=λa b c d e=>aj zQ 189 1 [(0,c)] d λc d=>yA [c] d λc d f g=>bp f λh=>lG h i0 λh=>Br h (bp f λh=>lS h i1 λh=>lI 1 f h g λi=>bT 1 f none (some h) λh=>oQ i (ui 1) λj=>Br j (aI c d [h] g [f] g) (lM 2 b g λj=>lI 1 j i g λk=>lS k (Value.int .i32 1) λk=>ai 1 j i λj=>St 1 g j k λj=>lM 2 b j λk=>lI 1 k i j λk=>lG k (Value.int .i32 0) λk=>Br k (aI c d [h] j [f] g) (CR e a 166 #[b,i] j λj k=>lQ 3 k nC 201 j λj k=>DR k λl=>lM 1 b l λm=>aA 3 l (pt j) λl=>CN a 167 #[m,l] k λ_ k=>lM 0 b k λb=>CR e a 168 #[b,i] k λ_ a=>lD 1 (pt j) a λb=>lD 2 (pt j) a λi=>aj zQ 189 2 [(0,b),(1,i)] a λa b=>App zQ 82 1 4 (ui 0) b h a λa b=>aI c d [a] b [f] g))) (rt e (.tuple #[]) g)
theorem ue:qC L132 132:=λh=>sd (zA (zB (zE 0 [4] [0] (zA (zB (hN 6 (zB (zF 0 (yR 6) [])))))))) func132 h
def L133:Y2:=λa b c d e=>lW d nC 201 λd f=>oP b λg=>Br g (Build zQ 201 [] λg=>St 3 f (pt d) g λg=>aA 3 g (pt d) λh=>rt e (tP h (iv 10)) g) (lC 0 b λg=>CR e a 169 #[g,c] f λf g=>Un .not f λf=>Br f (Build zQ 201 [] λf=>St 3 g (pt d) f λf=>aA 3 f (pt d) λh=>rt e (tP h (iv 3)) f) (lC 0 b λb=>CR e a 166 #[b,c] g λa b=>St 3 b (pt d) a λa=>aA 3 a (pt d) λb=>rt e (tP b i0) a))
theorem ud:qC L133 133:=λh=>sd .e func133 h
def L136:Y2:=λa b c d e=>oP b λf=>Br f (rt e (iv 10) d) (bp c λf=>yA [i0] d λd g h i=>lL h f λf=>Br f (lI 1 c h i λc=>CR e a 133 #[b,c] i λa b=>lX a λa c=>lQ 3 b nC 201 a λ_ a=>lN c i0 λb=>Br b (rt e c a) (lA h i1 λb=>aI d g [b] a [h] i)) (rt e i0 i))
theorem uc:qC L136 136:=λh=>sd (zA (zA (zB (zA (zB (zF 0 [13] [0,11,12])))))) func136 h
def L137:Y1:=λ_ a b c=>lE a (ui 0) λd=>lO d (λd=>lE a (ui 1) λa=>(lV b a d)) λd=>rt c (Value.bool d) b
theorem ua:qB L137 137:=λh=>sd (zA (zB (zF 0 [] [1]))) func137 h
def L138:Y2:=λa b c d e=>lW d nC 201 λd f=>CR e a 133 #[b,c] f λa b=>lX a λa _=>lQ 3 b nC 201 a λa b=>aA 3 b (pt a) λa=>St 3 b (pt d) a λa=>aA 3 a (pt d) λb=>rt e b a
theorem tZ:qC L138 138:=λh=>sd .e func138 h
def L143:Y2:=λa b c d e=>CR e a 173 #[b,c] d λa b=>rt e a b
theorem tY:qC L143 143:=λh=>sd .e func143 h
def L145:Y1:=λa b c d=>CR d a 179 #[b,(iv 10)] c λa b=>rt d a b
theorem tX:qB L145 145:=λh=>sd .e func145 h
def L146:Y1:=λ_ a b c=>oP a λd=>Br d (rt c i0 b) (lM 3 a b λa=>rt c a b)
theorem tW:qB L146 146:=λh=>sd .e func146 h
def L151:Y3:=λa b c d e f=>lW e #[i0,i0,i0,vF] 224 λe g=>CR f a 193 #[b,c,d] g λg h=>lN g i0 λi=>Br i (Build zQ 224 [] λi=>St 4 h (pt e) i λi=>aA 4 i (pt e) λj=>rt f (tP j g) i) (lE c (bi 1) λg=>Br g (CR f a 194 #[b,d] h λg i=>lX g λg j=>St 4 i (pt e) g λg=>aA 4 g (pt e) λi=>rt f (tP i j) g) (lE c (bi 2) λg=>Br g (CR f a 195 #[b,d] h λd g=>lX d λi _=>Ext 2 d λd=>lQ 4 g #[i0,i0,i0,vF] 224 i λg i=>aA 4 i (pt g) λg=>St 4 i (pt e) g λg=>aA 4 g (pt e) λi=>rt f (tP i d) g) (jB (λd g=>Br d (CR f a 197 #[c] g λd i=>CR f a 196 #[b,d] i λd i=>lX d λd j=>St 4 i (pt e) d λd=>aA 4 d (pt e) λi=>rt f (tP i j) d) (lE c (bi 6) λd=>Br d (CR f a 198 #[b] g λd i=>lX d λd j=>St 4 i (pt e) d λd=>aA 4 d (pt e) λi=>rt f (tP i j) d) (CR f a 111 #[b] g λd g=>CR f a 111 #[b] g λa b=>Build zQ 224 [(0,d),(1,a)] λa=>St 4 b (pt e) a λa=>aA 4 a (pt e) λb=>rt f (tP b i0) a))) λa=>lE c (bi 3) λb=>Br b (JE a [b] h) (lE c (bi 4) λb=>Br b (JE a [b] h) (lE c (bi 5) λb=>JE a [b] h)))))
theorem tV:qD L151 151:=λh=>sd (zA (zA (zB (zA (zB (hN 4 (zF 1 [39] [0,1,6,20]))))))) func151 h
def L152:Y1:=λa b c d=>CR d a 199 #[sZ,b] c λa b=>rt d a b
theorem tU:qB L152 152:=λh=>sd .e func152 h
def L153:Y1:=λa b c d=>bp b λe=>aM .u64 e λf=>CR d a 201 #[f] c λc f=>CR d a 200 #[b,i0,e,c] f λ_ a=>rt d (.tuple #[]) a
theorem tT:qB L153 153:=λh=>sd .e func153 h
def L157:Y2:=λa b c d e=>oP b λf=>Br f (rt e (iv 10) d) (lC 0 b λf=>CR e a 169 #[f,c] d λa d=>Un .not a λa=>Br a (rt e (iv 3) d) (jA (λa=>lC 7 b λf=>St 1 a f sZ λa=>rt e i0 a) λa=>lG c (ui 1) λf=>Br f (lC 0 b λf=>ah 3 f λf=>Ld d f λf=>lI 1 f c d λf=>lE f (Value.int .i32 65535) λf=>Br f (rt e (iv 8) d) (lC 0 b λe=>ah 3 e λe=>Ld d e λe=>lI 1 e c d λf=>lA f (Value.int .i32 1) λf=>ai 1 e c λe=>St 1 d e f λe=>lC 0 b λf=>ah 3 f λf=>Ld e f λf=>lI 1 f c e λf=>lE f (Value.int .i32 1) λf=>Br f (lC 0 b λb=>ah 2 b λb=>Ld e b λb=>lI 1 b c e λf=>lA f (Value.int .i32 1) λf=>ai 1 b c λb=>St 1 e b f λb=>JE a [] b) (JE a [] e))) (JE a [] d)))
theorem ng:qC L157 157:=λh=>sd (zA (zA (zF 1 [] [0]))) func157 h
def L158:Y4:=λa b c d e f g=>oP b λh=>Br h (rt g (tP (ui 0) (iv 10)) f) (CR g a 202 #[b,c,d,e] f λf h=>lN f i0 λi=>Br i (rt g (tP (ui 0) f) h) (CR g a 203 #[b,c,d,e] h λf h=>lX f λf i=>jB (λj k=>CR g a 157 #[b,j] k λk l=>lN k i0 λm=>Br m (rt g (tP (ui 0) k) l) (rt g (tP j i0) l)) λj=>Un .not i λi=>Br i (lC 0 b λi=>CR g a 187 #[i,i1] h λi k=>Un .not i λi=>Br i (rt g (tP (ui 0) (iv 9)) k) (lC 0 b λb=>Build zQ 201 [(0,c),(1,d),(2,e)] λc=>CR g a 204 #[b,c] k λa b=>JE j [a] b)) (JE j [f] h)))
theorem tS:qE L158 158:=λh=>sd (hN 4 (zF 1 [11] [0])) func158 h
def L159:Y2:=λa b c d e=>oP b λf=>Br f (rt e (tP (.pointer none) (iv 10)) d) (bp c λf=>yA [i0] d λd g h i=>lL h f λf=>Br f (lI 1 c h i λc=>CR e a 133 #[b,c] i λc f=>lX c λc j=>lQ 3 f nC 201 c λ_ c=>lN j i0 λf=>Br f (rt e (tP (.pointer none) j) c) (lA h i1 λf=>aI d g [f] c [h] i)) (CR e a 75 #[b] i λc d=>dG 3 1 8 i0 d c c λc d=>Build zQ 289 [(0,b),(1,c)] λc=>lK d c 289 λc d=>CR e a 112 #[b] d λa b=>bp a λd=>yA [i0] b λb f g h=>lL g d λd=>Br d (lI 1 a g h λa=>lM 1 (pt c) h λd=>ai 1 d a λa=>St 1 h a g λa=>lA g i1 λd=>aI b f [d] a [g] h) (rt e (tP (pt c) i0) h)))
theorem tR:qC L159 159:=λh=>sd (zA (zA (.n (zA (zB (zF 0 [17] [0,15,16]))) (zA (zB (zA (zB (zF 0 [40] [10,38,39])))))))) func159 h
def L160:Y3:=λa b c d e f=>lK e b 232 λb e=>lK e c 237 λc e=>lK e d 239 λd e=>lW e #[(ui 0)] 82 λe g=>lW g #[i0] 25 λg h=>oT h λh i=>lQ 1 i #[(.map none)] 291 h λh i=>lW i #[.nilFunc] 292 λi j=>St 1 j (pt i) (.func (.func 207) #[] #[(pt h),(pt b),(pt d),(pt i)]) λd=>Ld d (pt i) λh=>aA 3 d (pt c) λc=>cr zQ a h #[c] d (λc d=>lX c λc h=>St 1 d (pt e) c λc=>St 1 c (pt g) h λc=>gu zQ a 205 #[(pt b),(pt e),(pt g)] c λa=>Ld a (pt e) λb=>Ld a (pt g) λc=>rt f (tP b c) a) M7
theorem tQ(h:L160 g a0 a1 a2 H R):sc g 160 #[a0,a1,a2] H R:=
 y9 (hn:=(zA (zA .e))) func160 h zK
def L161:Y4:=λa b c _ d e f=>DR e λg=>Ld g d λd=>CN a 162 #[b] e λb e=>aN e g/\
oM (bi 2) b λb=>CN a 162 #[c] e λa c=>aN c g/\
lA b a λa=>oR d a λa=>oA a (bi 1) λa=>lE a (bi 1) λa=>rt f a c
theorem tO:qE L161 161:=λh=>sd (zA (zB (zF 0 [0,1,4,2,3,5,6,7,8,9,10] []))) func161 h
def L162:Y1:=λ_ a b c=>Br a (rt c (bi 1) b) (rt c (bi 0) b)
theorem tN:qB L162 162:=λh=>sd .e func162 h
def L163:Y3:=λ_ a b c d e=>lU a (λf=>(lV d b f)) λf=>lO (Value.bool f) (λb=>Un .not a λa=>bO a true (λa=>(lV d c a)) (λa=>vF=Value.bool a) λa=>∀_:Fr,
(lV d (Value.bool a) b)) λb=>rt e (Value.bool b) d
theorem tM:qD L163 163:=λh=>sd (zA (zB (zF 0 [] [1]))) func163 h
def L164:Y3:=λa b c d e f=>lK e b 45 λb e=>lK e d 241 λd e=>oT e λe g=>lQ 1 g #[(.map none)] 296 e λe g=>lW g #[.nilFunc] 205 λg h=>St 1 h (pt g) (.func (.func 211) #[] #[(pt e),(pt b),(pt d),(pt g)]) λb=>bp c λd=>yA [i0] b λb e h i=>lL h d λd=>Br d (lI 1 c h i λc=>Ld i (pt g) λd=>cr zQ a d #[c] i (λ_ a=>lA h i1 λc=>aI b e [c] a [h] i) (cP f)) (rt f (.tuple #[]) i)
theorem tL:qD L164 164:=λh=>sd (hN 5 (zB (zF 0 [14] [7,12,13]))) func164 h
def L165:Y2:=λ_ a b c d=>lK c a 201 λ_ a=>Ld a b λc=>lA c i1 λc=>St 1 a b c λa=>rt d (.tuple #[]) a
theorem tK:qC L165 165:=λh=>sd .e func165 h
def L166:Y2:=λa b c d e=>lW d nC 201 λd f=>lM 0 b f λb=>CR e a 212 #[b,c] f λa b=>lX a λa _=>lQ 3 b nC 201 a λa b=>aA 3 b (pt a) λa=>St 3 b (pt d) a λa=>aA 3 a (pt d) λb=>rt e b a
theorem tJ:qC L166 166:=λh=>sd .e func166 h
def L167:Y2:=λa b c d e=>lK d c 201 λc d=>lD 0 (pt c) d λf=>CR e a 213 #[b,f] d λa d=>lN a i0 λf=>Br f (rt e a d) (lM 0 b d λa=>lD 0 (pt c) d λf=>lI 1 a f d λa=>aA 3 d (pt c) λf=>gj zQ 201 (ui 0) true d a f λa=>lX a λ_ a=>Un .not a λa=>Br a (rt e (iv 10) d) (DR d λa=>lM 0 b a λb=>lD 0 (pt c) a λf=>lI 1 b f a λb=>aA 3 a (pt c) λc=>jR zQ 201 d b c λb=>aN b a/\
rt e i0 b))
theorem tI:qC L167 167:=λh=>sd (hN 3 (zB (zF 0 (yR 10) []))) func167 h
def L168:Y2:=λa b c d e=>oP b λf=>Br f (rt e (iv 10) d) (CR e a 214 #[b,c] d λa d=>lN a i0 λf=>Br f (rt e a d) (lM 1 b d λa=>Build zQ 203 [] λf=>ai 5 a c λa=>St 5 d a f λa=>lM 2 b a λd=>aj zQ 189 1 [(0,c)] a λa c=>App zQ 82 1 4 (ui 0) c d a λa c=>lC 2 b λd=>St 1 c d a λa=>lM 3 b a λc=>lS c i1 λc=>lC 3 b λb=>St 1 a b c λa=>rt e i0 a))
theorem tH:qC L168 168:=λh=>sd .e func168 h
def L169:Y2:=λa b c d e=>lM 0 b d λb=>CR e a 212 #[b,c] d λa b=>lX a λa c=>lQ 3 b nC 201 a λ_ a=>lE c i0 λb=>rt e b a
theorem tG:qC L169 169:=λh=>sd .e func169 h
def L171:Y2:=λ_ a b c d=>oG b i0 λe=>lU e (λe=>lM 4 a c λa=>lL b a λa=>(lV c a e)) λe=>rt d (Value.bool e) c
theorem tF:qC L171 171:=λh=>sd (zA (zB (zF 0 [] [1]))) func171 h
def L173:Y2:=λa b c d e=>lE c (iv 10) λf=>Br f (lL b (wi 100) λf=>Br f (aM .i64 b λf=>CR e a 215 #[f] d λf g=>rt e f g) (lW d #[(bi 0),(bi 0),(bi 0),(bi 0),(bi 0),(bi 0),(bi 0),(bi 0),(bi 0),(bi 0),(bi 0),(bi 0),(bi 0),(bi 0),(bi 0),(bi 0),(bi 0),(bi 0),(bi 0),(bi 0),(bi 0),(bi 0),(bi 0),(bi 0)] 297 λf g=>CR e a 216 #[b] g λg h=>aG zQ a (bQ Tryz.f173 6 1) (ev (λi=>cond (Nat.beq i 5) (pt f) (cond (Nat.beq i 18) g (undef)))) h λj=>CR e a 217 #[j,b] h λ_ h=>aG zQ a (bQ Tryz.f173 7 1) (ev (λi=>cond (Nat.beq i 5) (pt f) (cond (Nat.beq i 22) g (undef)))) h λf=>dD h f λf=>rt e f h)) (CR e a 218 #[sZ,b,c,vF,vF] d λa b=>lX a λ_ a=>rt e a b)
theorem tE:qC L173 173:=λh=>sd .e func173 h
def L179:Y2:=λa b c d e=>lE c (iv 10) λf=>Br f (oQ i0 b λf=>lU f (λf=>lL b (iv 100) λg=>(lV d g f)) λf=>Br (Value.bool f) (CR e a 215 #[b] d λf g=>rt e f g) (lW d #[(bi 0),(bi 0),(bi 0),(bi 0),(bi 0),(bi 0),(bi 0),(bi 0),(bi 0),(bi 0),(bi 0),(bi 0),(bi 0),(bi 0),(bi 0),(bi 0),(bi 0),(bi 0),(bi 0),(bi 0),(bi 0),(bi 0),(bi 0),(bi 0)] 297 λf g=>aM .u64 b λh=>jB (λi j=>CR e a 216 #[i] j λj k=>lA i1 j λl=>aG zQ a (bQ Tryz.f179 9 2) (ev (λm=>cond (Nat.beq m 5) (pt f) (cond (Nat.beq m 29) l (undef)))) k λl=>CR e a 217 #[l,i] k λ_ i=>lL b i0 λk=>Br k (di 24 1 (pt f) i0 λk=>St 1 i k (bi 45) λk=>lA i1 j λl=>aG zQ a (bQ Tryz.f179 12 2) (ev (λm=>cond (Nat.beq m 5) (pt f) (cond (Nat.beq m 37) l (undef)))) k λl=>dD k l λl=>rt e l k) (lA i1 j λj=>aG zQ a (bQ Tryz.f179 13 2) (ev (λm=>cond (Nat.beq m 5) (pt f) (cond (Nat.beq m 41) j (undef)))) i λf=>dD i f λf=>rt e f i)) λf=>lL b i0 λi=>Br i (Un .neg h λi=>JE f [i] g) (JE f [h] g))) (aM .u64 b λf=>lL b i0 λb=>CR e a 218 #[sZ,f,c,b,vF] d λa b=>lX a λ_ a=>rt e a b)
theorem tD:qC L179 179:=λh=>sd (zA (zB (zA (zB (.n (zB (zF 0 [] [1])) (zA (zA (zF 1 [6] [0,5])))))))) func179 h
variable {g:Gh} {a0 a1 a2 a3 a4 a5 a6 a7 a8 a9 GJ GI JA Jz Jy Jx:zV} {H:Hp} {R:Rt}
def L187:Y2:=λa b c d e=>DR d λf=>lM 0 b f λg=>lM 0 b f λb=>CN a 146 #[g] d λd g=>aN g f/\
lA d c λc=>CN a 230 #[b] g λa b=>aN b f/\
oQ c a λa=>rt e a b
theorem tC:qC L187 187:=λh=>sd (zA (zB (zF 0 [0,1,2,3,5,7,8,9,10,4,6,11,12,13] []))) func187 h
def L190:Y2:=λ_ a b c d=>lG b (ui 1) λe=>Br e (lM 2 a c λa=>lI 1 a b c λe=>lA e (Value.int .i32 1) λe=>ai 1 a b λa=>St 1 c a e λa=>rt d (.tuple #[]) a) (rt d (.tuple #[]) c)
theorem tB:qC L190 190:=λh=>sd .e func190 h
def L192:Y3:=λa b c d e f=>lK e c 201 λc e=>lD 0 (pt c) e λg=>CR f a 213 #[b,g] e λa e=>lN a i0 λg=>Br g (rt f a e) (lM 0 b e λa=>lD 0 (pt c) e λg=>lI 1 a g e λa=>aA 3 e (pt c) λg=>gj zQ 201 (ui 0) true e a g λa=>lX a λ_ a=>Br a (rt f (iv 11) e) (DR e λa=>lM 0 b a λb=>lD 0 (pt c) a λg=>lI 1 b g a λb=>aA 3 a (pt c) λa=>fY zQ 201 e b a d λa=>rt f i0 a))
theorem tA:qD L192 192:=λh=>sd (hN 3 (zB (zF 0 (yR 11) []))) func192 h
def L193:Y3:=λa b c d e f=>oP b λg=>Br g (rt f (iv 10) e) (lG c (bi 6) λg=>lO g (λg=>lL d (iv 100) λh=>(lV e h g)) λg=>lO (Value.bool g) (λg=>lG d (iv 1000) λd=>(lV e d g)) λg=>Br (Value.bool g) (rt f i1 e) (jB (λd g=>Br d (rt f (iv 6) g) (rt f i0 g)) λd=>lE c (bi 6) λc=>Split c true (CR f a 75 #[b] e λa b=>lG a (iv 12) λa=>az vT a vF λa=>JE d [a] b) (az vF undef vF λa=>JE d [a] e)))
theorem tx:qD L193 193:=λh=>sd (zA (zB (zB (zA (zA (.n (zF 0 [] [1]) (zA (zF 1 [21] [])))))))) func193 h
def L200:Y4:=λa b c d e f g=>∃(h:Jt) (i:Mt),JE h [c,d,e,vT,vT] f/\∀c d e f j:zV,∀k:Hp,h [c,d,e,f,j] k->∀_:Fr,
lS d c λl=>oQ l (iv 12) λm=>Br m (CR g a 242 #[b,c,d] k λ_ m=>rt g (.tuple #[]) m) (lE e i0 λm=>Br m (CR g a 243 #[b,c,d] k λ_ m=>rt g (.tuple #[]) m) (jB (λm n=>CR g a 245 #[b,c,d] n λn o=>lX n λn p=>jC (λq r s=>jA (λt=>jB (λu v=>Br u (CR g a 249 #[b,c,d,q] v λu w=>aI h i [u,d,m,f,j] w [c,d,e,f,j] k) (CR g a 250 #[b,c,d,q] v λu v=>lX u λu w=>lS u c λx=>lS d u λy=>ae .num .quo l (iv 8) λl=>lL x y λz=>Br z (oG x l λx=>CR g a 200 #[b,c,u,m] v λ_ z=>lA u i1 λA=>aI h i [A,d,m,x,w] z [c,d,e,f,j] k) (oG y l λl=>lA u i1 λx=>CR g a 200 #[b,x,d,m] v λ_ v=>aI h i [c,u,m,l,w] v [c,d,e,f,j] k))) λh=>DR t λi=>lG c i0 λl=>Br l (lS c i1 λl=>lI 1 b l i λl=>lI 1 b q i λi=>∀m:Hp,
CN (a.add m) 248 #[l,i] t λi l=>Un .not i λi=>az vT i vF λi=>JE h [i] l) (JE h [vF] t)) λh=>lU f (λi=>(lV s j i)) λi=>lU (Value.bool i) (λi=>lE r i1 λj=>(lV s j i)) λi=>Br (Value.bool i) (CR g a 247 #[b,c,d] s λi j=>Br i (rt g (.tuple #[]) j) (JE h [] j)) (JE h [] s)) λh=>lE p (iv 2) λi=>Br i (CR g a 246 #[b,c,d] o λ_ i=>lS d i1 λj=>lS n c λl=>lS j l λj=>JE h [j,i1] i) (JE h [n,p] o)) λh=>Un .not f λf=>Br f (CR g a 244 #[b,c,d] k λ_ a=>lS e i1 λb=>JE h [b] a) (JE h [e] k)))
theorem tw:qE L200 200:=λh=>sd (zA (zA (zB (zE 0 [1,2,3,8,9] [0] (zB (hN 3 (.h 1 [3] [0,1,2,8,9,10] .e (zA (.h 1 [11,12] [0,1,2,3,8,9,10] .e (.h 1 [] [0,1,2,3,8,9,10,11] (zB (zF 0 [] [1])) (zB (zE 1 [87] [0,1,2,3,8,9,10,11] (zE 1 [] [] (hr 0 [] 0 2 (.h 2 [2] [] (hr 0 [] 3 12 .e) (hr 0 [] 3 11 (zF 3 [14] []))))))))))))))))) func200 h
def L201:Y1:=λa b c d=>Br vF (aM .u32 b λe=>CR d a 251 #[e] c λe f=>rt d e f) (CR d a 252 #[b] c λa b=>rt d a b)
theorem tu:qB L201 201:=λh=>sd .e func201 h
def L202:Y4:=λa b c d e f g=>CR g a 171 #[b,c] f λf h=>Un .not f λf=>Br f (rt g (iv 2) h) (jB (λf i=>Br f (rt g (iv 3) i) (jB (λf j=>Br f (rt g (iv 4) j) (rt g i0 j)) λf=>DR i λj=>lN d e λk=>Br k (lM 6 b j λk=>lI 1 k c j λc=>∀k:Hp,
CN (a.add k) 253 #[b,d] i λk l=>aN l j/\
∀m:Hp,
CN (a.add m) 253 #[b,e] l λl m=>aN m j/\
xE k l λj=>oG c j λc=>az vT c vF λc=>JE f [c] m) (JE f [vF] i))) λc=>lC 0 b λf=>CR g a 169 #[f,d] h λd f=>Un .not d λd=>Split d false (lC 0 b λb=>CR g a 169 #[b,e] f λa b=>Un .not a λa=>az vF vT a λa=>JE c [a] b) (az vT vT undef λa=>JE c [a] f))
theorem tt:qE L202 202:=λh=>sd (zA (zB (zB (zA (zA (.h 1 [14] [0,1,2,3] .e (zA (zE 1 [29] [] (zE 1 [] [] (hr 0 [] 0 3 (.h 2 [3] [] (hr 0 [] 4 9 (hr 0 [] 14 2 (zE 0 [13] [] (hr 0 [] 16 5 .e)))) (hr 0 [] 4 15 (hr 3 [] 19 2 .e))))))))))))) func202 h
def L203:Y4:=λa b c d e f g=>lE d e λh=>Br h (rt g (tP d vT) f) (lC 0 b λb=>ah 1 b λb=>Ld f b λb=>Build zQ 201 [(0,c),(1,d),(2,e)] λc=>CR g a 231 #[b,c] f λa b=>lX a λa c=>rt g (tP a c) b)
theorem tq:qE L203 203:=λh=>sd .e func203 h
def L204:Y2:=λa b c d e=>lK d c 201 λc d=>DR d λf=>lM 0 b f λg=>aA 3 f (pt c) λh=>CN a 254 #[g,h] d λd g=>aN g f/\
lX d λd _=>∃(f:Jt) (h:Mt),JE f [] g/\∀g:Hp,f [] g->∀_:Fr,
aM .i64 d λi=>lM 2 b g λj=>bp j λj=>oG i j λi=>Br i (lM 2 b g λi=>aj zQ 117 1 [(0,(Value.int .i32 0))] g λj k=>App zQ 21 1 4 (Value.int .i32 0) k i j λi j=>lC 2 b λk=>St 1 j k i λi=>lM 3 b i λj=>aj zQ 117 1 [(0,(Value.int .i32 0))] i λi k=>App zQ 21 1 4 (Value.int .i32 0) k j i λi j=>lC 3 b λk=>St 1 j k i λi=>aI f h [] i [] g) (DR g λf=>lM 2 b f λh=>lM 3 b f λf=>ai 1 h d λh=>St 1 g h (Value.int .i32 0) λg=>ai 1 f d λf=>St 1 g f (Value.int .i32 0) λf=>lD 1 (pt c) f λg=>CR e a 190 #[b,g] f λ_ f=>lD 2 (pt c) f λg=>CR e a 190 #[b,g] f λ_ f=>DR f λg=>lM 1 b g λb=>aA 3 g (pt c) λc=>CN a 192 #[b,c,d] f λ_ a=>rt e d a)
theorem tn:qC L204 204:=λh=>sd (zA (.n (zF 0 (yR 11) []) (.n (zB (zF 0 [] [0,3,5])) (.n (zF 0 (yR 14) []) (zA (zA (zB (zF 0 (yR 7) [])))))))) func204 h
def L205:Y3:=λa b c d e f=>Ld e b λb=>Ld e c λg=>Ld e d λh=>CR f a 206 #[b,g,h] e λa b=>lX a λa e=>St 1 b c a λa=>St 1 a d e λa=>rt f (.tuple #[]) a
theorem rN(h:L205 g a0 a1 a2 H R):g6 zQ g 205 #[a0,a1,a2] H R:=
 za (hn:=.e) func205 h zK
def L206:Y3:=λa b c d e f=>lE c (ui 0) λg=>lO g (λg=>lE c (ui 1) λh=>(lV e h g)) λg=>lM 2 b e λh=>bp h λi=>yB [(Value.bool g),i0] e λe g j k l=>lL k i λi=>Br i (jB (λi m=>lA k i1 λn=>aI e g [i,n] m [j,k] l) λe=>lI 1 h k l λg=>lE g c λh=>lU h (λh=>Un .not j λi=>(lV l i h)) λh=>lU (Value.bool h) (λh=>lE d i0 λi=>(lV l i h)) λh=>Br (Value.bool h) (JE e [vT] l) (lM 0 b l λh=>CR f a 102 #[h,g] l λ_ g=>JE e [j] g)) (lC 2 b λe=>St 1 l e sZ λe=>jA (λg=>rt f (tP c i0) g) λg=>lN d i0 λh=>Br h (rt f (tP (ui 0) d) e) (Un .not j λd=>Br d (rt f (tP (ui 0) (iv 8)) e) (lE c (ui 0) λd=>lO d (λd=>lE c (ui 1) λh=>(lV e h d)) λd=>Br (Value.bool d) (lM 0 b e λb=>CR f a 157 #[b,c] e λ_ a=>JE g [] a) (JE g [] e))))
theorem tj:qD L206 206:=λh=>sd (zA (.n (zF 0 [] [1]) (.n (zA (zB (zE 0 [8,22] [0,1,2,20,21] (zA (zA (zE 1 [8] [0,1,2,20,21,22] (zB (zA (zB (zB (zF 0 [] [1]))))))))))) (zA (zE 1 [] [1] (zB (hN 4 (zB (zF 0 [] [1]))))))))) func206 h
def L207:Y5:=λa b c d e f g h=>lK g b 237 λb g=>Ld g c λi=>aA 3 g (pt b) λj=>gj zQ 237 (ui 0) true g i j λi=>lX i λi j=>Br j (rt h (tP i i0) g) (Ld g d λi=>aA 3 g (pt b) λj=>CR h a 208 #[i,j] g λg i=>Ld i d λj=>CR h a 209 #[j,g] i λi j=>lL i i0 λk=>Br k (Ld j e λe=>di 3 1 (pt b) i0 λk=>Ld j k λk=>lE k (ui 1) λk=>di 3 1 (pt b) i1 λl=>Ld j l λl=>lE l (ui 1) λl=>di 3 1 (pt b) (iv 2) λm=>Ld j m λm=>lE m (ui 1) λm=>cr zQ a e #[k,l,m] j (λe k=>Br e (rt h (tP (ui 1) i0) k) (rt h (tP (ui 0) i0) k)) (cP h)) (DR j λe=>aA 3 e (pt b) λk=>aA 3 e (pt b) λl=>lW j #[(ui 0),(ui 0),(ui 0)] 237 λj m=>lW m #[(ui 0),(ui 0),(ui 0)] 237 λm n=>∀_:Hp,
St 3 n (pt j) k λk=>aN k e/\
∀_:Hp,
St 3 k (pt m) l λe=>bp g λk=>yA [i0] e λe l n o=>lL n k λk=>Br k (jA (λk=>lA n i1 λp=>aI e l [p] k [n] o) λe=>ai 3 g n λg=>aA 3 o g λg=>lQ 3 o nC 201 g λg k=>lD 0 (pt g) k λl=>lE l i λl=>Br l (DR k λl=>lD 1 (pt g) l λp=>lD 2 (pt g) l λg=>di 3 1 (pt j) n λq=>St 1 k q p λp=>aN p l/\
di 3 1 (pt m) n λl=>St 1 p l g λg=>JE e [] g) (JE e [] k)) (Ld o f λe=>aA 3 o (pt j) λg=>cr zQ a e #[g] o (λe g=>lX e λe j=>lN j i0 λk=>Br k (rt h (tP (ui 0) j) g) (Ld g f λf=>aA 3 g (pt m) λj=>cr zQ a f #[j] g (λf g=>lX f λf j=>lN j i0 λk=>Br k (rt h (tP (ui 0) j) g) (Ld g d λd=>CR h a 210 #[d,i,e,f] g λa d=>lX a λa e=>jA (λf=>rt h (tP a e) f) λf=>lE e i0 λe=>Br e (Ld d c λc=>aA 3 d (pt b) λb=>fY zQ 237 d c b a λa=>JE f [] a) (JE f [] d))) (cP h))) (cP h))))
theorem nf:qF L207 207:=λh=>sd (hN 5 (.n (zE 1 [] [] (hr 0 [] 0 2 (hr 1 [] 2 2 (hr 0 [] 2 4 .e)))) (.n (zA (zB (zE 0 [51] [1,2,4,5,11,12,13,49,50] (zA (zA (zE 1 [] [1,2,4,5,11,12,13,49,50,51] (zB (zA (zA (zB (zF 0 (yR 10) []))))))))))) (hN 5 (zF 1 [] [17,19]))))) func207 h
def L208:Y2:=λa b c d e=>lK d c 237 λc d=>aA 3 d (pt c) λc=>yB [sZ,i0] d λd f g h i=>lL h (iv 3) λj=>Br j (aG zQ a (bQ Tryz.f208 4 0) (ev (λj=>cond (Nat.beq j 10) c (cond (Nat.beq j 11) h (undef)))) i λc=>lM 0 b i λb=>CR e a 133 #[b,c] i λa b=>lX a λa _=>lQ 3 b nC 201 a λa b=>aA 3 b (pt a) λa=>aj zQ 293 1 [(0,a)] b λa b=>App zQ 201 3 16 (.agg nC) b g a λa b=>lA h i1 λc=>aI d f [a,c] b [g,h] i) (rt e g i)
theorem th:qC L208 208:=λh=>sd (zA (zA (zB (zA (zB (zF 0 [5,11] [0,10])))))) func208 h
def L209:Y2:=λ_ a b c d=>bp b λe=>yB [(iv (-1)),i0] c λc f g h i=>lL h e λe=>Br e (jB (λe j=>lA h i1 λk=>aI c f [e,k] j [g,h] i) λc=>ai 3 b h λb=>aA 3 i b λb=>lQ 3 i nC 201 b λb e=>lD 0 (pt b) e λf=>oG f i0 λf=>lU f (λf=>lL g i0 λh=>bO h false (λh=>lM 1 a e λj=>lD 0 (pt b) e λk=>lI 1 j k e λj=>lM 1 a e λa=>lI 1 a g e λa=>lL j a λa=>(lV e a h)) (λh=>vT=Value.bool h) λh=>∀_:Fr,
(lV e (Value.bool h) f)) λf=>Br (Value.bool f) (lD 0 (pt b) e λa=>JE c [a] e) (JE c [g] e)) (rt d g i)
theorem tg:qC L209 209:=λh=>sd (zA (zA (zB (zA (zB (zE 0 [5,10] [0,8,9] (zA (zA (zF 1 [5] [0,8,9,10]))))))))) func209 h
def L210:Y4:=λa b c d e f g=>lE d e λh=>Br h (rt g (tP d i0) f) (lM 0 b f λh=>CR g a 158 #[h,c,d,e] f λf h=>lX f λf i=>jA (λj=>rt g (tP (ui 0) i) j) λj=>lE i i0 λk=>Br k (lM 2 b h λk=>aj zQ 189 1 [(0,f)] h λl m=>App zQ 82 1 4 (ui 0) m k l λk l=>lC 2 b λm=>St 1 l m k λk=>rt g (tP f i0) k) (lE i (iv 8) λf=>Br f (lM 0 b h λb=>CR g a 255 #[b,c,d,e] h λa b=>lX a λa c=>Br c (rt g (tP a i0) b) (JE j [] b)) (JE j [] h)))
theorem nc:qE L210 210:=λh=>sd (hN 3 (zF 1 [] [11])) func210 h
def L211:Y5:=λa b c d e f g h=>CR h a 137 #[b] g λg i=>lO g (λg=>Ld i c λj=>lR (.int .u32) i0 false i j b λj=>lG j i0 λj=>(lV i j g)) λg=>Br (Value.bool g) (rt h (.tuple #[]) i) (Ld i c λc=>jc (.int .u32) i c b i1 λc=>Ld c d λd=>CR h a 138 #[d,b] c λb c=>lQ 3 c nC 201 b λb c=>Ld c e λd=>aA 3 c (pt b) λe=>cr zQ a d #[e] c (λ_ c=>Ld c f λd=>lD 1 (pt b) c λe=>cr zQ a d #[e] c (λ_ c=>Ld c f λd=>lD 2 (pt b) c λb=>cr zQ a d #[b] c (λ_ a=>rt h (.tuple #[]) a) (cP h)) (cP h)) (cP h))
theorem m9:qF L211 211:=λh=>sd (zB (zB (zF 0 [] [1]))) func211 h
def L212:Y2:=λa b c d e=>lW d nC 201 λd f=>oP b λg=>Br g (Build zQ 201 [] λg=>St 3 f (pt d) g λg=>aA 3 g (pt d) λh=>rt e (tP h (iv 10)) g) (CR e a 256 #[b,c] f λa f=>Un .not a λa=>Br a (Build zQ 201 [] λa=>St 3 f (pt d) a λa=>aA 3 a (pt d) λg=>rt e (tP g (iv 3)) a) (lM 1 b f λa=>ai 5 a c λa=>ah 0 a λa=>aA 3 f a λa=>St 3 f (pt d) a λa=>aA 3 a (pt d) λb=>rt e (tP b i0) a))
theorem tf:qC L212 212:=λh=>sd .e func212 h
def L213:Y2:=λ_ a b c d=>oP a λe=>Br e (rt d (iv 10) c) (lL b i0 λe=>lO e (λe=>lM 0 a c λa=>bp a λa=>oG b a λa=>(lV c a e)) λe=>Br (Value.bool e) (rt d (iv 2) c) (rt d i0 c))
theorem td:qC L213 213:=λh=>sd (zA (zB (zB (zA (zA (zB (zF 0 [] [1]))))))) func213 h
def L214:Y2:=λa b c d e=>jB (λf g=>Br f (rt e (iv 3) g) (rt e i0 g)) λf=>oQ c (ui 1) λg=>Split g false (CR e a 256 #[b,c] d λa b=>Un .not a λa=>az vF vT a λa=>JE f [a] b) (az vT vT undef λa=>JE f [a] d)
theorem tc:qC L214 214:=λh=>sd (zA (zB (zF 1 [12] []))) func214 h
def L215:Y1:=λa b c d=>lL b (iv 10) λe=>Br e (lA b i1 λe=>aG zQ a (bQ Tryz.f215 2 3) (ev (λf=>cond (Nat.beq f 5) b (cond (Nat.beq f 7) e (undef)))) c λe=>rt d e c) (oM b (iv 2) λe=>oM b (iv 2) λb=>lA b (iv 2) λb=>aG zQ a (bQ Tryz.f215 3 5) (ev (λf=>cond (Nat.beq f 10) e (cond (Nat.beq f 13) b (undef)))) c λa=>rt d a c)
theorem m8:qB L215 215:=λh=>sd .e func215 h
def L216:Y1:=λa b c d=>CR d a 252 #[b] c λc e=>CR d a 257 #[c] e λc e=>di 20 1 (.pointer (some ⟨1,0,none⟩)) c λf=>Ld e f λf=>oG b f λb=>CR d a 258 #[b] e λa b=>lA c a λa=>rt d a b
theorem s9:qB L216 216:=λh=>sd .e func216 h
def L217:Y2:=λ_ a b c d=>bp a λe=>yB [b,e] c λb c e f g=>oG f (iv 8) λh=>Br h (ae .num .rem e (wi 100000000) λh=>aM .u32 h λh=>ae .num .quo e (wi 100000000) λi=>ae .num .quo h (ui 10000) λj=>ae .num .rem h (ui 10000) λh=>ae .num .quo h (ui 100) λk=>oM k (ui 2) λk=>ae .num .rem h (ui 100) λh=>oM h (ui 2) λh=>ae .num .quo j (ui 100) λl=>oM l (ui 2) λl=>ae .num .rem j (ui 100) λj=>oM j (ui 2) λj=>DR g λm=>lS f i1 λn=>lS f (iv 2) λo=>lA h (ui 1) λp=>aY (.string (ByteArray.mk #[48,48,48,49,48,50,48,51,48,52,48,53,48,54,48,55,48,56,48,57,49,48,49,49,49,50,49,51,49,52,49,53,49,54,49,55,49,56,49,57,50,48,50,49,50,50,50,51,50,52,50,53,50,54,50,55,50,56,50,57,51,48,51,49,51,50,51,51,51,52,51,53,51,54,51,55,51,56,51,57,52,48,52,49,52,50,52,51,52,52,52,53,52,54,52,55,52,56,52,57,53,48,53,49,53,50,53,51,53,52,53,53,53,54,53,55,53,56,53,57,54,48,54,49,54,50,54,51,54,52,54,53,54,54,54,55,54,56,54,57,55,48,55,49,55,50,55,51,55,52,55,53,55,54,55,55,55,56,55,57,56,48,56,49,56,50,56,51,56,52,56,53,56,54,56,55,56,56,56,57,57,48,57,49,57,50,57,51,57,52,57,53,57,54,57,55,57,56,57,57])) p λp=>aY (.string (ByteArray.mk #[48,48,48,49,48,50,48,51,48,52,48,53,48,54,48,55,48,56,48,57,49,48,49,49,49,50,49,51,49,52,49,53,49,54,49,55,49,56,49,57,50,48,50,49,50,50,50,51,50,52,50,53,50,54,50,55,50,56,50,57,51,48,51,49,51,50,51,51,51,52,51,53,51,54,51,55,51,56,51,57,52,48,52,49,52,50,52,51,52,52,52,53,52,54,52,55,52,56,52,57,53,48,53,49,53,50,53,51,53,52,53,53,53,54,53,55,53,56,53,57,54,48,54,49,54,50,54,51,54,52,54,53,54,54,54,55,54,56,54,57,55,48,55,49,55,50,55,51,55,52,55,53,55,54,55,55,55,56,55,57,56,48,56,49,56,50,56,51,56,52,56,53,56,54,56,55,56,56,56,57,57,48,57,49,57,50,57,51,57,52,57,53,57,54,57,55,57,56,57,57])) h λh=>ai 1 a n λn=>St 1 g n p λn=>aN n m/\
ai 1 a o λm=>St 1 n m h λh=>DR h λm=>lS f (iv 3) λn=>lS f (iv 4) λo=>lA k (ui 1) λp=>aY (.string (ByteArray.mk #[48,48,48,49,48,50,48,51,48,52,48,53,48,54,48,55,48,56,48,57,49,48,49,49,49,50,49,51,49,52,49,53,49,54,49,55,49,56,49,57,50,48,50,49,50,50,50,51,50,52,50,53,50,54,50,55,50,56,50,57,51,48,51,49,51,50,51,51,51,52,51,53,51,54,51,55,51,56,51,57,52,48,52,49,52,50,52,51,52,52,52,53,52,54,52,55,52,56,52,57,53,48,53,49,53,50,53,51,53,52,53,53,53,54,53,55,53,56,53,57,54,48,54,49,54,50,54,51,54,52,54,53,54,54,54,55,54,56,54,57,55,48,55,49,55,50,55,51,55,52,55,53,55,54,55,55,55,56,55,57,56,48,56,49,56,50,56,51,56,52,56,53,56,54,56,55,56,56,56,57,57,48,57,49,57,50,57,51,57,52,57,53,57,54,57,55,57,56,57,57])) p λp=>aY (.string (ByteArray.mk #[48,48,48,49,48,50,48,51,48,52,48,53,48,54,48,55,48,56,48,57,49,48,49,49,49,50,49,51,49,52,49,53,49,54,49,55,49,56,49,57,50,48,50,49,50,50,50,51,50,52,50,53,50,54,50,55,50,56,50,57,51,48,51,49,51,50,51,51,51,52,51,53,51,54,51,55,51,56,51,57,52,48,52,49,52,50,52,51,52,52,52,53,52,54,52,55,52,56,52,57,53,48,53,49,53,50,53,51,53,52,53,53,53,54,53,55,53,56,53,57,54,48,54,49,54,50,54,51,54,52,54,53,54,54,54,55,54,56,54,57,55,48,55,49,55,50,55,51,55,52,55,53,55,54,55,55,55,56,55,57,56,48,56,49,56,50,56,51,56,52,56,53,56,54,56,55,56,56,56,57,57,48,57,49,57,50,57,51,57,52,57,53,57,54,57,55,57,56,57,57])) k λk=>ai 1 a n λn=>St 1 h n p λh=>aN h m/\
ai 1 a o λm=>St 1 h m k λh=>DR h λk=>lS f (iv 5) λm=>lS f (iv 6) λn=>lA j (ui 1) λo=>aY (.string (ByteArray.mk #[48,48,48,49,48,50,48,51,48,52,48,53,48,54,48,55,48,56,48,57,49,48,49,49,49,50,49,51,49,52,49,53,49,54,49,55,49,56,49,57,50,48,50,49,50,50,50,51,50,52,50,53,50,54,50,55,50,56,50,57,51,48,51,49,51,50,51,51,51,52,51,53,51,54,51,55,51,56,51,57,52,48,52,49,52,50,52,51,52,52,52,53,52,54,52,55,52,56,52,57,53,48,53,49,53,50,53,51,53,52,53,53,53,54,53,55,53,56,53,57,54,48,54,49,54,50,54,51,54,52,54,53,54,54,54,55,54,56,54,57,55,48,55,49,55,50,55,51,55,52,55,53,55,54,55,55,55,56,55,57,56,48,56,49,56,50,56,51,56,52,56,53,56,54,56,55,56,56,56,57,57,48,57,49,57,50,57,51,57,52,57,53,57,54,57,55,57,56,57,57])) o λo=>aY (.string (ByteArray.mk #[48,48,48,49,48,50,48,51,48,52,48,53,48,54,48,55,48,56,48,57,49,48,49,49,49,50,49,51,49,52,49,53,49,54,49,55,49,56,49,57,50,48,50,49,50,50,50,51,50,52,50,53,50,54,50,55,50,56,50,57,51,48,51,49,51,50,51,51,51,52,51,53,51,54,51,55,51,56,51,57,52,48,52,49,52,50,52,51,52,52,52,53,52,54,52,55,52,56,52,57,53,48,53,49,53,50,53,51,53,52,53,53,53,54,53,55,53,56,53,57,54,48,54,49,54,50,54,51,54,52,54,53,54,54,54,55,54,56,54,57,55,48,55,49,55,50,55,51,55,52,55,53,55,54,55,55,55,56,55,57,56,48,56,49,56,50,56,51,56,52,56,53,56,54,56,55,56,56,56,57,57,48,57,49,57,50,57,51,57,52,57,53,57,54,57,55,57,56,57,57])) j λj=>ai 1 a m λm=>St 1 h m o λh=>aN h k/\
ai 1 a n λk=>St 1 h k j λh=>DR h λj=>lS f (iv 7) λk=>lS f (iv 8) λm=>lA l (ui 1) λn=>aY (.string (ByteArray.mk #[48,48,48,49,48,50,48,51,48,52,48,53,48,54,48,55,48,56,48,57,49,48,49,49,49,50,49,51,49,52,49,53,49,54,49,55,49,56,49,57,50,48,50,49,50,50,50,51,50,52,50,53,50,54,50,55,50,56,50,57,51,48,51,49,51,50,51,51,51,52,51,53,51,54,51,55,51,56,51,57,52,48,52,49,52,50,52,51,52,52,52,53,52,54,52,55,52,56,52,57,53,48,53,49,53,50,53,51,53,52,53,53,53,54,53,55,53,56,53,57,54,48,54,49,54,50,54,51,54,52,54,53,54,54,54,55,54,56,54,57,55,48,55,49,55,50,55,51,55,52,55,53,55,54,55,55,55,56,55,57,56,48,56,49,56,50,56,51,56,52,56,53,56,54,56,55,56,56,56,57,57,48,57,49,57,50,57,51,57,52,57,53,57,54,57,55,57,56,57,57])) n λn=>aY (.string (ByteArray.mk #[48,48,48,49,48,50,48,51,48,52,48,53,48,54,48,55,48,56,48,57,49,48,49,49,49,50,49,51,49,52,49,53,49,54,49,55,49,56,49,57,50,48,50,49,50,50,50,51,50,52,50,53,50,54,50,55,50,56,50,57,51,48,51,49,51,50,51,51,51,52,51,53,51,54,51,55,51,56,51,57,52,48,52,49,52,50,52,51,52,52,52,53,52,54,52,55,52,56,52,57,53,48,53,49,53,50,53,51,53,52,53,53,53,54,53,55,53,56,53,57,54,48,54,49,54,50,54,51,54,52,54,53,54,54,54,55,54,56,54,57,55,48,55,49,55,50,55,51,55,52,55,53,55,54,55,55,55,56,55,57,56,48,56,49,56,50,56,51,56,52,56,53,56,54,56,55,56,56,56,57,57,48,57,49,57,50,57,51,57,52,57,53,57,54,57,55,57,56,57,57])) l λl=>ai 1 a k λk=>St 1 h k n λh=>aN h j/\
ai 1 a m λj=>St 1 h j l λh=>lS f (iv 8) λj=>aI b c [i,j] h [e,f] g) (aM .u32 e λb=>jC (λc e h=>jC (λi j k=>lG i i0 λi=>Br i (lA (ui 48) j λi=>aM .u8 i λi=>ai 1 a i0 λj=>St 1 k j i λi=>rt d (.tuple #[]) i) (rt d (.tuple #[]) k)) λd=>oG c (iv 2) λi=>Br i (ae .num .rem e (ui 100) λi=>oM i (ui 2) λi=>ae .num .quo e (ui 100) λj=>DR h λk=>lS c i1 λl=>lS c (iv 2) λm=>lA i (ui 1) λn=>aY (.string (ByteArray.mk #[48,48,48,49,48,50,48,51,48,52,48,53,48,54,48,55,48,56,48,57,49,48,49,49,49,50,49,51,49,52,49,53,49,54,49,55,49,56,49,57,50,48,50,49,50,50,50,51,50,52,50,53,50,54,50,55,50,56,50,57,51,48,51,49,51,50,51,51,51,52,51,53,51,54,51,55,51,56,51,57,52,48,52,49,52,50,52,51,52,52,52,53,52,54,52,55,52,56,52,57,53,48,53,49,53,50,53,51,53,52,53,53,53,54,53,55,53,56,53,57,54,48,54,49,54,50,54,51,54,52,54,53,54,54,54,55,54,56,54,57,55,48,55,49,55,50,55,51,55,52,55,53,55,54,55,55,55,56,55,57,56,48,56,49,56,50,56,51,56,52,56,53,56,54,56,55,56,56,56,57,57,48,57,49,57,50,57,51,57,52,57,53,57,54,57,55,57,56,57,57])) n λn=>aY (.string (ByteArray.mk #[48,48,48,49,48,50,48,51,48,52,48,53,48,54,48,55,48,56,48,57,49,48,49,49,49,50,49,51,49,52,49,53,49,54,49,55,49,56,49,57,50,48,50,49,50,50,50,51,50,52,50,53,50,54,50,55,50,56,50,57,51,48,51,49,51,50,51,51,51,52,51,53,51,54,51,55,51,56,51,57,52,48,52,49,52,50,52,51,52,52,52,53,52,54,52,55,52,56,52,57,53,48,53,49,53,50,53,51,53,52,53,53,53,54,53,55,53,56,53,57,54,48,54,49,54,50,54,51,54,52,54,53,54,54,54,55,54,56,54,57,55,48,55,49,55,50,55,51,55,52,55,53,55,54,55,55,55,56,55,57,56,48,56,49,56,50,56,51,56,52,56,53,56,54,56,55,56,56,56,57,57,48,57,49,57,50,57,51,57,52,57,53,57,54,57,55,57,56,57,57])) i λi=>ai 1 a l λl=>St 1 h l n λl=>aN l k/\
ai 1 a m λk=>St 1 l k i λi=>lS c (iv 2) λk=>JE d [k,j] i) (JE d [c,e] h)) λc=>oG f (iv 4) λd=>Br d (ae .num .rem b (ui 10000) λd=>ae .num .quo b (ui 10000) λe=>ae .num .quo d (ui 100) λh=>oM h (ui 2) λh=>ae .num .rem d (ui 100) λd=>oM d (ui 2) λd=>DR g λi=>lS f i1 λj=>lS f (iv 2) λk=>lA d (ui 1) λl=>aY (.string (ByteArray.mk #[48,48,48,49,48,50,48,51,48,52,48,53,48,54,48,55,48,56,48,57,49,48,49,49,49,50,49,51,49,52,49,53,49,54,49,55,49,56,49,57,50,48,50,49,50,50,50,51,50,52,50,53,50,54,50,55,50,56,50,57,51,48,51,49,51,50,51,51,51,52,51,53,51,54,51,55,51,56,51,57,52,48,52,49,52,50,52,51,52,52,52,53,52,54,52,55,52,56,52,57,53,48,53,49,53,50,53,51,53,52,53,53,53,54,53,55,53,56,53,57,54,48,54,49,54,50,54,51,54,52,54,53,54,54,54,55,54,56,54,57,55,48,55,49,55,50,55,51,55,52,55,53,55,54,55,55,55,56,55,57,56,48,56,49,56,50,56,51,56,52,56,53,56,54,56,55,56,56,56,57,57,48,57,49,57,50,57,51,57,52,57,53,57,54,57,55,57,56,57,57])) l λl=>aY (.string (ByteArray.mk #[48,48,48,49,48,50,48,51,48,52,48,53,48,54,48,55,48,56,48,57,49,48,49,49,49,50,49,51,49,52,49,53,49,54,49,55,49,56,49,57,50,48,50,49,50,50,50,51,50,52,50,53,50,54,50,55,50,56,50,57,51,48,51,49,51,50,51,51,51,52,51,53,51,54,51,55,51,56,51,57,52,48,52,49,52,50,52,51,52,52,52,53,52,54,52,55,52,56,52,57,53,48,53,49,53,50,53,51,53,52,53,53,53,54,53,55,53,56,53,57,54,48,54,49,54,50,54,51,54,52,54,53,54,54,54,55,54,56,54,57,55,48,55,49,55,50,55,51,55,52,55,53,55,54,55,55,55,56,55,57,56,48,56,49,56,50,56,51,56,52,56,53,56,54,56,55,56,56,56,57,57,48,57,49,57,50,57,51,57,52,57,53,57,54,57,55,57,56,57,57])) d λd=>ai 1 a j λj=>St 1 g j l λj=>aN j i/\
ai 1 a k λi=>St 1 j i d λd=>DR d λi=>lS f (iv 3) λj=>lS f (iv 4) λk=>lA h (ui 1) λl=>aY (.string (ByteArray.mk #[48,48,48,49,48,50,48,51,48,52,48,53,48,54,48,55,48,56,48,57,49,48,49,49,49,50,49,51,49,52,49,53,49,54,49,55,49,56,49,57,50,48,50,49,50,50,50,51,50,52,50,53,50,54,50,55,50,56,50,57,51,48,51,49,51,50,51,51,51,52,51,53,51,54,51,55,51,56,51,57,52,48,52,49,52,50,52,51,52,52,52,53,52,54,52,55,52,56,52,57,53,48,53,49,53,50,53,51,53,52,53,53,53,54,53,55,53,56,53,57,54,48,54,49,54,50,54,51,54,52,54,53,54,54,54,55,54,56,54,57,55,48,55,49,55,50,55,51,55,52,55,53,55,54,55,55,55,56,55,57,56,48,56,49,56,50,56,51,56,52,56,53,56,54,56,55,56,56,56,57,57,48,57,49,57,50,57,51,57,52,57,53,57,54,57,55,57,56,57,57])) l λl=>aY (.string (ByteArray.mk #[48,48,48,49,48,50,48,51,48,52,48,53,48,54,48,55,48,56,48,57,49,48,49,49,49,50,49,51,49,52,49,53,49,54,49,55,49,56,49,57,50,48,50,49,50,50,50,51,50,52,50,53,50,54,50,55,50,56,50,57,51,48,51,49,51,50,51,51,51,52,51,53,51,54,51,55,51,56,51,57,52,48,52,49,52,50,52,51,52,52,52,53,52,54,52,55,52,56,52,57,53,48,53,49,53,50,53,51,53,52,53,53,53,54,53,55,53,56,53,57,54,48,54,49,54,50,54,51,54,52,54,53,54,54,54,55,54,56,54,57,55,48,55,49,55,50,55,51,55,52,55,53,55,54,55,55,55,56,55,57,56,48,56,49,56,50,56,51,56,52,56,53,56,54,56,55,56,56,56,57,57,48,57,49,57,50,57,51,57,52,57,53,57,54,57,55,57,56,57,57])) h λh=>ai 1 a j λj=>St 1 d j l λd=>aN d i/\
ai 1 a k λa=>St 1 d a h λa=>lS f (iv 4) λd=>JE c [d,e] a) (JE c [f,b] g))
theorem m7:qC L217 217:=λh=>sd (zA (.n (zB (zE 0 [1,4] [0] (zA (zB (hN 5 (.n (zF 0 (yR 15) []) (.n (zF 0 (yR 15) []) (.n (zF 0 (yR 15) []) (zB (zF 0 (yR 15) [])))))))))) (zA (.h 1 [4,12] [0] (zA (zB (hN 3 (.n (zF 0 (yR 15) []) (zB (zF 0 (yR 15) [])))))) (zE 1 [4,12] [0] (zA (zB (zA (zA (zB (zF 0 (yR 15) []))))))))))) func217 h
variable {g:Gh} {a0 a1 a2 a3 a4 a5 a6 a7 a8 a9 GJ GI JA Jz Jy Jx:zV} {H:Hp} {R:Rt}
def L230:Y1:=λ_ a b c=>oP a λd=>Br d (rt c i0 b) (lM 0 a b λa=>rt c a b)
theorem s8:qB L230 230:=λh=>sd .e func230 h
def L231:Y2:=λa b c d e=>lK d c 201 λc d=>lD 0 (pt c) d λf=>CR e a 213 #[b,f] d λa d=>lN a i0 λa=>Br a (rt e (tP (ui 0) vF) d) (lM 0 b d λa=>lD 0 (pt c) d λb=>lI 1 a b d λa=>aA 3 d (pt c) λb=>gj zQ 201 (ui 0) true d a b λa=>lX a λa b=>rt e (tP a b) d)
theorem s7:qC L231 231:=λh=>sd .e func231 h
def L232:Y2:=λa b c d e=>lK d c 201 λc d=>lD 0 (pt c) d λf=>lL f i0 λf=>lO f (λf=>lD 0 (pt c) d λg=>oG g (iv 64) λg=>(lV d g f)) λf=>Br (Value.bool f) (rt e (iv 2) d) (jB (λf g=>Br f (rt e (iv 3) g) (rt e i0 g)) λf=>lD 1 (pt c) d λg=>CR e a 256 #[b,g] d λd g=>Un .not d λd=>Split d false (lD 2 (pt c) g λc=>CR e a 256 #[b,c] g λa b=>Un .not a λa=>az vF vT a λa=>JE f [a] b) (az vT vT undef λa=>JE f [a] g))
theorem s6:qC L232 232:=λh=>sd (zA (zB (zB (.n (zF 0 [] [1]) (zA (zF 1 [14] [])))))) func232 h
def L242:Y3:=λa b c d e f=>lA c i1 λg=>yA [g] e λe g h i=>lL h d λd=>Br d (yA [h] i λd j k l=>jB (λm n=>Br m (DR n λm=>lS k i1 λo=>lS k i1 λp=>lI 1 b p m λp=>lI 1 b k m λm=>ai 1 b k λq=>St 1 n q p λp=>ai 1 b o λo=>St 1 p o m λm=>lS k i1 λo=>aI d j [o] m [k] l) (lA h i1 λd=>aI e g [d] n [h] i)) λd=>DR l λe=>lG k c λc=>Br c (lI 1 b k e λc=>lS k i1 λg=>lI 1 b g e λb=>∀e:Hp,
CN (a.add e) 248 #[c,b] l λa b=>az vT a vF λa=>JE d [a] b) (JE d [vF] l)) (rt f (.tuple #[]) i)
theorem s5:qD L242 242:=λh=>sd (zA (zB (zE 0 [6] [0,1,2] (zA (zB (zB (zA (zB (zE 0 [7] [0,1,2,6] (.n (zE 1 [30] [0,1,2,6,7] (zE 1 [] [] (hr 0 [] 0 3 (.h 2 [3] [] (hr 0 [] 4 11 .e) (hr 0 [] 4 10 (zF 3 [14] [])))))) (zB (zB (zF 0 (yR 18) []))))))))))))) func242 h
def L252:Y1:=λ_ a b c=>jC (λd e f=>jC (λg h i=>jC (λj k l=>aM .u8 j λj=>aY (.string  zX) j λj=>aM .i64 j λj=>lA k j λj=>rt c j l) λc=>oG g (wi 256) λj=>Br j (oR g (wi 8) λj=>lA h (iv 8) λk=>JE c [j,k] i) (JE c [g,h] i)) λc=>oG d (wi 65536) λg=>Br g (oR d (wi 16) λg=>lA e (iv 16) λh=>JE c [g,h] f) (JE c [d,e] f)) λc=>oG a (wi 4294967296) λd=>Br d (oR a (wi 32) λd=>JE c [d,(iv 32)] b) (JE c [a,i0] b)
theorem s4:qB L252 252:=λh=>sd (zA (.h 1 [0,2] [] .e (.h 1 [0,2] [] .e (zF 1 [0,2] [])))) func252 h
def L253:Y2:=λa b c d e=>lC 0 b λf=>CR e a 166 #[f,c] d λa c=>lQ 3 c nC 201 a λa c=>lD 0 (pt a) c λd=>oG d i0 λd=>Br d (lM 6 b c λd=>lD 0 (pt a) c λa=>lI 1 d a c λa=>rt e a c) (lM 4 b c λa=>rt e a c)
theorem sY:qC L253 253:=λh=>sd .e func253 h
def L254:Y2:=λa b c d e=>lK d c 201 λc d=>oP b λf=>Br f (rt e (tP (ui 0) (iv 10)) d) (aA 3 d (pt c) λf=>CR e a 232 #[b,f] d λa d=>lN a i0 λf=>Br f (rt e (tP (ui 0) a) d) (lM 2 b d λa=>bp a λa=>lG a i0 λf=>Br f (lM 2 b d λf=>lS a i1 λg=>lI 1 f g d λf=>lM 2 b d λg=>lS a i1 λa=>bT 1 g none (some a) λa=>lC 2 b λg=>St 1 d g a λa=>DR a λg=>lM 1 b g λh=>aA 3 g (pt c) λg=>Build zQ 203 [(0,g),(1,vT)] λg=>ai 5 h f λh=>St 5 a h g λa=>lM 3 b a λg=>lA g i1 λg=>lC 3 b λh=>St 1 a h g λa=>rt e (tP f i0) a) (lM 1 b d λa=>bp a λa=>lM 0 b d λf=>oG a f λa=>Br a (rt e (tP (ui 0) (iv 9)) d) (DR d λa=>lM 1 b a λf=>aA 3 a (pt c) λc=>Build zQ 203 [(0,c),(1,vT)] λc=>aj zQ 197 1 [(0,c)] d λc d=>aN d a/\
App zQ 203 5 24 (.agg #[i0,(ui 0),(ui 0),vF,(bi 0)]) d f c λc d=>aN d a/\
lC 1 b λa=>St 1 d a c λa=>lM 3 b a λc=>lA c i1 λc=>lC 3 b λd=>St 1 a d c λa=>lM 1 b a λb=>bp b λb=>lS b i1 λb=>aM .u32 b λb=>rt e (tP b i0) a))))
theorem sX:qC L254 254:=λh=>sd (hN 3 (.n (zA (zA (zB (zA (zA (zB (zF 0 (yR 9) []))))))) (zA (zB (zF 0 (yR 12) []))))) func254 h
def L255:Y4:=λa b c d e f g=>jB (λh i=>Br h (rt g (tP (ui 0) vF) i) (CR g a 203 #[b,c,d,e] i λh i=>lX h λh j=>rt g (tP h j) i)) λh=>oP b λi=>Split i false (CR g a 202 #[b,c,d,e] f λa b=>lN a i0 λa=>az vF vT a λa=>JE h [a] b) (az vT vT undef λa=>JE h [a] f)
theorem sW:qE L255 255:=λh=>sd (zA (zB (zF 1 [19] [0,1,2,3]))) func255 h
def L256:Y2:=λ_ a b c d=>aM .i64 b λe=>lM 1 a c λf=>bp f λf=>lL e f λe=>lU e (λe=>lM 1 a c λa=>ai 5 a b λa=>ah 3 a λa=>Ld c a λa=>(lV c a e)) λe=>rt d (Value.bool e) c
theorem sV:qC L256 256:=λh=>sd (zA (zB (zF 0 [] [1]))) func256 h
def L257:Y1:=λ_ a b c=>oM a (iv 78913) λa=>oR a (wi 18) λa=>rt c a b
theorem sU:qB L257 257:=λh=>sd .e func257 h
def L258:Y1:=λ_ a b c=>Br a (rt c i1 b) (rt c i0 b)
theorem sS:qB L258 258:=λh=>sd .e func258 h
end Go.Proofs
namespace Go.Sx
open Go
section
variable {P:Program} {g:Gh} {H:Hp}
theorem aU{f:FuncId}{args:Array zV}{C:Hp}{Q:zV->Hp->Prop}(h:∀g,aX P g f args C (bc Q)):Fc P f args C Q:=h
theorem Ld.q{b off:Nat}{c:Array zV}{T:TypeId}{fz:Nat×Nat}{v:zV}{k:zV->Prop}(h:k v)(hm:(b,Obj.cells c T fz)∈H:=by repeat (first|exact List.Mem.head _|apply List.Mem.tail|apply xaa))(hc:c[off]? =some v:=by rfl):Ld H (.pointer (some ⟨b,off,none⟩)) k:=.mk hm hc h
theorem Ld.f{b o off:Nat}{c:Array zV}{T:TypeId}{fz:Nat×Nat}{v:zV}{k:zV->Prop}(h:k v)(hm:(b,Obj.cells c T fz)∈H:=by repeat (first|exact List.Mem.head _|apply List.Mem.tail|apply xaa))(hc:c[o+off]? =some v:=by rfl):ah off (.pointer (some ⟨b,o,none⟩)) λp=>Ld H p k:=.mk (.mk hm hc h)
theorem Ld.n{b o off:Nat}{c:Array zV}{T:TypeId}{fz:Nat×Nat}{v:zV}{k:zV->Prop}(h:k v)(hm:(b,Obj.cells c T fz)∈H:=by repeat (first|exact List.Mem.head _|apply List.Mem.tail|apply xaa))(hc:c[o+off]? =some v:=by rfl):Nil (.pointer (some ⟨b,o,none⟩)) λq=>ah off q λp=>Ld H p k:=.ptr (.mk (.mk hm hc h))
theorem Ld.u{b o off:Nat}{c:Array zV}{T:TypeId}{fz:Nat×Nat}{v:zV}{k:zV->Prop}(hm:(b,Obj.cells c T fz)∈H)(h:k v)(hc:c[o+off]? =some v:=by rfl):ah off (.pointer (some ⟨b,o,none⟩)) λp=>Ld H p k:=.mk (.mk hm hc h)
theorem Ld.v{b o off:Nat}{c:Array zV}{T:TypeId}{fz:Nat×Nat}{v:zV}{k:zV->Prop}(hm:(b,Obj.cells c T fz)∈H)(h:k v)(hc:c[o+off]? =some v:=by rfl):Nil (.pointer (some ⟨b,o,none⟩)) λq=>ah off q λp=>Ld H p k:=.ptr (.mk (.mk hm hc h))
theorem aA.q{b n:Nat}{r:List zV}{T:TypeId}{fz:Nat×Nat}{K:zV->Prop}(h:K (.agg r.toArray))(hm:(b,Obj.cells r.toArray T fz)∈H:=by repeat (first|exact List.Mem.head _|apply List.Mem.tail|apply xaa))(hr:r.length=n:=by rfl):aA n H (.pointer (some ⟨b,0,none⟩)) K:=.whole hm hr h
theorem St.q{b n:Nat}{c:Array zV}{T:TypeId}{r:List zV}{H':Hp}{K:Hp->Prop}(h:K H')(hu:bW b (.cells c T zZ) (.cells r.toArray T zZ) H H':=by repeat (first|exact bW.head _|apply bW.tail|apply bW.aB))(hs:c.size=n:=by rfl)(hr:r.length=n:=by rfl)(h1:∀v∈r,v.oneCell'=true:=by simp[Value.oneCell']):
  St n H (.pointer (some ⟨b,0,none⟩)) (.agg r.toArray) K:=.whole hu hs hr h1 h
theorem St.p{b n:Nat}{c:Array zV}{T:TypeId}{r:List zV}{H':Hp}{K:Hp->Prop}(h1:∀v∈r,v.oneCell'=true)(h:K H')(hu:bW b (.cells c T zZ) (.cells r.toArray T zZ) H H':=by repeat (first|exact bW.head _|apply bW.tail|apply bW.aB))(hs:c.size=n:=by rfl)(hr:r.length=n:=by rfl):
  St n H (.pointer (some ⟨b,0,none⟩)) (.agg r.toArray) K:=.whole hu hs hr h1 h
section
variable {kd rQ:IntKind} {a b:Nat} {k:zV->Prop}
theorem ae.xB(h:k (.int kd ((a+b:Nat):Int)))(hr:a+b<bY kd:=by first|(simp[bY];omega)|(simp only[bY];omega)|simp[bY]):ae .num .add (.int kd a) (.int kd b) k:=.eo hr h
theorem ae.inc(h:k (.int kd ((a+1:Nat):Int)))(hr:a+1<bY kd:=by first|(simp[bY];omega)|(simp only[bY];omega)|simp[bY]):ae .num .add (.int kd a) (.int kd 1) k:=.eo hr h
theorem ae.Cd(h:k (.int kd ((a-b:Nat):Int)))(ha:a<bY kd:=by first|(simp[bY];omega)|(simp only[bY];omega)|simp[bY])(hb:b<=a:=by omega):ae .num .sub (.int kd a) (.int kd b) k:=.e7 ha hb h
theorem ae.JV(h:k (.int kd ((a*b:Nat):Int)))(hr:a*b<bY kd:=by first|(simp[bY];omega)|(simp only[bY];omega)|simp[bY]):ae .num .mul (.int kd a) (.int kd b) k:=.g7 hr h
theorem aM.q(h:k (.int kd (a:Int)))(ha:a<bY kd:=by first|(simp[bY];omega)|(simp only[bY];omega)|simp[bY]):aM kd (.int rQ a) k:=.nat ha h
end
theorem Br.T{p:Prop}[Decidable p]{t f:Prop}(h:t)(hp:p:=by first|omega|decide|simp):Br (.bool (decide p)) t f:=.Is hp h
theorem Br.F{p:Prop}[Decidable p]{t f:Prop}(h:f)(hp:¬p:=by first|omega|decide|simp):Br (.bool (decide p)) t f:=.Iu hp h
theorem aa.fq{f:FuncId}{args:Array zV}{C H:Hp}{c:Hp->Hp}{Q:zV->Hp->Prop}{K:zV->Hp->Prop}{KP:List PanicEntry->Hp->Prop}(hc:Fc P f args C Q)
 (hk:∀v C',Q v C'->K v (c C'))(hh:bu C H c:=by repeat (first|exact bu.here|exact bu.left|apply bu.cons|apply bu.app)):aa P g f args H K KP:=.fn hh hc hk
theorem aa.rq{f:FuncId}{args:Array zV}{B H:Hp}{c:Hp->Hp}{Q:zV->Prop}{K:zV->Hp->Prop}{KP:List PanicEntry->Hp->Prop}(hc:Rd P f args B Q)
 (hk:∀v,Q v->K v H)(hh:bu B H c:=by repeat (first|exact bu.here|exact bu.left|apply bu.cons|apply bu.app)):aa P g f args H K KP:=.rd hh hc hk
theorem aa.eq{f:FuncId}{args:Array zV}{B H:Hp}{c:Hp->Hp}{v:zV}{K:zV->Hp->Prop}{KP:List PanicEntry->Hp->Prop}(hc:Rd P f args B (· =v))
 (hk:K v H)(hh:bu B H c:=by repeat (first|exact bu.here|exact bu.left|apply bu.cons|apply bu.app)):aa P g f args H K KP:=.rd hh hc λ_ h=>by subst h;exact hk
theorem aa.eh{f:FuncId}{args:Array zV}{B H:Hp}{c:Hp->Hp}{v:zV}{K:zV->Hp->Prop}{KP:List PanicEntry->Hp->Prop}(hh:bu B H c)(hc:Rd P f args B (· =v))
 (hk:K v H):aa P g f args H K KP:=.rd hh hc λ_ h=>by subst h;exact hk
theorem Ext.two{x y:zV}{k:zV->zV->Prop}(h:k x y):Ext 0 (.tuple #[x,y]) λa=>Ext 1 (.tuple #[x,y]) λb=>k a b:=.mk rfl (.mk rfl h)
end
end Go.Sx
set_option maxRecDepth 100000
namespace Go.Proofs
open Go Go.Sx Tryz
section
def kD(l:List Bool):Array zV:=(l.map Value.bool).toArray
end
section
theorem vU(L:List (zL)):(cF.iI L).length<=L.length:=by
 have:=cF.dz (λa l=>cF.add l a) 1 (λa l=>cF.jb l a) L [];simpa[cF.iI]using this
theorem AL(n u:Nat)(L:List (zL)):(cF.given n L u).length<=2*L.length:=by
 have h:=cF.dz (λt acc=>cF.add (cF.add acc (cF.lP n t u false)) (cF.lP n t u true)) 2 (λa l=>by have h1:=cF.jb (cF.add l (cF.lP n a u false)) (cF.lP n a u true);have h2:=cF.jb l (cF.lP n a u false);omega) L [];simpa[cF.given]using h
end
end Go.Proofs
namespace ay
open cF
theorem fh{x u v:Nat}{b c:Bool}(h:u≠v):aW (aW x u b) v c=aW (aW x v c) u b:=by
 apply xa6;intro k;rw[ak,ak,ak,ak];by_cases e1:k=u<;>by_cases e2:k=v
 ·exact absurd (e1.symm.trans e2) h
 ·simp[e1,h]
 ·simp[e2,xbJ h]
 simp[e1,e2]
structure Nd where
 v:Nat
 lo:Nat
 hi:Nat
deriving DecidableEq
abbrev dh:=Nat->Option Nd
abbrev Fn:=Nat->Bool
def live(N:dh)(r:Nat):Prop:=r<2\/∃d,N r=some d
def dep(n:Nat)(af:Nat->Nat)(N:dh)(r:Nat):Nat:=match N r with|some d=>af d.v|none=>n
structure WF(n:Nat)(af:Nat->Nat)(N:dh):Prop where
 two:∀{r d},N r=some d->2<=r
 var:∀{r d},N r=some d->d.v<n
 ne:∀{r d},N r=some d->d.lo≠d.hi
 lo:∀{r d},N r=some d->live N d.lo/\af d.v<dep n af N d.lo
 hi:∀{r d},N r=some d->live N d.hi/\af d.v<dep n af N d.hi
 uq:∀{r r' d},N r=some d->N r'=some d->r=r'
structure m5(n:Nat)(af:Nat->Nat):Prop where
 lt:∀v,v<n->af v<n
 inj:∀u v,u<n->v<n->af u=af v->u=v
structure Interp(N:dh)(S:Nat->Fn):Prop where
 zero:∀x,S 0 x=false
 one:∀x,S 1 x=true
 node:∀{r d},N r=some d->∀x,S r x=if x.testBit d.v then S d.hi x else S d.lo x
variable {n:Nat} {af:Nat->Nat} {N:dh} {S:Nat->Fn}
theorem bC{r:Nat}(h:N r=none):dep n af N r=n:=by unfold dep;rw[h]
theorem aq{r:Nat}{d:Nd}(h:N r=some d):dep n af N r=af d.v:=by unfold dep;rw[h]
theorem WF.iY(h:WF n af N)(hl:m5 n af)(r:Nat):dep n af N r<=n:=by
 cases e:N r with
 |none=>rw[bC e];exact xal _
 |some d=>rw[aq e];exact xbN (hl.lt _ (h.var e))
theorem WF.const(h:WF n af N){r:Nat}(hr:r<2):N r=none:=by
 cases e:N r with
 |none=>rfl
 |some d=>have:=h.two e;omega
theorem WF.indep(h:WF n af N)(hl:m5 n af)(hi:Interp N S):∀(k r:Nat),n-dep n af N r<=k->live N r->∀v,v<n->af v<dep n af N r->∀x b,S r (aW x v b)=S r x:=by
 intro k;induction k with
 |zero=>
  intro r hk hr v hv hlt x b;rcases hr with hr|⟨d,hd⟩
  ·have:r=0\/r=1:=by omega
   rcases this with rfl|rfl
   ·rw[hi.zero,hi.zero]
   rw[hi.one,hi.one]
  have h1:=hl.lt _ (h.var hd);rw[aq hd]at hk;omega
 |succ k ih=>
  intro r hk hr v hv hlt x b;rcases hr with hr|⟨d,hd⟩
  ·have:r=0\/r=1:=by omega
   rcases this with rfl|rfl
   ·rw[hi.zero,hi.zero]
   rw[hi.one,hi.one]
  rw[aq hd]at hk hlt;have h1:=hl.lt _ (h.var hd);obtain⟨l1,l2⟩:=h.lo hd;obtain⟨m1,m2⟩:=h.hi hd;have hne:d.v≠v:=λe=>by rw[e]at hlt;omega
  rw[hi.node hd,hi.node hd,ak,xac hne,ih d.lo zO l1 v hv zO,ih d.hi zO m1 v hv zO]
theorem WF.bK(h:WF n af N)(hl:m5 n af)(hi:Interp N S){r:Nat}(hr:live N r){v:Nat}(hv:v<n)(hlt:af v<dep n af N r)(x:Nat)(b:Bool):S r (aW x v b)=S r x:=
 h.indep hl hi _ r (xal _) hr v hv hlt x b
theorem WF.child(h:WF n af N)(hl:m5 n af)(hi:Interp N S){r:Nat}{d:Nd}(hd:N r=some d)(x:Nat)(b:Bool):S r (aW x d.v b)=S (if b then d.hi else d.lo) x:=by
 obtain⟨l1,l2⟩:=h.lo hd;obtain⟨m1,m2⟩:=h.hi hd;rw[hi.node hd,ak,xaf rfl];cases b
 ·simp only[xas,xaD];exact h.bK hl hi l1 (h.var hd) l2 x false
 simp only[xaS];exact h.bK hl hi m1 (h.var hd) m2 x true
theorem WF.canon(h:WF n af N)(hl:m5 n af)(hi:Interp N S):∀(k r r':Nat),(n-dep n af N r)+(n-dep n af N r')<=k->live N r->live N r'->(∀x,S r x=S r' x)->r=r':=by
 intro k;induction k with
 |zero=>
  intro r r' hk hr hr' he;have hc:∀{r},n-dep n af N r=0->live N r->r<2:=by
   intro r hk hr;rcases hr with hr|⟨d,hd⟩
   ·exact hr
   have h1:=hl.lt _ (h.var hd);rw[aq hd]at hk;omega
  have h1:=hc zO hr;have h2:=hc zO hr';have e0:=he 0;have:r=0\/r=1:=by omega
  have h3:r'=0\/r'=1:=by omega
  rcases this with rfl|rfl<;>rcases h3 with rfl|rfl<;>simp[hi.zero,hi.one]at e0<;>rfl
 |succ k ih=>
  have BF:∀r r',(n-dep n af N r)+(n-dep n af N r')<=k+1->live N r'->(∀x,S r x=S r' x)->∀d,N r=some d->af d.v<dep n af N r'->False:=by
   intro r r' hk hr' he d hd hlt;obtain⟨l1,l2⟩:=h.lo hd;obtain⟨m1,m2⟩:=h.hi hd;have hv:=h.var hd;have h1:=hl.lt _ hv;have d1:=h.iY hl d.lo;have d2:=h.iY hl d.hi;have d3:=h.iY hl r';rw[aq hd]at hk;have a1:d.lo=r':=ih d.lo r' zO l1 hr' λx=>by
    have:=h.child hl hi hd x false;simp only[xas,xaD]at this;rw[<-this,he,h.bK hl hi hr' hv hlt]
   have a2:d.hi=r':=ih d.hi r' zO m1 hr' λx=>by
    have:=h.child hl hi hd x true;simp only[xaS]at this;rw[<-this,he,h.bK hl hi hr' hv hlt]
   exact h.ne hd (a1.trans a2.symm)
  intro r r' hk hr hr' he;rcases hr with hr|⟨d,hd⟩
  ·rcases hr' with hr'|⟨d',jW⟩
   ·have e0:=he 0;have:r=0\/r=1:=by omega
    have h3:r'=0\/r'=1:=by omega
    rcases this with rfl|rfl<;>rcases h3 with rfl|rfl<;>simp[hi.zero,hi.one]at e0<;>rfl
   refine(BF r' r zO (.inl hr) (λx=>(he x).symm) d' jW ?_).elim;rw[bC (h.const hr)];exact hl.lt _ (h.var jW)
  rcases xdt (af d.v) (dep n af N r')with hlt|heq|hgt
  ·exact(BF r r' hk hr' he d hd hlt).elim
  ·rcases hr' with hr'|⟨d',jW⟩
   ·rw[bC (h.const hr')]at heq;have:=hl.lt _ (h.var hd);omega
   rw[aq jW]at heq;have hv:=hl.inj _ _ (h.var hd) (h.var jW) heq;obtain⟨l1,l2⟩:=h.lo hd;obtain⟨m1,m2⟩:=h.hi hd;obtain⟨NO,Qd⟩:=h.lo jW;obtain⟨NM,Qc⟩:=h.hi jW;have h1:=hl.lt _ (h.var hd);have d1:=h.iY hl d.lo;have d2:=h.iY hl d.hi;have Qz:=h.iY hl d'.lo;have Qy:=h.iY hl d'.hi;rw[aq hd,aq jW]at hk;have c1:=λx=>h.child hl hi hd x false;have c2:=λx=>h.child hl hi hd x true;have M1:=λx=>h.child hl hi jW x false;have M0:=λx=>h.child hl hi jW x true;simp only[xas,xaD,xaS]at c1 c2 M1 M0;have a1:d.lo=d'.lo:=ih d.lo d'.lo zO l1 NO λx=>by rw[<-c1,<-M1,he,hv]
   have a2:d.hi=d'.hi:=ih d.hi d'.hi zO m1 NM λx=>by rw[<-c2,<-M0,he,hv]
   have:d=d':=by cases d;cases d';simp_all
   subst this;exact h.uq hd jW
  rcases hr' with hr'|⟨d',jW⟩
  ·rw[bC (h.const hr')]at hgt;have:=hl.lt _ (h.var hd);omega
  rw[aq jW]at hgt;refine(BF r' r zO (.inr ⟨d,hd⟩) (λx=>(he x).symm) d' jW ?_).elim;rw[aq hd];exact hgt
theorem WF.same(h:WF n af N)(hl:m5 n af)(hi:Interp N S){r r':Nat}(hr:live N r)(hr':live N r')(he:∀x,S r x=S r' x):r=r':=h.canon hl hi _ r r' (xal _) hr hr' he
end ay
namespace ay
open cF
variable {n:Nat} {af:Nat->Nat} {N:dh} {S:Nat->Fn} {ord:zL}
def cT(g:Fn)(v:Nat):Prop:=∃x,g (aW x v false)≠g (aW x v true)
def fs(ord:zL)(F:Fn->Prop):Nat->Fn->Prop
 |0,g=>F g
 |l+1,g=>∃f,fs ord F l f/\∃b,g=λx=>f (aW x (ord.getD l 0) b)
def aJ(n:Nat)(ord:zL)(F:Fn->Prop)(g:Fn):Prop:=∃l,l<n/\fs ord F l g/\cT g (ord.getD l 0)
structure Ord(n:Nat)(af:Nat->Nat)(ord:zL):Prop where
 len:ord.length=n
 at':∀l,l<n->ord.getD l 0<n/\af (ord.getD l 0)=l
theorem Ord.of(h:Ord n af ord)(hl:m5 n af){v:Nat}(hv:v<n):ord.getD (af v) 0=v:=by
 obtain⟨h1,h2⟩:=h.at' _ (hl.lt v hv);exact hl.inj _ _ h1 hv h2
def Fs(S:Nat->Fn)(R:Nat->Prop)(g:Fn):Prop:=∃r,R r/\g=S r
def A(N:dh)(af:Nat->Nat)(n:Nat)(R:Nat->Prop):Nat->Nat->Prop
 |0,r=>R r
 |l+1,r=>(A N af n R l r/\dep n af N r≠l)\/∃p d,A N af n R l p/\N p=some d/\af d.v=l/\(r=d.lo\/r=d.hi)
variable {R:Nat->Prop}
theorem pZ(h:WF n af N)(hR:∀r,R r->live N r):∀l r,A N af n R l r->live N r/\l<=dep n af N r
 |0,r,ha=>⟨hR r ha,xaB _⟩
 |l+1,r,ha=>by
  rcases ha with⟨h1,h2⟩|⟨p,d,h1,h2,h3,h4⟩
  ·have:=pZ h hR l r h1;exact⟨this.1,by omega⟩
  rcases h4 with rfl|rfl
  ·have:=h.lo h2;exact⟨this.1,by omega⟩
  have:=h.hi h2;exact⟨this.1,by omega⟩
theorem kJ{r:Nat}:∀k l,A N af n R l r->l+k<=dep n af N r->A N af n R (l+k) r
 |0,l,ha,_=>ha
 |k+1,l,ha,hk=>by
  have h1:=kJ k l ha zO;have h2:dep n af N r≠l+k:=by omega
  exact .inl ⟨h1,h2⟩
def Reach(N:dh)(R:Nat->Prop):Prop:=∀r d,N r=some d->R r\/∃p e,N p=some e/\(e.lo=r\/e.hi=r)
theorem IQ(h:WF n af N)(hr:Reach N R):∀k r d,N r=some d->af d.v<=k->A N af n R (af d.v) r:=by
 intro k;induction k with
 |zero=>
  intro r d hd hk;rcases hr r d hd with h1|⟨p,e,h1,h2⟩
  ·rw[show af d.v=0 by omega];exact h1
  have:=h.lo h1;have h3:=h.hi h1;rcases h2 with rfl|rfl
  ·rw[aq hd]at this;omega
  rw[aq hd]at h3;omega
 |succ k ih=>
  intro r d hd hk;rcases hr r d hd with h1|⟨p,e,h1,h2⟩
  ·have:=kJ (N:=N) (af:=af) (n:=n) (R:=R) (r:=r) (af d.v) 0 h1 (by rw[aq hd];omega);rwa [xaW]at this
  have hlt:af e.v<af d.v:=by
   have:=h.lo h1;have h3:=h.hi h1;rcases h2 with rfl|rfl
   ·rw[aq hd]at this;omega
   rw[aq hd]at h3;omega
  have ha:=ih p e h1 zO;have hb:A N af n R (af e.v+1) r:=.inr ⟨p,e,ha,h1,rfl,by rcases h2 with rfl|rfl;exact .inl rfl;exact .inr rfl⟩;have:=kJ (af d.v-(af e.v+1)) _ hb (by rw[aq hd];omega);rwa [show af e.v+1+(af d.v-(af e.v+1))=af d.v by omega]at this
theorem AR(h:WF n af N)(hl:m5 n af)(ho:Ord n af ord)(hi:Interp N S)(hR:∀r,R r->live N r):∀l,l<=n->∀g,fs ord (Fs S R) l g↔∃r,A N af n R l r/\g=S r
 |0,_,g=>xdi
 |l+1,C8,g=>by
  obtain⟨v1,v2⟩:=ho.at' l C8;have ih:=AR h hl ho hi hR l zO;constructor
  ·rintro⟨f,hf,b,rfl⟩;obtain⟨r,ha,rfl⟩:=(ih f).1 hf;obtain⟨hlv,hle⟩:=pZ h hR l r ha;by_cases e:dep n af N r=l
   ·rcases hlv with hc|⟨d,hd⟩
    ·rw[bC (h.const hc)]at e;omega
    rw[aq hd]at e;have hv:d.v=ord.getD l 0:=hl.inj _ _ (h.var hd) v1 zO;refine⟨if b then d.hi else d.lo,.inr ⟨r,d,ha,hd,e,by cases b<;>simp⟩,?_⟩
    funext x
    rw[<-hv];exact h.child hl hi hd x b
   refine⟨r,.inl ⟨ha,e⟩,?_⟩
   funext x
   exact h.bK hl hi hlv v1 zO x b
  rintro⟨r,ha,rfl⟩;rcases ha with⟨h1,h2⟩|⟨p,d,h1,h2,h3,h4⟩
  ·obtain⟨hlv,hle⟩:=pZ h hR l r h1;refine⟨S r,(ih _).2 ⟨r,h1,rfl⟩,false,?_⟩
   funext x
   exact(h.bK hl hi hlv v1 zO x false).symm
  have hv:d.v=ord.getD l 0:=hl.inj _ _ (h.var h2) v1 zO;rcases h4 with rfl|rfl
  ·refine⟨S p,(ih _).2 ⟨p,h1,rfl⟩,false,?_⟩
   funext x
   rw[<-hv];exact(h.child hl hi h2 x false).symm
  refine⟨S p,(ih _).2 ⟨p,h1,rfl⟩,true,?_⟩
  funext x
  rw[<-hv];exact(h.child hl hi h2 x true).symm
theorem kQ(h:WF n af N)(hl:m5 n af)(ho:Ord n af ord)(hi:Interp N S)(hR:∀r,R r->live N r)(hr:Reach N R)(g:Fn):aJ n ord (Fs S R) g↔∃r d,N r=some d/\g=S r:=by
 constructor
 ·rintro⟨l,C8,hf,x,hx⟩;obtain⟨v1,v2⟩:=ho.at' l C8;obtain⟨r,ha,rfl⟩:=(AR h hl ho hi hR l zO g).1 hf;obtain⟨hlv,hle⟩:=pZ h hR l r ha;by_cases e:dep n af N r=l
  ·rcases hlv with hc|⟨d,hd⟩
   ·rw[bC (h.const hc)]at e;omega
   exact⟨r,d,hd,rfl⟩
  exact absurd (by rw[h.bK hl hi hlv v1 zO,h.bK hl hi hlv v1 zO]) hx
 rintro⟨r,d,hd,rfl⟩;have hv:=h.var hd;have hlt:=hl.lt _ hv;refine⟨af d.v,hlt,(AR h hl ho hi hR _ zO _).2 ⟨r,IQ h hr _ r d hd (xal _),rfl⟩,?_⟩;rw[ho.of hl hv];refine xaZ λhno=>h.ne hd (h.same hl hi (h.lo hd).1 (h.hi hd).1 λx=>?_);have c1:=h.child hl hi hd x false;have c2:=h.child hl hi hd x true;simp only[xas,xaD,xaS]at c1 c2;rw[<-c1,<-c2];exact xaZ λhne=>hno ⟨x,hne⟩
def lY(P:Fn->Prop)(k:Nat):Prop:=∃l:List Fn,l.Nodup/\l.length=k/\∀g,P g↔g∈l
theorem lY.congr{P Q:Fn->Prop}{k:Nat}(h:lY P k)(e:∀g,P g↔Q g):lY Q k:=let ⟨l,h1,h2,h3⟩:=h;⟨l,h1,h2,λg=>(e g).symm.trans (h3 g)⟩
theorem bN{α:Type}:∀{l l':List α},l.Nodup->(∀x∈l,x∈l')->l.length<=l'.length
 | [],l',_,_=>xaB _
 |x::l,l',hn,hs=>by
  obtain⟨h1,h2⟩:=xa1.1 hn;obtain⟨a,b,rfl⟩:=xcM (hs x zI);have:=bN (l':=a++b) h2 λy hy=>by
   have:=hs y (by simp[hy]);rcases xav.1 this with h|h
   ·exact xad _ h
   rcases xag.1 h with rfl|h
   ·exact absurd hy h1
   exact xaa _ h
  simp at this⊢;omega
theorem lY.le{P Q:Fn->Prop}{k k':Nat}(h:lY P k)(h':lY Q k')(e:∀g,P g->Q g):k<=k':=by
 obtain⟨l,h1,h2,h3⟩:=h;obtain⟨l',Dl,nv,sx⟩:=h';rw[<-h2,<-nv];exact bN h1 λx hx=>(sx x).1 (e x ((h3 x).2 hx))
theorem lY.uniq{P:Fn->Prop}{k k':Nat}(h:lY P k)(h':lY P k'):k=k':=Nat.le_antisymm (h.le h' λ_=>id) (h'.le h λ_=>id)
theorem lY.none:lY (λ_=>False) 0:=⟨[],by simp,rfl,by simp⟩
theorem xo(h:WF n af N)(hl:m5 n af)(hi:Interp N S){dom:zL}(hd:dom.Nodup)(hm:∀r,r∈dom↔∃d,N r=some d):lY (λg=>∃r d,N r=some d/\g=S r) dom.length:=by
 refine⟨dom.map S,?_,by simp,λg=>?_⟩
 ·refine xcU.2 (hd.imp_of_mem λ{a b} ha hb hne heq=>hne ?_);exact h.same hl hi (.inr ((hm a).1 ha)) (.inr ((hm b).1 hb)) λx=>by rw[heq]
 rw[xaq];constructor
 ·rintro⟨r,d,h1,rfl⟩;exact⟨r,(hm r).2 ⟨d,h1⟩,rfl⟩
 rintro⟨r,h1,rfl⟩;obtain⟨d,h2⟩:=(hm r).1 h1;exact⟨r,d,h2,rfl⟩
end ay
namespace ay
open cF
def up{α:Type}(N:Nat->α)(r:Nat)(o:α):Nat->α:=λs=>if s=r then o else N s
@[simp] theorem aH{α:Type}{N:Nat->α}{r:Nat}{o:α}:up N r o r=o:=xaf rfl
theorem aO{α:Type}{N:Nat->α}{r s:Nat}{o:α}(h:s≠r):up N r o s=N s:=xac h
def uL(T:Nd->Option Nat)(d:Nd)(o:Option Nat):Nd->Option Nat:=λe=>if e=d then o else T e
@[simp] theorem jk{T:Nd->Option Nat}{d:Nd}{o:Option Nat}:uL T d o d=o:=xaf rfl
theorem o4{T:Nd->Option Nat}{d e:Nd}{o:Option Nat}(h:e≠d):uL T d o e=T e:=xac h
def e1:Option Nd->Nat->Nat
 |none,_=>0
 |some d,r=>(if d.lo=r then 1 else 0)+(if d.hi=r then 1 else 0)
theorem ef(d:Nd)(r:Nat):e1 (some d) r=(if d.lo=r then 1 else 0)+(if d.hi=r then 1 else 0):=rfl
def bZ(N:dh)(r:Nat):Nat->Nat
 |0=>0
 |k+1=>bZ N r k+e1 (N k) r
def gO(N:dh):Nat->Nat
 |0=>0
 |k+1=>gO N k+(if(N k).isSome then 1 else 0)
theorem ow{N:dh}{s r:Nat}{o:Option Nd}:∀{k},(s<k->bZ (up N s o) r k+e1 (N s) r=bZ N r k+e1 o r)/\(k<=s->bZ (up N s o) r k=bZ N r k)
 |0=>⟨λh=>by omega,λ_=>rfl⟩
 |k+1=>by
  obtain⟨i1,i2⟩:=ow (N:=N) (s:=s) (r:=r) (o:=o) (k:=k);refine⟨λh=>?_,λh=>?_⟩
  ·rw[bZ,bZ];by_cases e:s=k
   ·subst e;rw[aH,i2 (xal _)];omega
   have:=i1 zO;rw[aO (λh=>e h.symm)];omega
  rw[bZ,bZ,i2 zO,aO zO]
theorem q8{N:dh}{s r k:Nat}{o:Option Nd}(h:s<k):bZ (up N s o) r k+e1 (N s) r=bZ N r k+e1 o r:=ow.1 h
theorem mS{N:dh}{s:Nat}{o:Option Nd}:∀{k},(s<k->gO (up N s o) k+(if(N s).isSome then 1 else 0)=gO N k+(if o.isSome then 1 else 0))/\(k<=s->gO (up N s o) k=gO N k)
 |0=>⟨λh=>by omega,λ_=>rfl⟩
 |k+1=>by
  obtain⟨i1,i2⟩:=mS (N:=N) (s:=s) (o:=o) (k:=k);refine⟨λh=>?_,λh=>?_⟩
  ·rw[gO,gO];by_cases e:s=k
   ·subst e;rw[aH,i2 (xal _)];omega
   have:=i1 zO;rw[aO (λh=>e h.symm)];omega
  rw[gO,gO,i2 zO,aO zO]
theorem fW{N:dh}{r:Nat}:∀{k},bZ N r k=0->∀s,s<k->∀d,N s=some d->d.lo≠r/\d.hi≠r
 |0,_,s,hs,_,_=>by omega
 |k+1,h,s,hs,d,hd=>by
  rw[bZ]at h;by_cases e:s=k
  ·subst e;rw[hd,ef]at h;constructor
   ·intro h1;rw[xaf h1]at h;omega
   intro h1;rw[xaf h1]at h;omega
  exact fW (k:=k) zO s zO d hd
theorem kB{N:dh}{r:Nat}:∀{k},0<bZ N r k->∃s d,s<k/\N s=some d/\(d.lo=r\/d.hi=r)
 |0,h=>by simp[bZ]at h
 |k+1,h=>by
  rw[bZ]at h;by_cases hk:0<bZ N r k
  ·obtain⟨s,d,h1,h2,h3⟩:=kB hk;exact⟨s,d,by omega,h2,h3⟩
  cases hd:N k with
  |none=>rw[hd]at h;simp[e1]at h;omega
  |some d=>
   refine⟨k,d,by omega,hd,?_⟩;rw[hd,ef]at h;by_cases h1:d.lo=r
   ·exact .inl h1
   by_cases h2:d.hi=r
   ·exact .inr h2
   rw[xac h1,xac h2]at h;omega
theorem q9{N:dh}{r:Nat}:∀k,bZ N r k<=2*k
 |0=>xal _
 |k+1=>by
  have:=q9 (N:=N) (r:=r) k;rw[bZ];have:e1 (N k) r<=2:=by
   cases N k with
   |none=>simp[e1]
   |some d=>rw[ef];split<;>split<;>omega
  omega
theorem ry(N:dh):∀k,((List.range k).filter λr=>(N r).isSome).length=gO N k
 |0=>rfl
 |k+1=>by
  rw[xdD,xdo,xan,ry N k,gO];congr 1;cases h:N k<;>simp[h]
structure Kd where
 n:Nat
 cap:Nat
 used:Nat
 N:dh
 T:Nd->Option Nat
 us:zL
 ho:zL
def Kd.hold(K:Kd)(r:Nat):Nat:=K.ho.getD r 0
def Kd.use(K:Kd)(r:Nat):Nat:=K.us.getD r 0
structure ig(K:Kd)(S:Nat->Fn)(E:Nat->Prop)(P:Nat->Nat):Prop where
 two:∀{r d},K.N r=some d->2<=r/\r<K.cap
 var:∀{r d},K.N r=some d->d.v<K.n
 ne:∀{r d},K.N r=some d->d.lo≠d.hi
 lo:∀{r d},K.N r=some d->live K.N d.lo
 hi:∀{r d},K.N r=some d->live K.N d.hi
 int:Interp K.N S
 nt:∀d r,K.T d=some r↔K.N r=some d/\¬E r
 use:∀{r d},K.N r=some d->K.use r=bZ K.N r K.cap+(if K.hold r=0 then 0 else 1)+P r
 len:K.us.length=K.ho.length
 fit:∀{r d},K.N r=some d->r<K.us.length
 held:∀r,K.hold r≠0->∃d,K.N r=some d
 mx:∀r,K.hold r<=65535
 room:K.used=2+gO K.N K.cap
 cap:K.used<=K.cap/\K.cap<=1048576
variable {K:Kd} {S:Nat->Fn} {E:Nat->Prop} {P:Nat->Nat}
theorem l5{N:dh}{r s:Nat}{d:Nd}(h:live N s):live (up N r (some d)) s:=by
 rcases h with h|⟨e,h⟩
 ·exact .inl h
 by_cases e2:s=r
 ·subst e2;exact .inr ⟨d,aH⟩
 exact .inr ⟨e,by rw[aO e2];exact h⟩
theorem oh{N:dh}{r s:Nat}(h:live N s)(hne:s≠r):live (up N r none) s:=by
 rcases h with h|⟨e,h⟩
 ·exact .inl h
 exact .inr ⟨e,by rw[aO hne];exact h⟩
def Pos(K:Kd):Prop:=∀r d,K.N r=some d->0<K.use r
theorem ig.less(h:ig K S E P){r:Nat}{dr:zL}(hP:0<P r)(hl:dr.length=K.us.length)(h1:dr.getD r 0+1=K.use r)(h2:∀s,s≠r->dr.getD s 0=K.use s):
  ig {K with us:=dr} S E (up P r (P r-1)) where
 two:=h.two
 var:=h.var
 ne:=h.ne
 lo:=h.lo
 hi:=h.hi
 int:=h.int
 nt:=h.nt
 use:=λ{s d} hd=>by
  have:=h.use hd;show dr.getD s 0=bZ K.N s K.cap+(if K.hold s=0 then 0 else 1)+up P r (P r-1) s;by_cases e:s=r
  ·subst e;rw[aH];omega
  rw[h2 s e,aO e];exact this
 len:=by show dr.length=_;rw[hl];exact h.len
 fit:=λ{s d} hd=>by show s<dr.length;rw[hl];exact h.fit hd
 held:=h.held
 mx:=h.mx
 room:=h.room
 cap:=h.cap
theorem ig.free(h:ig K S E P){r:Nat}{d:Nd}(hd:K.N r=some d)(hE:¬E r)(h0:K.use r=0):
  ig {K with N:=up K.N r none,T:=uL K.T d none,used:=K.used-1} S E (λs=>P s+e1 (some d) s) where
 two:=λ{s e} hs=>by
  have hs':up K.N r none s=some e:=hs;by_cases e2:s=r
  ·subst e2;rw[aH]at hs';cases hs'
  rw[aO e2]at hs';exact h.two hs'
 var:=λ{s e} hs=>by
  have hs':up K.N r none s=some e:=hs;by_cases e2:s=r
  ·subst e2;rw[aH]at hs';cases hs'
  rw[aO e2]at hs';exact h.var hs'
 ne:=λ{s e} hs=>by
  have hs':up K.N r none s=some e:=hs;by_cases e2:s=r
  ·subst e2;rw[aH]at hs';cases hs'
  rw[aO e2]at hs';exact h.ne hs'
 lo:=λ{s e} hs=>by
  have hs':up K.N r none s=some e:=hs;by_cases e2:s=r
  ·subst e2;rw[aH]at hs';cases hs'
  rw[aO e2]at hs';have hu:=h.use hd;exact oh (h.lo hs') (fW zO s (h.two hs').2 e hs').1
 hi:=λ{s e} hs=>by
  have hs':up K.N r none s=some e:=hs;by_cases e2:s=r
  ·subst e2;rw[aH]at hs';cases hs'
  rw[aO e2]at hs';have hu:=h.use hd;exact oh (h.hi hs') (fW zO s (h.two hs').2 e hs').2
 int:=⟨h.int.zero,h.int.one,λ{s e} hs x=>by
  have hs':up K.N r none s=some e:=hs;by_cases e2:s=r
  ·subst e2;rw[aH]at hs';cases hs'
  rw[aO e2]at hs';exact h.int.node hs' x⟩
 nt:=λe s=>by
  show uL K.T d none e=some s↔up K.N r none s=some e/\_;by_cases e2:e=d
  ·subst e2;rw[jk];constructor
   ·intro h;cases h
   rintro⟨h1,h2⟩;by_cases e3:s=r
   ·subst e3;rw[aH]at h1;cases h1
   rw[aO e3]at h1;have a:=(h.nt e s).2 ⟨h1,h2⟩;have b:=(h.nt e r).2 ⟨hd,hE⟩;rw[a]at b;cases b;exact absurd rfl e3
  rw[o4 e2,h.nt];by_cases e3:s=r
  ·subst e3;rw[aH];constructor
   ·rintro⟨h1,_⟩;rw[hd]at h1;cases h1;exact absurd rfl e2
   rintro⟨h1,_⟩;cases h1
  rw[aO e3]
 use:=λ{s e} hs=>by
  have hs':up K.N r none s=some e:=hs;by_cases e2:s=r
  ·subst e2;rw[aH]at hs';cases hs'
  rw[aO e2]at hs';have hu:=h.use hs';have he:=q8 (N:=K.N) (s:=r) (r:=s) (k:=K.cap) (o:=none) (h.two hd).2;show K.use s=bZ (up K.N r none) s K.cap+(if K.hold s=0 then 0 else 1)+(P s+e1 (some d) s);rw[hd]at he;have:e1 none s=0:=rfl;omega
 len:=h.len
 fit:=λ{s e} hs=>by
  have hs':up K.N r none s=some e:=hs;by_cases e2:s=r
  ·subst e2;rw[aH]at hs';cases hs'
  rw[aO e2]at hs';exact h.fit hs'
 held:=λs hs=>by
  obtain⟨e,he⟩:=h.held s hs;have hne:s≠r:=λe2=>by
   subst e2;have hu:=h.use hd;have hs':K.hold s≠0:=hs;rw[xac hs']at hu;omega
  exact⟨e,by show up K.N r none s=_;rw[aO hne];exact he⟩
 mx:=h.mx
 room:=by
  have:=(mS (N:=K.N) (s:=r) (o:=none) (k:=K.cap)).1 (h.two hd).2;have hr:=h.room;rw[hd]at this;show K.used-1=2+gO (up K.N r none) K.cap;simp at this;omega
 cap:=⟨by have:=h.cap.1;show K.used-1<=K.cap;omega,h.cap.2⟩
end ay
namespace ay
open cF
variable {K:Kd} {S:Nat->Fn} {E:Nat->Prop} {P:Nat->Nat}
def ite(S:Nat->Fn)(d:Nd):Fn:=λx=>if x.testBit d.v then S d.hi x else S d.lo x
theorem dm{N:dh}{r s:Nat}(h:live N s)(h2:2<=r)(hr:N r=none):s≠r:=λe=>by
 subst e;rcases h with h|⟨d,h⟩
 ·omega
 rw[hr]at h;cases h
theorem ig.lay(h:ig K S E P){r:Nat}{d:Nd}{dr cy:zL}(hr:K.N r=none)(h2:2<=r/\r<K.cap)(hv:d.v<K.n)(hne:d.lo≠d.hi)(hlo:live K.N d.lo)(hhi:live K.N d.hi)(hT:K.T d=none)(hE:¬E r)
 (hP:P r=0)(hro:K.used<K.cap)(hl:dr.length=cy.length)(hf:r<dr.length/\K.us.length<=dr.length)(u0:dr.getD r 0=0)(u1:∀s,2<=s->s≠r->dr.getD s 0=K.use s+e1 (some d) s)(o0:cy.getD r 0=0)(o1:∀s,s≠r->cy.getD s 0=K.hold s):
  ig {K with N:=up K.N r (some d),T:=uL K.T d (some r),used:=K.used+1,us:=dr,ho:=cy} (up S r (ite S d)) E P where
 two:=λ{s e} hs=>by
  have hs':up K.N r (some d) s=some e:=hs;by_cases e2:s=r
  ·subst e2;exact h2
  rw[aO e2]at hs';exact h.two hs'
 var:=λ{s e} hs=>by
  have hs':up K.N r (some d) s=some e:=hs;by_cases e2:s=r
  ·subst e2;rw[aH]at hs';cases hs';exact hv
  rw[aO e2]at hs';exact h.var hs'
 ne:=λ{s e} hs=>by
  have hs':up K.N r (some d) s=some e:=hs;by_cases e2:s=r
  ·subst e2;rw[aH]at hs';cases hs';exact hne
  rw[aO e2]at hs';exact h.ne hs'
 lo:=λ{s e} hs=>by
  have hs':up K.N r (some d) s=some e:=hs;by_cases e2:s=r
  ·subst e2;rw[aH]at hs';cases hs';exact l5 hlo
  rw[aO e2]at hs';exact l5 (h.lo hs')
 hi:=λ{s e} hs=>by
  have hs':up K.N r (some d) s=some e:=hs;by_cases e2:s=r
  ·subst e2;rw[aH]at hs';cases hs';exact l5 hhi
  rw[aO e2]at hs';exact l5 (h.hi hs')
 int:=⟨λx=>by rw[aO zO];exact h.int.zero x,λx=>by rw[aO zO];exact h.int.one x,λ{s e} hs x=>by
  have hs':up K.N r (some d) s=some e:=hs;by_cases e2:s=r
  ·subst e2;rw[aH]at hs';cases hs';rw[aH,aO (dm hlo h2.1 hr),aO (dm hhi h2.1 hr)];rfl
  rw[aO e2]at hs';rw[aO e2,aO (dm (h.lo hs') h2.1 hr),aO (dm (h.hi hs') h2.1 hr)];exact h.int.node hs' x⟩
 nt:=λe s=>by
  show uL K.T d (some r) e=some s↔up K.N r (some d) s=some e/\_;by_cases e2:e=d
  ·subst e2;rw[jk];constructor
   ·intro h;cases h;exact⟨aH,hE⟩
   rintro⟨h1,nv⟩;by_cases e3:s=r
   ·rw[e3]
   rw[aO e3]at h1;have a:=(h.nt e s).2 ⟨h1,nv⟩;rw[hT]at a;cases a
  rw[o4 e2,h.nt];by_cases e3:s=r
  ·subst e3;rw[aH,hr];constructor
   ·rintro⟨h1,_⟩;cases h1
   rintro⟨h1,_⟩;cases h1;exact absurd rfl e2
  rw[aO e3]
 use:=λ{s e} hs=>by
  have hs':up K.N r (some d) s=some e:=hs;have he:=q8 (N:=K.N) (s:=r) (r:=s) (k:=K.cap) (o:=some d) h2.2;rw[hr]at he;have h0:e1 none s=0:=rfl;show dr.getD s 0=bZ (up K.N r (some d)) s K.cap+(if cy.getD s 0=0 then 0 else 1)+P s;by_cases e2:s=r
  ·subst e2;have hz:bZ K.N s K.cap=0:=by
    refine Nat.eq_zero_of_not_pos λhp=>?_;obtain⟨t,e',_,ht,hc⟩:=kB hp;have El:=dm (h.lo ht) h2.1 hr;have ve:=dm (h.hi ht) h2.1 hr;rcases hc with hc|hc
    ·exact El hc
    exact ve hc
   have Qu:e1 (some d) s=0:=by
    rw[ef,xac (dm hlo h2.1 hr),xac (dm hhi h2.1 hr)]
   rw[u0,o0,xaf rfl];omega
  rw[aO e2]at hs';have hu:=h.use hs';have h3:cy.getD s 0=K.hold s:=o1 s e2;rw[u1 s (h.two hs').1 e2,h3];omega
 len:=hl
 fit:=λ{s e} hs=>by
  have hs':up K.N r (some d) s=some e:=hs;show s<dr.length;by_cases e2:s=r
  ·subst e2;exact hf.1
  rw[aO e2]at hs';exact xbu (h.fit hs') hf.2
 held:=λs hs=>by
  have hs':cy.getD s 0≠0:=hs;by_cases e2:s=r
  ·subst e2;exact⟨d,aH⟩
  rw[o1 s e2]at hs';obtain⟨e,he⟩:=h.held s hs';exact⟨e,by show up K.N r (some d) s=_;rw[aO e2];exact he⟩
 mx:=λs=>by
  show cy.getD s 0<=65535;by_cases e2:s=r
  ·subst e2;rw[o0];decide
  rw[o1 s e2];exact h.mx s
 room:=by
  have:=(mS (N:=K.N) (s:=r) (o:=some d) (k:=K.cap)).1 h2.2;have hr':=h.room;rw[hr]at this;show K.used+1=2+gO (up K.N r (some d)) K.cap;simp at this;omega
 cap:=⟨by show K.used+1<=K.cap;omega,h.cap.2⟩
theorem ig.keep(h:ig K S E P){r:Nat}{dr cy:zL}(hr:∃d,K.N r=some d)(hm:K.hold r<65535)(hl:dr.length=K.us.length/\cy.length=K.ho.length)(o0:cy.getD r 0=K.hold r+1)(o1:∀s,s≠r->cy.getD s 0=K.hold s)
 (u0:dr.getD r 0=K.use r+(if K.hold r=0 then 1 else 0))(u1:∀s,s≠r->dr.getD s 0=K.use s):ig {K with us:=dr,ho:=cy} S E P where
 two:=h.two
 var:=h.var
 ne:=h.ne
 lo:=h.lo
 hi:=h.hi
 int:=h.int
 nt:=h.nt
 use:=λ{s e} hs=>by
  have hu:=h.use hs;show dr.getD s 0=bZ K.N s K.cap+(if cy.getD s 0=0 then 0 else 1)+P s;by_cases e2:s=r
  ·subst e2;rw[u0,o0,xac (by omega:¬K.hold s+1=0)];by_cases e3:K.hold s=0
   ·rw[xaf e3]at hu⊢;omega
   rw[xac e3]at hu⊢;omega
  rw[u1 s e2,o1 s e2];exact hu
 len:=by show dr.length=cy.length;rw[hl.1,hl.2];exact h.len
 fit:=λ{s e} hs=>by show s<dr.length;rw[hl.1];exact h.fit hs
 held:=λs hs=>by
  have hs':cy.getD s 0≠0:=hs;by_cases e2:s=r
  ·subst e2;exact hr
  rw[o1 s e2]at hs';exact h.held s hs'
 mx:=λs=>by
  show cy.getD s 0<=65535;by_cases e2:s=r
  ·subst e2;rw[o0];omega
  rw[o1 s e2];exact h.mx s
 room:=h.room
 cap:=h.cap
theorem ig.drop(h:ig K S E P){r:Nat}{cy:zL}(hr:0<K.hold r)(hl:cy.length=K.ho.length)(o0:cy.getD r 0+1=K.hold r)(o1:∀s,s≠r->cy.getD s 0=K.hold s):
  ig {K with ho:=cy} S E (if K.hold r=1 then up P r (P r+1)else P) where
 two:=h.two
 var:=h.var
 ne:=h.ne
 lo:=h.lo
 hi:=h.hi
 int:=h.int
 nt:=h.nt
 use:=λ{s e} hs=>by
  have hu:=h.use hs;show K.use s=bZ K.N s K.cap+(if cy.getD s 0=0 then 0 else 1)+(if K.hold r=1 then up P r (P r+1)else P) s;by_cases e2:s=r
  ·subst e2;rw[xac (by omega:¬K.hold s=0)]at hu;by_cases e3:K.hold s=1
   ·rw[xaf e3,aH,xaf zO];omega
   rw[xac e3,xac zO];omega
  rw[o1 s e2];by_cases e3:K.hold r=1
  ·rw[xaf e3,aO e2];exact hu
  rw[xac e3];exact hu
 len:=by show K.us.length=cy.length;rw[hl];exact h.len
 fit:=h.fit
 held:=λs hs=>by
  have hs':cy.getD s 0≠0:=hs;by_cases e2:s=r
  ·subst e2;exact h.held s zO
  rw[o1 s e2]at hs';exact h.held s hs'
 mx:=λs=>by
  show cy.getD s 0<=65535;have:=h.mx r;by_cases e2:s=r
  ·subst e2;omega
  rw[o1 s e2];exact h.mx s
 room:=h.room
 cap:=h.cap
theorem ig.congr(h:ig K S E P){E':Nat->Prop}{P':Nat->Nat}(hE:∀s,E s↔E' s)(hP:∀s,2<=s->P s=P' s):ig K S E' P' where
 two:=h.two
 var:=h.var
 ne:=h.ne
 lo:=h.lo
 hi:=h.hi
 int:=h.int
 nt:=λd r=>by rw[h.nt,hE]
 use:=λ{s e} hs=>by rw[<-hP s (h.two hs).1];exact h.use hs
 len:=h.len
 fit:=h.fit
 held:=h.held
 mx:=h.mx
 room:=h.room
 cap:=h.cap
def gf:Nat->Prop:=λ_=>False
def zero':Nat->Nat:=λ_=>0
structure Ok(K:Kd)(S:Nat->Fn)(af:Nat->Nat):Prop where
 mid:ig K S gf zero'
 pos:Pos K
 lv:m5 K.n af
 wf:WF K.n af K.N
theorem ig.uq(h:ig K S gf P){r r':Nat}{d:Nd}(h1:K.N r=some d)(h2:K.N r'=some d):r=r':=by
 have a:=(h.nt d r).2 ⟨h1,λx=>x⟩;have b:=(h.nt d r').2 ⟨h2,λx=>x⟩;rw[a]at b;cases b;rfl
theorem ig.wf(h:ig K S gf P){af:Nat->Nat}(hl:∀{r d},K.N r=some d->af d.v<dep K.n af K.N d.lo/\af d.v<dep K.n af K.N d.hi):WF K.n af K.N:=
 ⟨λhd=>(h.two hd).1,h.var,h.ne,λhd=>⟨h.lo hd,(hl hd).1⟩,λhd=>⟨h.hi hd,(hl hd).2⟩,h.uq⟩
theorem Ok.reach{af:Nat->Nat}(h:Ok K S af):Reach K.N (λr=>K.hold r≠0):=λr d hd=>by
 have hu:=h.mid.use hd;have hp:=h.pos r d hd;by_cases e:K.hold r=0
 ·rw[xaf e]at hu;have:zero' r=0:=rfl;obtain⟨s,e',_,h1,h2⟩:=kB (N:=K.N) (r:=r) (k:=K.cap) zO;exact .inr ⟨s,e',h1,h2⟩
 exact .inl e
theorem Ok.dom{af:Nat->Nat}(h:Ok K S af):∃dom:zL,dom.Nodup/\dom.length+2=K.used/\∀r,r∈dom↔∃d,K.N r=some d:=by
 refine⟨(List.range K.cap).filter λr=>(K.N r).isSome,List.nodup_range.filter _,by rw[ry,h.mid.room];omega,λr=>?_⟩;rw[xcl,xa8,Option.isSome_iff_exists];exact⟨λh=>h.2,λ⟨d,hd⟩=>⟨(h.mid.two hd).2,d,hd⟩⟩
def Kd.held(K:Kd)(S:Nat->Fn):Fn->Prop:=Fs S λr=>K.hold r≠0
theorem Ok.size{af:Nat->Nat}{ord:zL}(h:Ok K S af)(ho:Ord K.n af ord):lY (aJ K.n ord (K.held S)) (K.used-2):=by
 obtain⟨dom,h1,h2,h3⟩:=h.dom;have hc:=xo h.wf h.lv h.mid.int h1 h3;rw[show dom.length=K.used-2 by omega]at hc;refine hc.congr λg=>?_;exact(kQ h.wf h.lv ho h.mid.int (λr hr=>.inr (h.mid.held r hr)) h.reach g).symm
end ay
namespace ay
open cF
variable {n:Nat} {af:Nat->Nat} {N:dh} {S:Nat->Fn} {ord:zL} {K:Kd}
def pl(N:dh)(y r:Nat):Nat:=match N r with|some e=>if e.v=y then e.lo else r|none=>r
structure Cx where
 r:Nat
 d:Nd
 PG:Nat
 PF:Nat
 GJ:Nat
 GI:Nat
def keys(x:Nat)(c:Cx):List Nd:=[⟨x,c.PG,c.GJ⟩,⟨x,c.PF,c.GI⟩]
variable {x y l:Nat}
theorem fO(h:WF n af N)(hl:m5 n af)(hi:Interp N S){r:Nat}{d:Nd}(hd:N r=some d):∃z,S r (aW z d.v false)≠S r (aW z d.v true):=by
 refine xaZ λhno=>h.ne hd (h.same hl hi (h.lo hd).1 (h.hi hd).1 λz=>?_);have c1:=h.child hl hi hd z false;have c2:=h.child hl hi hd z true;simp only[xas,xaD,xaS]at c1 c2;rw[<-c1,<-c2];exact xaZ λhne=>hno ⟨z,hne⟩
def Mr(ord:zL)(l:Nat):zL:=(ord.set l (ord.getD (l+1) 0)).set (l+1) (ord.getD l 0)
variable {F:Fn->Prop}
end ay
namespace ay
open cF
variable {n cap l:Nat} {ord:zL} {F G:Fn->Prop}
open Classical in
noncomputable def sz(n:Nat)(ord:zL)(F:Fn->Prop):Nat:=if h:∃k,lY (aJ n ord F) k then Classical.choose h else 0
theorem qh{k:Nat}(h:lY (aJ n ord F) k):sz n ord F=k:=by
 unfold sz;rw[dif_pos ⟨k,h⟩];exact(xbZ (⟨k,h⟩:∃k,lY (aJ n ord F) k)).uniq h
def Mg(n:Nat)(ord:zL)(l:Nat)(F:Fn->Prop):Fn->Prop:=λg=>aJ n ord F g\/aJ n (Mr ord l) F g
open Classical in
noncomputable def Mp(n:Nat)(ord:zL)(l:Nat)(F:Fn->Prop):Nat:=if h:∃k,lY (Mg n ord l F) k then Classical.choose h else 0
theorem y5(e:∀g,F g↔G g):sz n ord F=sz n ord G:=by
 have:F=G:=funext λg=>propext (e g);rw[this]
def IB(n cap:Nat)(F:Fn->Prop):zL->zL->Prop
 |_,[]=>True
 |ord,l::r=>l+1<n/\Mp n ord l F+2<=cap/\IB n cap F (Mr ord l) r
end ay
namespace ay
open cF
variable {n l:Nat} {ord:zL} {L:cF.Fs} {F:Fn->Prop}
def ff(n:Nat)(ws:zL):Fn:=λx=>bit ws (x%2^n)
theorem gA{x v n:Nat}{b:Bool}(hv:v<n):aW x v b%2^n=aW (x%2^n) v b:=by
 apply xa6;intro k;rw[xa4,ak,ak,xa4];by_cases e:k=v
 ·subst e;simp[hv]
 simp[e]
theorem pN{v:Nat}{ws:zL}(hf:iG n ws)(hv:v<n)(b:Bool):ff n (lP n ws v b)=λx=>ff n ws (aW x v b):=by
 funext x
 unfold ff;rw[jM hf hv (xbL _ (xcj n)),gA hv]
theorem A1{ws:zL}{x:Nat}(h:x<2^n):ff n ws x=bit ws x:=by unfold ff;rw[xbd h]
theorem vv{a b:zL}(ha:iG n a)(hb:iG n b)(h:ff n a=ff n b):a=b:=ha.ext hb λx hx=>by rw[<-A1 hx,<-A1 hx,h]
theorem kz{v:Nat}{ws:zL}(hf:iG n ws)(hv:v<n):cT (ff n ws) v↔cF.dep n ws v=true:=by
 rw[Dx hf hv];constructor
 ·rintro⟨x,hx⟩;refine⟨x%2^n,xbL _ (xcj n),?_⟩;unfold ff at hx;rwa [gA hv,gA hv]at hx
 rintro⟨x,hx,hne⟩;refine⟨x,?_⟩;unfold ff;rwa [gA hv,gA hv,xbd hx]
def cur(n:Nat)(ord:zL)(L:cF.Fs):Nat->cF.Fs
 |0=>iI L
 |k+1=>given n (cur n ord L k) (ord.getD k 0)
def FT(n:Nat)(L:cF.Fs):Fn->Prop:=λg=>∃t∈L,g=ff n t
theorem oD:∀k,(cur n ord L k).Nodup
 |0=>o5 L
 |k+1=>qZ _ _ _
theorem gY(hL:∀t∈L,iG n t)(hn:n<=16):∀k,∀t∈cur n ord L k,iG n t
 |0,t,h=>hL t (iQ.1 h)
 |k+1,t,h=>by obtain⟨u,_,b,rfl⟩:=j8.1 h;exact pM hn
theorem pL(hL:∀t∈L,iG n t)(hn:n<=16)(ho:∀i,i<n->ord.getD i 0<n):∀k,k<=n->∀g,fs ord (FT n L) k g↔∃t∈cur n ord L k,g=ff n t
 |0,_,g=>by
  show(∃t∈L,g=ff n t)↔_;constructor
  ·rintro⟨t,h,e⟩;exact⟨t,iQ.2 h,e⟩
  rintro⟨t,h,e⟩;exact⟨t,iQ.1 h,e⟩
 |k+1,hk,g=>by
  have ih:=pL hL hn ho k zO;constructor
  ·rintro⟨f,hf,b,rfl⟩;obtain⟨t,ht,rfl⟩:=(ih f).1 hf;exact⟨lP n t (ord.getD k 0) b,j8.2 ⟨t,ht,b,rfl⟩,(pN (gY hL hn k t ht) (ho k zO) b).symm⟩
  rintro⟨t,ht,rfl⟩;obtain⟨u,hu,b,rfl⟩:=j8.1 ht;exact⟨ff n u,(ih _).2 ⟨u,hu,rfl⟩,b,pN (gY hL hn k u hu) (ho k zO) b⟩
theorem jH:∀k g,fs ord F k g->∀j,j<k->¬cT g (ord.getD j 0)
 |0,_,_,_,h=>absurd h (xbX _)
 |k+1,g,h,j,hj=>by
  obtain⟨f,hf,b,rfl⟩:=h;rintro⟨x,hx⟩;apply hx;by_cases e:ord.getD j 0=ord.getD k 0
  ·show f (aW (aW x _ false) _ b)=f (aW (aW x _ true) _ b);congr 1;apply xa6;intro i;simp only[ak,e];split<;>rfl
  have hlt:j<k:=by
   rcases Nat.lt_succ_iff_lt_or_eq.1 hj with h|h
   ·exact h
   subst h;exact(e rfl).elim
  have:=jH k f hf j hlt;show f (aW (aW x _ false) _ b)=f (aW (aW x _ true) _ b);rw[fh e,fh e];exact xaZ λhne=>this ⟨_,hne⟩
def lu(n:Nat)(ord:zL)(L:cF.Fs)(k:Nat):cF.Fs:=nodes n (cur n ord L k) (ord.getD k 0)
def gz(n:Nat)(ord:zL)(L:cF.Fs):Nat->Nat
 |0=>0
 |k+1=>gz n ord L k+(lu n ord L k).length
def sP(n:Nat)(ord:zL)(L:cF.Fs):Nat->cF.Fs
 |0=>[]
 |k+1=>sP n ord L k++lu n ord L k
theorem k7:∀k,(sP n ord L k).length=gz n ord L k
 |0=>rfl
 |k+1=>by rw[sP,gz,xan,k7 k]
theorem gC{k:Nat}{t:zL}:t∈lu n ord L k↔t∈cur n ord L k/\cF.dep n t (ord.getD k 0)=true:=by
 unfold lu nodes;rw[xcl]
theorem rL(hL:∀t∈L,iG n t)(hn:n<=16):∀k,∀t∈sP n ord L k,iG n t
 |0,t,h=>by cases h
 |k+1,t,h=>by
  rcases xav.1 h with h|h
  ·exact rL hL hn k t h
  exact gY hL hn k t (gC.1 h).1
theorem mY(hL:∀t∈L,iG n t)(hn:n<=16)(ho:∀i,i<n->ord.getD i 0<n):∀m,m<=n->∀g,(∃k,k<m/\fs ord (FT n L) k g/\cT g (ord.getD k 0))↔∃t∈sP n ord L m,g=ff n t
 |0,_,g=>by simp[sP]
 |m+1,hm,g=>by
  have ih:=mY hL hn ho m zO g;have af:(fs ord (FT n L) m g/\cT g (ord.getD m 0))↔∃t∈lu n ord L m,g=ff n t:=by
   rw[pL hL hn ho m zO];constructor
   ·rintro⟨⟨t,ht,rfl⟩,hh⟩;exact⟨t,gC.2 ⟨ht,(kz (gY hL hn m t ht) (ho m zO)).1 hh⟩,rfl⟩
   rintro⟨t,ht,rfl⟩;obtain⟨h1,h2⟩:=gC.1 ht;exact⟨⟨t,h1,rfl⟩,(kz (gY hL hn m t h1) (ho m zO)).2 h2⟩
  constructor
  ·rintro⟨k,hk,h1,h2⟩;by_cases e:k=m
   ·subst e;obtain⟨t,ht,rfl⟩:=af.1 ⟨h1,h2⟩;exact⟨t,xaa _ ht,rfl⟩
   obtain⟨t,ht,rfl⟩:=ih.1 ⟨k,by omega,h1,h2⟩;exact⟨t,xad _ ht,rfl⟩
  rintro⟨t,ht,rfl⟩;rcases xav.1 ht with ht|ht
  ·obtain⟨k,hk,h⟩:=ih.2 ⟨t,ht,rfl⟩;exact⟨k,by omega,h⟩
  exact⟨m,by omega,af.2 ⟨t,ht,rfl⟩⟩
theorem mX(hL:∀t∈L,iG n t)(hn:n<=16)(ho:∀i,i<n->ord.getD i 0<n):∀m,m<=n->(sP n ord L m).Nodup
 |0,_=>List.nodup_nil
 |m+1,hm=>by
  refine xbR.2 ⟨mX hL hn ho m zO,(oD m).filter _,λa ha b hb e=>?_⟩;subst e;obtain⟨k,hk,h1,h2⟩:=(mY hL hn ho m zO (ff n a)).2 ⟨a,ha,rfl⟩;have h3:=(pL hL hn ho m zO (ff n a)).2 ⟨a,(gC.1 hb).1,rfl⟩;exact jH m _ h3 k hk h2
theorem Bj{P:Fn->Prop}{l:cF.Fs}(hf:∀t∈l,iG n t)(hn:l.Nodup)(h:∀g,P g↔∃t∈l,g=ff n t):lY P l.length:=by
 refine⟨l.map (ff n),?_,by simp,λg=>?_⟩
 ·refine xcU.2 (hn.imp_of_mem λ{a b} ha hb hne heq=>hne (vv (hf a ha) (hf b hb) heq))
 rw[h,xaq];constructor
 ·rintro⟨t,ht,rfl⟩;exact⟨t,ht,rfl⟩
 rintro⟨t,ht,rfl⟩;exact⟨t,ht,rfl⟩
theorem Bk(hL:∀t∈L,iG n t)(hn:n<=16)(ho:∀i,i<n->ord.getD i 0<n):lY (aJ n ord (FT n L)) (gz n ord L n):=by
 rw[<-k7];exact Bj (rL hL hn n) (mX hL hn ho n (xal _)) (mY hL hn ho n (xal _))
theorem GR(hL:∀t∈L,iG n t)(hn:n<=16)(ho:∀i,i<n->ord.getD i 0<n):sz n ord (FT n L)=gz n ord L n:=qh (Bk hL hn ho)
end ay
set_option maxRecDepth 100000
namespace Go.Proofs
open Go Go.Sx Tryz
section
open ay
def u32(r:Nat):zV:=.int .u32 (r:Int)
def e9(d:Nd):List zV:=[iv (d.v:Int),u32 d.lo,u32 d.hi]
structure jh where
 v:Int
 lo:Nat
 hi:Nat
 tk:Bool
 c:Nat
def jh.row(p:jh):List zV:=[iv p.v,u32 p.lo,u32 p.hi,.bool p.tk,.int .u8 (p.c:Int)]
def df(N:dh)(r:Nat):Bool:=decide (r<2)||(N r).isSome
theorem bD{N:dh}{r:Nat}:df N r=true↔live N r:=by
 unfold df live;rw[xbA,xaH,Option.isSome_iff_exists]
def got(N:dh)(r:Nat):List zV:=
 if r<2 then [iv (-1),u32 r,u32 r]else match N r with|some d=>e9 d|none=>[iv 0,u32 0,u32 0]
theorem dJ{N:dh}{r:Nat}{d:Nd}(h:N r=some d)(h2:2<=r):got N r=e9 d:=by unfold got;rw[xac zO,h]
theorem eu{N:dh}{r:Nat}(h2:r<2):got N r=[iv (-1),u32 r,u32 r]:=by unfold got;rw[xaf h2]
theorem qY{N:dh}{r:Nat}(h:df N r=false):got N r=[iv 0,u32 0,u32 0]:=by
 unfold df at h;rw[xar,xaV]at h;unfold got;rw[xac h.1];cases hN:N r with
 |none=>rfl
 |some d=>rw[hN]at h;simp at h
def wu(p:jh):Option Nd:=if p.tk then some ⟨p.v.toNat,p.lo,p.hi⟩else none
structure rU(l:List jh)(fr:zL)(cap used:Nat)(N:dh):Prop where
 cap:l.length<=cap/\cap<=1048576
 two:2<=l.length
 const:∀r,r<2->∃p,l[r]? =some p/\p.v= -1/\p.lo=r/\p.hi=r/\p.tk=true
 nd:∀r,2<=r->N r=(l[r]?).bind wu
 n0:∀r,r<2->N r=none
 nn:∀(r:Nat) p,2<=r->l[r]? =some p->p.tk=true->0<=p.v
 EA:fr.Nodup
 iC:∀r,r∈fr↔∃p,l[r]? =some p/\p.tk=false
 used:used+fr.length=l.length
theorem rU.u4{l:List jh}{fr:zL}{cap used:Nat}{N:dh}(h:rU l fr cap used N)(r:Nat):df N r=(match l[r]? with|some p=>p.tk|none=>false):=by
 unfold df;by_cases h2:r<2
 ·obtain⟨p,hp,_,_,_,ht⟩:=h.const r h2;simp[h2,hp,ht]
 rw[h.nd r zO];cases hl:l[r]? with
 |none=>simp[h2]
 |some p=>cases ht:p.tk<;>simp[h2,wu,ht]
theorem rU.LM{l:List jh}{fr:zL}{cap used:Nat}{N:dh}(h:rU l fr cap used N){r:Nat}{p:jh}(hp:l[r]? =some p)(ht:p.tk=true):got N r=p.row.take 3:=by
 by_cases h2:r<2
 ·obtain⟨p',hp',h1,nv,h3,_⟩:=h.const r h2;rw[hp]at hp';cases hp';rw[eu h2];simp[jh.row,h1,nv,h3]
 have hn:=h.nn r p zO hp ht;rw[dJ (d:=⟨p.v.toNat,p.lo,p.hi⟩) (by rw[h.nd r zO,hp];simp[wu,ht]) zO];simp[e9,jh.row,Int.toNat_of_nonneg hn]
theorem rU.lt{l:List jh}{fr:zL}{cap used:Nat}{N:dh}(h:rU l fr cap used N){r:Nat}(hr:live N r):r<l.length:=by
 have:=bD.2 hr;rw[h.u4]at this;cases hl:l[r]? with
 |none=>rw[hl]at this;simp at this
 |some p=>exact(xae.1 hl).1
def eP(pa cap used:Nat)(N:dh)(C:Hp):Prop:=
 ∃vl vf l fr Cl Cf,C=(pa,.cells #[iv (cap:Int),vl,vf,iv (used:Int)] 199 zZ)::(Cl++Cf)/\
  aC 203 5 vl (l.map jh.row) Cl/\aR 82 .u32 vf (fr.map (Nat.cast:Nat->Int)) Cf/\rU l fr cap used N
abbrev ptr(b:Nat):zV:=.pointer (some ⟨b,0,none⟩)
theorem row_one(p:jh):∀x∈p.row,x.oneCell'=true:=by intro x hx;simp[jh.row,u32]at hx;rcases hx with rfl|rfl|rfl|rfl|rfl<;>rfl
theorem jm{pa cap used r:Nat}{N:dh}{C:Hp}(h:eP pa cap used N C)(hr:r<4294967296):
  Rd zQ 256 #[ptr pa,u32 r] C (· =.bool (df N r)):=by
 obtain⟨vl,vf,l,fr,Cl,Cf,rfl,hl,hf,ho⟩:=h;refine aU λg=>sV (aM.q (Nil.ptr ?_));refine ah.mk (Ld.mk zM rfl ?_);refine hl.cx (ae.dX ?_);rw[xaw];rw[ho.u4 r];refine bO.and (match l[r]? with|some p=>p.tk|none=>false) (λhlt=>?_) rfl λ_=>bH.mk (.refl _) ?_
 ·have lB:=xcp hlt;apply Nil.ptr;refine ah.mk (Ld.mk zM rfl ?_);have hg:l[r]? =some l[r]:=xab lB;refine hl.E6 (r:=l[r].row) (x:=.bool l[r].tk) (by rw[xaC,hg];rfl) rfl (λ_ h=>by exact .tail _ (xad _ h)) ?_;exact⟨rfl,by rw[hg]⟩
 congr 1;by_cases hlt:r<l.length
 ·simp[hlt]
 rw[xaE zO];simp
theorem AM{pa cap used r:Nat}{N:dh}{C:Hp}(h:eP pa cap used N C)(hr:r<4294967296):
  Rd zQ 212 #[ptr pa,u32 r] C (· =.tuple #[.agg (got N r).toArray,iv (if df N r then 0 else 3)]):=by
 have h0:=h;obtain⟨vl,vf,l,fr,Cl,Cf,rfl,hl,hf,ho⟩:=h;refine aU λg=>tf λb1 _=>?_;refine ae.bh (Br.no (aa.eq (jm h0 hr) (Un.not (Br.mk (λhb=>?_) (λhb=>?_)))))
 ·have hb':df N r=false:=by simpa using hb
  refine Build.mk (cs:=[iv 0,.int .u32 0,.int .u32 0]) zK (St.q ?_);refine aA.q ?_;exact bH.mk .tail (by rw[qY hb',hb'];rfl)
 have hb':df N r=true:=by simpa using hb
 have hx:=hb';rw[ho.u4]at hx;cases hg:l[r]? with
 |none=>rw[hg]at hx;simp at hx
 |some p=>
 rw[hg]at hx;simp only at hx;apply Nil.ptr;refine ah.mk (Ld.mk zM rfl ?_);refine hl.E5 (r:=p.row) (by rw[xaC,hg];rfl) zD (λ_ h=>by exact .tail _ (.tail _ (xad _ h))) ?_;refine St.p (λx hx=>row_one p x (xcB hx)) ?_;refine aA.q ?_;exact bH.mk .tail (by rw[ho.LM hg hx,hb'];rfl)
structure LZ(N:dh)(d:Nd):Prop where
 v:d.v<64
 lo:live N d.lo
 hi:live N d.hi
theorem eP.lt{pa cap used r:Nat}{N:dh}{C:Hp}(h:eP pa cap used N C)(hr:live N r):r<cap/\cap<=1048576:=by
 obtain⟨vl,vf,l,fr,Cl,Cf,rfl,hl,hf,ho⟩:=h;exact⟨xbu (ho.lt hr) ho.cap.1,ho.cap.2⟩
theorem xC{pa cap used:Nat}{N:dh}{C:Hp}{d:Nd}(h:eP pa cap used N C)(hd:LZ N d):
  Rd zQ 232 #[ptr pa,.agg (e9 d).toArray] C (· =iv 0):=by
 have hlo:=h.lt hd.lo;have hhi:=h.lt hd.hi;refine aU λg=>s6 λb1 _=>?_;refine Ld.f ?_;refine ae.lss (bO.or (decide (64<=d.v)) (λ_=>?_) rfl λ_=>?_)
 ·refine Ld.f ?_;exact ae.nw (b:=64) ⟨rfl,rfl⟩
 have hv:=hd.v;refine Br.JU zP λJ hJ=>?_;refine Ld.f ?_;refine aa.eq (jm h zO) ?_;rw[bD.2 hd.lo];refine Un.not (Split.go rfl (Ld.f ?_));refine aa.eq (jm h zO) ?_;rw[bD.2 hd.hi];refine Un.not (az.mk (JE.mk (hJ _ _ λgs=>Br.no (bH.mk .tail rfl))))
theorem EV{pa cap used r:Nat}{N:dh}{C:Hp}(h:eP pa cap used N C)(hr:∃d,N r=some d)(h2:2<=r):
  Rd zQ 214 #[ptr pa,u32 r] C (· =iv 0):=by
 have hl:=h.lt (.inr hr);refine aU λg=>tc λJ hJ=>?_;refine ae.E4 (b:=1) (Split.go zP ?_);refine aa.eq (jm h zO) ?_;rw[bD.2 (.inr hr)];refine Un.not (az.mk (JE.mk (hJ _ _ λgs=>Br.no (bH.mk (.refl _) rfl))))
theorem rH{pa cap used:Nat}{N:dh}{C:Hp}(h:eP pa cap used N C):Rd zQ 146 #[ptr pa] C (· =iv (used:Int)):=by
 obtain⟨vl,vf,l,fr,Cl,Cf,rfl,hl,hf,ho⟩:=h;refine aU λg=>tW (ae.bh (Br.no (Nil.ptr ?_)));refine ah.mk (Ld.mk zM rfl ?_);exact bH.mk (.refl _) rfl
theorem sL{pa cap used:Nat}{N:dh}{C:Hp}(h:eP pa cap used N C):Rd zQ 230 #[ptr pa] C (· =iv (cap:Int)):=by
 obtain⟨vl,vf,l,fr,Cl,Cf,rfl,hl,hf,ho⟩:=h;refine aU λg=>s8 (ae.bh (Br.no (Nil.ptr ?_)));refine ah.mk (Ld.mk zM rfl ?_);exact bH.mk (.refl _) rfl
end
section
open ay
section
variable {l:List jh} {fr:zL} {cap used:Nat} {N:dh}
theorem zz(d:Nd){c:Nat}:wu ⟨(d.v:Int),d.lo,d.hi,true,c⟩=some d:=by simp[wu]
theorem rU.reuse(h:rU l fr cap used N){r:Nat}(hr:r∈fr){fr':zL}(hf:fr.Perm (r::fr'))(d:Nd):
  2<=r/\r<cap/\N r=none/\rU (l.set r ⟨(d.v:Int),d.lo,d.hi,true,0⟩) fr' cap (used+1) (up N r (some d)):=by
 obtain⟨p,hp,ht⟩:=(h.iC r).1 hr;have hlt:=(xae.1 hp).1;have h2:2<=r:=by
  apply Decidable.byContradiction;intro hn;obtain⟨p',hp',_,_,_,ht'⟩:=h.const r zO;rw[hp]at hp';cases hp';rw[ht]at ht';cases ht'
 have iT:=hf.nodup_iff.1 h.EA;rw[xa1]at iT;refine⟨h2,xbu hlt h.cap.1,by rw[h.nd r h2,hp];simp[wu,ht],?_⟩;have dY:∀s,s≠r->(l.set r ⟨(d.v:Int),d.lo,d.hi,true,0⟩)[s]? =l[s]? :=λs hs=>xby (xbJ hs);have wS:(l.set r ⟨(d.v:Int),d.lo,d.hi,true,0⟩)[r]? =some ⟨(d.v:Int),d.lo,d.hi,true,0⟩:=xbp hlt;exact {
  cap:=by simpa using h.cap
  two:=by simpa using h.two
  const:=λs hs=>by rw[dY s zO];exact h.const s hs
  nd:=λs hs=>by
   by_cases e:s=r
   ·subst e;rw[aH,wS];exact(zz d).symm
   rw[aO e,dY s e];exact h.nd s hs
  n0:=λs hs=>by rw[aO zO];exact h.n0 s hs
  nn:=λs q hs hq C6=>by
   by_cases e:s=r
   ·subst e;rw[wS]at hq;cases hq;exact xbs _
   rw[dY s e]at hq;exact h.nn s q hs hq C6
  EA:=iT.2
  iC:=λs=>by
   by_cases e:s=r
   ·subst e;rw[wS];simp[iT.1]
   rw[dY s e,<-h.iC s,hf.mem_iff];simp[e]
  used:=by have:=h.used;have:=hf.length_eq;simp only[xak,xci]at*;omega}
theorem rU.grow(h:rU l [] cap used N)(hlt:l.length<cap)(d:Nd):
  2<=l.length/\N l.length=none/\rU (l++[⟨(d.v:Int),d.lo,d.hi,true,0⟩]) [] cap (used+1) (up N l.length (some d)):=by
 have h2:=h.two;refine⟨h2,by rw[h.nd _ h2,xaE (xal _)];rfl,?_⟩;have dY:∀s,s≠l.length->(l++[(⟨(d.v:Int),d.lo,d.hi,true,0⟩:jh)])[s]? =l[s]? :=λs hs=>by
  rw[xc9];split
  ·rfl
  rw[xaE zP,xaE zO]
 have wS:(l++[(⟨(d.v:Int),d.lo,d.hi,true,0⟩:jh)])[l.length]? =some ⟨(d.v:Int),d.lo,d.hi,true,0⟩:=by simp
 exact {
  cap:=by simp;exact⟨hlt,h.cap.2⟩
  two:=by simp;omega
  const:=λs hs=>by rw[dY s zO];exact h.const s hs
  nd:=λs hs=>by
   by_cases e:s=l.length
   ·subst e;rw[aH,wS];exact(zz d).symm
   rw[aO e,dY s e];exact h.nd s hs
  n0:=λs hs=>by rw[aO zO];exact h.n0 s hs
  nn:=λs q hs hq C6=>by
   by_cases e:s=l.length
   ·subst e;rw[wS]at hq;cases hq;exact xbs _
   rw[dY s e]at hq;exact h.nn s q hs hq C6
  EA:=h.EA
  iC:=λs=>by
   by_cases e:s=l.length
   ·subst e;rw[wS];simp
   rw[dY s e];exact h.iC s
  used:=by have:=h.used;simp at*;omega}
theorem rU.free(h:rU l fr cap used N){r:Nat}{p:jh}(h2:2<=r)(hp:l[r]? =some p)(ht:p.tk=true):
  rU (l.set r ⟨0,0,0,false,0⟩) (fr++[r]) cap (used-1) (up N r none)/\0<used:=by
 have hlt:=(xae.1 hp).1;have dY:∀s,s≠r->(l.set r ⟨0,0,0,false,0⟩)[s]? =l[s]? :=λs hs=>xby (xbJ hs);have wS:(l.set r ⟨0,0,0,false,0⟩)[r]? =some ⟨0,0,0,false,0⟩:=xbp hlt;have MA:r∉fr:=λhm=>by obtain⟨q,hq,C6⟩:=(h.iC r).1 hm;rw[hp]at hq;cases hq;rw[ht]at C6;cases C6
 have hu:fr.length<l.length:=by
  have hn:(r::fr).Nodup:=xa1.2 ⟨MA,h.EA⟩;have:=bN (l:=r::fr) (l':=List.range l.length) hn λs hs=>by
   rw[xa8];rcases xag.1 hs with rfl|hs
   ·exact hlt
   obtain⟨q,hq,_⟩:=(h.iC s).1 hs;exact(xae.1 hq).1
  rw[xb4]at this;exact this
 have Ge:=h.used;refine⟨?_,by omega⟩;exact {
  cap:=by simpa using h.cap
  two:=by simpa using h.two
  const:=λs hs=>by rw[dY s zO];exact h.const s hs
  nd:=λs hs=>by
   by_cases e:s=r
   ·subst e;rw[aH,wS];rfl
   rw[aO e,dY s e];exact h.nd s hs
  n0:=λs hs=>by rw[aO zO];exact h.n0 s hs
  nn:=λs q hs hq C6=>by
   by_cases e:s=r
   ·subst e;rw[wS]at hq;cases hq;cases C6
   rw[dY s e]at hq;exact h.nn s q hs hq C6
  EA:=by rw[xbR];exact⟨h.EA,by simp,λa ha c hc=>by simp at hc;subst hc;intro e;subst e;exact MA ha⟩
  iC:=λs=>by
   rw[xav,xaG];by_cases e:s=r
   ·subst e;rw[wS];simp
   rw[dY s e,<-h.iC];simp[e]
  used:=by simp;omega}
end
theorem kS(l:List jh)(r:Nat)(p:jh):(l.map jh.row).set r p.row=(l.set r p).map jh.row:=by rw[xdc]
theorem BC{pa cap used:Nat}{N:dh}{C:Hp}{d:Nd}(h:eP pa cap used N C)(hd:LZ N d)(hroom:used<cap):
  Fc zQ 254 #[ptr pa,.agg (e9 d).toArray] C (λv C'=>∃r,v=.tuple #[u32 r,iv 0]/\2<=r/\r<cap/\N r=none/\eP pa cap (used+1) (up N r (some d)) C'):=by
 have h0:=h;obtain⟨vl,vf,l,fr,Cl,Cf,rfl,hl,hf,ho⟩:=h;have hcap:=ho.cap;have Am:=ho.used;refine aU λg=>sX λb1 _=>?_;refine ae.bh (Br.no (aA.q ?_));refine aa.eq (xC h0 hd) (ae.j4 (Br.F (Nil.ptr ?_)));refine ah.mk (Ld.mk zM rfl ?_);refine hf.cx ?_;rw[xaw];refine ae.iU (b:=0) (Br.dec (λhp=>?_) (λhp=>?_))
 ·obtain⟨fr',r,rfl⟩:∃fr' r,fr=fr'++[r]:=⟨fr.dropLast,fr.getLast (by intro e;simp[e]at hp),(xdj _).symm⟩;simp only[xan,xak,xbq]at hp Am⊢;obtain⟨g1,g2,g3,hok⟩:=ho.reuse (r:=r) zI (fr':=fr') (by exact List.perm_append_singleton _ _) d;apply Nil.ptr;refine ah.mk (Ld.mk zM rfl ?_);refine ae.Cd (a:=fr'.length+1) (b:=1) ?_;rw[xcO];refine hf.ld (i:=fr'.length) (x:=(r:Int)) zI (λ_ h=>by exact .tail _ (.tail _ (xaa _ h))) (Nil.ptr ?_);refine ah.mk (Ld.mk zM rfl ?_);refine ae.Cd (a:=fr'.length+1) (b:=1) ?_;rw[xcO];refine hf.cut (i:=fr'.length) zI λv' yO=>?_;have BS:aR 82 .u32 v' (fr'.map (Nat.cast:Nat->Int)) Cf:=by
   rw[xau,List.take_left' zI]at yO;exact yO
  have hone:v'.oneCell'=true:=by obtain⟨a,c,e⟩:=aC.len BS;rw[e];rfl
  refine Nil.ptr (ah.mk (St.one (by exact .tail (.head _)) hone zI rfl ?_));refine DR.self (Nil.ptr (Ld.f ?_));refine aA.q ?_;refine Build.mk (cs:=(jh.mk (d.v:Int) d.lo d.hi true 0).row) zK (hl.zk (A:=[_,_]) (B:=Cf) (i:=r) (by rw[xaw];have:=(ho.iC r).1 zI;obtain⟨p,hp,_⟩:=this;exact(xae.1 hp).1) rfl (row_one _) λC' hl'=>?_);rw[kS]at hl';simp only[xaF,xaU];refine Nil.ptr (Ld.f ?_);refine ae.inc (Nil.ptr (ah.mk (St.one (by exact .tail (.head _)) rfl zI rfl ?_)));exact bc.mk .tail ⟨r,rfl,g1,g2,g3,vl,v',_,fr',C',Cf,rfl,hl',BS,hok⟩
 obtain rfl:fr=[]:=xbU zO;simp only[xbq]at Am;obtain⟨g1,g3,hok⟩:=ho.grow zO d;apply Nil.ptr;refine ah.mk (Ld.mk zM rfl ?_);refine hl.cx ?_;rw[xaw];apply Nil.ptr;refine ah.mk (Ld.mk zM rfl ?_);refine ae.nw (Br.F (DR.of (R:=(b1,.cells (List.toArray (e9 d)) 201 zZ)::(pa,.cells #[iv (cap:Int),vl,vf,iv (used:Int)] 199 zZ)::[]) (.cons (.cons .nil)) (Nil.ptr ?_)));refine ah.mk (Ld.mk zM rfl ?_);refine aA.q ?_;refine Build.mk (cs:=(jh.mk (d.v:Int) d.lo d.hi true 0).row) zK (aj.one (z:=.agg #[iv 0,.int .u32 0,.int .u32 0,.bool false,.int .u8 0]) (e:=203) (k:=5) zK zK zK zD rfl λbx=>?_);refine⟨.skip (.cons (.cons .nil)),?_⟩;refine hl.DF (A:=[_,_,_]) (B:=Cf) (r:=(jh.mk (d.v:Int) d.lo d.hi true 0).row) (by exact .head _) rfl (row_one _) (by exact⟨[iv 0,.int .u32 0,.int .u32 0,.bool false,.int .u8 0],rfl,rfl⟩) zP zP λv' C' hl'=>?_;have ve:aC 203 5 v' ((l++[(⟨(d.v:Int),d.lo,d.hi,true,0⟩:jh)]).map jh.row) C':=by rw[xau];exact hl'
 simp only[xaF,xaU];refine⟨.skip (.cons (.cons .nil)),?_⟩;have hone:v'.oneCell'=true:=by obtain⟨a,c,e⟩:=ve.len;rw[e];rfl
 refine Nil.ptr (ah.mk (St.one (by exact .tail (.tail (.head _))) hone zI rfl ?_));refine Nil.ptr (Ld.f ?_);refine ae.inc (Nil.ptr (ah.mk (St.one (by exact .tail (.tail (.head _))) rfl zI rfl ?_)));refine Nil.ptr (Ld.f ?_);refine ve.cx (ae.e7 (b:=1) (by simp[bY];omega) zI (aM.q (bc.mk (.skip .tail) ⟨l.length,by simp[u32],g1,by omega,g3,v',vf,_,[],C',Cf,rfl,ve,hf,hok⟩)))
theorem BE{pa cap used r:Nat}{N:dh}{C:Hp}(h:eP pa cap used N C)(hr:∃e,N r=some e)(h2:2<=r):
  Fc zQ 168 #[ptr pa,u32 r] C (λv C'=>v=iv 0/\eP pa cap (used-1) (up N r none) C'):=by
 have h0:=h;obtain⟨vl,vf,l,fr,Cl,Cf,rfl,hl,hf,ho⟩:=h;have hx:=bD.2 (.inr hr:live N r);rw[ho.u4]at hx;obtain⟨p,hg,hx⟩:∃p,l[r]? =some p/\p.tk=true:=by
  cases hg:l[r]? with
  |none=>rw[hg]at hx;simp at hx
  |some p=>rw[hg]at hx;exact⟨p,rfl,hx⟩
 obtain⟨hok,Kb⟩:=ho.free h2 hg hx;have hcap:=ho.cap;have Am:=ho.used;refine aU λg=>tH (ae.bh (Br.no (aa.eq (EV h0 hr h2) (ae.j4 (Br.F (Nil.ptr ?_))))));refine ah.mk (Ld.mk zM rfl ?_);refine Build.mk (cs:=(jh.mk 0 0 0 false 0).row) zK (hl.zk (A:=[_]) (B:=Cf) (i:=r) (by rw[xaw];exact(xae.1 hg).1) rfl (row_one _) λC' hl'=>?_);rw[kS]at hl';simp only[xaF,xaU];refine Nil.ptr (Ld.f ?_);refine aj.int (e:=82) zK zK zK λbx=>?_;have e1:(bx,Obj.cells (an .u32 [(r:Int)]) 82 zZ)::(pa,Obj.cells #[iv (cap:Int),vl,vf,iv (used:Int)] 199 zZ)::(C'++Cf)=(bx,Obj.cells (an .u32 [(r:Int)]) 82 zZ)::(pa,Obj.cells #[iv (cap:Int),vl,vf,iv (used:Int)] 199 zZ)::C'++(Cf++[]):=by simp
 rw[e1];refine hf.app (x:=(r:Int)) (B:=[]) (by exact .head _) zP zP λv' Nc yO=>?_;have BS:aR 82 .u32 v' ((fr++[r]).map (Nat.cast:Nat->Int)) Nc:=by rw[xau];exact yO
 have hone:v'.oneCell'=true:=by obtain⟨a,c,e⟩:=aC.len BS;rw[e];rfl
 simp only[xaF,xaT];refine Nil.ptr (ah.mk (St.one (by exact .tail (.head _)) hone zI rfl ?_));refine Nil.ptr (Ld.f ?_);refine ae.Cd (b:=1) (Nil.ptr (ah.mk (St.one (by exact .tail (.head _)) rfl zI rfl ?_)));exact bc.mk .tail ⟨rfl,vl,v',_,_,C',Nc,rfl,hl',BS,hok⟩
def nK(d:Nd):zV:=.agg (e9 d).toArray
abbrev DW(v:zV)(r:Nat):Prop:=v=u32 r
theorem n7(a b:Nd):vN zQ 201 (nK a) (nK b) (decide (a=b)):=by
 refine vN.flat (fs:=#[⟨"Var",3,0,false, "", "",0⟩,⟨"Lo",82,1,false, "", "",8⟩,⟨"Hi",82,2,false, "", "",12⟩]) zK zK ?_ ?_
 ·intro f hf;simp only[xag,xax,xa3]at hf;rcases hf with rfl|rfl|rfl
  ·exact⟨by decide,_,_,rfl,rfl,.inl ⟨.i64,_,_,by kernel_rfl,rfl,rfl⟩⟩
  ·exact⟨by decide,_,_,rfl,rfl,.inl ⟨.u32,_,_,by kernel_rfl,rfl,rfl⟩⟩
  exact⟨by decide,_,_,rfl,rfl,.inl ⟨.u32,_,_,by kernel_rfl,rfl,rfl⟩⟩
 obtain⟨a1,a2,a3⟩:=a;obtain⟨b1,b2,b3⟩:=b;simp[e9,u32];omega
theorem j5(a:Nd):jf zQ 201 (nK a):=by
 refine jf.flat (fs:=#[⟨"Var",3,0,false, "", "",0⟩,⟨"Lo",82,1,false, "", "",8⟩,⟨"Hi",82,2,false, "", "",12⟩]) zK ?_;intro f hf;simp only[xag,xax,xa3]at hf;rcases hf with rfl|rfl|rfl
 ·exact⟨by decide,_,rfl,.inl ⟨.i64,_,_,by kernel_rfl,rfl,rfl⟩⟩
 ·exact⟨by decide,_,rfl,.inl ⟨.u32,_,_,by kernel_rfl,rfl,rfl⟩⟩
 exact⟨by decide,_,rfl,.inl ⟨.u32,_,_,by kernel_rfl,rfl,rfl⟩⟩
theorem Cv(a:Nd):Instr.sameBits 10000 (nK a) (nK a)=true:=ik 9998 (by intro x hx;simp[e9,u32]at hx;rcases hx with rfl|rfl|rfl<;>exact .inl ⟨_,_,rfl⟩)
structure UM where
 b:Nat
 es:Array MapEntry
 ck:Nat
 l:List (Nd×Nat)
def zR(ms:List UM):Hp:=ms.map λm=>(m.b,.map m.es m.ck)
structure BX(ms:List UM)(n:Nat)(T:Nd->Option Nat):Prop where
 len:ms.length=n
 eS:∀(v:Nat) m,ms[v]? =some m->br nK DW m.es m.ck m.l
 var:∀(v:Nat) m,ms[v]? =some m->∀x∈m.l,x.1.v=v
 T:∀d,T d=(ms[d.v]?).bind λm=>bR m.l d
def jP(pt n:Nat)(T:Nd->Option Nat)(C:Hp):Prop:=
 ∃vs Cs ms,C=(pt,.cells #[vs] 159 zZ)::(Cs++zR ms)/\aC 160 1 vs (ms.map λm=>[.map (some m.b)]) Cs/\BX ms n T
theorem pw{ms:List UM}{v:Nat}{m:UM}(h:ms[v]? =some m):(m.b,Obj.map m.es m.ck)∈zR ms:=xaq.2 ⟨m,xaI h,rfl⟩
theorem pq{es':Array MapEntry}{eU:Nat}{l':List (Nd×Nat)}:∀{ms:List UM} {v:Nat} {m:UM},ms[v]? =some m->bW m.b (.map m.es m.ck) (.map es' eU) (zR ms) (zR (ms.set v ⟨m.b,es',eU,l'⟩))
 | [],v,m,h=>by simp at h
 |x::ms,0,m,h=>by simp at h;subst h;exact .head _
 |x::ms,v+1,m,h=>by simp at h;exact .tail (pq h)
theorem oc{ms:List UM}{v:Nat}{m m':UM}(h:ms[v]? =some m)(hb:m'.b=m.b):(ms.set v m').map (λm=>[Value.map (some m.b)])=ms.map λm=>[Value.map (some m.b)]:=by
 rw[xdc];apply xbS;intro j;rw[xb5];split
 ·rename_i e;subst e;have hlt:=(xae.1 h).1;have e2:ms[v]=m:=by rw[xab hlt]at h;exact xbh h
  simp[hb,hlt,e2]
 rfl
theorem BX.add{ms:List UM}{n:Nat}{T:Nd->Option Nat}(h:BX ms n T){d:Nd}{m:UM}(hm:ms[d.v]? =some m){es':Array MapEntry}{eU r:Nat}(he:br nK DW es' eU (cE m.l d r)):BX (ms.set d.v ⟨m.b,es',eU,cE m.l d r⟩) n (uL T d (some r)) where
 len:=by rw[xci];exact h.len
 eS:=λv m' hm'=>by
  rw[xb5]at hm';split at hm'
  ·split at hm'
   ·cases hm';exact he
   cases hm'
  exact h.eS v m' hm'
 var:=λv m' hm' x hx=>by
  rw[xb5]at hm';split at hm'
  ·rename_i e;split at hm'
   ·cases hm';subst e;simp only[cE]at hx;split at hx
    ·obtain⟨y,hy,rfl⟩:=xaq.1 hx;split
     ·rfl
     exact h.var _ m hm y hy
    rcases xav.1 hx with hx|hx
    ·exact h.var _ m hm x hx
    simp at hx;subst hx;rfl
   cases hm'
  exact h.var v m' hm' x hx
 T:=λe=>by
  have hlt:=(xae.1 hm).1;by_cases ee:e=d
  ·subst ee;rw[jk,xbp hlt];simp[oa]
  rw[o4 ee,h.T e];by_cases ev:d.v=e.v
  ·rw[<-ev,xbp hlt,hm];simp[oa,ee]
  rw[xby ev]
theorem BX.del{ms:List UM}{n:Nat}{T:Nd->Option Nat}(h:BX ms n T){d:Nd}{m:UM}(hm:ms[d.v]? =some m){es':Array MapEntry}{eU:Nat}(he:br nK DW es' eU (nF m.l d)):BX (ms.set d.v ⟨m.b,es',eU,nF m.l d⟩) n (uL T d none) where
 len:=by rw[xci];exact h.len
 eS:=λv m' hm'=>by
  rw[xb5]at hm';split at hm'
  ·split at hm'
   ·cases hm';exact he
   cases hm'
  exact h.eS v m' hm'
 var:=λv m' hm' x hx=>by
  rw[xb5]at hm';split at hm'
  ·rename_i e;split at hm'
   ·cases hm';subst e;exact h.var _ m hm x (xcl.1 hx|>.1)
   cases hm'
  exact h.var v m' hm' x hx
 T:=λe=>by
  have hlt:=(xae.1 hm).1;by_cases ee:e=d
  ·subst ee;rw[jk,xbp hlt];simp[ob]
  rw[o4 ee,h.T e];by_cases ev:d.v=e.v
  ·rw[<-ev,xbp hlt,hm];simp[ob,ee]
  rw[xby ev]
theorem jY{pt n v:Nat}{T:Nd->Option Nat}{C:Hp}(h:jP pt n T C)(hv:v<n):Rd zQ 213 #[ptr pt,iv (v:Int)] C (· =iv 0):=by
 obtain⟨vs,Cs,ms,rfl,hs,ho⟩:=h;refine aU λg=>td (ae.bh (Br.no (ae.lss ?_)));rw[xaA (by omega:¬((v:Int)<0))];refine bO.or false (λ_=>?_) rfl λ_=>Br.no (bH.mk (.refl _) rfl);apply Nil.ptr;refine ah.mk (Ld.mk zM rfl ?_);refine hs.cx ?_;rw[xaw,ho.len];exact ae.nw ⟨rfl,by rw[xaA zO]⟩
theorem Dt{pt n:Nat}{T:Nd->Option Nat}{C:Hp}{d:Nd}(h:jP pt n T C)(hv:d.v<n):
  Rd zQ 231 #[ptr pt,nK d] C (· =.tuple #[u32 ((T d).getD 0),.bool (T d).isSome]):=by
 have h0:=h;obtain⟨vs,Cs,ms,rfl,hs,ho⟩:=h;obtain⟨m,hm⟩:∃m,ms[d.v]? =some m:=⟨_,xab (by rw[ho.len];exact hv)⟩;refine aU λg=>s7 λb1 _=>?_;refine Ld.f ?_;refine aa.eq (jY h0 hv) (ae.j4 (Br.F (Nil.ptr ?_)));refine ah.mk (Ld.mk zM rfl ?_);refine Ld.f ?_;refine hs.Gc (x:=.map (some m.b)) (by rw[xaC,hm];rfl) (λ_ h=>by exact .tail _ (.tail _ (xad _ h))) ?_;refine aA.q ?_;have hmem:(m.b,Obj.map m.es m.ck)∈(b1,Obj.cells (Value.cells (nK d)) 201 zZ)::(pt,.cells #[vs] 159 zZ)::(Cs++zR ms):=.tail _ (.tail _ (xaa _ (pw hm)));have hT:T d=bR m.l d:=by rw[ho.T,hm];rfl
 rw[hT];cases hg:bR m.l d with
 |some r=>
  refine br.Dc (ke:=nK) (k:=d) n7 j5 (ho.eS _ m hm) hmem hg ?_;rintro v rfl;exact Ext.mk rfl (Ext.mk rfl (bH.mk .tail rfl))
 |none=>
  refine br.uY (ke:=nK) (k:=d) n7 j5 (ho.eS _ m hm) hmem hg ?_;exact Ext.mk rfl (Ext.mk rfl (bH.mk .tail rfl))
theorem B6{pt n r:Nat}{T:Nd->Option Nat}{C:Hp}{d:Nd}(h:jP pt n T C)(hv:d.v<n)(hT:T d=none):
  Fc zQ 192 #[ptr pt,nK d,u32 r] C (λv C'=>v=iv 0/\jP pt n (uL T d (some r)) C'):=by
 have h0:=h;obtain⟨vs,Cs,ms,rfl,hs,ho⟩:=h;obtain⟨m,hm⟩:∃m,ms[d.v]? =some m:=⟨_,xab (by rw[ho.len];exact hv)⟩;have K6:bR m.l d=none:=by rw[ho.T,hm]at hT;exact hT
 refine aU λg=>tA λb1 _=>?_;refine Ld.f ?_;refine aa.eq (jY h0 hv) (ae.j4 (Br.F (Nil.ptr ?_)));refine ah.mk (Ld.mk zM rfl ?_);refine Ld.f ?_;refine hs.Gc (x:=.map (some m.b)) (by rw[xaC,hm];rfl) (λ_ h=>by exact .tail _ (.tail _ (xad _ h))) ?_;refine aA.q ?_;have hmem:(m.b,Obj.map m.es m.ck)∈(b1,Obj.cells (Value.cells (nK d)) 201 zZ)::(pt,.cells #[vs] 159 zZ)::(Cs++zR ms):=.tail _ (.tail _ (xaa _ (pw hm)));refine br.uY (ke:=nK) (k:=d) n7 j5 (ho.eS _ m hm) hmem K6 ?_;refine Ext.mk rfl (Ext.mk rfl (Br.no (DR.self (Nil.ptr ?_))));refine ah.mk (Ld.mk zM rfl ?_);refine Ld.f ?_;refine hs.Gc (x:=.map (some m.b)) (by rw[xaC,hm];rfl) (λ_ h=>by exact .tail _ (.tail _ (xad _ h))) ?_;refine aA.q ?_;refine br.B4 (ke:=nK) (k:=d) (vr:=DW) (x:=r) n7 j5 Cv (ho.eS _ m hm) rfl λes' eU he=>⟨_,.tail (.tail ((pq (l':=cE m.l d r) hm).aB Cs)),?_⟩;exact bc.mk .tail ⟨rfl,vs,Cs,_,rfl,by rw[oc hm];exact hs;rfl,ho.add hm he⟩
theorem wj{pt n r:Nat}{T:Nd->Option Nat}{C:Hp}{d:Nd}(h:jP pt n T C)(hv:d.v<n)(hT:T d=some r):
  Fc zQ 167 #[ptr pt,nK d] C (λv C'=>v=iv 0/\jP pt n (uL T d none) C'):=by
 have h0:=h;obtain⟨vs,Cs,ms,rfl,hs,ho⟩:=h;obtain⟨m,hm⟩:∃m,ms[d.v]? =some m:=⟨_,xab (by rw[ho.len];exact hv)⟩;have K6:bR m.l d=some r:=by rw[ho.T,hm]at hT;exact hT
 refine aU λg=>tI λb1 _=>?_;refine Ld.f ?_;refine aa.eq (jY h0 hv) (ae.j4 (Br.F (Nil.ptr ?_)));refine ah.mk (Ld.mk zM rfl ?_);refine Ld.f ?_;refine hs.Gc (x:=.map (some m.b)) (by rw[xaC,hm];rfl) (λ_ h=>by exact .tail _ (.tail _ (xad _ h))) ?_;refine aA.q ?_;have hmem:(m.b,Obj.map m.es m.ck)∈(b1,Obj.cells (Value.cells (nK d)) 201 zZ)::(pt,.cells #[vs] 159 zZ)::(Cs++zR ms):=.tail _ (.tail _ (xaa _ (pw hm)));refine br.Dc (ke:=nK) (k:=d) n7 j5 (ho.eS _ m hm) hmem K6 ?_;rintro v rfl;refine Ext.mk rfl (Ext.mk rfl (Un.not (Br.no (DR.of (R:=(b1,Obj.cells (Value.cells (nK d)) 201 zZ)::(pt,.cells #[vs] 159 zZ)::Cs) (.cons (.cons .left)) (Nil.ptr ?_)))));refine ah.mk (Ld.mk zM rfl ?_);refine Ld.f ?_;refine hs.Gc (x:=.map (some m.b)) (by rw[xaC,hm];rfl) (λ_ h=>by exact .tail _ (.tail _ h)) ?_;refine aA.q ?_;refine br.LU (ke:=nK) (k:=d) n7 j5 (ho.eS _ m hm) hmem λes' he=>⟨_,.tail (.tail ((pq (l':=nF m.l d) hm).aB Cs)),?_⟩;exact⟨.cons (.cons .left),bc.mk .tail ⟨rfl,vs,Cs,_,rfl,by rw[oc hm];exact hs;rfl,ho.del hm he⟩⟩
theorem BX.start(n:Nat)(bs:zL)(h:bs.length=n):BX (bs.map λb=>⟨b,#[],0,[]⟩) n (λ_=>none) where
 len:=by simpa using h
 eS:=λv m hm=>by
  rw[xaC]at hm;obtain⟨b,_,rfl⟩:=xcX.1 hm;exact br.empty
 var:=λv m hm x hx=>by
  rw[xaC]at hm;obtain⟨b,_,rfl⟩:=xcX.1 hm;simp at hx
 T:=λd=>by
  rw[xaC];cases bs[d.v]? <;>simp[bR]
theorem q6(x:zV):∀n:Nat,(List.replicate n [x]).flatten=List.replicate n x
 |0=>rfl
 |n+1=>by rw[xce,xbz,xce,q6 x n];rfl
theorem B5{n:Nat}(hn:1<=n/\n<=64):Fc zQ 47 #[iv (n:Int)] [] (λv H=>∃pt,v=.tuple #[ptr pt,iv 0]/\jP pt n (λ_=>none) H):=by
 refine aU λg=>yg (ae.lss ?_);rw[xaA zO];refine bO.or false (λ_=>ae.gtr ⟨rfl,by rw[xaA zO]⟩) rfl λ_=>Br.no ?_;refine⟨.i64,.i64,n,n,rfl,rfl,xal _,by omega,by omega,?_⟩;intro bs _;refine Build.mk (cs:=[.slice (some ⟨bs,0,none⟩) n n]) zK λpt _=>?_;have hz:madeCells (Value.cells (.map none)) (n*1)=rows ((List.replicate n [Value.map none])++[]):=by
  apply xch;apply xbS;intro i;have:=q6 (.map none) n;simp only[madeCells,rows,Value.cells,xc0,Array.toList_range,xaC,xde,xbW,xaT];rw[this,xcT];by_cases hi:i<n
  ·simp[hi,Nat.mod_one]
  simp[hi]
 rw[hz];have hs0:aC 160 1 (.slice (some ⟨bs,0,none⟩) n n) (List.replicate n [Value.map none]) [(bs,.cells (rows ((List.replicate n [Value.map none])++[])) 160 zZ)]:=
  aC.mk' (λr hr=>by rw[xaT]at hr;rw[xbt hr];rfl) zI zI
 refine⟨λvs H=>∃(j:Nat) (bl:zL) (Cs:Hp),vs=[iv (j:Int)]/\bl.length=j/\j<=n/\H=(pt,.cells #[.slice (some ⟨bs,0,none⟩) n n] 159 zZ)::(Cs++zR (bl.map λb=>⟨b,#[],0,[]⟩))/\
  aC 160 1 (.slice (some ⟨bs,0,none⟩) n n) ((bl.map λb=>[Value.map (some b)])++List.replicate (n-j) [Value.map none]) Cs,λvs _=>n-dx vs 0,JE.mk ⟨0,[],_,rfl,rfl,by omega,by simp only[zR,xcJ,xaT];rfl,by simpa using hs0⟩,?_⟩
 rintro w H ⟨j,bl,Cs,hw,yP,hj,rfl,hs⟩ gs;simp only[xbb,xc2]at hw;subst hw;refine ae.dX (Br.dec (λhlt=>?_) (λhlt=>?_))
 ·refine Nil.ptr (Ld.f ?_);intro b _;have hlen:((bl.map λb=>[Value.map (some b)])++List.replicate (n-j) [Value.map none]).length=n:=by simp;omega
  refine aC.JR (A:=[_,_]) (B:=zR (bl.map λb=>⟨b,#[],0,[]⟩)) hs (i:=j) (y:=.map none) zO ?_ rfl λC' hs'=>?_
  ·rw[xb0 (by simp[yP])];simp only[xaw,yP,xct];rw[xcT,xaf zO]
  refine ae.inc ?_;have e:((bl.map λb=>[Value.map (some b)])++List.replicate (n-j) [Value.map none]).set j [Value.map (some b)]=((bl++[b]).map λb=>[Value.map (some b)])++List.replicate (n-(j+1)) [Value.map none]:=by
   rw[xcu _ _ (by simp[yP])];simp only[xaw,yP,xct];rw[show n-j=(n-(j+1))+1 by omega,xce,xcL,xau];simp
  rw[e]at hs';refine aI.of ?_ ⟨j+1,bl++[b],C',rfl,by simp[yP],by omega,rfl,hs'⟩ (by show n-(((j+1:Nat):Int).toNat)<n-(((j:Nat):Int).toNat);omega);refine aN.perm ?_;simp only[xaF,xaU,zR,xau,xbP];refine(List.Perm.swap _ _ _).trans (.cons _ ?_);rw[<-xat];exact(List.perm_append_singleton _ _).symm
 obtain rfl:j=n:=by omega
 refine bc.here ⟨pt,rfl,_,Cs,_,rfl,?_,BX.start _ bl yP⟩;rw[xct]at hs;simpa[xbP,Function.comp_def]using hs
theorem DH{n:Nat}(hn:2<=n/\n<=1048576):Fc zQ 96 #[iv (n:Int)] [] (λv H=>∃pa,v=.tuple #[ptr pa,iv 0]/\eP pa n 2 (λ_=>none) H):=by
 refine aU λg=>xI (ae.lss ?_);rw[xaA zO];refine bO.or false (λ_=>ae.gtr ⟨rfl,by rw[xaA zO]⟩) rfl λ_=>Br.no ?_;refine Build.mk (cs:=[iv (n:Int),.slice none 0 0,.slice none 0 0,iv 2]) zK λpa _=>?_;refine⟨λvs H=>∃(j:Nat) (vl:zV) (Cl:Hp),vs=[u32 j]/\j<=2/\H=(pa,.cells #[iv (n:Int),vl,.slice none 0 0,iv 2] 199 zZ)::Cl/\
  aC 203 5 vl ((List.range j).map λr=>(jh.mk (-1) r r true 255).row) Cl,λvs _=>2-dx vs 0,JE.mk ⟨0,_,[],rfl,by omega,rfl,aC.nil _ _⟩,?_⟩
 rintro w H ⟨j,vl,Cl,hw,hj,rfl,hs⟩ gs;simp only[xbb,xc2]at hw;subst hw;refine ae.dX (b:=2) (Br.dec (λhlt=>?_) (λhlt=>?_))
 ·refine Nil.ptr (Ld.f ?_);refine Build.mk (cs:=[iv (-1),u32 j,u32 j]) zK (Build.mk (cs:=(jh.mk (-1) j j true 255).row) zK (aj.one (z:=.agg #[iv 0,.int .u32 0,.int .u32 0,.bool false,.int .u8 0]) (e:=203) (k:=5) zK zK zK zD rfl λbx=>?_));have e1:∀x y:Nat×Obj,x::y::Cl=[x,y]++(Cl++[]):=λx y=>by simp
  rw[e1];refine hs.DF (A:=[_,_]) (B:=[]) (r:=(jh.mk (-1) j j true 255).row) (by exact .head _) rfl (row_one _) (by exact⟨[iv 0,.int .u32 0,.int .u32 0,.bool false,.int .u8 0],rfl,rfl⟩) zP zP λv' C' hs'=>?_;simp only[xaF,xaU,xaT];have hone:v'.oneCell'=true:=by obtain⟨a,c,e⟩:=hs'.len;rw[e];rfl
  refine Nil.ptr (ah.mk (St.one (by exact .tail (.head _)) hone zI rfl ?_));refine ae.inc (aI.of .tail ⟨j+1,v',C',rfl,by omega,rfl,?_⟩ (by show 2-(((j+1:Nat):Int).toNat)<2-(((j:Nat):Int).toNat);omega));rw[xdD,xau];exact hs'
 obtain rfl:j=2:=by omega
 refine bc.here ⟨pa,rfl,vl,_,[⟨-1,0,0,true,255⟩,⟨-1,1,1,true,255⟩],[],Cl,[],by rw[xaT];rfl,hs,aR.nil,?_⟩;exact {
  cap:=by simp;omega
  two:=by simp
  const:=λr hr=>by
   have:r=0\/r=1:=by omega
   rcases this with rfl|rfl
   ·exact⟨_,rfl,rfl,rfl,rfl,rfl⟩
   exact⟨_,rfl,rfl,rfl,rfl,rfl⟩
  nd:=λr hr=>by rw[xaE zP];rfl
  n0:=λ_ _=>rfl
  nn:=λr p hr hp _=>by rw[xaE zP]at hp;cases hp
  EA:=by simp
  iC:=λr=>by
   simp only[xax,false_iff,not_exists,not_and];intro p hp;have hlt:=(xae.1 hp).1;simp at hlt;have:r=0\/r=1:=by omega
   rcases this with rfl|rfl<;>(simp at hp;subst hp;simp)
  used:=rfl}
structure oZ where
 pa:Nat
 pt:Nat
 vu:zV
 vh:zV
 vo:zV
 vl:zV
 vt:zV
 CA:Hp
 CT:Hp
 CU:Hp
 CH:Hp
 CO:Hp
 CL:Hp
 CR:Hp
def oZ.cells(b:oZ)(n:Nat):Array zV:=#[ptr b.pa,ptr b.pt,b.vu,b.vh,iv (n:Int),b.vo,b.vl,b.vt]
def oZ.hp(b:oZ)(kp n:Nat):Hp:=(kp,.cells (b.cells n) 124 zZ)::(b.CA++(b.CT++(b.CU++(b.CH++(b.CO++(b.CL++b.CR))))))
structure FY(b:oZ)(K:Kd)(ord af tr:zL):Prop where
 ar:eP b.pa K.cap K.used K.N b.CA
 ut:jP b.pt K.n K.T b.CT
 us:aR 21 .i32 b.vu (iw K.us) b.CU
 ho:aR 21 .i32 b.vh (iw K.ho) b.CH
 od:aR 3 .i64 b.vo (iw ord) b.CO
 lv:aR 3 .i64 b.vl (iw af) b.CL
 tr:aR 3 .i64 b.vt (iw tr) b.CR
 ul:K.us.length=K.ho.length/\K.us.length<=1048576
 E3:K.n<=64
 ol:ord.length=K.n/\af.length=K.n
def cW(kp:Nat)(K:Kd)(ord af tr:zL)(C:Hp):Prop:=∃b:oZ,C=b.hp kp K.n/\FY b K ord af tr
section
variable {kp:Nat} {K:Kd} {ord af tr:zL} {C:Hp}
theorem cW.cap(h:cW kp K ord af tr C):K.cap<=1048576:=by
 obtain⟨b,rfl,hb⟩:=h;exact(hb.ar.lt (r:=0) (.inl zD)).2
theorem cW.lt(h:cW kp K ord af tr C){r:Nat}(hr:live K.N r):r<1048576:=by
 obtain⟨b,rfl,hb⟩:=h;have:=hb.ar.lt hr;omega
theorem aT(N:dh)(r:Nat):(got N r).length=3/\∀x∈got N r,x.oneCell'=true:=by
 unfold got;split
 ·exact⟨rfl,by intro x hx;simp[u32]at hx;rcases hx with rfl|rfl|rfl<;>rfl⟩
 split
 ·exact⟨rfl,by intro x hx;simp[e9,u32]at hx;rcases hx with rfl|rfl|rfl<;>rfl⟩
 exact⟨rfl,by intro x hx;simp[u32]at hx;rcases hx with rfl|rfl|rfl<;>rfl⟩
theorem gH(h:cW kp K ord af tr C){r:Nat}(hr:r<4294967296):Rd zQ 169 #[ptr kp,u32 r] C (· =.bool (df K.N r)):=by
 obtain⟨b,rfl,hb⟩:=h;refine aU λg=>tG (Nil.ptr (Ld.f ?_));refine aa.eq (AM hb.ar hr) (Ext.two λb8 _=>(St.whole (r:=got K.N r) (by exact .head _) rfl (aT _ _).1 (aT _ _).2 ?_));refine ae.p7 (bH.mk .tail ?_);cases df K.N r<;>rfl
theorem mD(h:cW kp K ord af tr C){r:Nat}(hr:r<4294967296):Rd zQ 166 #[ptr kp,u32 r] C (· =.agg (got K.N r).toArray):=by
 obtain⟨b,rfl,hb⟩:=h;refine aU λg=>tJ λb1 _=>?_;refine Nil.ptr (Ld.f ?_);refine aa.eq (AM hb.ar hr) (Ext.two λnO _=>(St.whole (r:=got K.N r) (by exact .head _) rfl (aT _ _).1 (aT _ _).2 ?_));refine aA.whole (r:=got K.N r) (by exact .head _) (aT _ _).1 ?_;refine St.whole (r:=got K.N r) (by exact .tail (.head _)) rfl (aT _ _).1 (aT _ _).2 ?_;refine aA.whole (r:=got K.N r) (by exact .tail _ (.head _)) (aT _ _).1 ?_;exact bH.mk (.skip .tail) rfl
theorem z6(h:cW kp K ord af tr C){m:Nat}(hm:m<=1099511627776)(hu:K.used<=1048576):Rd zQ 187 #[ptr kp,iv (m:Int)] C (· =.bool (decide (K.used+m<=K.cap))):=by
 obtain⟨b,rfl,hb⟩:=h;refine aU λg=>tC (DR.self (Nil.ptr (Ld.f ?_)));refine Nil.ptr (Ld.f ?_);refine aa.eq (rH hb.ar) (⟨.refl _,?_⟩);refine ae.xB (aa.eq (sL hb.ar) (⟨.refl _,?_⟩));exact ae.E4 (bH.mk (.refl _) rfl)
def nT(K:Kd)(r:Nat):zL:=if r<2 then K.us else K.us.set r (K.use r+1)
theorem eX(r:Nat):(nT K r).length=K.us.length:=by unfold nT;split<;>simp
theorem qb{r:Nat}(h2:2<=r)(hr:r<K.us.length):(nT K r).getD r 0=K.use r+1:=by
 unfold nT;rw[xac zO];simp[List.getD,hr]
theorem yX{r s:Nat}(h:s≠r):(nT K r).getD s 0=K.use s:=by
 unfold nT Kd.use;split
 ·rfl
 simp[List.getD,xby (xbJ h)]
theorem yU(h:cW kp K ord af tr C){r:Nat}(hr:r<2\/r<K.us.length)(hb:K.use r+1<2147483648):
  Fc zQ 190 #[ptr kp,u32 r] C (λv C'=>v=.tuple #[]/\cW kp {K with us:=nT K r} ord af tr C'):=by
 obtain⟨b,rfl,hO⟩:=h;refine aU λg=>tB (ae.iU (b:=1) (Br.dec (λh1=>?_) (λh1=>?_)))
 ·have hr':r<K.us.length:=by omega
  refine Nil.ptr (Ld.f ?_);refine hO.us.ld (x:=((K.use r:Nat):Int)) (cc hr') (bu.sub (.cons (.app (.app .left)))) (ae.inc (hO.us.o8 (.cons (.app (.app .left))) (by simpa using hr') λC' ho=>?_));refine bc.here ⟨rfl,{b with CU:=C'},rfl,?_⟩;have e:nT K r=K.us.set r (K.use r+1):=by unfold nT;rw[xac zO]
  exact {hO with us:=by rw[fc]at ho;rw[e];exact ho,ul:=by simp only[e,xci];exact hO.ul}
 refine bc.here ⟨rfl,b,rfl,?_⟩;have e:nT K r=K.us:=by unfold nT;rw[xaf zO]
 rw[e];exact hO
end
section
variable {kp:Nat} {K:Kd} {ord af tr:zL} {C:Hp}
theorem fC{l:zL}{r s x:Nat}(hr:r<l.length):(l.set r x).getD s 0=if s=r then x else l.getD s 0:=by
 simp only[List.getD,xb5];by_cases e:r=s
 ·subst e;simp[hr]
 rw[xac e,xac (xbJ e)]
theorem mL(l:zL)(s:Nat):(l++[0]).getD s 0=l.getD s 0:=by
 simp only[List.getD,xc9];split
 ·rfl
 rename_i h;rw[xaE (by omega:l.length<=s)];cases hs:s-l.length<;>simp[hs]
def yY:Hp->Nat
 |_::(_,Obj.cells c _ _)::_=>(match c[2]? with|some (Value.slice _ n _)=>n|_=>0)
 |_=>0
theorem qc{b:oZ}{x:Nat×Obj}{n m:Nat}{a:Option Addr}{cp:Nat}(h:b.vu=.slice a m cp):yY (x::b.hp kp n)=m:=by simp[yY,oZ.hp,oZ.cells,h]
theorem Cb(h:cW kp K ord af tr C){d:Nd}(hd:LZ K.N d)(hv:d.v<K.n)(hT:K.T d=none)(hroom:K.used<K.cap)(hlo:d.lo<2\/d.lo<K.us.length)(hhi:d.hi<2\/d.hi<K.us.length)
 (hb:∀s,K.use s+2<2147483648):
  Fc zQ 204 #[ptr kp,nK d] C (λv C'=>∃r dr cy,v=u32 r/\K.N r=none/\2<=r/\r<K.cap/\dr.length=cy.length/\r<dr.length/\K.us.length<=dr.length/\dr.getD r 0=0/\
   (∀s,2<=s->s≠r->dr.getD s 0=K.use s+e1 (some d) s)/\(∀s,s<2->dr.getD s 0=K.use s)/\cy.getD r 0=0/\(∀s,s≠r->cy.getD s 0=K.hold s)/\
   cW kp {K with N:=up K.N r (some d),T:=uL K.T d (some r),used:=K.used+1,us:=dr,ho:=cy} ord af tr C'):=by
 have hcap:=h.cap;obtain⟨b,rfl,hO⟩:=h;have Eh:=hO.ul;refine aU λg=>tn λb1 _=>?_;refine DR.of (R:=(b1,.cells (Value.cells (nK d)) 201 zZ)::(kp,.cells (b.cells K.n) 124 zZ)::[]) (.cons (.cons .nil)) (Nil.ptr (Ld.f ?_));refine aA.q ?_;refine aa.fq (BC hO.ar hd hroom) ?_;rintro v Mf ⟨r,rfl,h2,hrc,hN,har⟩;refine⟨.cons (.cons .nil),Ext.mk rfl (Ext.mk rfl ?_)⟩;refine⟨λ_ H=>∃(b':oZ) (dr cy:zL),H=(b1,.cells (Value.cells (nK d)) 201 zZ)::b'.hp kp K.n/\FY b' {K with N:=up K.N r (some d),used:=K.used+1,us:=dr,ho:=cy} ord af tr/\
   K.us.length<=dr.length/\(∀s,dr.getD s 0=K.use s)/\∀s,cy.getD s 0=K.hold s,
  λ_ H=>r+1-yY H,JE.mk ⟨{b with CA:=Mf},K.us,K.ho,rfl,{hO with ar:=har,ul:=Eh},xal _,λ_=>rfl,λ_=>rfl⟩,?_⟩
 rintro H ⟨b',dr,cy,rfl,wW,hle,hu,hh⟩ gs;have Hu:=wW.ul;simp only at Hu;refine aM.q (Nil.ptr (Ld.f ?_));refine wW.us.cx ?_;rw[aV];refine ae.nw (Br.dec (λhge=>?_) (λhge=>?_))
 ·have hge:dr.length<=r:=hge;refine Nil.ptr (Ld.f ?_);refine aj.int (e:=21) zK zK zK λbx=>?_;refine wW.us.nP (.cons (.cons (.cons (.app (.app .left))))) (by exact .head _) zP zP λMj BZ p4=>?_;refine Nil.ptr (ah.mk (St.one (by exact .tail (.tail (.head _))) p4.one (by simp[oZ.cells]) rfl ?_));refine Nil.ptr (Ld.f ?_);refine aj.int (e:=21) zK zK zK λQB=>?_;refine wW.ho.nP (.cons (.cons (.cons (.cons (.app (.app (.app .left))))))) (by exact .head _) zP zP λMm DS jV=>?_;refine Nil.ptr (ah.mk (St.one (by exact .tail (.tail (.tail (.head _)))) jV.one (by simp[oZ.cells]) rfl ?_));have e0:∀l:zL,iw l++[0]=iw (l++[0]):=λl=>by rw[dy];rfl
  rw[e0]at p4 jV;refine aI.of (.skip (.skip (.refl _))) ⟨{b' with vu:=Mj,vh:=Mm,CU:=BZ,CH:=DS},dr++[0],cy++[0],rfl,{wW with us:=p4,ho:=jV,ul:=by simp at Hu⊢;omega},by simp;omega,λs=>by rw[mL,hu],λs=>by rw[mL,hh]⟩ ?_;obtain⟨a1,c1,e1⟩:=aC.len wW.us;obtain⟨a2,c2,e2⟩:=aC.len p4;have f1:=qc (b:=b') (x:=(b1,.cells (Value.cells (nK d)) 201 zZ)) (kp:=kp) (n:=K.n) e1;have f2:=qc (b:={b' with vu:=Mj,vh:=Mm,CU:=BZ,CH:=DS}) (x:=(b1,.cells (Value.cells (nK d)) 201 zZ)) (kp:=kp) (n:=K.n) e2;rw[f1];refine xbk (Nat.le_of_eq (xb7 (λz=>r+1-z) f2)) ?_;simp;omega
 have hge:¬dr.length<=r:=hge;have I0:r<dr.length:=by omega
 have rR:r<cy.length:=by omega
 refine DR.of (R:=(kp,.cells (b'.cells K.n) 124 zZ)::[]) (.skip (.cons .nil)) (Nil.ptr (Ld.f ?_));refine Nil.ptr (Ld.f ?_);refine wW.us.o8 (x:=0) (.cons (.cons (.app (.app .left)))) (by simpa using I0) λBZ p4=>?_;refine wW.ho.o8 (x:=0) (.cons (.cons (.app (.app (.app .left))))) (by simpa using rR) λDS jV=>?_;have e0:∀l:zL,(iw l).set r 0=iw (l.set r 0):=λl=>fc l r 0;rw[e0]at p4 jV;have lor:d.lo≠r:=dm hd.lo h2 hN;have Ov:d.hi≠r:=dm hd.hi h2 hN;refine Ld.f ?_;have u0:∀s,(dr.set r 0).getD s 0=if s=r then 0 else K.use s:=λs=>by rw[fC I0];split;rfl;exact hu s
 have h0:∀s,(cy.set r 0).getD s 0=if s=r then 0 else K.hold s:=λs=>by rw[fC rR];split;rfl;exact hh s
 have ic:cW kp {K with N:=up K.N r (some d),used:=K.used+1,us:=dr.set r 0,ho:=cy.set r 0} ord af tr (({b' with CU:=BZ,CH:=DS}:oZ).hp kp K.n):=⟨_,rfl,{wW with us:=p4,ho:=jV,ul:=by simp;omega}⟩;refine aa.fq (yU ic zP (by have:=hb d.lo;show(dr.set r 0).getD d.lo 0+1<_;rw[u0,xac lor];omega)) ?_;rintro v C1 ⟨rfl,dK⟩;refine Ld.f ?_;have u1:∀s,(nT {K with N:=up K.N r (some d),used:=K.used+1,us:=dr.set r 0,ho:=cy.set r 0} d.lo).getD s 0=(if s=r then 0 else K.use s)+(if 2<=s/\s=d.lo then 1 else 0):=λs=>by
  by_cases e:s=d.lo
  ·by_cases h2:2<=s
   ·rw[xaf (show 2<=s/\s=d.lo from⟨h2,e⟩),e,qb zO zP];show(dr.set r 0).getD d.lo 0+1=_;rw[u0]
   rw[xac (show¬(2<=s/\s=d.lo)by omega)];unfold nT;rw[xaf zO];show(dr.set r 0).getD s 0=_;rw[u0];rfl
  rw[xac (show¬(2<=s/\s=d.lo)by omega),yX e];show(dr.set r 0).getD s 0=_;rw[u0];rfl
 refine aa.fq (yU dK (by rw[eX];simp;omega) (by
  have:=hb d.hi;show(nT _ d.lo).getD d.hi 0+1<_;rw[u1,xac Ov];split<;>omega)) ?_
 rintro v C2 ⟨rfl,p6⟩;have O2:=p6;obtain⟨b3,rfl,MR⟩:=p6;refine DR.self (Nil.ptr (Ld.f ?_));refine aA.q ?_;refine aa.fq (B6 MR.ut hv hT) ?_;rintro v Me ⟨rfl,Ka⟩;have u2:∀s,(nT {K with N:=up K.N r (some d),used:=K.used+1,us:=nT {K with N:=up K.N r (some d),used:=K.used+1,us:=dr.set r 0,ho:=cy.set r 0} d.lo,ho:=cy.set r 0} d.hi).getD s 0=(if s=r then 0 else K.use s)+(if 2<=s/\s=d.lo then 1 else 0)+(if 2<=s/\s=d.hi then 1 else 0):=λs=>by
  by_cases e:s=d.hi
  ·by_cases h2:2<=s
   ·rw[xaf (show 2<=s/\s=d.hi from⟨h2,e⟩),e,qb zO (by rw[eX];simp;omega)];show(nT _ d.lo).getD d.hi 0+1=_;rw[u1]
   rw[xac (show¬(2<=s/\s=d.hi)by omega)];unfold nT;rw[xaf zO];show(nT _ d.lo).getD s 0=_;rw[u1];rfl
  rw[xac (show¬(2<=s/\s=d.hi)by omega),yX e];show(nT _ d.lo).getD s 0=_;rw[u1];rfl
 refine bc.mk .tail ⟨r,_,_,rfl,hN,h2,hrc,?_,?_,?_,?_,?_,?_,?_,?_,{b3 with CT:=Me},rfl,{MR with ut:=Ka}⟩
 ·rw[eX,eX];simp;omega
 ·rw[eX,eX];simp;omega
 ·rw[eX,eX];simp;omega
 ·rw[u2,xaf rfl,xac (show¬(2<=r/\r=d.lo)by omega),xac (show¬(2<=r/\r=d.hi)by omega)]
 ·intro s Jp hne;rw[u2,xac hne,ef];have c1:(2<=s/\s=d.lo)↔d.lo=s:=⟨λh=>h.2.symm,λh=>⟨Jp,h.symm⟩⟩;have c2:(2<=s/\s=d.hi)↔d.hi=s:=⟨λh=>h.2.symm,λh=>⟨Jp,h.symm⟩⟩;simp only[c1,c2];omega
 ·intro s hs;rw[u2,xac (show¬s=r by omega),xac (show¬(2<=s/\s=d.lo)by omega),xac (show¬(2<=s/\s=d.hi)by omega)];try simp
 ·rw[h0,xaf rfl]
 intro s hne;rw[h0,xac hne]
end
section
variable {kp:Nat} {K:Kd} {ord af tr:zL} {C:Hp} {S:Nat->ay.Fn}
structure BH(K' K:Kd):Prop where
 N:∀{s d},K'.N s=some d->K.N s=some d
 n:K'.n=K.n
 cap:K'.cap=K.cap
 ho:K'.ho=K.ho
 us:∀s,K'.use s<=K.use s
 idle:(∀s,K.N s=none->K.use s=0)->∀s,K'.N s=none->K'.use s=0
theorem BH.refl(K:Kd):BH K K:=⟨λh=>h,rfl,rfl,rfl,λ_=>xal _,λh=>h⟩
def PL(P:Nat->Nat)(N:dh):Prop:=∀t,2<=t->0<P t->∃d,N t=some d
def ej(P0:Nat->Nat)(l:zL):Nat->Nat:=λs=>P0 s+l.count s
theorem xp{P0:Nat->Nat}{l:zL}{t:Nat}:up (ej P0 (l++[t])) t (ej P0 (l++[t]) t-1)=ej P0 l:=by
 funext s
 unfold up ej;split
 ·rename_i e;subst e;simp
 rename_i e;simp[xa2,xbQ,xbJ e]
theorem r5{P0:Nat->Nat}(h:cW kp K ord af tr C){r:Nat}(hm:ig K S gf (ej P0 [r]))(hp:Pos K)(hl:PL (ej P0 [r]) K.N)(hr:r<1048576)(OL:∀s,K.use s<2147483648):
  Fc zQ 132 #[ptr kp,u32 r] C (λv C'=>v=.tuple #[]/\∃K',cW kp K' ord af tr C'/\ig K' S gf P0/\Pos K'/\PL P0 K'.N/\BH K' K):=by
 refine aU λg=>ue (aj.int (e:=82) zK zK zK λbx=>?_);refine Hf (λk vs H=>∃(w:zV) (Ct C':Hp) (todo:zL) (K':Kd),vs=[w]/\H=Ct++C'/\aR 82 .u32 w (iw todo) Ct/\cW kp K' ord af tr C'/\ig K' S gf (ej P0 todo)/\Pos K'/\PL (ej P0 todo) K'.N/\BH K' K/\(∀t∈todo,t<1048576)/\k=3*K'.used+todo.length/\k<=3*K.used+1)
  _ ⟨_,[_],C,[r],K,rfl,rfl,aR.made [(r:Int)],h,hm,hp,hl,.refl K,by simpa using hr,rfl,by simp⟩ ?_
 rintro w H hJ gs;obtain⟨k,⟨w',Ct,C',todo,K',hw,rfl,ht,hK,hM,AI,Ji,iB,hT,hk,hkb⟩,hkm⟩:=hJ.open;simp only[xbb,xc2]at hw;subst hw;refine ht.cx ?_;rw[aV];refine ae.iU (b:=0) (Br.dec (λhpos=>?_) (λhpos=>?_))
 ·have Je:=hm.cap;obtain⟨pre,t,rfl⟩:∃pre t,todo=pre++[t]:=⟨todo.dropLast,todo.getLast (by intro e;simp[e]at hpos),(xdj _).symm⟩;have NX:(pre++[t]).length=pre.length+1:=by simp
  have Kf:=hT t zI;refine ht.cx ?_;rw[aV,NX];refine ae.e7 (b:=1) ?_ zO ?_
  ·simp[bY];omega
  rw[xcO];refine ht.ld (i:=pre.length) (x:=(t:Int)) (by rw[dy];simp[iw]) (bu.sub .left) (ht.cut (i:=pre.length) zI λw' ht'=>?_);have BP:aR 82 .u32 w' (iw pre) Ct:=by
   rw[dy,List.take_left' zI]at ht';exact ht'
  have K4:∀s∈pre,s<1048576:=λs hs=>hT s (xad _ hs);refine ae.E4 (b:=1) (Br.dec (λh1=>?_) (λh1=>?_))
  ·have hc:∀s,2<=s->ej P0 (pre++[t]) s=ej P0 pre s:=λs hs=>by
    unfold ej;rw[xa2,xbQ];simp;omega
   exact gS.back (.refl _) hkm (3*K'.used+pre.length) ⟨w',Ct,C',pre,K',rfl,rfl,BP,hK,hM.congr (λ_=>xdi) hc,AI,λs hs h0=>Ji s hs (by rw[hc s hs];exact h0),iB,K4,rfl,by simp at hk;omega⟩ (by rw[hk];simp)
  have MO:0<ej P0 (pre++[t]) t:=by unfold ej;simp;omega
  obtain⟨d,hd⟩:=Ji t zO MO;have hfit:=hM.fit hd;have Qm:=AI t d hd;obtain⟨b,rfl,hO⟩:=hK;refine Nil.ptr (Ld.f ?_);refine hO.us.ld (x:=((K'.use t:Nat):Int)) (cc hfit) (bu.sub (.app (.cons (.app (.app .left))))) (ae.e7 (b:=1) ?_ zO ?_)
  ·have:=iB.us t;have:=OL t;simp[bY];omega
  refine hO.us.o8 (x:=((K'.use t-1:Nat):Int)) (.app (.cons (.app (.app .left)))) (by simpa using hfit) λBZ p4=>?_;rw[fc]at p4;have g1:∀s,(K'.us.set t (K'.use t-1)).getD s 0=if s=t then K'.use t-1 else K'.use s:=λs=>fC hfit
  have FC:=hM.less (r:=t) (dr:=K'.us.set t (K'.use t-1)) MO zI (by rw[g1,xaf rfl];omega) (λs hs=>by rw[g1,xac hs]);rw[xp]at FC;have Ib:FY {b with CU:=BZ} {K' with us:=K'.us.set t (K'.use t-1)} ord af tr:={hO with us:=p4,ul:=by simp;exact hO.ul};have Gx:BH {K' with us:=K'.us.set t (K'.use t-1)} K:=⟨iB.N,iB.n,iB.cap,iB.ho,λs=>by
   show(K'.us.set t (K'.use t-1)).getD s 0<=_;rw[g1];have:=iB.us s;split
   ·rename_i e;subst e;omega
   ·exact this,λhi s hs=>by
   show(K'.us.set t (K'.use t-1)).getD s 0=0;have hs':K'.N s=none:=hs;rw[g1,xac (λe=>by subst e;rw[hd]at hs';cases hs')];exact iB.idle hi s hs'⟩
  have Ia:PL (ej P0 pre) K'.N:=λs hs h0=>Ji s hs (by unfold ej at h0⊢;rw[xa2];omega);refine Nil.ptr (Ld.f ?_);refine p4.ld (x:=((K'.use t-1:Nat):Int)) (by rw[<-fc];simp[hfit]) (bu.sub (.app (.cons (.app (.app .left))))) ?_;refine ae.iU (b:=0) (Br.dec (λh3=>?_) (λh3=>?_))
  ·refine gS.back (.refl _) hkm (3*K'.used+pre.length) ⟨w',Ct,_,pre,_,rfl,rfl,BP,⟨_,rfl,Ib⟩,FC,λs e hs=>?_,Ia,Gx,K4,rfl,by simp at hk;omega⟩ (by rw[hk];simp);show 0<(K'.us.set t (K'.use t-1)).getD s 0;rw[g1];split
   ·exact h3
   exact AI s e hs
  have Kb:K'.use t=1:=by omega
  have ic:cW kp {K' with us:=K'.us.set t (K'.use t-1)} ord af tr (({b with CU:=BZ}:oZ).hp kp K'.n):=⟨_,rfl,Ib⟩;refine aa.eq (mD ic zO) ?_;have LJ:2<=t:=by omega
  have KF:got K'.N t=e9 d:=dJ hd LJ;show vK _ _ _;intro QG _;rw[KF];refine St.p (λx hx=>by simp[e9,u32]at hx;rcases hx with rfl|rfl|rfl<;>rfl) ?_;refine DR.self (Nil.ptr (Ld.f ?_));refine aA.q ?_;have K7:K'.T d=some t:=(hM.nt d t).2 ⟨hd,λh=>h⟩;refine aa.fq (wj Ib.ut (hM.var hd) K7) ?_;rintro v Me ⟨rfl,Ka⟩;refine Nil.ptr (Ld.f ?_);refine aa.fq (BE Ib.ar ⟨d,hd⟩ LJ) ?_;rintro v Mf ⟨rfl,har⟩;refine Ld.f ?_;refine Ld.f ?_;refine aj.Eb (e:=82) zK zK zK λbz=>?_;refine BP.EF (.cons (.cons .left)) (eV.block (l:=[(d.lo:Int),(d.hi:Int)]) (by exact .head _) zI) (by simp at hk⊢;omega) (by simp at hk⊢;omega) λw2 PZ C5=>?_;have e0:iw pre++[(d.lo:Int),(d.hi:Int)]=iw (pre++[d.lo,d.hi]):=by rw[dy];rfl
  rw[e0]at C5;have CY:({K' with us:=K'.us.set t (K'.use t-1)}:Kd).use t=0:=by show(K'.us.set t (K'.use t-1)).getD t 0=0;rw[g1,xaf rfl];omega
  have Gv:=FC.free (r:=t) (d:=d) hd (λh=>h) CY;have HR:bZ K'.N t K'.cap=0:=by have:=FC.use hd;rw[CY]at this;exact(by have h5:bZ K'.N t K'.cap+_+_=0:=this.symm;omega)
  have fH:=fW HR t (hM.two hd).2 d hd;have Lp:ej P0 pre t=0:=by have:=FC.use hd;rw[CY]at this;omega
  have hroom:0<K'.used:=by have:=hM.room;omega
  have hlt:∀x,live K'.N x->x<1048576:=λx hx=>ic.lt hx;have g9:∀s,2<=s->ej P0 pre s+e1 (some d) s=ej P0 (pre++[d.lo,d.hi]) s:=λs _=>by
   unfold ej;rw[ef,xa2,xcm,xcm,xdk];simp only[xcx];omega
  refine gS.back (.skip (.skip (.refl _))) hkm (3*(K'.used-1)+(pre++[d.lo,d.hi]).length) ⟨w2,PZ,_,pre++[d.lo,d.hi],{K' with us:=K'.us.set t (K'.use t-1),N:=up K'.N t none,T:=uL K'.T d none,used:=K'.used-1},rfl,rfl,C5,
   ⟨{b with CU:=BZ,CT:=Me,CA:=Mf},rfl,{Ib with ar:=har,ut:=Ka}⟩,Gv.congr (λ_=>xdi) g9,λs e hs=>?_,λs hs h0=>?_,⟨λ{s e} hs=>?_,Gx.n,Gx.cap,Gx.ho,Gx.us,λhi s hs=>?_⟩,λs hs=>?_,rfl,by simp at hk⊢;omega⟩ (by simp at hk⊢;omega)
  ·have hne:s≠t:=λe2=>by subst e2;have kj:up K'.N s none s=some e:=hs;rw[aH]at kj;cases kj
   show 0<(K'.us.set t (K'.use t-1)).getD s 0;rw[g1,xac hne];have kj:up K'.N t none s=some e:=hs;rw[aO hne]at kj;exact AI s e kj
  ·have hne:s≠t:=λe2=>by
    subst e2;rw[<-g9 s hs,Lp]at h0;rw[ef,xac fH.1,xac fH.2]at h0;omega
   show∃e,up K'.N t none s=some e;rw[aO hne];rw[<-g9 s hs]at h0;by_cases h5:0<ej P0 pre s
   ·exact Ia s hs h5
   rw[ef]at h0;have:d.lo=s\/d.hi=s:=by
    by_cases h6:d.lo=s
    ·exact .inl h6
    by_cases h7:d.hi=s
    ·exact .inr h7
    rw[xac h6,xac h7]at h0;omega
   rcases this with rfl|rfl
   ·rcases hM.lo hd with h8|h8
    ·omega
    exact h8
   rcases hM.hi hd with h8|h8
   ·omega
   exact h8
  ·have kj:up K'.N t none s=some e:=hs;by_cases e2:s=t
   ·subst e2;rw[aH]at kj;cases kj
   rw[aO e2]at kj;exact iB.N kj
  ·have kj:up K'.N t none s=none:=hs;show(K'.us.set t (K'.use t-1)).getD s 0=0;by_cases e2:s=t
   ·subst e2;rw[g1,xaf rfl];omega
   rw[aO e2]at kj;exact Gx.idle hi s kj
  rcases xav.1 hs with hs|hs
  ·exact K4 s hs
  simp at hs;rcases hs with rfl|rfl
  ·exact hlt _ (hM.lo hd)
  exact hlt _ (hM.hi hd)
 obtain rfl:todo=[]:=xbU zO;exact bc.mk .right ⟨rfl,K',hK,hM.congr (λ_=>xdi) (λs _=>by simp[ej]),AI,λs hs h0=>Ji s hs (by simpa[ej]using h0),iB⟩
end
abbrev lv(af:zL):Nat->Nat:=λv=>af.getD v 0
section
variable {kp:Nat} {K:Kd} {ord af tr:zL} {C:Hp} {S:Nat->ay.Fn}
theorem CJ(h:cW kp K ord af tr C)(v:Int):Rd zQ 171 #[ptr kp,iv v] C (· =.bool (decide (0<=v/\v<K.n))):=by
 obtain⟨b,rfl,hO⟩:=h;refine aU λg=>tF (ae.geq (bO.and (decide (v<K.n)) (λ_=>?_) rfl λ_=>bH.mk (.refl _) (by rw[xdE])));refine Nil.ptr (Ld.f ?_);exact ae.lss ⟨rfl,rfl⟩
theorem ot(h:cW kp K ord af tr C){r:Nat}(hl:live K.N r)(hv:∀d,K.N r=some d->d.v<K.n)(Gz:r<2->K.N r=none):Rd zQ 253 #[ptr kp,u32 r] C (· =iv ((dep K.n (lv af) K.N r:Nat):Int)):=by
 have h0:=h;have hr:=h.lt hl;obtain⟨b,rfl,hO⟩:=h;refine aU λg=>sY (Nil.ptr (ah.mk (aa.eq (mD h0 zO) ?_)));intro b5 _;refine St.whole (r:=got K.N r) (by exact .head _) rfl (aT _ _).1 (aT _ _).2 ?_;by_cases h2:r<2
 ·rw[eu h2,bC (Gz h2)];refine Ld.f ?_;refine ae.geq (Br.JU zD (Nil.ptr (Ld.f ?_)));exact bH.mk .tail rfl
 obtain⟨d,hd⟩:∃d,K.N r=some d:=by rcases hl with hl|hl;omega;exact hl
 rw[dJ hd zO,aq hd];have De:=hv d hd;have hlen:=hO.ol.2;refine Ld.f ?_;refine ae.geq (Br.EJ zI (Nil.ptr (Ld.f ?_)));refine Ld.f ?_;exact hO.lv.ld (x:=((af.getD d.v 0:Nat):Int)) (cc zO) (bu.sub (.cons (.cons (.app (.app (.app (.app (.app .left)))))))) (bH.mk .tail rfl)
def iD(K:Kd)(af:zL)(v:Int)(lo hi:Nat):Int:=
 if¬(0<=v/\v<K.n)then 2 else if df K.N lo=false\/df K.N hi=false then 3 else if lo≠hi/\min (dep K.n (lv af) K.N lo) (dep K.n (lv af) K.N hi)<=af.getD v.toNat 0 then 4 else 0
theorem vy(h:cW kp K ord af tr C)(v:Int){lo hi:Nat}(hlo:lo<4294967296)(hhi:hi<4294967296)(hv:∀r d,K.N r=some d->d.v<K.n/\2<=r):
  Rd zQ 202 #[ptr kp,iv v,u32 lo,u32 hi] C (· =iv (iD K af v lo hi)):=by
 have h0:=h;have Gz:∀r,r<2->K.N r=none:=λr hr=>by
  cases e:K.N r with
  |none=>rfl
  |some d=>have:=(hv r d e).2;omega
 obtain⟨b,rfl,hO⟩:=h;refine aU λg=>tt (aa.eq (CJ h0 v) (Un.not ?_));by_cases Ak:0<=v/\v<K.n;rotate_left
 ·rw[xaA Ak];exact Br.yes (bH.mk (.refl _) (by unfold iD;rw[xaf Ak]))
 rw[xaN Ak];apply Br.no;obtain⟨n,rfl⟩:∃n:Nat,v=n:=⟨v.toNat,by omega⟩;have Og:n<K.n:=by omega
 intro J hJ;refine Nil.ptr (ah.mk (aa.eq (gH h0 hlo) (Un.not ?_)));by_cases l8:df K.N lo=true;rotate_left
 ·have HH:df K.N lo=false:=by simpa using l8
  rw[HH];exact Split.G6 rfl (az.mk (JE.mk (hJ _ _ λgs=>Br.yes (bH.mk (.refl _) (by unfold iD;rw[xac (by simpa using Ak),xaf (.inl HH)])))))
 rw[l8];refine Split.go rfl (Nil.ptr (ah.mk (aa.eq (gH h0 hhi) (Un.not ?_))));by_cases I8:df K.N hi=true;rotate_left
 ·have HM:df K.N hi=false:=by simpa using I8
  rw[HM];exact az.mk (JE.mk (hJ _ _ λgs=>Br.yes (bH.mk (.refl _) (by unfold iD;rw[xac (by simpa using Ak),xaf (.inr HM)]))))
 rw[I8];refine az.mk (JE.mk (hJ _ _ λgs=>Br.no ?_));intro J2 FE;have hE:iD K af n lo hi=if lo≠hi/\min (dep K.n (lv af) K.N lo) (dep K.n (lv af) K.N hi)<=af.getD n 0 then 4 else 0:=by
  unfold iD;rw[xac (by simpa using Ak),xac (by rw[l8,I8];simp)];rfl
 refine DR.self (ae.pn ?_);by_cases hne:lo≠hi;rotate_left
 ·rw[xaA hne];exact Br.no (JE.mk (FE _ _ λgs=>Br.no (bH.mk (.refl _) (by rw[hE,xac (λh=>hne h.1)]))))
 rw[xaN hne];refine Br.yes (Nil.ptr (Ld.f ?_));have hlen:=hO.ol.2;refine hO.lv.ld (x:=((af.getD n 0:Nat):Int)) (cc zO) (bu.sub (.cons (.app (.app (.app (.app (.app .left))))))) λF=>?_;refine aa.eq (ot h0 (bD.1 l8) (λd hd=>(hv _ _ hd).1) (Gz _)) (⟨.refl _,?_⟩);intro F2;refine aa.eq (ot h0 (bD.1 I8) (λd hd=>(hv _ _ hd).1) (Gz _)) (⟨.refl _,?_⟩);refine⟨_,_,_,rfl,rfl,?_⟩;have hmin:(if((dep K.n (lv af) K.N hi:Nat):Int)<((dep K.n (lv af) K.N lo:Nat):Int)then((dep K.n (lv af) K.N hi:Nat):Int)else((dep K.n (lv af) K.N lo:Nat):Int))=((min (dep K.n (lv af) K.N lo) (dep K.n (lv af) K.N hi):Nat):Int):=by
  split<;>omega
 rw[hmin];refine ae.nw (az.mk ?_);by_cases hm:min (dep K.n (lv af) K.N lo) (dep K.n (lv af) K.N hi)<=af.getD n 0
 ·rw[xaN hm];exact JE.mk (FE _ _ λgs=>Br.yes (bH.mk (.refl _) (by rw[hE,xaf ⟨hne,hm⟩])))
 rw[xaA hm];exact JE.mk (FE _ _ λgs=>Br.no (bH.mk (.refl _) (by rw[hE,xac (λh=>hm h.2)])))
theorem uQ(h:cW kp K ord af tr C){v lo hi:Nat}(hv:v<K.n):
  Rd zQ 203 #[ptr kp,iv (v:Int),u32 lo,u32 hi] C (· =if lo=hi then .tuple #[u32 lo,.bool true]else .tuple #[u32 ((K.T ⟨v,lo,hi⟩).getD 0),.bool (K.T ⟨v,lo,hi⟩).isSome]):=by
 obtain⟨b,rfl,hO⟩:=h;refine aU λg=>tq (ae.bI (Br.dec (λhe=>bH.mk (.refl _) (by rw[xaf he])) (λhe=>?_)));refine Nil.ptr (ah.mk (Ld.f ?_));exact Build.mk (cs:=e9 ⟨v,lo,hi⟩) zK (aa.eq (Dt (d:=⟨v,lo,hi⟩) hO.ut hv) (Ext.mk rfl (Ext.mk rfl (bH.mk (.refl _) (by rw[xac he];rfl)))))
theorem qN(h:cW kp K ord af tr C){r:Nat}(hr:r<4294967296)(hb:∀s,K.hold s<2147483648):Rd zQ 131 #[ptr kp,u32 r] C (· =iv ((K.hold r:Nat):Int)):=by
 obtain⟨b,rfl,hO⟩:=h;refine aU λg=>uf (ae.bh (bO.or (decide (K.ho.length<=r)) (λ_=>?_) zI λ_=>?_))
 ·refine aM.q (Nil.ptr (ah.mk (Ld.f ?_)));refine hO.ho.cx ?_;rw[aV];exact ae.nw ⟨rfl,rfl⟩
 rw[xdr];refine Br.dec (λhge=>?_) (λhlt=>?_)
 ·refine bH.mk (.refl _) ?_;unfold Kd.hold;rw[List.getD,xaE hge];rfl
 refine Nil.ptr (ah.mk (Ld.f ?_));exact hO.ho.ld (x:=((K.hold r:Nat):Int)) (cc zO) (bu.sub (.cons (.app (.app (.app .left))))) (aM.nat (by have:=hb r;simp[bY];omega) (bH.mk (.refl _) rfl))
theorem CQ(h:cW kp K ord af tr C)(h2:2<=K.used)(hu:K.used<=1048576):Rd zQ 111 #[ptr kp] C (· =iv ((K.used-2:Nat):Int)):=by
 obtain⟨b,rfl,hO⟩:=h;refine aU λg=>uC (ae.bh (Br.no (Nil.ptr (ah.mk (Ld.f ?_)))));exact aa.eq (rH hO.ar) (ae.e7 (b:=2) (by simp[bY];omega) h2 (bH.mk (.refl _) rfl))
theorem jx(h:cW kp K ord af tr C):Rd zQ 75 #[ptr kp] C (· =iv ((K.n:Nat):Int)):=by
 obtain⟨b,rfl,hO⟩:=h;refine aU λg=>xU (ae.bh (Br.no (Nil.ptr (Ld.f ?_))));exact bH.mk (.refl _) rfl
theorem jz(h:cW kp K ord af tr C){r:Nat}(hr:r<4294967296):Rd zQ 133 #[ptr kp,u32 r] C (· =.tuple #[.agg (got K.N r).toArray,iv (if df K.N r then 0 else 3)]):=by
 have h0:=h;obtain⟨b,rfl,hO⟩:=h;refine aU λg=>ud λb1 _=>?_;refine ae.bh (Br.no (Nil.ptr (ah.mk (aa.eq (gH h0 hr) (Un.not ?_)))));cases hb:df K.N r with
 |false=>
  refine Br.yes (Build.mk (cs:=[iv 0,.int .u32 0,.int .u32 0]) zK (St.q ?_));refine aA.q ?_;exact bH.mk .tail (by rw[qY hb];rfl)
 |true=>
  refine Br.no (Nil.ptr (ah.mk (aa.eq (mD h0 hr) (St.whole (r:=got K.N r) (by exact .head _) rfl (aT _ _).1 (aT _ _).2 ?_))));refine aA.whole (r:=got K.N r) (by exact .head _) (aT _ _).1 ?_;exact bH.mk .tail rfl
end
theorem rC{B:Hp}{v:zV}{l:List Int}(h:eV .i64 B v l)(hl:l.length<=1099511627776):Fc zQ 49 #[v] B (λr H=>∃C,H=C++B/\aR 3 .i64 r l C):=by
 refine aU λg=>ye ?_;obtain⟨a,c,rfl,hc⟩:=h.shape;refine⟨.bool a.isNone,by simp[eL],?_⟩;refine Br.mk (λha=>?_) (λha=>?_)
 ·have:l=[]:=by
   rcases h.2 with⟨_,_,h1,h2⟩|⟨b,o,cap,cs,T,fz,h1,_⟩
   ·simpa using h2
   simp at h1;rw[h1.1]at ha;simp at ha
  subst this;exact bc.here ⟨[],rfl,aR.nil⟩
 refine aj.none (z:=iv 0) (e:=3) (k:=1) zK zK zK λb=>?_;refine(aR.made (T:=3) (kd:=.i64) (b:=b) []).EF (l2:=l) .left ((show eV .i64 B _ l from h).mono λ_ h=>.tail _ h) zP zP λv' C' ho=>?_;exact bc.here ⟨C',rfl,by simpa using ho⟩
theorem wG{kp:Nat}{K:Kd}{ord af tr:zL}{C:Hp}(h:cW kp K ord af tr C):Fc zQ 112 #[ptr kp] C (λr H=>∃N,H=N++C/\aR 3 .i64 r (iw ord) N):=by
 obtain⟨b,rfl,hO⟩:=h;refine aU λg=>uB (ae.bh (Br.no (Nil.ptr (Ld.f ?_))));refine aa.fq (rC (hO.od.ints.mono (bu.sub (.cons (.app (.app (.app (.app .left))))))) (by have:=hO.ol.1;have:=hO.E3;simp;omega)) ?_;rintro v C' ⟨N,rfl,ho⟩;exact bc.here ⟨N,rfl,ho⟩
end
section
def lg(x r:Nat):Prop:=x<2^r/\(r=0\/2^(r-1)<=x)
theorem lg.gt{x r n:Nat}(h:lg x r):n<r↔2^n<=x:=by
 constructor
 ·intro hn;rcases h.2 with h2|h2
  ·omega
  exact xbF (xaL zD zO) h2
 intro hn;have:=xbk hn h.1;exact(Nat.pow_lt_pow_iff_right zD).1 this
theorem lg.up{x s t:Nat}(h:lg (x>>>s) t)(h0:s=0\/x>>>s≠0):lg x (s+t):=by
 rw[xaY]at h h0;have hp:=xcj s;refine⟨?_,?_⟩
 ·have:=h.1;rw[Nat.div_lt_iff_lt_mul hp]at this;rw[xdG,xbj];exact this
 rcases h.2 with h2|h2
 ·subst h2;have:=h.1;rcases h0 with h0|h0
  ·exact .inl zO
  rw[Nat.pow_zero]at this;exact absurd (Nat.lt_one_iff.1 this) h0
 by_cases ht:t=0
 ·subst ht;rcases h0 with h0|h0
  ·exact .inl zO
  have:=h.1;rw[Nat.pow_zero]at this;exact absurd (Nat.lt_one_iff.1 this) h0
 right;have:=(Nat.le_div_iff_mul_le hp).1 h2;rw[show s+t-1=(t-1)+s by omega,xdG];exact this
theorem CD:∀y:Fin 256,∃b:UInt8, zX[y.1]? =some b/\(y.1<2^b.toNat/\(b.toNat=0\/2^(b.toNat-1)<=y.1)):=by
 have h:∀y:Fin 256,(match zX[y.1]? with|some b=>decide (y.1<2^b.toNat/\(b.toNat=0\/2^(b.toNat-1)<=y.1))|none=>false)=true:=by decide+kernel
 intro y;have:=h y;split at this
 ·rename_i b hb;exact⟨b,hb,by simpa using this⟩
 cases this
theorem qK{x:Nat}(hx:x<18446744073709551616)(B:Hp):Rd zQ 252 #[.int .u64 (x:Int)] B (λv=>∃r:Nat,lg x r/\v=iv (r:Int)):=by
 refine aU λg=>s4 λJ1 O5=>?_;have h1:∀s,s<=32->x>>>s<4294967296->(s=0\/x>>>s≠0)->J1 [.int .u64 ((x>>>s:Nat):Int),iv (s:Int)] B:=by
  intro s hs hlt h0;refine O5 _ _ _ λgs=>?_;intro J2 FE;have h2:∀s,s<=48->x>>>s<65536->(s=0\/x>>>s≠0)->J2 [.int .u64 ((x>>>s:Nat):Int),iv (s:Int)] B:=by
   intro s hs hlt h0;refine FE _ _ _ λgs=>?_;intro J3 O4;have h3:∀s,s<=56->x>>>s<256->(s=0\/x>>>s≠0)->J3 [.int .u64 ((x>>>s:Nat):Int),iv (s:Int)] B:=by
    intro s hs hlt h0;refine O4 _ _ _ λgs=>?_;refine aM.nat (show x>>>s<256 from hlt) ?_;obtain⟨b,hb,hl⟩:=CD ⟨x>>>s,hlt⟩;refine⟨_,_,_,b,rfl,rfl,xbs _,by rw[xb3];exact hb,?_⟩;have yP:b.toNat<256:=b.toNat_lt;exact aM.q (ae.xB (bH.mk (.refl _) ⟨s+b.toNat,lg.up (t:=b.toNat) hl h0,rfl⟩))
   refine ae.nw (b:=256) (Br.dec (λhge=>?_) (λhge=>JE.mk (h3 s zO zO h0)));refine ae.ny (b:=8) (by simp only[bY];omega) (ae.xB (b:=8) ?_);rw[<-xcP];have e:x>>>(s+8)=x>>>s/256:=by rw[xcP,xaY (x>>>s) 8]
   exact JE.mk (h3 (s+8) zO zO (.inr zO))
  refine ae.nw (b:=65536) (Br.dec (λhge=>?_) (λhge=>JE.mk (h2 s zO zO h0)));refine ae.ny (b:=16) (by simp only[bY];omega) (ae.xB (b:=16) ?_);rw[<-xcP];have e:x>>>(s+16)=x>>>s/65536:=by rw[xcP,xaY (x>>>s) 16]
  exact JE.mk (h2 (s+16) zO zO (.inr zO))
 refine ae.nw (b:=4294967296) (Br.dec (λhge=>?_) (λhge=>JE.mk (h1 0 zO zP (.inl rfl))));refine ae.ny (b:=32) (by simp only[bY];exact hx) ?_;have e:x>>>32=x/4294967296:=by rw[xaY]
 exact JE.mk (h1 32 zO zO (.inr zO))
end
end Go.Proofs
namespace Go.Sx
open Go
section
variable {P:Program} {g:Gh} {F:Fence} {n:Nat} {ops:Array Oper} {Q:Exit->Act->World->Prop} {rest:List Oper} {o:Oper} {a:Act} {fr:Fr} {w:World} {H:Hp}
abbrev yT(ds:List Deferred)(n:Nat)(a:Act)(fr:Fr):Prop:=aZ ds n a fr
variable {ds:List Deferred}
theorem yT.put(h:yT ds n a fr){d:Option Nat}(hd:cq n d=true)(v:zV):yT ds n (a.put d v) (bX fr d v):=aZ.put h hd v
theorem nX{v0:zV}(hF:∀f,F.fn f)(hg:o.guard=none)(iT:∀c,o.op≠.defer c)(hd:cq n o.dst=true)(ha:yT ds n a fr)(hw:Own g H w)(h:wm P g o (ev fr) H (· =v0))
 (k:∀a',yT ds n a' (bX fr o.dst v0)->wpListIn F 0 P ops Q rest a' w):wpListIn F 0 P ops Q (o::rest) a w:=by
 refine wpListIn_plain hg λK hK=>⟨λf _=>hF f,?_⟩;rw[Oper.semAt_eq _ _ _ iT,ha.eval];obtain⟨v,hv,hr,_⟩:=o9 h;rw[hr w hw];subst hv;exact hK _ _ (k _ (ha.put hd _))
theorem y7{s:Sem zV}{K:zV->Hp->Prop}(hF:∀f,F.fn f)(hg:o.guard=none)(iT:∀c,o.op≠.defer c)(hd:cq n o.dst=true)(ha:yT ds n a fr)(he:execOp (ev fr) o=(do pure (.value (<-s))))
 (h:∃v w' H',s.run P w=.ok v w'/\Own g H' w'/\K v H')
 (k:∀v H' w' a',K v H'->Own g H' w'->yT ds n a' (bX fr o.dst v)->wpListIn F 0 P ops Q rest a' w'):wpListIn F 0 P ops Q (o::rest) a w:=by
 refine wpListIn_plain hg λK hK=>⟨λf _=>hF f,?_⟩;rw[Oper.semAt_eq _ _ _ iT,ha.eval,he];obtain⟨v,w',H',hr,ho,hk⟩:=h;simp only[Sem.run_bind,hr,Result.andThen_ok,Sem.run_pure];exact hK _ _ (k v H' w' _ hk ho (ha.put hd _))
theorem GU{s:Sem zV}{K:zV->Hp->Prop}(hF:∀f,F.fn f)(hg:o.guard=none)(iT:∀c,o.op≠.defer c)(hd:cq n o.dst=true)(ha:yT ds n a fr)(hw:Own g H w)(he:execOp (ev fr) o=(do pure (.value (<-s))))
 (h:Ga P g o (ev fr) H K (λ_ _=>False))
 (k:∀v H' w' a',K v H'->Own g H' w'->yT ds n a' (bX fr o.dst v)->wpListIn F 0 P ops Q rest a' w'):wpListIn F 0 P ops Q (o::rest) a w:=by
 have h1:=pe (jJ fr) h w hw;rw[he]at h1;refine y7 (g:=g) (K:=K) hF hg iT hd ha he ?_ k;cases hs:s.run P w with
 |ok v w'=>
  simp only[Sem.run_bind,hs,Result.andThen_ok,Sem.run_pure,nq]at h1;obtain⟨H',ho,hk⟩:=h1;exact⟨v,w',H',rfl,ho,hk⟩
 |halt x w'=>
  simp only[Sem.run_bind,hs,Result.andThen]at h1;cases x<;>simp only[nq]at h1;obtain⟨_,_,hk⟩:=h1;exact hk.elim
theorem m0{m:Nat}{args:List zV}(hl:args.length<=m):yT [] m {tmps:=args.toArray++Array.replicate (m-args.toArray.size) undef,defers:=[]} (c5 args 0):=by
 refine⟨rfl,by simp;omega,λs=>?_⟩;rw[fT,xai,xc4];simp only[xb1,xbX,xaD,xcN];by_cases hs:s<args.length
 ·simp[hs,List.getD]
 rw[xac hs,xb8];have:args.getD s undef=undef:=by simp[List.getD,xaE (xca hs)]
 rw[this];split<;>rfl
theorem Own.putObj{g:Gh}{H H':Hp}{w:World}{b:Nat}{o o':Obj}(h:Own g H w)(u:bW b o o' H H'):Own g H' (w.putObj b o'):=by
 have hb:=h.lt u.mem;exact h.bX u rfl rfl rfl (World.putObj_heap_same hb) λc hc=>World.putObj_heap_other hc
def EG{α:Type}(P:Program)(f:FuncId)(cap:Array zV)(B:Hp)(enc:α->zV)(N:Nat)(S:List α->Prop):Prop:=
 ∀(g:Gh) (l:Nat) (G:List α->Hp->Prop),
  (∀ss x A X W,G ss A->ss.length<N->Own g (A++X) W->YieldAt Fence.wide 0 P l #[enc x] W (λe W'=>e=.returned (.bool true)/\∃A',G (ss++[x]) A'/\Own g (A'++X) W'))->
  ∀A W,G [] A->Own g (A++B) W->CallsIn Fence.wide 0 P f (#[.func (.yield l) #[] #[]]++cap) W (λe W'=>(∃v,e=.returned v)/\∃ss A',S ss/\G ss A'/\Own g (A'++B) W')
open Classical in
noncomputable def jw(p:Nat->Prop):Nat:=if h:∃k,p k then Classical.choose (fx h)else 0
theorem sg{p:Nat->Prop}{k:Nat}(h:p k):jw p<=k:=by
 unfold jw;rw[dif_pos ⟨k,h⟩];exact(xbZ (fx ⟨k,h⟩)).2 k h
theorem px{p:Nat->Prop}(h:∃k,p k):p (jw p):=by
 unfold jw;rw[dif_pos h];exact(xbZ (fx h)).1
theorem rV{c:Code}(J:Nat->Act->World->Prop){k:Nat}(h0:J k a w)
 (round:∀k a w,J k a w->c.wpIn F 0 P (Exit.then (λa' w'=>∃k',k'<k/\J k' a' w') Q) a w):(Code.loop c).wpIn F 0 P Q a w:=by
 refine wpIn_loop (λa w=>∃k,J k a w) (λa w=>jw λk=>J k a w) ⟨k,h0⟩ λa w h=>?_;refine Code.wpIn_mono (λe a' w' hq=>?_) (round _ a w (px h));cases e with
 |normal=>
  obtain⟨k',hlt,hj⟩:=hq;exact⟨⟨k',hj⟩,xbk (sg hj) hlt⟩
 |_=>exact hq
end
end Go.Sx
set_option maxRecDepth 100000
namespace Go.Proofs
open Go Go.Sx Tryz
section
open ay
def Idle(K:Kd):Prop:=∀s,K.N s=none->K.use s=0
theorem yW{K:Kd}{S:Nat->ay.Fn}{E:Nat->Prop}{P:Nat->Nat}(hm:ig K S E P)(hi:Idle K){M:Nat}(hP:∀s,P s<=M)(s:Nat):K.use s<=2097153+M:=by
 cases h:K.N s with
 |none=>rw[hi s h];omega
 |some d=>
  rw[hm.use h];have:=q9 (N:=K.N) (r:=s) K.cap;have:=hm.cap.2;have:=hP s;split<;>omega
end
section
open ay
section
variable {kp:Nat} {K:Kd} {ord af tr:zL} {C:Hp} {S:Nat->ay.Fn}
structure Kept(K:Kd)(S:Nat->ay.Fn)(K':Kd)(S':Nat->ay.Fn):Prop where
 n:K'.n=K.n
 cap:K'.cap=K.cap
 hold:∀r,K'.hold r=K.hold r
 held:∀g,K'.held S' g↔K.held S g
 fn:∀r,K.hold r≠0->S' r=S r
end
structure cj(kp:Nat)(K:Kd)(S:Nat->ay.Fn)(ord af tr:zL)(C:Hp):Prop where
 rep:cW kp K ord af tr C
 ok:Ok K S (lv af)
 od:Ord K.n (lv af) ord
 idle:Idle K
 tr:IB K.n K.cap (K.held S) ord tr.reverse
theorem Kept.refl(K:Kd)(S:Nat->ay.Fn):Kept K S K S:=⟨rfl,rfl,λ_=>rfl,λ_=>xdi,λ_ _=>rfl⟩
section
variable {kp:Nat} {K:Kd} {ord af tr:zL} {C:Hp} {S:Nat->ay.Fn}
theorem A6(h:cj kp K S ord af tr C){l:Int}(hl:¬(0<=l/\l+1<K.n)):Rd zQ 115 #[ptr kp,iv l] C (· =iv 1):=by
 obtain⟨b,rfl,hO⟩:=h.rep;have hn:=hO.E3;refine aU λg=>uA (ae.bh (Br.no (ae.lss (bO.or (decide ((K.n:Int) -2<l)) (λ_=>?_) zI λgs=>?_))))
 ·refine Ld.n ?_;exact ae.GS (c:=(K.n:Int) -2) rfl zO (ae.gtr ⟨rfl,rfl⟩)
 rw[<-xaR];exact Br.T (bH.mk (.refl _) rfl)
theorem cj.cD(h:cj kp K S ord af tr C){r:Nat}(hl:live K.N r):r<1048576:=h.rep.lt hl
theorem cj.l7(h:cj kp K S ord af tr C)(r:Nat):K.hold r<=65535:=h.ok.mid.mx r
theorem cj.yV(h:cj kp K S ord af tr C)(r:Nat):K.use r<=2097153:=by have:=yW h.ok.mid h.idle (M:=0) (λ_=>xal _) r;omega
structure FW(K K':Kd)(r:Nat):Prop where
 n:K'.n=K.n
 cap:K'.cap=K.cap
 used:K'.used=K.used
 N:K'.N=K.N
 hold:∀s,K'.hold s=if s=r/\2<=r then K.hold s+1 else K.hold s
theorem wI(h:cj kp K S ord af tr C){r:Nat}(hl:live K.N r)(h2:2<=r)(hf:K.hold r=65535):Rd zQ 157 #[ptr kp,u32 r] C (· =iv 8):=by
 have hr:=h.cD hl;obtain⟨b,hC,hO⟩:=h.rep;have hfit:r<K.ho.length:=by
  rcases hl with hl|⟨d,hd⟩
  ·omega
  rw[<-hO.ul.1];exact h.ok.mid.fit hd
 refine aU λg=>ng (ae.bh (Br.no (Nil.ptr (ah.mk (aa.eq (gH h.rep zO) ?_)))));rw[bD.2 hl];refine Un.not (Br.no λJ7 _=>(ae.iU (b:=1) (Br.T (Nil.ptr (ah.mk (Ld.u (by rw[hC];exact .head _) ?_))))));refine hO.ho.ld (x:=((K.hold r:Nat):Int)) (cc hfit) (by rw[hC];exact bu.sub (.cons (.app (.app (.app .left))))) ?_;rw[hf];exact ae.p7 (Br.T (bH.mk (.refl _) rfl))
theorem qP(h:cW kp K ord af tr C)(Gw:ig K S gf zero')(Dd:Idle K){r:Nat}(hl:live K.N r)(hf:2<=r->K.hold r<65535):Fc zQ 157 #[ptr kp,u32 r] C (λv C'=>v=iv 0/\∃K',cW kp K' ord af [] C'/\
  ig K' S gf zero'/\Idle K'/\FW K K' r/\(∀s,K.use s<=K'.use s)/\(2<=r->0<K'.use r)):=by
 have hr:=h.lt hl;have h0:=h;obtain⟨b,hC,hO⟩:=h;refine aU λg=>ng (ae.bh (Br.no (Nil.ptr (ah.mk (aa.eq (gH h0 zO) ?_)))));rw[bD.2 hl];refine Un.not (Br.no λJ7 O3=>?_);have fin:∀(K':Kd) C1,cW kp K' ord af tr C1->ig K' S gf zero'->Idle K'->FW K K' r->(∀s,K.use s<=K'.use s)->(2<=r->0<K'.use r)->J7 [] C1:=λK' C1 jX Fh Av hm hu hp=>by
  refine O3 _ λgs=>?_;obtain⟨b',rfl,wW⟩:=jX;refine Nil.ptr (ah.mk (St.one (by exact .head _) rfl (by simp[oZ.cells]) rfl ?_));refine bc.mk (dP:=({b' with vt:=.slice none 0 0,CR:=[]}:oZ).hp kp K'.n) ?_ ⟨rfl,K',⟨{b' with vt:=.slice none 0 0,CR:=[]},rfl,{wW with tr:=aR.nil}⟩,Fh,Av,hm,hu,hp⟩;refine .cons (.cL (.cL (.cL (.cL (.cL (.cL .nil _) _) _) _) _) _)
 refine ae.iU (b:=1) (Br.dec (λh2=>?_) (λh2=>?_));rotate_left
 ·refine JE.mk (fin K C h0 Gw Dd ⟨rfl,rfl,rfl,rfl,λs=>?_⟩ (λ_=>xal _) (λh=>by omega));rw[xac zO]
 have nv:2<=r:=by omega
 have yO:=hf nv;obtain⟨d,hd⟩:∃d,K.N r=some d:=by
  rcases hl with hl|hl
  ·omega
  exact hl
 have Jb:=Gw.fit hd;have Eh:=hO.ul;have hfit:r<K.ho.length:=by omega
 subst hC;refine Nil.ptr (ah.mk (Ld.f ?_));refine hO.ho.ld (x:=((K.hold r:Nat):Int)) (cc hfit) (bu.sub (.cons (.app (.app (.app .left))))) (ae.p7 (Br.F (Nil.ptr (ah.mk (Ld.f ?_)))));refine hO.ho.ld (x:=((K.hold r:Nat):Int)) (cc hfit) (bu.sub (.cons (.app (.app (.app .left))))) (ae.inc (hO.ho.o8 (x:=((K.hold r+1:Nat):Int)) (.cons (.app (.app (.app .left)))) (by rw[aV];exact hfit) λDS jV=>?_));rw[fc]at jV;have g1:∀s,(K.ho.set r (K.hold r+1)).getD s 0=if s=r then K.hold r+1 else K.hold s:=λs=>fC hfit
 refine Nil.ptr (ah.mk (Ld.f ?_));refine jV.ld (x:=((K.hold r+1:Nat):Int)) (by rw[cc (by simpa using hfit),g1,xaf rfl]) (bu.sub (.cons (.app (.app (.app .left))))) ?_;refine ae.bI (b:=1) (Br.dec (λh3=>?_) (λh3=>?_))
 ·refine Nil.ptr (ah.mk (Ld.f ?_));refine hO.us.ld (x:=((K.use r:Nat):Int)) (cc Jb) (bu.sub (.cons (.app (.app .left)))) ?_;have Qh:=yW Gw Dd (M:=0) (λ_=>xal _) r;refine ae.inc (hO.us.o8 (x:=((K.use r+1:Nat):Int)) (.cons (.app (.app .left))) (by rw[aV];exact Jb) λBZ p4=>?_);rw[fc]at p4;have g2:∀s,(K.us.set r (K.use r+1)).getD s 0=if s=r then K.use r+1 else K.use s:=λs=>fC Jb
  have hM:=Gw.keep (r:=r) (dr:=K.us.set r (K.use r+1)) (cy:=K.ho.set r (K.hold r+1)) ⟨d,hd⟩ yO zI (by rw[g1,xaf rfl]) (λs hs=>by rw[g1,xac hs]) (by rw[g2,xaf rfl,xaf zO]) (λs hs=>by rw[g2,xac hs]);refine JE.mk (fin {K with us:=K.us.set r (K.use r+1),ho:=K.ho.set r (K.hold r+1)} _ ⟨{b with CU:=BZ,CH:=DS},rfl,{hO with us:=p4,ho:=jV,ul:=by simp;exact Eh}⟩ hM (λs hs=>?_) ⟨rfl,rfl,rfl,rfl,λs=>?_⟩ (λs=>?_) (λ_=>?_))
  ·show(K.us.set r (K.use r+1)).getD s 0=0;have hs':K.N s=none:=hs;rw[g2,xac (λe=>by rw[e,hd]at hs';cases hs')];exact Dd s hs'
  ·show(K.ho.set r (K.hold r+1)).getD s 0=_;rw[g1];by_cases e:s=r
   ·subst e;rw[xaf rfl,xaf ⟨rfl,nv⟩]
   rw[xac e,xac (λh=>e h.1)]
  ·show K.use s<=(K.us.set r (K.use r+1)).getD s 0;rw[g2];split
   ·rename_i e;subst e;omega
   exact xal _
  show 0<(K.us.set r (K.use r+1)).getD r 0;rw[g2,xaf rfl];omega
 have hM:=Gw.keep (r:=r) (dr:=K.us) (cy:=K.ho.set r (K.hold r+1)) ⟨d,hd⟩ yO zI (by rw[g1,xaf rfl]) (λs hs=>by rw[g1,xac hs]) (by show K.use r=_;rw[xac zO];rfl) (λs hs=>rfl);refine JE.mk (fin {K with ho:=K.ho.set r (K.hold r+1)} _ ⟨{b with CH:=DS},rfl,{hO with ho:=jV,ul:=by simp;exact Eh}⟩ hM Dd ⟨rfl,rfl,rfl,rfl,λs=>?_⟩ (λ_=>xal _) (λ_=>?_));rotate_left
 ·show 0<K.use r;rw[Gw.use hd,xac zO];omega
 show(K.ho.set r (K.hold r+1)).getD s 0=_;rw[g1];by_cases e:s=r
 ·subst e;rw[xaf rfl,xaf ⟨rfl,nv⟩]
 rw[xac e,xac (λh=>e h.1)]
theorem pA(h:cj kp K S ord af tr C){r:Nat}(hl:live K.N r)(hf:2<=r->K.hold r<65535):Fc zQ 157 #[ptr kp,u32 r] C (λv C'=>v=iv 0/\∃K',cj kp K' S ord af [] C'/\FW K K' r):=by
 refine(qP h.rep h.ok.mid h.idle hl hf).mono ?_;rintro v C' ⟨rfl,K',jX,Jk,Av,hm,hu,hp⟩;refine⟨rfl,K',⟨jX,⟨Jk,λs d hs=>?_,by rw[hm.n];exact h.ok.lv,by rw[hm.n,hm.N];exact h.ok.wf⟩,by rw[hm.n];exact h.od,Av,trivial⟩,hm⟩;rw[hm.N]at hs;exact xbu (h.ok.pos s d hs) (hu s)
end
section
variable {kp:Nat} {K:Kd} {ord af tr:zL} {C:Hp} {S:Nat->ay.Fn}
theorem CC{K':Kd}{P:Nat->Nat}(hw:WF K.n (lv af) K.N)(hM:ig K' S gf P)(hN:∀{s d},K'.N s=some d->K.N s=some d)(hn:K'.n=K.n):WF K'.n (lv af) K'.N:=by
 have same:∀{t},live K'.N t->dep K'.n (lv af) K'.N t=dep K.n (lv af) K.N t:=λ{t} ht=>by
  cases e:K'.N t with
  |some f=>rw[aq e,aq (hN e)]
  |none=>
   have BP:t<2:=by
    rcases ht with ht|⟨f,hf⟩
    ·exact ht
    rw[e]at hf;cases hf
   rw[bC e,bC (hw.const BP),hn]
 refine hM.wf λ{s d} hs=>?_;rw[same (hM.lo hs),same (hM.hi hs)];exact⟨(hw.lo (hN hs)).2,(hw.hi (hN hs)).2⟩
structure BM(K K':Kd)(r:Nat):Prop where
 n:K'.n=K.n
 cap:K'.cap=K.cap
 N:∀s d,K'.N s=some d->K.N s=some d
 hold:∀s,K'.hold s=if s=r/\2<=r then K.hold s-1 else K.hold s
theorem Iq(h:cj kp K S ord af tr C){r:Nat}(hr:r<4294967296)(h2:2<=r)(h0:K.hold r=0):Rd zQ 102 #[ptr kp,u32 r] C (· =iv 3):=by
 refine aU λg=>ni (ae.bh (Br.no ?_));intro J2 _;refine ae.iU (b:=1) (Br.T (aa.eq (qN h.rep hr (λs=>by have:=h.l7 s;omega)) ?_));rw[h0];exact ae.p7 (Br.T (bH.mk (.refl _) rfl))
theorem pO(h:cj kp K S ord af tr C){r:Nat}(hr:r<4294967296)(hh:2<=r->K.hold r≠0):Fc zQ 102 #[ptr kp,u32 r] C (λv C'=>v=iv 0/\∃K',cj kp K' S ord af [] C'/\BM K K' r):=by
 have h0:=h;obtain⟨b,hC,hO⟩:=h.rep;refine aU λg=>ni (ae.bh (Br.no ?_));intro J2 FE;have fin:∀(K':Kd) C1,cW kp K' ord af tr C1->Ok K' S (lv af)->Idle K'->BM K K' r->J2 [] C1:=λK' C1 jX Fh Av hm=>by
  refine FE _ λgs=>?_;obtain⟨b',rfl,wW⟩:=jX;refine Nil.ptr (ah.mk (St.one (by exact .head _) rfl (by simp[oZ.cells]) rfl ?_));have rS:Ord K'.n (lv af) ord:=by rw[hm.n];exact h.od
  refine bc.mk (dP:=({b' with vt:=.slice none 0 0,CR:=[]}:oZ).hp kp K'.n) ?_ ⟨rfl,K',⟨⟨{b' with vt:=.slice none 0 0,CR:=[]},rfl,{wW with tr:=aR.nil}⟩,Fh,rS,Av,trivial⟩,hm⟩;refine .cons (.cL (.cL (.cL (.cL (.cL (.cL .nil _) _) _) _) _) _)
 refine ae.iU (b:=1) (Br.dec (λh2=>?_) (λh2=>?_));rotate_left
 ·exact JE.mk (fin K C h.rep h.ok h.idle ⟨rfl,rfl,λ_ _ h=>h,λs=>by rw[xac zO]⟩)
 have nv:2<=r:=by omega
 have jV:=hh nv;obtain⟨d,hd⟩:=h.ok.mid.held r jV;have Jb:=h.ok.mid.fit hd;have Eh:=hO.ul;have hfit:r<K.ho.length:=by omega
 have hle:=h.l7 r;refine aa.eq (qN h.rep hr (λs=>by have:=h.l7 s;omega)) (ae.p7 (Br.F ?_));subst hC;refine Nil.ptr (ah.mk (Ld.f ?_));refine hO.ho.ld (x:=((K.hold r:Nat):Int)) (cc hfit) (bu.sub (.cons (.app (.app (.app .left))))) (ae.Cd (b:=1) (hO.ho.o8 (x:=((K.hold r-1:Nat):Int)) (.cons (.app (.app (.app .left)))) (by rw[aV];exact hfit) λDS KE=>?_));rw[fc]at KE;have g1:∀s,(K.ho.set r (K.hold r-1)).getD s 0=if s=r then K.hold r-1 else K.hold s:=λs=>fC hfit
 have hM:=h.ok.mid.drop (r:=r) (cy:=K.ho.set r (K.hold r-1)) zO zI (by rw[g1,xaf rfl];omega) (λs hs=>by rw[g1,xac hs]);have ic:cW kp {K with ho:=K.ho.set r (K.hold r-1)} ord af tr (({b with CH:=DS}:oZ).hp kp K.n):=⟨_,rfl,{hO with ho:=KE,ul:=by simp;exact Eh}⟩;have ME:∀s,(K.ho.set r (K.hold r-1)).getD s 0=if s=r/\2<=r then K.hold s-1 else K.hold s:=λs=>by
  rw[g1];by_cases e:s=r
  ·subst e;rw[xaf rfl,xaf ⟨rfl,nv⟩]
  rw[xac e,xac (λh=>e h.1)]
 refine Nil.ptr (ah.mk (Ld.f ?_));refine KE.ld (x:=((K.hold r-1:Nat):Int)) (by rw[cc (by simpa using hfit),g1,xaf rfl]) (bu.sub (.cons (.app (.app (.app .left))))) (ae.bI (b:=0) (Br.dec (λh3=>?_) (λh3=>?_)));rotate_left
 ·rw[xac zO]at hM;exact JE.mk (fin {K with ho:=K.ho.set r (K.hold r-1)} _ ic ⟨hM,h.ok.pos,h.ok.lv,h.ok.wf⟩ h.idle ⟨rfl,rfl,λ_ _ h=>h,ME⟩)
 rw[xaf zO]at hM;refine Nil.ptr (ah.mk ?_);have Gv:ig {K with ho:=K.ho.set r (K.hold r-1)} S gf (ej zero' [r]):=hM.congr (λ_=>xdi) λs _=>by
  unfold up ej zero';by_cases e:s=r
  ·subst e;simp
  simp[e,xbJ e]
 refine aa.fq (r5 (P0:=zero') ic Gv h.ok.pos (λt LJ h0=>?_) (h.cD (.inr ⟨d,hd⟩)) (λs=>by have:=h.yV s;show K.use s<_;omega)) ?_
 ·by_cases e:t=r
  ·subst e;exact⟨d,hd⟩
  have Pj:0<zero' t+[r].count t:=h0;simp[zero',xbJ e]at Pj
 rintro w C2 ⟨rfl,K2,dK,Jj,Oc,_,iu⟩;refine JE.mk (fin K2 _ dK ⟨Jj,Oc,by rw[iu.n];exact h.ok.lv,CC h.ok.wf Jj (λh=>iu.N h) iu.n⟩ (iu.idle h.idle) ⟨iu.n,iu.cap,λs e hs=>iu.N hs,λs=>?_⟩);show K2.ho.getD s 0=_;rw[iu.ho];exact ME s
structure lf(K:Kd)(S:Nat->ay.Fn)(K':Kd)(S':Nat->ay.Fn)(f:ay.Fn)(r:Nat):Prop where
 n:K'.n=K.n
 cap:K'.cap=K.cap
 used:K'.used<=K.used+1
 N:∀s d,K.N s=some d->K'.N s=some d
 fn:∀s,live K.N s->S' s=S s
 live:live K'.N r
 is:S' r=f
 hold:∀s,K'.hold s=if s=r/\2<=r then K.hold s+1 else K.hold s
theorem uZ(h:cj kp K S ord af tr C){v lo hi:Nat}(hv:v<K.n)(hlo:live K.N lo)(hhi:live K.N hi)(hlt:lo=hi\/(lv af v<dep K.n (lv af) K.N lo/\lv af v<dep K.n (lv af) K.N hi)):
  Fc zQ 158 #[ptr kp,iv (v:Int),u32 lo,u32 hi] C (λw C'=>
   (∃r K' S',w=.tuple #[u32 r,iv 0]/\cj kp K' S' ord af [] C'/\lf K S K' S' (ite S ⟨v,lo,hi⟩) r)\/
   (∃r,w=.tuple #[u32 0,iv 8]/\C'=C/\live K.N r/\2<=r/\K.hold r=65535/\S r=ite S ⟨v,lo,hi⟩)\/
   (w=.tuple #[u32 0,iv 9]/\C'=C/\K.cap<=K.used/\lo≠hi/\K.T ⟨v,lo,hi⟩=none)):=by
 have h0:=h;have Kw:=h.cD hlo;have KD:=h.cD hhi;have El:=bD.2 hlo;have ve:=bD.2 hhi;have KN:iD K af (v:Int) lo hi=0:=by
  unfold iD;rw[xac zO,xac (by rw[El,ve];simp),xac];rintro⟨hne,hmin⟩;rcases hlt with e|⟨a,b⟩
  ·exact hne e
  simp only[xb3,lv]at hmin a b;omega
 refine aU λg=>tS (ae.bh (Br.no (aa.eq (vy h.rep (v:Int) zO zO (λr d hd=>⟨h.ok.mid.var hd,(h.ok.mid.two hd).1⟩)) ?_)));rw[KN];refine ae.j4 (Br.F (aa.rq (uQ h.rep (lo:=lo) (hi:=hi) hv) ?_));rintro w hw;have there:∀(J9:List zV->Hp->Prop),(∀GL:zV,∀F1:Hp,(∀Po:Fr,aa zQ g 157 #[ptr kp,GL] F1 (λMo F0=>ae .num .neq Mo (Value.int .i64 0) λNJ=>Br NJ
   (bc (λw C'=>(∃r K' S',w=.tuple #[u32 r,iv 0]/\cj kp K' S' ord af [] C'/\lf K S K' S' (ite S ⟨v,lo,hi⟩) r)\/
   (∃r,w=.tuple #[u32 0,iv 8]/\C'=C/\live K.N r/\2<=r/\K.hold r=65535/\S r=ite S ⟨v,lo,hi⟩)\/
   (w=.tuple #[u32 0,iv 9]/\C'=C/\K.cap<=K.used/\lo≠hi/\K.T ⟨v,lo,hi⟩=none)) (.returned (.tuple #[(Value.int .u32 0),Mo])) F0) (bc (λw C'=>(∃r K' S',w=.tuple #[u32 r,iv 0]/\cj kp K' S' ord af [] C'/\lf K S K' S' (ite S ⟨v,lo,hi⟩) r)\/
   (∃r,w=.tuple #[u32 0,iv 8]/\C'=C/\live K.N r/\2<=r/\K.hold r=65535/\S r=ite S ⟨v,lo,hi⟩)\/
   (w=.tuple #[u32 0,iv 9]/\C'=C/\K.cap<=K.used/\lo≠hi/\K.T ⟨v,lo,hi⟩=none)) (.returned (.tuple #[GL,(Value.int .i64 0)])) F0)) (cP (bc (λw C'=>(∃r K' S',w=.tuple #[u32 r,iv 0]/\cj kp K' S' ord af [] C'/\lf K S K' S' (ite S ⟨v,lo,hi⟩) r)\/
   (∃r,w=.tuple #[u32 0,iv 8]/\C'=C/\live K.N r/\2<=r/\K.hold r=65535/\S r=ite S ⟨v,lo,hi⟩)\/
   (w=.tuple #[u32 0,iv 9]/\C'=C/\K.cap<=K.used/\lo≠hi/\K.T ⟨v,lo,hi⟩=none)))))->J9 [GL] F1)->
   ∀r,live K.N r->S r=ite S ⟨v,lo,hi⟩->J9 [u32 r] C:=λJ9 FD r hr hS=>by
  refine FD _ _ λgs=>?_;by_cases hf:2<=r/\K.hold r=65535
  ·exact aa.eq (wI h hr hf.1 hf.2) (ae.j4 (Br.T (bc.here (.inr (.inl ⟨r,rfl,rfl,hr,hf.1,hf.2,hS⟩)))))
  refine aa.fq (pA h hr (λh2=>by have:=h.l7 r;omega)) ?_;rintro w C' ⟨rfl,K',jX,hm⟩;refine ae.j4 (Br.F (bc.here (.inl ⟨r,K',S,rfl,jX,⟨hm.n,hm.cap,by rw[hm.used];omega,λs d hs=>by rw[hm.N];exact hs,λ_ _=>rfl,by rw[hm.N];exact hr,hS,hm.hold⟩⟩)))
 by_cases he:lo=hi
 ·rw[xaf he]at hw;subst hw;refine Ext.two λJ9 FD=>(Un.not (Br.no (JE.mk (there J9 FD lo hlo ?_))))
  funext z
  unfold ay.ite;simp[he]
 rw[xac he]at hw;have lB:lv af v<dep K.n (lv af) K.N lo/\lv af v<dep K.n (lv af) K.N hi:=by
  rcases hlt with e|e
  ·exact absurd e he
  exact e
 obtain⟨o,ho⟩:∃o,o=K.T ⟨v,lo,hi⟩:=⟨_,rfl⟩;cases o with
 |some r=>
  have hT:K.T ⟨v,lo,hi⟩=some r:=ho.symm;rw[hT]at hw;subst hw;refine Ext.two λJ9 FD=>?_;have hN:=((h.ok.mid.nt _ r).1 hT).1;refine Un.not (Br.no (JE.mk (there J9 FD r (.inr ⟨_,hN⟩) ?_)))
  funext z
  rw[h.ok.mid.int.node hN];rfl
 |none=>
  have hT:K.T ⟨v,lo,hi⟩=none:=ho.symm;rw[hT]at hw;subst hw;refine Ext.two λJ9 FD=>(Un.not (Br.yes (Nil.ptr (ah.mk ?_))));have hcap:=h.ok.mid.cap;refine aa.eq (z6 h.rep (m:=1) zO zO) (Un.not ?_);by_cases hroom:K.used+1<=K.cap;rotate_left
  ·rw[xaA hroom];exact Br.yes (bc.here (.inr (.inr ⟨rfl,rfl,by omega,he,hT⟩)))
  rw[xaN hroom];refine Br.no (Nil.ptr (ah.mk (Build.mk (cs:=e9 ⟨v,lo,hi⟩) zK ?_)));have hfit:∀{t:Nat},live K.N t->t<2\/t<K.us.length:=λht'=>by
   rcases ht' with ht'|⟨d,jW⟩
   ·exact .inl ht'
   exact .inr (h.ok.mid.fit jW)
  have C7:K.n<=64:=by obtain⟨_,_,hO⟩:=h.rep;exact hO.E3
  refine aa.fq (Cb h.rep (d:=⟨v,lo,hi⟩) ⟨by show v<64;omega,hlo,hhi⟩ hv hT zO (hfit hlo) (hfit hhi) (λs=>by have:=h.yV s;omega)) ?_;rintro w C1 ⟨r,dr,cy,rfl,hN,h2,hrc,hlen,N4,Eh,u0,u1,u2,o0,o1,ic⟩;have FC:=h.ok.mid.lay (r:=r) (d:=⟨v,lo,hi⟩) hN ⟨h2,hrc⟩ hv he hlo hhi hT (λh=>h) rfl zO hlen ⟨N4,Eh⟩ u0 u1 o0 o1;have Lr:∀s d,K.N s=some d->up K.N r (some ⟨v,lo,hi⟩) s=some d:=λs d hs=>by rw[aO (λe=>by rw[e,hN]at hs;cases hs)];exact hs
  have hne:∀{t:Nat},live K.N t->t≠r:=λht=>dm ht h2 hN;have KB:Idle {K with N:=up K.N r (some ⟨v,lo,hi⟩),T:=uL K.T ⟨v,lo,hi⟩ (some r),used:=K.used+1,us:=dr,ho:=cy}:=λs hs=>by
   have hs':up K.N r (some ⟨v,lo,hi⟩) s=none:=hs;have BQ:s≠r:=λe=>by subst e;rw[aH]at hs';cases hs'
   rw[aO BQ]at hs';show dr.getD s 0=0;by_cases Jp:2<=s
   ·rw[u1 s Jp BQ,h.idle s hs',ef];have a1:lo≠s:=λe=>by
     rcases hlo with h5|⟨d,h5⟩
     ·omega
     rw[e,hs']at h5;cases h5
    have a2:hi≠s:=λe=>by
     rcases hhi with h5|⟨d,h5⟩
     ·omega
     rw[e,hs']at h5;cases h5
    simp[a1,a2]
   rw[u2 s zO,h.idle s hs']
  refine JE.mk (FD _ _ λgs=>?_);refine aa.fq (qP ic FC KB (r:=r) (.inr ⟨_,aH⟩) (λ_=>by show cy.getD r 0<65535;rw[o0];omega)) ?_;rintro w C2 ⟨rfl,K2,dK,Gv,KA,hm,hu,hp⟩;refine ae.j4 (Br.F ?_);have Gk:K2.n=K.n:=hm.n;have Ic:K2.N=up K.N r (some ⟨v,lo,hi⟩):=hm.N;have hpos:Pos K2:=λs d hs=>by
   by_cases e:s=r
   ·rw[e];exact hp h2
   rw[Ic,aO e]at hs;have h3:=hu s;have h4:({K with N:=up K.N r (some ⟨v,lo,hi⟩),T:=uL K.T ⟨v,lo,hi⟩ (some r),used:=K.used+1,us:=dr,ho:=cy}:Kd).use s=dr.getD s 0:=rfl;rw[h4,u1 s (h.ok.mid.two hs).1 e]at h3;have:=h.ok.pos s d hs;omega
  have Df:∀{t:Nat},live K.N t->dep K2.n (lv af) K2.N t=dep K.n (lv af) K.N t:=λ{t} ht=>by
   rw[Ic,Gk];unfold dep;rw[aO (hne ht)]
  have J5:WF K2.n (lv af) K2.N:=Gv.wf λ{s d} hs=>by
   rw[Ic]at hs;by_cases e:s=r
   ·rw[e,aH]at hs;cases hs;rw[Df hlo,Df hhi];exact lB
   rw[aO e]at hs;rw[Df (h.ok.wf.lo hs).1,Df (h.ok.wf.hi hs).1];exact⟨(h.ok.wf.lo hs).2,(h.ok.wf.hi hs).2⟩
  have hS:∀s,live K.N s->up S r (ite S ⟨v,lo,hi⟩) s=S s:=λs hs=>aO (hne hs);refine bc.here (.inl ⟨r,K2,up S r (ite S ⟨v,lo,hi⟩),rfl,⟨dK,⟨Gv,hpos,by rw[Gk];exact h.ok.lv,J5⟩,by rw[Gk];exact h.od,KA,trivial⟩,⟨Gk,hm.cap,by rw[hm.used];exact xal _,λs d hs=>by rw[Ic];exact Lr s d hs,hS,.inr ⟨_,by rw[Ic];exact aH⟩,aH,λs=>?_⟩⟩);rw[hm.hold];show(if s=r/\2<=r then cy.getD s 0+1 else cy.getD s 0)=_;by_cases e:s=r
  ·subst e;rw[xaf ⟨rfl,h2⟩,xaf ⟨rfl,h2⟩,o0];have:K.hold s=0:=by
    apply Decidable.byContradiction;intro hne;obtain⟨d,hd⟩:=h.ok.mid.held s hne;rw[hN]at hd;cases hd
   omega
  rw[xac (λh=>e h.1),xac (λh=>e h.1),o1 s e]
end
theorem hnew{H:Hp}:bu [] H (λX=>X++H):=bu.left
theorem Ai{n:Nat}(hn:n<=64):Fc zQ 95 #[iv (n:Int)] [] (λv H=>aR 3 .i64 v (iw (List.range n)) H):=by
 refine aU λg=>xJ (dG.ints zO zO λb=>?_);have h0:aR 3 .i64 (.slice (some ⟨b,0,none⟩) n n) (List.replicate n 0) [(b,.cells (an .i64 (List.replicate n 0)) 3 zZ)]:=by
  have:=aR.made (T:=3) (kd:=.i64) (b:=b) (List.replicate n (0:Int));rw[xaO]at this;exact this
 refine⟨λvs H=>∃j:Nat,vs=[iv (j:Int)]/\j<=n/\aR 3 .i64 (.slice (some ⟨b,0,none⟩) n n) (iw (List.range j)++List.replicate (n-j) 0) H,λvs _=>n-dx vs 0,JE.mk ⟨0,rfl,by omega,by simpa[iw]using h0⟩,?_⟩;rintro w H ⟨j,hw,hj,hs⟩ gs;simp only[xbb,xc2]at hw;subst hw;refine ae.dX (Br.dec (λhlt=>?_) (λhlt=>?_))
 ·refine hs.o8 (x:=(j:Int)) .here zP λC' hs'=>?_;refine ae.inc ?_;have e:(iw (List.range j)++List.replicate (n-j) 0).set j (j:Int)=iw (List.range (j+1))++List.replicate (n-(j+1)) 0:=by
   rw[xcu _ _ zI];rw[show n-j=(n-(j+1))+1 by omega,xce,xdD,dy];simp[iw]
  rw[e]at hs';exact aI.of (.refl _) ⟨j+1,rfl,by omega,hs'⟩ (by show n-(((j+1:Nat):Int).toNat)<n-(((j:Nat):Int).toNat);omega)
 obtain rfl:j=n:=by omega
 exact bc.here (by simpa using hs)
theorem kU{n:Nat}(hn:n<=64):Fc zQ 46 #[iv (n:Int)] [] (λv H=>∃s,v=.tuple #[s,iv 0]/\aR 3 .i64 s (iw (List.range n)) H):=by
 refine aU λg=>oV (ae.lss ?_);rw[xaA zO];refine bO.or false (λ_=>ae.gtr ⟨rfl,by rw[xaA zO]⟩) rfl λ_=>Br.no ?_;refine aa.fq (Ai hn) ?_;intro s H hs;exact bc.here ⟨s,rfl,hs⟩
def K0(n cap:Nat):Kd:=⟨n,cap,2,λ_=>none,λ_=>none,[],[]⟩
def S0:Nat->ay.Fn:=λr _=>decide (r=1)
theorem gD{n v:Nat}(hv:v<n):lv (List.range n) v=v:=by
 show(List.range n).getD v 0=v;simp[List.getD,hv]
theorem IM{n cap:Nat}(hc:2<=cap/\cap<=1048576):Ok (K0 n cap) S0 (lv (List.range n)):=by
 have c0:∀k,gO (λ_=>none) k=0:=λk=>by induction k with|zero=>rfl|succ k ih=>rw[gO,ih];rfl
 have hm:ig (K0 n cap) S0 gf zero':={
  two:=λh=>nomatch h
  var:=λh=>nomatch h
  ne:=λh=>nomatch h
  lo:=λh=>nomatch h
  hi:=λh=>nomatch h
  int:=⟨λ_=>rfl,λ_=>rfl,λh=>nomatch h⟩
  nt:=λd r=>⟨λh=>(nomatch h),λh=>nomatch h.1⟩
  use:=λh=>nomatch h
  len:=rfl
  fit:=λh=>nomatch h
  held:=λr h=>absurd (by simp[Kd.hold,K0]) h
  mx:=λr=>by simp[Kd.hold,K0]
  room:=by show 2=2+gO (λ_=>none) _;rw[c0]
  cap:=hc}
 refine⟨hm,λr d h=>(nomatch h),⟨λv hv=>?_,λu v hu hv h=>?_⟩,⟨λh=>(nomatch h),λh=>(nomatch h),λh=>(nomatch h),λh=>(nomatch h),λh=>(nomatch h),λh=>(nomatch h)⟩⟩
 ·have wL:v<n:=hv;rw[gD wL];exact hv
 have p4:u<n:=hu;have wL:v<n:=hv;rwa [gD p4,gD wL]at h
theorem qy{pt n cap:Nat}{CT:Hp}(hu:jP pt n (λ_=>none) CT)(hc:2<=cap/\cap<=1048576):Fc zQ 48 #[iv (cap:Int),ptr pt] CT (λv H=>∃pa CA,v=.tuple #[.agg #[ptr pa,ptr pt,.slice none 0 0,.slice none 0 0],iv 0]/\eP pa cap 2 (λ_=>none) CA/\H=CA++CT):=by
 refine aU λg=>yf λb1 _=>?_;refine aa.fn hnew (DH hc) ?_;rintro v C ⟨pa,rfl,hA⟩;refine Ext.two (Build.mk (cs:=[ptr pa,ptr pt,.slice none 0 0,.slice none 0 0]) zK (St.q ?_));refine aA.q ?_;exact bc.mk (.cL .tail _) ⟨pa,C,rfl,hA,rfl⟩
theorem zw{n cap:Nat}(hn:1<=n/\n<=64)(hc:2<=cap/\cap<=1048576):Fc zQ 27 #[iv (n:Int),iv (cap:Int)] [] (λv C=>∃kp,v=.tuple #[ptr kp,iv 0]/\cj kp (K0 n cap) S0 (List.range n) (List.range n) [] C):=by
 refine aU λg=>oX (aa.fq (kU hn.2) ?_);rintro v CO ⟨s,rfl,hO⟩;obtain⟨sa,sl,sc,NY⟩:∃a l c,s=Value.slice a l c:=by obtain⟨a,c,h⟩:=aC.len hO;exact⟨a,_,c,h⟩
 refine Ext.two (ae.j4 (bO.or false (λ_=>ae.lss ⟨rfl,by rw[xaA zO]⟩) rfl λgs=>?_));refine bO.or false (λ_=>ae.lss ⟨rfl,by rw[xaA zO]⟩) rfl λgs=>?_;refine bO.or false (λ_=>ae.gtr ⟨rfl,by rw[xaA zO]⟩) rfl λgs=>Br.no ?_;refine aa.fn hnew (B5 hn) ?_;rintro v CT ⟨pt,rfl,hT⟩;refine Ext.two (ae.j4 (Br.no (aa.fq (qy hT hc) ?_)));rintro v H ⟨pa,CA,rfl,hA,rfl⟩;refine Ext.two λQH _=>(St.q ?_);refine ae.j4 (Br.no (DR.self (aA.q ?_)));refine aa.fq (rC (hO.ints.mono λ_ h=>h) zP) ?_;rintro v H ⟨CL,rfl,hL⟩;obtain⟨la,ll,lc,hle⟩:∃a l c,v=Value.slice a l c:=by obtain⟨a,c,h⟩:=aC.len hL;exact⟨a,_,c,h⟩
 refine⟨(.cons (.cL .right _)),?_⟩;subst NY hle;refine Build.mk (cs:=[ptr pa,ptr pt,.slice none 0 0,.slice none 0 0,iv (n:Int),.slice sa sl sc,.slice la ll lc,.slice none 0 0]) zK λGH _=>?_;refine⟨(.skip (.cons (.cL .right _))),?_⟩
 let kb:oZ:=⟨pa,pt,.slice none 0 0,.slice none 0 0,.slice sa sl sc,.slice la ll lc,.slice none 0 0,CA,CT,[],[],CO,CL,[]⟩
 refine bc.mk (dP:=kb.hp GH n) ?_ ⟨GH,rfl,⟨kb,rfl,⟨hA,hT,aR.nil,aR.nil,hO,hL,aR.nil,⟨rfl,by simp[K0]⟩,hn.2,by simp[K0]⟩⟩,IM hc,⟨by simp[K0],λl hl=>?_⟩,λs _=>by simp[Kd.use,K0],trivial⟩
 ·refine .cons (.skip ((aN.assoc).trans ?_));show aN (CA++(CT++(CL++CO))) (CA++(CT++([]++([]++(CO++(CL++[]))))));simp only[xaU,xaT];exact .cL (.cL (.perm xaK) _) _
 have hl':l<n:=hl;have e:(List.range n).getD l 0=l:=gD hl';rw[e];exact⟨hl,gD hl'⟩
end
end Go.Proofs
namespace ay
structure Rm where
 n:Nat
 size:zL->Nat
 fit:zL->Nat->Bool
end ay
set_option maxRecDepth 100000
namespace Go.Proofs
open Go Go.Sx Tryz
open ay
def At(kp:Nat)(K:Kd)(S:Nat->ay.Fn)(ord tr:zL)(C:Hp):Prop:=∃K' S' CB,cj kp K' S' ord CB tr C/\Kept K S K' S'
noncomputable def D9(K:Kd)(S:Nat->ay.Fn)(ord:zL):Nat:=sz K.n ord (K.held S)
def JZ(K:Kd)(S:Nat->ay.Fn)(ord:zL)(l:Nat):Prop:=Mp K.n ord l (K.held S)+2<=K.cap
section
variable {kp:Nat} {K:Kd} {S:Nat->ay.Fn} {ord tr:zL} {C:Hp}
theorem cj.at'{af:zL}(h:cj kp K S ord af tr C):At kp K S ord tr C:=⟨K,S,af,h,.refl _ _⟩
theorem qM{af:zL}(h:cj kp K S ord af tr C):K.used=D9 K S ord+2:=by
 have h1:=qh (h.ok.size h.od);have h2:=h.ok.mid.room;unfold D9;omega
theorem Ab{K':Kd}{S':Nat->ay.Fn}(h:Kept K S K' S')(ord:zL):D9 K' S' ord=D9 K S ord:=by
 unfold D9;rw[h.n];exact y5 h.held
theorem At.E3(h:At kp K S ord tr C):K.n<=64:=by
 obtain⟨K',S',CB,h,hk⟩:=h;obtain⟨b,_,hO⟩:=h.rep;rw[<-hk.n];exact hO.E3
theorem DD(h:At kp K S ord tr C):Rd zQ 111 #[ptr kp] C (· =iv ((D9 K S ord:Nat):Int)):=by
 obtain⟨K',S',CB,h,hk⟩:=h;have hs:=qM h;have hc:=h.ok.mid.cap;refine(CQ h.rep zO zO).mono ?_;rintro v H ⟨rfl,rfl⟩;exact⟨rfl,by rw[hs,Ab hk];rfl⟩
theorem DC(h:At kp K S ord tr C):Rd zQ 75 #[ptr kp] C (· =iv ((K.n:Nat):Int)):=by
 obtain⟨K',S',CB,h,hk⟩:=h;rw[<-hk.n];exact jx h.rep
end
end Go.Proofs
namespace Go.Sx
open Go
section
variable {P:Program} {g:Gh} {H:Hp}
theorem di.nat{len size b o j:Nat}{kd:IntKind}{k:zV->Prop}(h1:j<len)(h:k (.pointer (some ⟨b,o+j*size,none⟩))):di len size (.pointer (some ⟨b,o,none⟩)) (.int kd (j:Int)) k:=
 ⟨b,o,kd,(j:Int),rfl,rfl,by omega,by omega,by simpa using h⟩
theorem aG.Iz{o:Oper}{ρ:Operand->zV}{k:zV->Prop}{t e:TypeId}{q kd:IntKind}{n j:Nat}{x i:Operand}{l:List Int}{z:Int}(ho:o.op=.index t x i)(hx:ρ x=.agg (an q l))(hi:ρ i=.int kd (j:Int))
 (ht:P.underlying t=some (.array n e))(hu:P.underlying e=some (.int q))(hz:bL P e=some 1)(hj:j<n)(hl:l[j]? =some z)(hk:k (.int q z)):aG P g o ρ H k:=by
 obtain⟨inf,wQ,hs⟩:=aD hz;refine⟨_,λw _=>?_,hk⟩;have hp:=jt (P:=P) hu hl w;have Az:(0:Int)<=(j:Int)/\(j:Int)<(n:Int):=by omega
 simp only[execOp,ho,Instr.index,hx,hi,asIntOf,Sem.run_bind,Sem.run_pure,Result.andThen_ok,run_underlying ht,run_sizeOf wQ,hs,xaf Az,xb3,xbW,hp]
end
end Go.Sx
namespace ay
open cF
def Pw(m v:Nat):Nat:=if m.testBit v then m^^^2^v else m
def rest(m:Nat)(ord:zL):Nat->Nat
 |0=>m
 |k+1=>Pw (rest m ord k) (ord.getD k 0)
def flat(n s:Nat):Rm:=⟨n,λ_=>s,λ_ _=>true⟩
end ay
