import Derived.Test.YtgeffephefcdiaaGreatA4
import Derived.Test.YtgeffephefcdiaaGreatA1
import Derived.Test.YtgeffephefcdiaaGreatA3
import Derived.Test.YtgeffephefcdiaaGreatA2
set_option linter.unusedVariables false
set_option linter.unusedSimpArgs false
set_option linter.unusedSectionVars false
namespace S9
abbrev It:=Int×Int
def prec(a b:It):Bool:=decide (a.2<b.2)||(a.2==b.2&&decide (a.1<b.1))
theorem uU{a b:It}:prec a b=true↔a.2<b.2\/a.2=b.2/\a.1<b.1:=by simp[prec]
theorem mE{a b:It}:prec a b=false↔¬(a.2<b.2\/a.2=b.2/\a.1<b.1):=by rw[<-uU];simp
theorem nH(a:It):prec a a=false:=by rw[mE];omega
theorem pV{a b:It}(h:prec a b=true):prec b a=false:=by rw[uU]at h;rw[mE];omega
theorem le_trans{a b c:It}(h1:prec b a=false)(h2:prec c b=false):prec c a=false:=by rw[mE]at*;omega
theorem Fa{a b c:It}(h1:prec a b=true)(h2:prec c b=false):prec c a=false:=by rw[uU]at h1;rw[mE]at*;omega
def ig(V:Nat->It)(i:Nat)(b:It):Nat->It:=λj=>if j=i then b else V j
def E(V:Nat->It)(j:Nat):Prop:=prec (V j) (V ((j-1) /2))=false
def zh(n:Nat)(V:Nat->It)(i:Nat):Prop:=
 (∀j,0<j->j<n->j≠i->(j-1) /2≠i->E V j)/\(∀j,0<j->j<n->(j-1) /2=i->0<i->prec (V j) (V ((i-1) /2))=false)
def oT(n:Nat)(V:Nat->It)(i:Nat):Prop:=∀j,0<j->j<n->(j-1) /2=i->E V j
def Ws(n:Nat)(V:Nat->It)(i:Nat):Prop:=
 (∀j,0<j->j<n->(j-1) /2≠i->E V j)/\(∀j,0<j->j<n->(j-1) /2=i->0<i->prec (V j) (V ((i-1) /2))=false)
def Ord(n:Nat)(V:Nat->It):Prop:=∀j,0<j->j<n->E V j
theorem TK{n i:Nat}{V:Nat->It}(hi:0<i)(hn:i<n)(h:zh n V i)(ha:prec (V i) (V ((i-1) /2))=true):
  zh n (ig (ig V i (V ((i-1) /2))) ((i-1) /2) (V i)) ((i-1) /2)/\oT n (ig (ig V i (V ((i-1) /2))) ((i-1) /2) (V i)) ((i-1) /2):=by
 obtain⟨h1,h2⟩:=h;have hq:(i-1) /2≠i:=by omega
 generalize hqd:(i-1) /2=q at*;have hqi:q<i:=by omega
 refine⟨⟨?_,?_⟩,?_⟩
 ·intro j j0 jn jq jp;unfold E ig;rw[xab jq,xab jp];by_cases e1:j=i
  ·exact absurd (by rw[e1,hqd]) jp
  rw[xab e1];by_cases e2:(j-1) /2=i
  ·rw[xae e2];exact h2 j j0 jn e2 hi
  rw[xab e2];exact h1 j j0 jn e1 e2
 ·intro j j0 jn jp q0;unfold ig;have hqq:(q-1) /2≠q:=by omega
  have aeR:(q-1) /2≠i:=by omega
  rw[xab hqq,xab aeR];have Z3:j≠q:=by omega
  rw[xab Z3];have Ve:E V q:=h1 q q0 zO hq zO;by_cases e1:j=i
  ·rw[xae e1];exact Ve
  rw[xab e1];have:=h1 j j0 jn e1 zO;unfold E at this Ve;rw[jp]at this;exact le_trans Ve this
 intro j j0 jn jp;unfold E ig;rw[jp,xae rfl];have Z3:j≠q:=by omega
 rw[xab Z3];by_cases e1:j=i
 ·rw[xae e1];exact pV ha
 rw[xab e1];have:=h1 j j0 jn e1 zO;unfold E at this;rw[jp]at this;exact Fa ha this
theorem TL{n i:Nat}{V:Nat->It}(h:zh n V i)(ha:i=0\/prec (V i) (V ((i-1) /2))=false):Ws n V i:=by
 refine⟨λj j0 jn jp=>?_,h.2⟩;by_cases e:j=i
 ·subst e;rcases ha with ha|ha
  ·omega
  exact ha
 exact h.1 j j0 jn e jp
theorem yU{n i:Nat}{V:Nat->It}(h:Ws n V i)(hc:oT n V i):Ord n V:=λj j0 jn=>by
 by_cases e:(j-1) /2=i
 ·exact hc j j0 jn e
 exact h.1 j j0 jn e
def yF(n:Nat)(V:Nat->It)(i:Nat):Nat:=if(decide (2*i+1+1<n) &&prec (V (2*i+1+1)) (V (2*i+1)))=true then 2*i+1+1 else 2*i+1
theorem r7(n:Nat)(V:Nat->It)(i:Nat):yF n V i=2*i+1\/yF n V i=2*i+2/\2*i+2<n:=by
 unfold yF;split
 ·rename_i h;simp only[xav,xaA]at h;right;omega
 left;rfl
theorem yE{n i j:Nat}{V:Nat->It}(j0:0<j)(jn:j<n)(jp:(j-1) /2=i):prec (V j) (V (yF n V i))=false:=by
 unfold yF;split
 ·rename_i h;simp only[xav,xaA]at h;rcases(show j=2*i+1\/j=2*i+1+1 by omega)with rfl|rfl
  ·exact pV h.2
  exact nH _
 rename_i h;rcases(show j=2*i+1\/j=2*i+1+1 by omega)with rfl|rfl
 ·exact nH _
 cases hh:prec (V (2*i+1+1)) (V (2*i+1))
 ·rfl
 exact absurd (by simp[hh,jn]) h
theorem sD{n i:Nat}{V:Nat->It}(h:Ws n V i)(hk:yF n V i<n)(ha:prec (V (yF n V i)) (V i)=true):
  Ws n (ig (ig V i (V (yF n V i))) (yF n V i) (V i)) (yF n V i):=by
 have hl:∀j,0<j->j<n->(j-1) /2=i->prec (V j) (V (yF n V i))=false:=λj=>yE;have hkc:=r7 n V i;generalize yF n V i=c at*;obtain⟨h1,h2⟩:=h;have hcp:(c-1) /2=i:=by omega
 have hc0:0<c:=by omega
 have pw:c≠i:=by omega
 refine⟨?_,?_⟩
 ·intro j j0 jn jp;unfold E ig;rw[xab jp];by_cases e1:j=c
  ·rw[xae e1,xae (by rw[e1];exact hcp)];exact pV ha
  rw[xab e1];by_cases e2:j=i
  ·rw[xae e2];have:(j-1) /2≠i:=by omega
   rw[xab this,e2];exact h2 c hc0 hk hcp zO
  rw[xab e2];by_cases e3:(j-1) /2=i
  ·rw[xae e3];exact hl j j0 jn e3
  rw[xab e3];exact h1 j j0 jn e3
 intro j j0 jn jp _;unfold ig;rw[hcp];have:j≠c:=by omega
 have e2:j≠i:=by omega
 rw[xab this,xab e2,xab (λe=>pw e.symm),xae rfl];have:=h1 j j0 jn zO;unfold E at this;rwa [jp]at this
theorem No{n i:Nat}{V:Nat->It}(h:Ws n V i)(ha:n<=yF n V i\/prec (V (yF n V i)) (V i)=false):Ord n V:=by
 refine yU h λj j0 jn jp=>?_;have hl:=yE (V:=V) j0 jn jp;rcases ha with ha|ha
 ·rcases r7 n V i with h|h<;>omega
 unfold E;rw[jp];exact le_trans ha hl
theorem Uv{n:Nat}{V:Nat->It}(h:Ord n V):∀j,j<n->prec (V j) (V 0)=false:=by
 intro j;induction j using Nat.strongRecOn with
 |_ j ih=>
  intro jn;by_cases j0:j=0
  ·subst j0;exact nH _
  exact le_trans (ih ((j-1) /2) zO zO) (h j zO jn)
def aZ(l:List It)(j:Nat):It:=l.getD j (0,0)
theorem Wc{l:List It}{j:Nat}(h:j<l.length):l[j]? =some (aZ l j):=by simp[aZ,List.getD,h]
theorem gZ{l:List It}{i:Nat}(b:It)(h:i<l.length):aZ (l.set i b)=ig (aZ l) i b:=by
 funext j
 unfold aZ ig;simp only[List.getD,xbo];by_cases e:i=j
 ·subst e;simp[h]
 rw[xab e,xab (λx=>e x.symm)]
theorem pQ{l:List It}{i:Nat}(h:i<l.length):l.set i (aZ l i)=l:=by
 apply xbd;intro j;rw[xbo];by_cases e:i=j
 ·subst e;simp[h,aZ,List.getD]
 simp[e]
theorem swap_perm{l:List It}{i q:Nat}(hi:i<l.length)(hq:q<l.length)(hne:q≠i):((l.set i (aZ l q)).set q (aZ l i)).Perm l:=by
 rw[xcu];intro x;have g1:l[i]=aZ l i:=by simp[aZ,List.getD,hi]
 have g2:l[q]=aZ l q:=by simp[aZ,List.getD,hq]
 have g3:(l.set i (aZ l q))[q]'(by simp[hq])=aZ l q:=by rw[List.getElem_set_ne (λe=>hne e.symm)];exact g2
 rw[xdL (by simp[hq]),xdL hi,g1,g3];have hc:aZ l i=x->0<l.count x:=λe=>by rw[xbJ,<-e,<-g1];exact xaG hi
 by_cases e1:aZ l i=x
 ·have:=hc e1;by_cases e2:aZ l q=x<;>simp[e1,e2]<;>omega
 by_cases e2:aZ l q=x<;>simp[e1,e2]
def jW(l:List It):Prop:=(l.map Prod.fst).Nodup
theorem jW.perm{l l':List It}(h:jW l)(p:l'.Perm l):jW l':=(p.map _).nodup_iff.2 h
theorem jW.inj{l:List It}(h:jW l){i j:Nat}(hi:i<l.length)(hj:j<l.length)(e:(aZ l i).1=(aZ l j).1):i=j:=by
 unfold jW at h;have hp:=List.pairwise_iff_getElem.1 h;have g:∀k (hk:k<l.length),(l.map Prod.fst)[k]'(by simpa using hk)=(aZ l k).1:=λk hk=>by simp[aZ,List.getD,hk]
 rcases xcJ i j with hlt|rfl|hlt
 ·have:=hp i j (by simpa using hi) (by simpa using hj) hlt;rw[g i hi,g j hj]at this;exact absurd e this
 ·rfl
 have:=hp j i (by simpa using hj) (by simpa using hi) hlt;rw[g i hi,g j hj]at this;exact absurd e.symm this
theorem iy{l:List It}{x:Int}:x∈l.map Prod.fst↔∃j,j<l.length/\(aZ l j).1=x:=by
 rw[xba];constructor
 ·rintro⟨j,hj,e⟩;have hj':j<l.length:=by simpa using hj
  exact⟨j,hj',by simpa[aZ,List.getD,hj']using e⟩
 rintro⟨j,hj,e⟩;exact⟨j,by simpa using hj,by simpa[aZ,List.getD,hj]using e⟩
def D6(f:Int->Option Nat)(x:Int)(p:Option Nat):Int->Option Nat:=λy=>if y=x then p else f y
def ni(l:List It)(f:Int->Option Nat)(i:Nat):Prop:=(∀j,j<l.length->j≠i->f (aZ l j).1=some j)/\∀x,x∉l.map Prod.fst->f x=none
def Cons(l:List It)(f:Int->Option Nat):Prop:=(∀j,j<l.length->f (aZ l j).1=some j)/\∀x,x∉l.map Prod.fst->f x=none
theorem ni.done{l:List It}{f:Int->Option Nat}{i:Nat}(h:ni l f i)(ho:jW l)(hi:i<l.length):Cons l (D6 f (aZ l i).1 (some i)):=by
 refine⟨λj hj=>?_,λx hx=>?_⟩
 ·unfold D6;by_cases e:(aZ l j).1=(aZ l i).1
  ·rw[xae e,ho.inj hj hi e]
  rw[xab e];exact h.1 j hj (λe2=>e (by rw[e2]))
 unfold D6;rw[xab (λe=>hx (iy.2 ⟨i,hi,e.symm⟩))];exact h.2 x hx
theorem ni.step{l:List It}{f:Int->Option Nat}{i q:Nat}(h:ni l f i)(ho:jW l)(hi:i<l.length)(hq:q<l.length)(hne:q≠i):
  ni ((l.set i (aZ l q)).set q (aZ l i)) (D6 f (aZ l q).1 (some i)) q:=by
 have Be:∀j,aZ ((l.set i (aZ l q)).set q (aZ l i)) j=ig (ig (aZ l) i (aZ l q)) q (aZ l i) j:=λj=>by rw[gZ _ (by simpa using hq),gZ _ hi]
 refine⟨λj hj Z3=>?_,λx hx=>?_⟩
 ·rw[Be];simp only[xbN]at hj;unfold ig D6;rw[xab Z3];by_cases e:j=i
  ·rw[xae e,xae rfl,e]
  rw[xab e];rw[xab (λe2=>Z3 (ho.inj hj hq e2))];exact h.1 j hj e
 have hx':x∉l.map Prod.fst:=λhm=>hx (by
  have:=(swap_perm hi hq hne).map Prod.fst;exact this.mem_iff.2 hm)
 unfold D6;rw[xab (λe=>hx' (iy.2 ⟨q,hq,e.symm⟩))];exact h.2 x hx'
end S9
namespace S9
open Go Go.Sx
def enc(kd:IntKind)(a:It):List zV:=[.int kd a.1,.int .i64 a.2]
def eR(kd:IntKind)(l:List It):List (List zV):=l.map (enc kd)
theorem cS(kd:IntKind)(l:List It):(eR kd l).length=l.length:=by simp[eR]
theorem Nk(kd:IntKind)(l:List It):∀r∈eR kd l,r.length=2:=λr hr=>by
 obtain⟨a,_,rfl⟩:=xao.1 hr;rfl
theorem fV{kd:IntKind}{l:List It}{i:Nat}(h:i<l.length)(aJ:List (List zV)):(eR kd l++aJ)[i]? =some (enc kd (aZ l i)):=by
 rw[xaW (by rw[cS];exact h),eR,xat,Wc h];rfl
theorem Sc{kd:IntKind}{l:List It}{i:Nat}(h:i<l.length)(a:It)(aJ:List (List zV)):(eR kd l++aJ).set i (enc kd a)=eR kd (l.set i a)++aJ:=by
 rw[xcZ _ _ (by rw[cS];exact h),eR,eR,xcQ]
def idx(i:Nat):zV:=.int .i64 (i:Int)
def HO(kd:IntKind)(TI TH:TypeId)(h:zV)(l:List It)(f:Int->Option Nat)(C:Hp):Prop:=
 ∃bh sv mv Cs Cm,h=.pointer (some ⟨bh,0,none⟩)/\C=(bh,Obj.cells #[sv,mv] TH (0,0))::(Cs++Cm)/\aV TI 2 sv (eR kd l) Cs/\kV kd idx mv f Cm/\(mv=.map none->l=[])
theorem HO.open{kd:IntKind}{TI TH:TypeId}{h:zV}{l:List It}{f:Int->Option Nat}{C:Hp}(H:HO kd TI TH h l f C)(hp:0<l.length):
  ∃bh la mb aJ Cm,h=.pointer (some ⟨bh,0,none⟩)/\
   C=(bh,Obj.cells #[.slice (some ⟨la,0,none⟩) l.length (l.length+aJ.length),.map (some mb)] TH (0,0))::(la,.cells (rows (eR kd l++aJ)) TI (0,0))::Cm/\
   (∀r∈eR kd l++aJ,r.length=2)/\kV kd idx (.map (some mb)) f Cm:=by
 obtain⟨bh,sv,mv,Cs,Cm,rfl,rfl,hs,hm,hne⟩:=H;obtain⟨la,aJ,rfl,rfl,aH⟩:=hs.pos (by rw[cS];exact hp);rw[cS];rcases hm with⟨rfl,_⟩|⟨mb,m,ck,rfl,h2⟩
 ·rw[hne rfl]at hp;simp at hp
 exact⟨bh,la,mb,aJ,Cm,rfl,rfl,aH,.inr ⟨mb,m,ck,rfl,h2⟩⟩
theorem HO.shut{kd:IntKind}{TI TH:TypeId}{bh la mb n c:Nat}{aJ:List (List zV)}{Cm:Hp}{l:List It}{f:Int->Option Nat}(aH:∀r∈eR kd l++aJ,r.length=2)(hn:n=l.length)(hc:c=l.length+aJ.length)
 (hm:kV kd idx (.map (some mb)) f Cm):
  HO kd TI TH (.pointer (some ⟨bh,0,none⟩)) l f ((bh,Obj.cells #[.slice (some ⟨la,0,none⟩) n c,.map (some mb)] TH (0,0))::(la,.cells (rows (eR kd l++aJ)) TI (0,0))::Cm):=
 ⟨bh,_,_,[_],Cm,rfl,rfl,aV.mk' aH (by rw[cS];exact hn) (by rw[cS];exact hc),hm,λh=>by simp at h⟩
theorem P1{l aJ:List (List zV)}(h:∀r∈l++aJ,r.length=2)(kd:IntKind)(l':List It):∀r∈eR kd l'++aJ,r.length=2:=λr hr=>by
 rcases xan.1 hr with hr|hr
 ·exact Nk kd l' r hr
 exact h r (by simp[hr])
theorem oQ(kd:IntKind)(a:It):∀v∈enc kd a,v.oneCell'=true:=by simp[enc,Value.oneCell']
end S9
namespace S9
open Go Go.Sx
theorem XP(j:Nat)(h:0<j):((j-1:Nat):Int).tdiv 2=(((j-1) /2:Nat):Int):=by
 rw[Int.tdiv_eq_ediv_of_nonneg zO];omega
theorem uK{l:List It}{i q:Nat}(a:It)(hi:i<l.length)(hq:q<l.length)(hne:q≠i):((l.set i a).set i (aZ (l.set i a) q)).set q (aZ (l.set i a) i)=(l.set i (aZ l q)).set q a:=by
 rw[gZ a hi,List.set_set];simp[ig,hne]
def HI(kd:IntKind)(TI TH:TypeId)(h:zV)(l:List It)(C:Hp):Prop:=∃f,HO kd TI TH h l f C/\Cons l f/\Ord l.length (aZ l)/\jW l
theorem Ge{l:List It}{a:It}{j:Nat}(h:j<l.length):aZ (l++[a]) j=aZ l j:=by simp[aZ,List.getD,xaW h]
theorem P8{l:List It}{f:Int->Option Nat}{a:It}(hc:Cons l f)(ho:Ord l.length (aZ l))(h1:jW l)(hx:a.1∉l.map Prod.fst):
  zh (l++[a]).length (aZ (l++[a])) l.length/\ni (l++[a]) f l.length/\jW (l++[a])/\oT (l++[a]).length (aZ (l++[a])) l.length:=by
 simp only[xaf,xay,xch,xa3];refine⟨⟨λj j0 jn jne jp=>?_,λj j0 jn jp=>by omega⟩,⟨λj jn jne=>?_,λx hx'=>?_⟩,?_,λj j0 jn jp=>by omega⟩
 ·unfold E;rw[Ge zO,Ge zO];exact ho j j0 zO
 ·simp only[xaf,xay,xch]at jn;rw[Ge zO];exact hc.1 j zO
 ·exact hc.2 x (λh=>hx' (by rw[xaJ,xan];exact .inl h))
 unfold jW at*;rw[xaJ,xa4];exact⟨h1,by simp,λa' ef b hb=>by simp at hb;subst hb;intro e;subst e;exact hx ef⟩
theorem So{l:List It}{f:Int->Option Nat}(hc:Cons l f){x:Int}:(x∉l.map Prod.fst/\f x=none)\/∃i,i<l.length/\(aZ l i).1=x/\f x=some i:=by
 by_cases h:x∈l.map Prod.fst
 ·obtain⟨j,hj,e⟩:=iy.1 h;exact .inr ⟨j,hj,e,by rw[<-e];exact hc.1 j hj⟩
 exact .inl ⟨h,hc.2 x h⟩
theorem Ul{l:List It}{f:Int->Option Nat}(hc:Cons l f)(ho:Ord l.length (aZ l))(h1:jW l){n:Nat}(hn:l.length=n+1):
  let l':=l.take n
  ((0<n->(aZ l n)::(l'.set 0 (aZ l n)).tail=l'.set 0 (aZ l n)/\(aZ l 0::l'.set 0 (aZ l n)).Perm l/\Ws n (aZ (l'.set 0 (aZ l n))) 0/\jW (l'.set 0 (aZ l n))/\
   ni (l'.set 0 (aZ l n)) (D6 f (aZ l 0).1 none) 0)):=by
 intro l' Tm;have hl':l'.length=n:=by simp[l',hn]
 have c8:(aZ l 0::l'.set 0 (aZ l n)).Perm l:=by
  rw[xcu];intro x;have e:l=l'++[aZ l n]:=by
   have:l=l.take n++l.drop n:=(xbr n l).symm;have h2:l.drop n=[aZ l n]:=by
    rw[xbs zO,xdi zO];simp[hn,aZ,List.getD]
   rw[h2]at this;exact this
  have g0:l'[0]' zO=aZ l 0:=by simp[l',aZ,List.getD,hn]
  conv=>rhs;rw[e]
  rw[xb3,xdL zO,g0,xbf];have hc0:aZ l 0=x->0<l'.count x:=λe=>by rw[xbJ,<-e,<-g0];exact xaG _
  by_cases e1:aZ l 0=x
  ·have:=hc0 e1;by_cases e2:aZ l n=x<;>simp[e1,e2]<;>omega
  by_cases e2:aZ l n=x<;>simp[e1,e2]
 have Be:∀j,j<n->j≠0->aZ (l'.set 0 (aZ l n)) j=aZ l j:=λj hj h0=>by
  rw[gZ _ zO];simp[ig,h0,l',aZ,List.getD,hj]
 have hO:jW (l'.set 0 (aZ l n)):=by
  have:=(h1.perm c8:jW _);unfold jW at this⊢;simp only[xaB,xaV]at this;exact this.2
 refine⟨?_,c8,⟨λj j0 jn jp=>?_,λj j0 jn jp h=>by omega⟩,hO,λj hj YI=>?_,λx hx=>?_⟩
 ·cases hh:l' with
  |nil=>rw[hh]at hl';simp at hl';omega
  |cons a r=>simp
 ·unfold E;rw[Be j jn zO,Be _ zO jp];exact ho j j0 zO
 ·simp only[xbN,hl']at hj;rw[Be j hj YI];unfold D6;rw[xab (λe=>YI (h1.inj zO zO e))];exact hc.1 j zO
 unfold D6;by_cases e:x=(aZ l 0).1
 ·rw[xae e]
 rw[xab e];refine hc.2 x λhm=>hx ?_;have:=(c8.map Prod.fst).mem_iff.2 hm;simp only[xaB,xak]at this;rcases this with h|h
 ·exact absurd h e
 exact h
end S9
set_option maxRecDepth 100000
namespace Go.Proofs
open Go Go.Sx
open S9
abbrev Ty:=HO .i64 397 395
abbrev Wq:=HI .i64 397 395
theorem wD(a b:It)(B:Hp):Rd zQ 381 #[.agg #[iv a.1,iv a.2],.agg #[iv b.1,iv b.2]] B (· =.bool (prec a b)):=by
 refine aF λg=>GH ?_;intro b1 _ b2 _
 (repeat (first|apply Nil.ptr|apply ai.mk|refine Ld.mk zM rfl ?_|apply aO.mk|apply ae.eql|apply ae.lss|apply ae.geq|apply Un.not|apply Br.yes|apply Br.no|apply ae.aD|refine Ext.mk rfl ?_))
 refine cf.or (a.2==b.2&&decide (a.1<b.1)) (λ_=>?_) rfl λ_=>bc.mk (.skip .tail) rfl
 (repeat (first|apply Nil.ptr|apply ai.mk|refine Ld.mk zM rfl ?_|apply aO.mk|apply ae.eql|apply ae.lss|apply ae.geq|apply Un.not|apply Br.yes|apply Br.no|apply ae.aD|refine Ext.mk rfl ?_))
 refine cf.and (decide (a.1<b.1)) (λ_=>?_) rfl λ_=>⟨rfl,rfl⟩
 (repeat (first|apply Nil.ptr|apply ai.mk|refine Ld.mk zM rfl ?_|apply aO.mk|apply ae.eql|apply ae.lss|apply ae.geq|apply Un.not|apply Br.yes|apply Br.no|apply ae.aD|refine Ext.mk rfl ?_))
 exact⟨rfl,rfl⟩
theorem qV{h:zV}{l:List It}{f:Int->Option Nat}{C:Hp}(ho:Ty h l f C){i:Nat}(hi:i<l.length)(a:It):
  Fc zQ 333 #[h,iv (i:Int),.agg #[iv a.1,iv a.2]] C (λv C'=>v=.tuple #[]/\Ty h (l.set i a) (D6 f a.1 (some i)) C'):=by
 obtain⟨bh,la,mb,aJ,Cm,rfl,rfl,aH,hm⟩:=ho.open zO;refine aF λg=>Hi ?_;intro b1 _;refine DR.self ?_
 (repeat (first|apply Nil.ptr|apply ai.mk|refine Ld.mk zM rfl ?_|apply aO.mk|apply ae.eql|apply ae.lss|apply ae.geq|apply Un.not|apply Br.yes|apply Br.no|apply ae.aD|refine Ext.mk rfl ?_))
 refine ay.whole (r:=enc .i64 a) zM rfl ?_;refine au.nat hi ?_;refine St.row (l:=eR .i64 l++aJ) (by repeat (first|exact c6.head _|apply c6.tail|apply c6.ca)) aH (by rw[xaf,cS];omega) rfl (oQ _ _) ?_;refine DR.self ?_
 (repeat (first|apply Nil.ptr|apply ai.mk|refine Ld.mk zM rfl ?_|apply aO.mk|apply ae.eql|apply ae.lss|apply ae.geq|apply Un.not|apply Br.yes|apply Br.no|apply ae.aD|refine Ext.mk rfl ?_))
 rw[<-xaL Cm];refine kV.bg (p:=i) (A:=[_,_,_]) (B:=[]) hm λC' hm'=>?_;refine⟨_,_,rfl,.tail,rfl,?_⟩;rw[Sc hi,xaL];exact .shut (P1 aH _ _) zI zI hm'
theorem Yk{h:zV}{l:List It}{f:Int->Option Nat}{C:Hp}(ho:Ty h l f C){i:Nat}(hi:i<l.length)(cA:l.length<4611686018427387904)(hu:zh l.length (aZ l) i)(hc:ni l f i)(hO:jW l):
  Fc zQ 332 #[h,iv (i:Int)] C (λv C'=>v=.tuple #[]/\∃l' f' p,Ty h l' f' C'/\l'.Perm l/\Cons l' f'/\Ws l'.length (aZ l') p/\p<l'.length/\aZ l' p=aZ l i/\
   (oT l.length (aZ l) i->Ord l'.length (aZ l'))):=by
 obtain⟨bh,la,mb,aJ,Cm,rfl,rfl,aH,hm⟩:=ho.open zO;obtain⟨n,hn⟩:∃n,n=l.length:=⟨_,rfl⟩;obtain⟨a,ha⟩:∃a,a=aZ l i:=⟨_,rfl⟩;refine aF λg=>Hl ?_
 (repeat (first|apply Nil.ptr|apply ai.mk|refine Ld.mk zM rfl ?_|apply aO.mk|apply ae.eql|apply ae.lss|apply ae.geq|apply Un.not|apply Br.yes|apply Br.no|apply ae.aD|refine Ext.mk rfl ?_))
 refine au.nat hi ?_;refine ay.row (l:=eR .i64 l++aJ) zM aH (fV hi aJ) ?_;intro b6 _;refine St.p (oQ _ _) ?_;rw[<-ha];refine⟨λvs H=>∃(j:Nat) (L:List It) (f:Int->Option Nat) (C:Hp),vs=[iv (j:Int)]/\H=(b6,Obj.cells (enc .i64 a).toArray 397 (0,0))::C/\Ty (.pointer (some ⟨bh,0,none⟩)) L f C/\L.length=n/\j<n/\
   (L.set j a).Perm l/\zh n (aZ (L.set j a)) j/\ni (L.set j a) f j/\(oT n (aZ l) i->oT n (aZ (L.set j a)) j),
  λvs _=>bL vs 0,.mk ⟨i,l,f,_,rfl,rfl,ho,hn.symm,by omega,?_,?_,?_,?_⟩,?_⟩
 ·exact(by rw[ha,pQ hi])
 ·rw[ha,pQ hi,hn];exact hu
 ·rw[ha,pQ hi];exact hc
 ·rw[ha,pQ hi];exact id
 rintro w H ⟨j,L,f,C,hw,rfl,ho,hLn,hj,hp,hu,hc,kG⟩ gs;simp only[xau,xa0]at hw;subst hw;have ZY:=ho;obtain⟨bh',la,mb,aJ,Cm,hbh,rfl,aH,hm⟩:=ho.open zO;simp only[Value.pointer.injEq,xaq,Addr.mk.injEq,xa0]at hbh;subst hbh;have hOV:jW (L.set j a):=hO.perm hp;have ZZ:(L.set j a).length=n:=by simp[hLn]
 have Xg:aZ (L.set j a) j=a:=by rw[gZ a zO];simp[ig]
 have hVq:0<j->aZ (L.set j a) ((j-1) /2)=aZ L ((j-1) /2):=λh0=>by rw[gZ a zO];simp[ig,show¬((j-1) /2=j)from by omega]
 intro J hJ;have hend:¬(0<j/\prec a (aZ L ((j-1) /2))=true)->J [.bool false] ((b6,Obj.cells (enc .i64 a).toArray 397 (0,0))::(bh,Obj.cells #[.slice (some ⟨la,0,none⟩) L.length (L.length+aJ.length),.map (some mb)] 395 (0,0))::(la,.cells (rows (eR .i64 L++aJ)) 397 (0,0))::Cm):=λhno=>hJ _ _ λgs=>by
  refine Br.no (ay.q ?_);refine aa.fq (qV ZY (i:=j) zO a) ?_;rintro v C' ⟨rfl,cC⟩;have hd:=hc.done hOV zO;rw[Xg]at hd;have hex:=TL hu (by
   by_cases h0:j=0
   ·exact .inl h0
   right;rw[Xg,hVq zO];cases h:prec a (aZ L ((j-1) /2))
   ·rfl
   exact absurd ⟨by omega,h⟩ hno)
  rw[<-ZZ]at hex;exact⟨_,_,rfl,.tail,rfl,_,_,j,cC,hp,hd,hex,by omega,by rw[Xg,ha],λhk=>yU hex (by rw[ZZ];exact kG (by rw[hn];exact hk))⟩
 refine DR.self (ae.gtr (Br.dec (λh0=>?_) (λh0=>JE.mk (hend (λh=>h0 zO)))));have h0:0<j:=by omega
 refine ay.q ?_
 (repeat (first|apply Nil.ptr|apply ai.mk|refine Ld.mk zM rfl ?_|apply aO.mk|apply ae.eql|apply ae.lss|apply ae.geq|apply Un.not|apply Br.yes|apply Br.no|apply ae.aD|refine Ext.mk rfl ?_))
 refine ae.kx (c:=((j-1:Nat):Int)) zO zO (ae.P4 zD (XP j h0) zO (au.nat zO ?_));refine ay.row (l:=eR .i64 L++aJ) zM aH (fV zO aJ) ?_;intro F;refine aa.eq (wD a _ _) (⟨.refl _,?_⟩);cases W0:prec a (aZ L ((j-1) /2))with
 |false=>exact aI.mk (JE.mk (hend (λh=>by rw[W0]at h;exact absurd h.2 zD)))
 |true=>
 refine aI.mk (JE.mk (hJ _ _ λgs=>Br.yes ?_))
 (repeat (first|apply Nil.ptr|apply ai.mk|refine Ld.mk zM rfl ?_|apply aO.mk|apply ae.eql|apply ae.lss|apply ae.geq|apply Un.not|apply Br.yes|apply Br.no|apply ae.aD|refine Ext.mk rfl ?_))
 refine ae.kx (c:=((j-1:Nat):Int)) zO zO (ae.P4 zD (XP j h0) zO (au.nat zO ?_));refine ay.row (l:=eR .i64 L++aJ) zM aH (fV zO aJ) ?_;refine aa.fq (qV ZY (i:=j) zO (aZ L ((j-1) /2))) ?_;rintro v C' ⟨rfl,cC⟩;refine ae.kx (c:=((j-1:Nat):Int)) zO zO (ae.P4 zD (XP j h0) zO ?_);have hst:=TK h0 (by rw[<-ZZ]at hj;rw[ZZ]at hj;exact hj) hu (by rw[Xg,hVq h0];exact W0);have hcs:=hc.step hOV (i:=j) (q:=(j-1) /2) zO zO zO;have hpp:=(swap_perm (l:=L.set j a) (i:=j) (q:=(j-1) /2) zO zO zO).trans hp;have YW:(L.set j (aZ L ((j-1) /2))).set ((j-1) /2) a=((L.set j a).set j (aZ (L.set j a) ((j-1) /2))).set ((j-1) /2) (aZ (L.set j a) j):=(uK a zO zO zO).symm;have Be:aZ ((L.set j (aZ L ((j-1) /2))).set ((j-1) /2) a)=ig (ig (aZ (L.set j a)) j (aZ (L.set j a) ((j-1) /2))) ((j-1) /2) (aZ (L.set j a) j):=by
  rw[YW,gZ _ zP,gZ _ zO]
 refine aC.mk ⟨(j-1) /2,_,_,C',rfl,rfl,cC,by simp[hLn],by omega,?_,?_,?_,λ_=>?_⟩ ?_
 ·rw[YW];exact hpp
 ·rw[Be];exact hst.1
 ·rw[YW];rw[hVq h0]at hcs⊢;exact hcs
 ·rw[Be];exact hst.2
 simp only[bL,xbe];omega
theorem Ry{h:zV}{l:List It}{f:Int->Option Nat}{C:Hp}(ho:Ty h l f C){i:Nat}(hi:i<l.length)(cA:l.length<4611686018427387904)(hu:Ws l.length (aZ l) i)(hc:ni l f i)(hO:jW l):
  Fc zQ 334 #[h,iv (i:Int)] C (λv C'=>v=.tuple #[]/\∃l' f',Ty h l' f' C'/\l'.Perm l/\Cons l' f'/\Ord l'.length (aZ l')):=by
 obtain⟨bh,la,mb,aJ,Cm,rfl,rfl,aH,hm⟩:=ho.open zO;obtain⟨n,hn⟩:∃n,n=l.length:=⟨_,rfl⟩;obtain⟨a,ha⟩:∃a,a=aZ l i:=⟨_,rfl⟩;refine aF λg=>Hh ?_
 (repeat (first|apply Nil.ptr|apply ai.mk|refine Ld.mk zM rfl ?_|apply aO.mk|apply ae.eql|apply ae.lss|apply ae.geq|apply Un.not|apply Br.yes|apply Br.no|apply ae.aD|refine Ext.mk rfl ?_))
 refine au.nat hi ?_;refine ay.row (l:=eR .i64 l++aJ) zM aH (fV hi aJ) ?_;intro b6 _;refine St.p (oQ _ _) ?_;rw[<-ha];refine⟨λvs H=>∃(j:Nat) (L:List It) (f:Int->Option Nat) (C:Hp),vs=[iv (j:Int)]/\H=(b6,Obj.cells (enc .i64 a).toArray 397 (0,0))::C/\Ty (.pointer (some ⟨bh,0,none⟩)) L f C/\L.length=n/\j<n/\
   (L.set j a).Perm l/\Ws n (aZ (L.set j a)) j/\ni (L.set j a) f j,
  λvs _=>n-bL vs 0,.mk ⟨i,l,f,_,rfl,rfl,ho,hn.symm,by omega,?_,?_,?_⟩,?_⟩
 ·exact(by rw[ha,pQ hi])
 ·rw[ha,pQ hi,hn];exact hu
 ·rw[ha,pQ hi];exact hc
 rintro w H ⟨j,L,f,C,hw,rfl,ho,hLn,hj,hp,hu,hc⟩ gs;simp only[xau,xa0]at hw;subst hw;have ZY:=ho;obtain⟨bh',la,mb,aJ,Cm,hbh,rfl,aH,hm⟩:=ho.open zO;simp only[Value.pointer.injEq,xaq,Addr.mk.injEq,xa0]at hbh;subst hbh;have hOV:jW (L.set j a):=hO.perm hp;have ZZ:(L.set j a).length=n:=by simp[hLn]
 have Xg:aZ (L.set j a) j=a:=by rw[gZ a zO];simp[ig]
 have hVL:∀c,c≠j->aZ (L.set j a) c=aZ L c:=λc h0=>by rw[gZ a zO];simp[ig,h0]
 refine ae.aaN (c:=((2*j:Nat):Int)) zO zO (ae.wE (c:=((2*j+1:Nat):Int)) zO zO ?_);intro J hJ;obtain⟨c,hcd⟩:∃c,c=yF n (aZ (L.set j a)) j:=⟨_,rfl⟩;have hkc:=r7 n (aZ (L.set j a)) j;rw[<-hcd]at hkc;have jj:J [iv (c:Int)] ((b6,Obj.cells (enc .i64 a).toArray 397 (0,0))::(bh,Obj.cells #[.slice (some ⟨la,0,none⟩) L.length (L.length+aJ.length),.map (some mb)] 395 (0,0))::(la,.cells (rows (eR .i64 L++aJ)) 397 (0,0))::Cm):=by
  refine hJ _ _ λgs2=>?_;intro J2 Bg;have hstop:n<=c\/prec (aZ L c) a=false->J2 [.bool true] ((b6,Obj.cells (enc .i64 a).toArray 397 (0,0))::(bh,Obj.cells #[.slice (some ⟨la,0,none⟩) L.length (L.length+aJ.length),.map (some mb)] 395 (0,0))::(la,.cells (rows (eR .i64 L++aJ)) 397 (0,0))::Cm):=λhst=>Bg _ _ λgs=>by
   refine Br.yes (ay.q ?_);refine aa.fq (qV ZY (i:=j) zO a) ?_;rintro v C' ⟨rfl,cC⟩;have hd:=hc.done hOV zO;rw[Xg]at hd;have hex:=No hu (by
    rw[<-hcd];by_cases h0:n<=c
    ·exact .inl h0
    right;rw[Xg,hVL c zO];rcases hst with h|h
    ·omega
    exact h)
   rw[<-ZZ]at hex;exact⟨_,_,rfl,.tail,rfl,_,_,cC,hp,hd,hex⟩
  refine DR.self ?_
  (repeat (first|apply Nil.ptr|apply ai.mk|refine Ld.mk zM rfl ?_|apply aO.mk|apply ae.eql|apply ae.lss|apply ae.geq|apply Un.not|apply Br.yes|apply Br.no|apply ae.aD|refine Ext.mk rfl ?_))
  refine Br.dec (λh0=>JE.mk (hstop (.inl zO))) (λh0=>?_);have h0:c<n:=by omega
  (repeat (first|apply Nil.ptr|apply ai.mk|refine Ld.mk zM rfl ?_|apply aO.mk|apply ae.eql|apply ae.lss|apply ae.geq|apply Un.not|apply Br.yes|apply Br.no|apply ae.aD|refine Ext.mk rfl ?_))
  refine au.nat zO ?_;refine ay.row (l:=eR .i64 L++aJ) zM aH (fV zO aJ) ?_;refine ay.q ?_;intro F;refine aa.eq (wD _ a _) (⟨.refl _,Un.not ?_⟩);cases W0:prec (aZ L c) a with
  |false=>exact aI.mk (JE.mk (hstop (.inr W0)))
  |true=>
  refine aI.mk (JE.mk (Bg _ _ λgs=>Br.no ?_))
  (repeat (first|apply Nil.ptr|apply ai.mk|refine Ld.mk zM rfl ?_|apply aO.mk|apply ae.eql|apply ae.lss|apply ae.geq|apply Un.not|apply Br.yes|apply Br.no|apply ae.aD|refine Ext.mk rfl ?_))
  refine au.nat zO ?_;refine ay.row (l:=eR .i64 L++aJ) zM aH (fV zO aJ) ?_;refine aa.fq (qV ZY (i:=j) zO (aZ L c)) ?_;rintro v C' ⟨rfl,cC⟩;have hcj:c≠j:=by omega
  have hst:=sD hu (by rw[<-hcd];exact h0) (by rw[<-hcd,Xg,hVL c hcj];exact W0);rw[<-hcd]at hst;have hcs:=hc.step hOV (i:=j) (q:=c) zO zO hcj;have hpp:=(swap_perm (l:=L.set j a) (i:=j) (q:=c) zO zO hcj).trans hp;have YW:(L.set j (aZ L c)).set c a=((L.set j a).set j (aZ (L.set j a) c)).set c (aZ (L.set j a) j):=(uK a zO zO hcj).symm;have Be:aZ ((L.set j (aZ L c)).set c a)=ig (ig (aZ (L.set j a)) j (aZ (L.set j a) c)) c (aZ (L.set j a) j):=by
   rw[YW,gZ _ zP,gZ _ zO]
  refine aC.mk ⟨c,_,_,C',rfl,rfl,cC,by simp[hLn],by omega,?_,?_,?_⟩ ?_
  ·rw[YW];exact hpp
  ·rw[Be];exact hst
  ·rw[YW];rw[hVL c hcj]at hcs⊢;exact hcs
  simp only[bL,xbe];omega
 intro J3 hJ3;have hkd:yF n (aZ (L.set j a)) j=if(decide (2*j+1+1<n) &&prec (aZ L (2*j+1+1)) (aZ L (2*j+1)))=true then 2*j+1+1 else 2*j+1:=by
  unfold yF;rw[hVL _ zO,hVL _ zO]
 rw[hkd]at hcd;have hno:¬(2*j+1+1<n/\prec (aZ L (2*j+1+1)) (aZ L (2*j+1))=true)->J3 [.bool false] ((b6,Obj.cells (enc .i64 a).toArray 397 (0,0))::(bh,Obj.cells #[.slice (some ⟨la,0,none⟩) L.length (L.length+aJ.length),.map (some mb)] 395 (0,0))::(la,.cells (rows (eR .i64 L++aJ)) 397 (0,0))::Cm):=λhx=>hJ3 _ _ λgs=>by
  rw[xab (by simpa using hx)]at hcd;rw[hcd]at jj;exact Br.no (.mk jj)
 refine DR.self (ae.wE (c:=((2*j+1+1:Nat):Int)) zO zO ?_)
 (repeat (first|apply Nil.ptr|apply ai.mk|refine Ld.mk zM rfl ?_|apply aO.mk|apply ae.eql|apply ae.lss|apply ae.geq|apply Un.not|apply Br.yes|apply Br.no|apply ae.aD|refine Ext.mk rfl ?_))
 refine Br.dec (λh0=>?_) (λh0=>JE.mk (hno (λh=>h0 zO)));have h0:2*j+1+1<n:=by omega
 (repeat (first|apply Nil.ptr|apply ai.mk|refine Ld.mk zM rfl ?_|apply aO.mk|apply ae.eql|apply ae.lss|apply ae.geq|apply Un.not|apply Br.yes|apply Br.no|apply ae.aD|refine Ext.mk rfl ?_))
 refine ae.wE (c:=((2*j+1+1:Nat):Int)) zO zO (au.nat zO ?_);refine ay.row (l:=eR .i64 L++aJ) zM aH (fV zO aJ) ?_
 (repeat (first|apply Nil.ptr|apply ai.mk|refine Ld.mk zM rfl ?_|apply aO.mk|apply ae.eql|apply ae.lss|apply ae.geq|apply Un.not|apply Br.yes|apply Br.no|apply ae.aD|refine Ext.mk rfl ?_))
 refine au.nat zO ?_;refine ay.row (l:=eR .i64 L++aJ) zM aH (fV zO aJ) ?_;intro F;refine aa.eq (wD _ _ _) (⟨.refl _,?_⟩);cases W0:prec (aZ L (2*j+1+1)) (aZ L (2*j+1))with
 |false=>exact aI.mk (JE.mk (hno (λh=>by rw[W0]at h;exact absurd h.2 zD)))
 |true=>
 refine aI.mk (JE.mk (hJ3 _ _ λgs=>Br.yes ?_));refine ae.wE (c:=((2*j+1+1:Nat):Int)) zO zO ?_;rw[xae (by simp[h0,W0])]at hcd;rw[hcd]at jj;exact .mk jj
theorem Vh(B:Hp):Fc zQ 261 #[] B (λv H=>∃b C,v=.pointer (some ⟨b,0,none⟩)/\H=C++B/\Wq (.pointer (some ⟨b,0,none⟩)) [] C):=by
 refine aF λg=>Io ?_;refine Build.mk (cs:=[.slice none 0 0,.map none]) zK ?_;intro b _;exact⟨_,_,rfl,.refl _,b,[_],rfl,rfl,λ_=>none,⟨b,_,_,[],[],rfl,rfl,aV.nil _ _,.inl ⟨rfl,rfl,rfl⟩,λ_=>rfl⟩,⟨λj hj=>by simp at hj,λ_ _=>rfl⟩,λj _ hj=>by simp at hj,by simp[jW]⟩
theorem Q5{h:zV}{l:List It}{C:Hp}(hi:Wq h l C)(cA:l.length<4398046511104)(x k:Int):
  Fc zQ 263 #[h,iv x,iv k] C (λv C'=>∃l',Wq h l' C'/\
   ((x∈l.map Prod.fst/\v=iv 11/\l'=l)\/(x∉l.map Prod.fst/\v=iv 0/\l'.Perm ((x,k)::l)))):=by
 have Fx:=hi;obtain⟨f,ho,hc,hO,h1⟩:=hi;have ZY:=ho;obtain⟨bh,sv,mv,Cs,Cm,rfl,rfl,hs,hm,hne⟩:=ho;refine aF λg=>Il ?_
 (repeat (first|apply Nil.ptr|refine ai.mk ?_|refine Ld.mk zM rfl ?_|refine aO.mk ?_|refine ae.eql ?_|refine ae.neq ?_|refine ae.lss ?_|refine ae.leq ?_|refine ae.gtr ?_|refine ae.geq ?_|apply Un.not|refine Ext.mk rfl ?_|refine aI.mk ?_|refine ae.aD ?_|refine ae.kR ?_|refine ae.jS ?_|apply Br.yes|apply Br.no))
 rcases So hc (x:=x)with⟨hx,hf⟩|⟨i,hi,hx,hf⟩
 ·refine hm.MI zS hf ?_
  (repeat (first|apply Nil.ptr|refine ai.mk ?_|refine Ld.mk zM rfl ?_|refine aO.mk ?_|refine ae.eql ?_|refine ae.neq ?_|refine ae.lss ?_|refine ae.leq ?_|refine ae.gtr ?_|refine ae.geq ?_|apply Un.not|refine Ext.mk rfl ?_|refine aI.mk ?_|refine ae.aD ?_|refine ae.kR ?_|refine ae.jS ?_|apply Br.yes|apply Br.no))
  intro J hJ;obtain⟨ud,lP,Tj,ZW⟩:=P8 (a:=(x,k)) hc hO h1 hx;have jj:∀mb Xw,kV .i64 idx (.map (some mb)) f Xw->J [] ((bh,Obj.cells #[sv,.map (some mb)] 395 (0,0))::(Cs++Xw)):=by
   intro mb Xw hm';refine hJ _ λgs=>?_
   (repeat (first|apply Nil.ptr|refine ai.mk ?_|refine Ld.mk zM rfl ?_|refine aO.mk ?_|refine ae.eql ?_|refine ae.neq ?_|refine ae.lss ?_|refine ae.leq ?_|refine ae.gtr ?_|refine ae.geq ?_|apply Un.not|refine Ext.mk rfl ?_|refine aI.mk ?_|refine ae.aD ?_|refine ae.kR ?_|refine ae.jS ?_|apply Br.yes|apply Br.no))
   refine Build.mk (cs:=enc .i64 (x,k)) zK ?_;refine av.one (k:=2) (e:=397) (z:=.agg #[iv 0,iv 0]) zK zK zK zD rfl λxb=>?_;refine hs.Gg (A:=[_,_]) (B:=Xw) (r:=enc .i64 (x,k)) zM rfl (oQ _ _) ⟨[iv 0,iv 0],rfl,rfl⟩ (by rw[cS];omega) (by rw[cS];omega) λv' C' hs'=>?_
   (repeat (first|apply Nil.ptr|refine ai.mk ?_|refine Ld.mk zM rfl ?_|refine aO.mk ?_|refine ae.eql ?_|refine ae.neq ?_|refine ae.lss ?_|refine ae.leq ?_|refine ae.gtr ?_|refine ae.geq ?_|apply Un.not|refine Ext.mk rfl ?_|refine aI.mk ?_|refine ae.aD ?_|refine ae.kR ?_|refine ae.jS ?_|apply Br.yes|apply Br.no))
   refine St.one (by repeat (first|exact c6.head _|apply c6.tail|apply c6.ca)) (by obtain⟨a,c,rfl⟩:=hs'.len;rfl) zI rfl ?_
   (repeat (first|apply Nil.ptr|refine ai.mk ?_|refine Ld.mk zM rfl ?_|refine aO.mk ?_|refine ae.eql ?_|refine ae.neq ?_|refine ae.lss ?_|refine ae.leq ?_|refine ae.gtr ?_|refine ae.geq ?_|apply Un.not|refine Ext.mk rfl ?_|refine aI.mk ?_|refine ae.aD ?_|refine ae.kR ?_|refine ae.jS ?_|apply Br.yes|apply Br.no))
   refine hs'.bP ?_;refine ae.kx (c:=((l.length:Nat):Int)) (by rw[xaf,cS];simp) zO ?_;have sg:aV 397 2 v' (eR .i64 (l++[(x,k)])) C':=by simpa[eR]using hs'
   have cC:Ty (.pointer (some ⟨bh,0,none⟩)) (l++[(x,k)]) f ((bh,Obj.cells #[v',.map (some mb)] 395 (0,0))::(C'++Xw)):=
    ⟨bh,_,_,C',Xw,rfl,rfl,sg,hm',λh=>by simp at h⟩
   refine aa.pre (.tail) ?_;refine aa.fq (Yk cC (i:=l.length) zI zP ud lP Tj) ?_;rintro v C'' ⟨rfl,l',f',p,rH,c8,hc2,hex,hp,Be,aeW⟩;refine⟨_,_,rfl,.refl _,l',⟨f',rH,hc2,aeW ZW,Tj.perm c8⟩,.inr ⟨hx,rfl,c8.trans ?_⟩⟩;exact xbb (l₁:=l) (l₂:=[(x,k)])
  (repeat (first|apply Nil.ptr|refine ai.mk ?_|refine Ld.mk zM rfl ?_|refine aO.mk ?_|refine ae.eql ?_|refine ae.neq ?_|refine ae.lss ?_|refine ae.leq ?_|refine ae.gtr ?_|refine ae.geq ?_|apply Un.not|refine Ext.mk rfl ?_|refine aI.mk ?_|refine ae.aD ?_|refine ae.kR ?_|refine ae.jS ?_|apply Br.yes|apply Br.no))
  rcases hm with⟨rfl,rfl,hfn⟩|⟨mb,m,ck,rfl,h2⟩
  ·(repeat (first|apply Nil.ptr|refine ai.mk ?_|refine Ld.mk zM rfl ?_|refine aO.mk ?_|refine ae.eql ?_|refine ae.neq ?_|refine ae.lss ?_|refine ae.leq ?_|refine ae.gtr ?_|refine ae.geq ?_|apply Un.not|refine Ext.mk rfl ?_|refine aI.mk ?_|refine ae.aD ?_|refine ae.kR ?_|refine ae.jS ?_|apply Br.yes|apply Br.no))
   intro mb _
   (repeat (first|apply Nil.ptr|refine ai.mk ?_|refine Ld.mk zM rfl ?_|refine aO.mk ?_|refine ae.eql ?_|refine ae.neq ?_|refine ae.lss ?_|refine ae.leq ?_|refine ae.gtr ?_|refine ae.geq ?_|apply Un.not|refine Ext.mk rfl ?_|refine aI.mk ?_|refine ae.aD ?_|refine ae.kR ?_|refine ae.jS ?_|apply Br.yes|apply Br.no))
   refine St.one (by repeat (first|exact c6.head _|apply c6.tail|apply c6.ca)) rfl zI rfl ?_;refine JE.of ?_ (jj mb _ (by rw[hfn];exact kV.made mb));simp only[xaL];refine .perm ?_;refine(List.Perm.swap _ _ _).trans (.cons _ ?_);exact xbb (l₁:=[_])
  (repeat (first|apply Nil.ptr|refine ai.mk ?_|refine Ld.mk zM rfl ?_|refine aO.mk ?_|refine ae.eql ?_|refine ae.neq ?_|refine ae.lss ?_|refine ae.leq ?_|refine ae.gtr ?_|refine ae.geq ?_|apply Un.not|refine Ext.mk rfl ?_|refine aI.mk ?_|refine ae.aD ?_|refine ae.kR ?_|refine ae.jS ?_|apply Br.yes|apply Br.no))
  exact JE.mk (jj mb Cm (.inr ⟨mb,m,ck,rfl,h2⟩))
 refine hm.MH zS hf ?_
 (repeat (first|apply Nil.ptr|refine ai.mk ?_|refine Ld.mk zM rfl ?_|refine aO.mk ?_|refine ae.eql ?_|refine ae.neq ?_|refine ae.lss ?_|refine ae.leq ?_|refine ae.gtr ?_|refine ae.geq ?_|apply Un.not|refine Ext.mk rfl ?_|refine aI.mk ?_|refine ae.aD ?_|refine ae.kR ?_|refine ae.jS ?_|apply Br.yes|apply Br.no))
 refine⟨_,_,rfl,.refl _,l,Fx,.inl ⟨?_,rfl,rfl⟩⟩;rw[iy];exact⟨i,hi,hx⟩
theorem Vf{h:zV}{l:List It}{C:Hp}(hi:Wq h l C)(cA:l.length<4398046511104):
  Fc zQ 265 #[h] C (λv C'=>∃l',Wq h l' C'/\
   ((l=[]/\v=.tuple #[iv 0,iv 0,iv 10]/\l'=l)\/(∃a,l.Perm (a::l')/\(∀b∈l,prec b a=false)/\v=.tuple #[iv a.1,iv a.2,iv 0]))):=by
 have Fx:=hi;obtain⟨f,ho,hc,hO,h1⟩:=hi;by_cases hl:l=[]
 ·subst hl;refine aF λg=>wX ?_;obtain⟨bh,sv,mv,Cs,Cm,rfl,rfl,hs,hm,hne⟩:=ho
  (repeat (first|apply Nil.ptr|apply ai.mk|refine Ld.mk zM rfl ?_|apply aO.mk|apply ae.eql|apply ae.lss|apply ae.geq|apply Un.not|apply Br.yes|apply Br.no|apply ae.aD|refine Ext.mk rfl ?_))
  refine cf.or true (λ_=>?_) rfl λ_=>?_
  ·(repeat (first|apply Nil.ptr|apply ai.mk|refine Ld.mk zM rfl ?_|apply aO.mk|apply ae.eql|apply ae.lss|apply ae.geq|apply Un.not|apply Br.yes|apply Br.no|apply ae.aD|refine Ext.mk rfl ?_))
   refine hs.bP ?_
   (repeat (first|apply Nil.ptr|apply ai.mk|refine Ld.mk zM rfl ?_|apply aO.mk|apply ae.eql|apply ae.lss|apply ae.geq|apply Un.not|apply Br.yes|apply Br.no|apply ae.aD|refine Ext.mk rfl ?_))
   exact⟨rfl,rfl⟩
  (repeat (first|apply Nil.ptr|apply ai.mk|refine Ld.mk zM rfl ?_|apply aO.mk|apply ae.eql|apply ae.lss|apply ae.geq|apply Un.not|apply Br.yes|apply Br.no|apply ae.aD|refine Ext.mk rfl ?_))
  exact⟨_,_,rfl,.refl _,[],Fx,.inl ⟨rfl,rfl,rfl⟩⟩
 obtain⟨n,hn⟩:∃n,l.length=n+1:=⟨l.length-1,by have:=xda.2 hl;omega⟩;have hmin:∀b∈l,prec b (aZ l 0)=false:=λb hb=>by
  obtain⟨j,hj,e⟩:=xba.1 hb;have:=Uv hO j hj;rwa [show aZ l j=b by simp[aZ,List.getD,hj,e]]at this
 intro g;refine wX (R:=aN _) ?_;obtain⟨bh,la,mb,aJ,Cm,rfl,rfl,aH,hm⟩:=ho.open zO;unfold L265
 (repeat (first|apply Nil.ptr|apply ai.mk|refine Ld.mk zM rfl ?_|apply aO.mk|apply ae.eql|apply ae.lss|apply ae.geq|apply Un.not|apply Br.yes|apply Br.no|apply ae.aD|refine Ext.mk rfl ?_))
 refine cf.or false (λ_=>?_) rfl λ_=>?_
 ·(repeat (first|apply Nil.ptr|apply ai.mk|refine Ld.mk zM rfl ?_|apply aO.mk|apply ae.eql|apply ae.lss|apply ae.geq|apply Un.not|apply Br.yes|apply Br.no|apply ae.aD|refine Ext.mk rfl ?_))
  exact⟨rfl,by rw[hn];simp;omega⟩
 (repeat (first|apply Nil.ptr|apply ai.mk|refine Ld.mk zM rfl ?_|apply aO.mk|apply ae.eql|apply ae.lss|apply ae.geq|apply Un.not|apply Br.yes|apply Br.no|apply ae.aD|refine Ext.mk rfl ?_))
 refine au.of 0 rfl zO ?_;refine ay.row (l:=eR .i64 l++aJ) zM aH (fV zO aJ) ?_;intro sH _;refine St.p (oQ _ _) ?_
 (repeat (first|apply Nil.ptr|apply ai.mk|refine Ld.mk zM rfl ?_|apply aO.mk|apply ae.eql|apply ae.lss|apply ae.geq|apply Un.not|apply Br.yes|apply Br.no|apply ae.aD|refine Ext.mk rfl ?_))
 refine ae.kx (c:=(n:Int)) (by rw[hn];simp) zO ?_
 (repeat (first|apply Nil.ptr|apply ai.mk|refine Ld.mk zM rfl ?_|apply aO.mk|apply ae.eql|apply ae.lss|apply ae.geq|apply Un.not|apply Br.yes|apply Br.no|apply ae.aD|refine Ext.mk rfl ?_))
 refine au.nat zO ?_;refine ay.row (l:=eR .i64 l++aJ) zM aH (fV zO aJ) ?_;intro b27 _;refine St.p (oQ _ _) ?_
 (repeat (first|apply Nil.ptr|apply ai.mk|refine Ld.mk zM rfl ?_|apply aO.mk|apply ae.eql|apply ae.lss|apply ae.geq|apply Un.not|apply Br.yes|apply Br.no|apply ae.aD|refine Ext.mk rfl ?_))
 refine gw.upto (h:=n) zO ?_
 (repeat (first|apply Nil.ptr|apply ai.mk|refine Ld.mk zM rfl ?_|apply aO.mk|apply ae.eql|apply ae.lss|apply ae.geq|apply Un.not|apply Br.yes|apply Br.no|apply ae.aD|refine Ext.mk rfl ?_))
 refine St.one (by repeat (first|exact c6.head _|apply c6.tail|apply c6.ca)) rfl zI rfl ?_;refine DR.self ?_
 (repeat (first|apply Nil.ptr|apply ai.mk|refine Ld.mk zM rfl ?_|apply aO.mk|apply ae.eql|apply ae.lss|apply ae.geq|apply Un.not|apply Br.yes|apply Br.no|apply ae.aD|refine Ext.mk rfl ?_))
 rw[<-xaL Cm];refine kV.del (A:=[_,_,_,_]) (B:=[]) hm λXw hm'=>?_;rw[xaL];have WZ:eR .i64 l++aJ=eR .i64 (l.take n)++(enc .i64 (aZ l n)::aJ):=by
  have e:l=l.take n++[aZ l n]:=by
   have h2:l.drop n=[aZ l n]:=by
    rw[xbs zO,xdi zO];simp[hn,aZ,List.getD]
   have:=(xbr n l).symm;rw[h2]at this;exact this
  conv=>lhs;rw[e]
  simp[eR]
 have RJ:∀r∈eR .i64 (l.take n)++(enc .i64 (aZ l n)::aJ),r.length=2:=by rw[<-WZ];exact aH
 intro J hJ;have hlt:(l.take n).length=n:=by simp[hn]
 have jj:∀l' C',Wq (.pointer (some ⟨bh,0,none⟩)) l' C'->l.Perm (aZ l 0::l')->J [] ((b27,Obj.cells (enc .i64 (aZ l n)).toArray 397 (0,0))::(sH,Obj.cells (enc .i64 (aZ l 0)).toArray 397 (0,0))::C'):=by
  intro l' C' hi' Yv;refine hJ _ λgs=>?_
  (repeat (first|apply Nil.ptr|apply ai.mk|refine Ld.mk zM rfl ?_|apply aO.mk|apply ae.eql|apply ae.lss|apply ae.geq|apply Un.not|apply Br.yes|apply Br.no|apply ae.aD|refine Ext.mk rfl ?_))
  exact⟨_,_,rfl,.skip .tail,l',hi',.inr ⟨_,Yv,hmin,rfl⟩⟩
 (repeat (first|apply Nil.ptr|apply ai.mk|refine Ld.mk zM rfl ?_|apply aO.mk|apply ae.eql|apply ae.lss|apply ae.geq|apply Un.not|apply Br.yes|apply Br.no|apply ae.aD|refine Ext.mk rfl ?_))
 have xH:Ty (.pointer (some ⟨bh,0,none⟩)) (l.take n) (D6 f (aZ l 0).1 none) ((bh,Obj.cells #[.slice (some ⟨la,0,none⟩) n (l.length+aJ.length),.map (some mb)] 395 (0,0))::(la,.cells (rows (eR .i64 l++aJ)) 397 (0,0))::Xw):=by
  rw[WZ];exact .shut RJ hlt.symm (by simp[hn];omega) hm'
 refine Br.mk (λh0=>?_) (λh0=>?_)
 ·have h0:0<n:=by simpa using h0
  obtain⟨_,q1,q2,q3,q4⟩:=Ul hc hO h1 hn h0;refine ay.q ?_;refine aa.fq (qV xH (i:=0) zO (aZ l n)) ?_;rintro v C2 ⟨rfl,rH⟩;have Bd:ni ((l.take n).set 0 (aZ l n)) (D6 (D6 f (aZ l 0).1 none) (aZ l n).1 (some 0)) 0:=by
   refine⟨λj hj YI=>?_,λx hx=>?_⟩
   ·unfold D6;rw[xab]
    ·exact q4.1 j hj YI
    intro e;have h00:aZ ((l.take n).set 0 (aZ l n)) 0=aZ l n:=by rw[gZ _ zO];simp[ig]
    exact YI (q3.inj hj zP (by rw[e,h00]))
   unfold D6;rw[xab]
   ·exact q4.2 x hx
   intro e;refine hx (iy.2 ⟨0,by simp;omega,?_⟩);rw[gZ _ zO];simp[ig,e]
  refine aa.fq (Ry rH (i:=0) zP zP (by simpa[hn]using q2) Bd q3) ?_;rintro v C3 ⟨rfl,l3,f3,Av,Q7,YR,abj⟩;exact JE.mk (jj l3 C3 ⟨f3,Av,YR,abj,q3.perm Q7⟩ ((Q7.cons (aZ l 0)).trans q1).symm)
 have h0:n=0:=by simp at h0;omega
 subst h0;refine JE.mk (jj (l.take 0) _ ⟨_,xH,⟨λj hj=>by simp at hj,λx _=>?_⟩,λj _ hj=>by simp at hj,by simp[jW]⟩ ?_)
 ·unfold D6;split
  ·rfl
  rename_i hne;refine hc.2 x λhm=>hne ?_;obtain⟨j,hj,e⟩:=iy.1 hm;rw[show j=0 by omega]at e;exact e.symm
 match l,hn with
 | [a],_=>exact .refl _
end Go.Proofs
namespace an
open Go.Sx S9
def nn(s k:Nat):It:=((s:Int),(k:Int))
variable {n:Nat} {c:Nat->Nat->Nat} {T:Nat} {D:zL} {l l':List It} {s i:Nat}
end an
set_option maxRecDepth 100000
namespace Go.Proofs
open Go Go.Sx
section
open aA S9
theorem LX{pt n v:Nat}{T:Nd->Option Nat}{C:Hp}(h:ob pt n T C)(hv:v<n):
  Rd zQ 331 #[ptr pt,iv (v:Int)] C (λr=>∃l:List (Nd×Nat),(l.map Prod.fst).Nodup/\(∀d r,(d,r)∈l↔T d=some r/\d.v=v)/\r=.tuple #[iv ((l.length:Nat):Int),iv 0]):=by
 have h0:=h;obtain⟨vs,Cs,ms,rfl,hs,ho⟩:=h;obtain⟨m,hm⟩:∃m,ms[v]? =some m:=⟨_,xaa (by rw[ho.len];exact hv)⟩;have he:=ho.dG v m hm;have hT:∀d:Nd,d.v=v->T d=aK m.l d:=λd hd=>by rw[ho.T,hd,hm];rfl
 have hmem:∀d r,(d,r)∈m.l↔T d=some r/\d.v=v:=λd r=>by
  constructor
  ·intro hx;have hd:=ho.var v m hm _ hx;exact⟨by rw[hT d hd];exact(dV he.nd).2 hx,hd⟩
  rintro⟨h1,h2⟩;rw[hT d h2]at h1;exact(dV he.nd).1 h1
 refine aF λg=>Ho ?_;refine aa.eq (k7 h0 hv) (ae.cG (Br.F (Nil.ptr ?_)));refine ai.mk (Ld.mk zM rfl ?_);refine hs.WK (x:=.map (some m.b)) (by rw[xat,hm];rfl) (λ_ h=>by exact .tail _ (xad _ h)) ?_;refine he.Qw (b:=m.b) (by exact .tail _ (xac _ (qL hm))) ?_;exact bc.mk (.refl _) ⟨m.l,he.nd,hmem,rfl⟩
section
variable {kp v gr:Nat} {K:Kd} {S:Nat->aA.Fn} {ord tr:zL} {C:Hp}
theorem MN{ah:zL}(h:cT kp K ord ah tr C)(hv:v<K.n):Rd zQ 262 #[ptr kp,iv (v:Int)] C (λr=>∃l:List (Nd×Nat),(l.map Prod.fst).Nodup/\(∀d r,(d,r)∈l↔K.T d=some r/\d.v=v)/\r=.tuple #[iv ((l.length:Nat):Int),iv 0]):=by
 have h0:=h;obtain⟨b,rfl,hO⟩:=h;refine aF λg=>Im ?_;refine ae.aD (Br.no (aa.eq (qQ h0 (v:Int)) ?_));rw[xam zO];refine Un.not (Br.no (Nil.ptr (ai.mk (Ld.f ?_))));refine aa.rq (LX hO.ut hv) ?_;rintro r ⟨l,h1,h2,rfl⟩;exact Ext.mk rfl (Ext.mk rfl (bc.mk (.refl _) ⟨l,h1,h2,rfl⟩))
theorem SI(h:At kp K S ord tr C)(hv:v<K.n):Rd zQ 262 #[ptr kp,iv (v:Int)] C (λr=>∃w:Nat,r=.tuple #[iv (w:Int),iv 0]):=by
 obtain⟨K',S',bW,h,hk⟩:=h;exact(MN h.rep (by rw[hk.n];exact hv)).mono λr H ⟨e,l,_,_,h3⟩=>⟨e,_,h3⟩
theorem Vl{h:zV}{l:List It}{C:Hp}(hi:Wq h l C):Rd zQ 264 #[h] C (· =iv ((l.length:Nat):Int)):=by
 obtain⟨f,⟨bh,sv,mv,Cs,Cm,rfl,rfl,hs,hm,hne⟩,_⟩:=hi;refine aF λg=>Ik ?_;refine ae.aD (Br.no (Ld.n ?_));refine hs.bP ?_;rw[cS];exact bc.mk (.refl _) rfl
def sln:List zV->Nat
 | .slice _ n _::_=>n
 |_=>0
theorem P5(h:At kp K S ord tr C):Fc zQ 187 #[ptr kp] C (λr H=>∃N l,H=N++C/\l.Perm (List.range K.n)/\aQ 3 .i64 r (iw l) N):=by
 have hn:=h.lq;refine aF λg=>I6 ?_;refine ae.aD (Br.no (aa.fq (Vh C) ?_));rintro w H ⟨bh,C0,rfl,rfl,Fx⟩;refine aa.eq (mW h) (⟨λvs H=>∃(i:Nat) (l:List It) (C':Hp),vs=[iv (i:Int)]/\i<=K.n/\H=C'++C/\Wq (.pointer (some ⟨bh,0,none⟩)) l C'/\(l.map Prod.fst).Perm (iw (List.range i)),λvs _=>K.n-bL vs 0,JE.mk ⟨0,[],C0,rfl,xaO _,rfl,Fx,.refl _⟩,?_⟩);rintro w H ⟨i,l,C',⟨⟩,hi,rfl,hh,hp⟩ gs;have nw:l.length=i:=by have:=hp.length_eq;simpa[iw]using this
 refine ae.fi (Br.dec (λhlt=>?_) (λhge=>?_))
 ·refine aa.rq (SI h hlt) ?_;rintro r ⟨w,rfl⟩;refine Ext.two (⟨_,rfl,?_⟩);refine aa.fq (Q5 hh zO _ _) ?_;rintro r C2 ⟨l2,hh2,⟨hin,_⟩|⟨_,rfl,c8⟩⟩
  ·exfalso;have:=hp.mem_iff.1 hin;rw[Qs,xaM]at this;omega
  refine ae.inc (aC.mk ⟨i+1,l2,C2,rfl,hlt,rfl,hh2,?_⟩ (by simp only[bL];omega));refine(c8.map _).trans ?_;rw[xaB,xcl,cj];exact(List.Perm.cons _ hp).trans (xbb (l₁:=[((i:Nat):Int)]))
 obtain rfl:i=K.n:=by omega
 refine⟨λvs H=>∃(s:zV) (done:zL) (l:List It) (CS C':Hp),vs=[s]/\H=CS++(C'++C)/\Wq (.pointer (some ⟨bh,0,none⟩)) l C'/\aQ 3 .i64 s (iw done) CS/\(iw done++l.map Prod.fst).Perm (iw (List.range K.n)),λvs _=>K.n-sln vs,JE.mk ⟨_,[],l,[],C',rfl,rfl,hh,aQ.nil,hp⟩,?_⟩;clear hp hh nw;rintro w H ⟨s,done,l,CS,C',⟨⟩,rfl,hh,hs,hp⟩ gs;have hlen:done.length+l.length=K.n:=by have:=hp.length_eq;simpa[iw]using this
 refine aa.eq (Vl hh) (ae.m9 (b:=0) (Br.dec (λhlt=>?_) (λhge=>?_)))
 ·refine aa.fq (Vf hh zO) ?_;rintro r C2 ⟨l2,hh2,⟨rfl,_⟩|⟨a,c8,_,rfl⟩⟩
  ·simp at hlt
  have ha:a.1∈iw (List.range K.n):=hp.mem_iff.1 (xac _ (xaP (c8.mem_iff.2 (.head _))));obtain⟨x,hx,hxa⟩:=xao.1 ha;refine Ext.mk rfl (Ext.mk rfl (Ext.mk rfl ?_));rw[<-hxa];refine av.int (e:=3) zK zK zK λbx=>?_;refine hs.rB (x:=(x:Int)) (.cons .left) (by exact .head _) (by rw[ak];omega) (by rw[ak];omega) λs2 CS2 sg=>?_;have lP:(iw (done++[x])++l2.map Prod.fst).Perm (iw (List.range K.n)):=by
   refine .trans ?_ hp;rw[cj,xai];refine xbW _ ?_;refine .trans ?_ (c8.map _).symm;rw[xaB,<-hxa];exact .refl _
  have e1:∀{s:zV} {done:zL} {CS:Hp},aQ 3 .i64 s (iw done) CS->sln [s]=done.length:=λ{s done CS} h=>by
   obtain⟨a,c,h⟩:=aV.len h;rw[h];simp[sln,iw]
  refine aC.of .tail ⟨s2,done++[x],l2,CS2,C2,rfl,rfl,hh2,by rw[cj];exact sg,lP⟩ ?_;rw[e1 (done:=done++[x]) (by rw[cj];exact sg),e1 hs,xaf,xcm];have:=c8.length_eq;rw[xay]at this;omega
 have hl0:l=[]:=xcM.1 zO;subst hl0;rw[xb6,xaL]at hp;obtain⟨l',hl',e⟩:=Us hp;rw[e]at hs;exact aN.mk (aM.cW .right CS) ⟨CS,l',rfl,hl',hs⟩
theorem BO(h:At kp K S ord tr C)(hp:ord.Perm (List.range K.n))(mq:100<=gr/\gr<=1000)(eM:tr.length<17317308137472):
  Fc zQ 135 #[ptr kp,iv (gr:Int)] C (λv H=>∃l,l.Perm (List.range K.n)/\v=.tuple #[rep (cI K S ord) (cI K S (az ord ((rm K S).ct gr ord l).1)) ((rm K S).ct gr ord l).2,iv 0]/\At kp K S (az ord ((rm K S).ct gr ord l).1) (tr++((rm K S).ct gr ord l).1) H):=by
 have hn:=h.lq;have vH:(rm K S).n=K.n:=rfl;refine aF λg=>Jv ?_;intro b1 _;refine aa.eq (pN kp (gr:=(gr:Int)) C) ?_;rw[xab zO];refine ae.cG (Br.F (aa.eq (cH h) (Build.mk (cs:=[iv ((cI K S ord:Nat):Int),iv 0,iv 0,.bool false]) zK ?_)));intro Tw _;refine St.q ?_;refine aa.fq (P5 h) ?_;rintro s H ⟨NQ,l,rfl,hl,hQ⟩;have nw:l.length=K.n:=by rw[hl.length_eq,xaI]
 refine hQ.bP ?_;rw[ak,nw];refine⟨λvs H=>∃(i:Nat) (C':Hp),vs=[iv (i:Int)]/\i<=K.n/\H=(Tw,.cells (List.toArray [iv ((cI K S ord:Nat):Int),iv 0,iv ((((rm K S).ct gr ord (l.take i)).2:Nat):Int),.bool false]) 147 (0,0))::(b1,.cells #[iv 0,iv 0,iv 0,.bool false] 147 (0,0))::(NQ++C')/\At kp K S (az ord ((rm K S).ct gr ord (l.take i)).1) (tr++((rm K S).ct gr ord (l.take i)).1) C',
  λvs _=>K.n-bL vs 0,JE.mk ⟨0,C,rfl,xaO _,rfl,by simpa[Rm.ct,az]using h⟩,?_⟩
 rintro w H ⟨i,C',⟨⟩,hi,rfl,hA⟩ gs;have hok:=mC (m:=rm K S) (g:=gr) (l:=l.take i) hp (λv hv=>xaM.1 (hl.mem_iff.1 (xcE hv)));have hlt:(l.take i).length<=64:=by rw[xbD];omega
 have h1:=hok.len;have h2:=hok.uC;have h3:(rm K S).n*(l.take i).length<=64*64:=xcb hn hlt;have h4:3*((rm K S).n-1)*(l.take i).length<=(3*64)*64:=xcb (xc9 _ (by rw[vH];omega)) hlt;have Yu:=mA hp hok.mem;refine ae.fi (Br.dec (λhlt=>?_) (λhge=>?_))
 ·have Ri:i<l.length:=by omega
  have nq:l.take (i+1)=l.take i++[l[i]]:=xa2 Ri;refine hQ.ld (x:=((l[i]:Nat):Int)) (dg (xaa Ri)) (λ_ h=>.tail _ (.tail _ (xad _ h))) ?_;have ON:l[i]<K.n:=xaM.1 (hl.mem_iff.1 (xaG Ri));refine aa.fq (T4 hA Yu ON mq (by rw[xaf];omega) rfl) ?_;rintro w C2 ⟨rfl,nU⟩;have uc:=(rm K S).z7 gr (ord:=az ord ((rm K S).ct gr ord (l.take i)).1) (Fl Yu ON);have A8:=uc.uC;rw[vH]at A8;have Vc:=ya (m:=rm K S) (g:=gr) (v:=l[i]) (l:=l.take i) (ord:=ord);rw[<-nq]at Vc;rw[xai,<-cr]at nU;apply Ext.two;intro b30 _;refine St.q ?_;refine Ld.f ?_;refine Ld.f ?_;refine ae.fH (ai.mk (St.one (c':=List.toArray [iv ((cI K S ord:Nat):Int),iv 0,iv ((((rm K S).ct gr ord (l.take (i+1))).2:Nat):Int),.bool false]) (by exact .tail (.head _)) rfl zI (by rw[Vc];rfl) ?_));exact ae.inc (aC.of .tail ⟨i+1,C2,rfl,hlt,rfl,by rw[Vc];exact nU⟩ (by simp only[bL];omega))
 obtain rfl:i=K.n:=by omega
 rw[show l.take K.n=l from by rw[<-nw];exact xbh]at hA⊢;refine aa.eq (cH hA) (ai.mk (St.one (c':=List.toArray [iv ((cI K S ord:Nat):Int),iv ((cI K S (az ord ((rm K S).ct gr ord l).1):Nat):Int),iv ((((rm K S).ct gr ord l).2:Nat):Int),.bool false]) (by exact .head _) rfl zI rfl ?_));refine ay.q ?_;refine St.q ?_;refine ay.q ?_;exact aN.mk (.skip (.skip .right)) ⟨l,hl,rfl,hA⟩
end
end
section
open aA
section
variable {kp v gr:Nat} {K:Kd} {S:Nat->aA.Fn} {ord tr:zL} {C:Hp}
theorem BD(h:At kp K S ord tr C)(hp:ord.Perm (List.range K.n))(mq:100<=gr/\gr<=1000)(eM:tr.length<17042430230528):
  Fc zQ 136 #[ptr kp,iv (gr:Int)] C (λv H=>∃ls,(∀l∈ls,l.Perm (List.range K.n))/\(rm K S).tf gr ord ls/\v=.tuple #[rep (cI K S ord) (cI K S (az ord ((rm K S).df gr ord ls).1)) ((rm K S).df gr ord ls).2,iv ((ls.length:Nat):Int),iv 0]/\At kp K S (az ord ((rm K S).df gr ord ls).1) (tr++((rm K S).df gr ord ls).1) H):=by
 have hn:=h.lq;have hsz:=gu h;have vH:(rm K S).n=K.n:=rfl;have A9:∀o,(rm K S).size o=cI K S o:=λ_=>rfl;refine aF λg=>Ju ?_;intro b1 _;refine aa.eq (pN kp (gr:=(gr:Int)) C) ?_;rw[xab zO];refine ae.cG (Br.F (aa.eq (cH h) (Build.mk (cs:=[iv ((cI K S ord:Nat):Int),iv 0,iv 0,.bool false]) zK ?_)));intro Tw _;refine St.q ?_;refine⟨λvs H=>∃(ls:List (zL)) (af:Int) (C':Hp),vs=[iv ((ls.length+1:Nat):Int)]/\(∀l∈ls,l.Perm (List.range K.n))/\(rm K S).su gr ord ls/\H=(Tw,.cells (List.toArray [iv ((cI K S ord:Nat):Int),iv af,iv ((((rm K S).df gr ord ls).2:Nat):Int),.bool false]) 147 (0,0))::(b1,.cells #[iv 0,iv 0,iv 0,.bool false] 147 (0,0))::C'/\At kp K S (az ord ((rm K S).df gr ord ls).1) (tr++((rm K S).df gr ord ls).1) C',
  λvs _=>cI K S ord+1-bL vs 0,JE.mk ⟨[],0,C,rfl,by simp,trivial,rfl,by simpa[Rm.df,az]using h⟩,?_⟩
 rintro w H ⟨ls,af,C',⟨⟩,hls,hgd,rfl,hA⟩ gs;obtain⟨g1,g2,g3,g4⟩:=yR hp hls hgd;rw[vH]at g1 g3 g4;rw[A9,A9]at g2;have nw:ls.length<=1048576:=by omega
 have h3:3*(K.n-1)*K.n*ls.length<=(3*64*64)*1048576:=xcb (xcb (xc9 _ zO) hn) nw;have h4:K.n*K.n*ls.length<=(64*64)*1048576:=xcb (xcb hn hn) nw;have Yu:=mA hp g1;refine aa.fq (BO hA Yu mq (by rw[xaf];omega)) ?_;rintro w C2 ⟨l,hl,rfl,nU⟩;have hok:=mC (m:=rm K S) (g:=gr) (l:=l) Yu (λv hv=>xaM.1 (hl.mem_iff.1 hv));have A8:=hok.uC;have hlen:l.length=K.n:=by rw[hl.length_eq,xaI]
 have hle:=hok.le;rw[vH,hlen]at A8;rw[A9,A9]at hle;have h5:3*(K.n-1)*K.n<=3*64*64:=xcb (xc9 _ zO) hn;have Vc:=yb (m:=rm K S) (g:=gr) (l:=l) (ls:=ls) (ord:=ord);have Q8:∀x∈ls++[l],x.Perm (List.range K.n):=λx hx=>by
  rcases xan.1 hx with h|h
  ·exact hls x h
  rw[xaE.1 h];exact hl
 rw[xai,<-cr]at nU;have KN:=tg (m:=rm K S) (g:=gr) (l:=l) hgd;have hge:=Df (m:=rm K S) (g:=gr) (l:=l) hgd;rw[A9,A9]at KN hge;generalize hx:(rm K S).ct gr (az ord ((rm K S).df gr ord ls).1) l=x at*;have e1:az (az ord ((rm K S).df gr ord ls).1) x.1=az ord ((rm K S).df gr ord (ls++[l])).1:=by rw[Vc,cr]
 rw[e1]at KN hge hle;apply Ext.two;intro b24 _;refine St.q ?_;refine Ld.f ?_;refine Ld.f ?_;refine ae.fH (ai.mk (St.one (c':=List.toArray [iv ((cI K S ord:Nat):Int),iv af,iv ((((rm K S).df gr ord (ls++[l])).2:Nat):Int),.bool false]) (by exact .tail (.head _)) rfl zI (by rw[Vc];rfl) ?_));refine Ld.f ?_;refine ai.mk (St.one (c':=List.toArray [iv ((cI K S ord:Nat):Int),iv ((cI K S (az ord ((rm K S).df gr ord (ls++[l])).1):Nat):Int),iv ((((rm K S).df gr ord (ls++[l])).2:Nat):Int),.bool false]) (by exact .tail (.head _)) rfl zI (by rw[<-e1];rfl) ?_);refine Ld.f ?_;refine Ld.f ?_;rw[e1];refine ae.rI (Br.dec (λaj6=>?_) (λhlt=>?_))
 ·refine ay.q ?_;refine St.q ?_;refine ay.q ?_;exact aN.mk (.skip (.skip .tail)) ⟨ls++[l],Q8,hge zO,by rw[xaf];rfl,by rw[Vc];exact nU⟩
 refine ae.inc (aC.of .tail ⟨ls++[l],_,C2,by rw[xaf];rfl,Q8,KN zO,rfl,by rw[Vc];exact nU⟩ ?_);simp only[bL];omega
end
section
variable {kp mb Bl b1 b7 Ei bn:Nat} {K:Kd} {S:Nat->aA.Fn} {ord ah tr:zL} {C:Hp}
def kr(r:Nat):zV:=u32 r
theorem cY(a b:Nat):Instr.sameNow (.int .u32) (kr a) (kr b)=some (decide (a=b)):=by
 simp only[Instr.sameNow,kr,u32,xa6,xaq];rw[xbR];simp;omega
theorem gN(a:Nat):Instr.sameBits 10000 (kr a) (kr a)=true:=by simp[Instr.sameBits,kr,u32]
structure Kn(n:Nat)(S:Nat->aA.Fn)(es:Array MapEntry)(ck:Nat)(m:List (Nat×zV))(Y:Hp):Prop where
 dG:aE kr (λv x=>v=x) es ck m
 j5:∀r v,aK m r=some v->kf Y v n (S r)
 low:∀r,r<2->aK m r≠none
theorem Kn.mono{n:Nat}{S:Nat->aA.Fn}{es:Array MapEntry}{ck:Nat}{m:List (Nat×zV)}{Y Y':Hp}(h:Kn n S es ck m Y)(hs:∀x∈Y,x∈Y'):Kn n S es ck m Y':=⟨h.dG,λr v hm=>(h.j5 r v hm).mono hs,h.low⟩
theorem kf.one{B:Hp}{v:zV}{n:Nat}{f:aA.Fn}(h:kf B v n f):∃s,v=.agg #[iv (n:Int),s]/\s.oneCell'=true:=by
 obtain⟨ws,⟨s,rfl,hw⟩,_,_⟩:=h;exact⟨s,rfl,bO hw⟩
theorem cX{n:Nat}{s:zV}(h:s.oneCell'=true):∀u∈[Value.int .i64 (n:Int),s],u.oneCell'=true:=λu hu=>by
 simp only[xak,xaS,xby]at hu;rcases hu with rfl|rfl
 ·rfl
 exact h
theorem fC(d:Nd):∀u∈bu d,u.oneCell'=true:=λu hu=>by
 simp only[bu,xak,xaS,xby]at hu;rcases hu with rfl|rfl|rfl<;>rfl
theorem wh{X:Hp}(h:cc kp K S ord ah tr C){r:Nat}{d:Nd}(hd:K.N r=some d):Px zQ 202 #[ptr kp,u32 r] (X++C) (λv _=>v=.agg (bu d).toArray):=by
 have hlt:=h.bK (.inr ⟨d,hd⟩);refine aF λg=>IQ ?_;intro b1 _;refine aa.eq (args:=#[ptr kp,u32 r]) (iS h.rep zO) ?_;rw[dX hd (h.ok.mid.two hd).1];apply Ext.two;intro b7 _;refine St.p (fC d) ?_;refine ay.q ?_;refine St.p (fC d) ?_;refine ay.q ?_;exact Gm.mk (by repeat (first|exact bV.refl _|apply bV.cons|apply bV.app)) rfl
theorem wo{X:Hp}{v:zV}(h:cc kp K S ord ah tr C){rs:zL}(hv:dA .u32 (X++C) v (iw rs))(hr:∀r∈rs,live K.N r)(hl:rs.length<4611686018427387904):Px zQ 200 #[ptr kp,v] (X++C) (λw _=>w=iv 0):=by
 refine aF λg=>IT ?_;refine ae.aD (Br.no (hv.bP ?_));rw[ak];refine⟨λvs H=>∃(i:Nat) (N:Hp),vs=[iv (i:Int)]/\i<=rs.length/\H=N++(X++C),λvs _=>rs.length-bL vs 0,JE.mk ⟨0,[],rfl,xaO _,rfl⟩,?_⟩;rintro w H ⟨i,N,hw,hi,rfl⟩ gs;simp only[xau,xa0]at hw;subst hw;refine ae.fi (Br.dec (λhlt=>?_) (λhge=>?_))
 ·have Eb:=hr _ (xaG hlt);have tM:=h.bK Eb;refine hv.ld (n:=((rs[i]:Nat):Int)) (dg (xaa hlt)) (λ_ h=>xac _ h) ?_;refine aa.eq (args:=#[ptr kp,u32 rs[i]]) (iS h.rep zO) ?_;rw[xae (bX.2 Eb)];apply Ext.two;intro b15 _;refine St.whole (r:=got K.N rs[i]) (by exact .head _) rfl (aR _ _).1 (aR _ _).2 ?_;exact ae.cG (Br.F (ae.inc (aC.mk ⟨i+1,_::N,rfl,hlt,rfl⟩ (by simp only[bL];omega))))
 exact Gm.mk (by repeat (first|exact bV.refl _|apply bV.cons|apply bV.app)) rfl
theorem R5{X:Hp}{n:Nat}(hn:n<=16){d:Nd}(hd:d.v<n){v1 v2:zV}{f1 f2:aA.Fn}(h1:kf X v1 n f1)(h2:kf X v2 n f2)(hm:(bn,Obj.cells #[iv (n:Int)] 3 (0,0))∈X):
  Px zQ 277 #[.agg (bu d).toArray,v1,v2,ptr bn] X (λw H=>kf H w n (λx=>if x.testBit d.v then f2 x else f1 x)):=by
 obtain⟨s1,rfl,o1⟩:=h1.one;obtain⟨s2,rfl,o2⟩:=h2.one;refine aF λg=>H7 ?_;intro c1 _ c3 _ c5 _ c7 _;refine Ld.mk (v:=iv (n:Int)) (by exact .tail _ (.tail _ (.tail _ (.tail _ hm)))) rfl ?_;refine Ld.f ?_;refine aa.px (bG.left (C:=[]) (A:=_)) (TO hn hd []) ?_;rintro w N ⟨t,rfl,ht⟩;rw[xaL]at ht⊢;obtain⟨s3,rfl,o3⟩:=ht.one;apply Ext.two;intro Xn _;refine St.p (cX o3) ?_;refine ay.q ?_;refine ay.q ?_;refine ay.q ?_;refine aa.pre (.perm (.cons _ (xaT.trans (.cons _ (xaT.trans (.cons _ (xaT.trans (.cons _ xaT)))))))) ?_;refine aa.pq (TT (B:=N++X) (ht.mono λ_ h=>xad _ h) (h2.mono λ_ h=>xac _ h) (h1.mono λ_ h=>xac _ h)) ?_;rintro w N2 ⟨t4,rfl,ht4⟩;obtain⟨s4,rfl,o4⟩:=ht4.one;apply Ext.two;intro c26 _;refine St.p (cX o4) ?_;refine ay.q ?_;refine St.p (cX o4) ?_;refine ay.q ?_;refine Gm.mk (by repeat (first|exact bV.refl _|apply bV.cons|apply bV.app)) (ht4.mono ?_);intro x hx;repeat (first|exact hx|apply xbt)
theorem acS(h:cc kp K S ord ah tr C)(hn:K.n<=16){Z0:Hp}(h19:(Bl,Obj.cells #[.map (some mb)] 403 (0,0))∈Z0)(h1:(b1,Obj.cells #[ptr kp] 85 (0,0))∈Z0)(h7:(b7,Obj.cells #[.func (.func 277) #[] #[ptr bn]] 336 (0,0))∈Z0)
 (h22:(Ei,Obj.cells #[.func (.func 342) #[] #[ptr Bl,ptr b1,ptr b7,ptr Ei]] 404 (0,0))∈Z0)(Z8:(bn,Obj.cells #[iv (K.n:Int)] 3 (0,0))∈Z0):
  ∀(k r:Nat) (es:Array MapEntry) (ck:Nat) (m:List (Nat×zV)) (Z:Hp),K.n-dep K.n (lv ah) K.N r<=k->live K.N r->(∀x∈Z0,x∈Z)->Kn K.n S es ck m Z->
  Fc zQ 342 #[u32 r,ptr Bl,ptr b1,ptr b7,ptr Ei] ((mb,.map es ck)::(Z++C)) (λv H=>∃es' bB m' N,H=(mb,.map es' bB)::(N++(Z++C))/\Kn K.n S es' bB m' (N++Z)/\kf (N++Z) v K.n (S r)):=by
 have hit:∀{r:Nat} {es:Array MapEntry} {ck:Nat} {m:List (Nat×zV)} {Z:Hp} {v:zV},(∀x∈Z0,x∈Z)->Kn K.n S es ck m Z->aK m r=some v->
   Fc zQ 342 #[u32 r,ptr Bl,ptr b1,ptr b7,ptr Ei] ((mb,.map es ck)::(Z++C)) (λv H=>∃es' bB m' N,H=(mb,.map es' bB)::(N++(Z++C))/\Kn K.n S es' bB m' (N++Z)/\kf (N++Z) v K.n (S r)):=by
  intro r es ck m Z v hZ hm hv g;obtain⟨s,rfl,hs⟩:=(hm.j5 r v hv).one;refine wO (R:=aN _) ?_;unfold L342;intro c1 _;refine Ld.mk (v:=.map (some mb)) (by exact .tail _ (.tail _ (xad _ (hZ _ h19)))) rfl ?_;refine hm.dG.hit (k:=r) cY (b:=mb) (by exact .tail _ (.head _)) hv λv' e=>?_;subst e;apply Ext.two;intro c7 _;refine St.p (cX hs) ?_;refine Br.yes (ay.q ?_);refine St.p (cX hs) ?_;refine ay.q ?_;exact aN.mk (.skip .tail) ⟨es,ck,m,[],rfl,hm,hm.j5 r _ hv⟩
 intro k;induction k with
 |zero=>
  intro r es ck m Z hk hr hZ hm;have p7:r<2:=by
   cases hN:K.N r with
   |some d=>
    have:=h.ok.wf.iD h.ok.lv r;rw[aq hN]at hk;have:=h.ok.lv.lt _ (h.ok.mid.var hN);omega
   |none=>
    rcases hr with hr|⟨d,e⟩
    ·exact hr
    rw[hN]at e;cases e
  cases hv:aK m r with
  |none=>exact absurd hv (hm.low r p7)
  |some v=>exact hit hZ hm hv
 |succ k ih=>
  intro r es ck m Z hk hr hZ hm;cases hv:aK m r with
  |some v=>exact hit hZ hm hv
  |none=>
  have p7:¬r<2:=λh2=>hm.low r h2 hv;obtain⟨d,hN⟩:∃d,K.N r=some d:=by
   rcases hr with hr|hr
   ·omega
   exact hr
  have kX:=h.ok.mid.var hN;have hlo:=h.ok.wf.lo hN;have hhi:=h.ok.wf.hi hN;have hdl:=h.ok.wf.iD h.ok.lv r;rw[aq hN]at hk;have hvl:=h.ok.lv.lt _ kX;have FI:S r=λx=>if x.testBit d.v then S d.hi x else S d.lo x:=funext λx=>h.ok.mid.int.node hN x
  refine aF λg=>wO ?_;intro c1 _;refine Ld.mk (v:=.map (some mb)) (by exact .tail _ (.tail _ (xad _ (hZ _ h19)))) rfl ?_;refine hm.dG.bM (k:=r) cY (b:=mb) (by exact .tail _ (.head _)) hv ?_;apply Ext.two;intro c7 _;refine St.q ?_;refine Br.no (Ld.mk (v:=ptr kp) (by exact .tail _ (.tail _ (.tail _ (xad _ (hZ _ h1))))) rfl ?_);refine aa.pq (args:=#[ptr kp,u32 r]) (wh (X:=Z) h hN) ?_;rintro w N0 rfl;intro Xn _;refine St.p (fC d) ?_;obtain⟨Z1,M3⟩:∃Z1,Z1=(Xn,Obj.cells (bu d).toArray 226 (0,0))::(N0++Z):=⟨_,rfl⟩;have RL:∀x∈Z,x∈Z1:=λx hx=>by rw[M3];exact .tail _ (xac _ hx)
  have Rr:aM (Z1++C) ((Xn,Obj.cells (bu d).toArray 226 (0,0))::Z):=by rw[M3];exact aM.left.trans (.cons .right)
  have ud:((Xn,Obj.cells (bu d).toArray 226 (0,0))::(c7,.cells (List.toArray [iv 0,.slice none 0 0]) 116 (0,0))::(c1,.cells #[iv 0,.slice none 0 0] 116 (0,0))::(mb,Obj.map es ck)::(N0++(Z++C))).Perm
    ((c1,.cells #[iv 0,.slice none 0 0] 116 (0,0))::(c7,.cells (List.toArray [iv 0,.slice none 0 0]) 116 (0,0))::(mb,Obj.map es ck)::(Z1++C)):=by
   rw[M3,xaR,xai];refine(List.Perm.swap _ _ _).trans ?_;refine(List.Perm.cons _ (List.Perm.swap _ _ _)).trans ?_;refine(List.Perm.swap _ _ _).trans (.cons _ (.cons _ (.swap _ _ _)))
  have hR0:aM ((Xn,Obj.cells (bu d).toArray 226 (0,0))::(c7,.cells (List.toArray [iv 0,.slice none 0 0]) 116 (0,0))::(c1,.cells #[iv 0,.slice none 0 0] 116 (0,0))::(mb,Obj.map es ck)::(N0++(Z++C))) ((Xn,Obj.cells (bu d).toArray 226 (0,0))::Z):=
   .cons (.skip (.skip (.skip (.dm .left))))
  refine DR.of hR0 (Ld.mk (v:=.func (.func 277) #[] #[ptr bn]) (by exact .tail _ (hZ _ h7)) rfl ?_);refine ay.q ?_;refine Ld.mk (v:=.func (.func 342) #[] #[ptr Bl,ptr b1,ptr b7,ptr Ei]) (by exact .tail _ (hZ _ h22)) rfl ?_;refine Ld.f ?_;refine Ld.mk (v:=.func (.func 342) #[] #[ptr Bl,ptr b1,ptr b7,ptr Ei]) (by exact .tail _ (hZ _ h22)) rfl ?_;refine Ld.f ?_;intro F;refine aL.of rfl zK (aa.pre (.perm ud) ?_);refine aa.fq (args:=#[u32 d.lo,ptr Bl,ptr b1,ptr b7,ptr Ei]) (ih d.lo es ck m Z1 zO hlo.1 (λx hx=>RL _ (hZ x hx)) (hm.mono RL)) ?_;rintro v1 H ⟨j9,jL,m1,N1,rfl,tL,ZU⟩;refine⟨.skip (.skip (.skip (.dm Rr))),?_⟩;rw[<-xai];intro F;refine aL.of rfl zK (aa.fq (args:=#[u32 d.hi,ptr Bl,ptr b1,ptr b7,ptr Ei]) (ih d.hi j9 jL m1 (N1++Z1) zO hhi.1 (λx hx=>xac _ (RL _ (hZ x hx))) tL) ?_);rintro v2 H ⟨gR,iE,m2,N2,rfl,lR,WV⟩;refine⟨.skip (.skip (.skip (.dm (aM.assoc.trans (.dm Rr))))),?_⟩;rw[<-xai];intro F;refine aL.of rfl zK (aa.pq (args:=#[.agg (bu d).toArray,v1,v2,ptr bn]) (R5 (bn:=bn) hn kX (ZU.mono λ_ h=>xac _ h) WV (xac _ (xac _ (RL _ (hZ _ Z8))))) ?_);intro v3 N3 Q0;rw[<-FI]at Q0;refine⟨.skip (.skip (.skip (aM.assoc.trans (.dm (aM.assoc.trans (.dm (aM.assoc.trans (.dm Rr)))))))),?_⟩;obtain⟨s3,rfl,o3⟩:=Q0.one;intro c37 _;intro F;refine St.p (cX o3) ?_;refine Ld.mk (v:=.map (some mb)) (by exact .tail _ (.tail _ (.tail _ (.tail _ (xad _ (xac _ (xac _ (xac _ (RL _ (hZ _ h19)))))))))) rfl ?_;refine ay.q ?_;refine lR.dG.bg (k:=r) (b:=mb) (x:=.agg #[iv (K.n:Int),s3]) cY gN rfl λoP qq he=>⟨_,.tail (.tail (.tail (.head _))),?_⟩;refine ay.q ?_;refine St.p (cX o3) ?_;refine ay.q ?_;have hmem:∀x∈N3++(N2++(N1++Z1)),x∈(N3++(N2++(N1++((Xn,Obj.cells (bu d).toArray 226 (0,0))::N0))))++Z:=λx hx=>by
   rw[M3]at hx;simpa only[xai,xaR]using hx
  refine aN.mk (.skip (.skip .tail)) ⟨oP,qq,dZ m2 r (.agg #[iv (K.n:Int),s3]),N3++(N2++(N1++((Xn,Obj.cells (bu d).toArray 226 (0,0))::N0))),by rw[M3];simp only[xai,xaR],⟨he,λr' v' nR=>?_,λr' hr'=>?_⟩,Q0.mono hmem⟩
  ·rw[bJ]at nR;split at nR
   ·rename_i e;subst e;cases nR;exact Q0.mono hmem
   exact(lR.j5 r' v' nR).mono λx hx=>hmem x (xac _ hx)
  rw[bJ];split
  ·simp
  exact lR.low r' hr'
end
section
variable {kp bn:Nat} {K:Kd} {S:Nat->aA.Fn} {ord ah tr:zL} {C:Hp}
theorem VT(h:cc kp K S ord ah tr C)(hn:K.n<=16){r:Nat}(hr:live K.N r){X:Hp}{v0 v1:zV}(hv0:kf X v0 K.n (λ_=>false))(hv1:kf X v1 K.n (λ_=>true))(Z8:(bn,Obj.cells #[iv (K.n:Int)] 3 (0,0))∈X):
  Fc zQ 276 #[ptr kp,u32 r,v0,v1,.func (.func 277) #[] #[ptr bn]] (X++C) (λv H=>∃N,H=N++(X++C)/\kf (N++X) v K.n (S r)):=by
 obtain⟨s0,rfl,o0⟩:=hv0.one;obtain⟨s1,rfl,o1⟩:=hv1.one;have hi:=h.ok.mid.int;refine aF λg=>H8 ?_;intro b1 _ b3 _ b5 _ b7 _ b9 _ mb _;refine ay.q ?_;refine aE.bg (ke:=kr) (vr:=λv x=>v=x) (k:=0) (b:=mb) (x:=Value.agg #[iv (K.n:Int),s0]) cY gN aE.empty rfl λj9 jL FA=>⟨_,.head _,?_⟩;refine ay.q ?_;refine aE.bg (ke:=kr) (vr:=λv x=>v=x) (k:=1) (b:=mb) (x:=Value.agg #[iv (K.n:Int),s1]) cY gN FA rfl λgR iE Tp=>⟨_,.head _,?_⟩;intro Bl _;refine St.one (c':=#[.map (some mb)]) (by exact .head _) rfl zI rfl ?_;intro Ei _;refine St.one (c':=#[.func (.func 342) #[] #[ptr Bl,ptr b1,ptr b7,ptr Ei]]) (by exact .head _) rfl zI rfl ?_;refine Ld.q ?_;refine aL.of rfl zK ?_;obtain⟨Z0,Xf⟩:∃Z0:Hp,Z0=(Ei,Obj.cells #[.func (.func 342) #[] #[ptr Bl,ptr b1,ptr b7,ptr Ei]] 404 (0,0))::(Bl,.cells #[.map (some mb)] 403 (0,0))::(b7,.cells #[.func (.func 277) #[] #[ptr bn]] 336 (0,0))::(b5,.cells (Value.cells (.agg #[iv (K.n:Int),s1])) 116 (0,0))::(b3,.cells (Value.cells (.agg #[iv (K.n:Int),s0])) 116 (0,0))::(b1,.cells #[ptr kp] 85 (0,0))::X:=⟨_,rfl⟩;have hXZ:∀x∈X,x∈Z0:=λx hx=>by rw[Xf];exact .tail _ (.tail _ (.tail _ (.tail _ (.tail _ (.tail _ hx)))))
 refine aa.pre (H':=(b9,Obj.cells #[iv 0,.slice none 0 0] 116 (0,0))::(mb,Obj.map gR iE)::(Z0++C)) (.perm ?_) ?_
 ·rw[Xf];simp only[xaR];refine(List.Perm.cons _ (List.Perm.cons _ (List.Perm.swap _ _ _))).trans ?_;refine(List.Perm.cons _ (List.Perm.swap _ _ _)).trans ?_;refine(List.Perm.swap _ _ _).trans (.cons _ ?_);refine(List.Perm.cons _ (List.Perm.swap _ _ _)).trans ?_;exact List.Perm.swap _ _ _
 refine aa.fq (args:=#[u32 r,ptr Bl,ptr b1,ptr b7,ptr Ei]) (acS (Z0:=Z0) (bn:=bn) h hn (by rw[Xf];exact .tail _ (.head _)) (by rw[Xf];exact .tail _ (.tail _ (.tail _ (.tail _ (.tail _ (.head _)))))) (by rw[Xf];exact .tail _ (.tail _ (.head _))) (by rw[Xf];exact .head _) (hXZ _ Z8) K.n r gR iE _ Z0 (xdt _ _) hr (λ_ h=>h) ⟨Tp,λr v hm=>?_,λr hr=>?_⟩) ?_
 ·rw[bJ,bJ]at hm;split at hm
  ·rename_i e;subst e;cases hm;have:=hv1.mono hXZ;rwa [show(λ_=>true)=S 1 from funext λx=>(hi.one x).symm]at this
  split at hm
  ·rename_i e;subst e;cases hm;have:=hv0.mono hXZ;rwa [show(λ_=>false)=S 0 from funext λx=>(hi.zero x).symm]at this
  simp[aK]at hm
 ·rw[bJ,bJ];have:r=0\/r=1:=by omega
  rcases this with rfl|rfl<;>simp
 rintro v H ⟨oP,qq,m3,N,rfl,_,ht⟩;obtain⟨s3,rfl,o3⟩:=ht.one;refine St.p (cX o3) ?_;refine ay.q ?_;refine aN.mk (.skip .tail) ⟨N++[(Ei,Obj.cells #[.func (.func 342) #[] #[ptr Bl,ptr b1,ptr b7,ptr Ei]] 404 (0,0)),(Bl,.cells #[.map (some mb)] 403 (0,0)),(b7,.cells #[.func (.func 277) #[] #[ptr bn]] 336 (0,0)),(b5,.cells (Value.cells (.agg #[iv (K.n:Int),s1])) 116 (0,0)),(b3,.cells (Value.cells (.agg #[iv (K.n:Int),s0])) 116 (0,0)),(b1,.cells #[ptr kp] 85 (0,0))],by rw[Xf];simp,ht.mono λx hx=>?_⟩;rw[Xf]at hx;simpa using hx
theorem Ns(h:cc kp K S ord ah tr C)(hn:K.n<=16){r:Nat}(hr:live K.N r):
  Fc zQ 193 #[ptr kp,u32 r] C (λv H=>∃N t,H=N++C/\v=.tuple #[t,iv 0]/\kf N t K.n (S r)):=by
 refine aF λg=>I0 ?_;intro b1 _;refine av.int (e:=110) zK zK zK λbx=>?_;refine aa.px .here (wo (X:=[(bx,_),(b1,_)]) (rs:=[r]) h (dA.block (by exact .head _) zI) (λx hx=>by rw[xaE.1 hx];exact hr) zI) ?_;rintro w N0 rfl;refine ae.cG (Br.F (aa.eq (gM h.rep) ?_));intro jd _;refine St.one (c':=#[iv (K.n:Int)]) (by exact .head _) rfl zI rfl ?_;refine Ld.q ?_;refine ae.m9 (b:=16) (Br.F (Ld.q ?_));refine aa.px (bG.left (C:=[]) (A:=_)) (x4 hn false []) ?_;rintro w N1 ⟨t0,rfl,Vb⟩;rw[xaL]at Vb⊢;obtain⟨s0,rfl,o0⟩:=Vb.one;apply Ext.two;intro b26 _;refine St.p (cX o0) ?_;refine Ld.q ?_;refine aa.px (bG.left (C:=[]) (A:=_)) (x4 hn true []) ?_;rintro w N2 ⟨t1,rfl,ZU⟩;rw[xaL]at ZU⊢;obtain⟨s1,rfl,o1⟩:=ZU.one;apply Ext.two;intro b34 _;refine St.p (cX o1) ?_;refine ay.q ?_;refine ay.q ?_;obtain⟨X,hX⟩:∃X:Hp,X=(b34,Obj.cells (List.toArray [iv (K.n:Int),s1]) 116 (0,0))::(N2++((b26,Obj.cells (List.toArray [iv (K.n:Int),s0]) 116 (0,0))::(N1++((jd,Obj.cells #[iv (K.n:Int)] 3 (0,0))::(N0++[(bx,Obj.cells (ax .u32 [(r:Int)]) 110 (0,0))]))))):=⟨_,rfl⟩;refine aa.pre (H':=(b1,Obj.cells #[iv 0,.slice none 0 0] 116 (0,0))::(X++C)) (.perm ?_) ?_
 ·rw[hX];have:=xaT (a:=(b1,Obj.cells #[Value.int .i64 0,.slice none 0 0] 116 (0,0))) (l₂:=C) (l₁:=(b34,Obj.cells (List.toArray [Value.int .i64 (K.n:Int),s1]) 116 (0,0))::(N2++((b26,Obj.cells (List.toArray [Value.int .i64 (K.n:Int),s0]) 116 (0,0))::(N1++((jd,Obj.cells #[Value.int .i64 (K.n:Int)] 3 (0,0))::(N0++[(bx,Obj.cells (ax .u32 [(r:Int)]) 110 (0,0))]))))));simpa only[xaR,xai,xb2]using this
 refine aa.fq (VT (X:=X) (bn:=jd) h hn hr (Vb.mono λx hx=>?_) (ZU.mono λx hx=>?_) ?_) ?_
 ·rw[hX];exact .tail _ (xac _ (.tail _ (xad _ hx)))
 ·rw[hX];exact .tail _ (xad _ hx)
 ·rw[hX];exact .tail _ (xac _ (.tail _ (xac _ (.head _))))
 rintro v H ⟨N,rfl,ht⟩;obtain⟨s3,rfl,o3⟩:=ht.one;refine St.p (cX o3) ?_;refine ay.q ?_;exact aN.mk .tail ⟨N++X,_,by rw[xai],rfl,ht⟩
def rts(K:Kd):zL:=(List.range K.ho.length).filter λr=>decide (0<K.hold r)
theorem Mn(h:cc kp K S ord ah tr C):Fc zQ 192 #[ptr kp] C (λr H=>∃N,H=N++C/\aQ 110 .u32 r (iw (rts K)) N):=by
 obtain⟨b,hC,hO⟩:=h.rep;have hcap:=h.ok.mid.cap;have hle:=h.gg;have hfit:K.ho.length<=1048576:=by
  have:=hO.ul;omega
 refine aF λg=>I1 ?_;refine ae.aD (Br.no ?_);have aa9:∀z∈b.CH,z∈C:=by rw[hC];exact bG.sub (.cons (.app (.app (.app .left))))
 refine Nil.ptr (ai.mk (Ld.u (by rw[hC];exact .head _) ?_));refine hO.ho.bP ?_;rw[ak]
 let rk:Nat->zL:=λk=>(List.range k).filter λr=>decide (0<K.hold r)
 refine⟨λvs H=>∃(k:Nat) (w:zV) (N:Hp),vs=[w,iv (k:Int)]/\k<=K.ho.length/\H=N++C/\aQ 110 .u32 w (iw (rk k)) N,λvs _=>K.ho.length-bL vs 1,JE.mk ⟨0,_,[],rfl,xaO _,rfl,aQ.nil⟩,?_⟩;rintro w11 w12 H ⟨k,w,N,⟨⟩,hk,rfl,hN⟩ gs;refine ae.fi (Br.dec (λhlt=>?_) (λhlt=>?_))
 ·intro J hJ;have fin:∀w' N',aQ 110 .u32 w' (iw (rk (k+1))) N'->J [w'] (N'++C):=λw' N' h'=>hJ _ _ λgs=>by
   exact ae.inc (aC.of (.refl _) ⟨k+1,w',N',rfl,hlt,rfl,h'⟩ (by simp only[bL];omega))
  have e:rk (k+1)=rk k++if 0<K.hold k then [k]else []:=by
   show(List.range (k+1)).filter _=_;rw[xcl,xb4];congr 1;by_cases hp:0<K.hold k<;>simp[hp]
  refine hO.ho.ld (x:=((K.hold k:Nat):Int)) (bH hlt) (λz hz=>xac _ (aa9 z hz)) ?_;refine ae.m9 (b:=0) (Br.dec (λhp=>?_) (λhp=>?_))
  ·rw[e,xae hp]at fin;refine br.q ?_;have CI:(rk k).length<=k:=by
    have:=xbZ (λr=>decide (0<K.hold r)) (List.range k);rwa [xaI]at this
   refine av.int (e:=110) zK zK zK λbx=>?_;refine hN.rB (.cons .left) (by exact .head _) (by rw[ak];omega) (by rw[ak];omega) λv' N' cC=>?_;rw[cj]at fin;exact JE.of .tail (fin v' N' cC)
  rw[e,xab hp,xaL]at fin;exact JE.mk (fin w11 N hN)
 obtain rfl:k=K.ho.length:=by omega
 exact aN.here ⟨N,rfl,hN⟩
end
end
end Go.Proofs
namespace an
open Go.Sx
def Eg(c:Nat->Nat->Nat):Nat->zL->Nat
 |_,[]=>0
 |a,v::o=>c a v+Eg c (aB a v true) o
def pO(a:Nat)(o:zL):Nat:=o.foldl (λa v=>aB a v true) a
theorem BM(a:Nat)(o o':zL):pO a (o++o')=pO (pO a o) o':=xdm ..
theorem v9(c:Nat->Nat->Nat):∀(o o':zL) (a:Nat),Eg c a (o++o')=Eg c a o+Eg c (pO a o) o'
 | [],o',a=>by simp[Eg,pO]
 |v::o,o',a=>by rw[xaR,Eg,v9 c o o',Eg,xcU];rfl
theorem qu:∀(o:zL) (a u:Nat),(pO a o).testBit u=(a.testBit u||decide (u∈o))
 | [],a,u=>by simp[pO]
 |v::o,a,u=>by
  show(pO (aB a v true) o).testBit u=_;rw[qu o,aj];by_cases e:u=v
  ·simp[e]
  simp[e]
structure ng(n a:Nat)(o:zL):Prop where
 nd:o.Nodup
 mem:∀v,v∈o↔v∈bM n a
variable {n:Nat} {c:Nat->Nat->Nat}
theorem ng.nil{a:Nat}(h:ng n a []):bM n a=[]:=xcB.2 λv hv=>by simpa using(h.mem v).2 hv
theorem ng.tail{a v:Nat}{o:zL}(h:ng n a (v::o)):v∈bM n a/\ng n (aB a v true) o:=by
 have h1:=xaV.1 h.nd;refine⟨(h.mem v).1 zI,h1.2,λu=>?_⟩;rw[cQ,aj];have hu:=h.mem u;rw[cQ,xak]at hu;by_cases e:u=v
 ·subst e;simp[h1.1]
 simp only[e,false_or,xa1]at hu⊢;exact hu
theorem ng.cons{a v:Nat}{o:zL}(hv:v∈bM n a)(h:ng n (aB a v true) o):ng n a (v::o):=by
 have hm:=h.mem;refine⟨xaV.2 ⟨λhx=>?_,h.nd⟩,λu=>?_⟩
 ·have:=(hm v).1 hx;rw[cQ,aj,xae rfl]at this;exact absurd this.2 zI
 rw[xak,hm,cQ,cQ,aj];rw[cQ]at hv;by_cases e:u=v
 ·subst e;simp[hv]
 simp[e]
theorem D4:∀(o:zL) (a:Nat),ng n a o->B n c a<=Eg c a o
 | [],a,h=>by rw[LD h.nil];exact xaO _
 |v::o,a,h=>by
  obtain⟨h1,h2⟩:=h.tail;exact xbO (adb h1) (Nat.add_le_add_left (D4 o _ h2) _)
theorem EU:∀(f a:Nat),(bM n a).length<=f->ng n a (ord n c f a)/\Eg c a (ord n c f a)=B n c a
 |0,a,h=>by
  have hm:bM n a=[]:=xbT zO;rw[ord,LD hm];exact⟨⟨by simp,λv=>by rw[hm]⟩,rfl⟩
 |f+1,a,h=>by
  by_cases hm:bM n a=[]
  ·have:ord n c (f+1) a=[]:=by rw[ord,hm];rfl
   rw[this,LD hm];exact⟨⟨by simp,λv=>by rw[hm]⟩,rfl⟩
  obtain⟨v,hv,he,_,ho⟩:=u3 (c:=c) (f:=f) hm;have:=gK hv;obtain⟨h1,h2⟩:=EU f (aB a v true) zO;rw[ho];exact⟨h1.cons hv,by rw[Eg,h2,he]⟩
theorem oG(n:Nat):bM n 0=List.range n:=by
 unfold bM;rw[xcg.2];simp
end an
namespace an
open Go.Sx
def TY(n:Nat)(l:Fs)(vs:zL):Fs:=vs.foldl (λl v=>given n l v) l
theorem RG(A k:Nat):has (k+1) A=has k A++(if A.testBit k then [k]else []):=by
 unfold has;rw[xcl,xb4];congr 1;rw[xbk];simp
theorem uE(n:Nat)(l:Fs)(a b:zL):TY n l (a++b)=TY n (TY n l a) b:=xdm ..
theorem uI(n:Nat)(L:Fs)(A:Nat):∀k,st n L A k=TY n (my L) (has k A)
 |0=>rfl
 |k+1=>by
  rw[st,RG,uE,<-uI n L A k];split<;>rfl
def Sm(a b:Fs):Prop:=∀x,x∈a↔x∈b
theorem Sm.trans{a b c:Fs}(h:Sm a b)(h':Sm b c):Sm a c:=λx=>(h x).trans (h' x)
theorem Sm.symm{a b:Fs}(h:Sm a b):Sm b a:=λx=>(h x).symm
theorem Sm.refl(a:Fs):Sm a a:=λ_=>xcT
def AF(n:Nat)(l:Fs):Prop:=∀t∈l,eX n t
variable {n:Nat}
theorem tc{a b:Fs}(h:Sm a b)(v:Nat):Sm (given n a v) (given n b v):=λx=>by
 rw[cg,cg];constructor
 ·rintro⟨t,ht,h'⟩;exact⟨t,(h t).1 ht,h'⟩
 rintro⟨t,ht,h'⟩;exact⟨t,(h t).2 ht,h'⟩
theorem RX(hn:n<=16)(l:Fs)(v:Nat):AF n (given n l v):=λt ht=>by
 obtain⟨u,_,b,rfl⟩:=cg.1 ht;exact eu hn
theorem DA{t:zL}{u v:Nat}{b c:Bool}(hf:eX n t)(hu:u<n)(hv:v<n)(h:u≠v):iJ n (iJ n t u b) v c=iJ n (iJ n t v c) u b:=
 (eu hf.xC).ext (eu hf.xC) λx hx=>by
  rw[eW (eu hf.xC) hv hx,eW hf hu (fY hx hv),eW (eu hf.xC) hu hx,eW hf hv (fY hx hu),dj (xa8 h)]
theorem FL{l:Fs}{u v:Nat}(hl:AF n l)(hu:u<n)(hv:v<n)(h:u≠v):Sm (given n (given n l u) v) (given n (given n l v) u):=λx=>by
 rw[cg,cg];constructor
 ·rintro⟨t,ht,c,rfl⟩;obtain⟨s,hs,b,rfl⟩:=cg.1 ht;exact⟨iJ n s v c,cg.2 ⟨s,hs,c,rfl⟩,b,DA (hl s hs) hu hv h⟩
 rintro⟨t,ht,c,rfl⟩;obtain⟨s,hs,b,rfl⟩:=cg.1 ht;exact⟨iJ n s u c,cg.2 ⟨s,hs,c,rfl⟩,b,DA (hl s hs) hv hu (xa8 h)⟩
theorem x7:∀(vs:zL) {a b:Fs},Sm a b->Sm (TY n a vs) (TY n b vs)
 | [],_,_,h=>h
 |v::vs,_,_,h=>x7 vs (tc h v)
theorem Pv(hn:n<=16){vs vs':zL}(hp:vs.Perm vs'):(∀v∈vs,v<n)->∀l,AF n l->Sm (TY n l vs) (TY n l vs'):=by
 induction hp with
 |nil=>exact λ_ l _=>Sm.refl _
 |cons v _ ih=>exact λh l hl=>ih (λu hu=>h u (by simp[hu])) _ (RX hn l v)
 |swap x y r=>
  intro h l hl;by_cases e:x=y
  ·subst e;exact Sm.refl _
  exact x7 r (FL hl (h y zI) (h x zI) (xa8 e))
 |trans ud _ ih1 ih2=>exact λh l hl=>(ih1 h l hl).trans (ih2 (λv hv=>h v (ud.mem_iff.2 hv)) l hl)
theorem x6:∀(vs:zL) {l:Fs},l.Nodup->(TY n l vs).Nodup
 | [],_,h=>h
 |v::vs,_,_=>x6 vs (nW _ _ _)
theorem LW{L:Fs}(h:AF n L):AF n (my L):=λt ht=>h t (gp.1 ht)
theorem EY{a b:Fs}(ha:a.Nodup)(hb:b.Nodup)(h:Sm a b)(v:Nat):(nodes n a v).length=(nodes n b v).length:=mH (jw ha hb h)
theorem yO(n a:Nat):(has n a).Nodup:=List.Pairwise.filter _ xbj
theorem YT{a v:Nat}(h:v∈has n a):v<n:=(qK.1 h).1
theorem RH{a v:Nat}(hv:v<n)(ha:a.testBit v=false):(has n (aB a v true)).Perm (has n a++[v]):=by
 refine(xcV (yO _ _) ?_).2 λu=>?_
 ·rw[xa4];refine⟨yO _ _,by simp,λx hx y hy=>?_⟩;simp at hy;subst hy;rintro rfl;rw[(qK.1 hx).2]at ha;cases ha
 rw[qK,xan,xaE,qK,aj];by_cases e:u=v
 ·subst e;simp[hv]
 simp[e]
theorem T1(hn:n<=16){L:Fs}(hL:AF n L){a v:Nat}(hv:v<n)(ha:a.testBit v=false):Sm (st n L (aB a v true) n) (given n (st n L a n) v):=by
 rw[uI,uI];have h:=Pv hn (RH hv ha) (λu hu=>YT hu) _ (LW hL);rw[uE]at h;exact h
variable {φ:zL->zL} {π:Nat->Nat}
def lay(n:Nat)(F:Nat->Nat):zL:=(List.range (wN n)).map λi=>F i&&&dM n
def neg(n:Nat)(ws:zL):zL:=lay n λi=>18446744073709551615-ws.getD i 0
end an
namespace aA
open an
section
variable {n:Nat} {ord:zL} {L:an.Fs}
theorem EH(a:Nat)(o:zL)(v:Nat):pO a (o++[v])=aB (pO a o) v true:=by rw[BM];rfl
theorem Sj(hn:n<=16)(hL:∀t∈L,eX n t)(hp:ord.Perm (List.range n)):∀k,k<=n->Sm (cur n ord L k) (st n L (pO 0 (ord.take k)) n)
 |0,_=>by
  have e:st n L (pO 0 (ord.take 0)) n=my L:=by
   rw[uI];have:has n (pO 0 (ord.take 0))=[]:=by
    show has n 0=[];rw[xcB];intro v hv;have:=(qK.1 hv).2;rw[xcN]at this;cases this
   rw[this];rfl
  rw[e];exact .refl _
 |k+1,hk=>by
  have Ba:ord.length=n:=by rw[hp.length_eq,xaI]
  have eY:ord.Nodup:=hp.nodup_iff.2 xbj;have hlt:k<ord.length:=by omega
  have hv:ord[k]<n:=xaM.1 (hp.mem_iff.1 (xaG hlt));have hg:ord.getD k 0=ord[k]:=by rw[xar,xaa hlt];rfl
  have ht:ord.take (k+1)=ord.take k++[ord[k]]:=xa2 hlt;have hno:ord[k]∉ord.take k:=λhm=>by
   have h2:(ord.take (k+1)).Nodup:=eY.sublist (xdN _ _);rw[ht]at h2;exact(xa4.1 h2).2.2 _ hm _ zI rfl
  have hb:(pO 0 (ord.take k)).testBit ord[k]=false:=by
   rw[qu,xcN,xal hno];rfl
  rw[ht,EH];refine Sm.trans ?_ (Sm.symm (T1 hn hL hv hb));rw[cur,hg];exact tc (Sj hn hL hp k zO) _
theorem UQ(hn:n<=16)(hL:∀t∈L,eX n t)(hp:ord.Perm (List.range n)){k:Nat}(hk:k<=n)(v:Nat):(nodes n (cur n ord L k) v).length=lvl n L (pO 0 (ord.take k)) v:=by
 unfold lvl;refine EY (y2 k) ?_ (Sj hn hL hp k hk) v;rw[uI];exact x6 _ (mw _)
theorem Dw(hn:n<=16)(hL:∀t∈L,eX n t)(hp:ord.Perm (List.range n)):∀k,k<=n->Eg (lvl n L) 0 (ord.take k)=kz n ord L k
 |0,_=>rfl
 |k+1,hk=>by
  have Ba:ord.length=n:=by rw[hp.length_eq,xaI]
  have hlt:k<ord.length:=by omega
  have hg:ord.getD k 0=ord[k]:=by rw[xar,xaa hlt];rfl
  rw[xa2 hlt,v9,Dw hn hL hp k zO,kz];congr 1;unfold E8;rw[UQ hn hL hp zO,hg];simp[Eg]
theorem y3(hn:n<=16)(hL:∀t∈L,eX n t)(hp:ord.Perm (List.range n)):Eg (lvl n L) 0 ord=kz n ord L n:=by
 have Ba:ord.length=n:=by rw[hp.length_eq,xaI]
 rw[<-Dw hn hL hp n (xaj n),<-Ba,xbh]
theorem Fj(hp:ord.Perm (List.range n)):ng n 0 ord:=⟨hp.nodup_iff.2 xbj,λv=>by rw[oG];exact hp.mem_iff⟩
theorem ER(h:ng n 0 ord):ord.Perm (List.range n):=by
 refine(xcV h.nd xbj).2 λv=>?_;rw[h.mem,oG]
theorem sG(c:Nat->Nat->Nat):(an.ord n c n 0).Perm (List.range n):=ER (EU n 0 (by rw[oG,xaI];exact xaj n)).1
theorem sF(hn:n<=16)(hL:∀t∈L,eX n t):kz n (an.ord n (lvl n L) n 0) L n=B n (lvl n L) 0:=by
 rw[<-y3 hn hL (sG _)];exact(EU n 0 (by rw[oG,xaI];exact xaj n)).2
theorem Wa(hn:n<=16)(hL:∀t∈L,eX n t)(hp:ord.Perm (List.range n)):B n (lvl n L) 0<=kz n ord L n:=by
 rw[<-y3 hn hL hp];exact D4 ord 0 (Fj hp)
end
end aA
set_option maxRecDepth 100000
namespace Go.Proofs
open Go Go.Sx
section
open aA
section
variable {kp:Nat} {K:Kd} {S:Nat->aA.Fn} {ord tr:zL} {C:Hp}
theorem uJ{n:Nat}{o:zL}:∀k,kz n o [] k=0:=by
  have hc:∀k,cur n o [] k=[]:=λk=>by
    induction k with
    |zero=>rfl
    |succ k ih=>rw[cur,ih];rfl
  intro k;induction k with
  |zero=>rfl
  |succ k ih=>rw[kz,ih];unfold E8;rw[hc];rfl
theorem Ex{B:Hp}{v:zV}{n:Nat}{f:aA.Fn}(h:kf B v n f):∃s ws,v=.agg #[iv (n:Int),s]/\Words B s ws/\an.eX n ws/\oZ n ws=f:=by
  obtain⟨ws,⟨s,rfl,hw⟩,hf,he⟩:=h;exact⟨s,ws,rfl,hw,hf,he⟩
def agJ(kp:Nat)(K:Kd)(S:Nat->aA.Fn)(ord tr:zL)(v:zV)(H:Hp):Prop:=
  ∃L:an.Fs,(∀t∈L,an.eX K.n t)/\K.held S=FT K.n L/\L.length<=1048576/\
   ((cI K S ord=an.B K.n (an.lvl K.n L) 0/\v=.tuple #[.agg #[iv ((cI K S ord:Nat):Int),iv ((cI K S ord:Nat):Int),iv 0,.bool true],iv 0]/\At kp K S ord tr H)\/
    (cI K S ord≠an.B K.n (an.lvl K.n L) 0/\∃o ls,o=an.ord K.n (an.lvl K.n L) K.n 0/\ls=path ord o/\
     (((rm K S).can ord ls=true/\v=.tuple #[.agg #[iv ((cI K S ord:Nat):Int),iv ((cI K S o:Nat):Int),iv ((ls.length:Nat):Int),.bool true],iv 0]/\At kp K S o (tr++ls) H)\/
      ((rm K S).can ord ls=false/\v=.tuple #[.agg #[iv ((cI K S ord:Nat):Int),iv ((cI K S ord:Nat):Int),iv ((2*((rm K S).dL 0 ls ord).length:Nat):Int),.bool false],iv 0]/\At kp K S ord tr H))))
theorem TC(h:At kp K S ord tr C)(hp:ord.Perm (List.range K.n))(hn:K.n<=12)(eM:tr.length<17317308137472):
    Fc zQ 139 #[ptr kp] C (λv H=>agJ kp K S ord tr v H):=by
  have h0:=h;obtain⟨K',S',bW,hK,hk⟩:=h;have hKn:=hk.n;have fK:∀r,K'.hold r≠0->live K'.N r:=λr hr=>(.inr (hK.ok.mid.held r hr));have hcap:=hK.ok.mid.cap;have hle:=hK.gg;have CI:(rts K').length<=1048576:=by
    obtain⟨b,_,hO⟩:=hK.rep;have:=hO.ul;have h2:=xbZ (λr=>decide (0<K'.hold r)) (List.range K'.ho.length);rw[xaI]at h2;show(List.filter _ _).length<=_;omega
  have vH:∀r,r∈rts K'↔K'.hold r≠0:=λr=>by
    unfold rts;rw[xbS,xaM,decide_eq_true_iff];constructor
    · rintro⟨_,h⟩;omega
    · intro h
      refine⟨xaK λh2=>h ?_,by omega⟩;unfold Kd.hold;rw[xar,xaD zO];rfl
  refine aF λg=>Jq ?_;intro b1 _;refine ae.aD (Br.no (aa.eq (mW h0) (ae.m9 (b:=12) (Br.F (aa.fq (Mn hK) ?_)))));rintro vr H ⟨NR,rfl,hR⟩;have VB:dA .u32 NR vr (iw (rts K')):=hR.ints;refine hR.bP ?_;rw[ak];refine⟨λvs H=>∃(i:Nat) (s:zV) (L:an.Fs) (CS N:Hp),vs=[s,iv (i:Int)]/\i<=(rts K').length/\H=(b1,.cells #[iv 0,iv 0,iv 0,.bool false] 147 (0,0))::(CS++(N++C))/\(∀x∈NR,x∈N)/\rC 116 s (L0 K'.n L) CS N/\L.length=i/\(∀t∈L,an.eX K'.n t)/\∀j t,L[j]? =some t->∃r,(rts K')[j]? =some r/\oZ K'.n t=S' r,
    λvs _=>(rts K').length-bL vs 1,JE.mk ⟨0,_,[],[],NR,rfl,xaO _,rfl,λ_ h=>h,rC.nil,rfl,λt ht=>absurd ht (xaS),λj t (hj:([]:List (zL))[j]? =some t)=>absurd hj (by rw[List.getElem?_nil];exact nofun)⟩,?_⟩
  rintro w20 w21 H ⟨i,s,L,CS,N,⟨⟩,hi,rfl,hN,hT,hLl,Ed,hLr⟩ gs;refine ae.fi (Br.dec (λhlt=>?_) (λhge=>?_))
  · refine VB.ld (n:=(((rts K')[i]:Nat):Int)) (dg (xaa hlt)) (λx hx=>.tail _ (xac _ (xad _ (hN x hx)))) ?_
    refine aa.fq (args:=#[ptr kp,u32 (rts K')[i]]) (Ns hK zO (fK _ ((vH _).1 (xaG hlt)))) ?_;rintro w H ⟨Nt,t,rfl,rfl,ht⟩;obtain⟨sw,ws,rfl,hw,hf,he⟩:=Ex ht;apply Ext.two;intro b29 _;refine St.p (cX (bO hw)) ?_;refine ay.q ?_;refine wu λXp=>?_;have hT':rC 116 w20 (L0 K'.n L) CS (N++Nt):=hT.mono λ_ h=>xad _ h;refine rC.app hT' (A:=[(Xp,_),(b29,_),(b1,_)]) (B:=N++(Nt++C)) (t:=⟨(K'.n:Int),ws⟩) (by exact .head _) (hw.mono λ_ h=>xac _ h) (by rw[pI];omega) λv' CS' hT2=>?_;refine ae.inc (aC.of (.skip .tail) ⟨i+1,v',L++[ws],CS',N++Nt,rfl,hlt,by rw[xai];rfl,λx hx=>xad _ (hN x hx),by unfold L0 at hT2⊢;rw[xaJ];exact hT2,by rw[xaf,hLl];rfl,λt ht=>?_,λj t hj=>?_⟩ (by simp only[bL];omega))
    · rcases xan.1 ht with ht|ht
      · exact Ed t ht
      · rw[xaE.1 ht];exact hf
    · by_cases YH:j<L.length
      · rw[xaW YH]at hj
        exact hLr j t hj
      · rw[xbM zO]at hj
        have:j=i:=by
          have:=(xah.1 hj).1;rw[xcm]at this;omega
        subst this;rw[hLl,xc6]at hj;simp at hj;subst hj;exact⟨_,xaa hlt,he⟩
  have hi':i=(rts K').length:=by omega
  subst hi';rw[hKn]at hT Ed hLr;have s9:K.held S=FT K.n L:=by
    refine funext λg=>propext ?_;rw[<-hk.held g];constructor
    · rintro⟨r,hr,rfl⟩
      obtain⟨j,hj,e⟩:=xba.1 ((vH r).2 hr);obtain⟨r2,p7,he⟩:=hLr j L[j] (xaa zO);rw[xaa hj,e]at p7;cases p7;exact⟨L[j],xaG _,he.symm⟩
    · rintro⟨t,ht,rfl⟩
      obtain⟨j,hj,e⟩:=xba.1 ht;obtain⟨r2,p7,he⟩:=hLr j t (by rw[xaa hj,e]);exact⟨r2,(vH r2).1 (xaw p7),he⟩
  have hlt:=Kt hp;have hkz:cI K S ord=kz K.n ord L K.n:=by
    unfold cI;rw[s9];exact Wz Ed zO hlt
  have RS:L.length<=1048576:=by omega
  refine aa.eq (cH h0) ?_;have hTb:jF (CS++N) w20 (L0 K.n L):=hT.aed (λ_ h=>xad _ h) (λ_ h=>xac _ h);rw[<-xai];refine aa.pq (V9 hTb (by rw[pI];omega)) ?_;intro w NB hB;obtain⟨so,Y,hY,rfl,hI⟩:∃so Y,NB++(CS++N)=Y/\w=.tuple #[iv ((an.B K.n (an.lvl K.n L) 0:Nat):Int),so,iv 0]/\(L≠[]->dA .i64 Y so (iw (an.ord K.n (an.lvl K.n L) K.n 0))):=by
    have hO:rD (L0 K.n L):=B5 Ed;rcases hB with⟨hno,_⟩|⟨_,n2,L2,e,hz,_,Z5,hB⟩
    · exact absurd hO hno
    by_cases jK:L=[]
    · subst jK
      have hL2:L2=[]:=by cases L2 with
        |nil=>rfl
        |cons a b=>simp[L0]at e
      subst hL2;obtain rfl:=hz rfl;have hB0:an.B K.n (an.lvl K.n []) 0=0:=by rw[<-sF zO zI];exact uJ _
      rcases hB with⟨h,_⟩|⟨_,s2,C2,N2,rfl,_,_⟩
      · omega
      exact⟨s2,_,rfl,by rw[hB0];rfl,λh=>absurd rfl h⟩
    · have Vi:n2=K.n/\L2=L:=by
        cases L with
        |nil=>exact absurd rfl jK
        |cons a b=>
          cases L2 with
          |nil=>simp[L0]at e
          |cons a2 b2=>
            simp only[L0,xaB,xau,Tb.mk.injEq]at e;obtain⟨⟨e1,e2⟩,e3⟩:=e;have e1:n2=K.n:=by omega
            subst e1;refine⟨rfl,?_⟩;rw[e2];congr 1;refine((List.map_inj_right (f:=λws=>(⟨(K.n:Int),ws⟩:Tb)) ?_).1 e3).symm;intro x y hxy;simpa using hxy
      obtain⟨rfl,rfl⟩:=Vi;rcases hB with⟨h,_⟩|⟨_,s2,C2,N2,rfl,hown,hH⟩
      · omega
      exact⟨s2,_,rfl,rfl,λ_=>by rw[hH];exact hown.ints.mono λ_ h=>xad _ h⟩
  rw[hY];clear hB;refine Ext.mk rfl (Ext.mk rfl (Ext.mk rfl (ae.eO (Br.dec (λheq=>?_) (λhne=>?_)))))
  · refine Build.mk (cs:=[iv ((cI K S ord:Nat):Int),iv ((cI K S ord:Nat):Int),iv 0,.bool true]) zK ?_
    refine St.q ?_;refine ay.q ?_;exact aN.mk (.skip .right) ⟨L,Ed,s9,RS,.inl ⟨heq,rfl,h0⟩⟩
  · have jK:L≠[]:=λe=>by
      subst e;refine hne ?_;rw[hkz,<-sF zO zI,uJ,uJ]
    obtain⟨o,ho⟩:∃o,o=an.ord K.n (an.lvl K.n L) K.n 0:=⟨_,rfl⟩;have hop:o.Perm (List.range K.n):=by rw[ho];exact sG _
    have hIo:=hI jK;rw[<-ho]at hIo;refine aa.fq (Qk h0 hIo hp hop zO) ?_;rintro w H ⟨C2,rfl,hM⟩;have Yt:=(Ae (hop.nodup_iff.2 xbj) (hp.trans hop.symm)).1;rcases hM with⟨hc,rfl,hA⟩|⟨hc,rfl,hA⟩
    · rw[Yt]at hA
      refine Ext.two (aa.eq (cH hA) (ae.gU ?_));rw[xam rfl];refine Build.mk (cs:=[iv ((cI K S ord:Nat):Int),iv ((cI K S o:Nat):Int),iv (((path ord o).length:Nat):Int),.bool true]) zK ?_;refine St.q ?_;refine ay.q ?_;exact aN.mk (.skip .right) ⟨L,Ed,s9,RS,.inr ⟨hne,o,_,ho,rfl,.inl ⟨hc,rfl,hA⟩⟩⟩
    · refine Ext.two (aa.eq (cH hA) (ae.gU ?_))
      rw[xal zD];refine Build.mk (cs:=[iv ((cI K S ord:Nat):Int),iv ((cI K S ord:Nat):Int),iv ((2*((rm K S).dL 0 (path ord o) ord).length:Nat):Int),.bool false]) zK ?_;refine St.q ?_;refine ay.q ?_;exact aN.mk (.skip .right) ⟨L,Ed,s9,RS,.inr ⟨hne,o,_,ho,rfl,.inr ⟨hc,rfl,hA⟩⟩⟩
end
end
section
open aA
section
variable {kp:Nat} {K:Kd} {S:Nat->aA.Fn} {ord tr:zL} {C:Hp} {Q:zV->Hp->Prop}
theorem PT{w:Nat}(hw:3<=w/\w<=5):Rd zQ 138 #[.int .u8 (w:Int)] C (· =iv ((w-1:Nat):Int)):=by
 refine aF λg=>Jr ?_;refine ae.bY (b:=3) (br.q (ae.fH (b:=2) (bc.mk (.refl _) ?_)));rw[show w-3+2=w-1 by omega]
theorem ir(h:At kp K S ord tr C){s gr:Nat}:Rd zQ 134 #[ptr kp,.int .u8 (s:Int),iv (gr:Int)] C (· =iv (if 6<s\/gr<100\/1000<gr then 1 else if s=6/\12<K.n then 6 else 0)):=by
 refine aF λg=>xj ?_;refine ae.aD (Br.no (ae.m9 (b:=6) (cf.or (a:=decide (6<s)) (decide (gr<100)) (λ_=>ae.fi (b:=100) ⟨rfl,rfl⟩) rfl λ_=>?_)));refine cf.or (a:=decide (6<s)||decide (gr<100)) (decide (1000<gr)) (λ_=>ae.m9 (b:=1000) ⟨rfl,rfl⟩) rfl λ_=>?_;rw[<-xa7,<-xa7];refine Br.dec (λhb=>?_) (λhb=>?_)
 ·rw[xae zO];exact bc.mk (.refl _) rfl
 rw[xab zO];intro J9 h9;refine ae.eO (b:=6) ?_;by_cases hs:s=6
 ·rw[xam hs];refine Split.go rfl (aa.eq (mW h) (ae.m9 (b:=12) (aI.mk (JE.mk (h9 _ _ λ_=>?_)))));show Br (.bool (decide (12<K.n))) _ _;refine Br.dec (λM7=>?_) (λM7=>?_)
  ·rw[xae ⟨hs,M7⟩];exact bc.mk (.refl _) rfl
  rw[xab zO];exact bc.mk (.refl _) rfl
 rw[xal hs];refine Split.Ut rfl (aI.mk (JE.mk (h9 _ _ λ_=>Br.no ?_)));rw[xab zO];exact bc.mk (.refl _) rfl
theorem oB(a b c:Int)(d:Bool):∀u∈[Value.int .i64 a,iv b,iv c,.bool d],u.oneCell'=true:=λu hu=>by
 simp only[xak,xaS,xby]at hu;rcases hu with rfl|rfl|rfl|rfl<;>rfl
abbrev tF(a b c:Int)(d:Bool):zV:=.agg #[iv a,iv b,iv c,.bool d]
theorem PV(h:At kp K S ord tr C){gr:Nat}(mq:100<=gr/\gr<=1000)(hn:12<K.n):Rd zQ 85 #[ptr kp,.int .u8 6,iv (gr:Int)] C (· =.tuple #[tF 0 0 0 false,iv 6]):=by
 refine aF λg=>iH ?_;intro b1 _;refine aa.eq (ir h (s:=6)) ?_;rw[xab zO,xae ⟨rfl,hn⟩];refine ae.cG (Br.T (Build.mk (cs:=[iv 0,iv 0,iv 0,.bool false]) zK ?_));refine St.q ?_;refine ay.q ?_;exact bc.mk .tail rfl
theorem PW(h:At kp K S ord tr C){gr:Nat}(mq:100<=gr/\gr<=1000)(hin:Fc zQ 135 #[ptr kp,iv (gr:Int)] C Q)(hQ:∀v H,Q v H->∃(a b c:Int) (d:Bool) (e:zV),v=.tuple #[tF a b c d,e]):
  Fc zQ 85 #[ptr kp,.int .u8 1,iv (gr:Int)] C Q:=by
 refine aF λg=>iH ?_;intro b1 _;refine aa.eq (ir h (s:=1)) ?_;rw[xab zO,xab zO];refine ae.cG (Br.F (ae.eO (a:=1) (b:=1) (Br.yes (aa.fq hin ?_))));intro v H hv;obtain⟨a,b,c,d,e,rfl⟩:=hQ v H hv;refine Ext.two (St.p (oB a b c d) ?_);refine ay.q ?_;exact aN.mk .tail hv
theorem EK(h:At kp K S ord tr C){gr:Nat}(mq:100<=gr/\gr<=1000)(hin:Fc zQ 136 #[ptr kp,iv (gr:Int)] C (λv H=>∃(a b c:Int) (d:Bool) (r:zV),v=.tuple #[tF a b c d,r,iv 0]/\Q (.tuple #[tF a b c d,iv 0]) H)):
  Fc zQ 85 #[ptr kp,.int .u8 2,iv (gr:Int)] C Q:=by
 refine aF λg=>iH ?_;intro b1 _;refine aa.eq (ir h (s:=2)) ?_;rw[xab zO,xab zO];refine ae.cG (Br.F (ae.eO (a:=2) (b:=1) (Br.no (ae.eO (a:=2) (b:=2) (Br.yes (aa.fq hin ?_))))));rintro v H ⟨a,b,c,d,r,rfl,hv⟩;refine Ext.mk rfl (Ext.mk rfl (Ext.mk rfl ?_));intro Ei _;refine St.p (oB a b c d) ?_;refine ay.q ?_;refine St.p (oB a b c d) ?_;refine ay.q ?_;exact aN.mk (.skip .tail) hv
theorem EJ(h:At kp K S ord tr C){w gr:Nat}(hw:3<=w/\w<=5)(mq:100<=gr/\gr<=1000)(hin:Fc zQ 137 #[ptr kp,iv ((w-1:Nat):Int)] C Q)(hQ:∀v H,Q v H->∃(a b c:Int) (d:Bool) (e:zV),v=.tuple #[tF a b c d,e]):
  Fc zQ 85 #[ptr kp,.int .u8 (w:Int),iv (gr:Int)] C Q:=by
 refine aF λg=>iH ?_;intro b1 _;refine aa.eq (ir h (s:=w)) ?_;rw[xab zO,xab zO];refine ae.cG (Br.F (ae.eO (b:=1) (Br.F (ae.eO (b:=2) (Br.F ?_)))));intro J28 h28;have good:J28 [.bool true] ((b1,.cells #[iv 0,iv 0,iv 0,.bool false] 147 (0,0))::C):=by
  refine h28 _ _ λ_=>Br.yes ?_;refine aa.eq (PT hw) (aa.fq hin ?_);intro v H hv;obtain⟨a,b,c,d,e,rfl⟩:=hQ v H hv;refine Ext.two (St.p (oB a b c d) ?_);refine ay.q ?_;exact aN.mk .tail hv
 refine ae.eO (b:=3) (Br.dec (λe=>?_) (λe=>?_))
 ·rw[xam e];exact JE.mk good
 refine ae.eO (b:=4) (Br.dec (λe=>?_) (λe=>?_))
 ·rw[xam e];exact JE.mk good
 refine ae.eO (b:=5) ?_;rw[xam zO];exact JE.mk good
theorem Mi(h:At kp K S ord tr C){gr:Nat}(hn:K.n<=12)(mq:100<=gr/\gr<=1000)(hin:Fc zQ 139 #[ptr kp] C Q)(hQ:∀v H,Q v H->∃(a b c:Int) (d:Bool) (e:zV),v=.tuple #[tF a b c d,e]):
  Fc zQ 85 #[ptr kp,.int .u8 6,iv (gr:Int)] C Q:=by
 refine aF λg=>iH ?_;intro b1 _;refine aa.eq (ir h (s:=6)) ?_;rw[xab zO,xab zO];refine ae.cG (Br.F (ae.eO (a:=6) (b:=1) (Br.no (ae.eO (a:=6) (b:=2) (Br.no ?_)))));intro J28 h28;refine ae.eO (a:=6) (b:=3) (Br.no (ae.eO (a:=6) (b:=4) (Br.no (ae.eO (a:=6) (b:=5) (JE.mk (h28 _ _ λ_=>Br.no ?_))))));refine ae.eO (a:=6) (b:=6) (Br.yes (aa.fq hin ?_));intro v H hv;obtain⟨a,b,c,d,e,rfl⟩:=hQ v H hv;refine Ext.two (St.p (oB a b c d) ?_);refine ay.q ?_;exact aN.mk .tail hv
theorem PY(h:At kp K S ord tr C){gr:Nat}(mq:100<=gr/\gr<=1000):Rd zQ 85 #[ptr kp,.int .u8 0,iv (gr:Int)] C (· =.tuple #[tF (cI K S ord:Nat) (cI K S ord:Nat) 0 false,iv 0]):=by
 refine aF λg=>iH ?_;intro b1 _;refine aa.eq (ir h (s:=0)) ?_;rw[xab zO,xab zO];refine ae.cG (Br.F (ae.eO (a:=0) (b:=1) (Br.no (ae.eO (a:=0) (b:=2) (Br.no ?_)))));intro J28 h28;refine ae.eO (a:=0) (b:=3) (Br.no (ae.eO (a:=0) (b:=4) (Br.no (ae.eO (a:=0) (b:=5) (JE.mk (h28 _ _ λ_=>Br.no ?_))))));refine ae.eO (a:=0) (b:=6) (Br.no (aa.eq (cH h) (aa.eq (cH h) (Build.mk (cs:=[iv ((cI K S ord:Nat):Int),iv ((cI K S ord:Nat):Int),iv 0,.bool false]) zK ?_))));refine St.q ?_;refine ay.q ?_;exact bc.mk .tail rfl
end
section
variable {C:Hp}
def swB(n s:Nat):Nat->Nat
 |1=>3*n*(n-1)
 |2=>3*n*(n-1)*(s+1)
 |3=>(n-1)*2
 |4=>(n-2)*10
 |5=>(n-3)*46
 |6=>n*(n-1)
 |_=>0
end
end
end Go.Proofs
namespace aA
section
variable {m:Rm} {g:Nat}
theorem Rm.yH(m:Rm)(ord path:zL):∀i,m.size (az ord (path.take (m.keep ord path i)))=m.size ord->m.keep ord path i=0
 |0,_=>rfl
 |i+1,h=>by
  rw[keep]at h⊢;have h0:=m.vC ord path i 0 (xaO _);have h0:m.size (az ord (path.take (m.keep ord path i)))<=m.size ord:=h0;split at h
  ·omega
  rename_i hn;rw[xab hn];exact m.yH ord path i h
theorem Rm.Em(m:Rm)(w p:Nat)(ord:zL)(h:m.size (az ord (m.visit w p ord).1)=m.size ord):(m.visit w p ord).1=[]:=by
 have:=m.yH ord (m.dL p (l7 w) ord) (m.dL p (l7 w) ord).length h;show List.take _ _=[];rw[this];rfl
theorem Rm.Bp(m:Rm)(w p:Nat)(ord:zL):(m.visit w p ord).2<=2*(l7 w).length:=by
 have h1:=m.lZ p (l7 w) ord;show _+(_-_)<=_;omega
theorem Rm.zc(m:Rm)(w:Nat)(ord:zL):∀i,(m.all w ord i).2<=i*(2*(l7 w).length)
 |0=>xaO _
 |i+1=>by
  have h1:=m.zc w ord i;have h2:=m.Bp w i (az ord (m.all w ord i).1);show(m.all w ord i).2+(m.visit w i (az ord (m.all w ord i).1)).2<=_;rw[xbu];omega
theorem uW{p q:zL}(hq:q.Nodup)(hp:p.Perm q):∀i,i<=q.length->2*(eo p q i).length+i*i<=i*(2*p.length-1)
 |0,_=>by simp[eo]
 |i+1,hi=>by
  have:=uW hq hp i zO;obtain⟨_,_,h3⟩:=jQ hq hp i zO;have hl:=hp.length_eq;rw[eo,xaf,AP];have h4:=(h3 zO).2;have e1:(i+1)*(i+1)=i*i+i+i+1:=by rw[xbu,Nat.mul_succ];omega
  have e2:(i+1)*(2*p.length-1)=i*(2*p.length-1)+(2*p.length-1):=xbu _ _;rw[e1,e2];omega
theorem ES{p q:zL}{n:Nat}(hq:q.Nodup)(hp:p.Perm q)(hn:q.length=n):2*(path p q).length<=n*(n-1):=by
 have:=uW hq hp q.length (xaj _);have hl:=hp.length_eq;rw[hl,hn]at this;unfold path;rw[hn];cases n with
 |zero=>simpa using this
 |succ k=>
  rw[show 2*(k+1) -1=(k+1)+k by omega,xdy (k+1) (k+1) k]at this;show 2*(eo p q (k+1)).length<=(k+1)*k;omega
structure tw(m:Rm)(ord:zL)(ls:zL):Prop where
 mem:∀x∈ls,x+1<m.n
 le:m.size (az ord ls)<=m.size ord
 len:ls.length+66*m.size (az ord ls)<=66*m.size ord
theorem tw.nil{ord:zL}:tw m ord []:=⟨by simp,xaj _,by simp[az]⟩
theorem tw.of{ord ls:zL}(h1:∀x∈ls,x+1<m.n)(h2:m.size (az ord ls)<=m.size ord)(h3:m.size (az ord ls)=m.size ord->ls=[])(h4:ls.length<=66):tw m ord ls:=by
 refine⟨h1,h2,?_⟩;by_cases e:m.size (az ord ls)=m.size ord
 ·rw[h3 e];simp[az]
 omega
theorem BJ(hn:m.n<=64):∀{l ord:zL},ord.Perm (List.range m.n)->(∀v∈l,v<m.n)->(m.ct g ord l).1.length+66*m.size (az ord (m.ct g ord l).1)<=66*m.size ord
 | [],ord,hp,hl=>by simp[Rm.ct,az]
 |v::l,ord,hp,hl=>by
  have hv:=Fl hp (hl v zI);obtain⟨a1,a2,a3,a4⟩:=m.z7 g (ord:=ord) hv;have hin:=Kp hv a1;have ih:=BJ hn (l:=l) (ord:=az ord (road (ord.idxOf v) (m.rR g ord (ord.idxOf v)).1)) (mA hp hin) (λx hx=>hl x (by simp[hx]));have CI:=uO (ord.idxOf v) (m.rR g ord (ord.idxOf v)).1;rw[Rm.ct];simp only;rw[cr,xaf];by_cases e:m.size (az ord (road (ord.idxOf v) (m.rR g ord (ord.idxOf v)).1))=m.size ord
  ·have e2:=a3 e;rw[e2,gB]at ih CI⊢;simpa[az]using ih
  omega
theorem pL{ord l:zL}(hp:ord.Perm (List.range m.n))(hl:l.Perm (List.range m.n))(hn:m.n<=64):tw m ord (m.ct g ord l).1/\(m.ct g ord l).2<=3*m.n*(m.n-1):=by
 have hlt:∀v∈l,v<m.n:=λv hv=>xaM.1 (hl.mem_iff.1 hv);have h:=mC (m:=m) (g:=g) (l:=l) hp hlt;have nw:l.length=m.n:=by rw[hl.length_eq,xaI]
 obtain⟨h1,h2,h3,h4,h5⟩:=h;rw[nw]at h4;exact⟨⟨h1,h2,BJ hn hp hlt⟩,by rw[xcK,xcn m.n,<-xcK];exact h4⟩
theorem uF(hn:m.n<=64):∀{ls:List (zL)} {ord:zL},ord.Perm (List.range m.n)->(∀l∈ls,l.Perm (List.range m.n))->m.tf g ord ls->tw m ord (m.df g ord ls).1
 | [],ord,hp,hl,hg=>hg.elim
 | [l],ord,hp,hl,hg=>by
  have e:(m.df g ord [l]).1=(m.ct g ord l).1++[]:=rfl;rw[e,xaL];exact(pL hp (hl l zI) hn).1
 |l::l2::r,ord,hp,hl,hg=>by
  obtain⟨g1,g2⟩:=(p9 zI).1 hg;have a:=(pL (g:=g) hp (hl l zI) hn).1;have ih:=uF hn (ls:=l2::r) (mA hp a.mem) (λx hx=>hl x (by simp[xak.1 hx])) g2;have e:(m.df g ord (l::l2::r)).1=(m.ct g ord l).1++(m.df g (az ord (m.ct g ord l).1) (l2::r)).1:=rfl;rw[e];have a1:=a.le;have a2:=a.len;have b1:=ih.le;have b2:=ih.len;refine⟨λx hx=>(xan.1 hx).elim (a.mem x) (ih.mem x),by rw[cr];omega,by rw[cr,xaf];omega⟩
theorem Ey{ls:List (zL)}{ord:zL}(hp:ord.Perm (List.range m.n))(hl:∀l∈ls,l.Perm (List.range m.n))(hg:m.tf g ord ls):(m.df g ord ls).2<=3*m.n*(m.n-1)*(m.size ord+1):=by
 have h:=Kg hp hl hg;have h1:=h.XT.2;have h2:=h.uC;have e:3*(m.n-1)*m.n=3*m.n*(m.n-1):=by rw[xcK,xcn (m.n-1),<-xcK]
 rw[e]at h2;exact xbO h2 (xc9 _ zO)
theorem Rm.DQ(m:Rm)(w:Nat)(ord:zL):∀i,(m.all w ord i).1.length+66*m.size (az ord (m.all w ord i).1)<=66*m.size ord
 |0=>by simp[Rm.all,az]
 |i+1=>by
  have e:(m.all w ord (i+1)).1=(m.all w ord i).1++(m.visit w i (az ord (m.all w ord i).1)).1:=rfl;have ih:=m.DQ w ord i;have h1:=m.Bq w i (az ord (m.all w ord i).1);have h2:=m.Em w i (az ord (m.all w ord i).1);have h3:=(m.rL w i (az ord (m.all w ord i).1)).1;rw[e,cr,xaf];by_cases e2:m.size (az (az ord (m.all w ord i).1) (m.visit w i (az ord (m.all w ord i).1)).1)=m.size (az ord (m.all w ord i).1)
  ·rw[h2 e2];simpa[az]using ih
  omega
theorem EA{w:Nat}{ord:zL}(hw:2<=w/\w<=4)(hn:m.n<=64):tw m ord (m.pass w ord).1/\(m.pass w ord).2<=(m.n+1-w)*(2*(l7 w).length):=by
 refine⟨⟨λx hx=>?_,m.SO w ord _,m.DQ w ord _⟩,m.zc w ord _⟩;by_cases e:m.n+1-w=0
 ·have hx:x∈(m.all w ord (m.n+1-w)).1:=hx;rw[e]at hx;exact absurd hx xaS
 have:=m.Lq hx;omega
end
end aA
set_option maxRecDepth 100000
namespace Go.Proofs
open Go Go.Sx
open aA
section
variable {kp:Nat} {K:Kd} {S:Nat->aA.Fn} {ord tr:zL} {C:Hp}
def Wl(kp:Nat)(K:Kd)(S:Nat->aA.Fn)(ord tr:zL)(s:Nat)(v:zV)(H:Hp):Prop:=
 ∃(ls:zL) (c:Nat) (d:Bool),v=.tuple #[tF (cI K S ord:Nat) (cI K S (az ord ls):Nat) (c:Nat) d,iv 0]/\At kp K S (az ord ls) (tr++ls) H/\tw (rm K S) ord ls/\c<=swB K.n (cI K S ord) s/\(d=true->s=6)
theorem Wl.shape{s:Nat}{v:zV}{H:Hp}(h:Wl kp K S ord tr s v H):∃(a b c:Int) (d:Bool) (e:zV),v=.tuple #[tF a b c d,e]:=by
 obtain⟨ls,c,d,rfl,_⟩:=h;exact⟨_,_,_,_,_,rfl⟩
theorem Ko(h:At kp K S ord tr C)(hp:ord.Perm (List.range K.n)){s gr:Nat}(hs:s<=6)(mq:100<=gr/\gr<=1000)(hx:s=6->K.n<=12)(eM:tr.length<16492674416640):
  Fc zQ 85 #[ptr kp,.int .u8 (s:Int),iv (gr:Int)] C (Wl kp K S ord tr s):=by
 have hn:=h.lq;have ZV:(rm K S).n=K.n:=rfl;have A9:∀o,(rm K S).size o=cI K S o:=λ_=>rfl;have win:∀w:Nat,3<=w/\w<=5->Fc zQ 85 #[ptr kp,.int .u8 (w:Int),iv (gr:Int)] C (Wl kp K S ord tr w):=λw hw=>by
  refine EJ h hw mq ((Wg h (w:=w-1) zO zO).mono ?_) λv H h=>h.shape;rintro v H ⟨rfl,hA⟩;obtain⟨h1,h2⟩:=EA (m:=rm K S) (w:=w-1) (ord:=ord) zO hn;refine⟨_,_,false,rfl,hA,h1,xbO h2 (Nat.le_of_eq ?_),nofun⟩;rw[ZV];obtain rfl|rfl|rfl:w=3\/w=4\/w=5:=by omega
  ·rfl
  ·show(K.n+1-3)*10=(K.n-2)*10;rw[show K.n+1-3=K.n-2 by omega]
  show(K.n+1-4)*46=(K.n-3)*46;rw[show K.n+1-4=K.n-3 by omega]
 obtain rfl|rfl|rfl|h3|rfl:s=0\/s=1\/s=2\/(3<=s/\s<=5)\/s=6:=by omega
 ·refine Fc.mono (PY h mq) ?_;rintro v H ⟨rfl,rfl⟩;exact⟨[],0,false,rfl,by rw[xaL];exact h,.nil,xaO _,nofun⟩
 ·refine PW h mq ((BO h hp mq zO).mono ?_) λv H h=>h.shape;rintro v H ⟨l,hl,rfl,hA⟩;obtain⟨h1,h2⟩:=pL (m:=rm K S) (g:=gr) hp hl hn;exact⟨_,_,false,rfl,hA,h1,h2,nofun⟩
 ·refine EK h mq ((BD h hp mq zO).mono ?_);rintro v H ⟨lss,hls,hg,rfl,hA⟩;exact⟨_,_,_,false,_,rfl,_,_,false,rfl,hA,uF hn hp hls hg,Ey hp hls hg,nofun⟩
 ·exact win s h3
 have tK:=hx rfl;refine Mi h tK mq ((TC h hp tK zO).mono ?_) λv H h=>h.shape;rintro v H ⟨L,Ed,s9,RS,hQ⟩;have hk:∀p:zL,p.Perm (List.range K.n)->cI K S p=kz K.n p L K.n:=λp hp=>by
  unfold cI;rw[s9];exact Wz Ed zO (Kt hp)
 rcases hQ with⟨e,rfl,hA⟩|⟨hne,o,ls,ho,hls,hQ⟩
 ·exact⟨[],0,true,rfl,by rw[xaL];exact hA,.nil,xaO _,λ_=>rfl⟩
 have hop:o.Perm (List.range K.n):=by rw[ho];exact sG _
 have hoB:cI K S o=an.B K.n (an.lvl K.n L) 0:=by rw[hk o hop,ho];exact sF zO Ed
 have hle:an.B K.n (an.lvl K.n L) 0<=cI K S ord:=by rw[hk ord hp];exact Wa zO Ed hp
 have abm:o.Nodup:=hop.nodup_iff.2 xbj;have Ba:o.length=K.n:=by rw[hop.length_eq,xaI]
 have hdl:ord.length=K.n:=by rw[hp.length_eq,xaI]
 obtain⟨OQ,Q6⟩:=Ae abm (hp.trans hop.symm);have A8:=ES abm (hp.trans hop.symm) Ba;rw[<-hls]at OQ Q6 A8;have KW:K.n*(K.n-1)<=12*11:=xcb tK zO;rcases hQ with⟨_,rfl,hA⟩|⟨hc,rfl,hA⟩
 ·refine⟨ls,_,true,by rw[OQ],by rw[OQ];exact hA,.of (λx hx=>by have:=Q6 x hx;omega) ?_ ?_ zO,by show ls.length<=K.n*(K.n-1);omega,λ_=>rfl⟩
  ·rw[OQ,A9,A9];omega
  rw[OQ,A9,A9];omega
 have hgl:=(rm K S).lZ 0 ls ord;exact⟨[],_,false,rfl,by rw[xaL];exact hA,.nil,by show 2*_<=K.n*(K.n-1);omega,nofun⟩
end
end Go.Proofs
namespace aA
open an
variable {n:Nat}
def sat(n:Nat)(f:Fn):Nat:=(List.range (2^n)).countP f
def flip(v x:Nat):Nat:=aB x v (!x.testBit v)
theorem flip_flip(v x:Nat):flip v (flip v x)=x:=by
 unfold flip;rw[aj,xae rfl,ow];simpa using iq x v
theorem KZ{v x:Nat}(hv:v<n)(hx:x<2^n):flip v x<2^n:=fY hx hv
theorem Nf{v:Nat}(hv:v<n):((List.range (2^n)).map (flip v)).Perm (List.range (2^n)):=by
 refine(xcV ?_ xbj).2 λx=>?_
 ·refine xcc.2 (xbj.imp λ{a b} h e=>h ?_);rw[<-flip_flip v a,e,flip_flip]
 rw[xao];constructor
 ·rintro⟨y,hy,rfl⟩;exact xaM.2 (KZ hv (xaM.1 hy))
 intro hx;exact⟨flip v x,xaM.2 (KZ hv (xaM.1 hx)),flip_flip v x⟩
theorem we{f g p q:Nat->Bool}(h:∀x,(p x).toNat+(q x).toNat=(f x).toNat+(g x).toNat):∀l:zL,l.countP p+l.countP q=l.countP f+l.countP g
 | []=>rfl
 |x::l=>by
  have:=h x;have:=we h l;simp only[List.countP_cons];cases hp:p x<;>cases hq:q x<;>cases hf:f x<;>cases hg:g x<;>simp_all<;>omega
theorem PS{v:Nat}(hv:v<n)(f:Fn):sat n (λx=>f (aB x v false))+sat n (λx=>f (aB x v true))=2*sat n f:=by
 unfold sat;rw[we (f:=f) (g:=λx=>f (flip v x)) (λx=>?_)]
 ·have:List.countP (λx=>f (flip v x)) (List.range (2^n))=List.countP f (List.range (2^n)):=by
   have h:=(Nf hv).countP_eq f;rw[xeA]at h;exact h
  omega
 unfold flip;have:=iq x v;cases hb:x.testBit v<;>rw[hb]at this<;>simp only[xb8,xb0]<;>rw[this]<;>omega
theorem rT:sat n (λ_=>false)=0:=by simp[sat]
theorem sat_true:sat n (λ_=>true)=2^n:=by simp[sat]
variable {N:eB} {S:Nat->Fn} {ah:Nat->Nat}
theorem PR(h:WF n ah N)(hl:jY n ah)(hi:Interp N S){r a b:Nat}{d:Nd}(hd:N r=some d)(hv:d.v<n)(ha:a*2^dep n ah N d.lo=sat n (S d.lo))(hb:b*2^dep n ah N d.hi=sat n (S d.hi)):
  (a*2^(dep n ah N d.lo-ah d.v-1)+b*2^(dep n ah N d.hi-ah d.v-1))*2^dep n ah N r=sat n (S r):=by
 have h1:=(h.lo hd).2;have h2:=(h.hi hd).2;rw[aq hd];have e1:(λx=>S r (aB x d.v false))=S d.lo:=by
  have:=(gi h hl hi (r:=r) (.inr ⟨d,hd⟩) hv (by rw[aq hd];exact xaj _) false);rw[(kH hd).1]at this;exact(funext this.1).symm
 have e2:(λx=>S r (aB x d.v true))=S d.hi:=by
  have:=(gi h hl hi (r:=r) (.inr ⟨d,hd⟩) hv (by rw[aq hd];exact xaj _) true);rw[(kH hd).2]at this;exact(funext this.1).symm
 have hh:=PS hv (S r);rw[e1,e2,<-ha,<-hb]at hh;have p1:2^dep n ah N d.lo=2^(dep n ah N d.lo-ah d.v-1)*(2*2^ah d.v):=by
  rw[<-Nat.pow_succ',<-xdx];congr 1;omega
 have p2:2^dep n ah N d.hi=2^(dep n ah N d.hi-ah d.v-1)*(2*2^ah d.v):=by
  rw[<-Nat.pow_succ',<-xdx];congr 1;omega
 rw[p1,p2]at hh;rw[<-xcK a,<-xcK b,<-xec,Nat.mul_left_comm]at hh;omega
end aA
set_option maxRecDepth 100000
namespace Go.Proofs
open Go Go.Sx
section
open aA
theorem Uj{P:Program}{f:FuncId}{args:Array zV}{B:Hp}{Q:zV->Prop}(h:Px P f args B (λv _=>Q v)):Rd P f args B Q:=λg=>(h g).mono λe H h=>by
 obtain⟨v,H2,rfl,he,hg,hq⟩:=h;exact⟨v,B,rfl,he.trans hg.dG,rfl,hq⟩
theorem ae.acV{a b:Nat}{k:zV->Prop}(h:k (.int .u64 (((a+b)%18446744073709551616:Nat):Int))):ae .num .add (.int .u64 (a:Int)) (.int .u64 (b:Int)) k:=by
 refine ae.add ?_;rw[wrap_u64];have:(((a:Int)+(b:Int))%18446744073709551616)=((((a+b)%18446744073709551616:Nat)):Int):=by omega
 rw[this];exact h
section
variable {kp:Nat} {K:Kd} {S:Nat->aA.Fn} {ord ah tr:zL} {C:Hp}
theorem oS(r:Nat)(B:Hp):Rd zQ 201 #[u32 r] B (· =.bool (decide (r<2))):=by
 refine aF λg=>IS ?_;refine ae.eO (b:=0) (cf.or (a:=decide (r=0)) (decide (r=1)) (λ_=>ae.eO (b:=1) ⟨rfl,rfl⟩) rfl λ_=>?_);refine bc.mk (.refl _) ?_;rw[<-xa7];congr 1;exact xcp.2 zO
theorem Sw(h:cc kp K S ord ah tr C){r v:Nat}(hr:live K.N r)(hv:v<18446744073709551616):
  Rd zQ 144 #[ptr kp,u32 r,.int .u64 (v:Int)] C (· =.tuple #[.bool (S r v),iv 0]):=by
 have si:K.n<=64:=h.aZ.lq;refine aF λg=>Jn ?_;refine av.int (e:=110) zK zK zK λbx=>?_;refine aa.eh .here (Uj (wo (X:=[(bx,_)]) (rs:=[r]) h (dA.block (by exact .head _) zI) (λx hx=>by rw[xaE.1 hx];exact hr) zI)) ?_;refine ae.cG (Br.F (⟨λvs H=>∃q:Nat,vs=[u32 q]/\H=C/\live K.N q/\S q v=S r v,λvs _=>K.n-dep K.n (lv ah) K.N (bL vs 0),JE.of .tail ⟨r,rfl,rfl,hr,rfl⟩,?_⟩));rintro w H ⟨q,⟨⟩,rfl,hq,he⟩ gs;refine aa.eq (oS q _) (Un.not (Br.mk (λhb=>?_) (λhb=>?_)))
 ·have h2:2<=q:=by simpa using hb
  obtain⟨d,hN⟩:∃d,K.N q=some d:=by
   rcases hq with hq|hq
   ·omega
   exact hq
  have kX:=h.ok.mid.var hN;have hlo:=h.ok.wf.lo hN;have hhi:=h.ok.wf.hi hN;have hvl:=h.ok.lv.lt _ kX;refine aa.eh .here (Uj (wh (X:=[]) h hN)) ?_;intro rJ _;refine St.p (fC d) ?_;refine Ld.f ?_;refine Ld.f ?_;refine ae.iL (by simpa[bF]using hv) (ae.jD (by simp[bF];exact xaC (xbl _ _) hv) zD (ae.eO (b:=1) ?_));rw[xbP];rw[AK];have KL:=h.ok.mid.int.node hN v;refine Br.mk (λhb=>?_) (λhb=>?_)
  ·rw[hb,xae rfl]at KL;refine Ld.f ?_;refine aC.of .tail ⟨d.hi,rfl,rfl,hhi.1,KL.symm.trans he⟩ ?_;show K.n-dep K.n (lv ah) K.N d.hi<K.n-dep K.n (lv ah) K.N q;rw[aq hN];omega
  rw[hb,xab zD]at KL;refine aC.of .tail ⟨d.lo,rfl,rfl,hlo.1,KL.symm.trans he⟩ ?_;show K.n-dep K.n (lv ah) K.N d.lo<K.n-dep K.n (lv ah) K.N q;rw[aq hN];omega
 have h2:q<2:=by simpa using hb
 refine ae.eO (b:=1) (bc.mk (.refl _) ?_);rw[<-he];have hint:=h.ok.mid.int;have:q=0\/q=1:=by omega
 rcases this with rfl|rfl
 ·rw[hint.zero];rfl
 rw[hint.one];rfl
end
end
section
open aA
section
variable {kp mb b1 b9 c9 c1 c3 Nx:Nat} {K:Kd} {S:Nat->aA.Fn} {ord ah tr:zL} {C Z:Hp}
abbrev AY:Nat:=18446744073709551616
abbrev u64(x:Nat):zV:=.int .u64 (x:Int)
theorem wg(h:cc kp K S ord ah tr C){r:Nat}{d:Nd}(hd:K.N r=some d):Rd zQ 202 #[ptr kp,u32 r] C (· =.agg (bu d).toArray):=Uj (wh (X:=[]) h hd)
theorem wm(h:cc kp K S ord ah tr C){X:Hp}{r b:Nat}(hm:(b,Obj.cells (ax .u32 [(r:Int)]) 110 (0,0))∈X)(hr:live K.N r):Rd zQ 200 #[ptr kp,.slice (some ⟨b,0,none⟩) 1 1] (X++C) (· =iv 0):=
 Uj (wo (X:=X) (rs:=[r]) h (dA.block (xad _ hm) zI) (λx hx=>by rw[xaE.1 hx];exact hr) zI)
def cw(K:Kd)(ah:zL)(S:Nat->aA.Fn)(r:Nat):Nat:=sat K.n (S r) /2^dep K.n (lv ah) K.N r
theorem ri(h:cc kp K S ord ah tr C){r:Nat}(hr:r<2):cw K ah S r=r:=by
 have hi:=h.ok.mid.int;have h0:K.N r=none:=by
  cases hN:K.N r with
  |none=>rfl
  |some d=>have:=h.ok.mid.two hN;omega
 unfold cw;rw[aU h0];have:r=0\/r=1:=by omega
 rcases this with rfl|rfl
 ·rw[show S 0=λ_=>false from funext hi.zero,rT,Nat.zero_div]
 rw[show S 1=λ_=>true from funext hi.one,sat_true,Nat.div_self (xbw _)]
theorem Si(h:cc kp K S ord ah tr C):∀(k r:Nat),K.n-dep K.n (lv ah) K.N r<=k->live K.N r->cw K ah S r*2^dep K.n (lv ah) K.N r=sat K.n (S r)/\
  (∀d,K.N r=some d->cw K ah S r=cw K ah S d.lo*2^(dep K.n (lv ah) K.N d.lo-lv ah d.v-1)+cw K ah S d.hi*2^(dep K.n (lv ah) K.N d.hi-lv ah d.v-1)):=by
 have hi:=h.ok.mid.int;intro k;induction k with
 |zero=>
  intro r hk hr;cases hN:K.N r with
  |some d=>
   rw[aq hN]at hk;have:=h.ok.lv.lt _ (h.ok.mid.var hN);omega
  |none=>
   have h2:r<2:=by
    rcases hr with hr|⟨d,e⟩
    ·exact hr
    rw[hN]at e;cases e
   refine⟨?_,λd hd=>by cases hd⟩;rw[ri h h2,aU hN];have:r=0\/r=1:=by omega
   rcases this with rfl|rfl
   ·rw[show S 0=λ_=>false from funext hi.zero,rT,xdY]
   rw[show S 1=λ_=>true from funext hi.one,sat_true,xdj]
 |succ k ih=>
  intro r hk hr;cases hN:K.N r with
  |none=>
   rw[aU hN]at*;have h2:r<2:=by
    rcases hr with hr|⟨d,e⟩
    ·exact hr
    rw[hN]at e;cases e
   refine⟨?_,λd hd=>by cases hd⟩;rw[ri h h2];have:r=0\/r=1:=by omega
   rcases this with rfl|rfl
   ·rw[show S 0=λ_=>false from funext hi.zero,rT,xdY]
   rw[show S 1=λ_=>true from funext hi.one,sat_true,xdj]
  |some d=>
   have hlo:=h.ok.wf.lo hN;have hhi:=h.ok.wf.hi hN;have hvl:=h.ok.lv.lt _ (h.ok.mid.var hN);have e1:=aq (n:=K.n) (ah:=lv ah) hN;have q:=PR h.ok.wf h.ok.lv hi hN (h.ok.mid.var hN) (ih d.lo zO hlo.1).1 (ih d.hi zO hhi.1).1;have e2:cw K ah S r=cw K ah S d.lo*2^(dep K.n (lv ah) K.N d.lo-lv ah d.v-1)+cw K ah S d.hi*2^(dep K.n (lv ah) K.N d.hi-lv ah d.v-1):=by
    show sat K.n (S r) /_=_;rw[<-q,Nat.mul_div_cancel _ (xbw _)]
   exact⟨by rw[e2];exact q,λd' hd=>by cases hd;exact e2⟩
theorem rQ(h:cc kp K S ord ah tr C){r:Nat}(hr:live K.N r)(h1:(b1,Obj.cells #[ptr kp] 85 (0,0))∈Z):
  Rd zQ 203 #[u32 r,ptr b1] (Z++C) (· =iv ((dep K.n (lv ah) K.N r:Nat):Int)):=by
 have sq:=xad C h1;refine aF λg=>IP ?_;refine aa.eq (oS r _) (Br.mk (λhb=>?_) (λhb=>?_))
 ·have h2:r<2:=xcd hb;refine Ld.mk sq rfl ?_;refine aa.eq (gM h.rep) (bc.mk (.refl _) ?_);have h0:K.N r=none:=by
   cases hN:K.N r with
   |none=>rfl
   |some d=>have:=h.ok.mid.two hN;omega
  rw[aU h0]
 have h2:¬r<2:=xdf hb;obtain⟨d,hN⟩:∃d,K.N r=some d:=by
  rcases hr with hr|hr
  ·omega
  exact hr
 have kX:=h.ok.mid.var hN;refine DR.of (.refl _) (Ld.mk sq rfl ?_);refine Ld.mk sq rfl ?_;intro F;refine aa.eq (args:=#[ptr kp,u32 r]) (wg h hN) (⟨.refl _,?_⟩);refine Bm.mk (off:=0) (cs:=(bu d).toArray) (v:=iv (d.v:Int)) rfl ?_;intro F;refine aa.eq (args:=#[ptr kp,iv (d.v:Int)]) (lK h.rep _) (⟨.refl _,?_⟩);rw[xae ⟨by omega,by omega⟩];refine Ext.two (bc.mk (.refl _) ?_);rw[aq hN];rfl
theorem z6(a k:Nat):((a%AY)<<<k)%AY=(a*2^k)%AY:=by
 rw[xco,Nat.mod_mul_mod]
theorem Ud(h:cc kp K S ord ah tr C){r:Nat}{d:Nd}(hN:K.N r=some d)(h1:(b1,Obj.cells #[ptr kp] 85 (0,0))∈Z)(h9:(b9,Obj.cells #[.func (.func 203) #[] #[ptr b1]] 260 (0,0))∈Z):
  Rd zQ 205 #[.agg (bu d).toArray,u64 (cw K ah S d.lo%AY),u64 (cw K ah S d.hi%AY),ptr b1,ptr b9] (Z++C) (· =u64 (cw K ah S r%AY)):=by
 have sq:=xad C h1;have h9':=xad C h9;have kX:=h.ok.mid.var hN;have hlo:=h.ok.wf.lo hN;have hhi:=h.ok.wf.hi hN;have hn:=h.aZ.lq;have hdl:=h.ok.wf.iD h.ok.lv d.lo;have hdh:=h.ok.wf.iD h.ok.lv d.hi;refine aF λg=>IM ?_;intro c1 _;refine Ld.mk (.tail _ sq) rfl ?_;refine Ld.f (v:=iv (d.v:Int)) ?_;refine aa.eq (lK h.rep _) ?_;rw[xae ⟨by omega,by omega⟩];refine Ext.two (DR.of (.refl _) (Ld.mk (.tail _ h9') rfl ?_));refine Ld.f (v:=u32 d.lo) ?_;refine Ld.mk (.tail _ h9') rfl ?_;refine Ld.f (v:=u32 d.hi) ?_;intro F;refine aL.of rfl zK (aa.eq (args:=#[u32 d.lo,ptr b1]) (rQ (Z:=Z) h hlo.1 h1) (⟨.refl _,?_⟩));rw[xbe];show ae _ _ (iv ((dep K.n (lv ah) K.N d.lo:Nat):Int)) (iv ((lv ah d.v:Nat):Int)) _;refine ae.bY (ae.bY (b:=1) (ae.nE ?_));intro F;refine aL.of rfl zK (aa.eq (args:=#[u32 d.hi,ptr b1]) (rQ (Z:=Z) h hhi.1 h1) ?_);show ae _ _ (iv ((dep K.n (lv ah) K.N d.hi:Nat):Int)) (iv ((lv ah d.v:Nat):Int)) _;refine ae.bY (ae.bY (b:=1) (ae.nE (ae.acV (bc.mk .tail ?_))));rw[z6,z6,<-Nat.add_mod,(Si h K.n r (xdt _ _) (.inr ⟨d,hN⟩)).2 d hN]
structure KnS(K:Kd)(ah:zL)(S:Nat->aA.Fn)(es:Array MapEntry)(ck:Nat)(m:List (Nat×Nat)):Prop where
 dG:aE kr (λv (x:Nat)=>v=u64 x) es ck m
 val:∀r x,aK m r=some x->x=cw K ah S r%AY
 low:∀r,r<2->aK m r≠none
theorem Mg(h:cc kp K S ord ah tr C)(h9:(c9,Obj.cells #[.map (some mb)] 349 (0,0))∈Z)(h1:(c1,Obj.cells #[ptr kp] 85 (0,0))∈Z)(h3:(c3,Obj.cells #[.func (.func 205) #[] #[ptr b1,ptr b9]] 265 (0,0))∈Z)
 (M7:(Nx,Obj.cells #[.func (.func 290) #[] #[ptr c9,ptr c1,ptr c3,ptr Nx]] 350 (0,0))∈Z)(Vt:(b1,Obj.cells #[ptr kp] 85 (0,0))∈Z)(hb9:(b9,Obj.cells #[.func (.func 203) #[] #[ptr b1]] 260 (0,0))∈Z):
  ∀(k r:Nat) (es:Array MapEntry) (ck:Nat) (m:List (Nat×Nat)),K.n-dep K.n (lv ah) K.N r<=k->live K.N r->KnS K ah S es ck m->
  Fc zQ 290 #[u32 r,ptr c9,ptr c1,ptr c3,ptr Nx] ((mb,.map es ck)::(Z++C)) (λv H=>v=u64 (cw K ah S r%AY)/\∃es' bB m',H=(mb,.map es' bB)::(Z++C)/\KnS K ah S es' bB m'):=by
 have hit:∀{r:Nat} {es:Array MapEntry} {ck:Nat} {m:List (Nat×Nat)} {x:Nat},KnS K ah S es ck m->aK m r=some x->
   Fc zQ 290 #[u32 r,ptr c9,ptr c1,ptr c3,ptr Nx] ((mb,.map es ck)::(Z++C)) (λv H=>v=u64 (cw K ah S r%AY)/\∃es' bB m',H=(mb,.map es' bB)::(Z++C)/\KnS K ah S es' bB m'):=by
  intro r es ck m x hm hv;refine aF λg=>wU ?_;refine Ld.mk (v:=.map (some mb)) (.tail _ (xad _ h9)) rfl ?_;refine hm.dG.hit (k:=r) cY (b:=mb) (by exact .head _) hv λv' e=>?_;subst e;exact Ext.two (Br.yes (aN.mk (.refl _) ⟨by rw[hm.val r x hv],es,ck,m,rfl,hm⟩))
 intro k;induction k with
 |zero=>
  intro r es ck m hk hr hm;have p7:r<2:=by
   cases hN:K.N r with
   |some d=>
    rw[aq hN]at hk;have:=h.ok.lv.lt _ (h.ok.mid.var hN);omega
   |none=>
    rcases hr with hr|⟨d,e⟩
    ·exact hr
    rw[hN]at e;cases e
  cases hv:aK m r with
  |none=>exact absurd hv (hm.low r p7)
  |some v=>exact hit hm hv
 |succ k ih=>
  intro r es ck m hk hr hm;cases hv:aK m r with
  |some v=>exact hit hm hv
  |none=>
  have p7:¬r<2:=λh2=>hm.low r h2 hv;obtain⟨d,hN⟩:∃d,K.N r=some d:=by
   rcases hr with hr|hr
   ·omega
   exact hr
  have hlo:=h.ok.wf.lo hN;have hhi:=h.ok.wf.hi hN;rw[aq hN]at hk;have hvl:=h.ok.lv.lt _ (h.ok.mid.var hN);refine aF λg=>wU ?_;refine Ld.mk (v:=.map (some mb)) (.tail _ (xad _ h9)) rfl ?_;refine hm.dG.bM (k:=r) cY (b:=mb) (by exact .head _) hv ?_;refine Ext.two (Br.no (Ld.mk (v:=ptr kp) (.tail _ (xad _ h1)) rfl ?_));refine aa.eq (args:=#[ptr kp,u32 r]) (wg h hN) ?_;intro b8 _;refine St.p (fC d) ?_;refine DR.of (R:=(b8,Obj.cells (bu d).toArray 226 (0,0))::Z) (.cons (.skip .left)) (Ld.mk (v:=.func (.func 205) #[] #[ptr b1,ptr b9]) (.tail _ h3) rfl ?_);refine ay.q ?_;refine Ld.mk (v:=.func (.func 290) #[] #[ptr c9,ptr c1,ptr c3,ptr Nx]) (.tail _ M7) rfl ?_;refine Ld.f (v:=u32 d.lo) ?_;refine Ld.mk (v:=.func (.func 290) #[] #[ptr c9,ptr c1,ptr c3,ptr Nx]) (.tail _ M7) rfl ?_;refine Ld.f (v:=u32 d.hi) ?_;intro F;refine aL.of rfl zK (aa.fq (args:=#[u32 d.lo,ptr c9,ptr c1,ptr c3,ptr Nx]) (ih d.lo es ck m zO hlo.1 hm) ?_);rintro v1 H ⟨rfl,j9,jL,m1,rfl,tL⟩;refine⟨.cons (.skip .left),?_⟩;intro F;refine aL.of rfl zK (aa.fq (args:=#[u32 d.hi,ptr c9,ptr c1,ptr c3,ptr Nx]) (ih d.hi j9 jL m1 zO hhi.1 tL) ?_);rintro v2 H ⟨rfl,gR,iE,m2,rfl,lR⟩;refine⟨.cons (.skip .left),?_⟩;intro F;refine aL.of rfl zK (aa.eq (args:=#[.agg (bu d).toArray,u64 (cw K ah S d.lo%AY),u64 (cw K ah S d.hi%AY),ptr b1,ptr b9]) (Ud (Z:=Z) h hN Vt hb9) (Ld.mk (v:=.map (some mb)) (.tail _ (.tail _ (xad _ h9))) rfl ?_));refine lR.dG.bg (k:=r) (b:=mb) (x:=cw K ah S r%AY) cY gN rfl λoP qq he=>⟨_,.tail (.head _),?_⟩;refine aN.mk .tail ⟨rfl,oP,qq,_,rfl,he,λr' x' nR=>?_,λr' hr'=>?_⟩
  ·rw[bJ]at nR;split at nR
   ·rename_i e;subst e;cases nR;rfl
   exact lR.val r' x' nR
  rw[bJ];split
  ·simp
  exact lR.low r' hr'
theorem Sn(h:cc kp K S ord ah tr C){r:Nat}(hr:live K.N r):
  Rd zQ 146 #[ptr kp,u32 r] C (· =.tuple #[u64 (sat K.n (S r)%AY),iv 0]):=by
 have hi:=h.ok.mid.int;refine aF λg=>Jl ?_;intro b1 _;refine Ld.q ?_;refine av.int (e:=110) zK zK zK λbx=>?_;refine aa.eh .here (wm (X:=[(bx,_),(b1,_)]) h (by exact .head _) hr) ?_;refine ae.cG (Br.F ?_);intro b9 _;refine St.one (c':=#[.func (.func 203) #[] #[ptr b1]]) (by exact .head _) rfl zI rfl ?_;refine Ld.q ?_;refine aa.fq (args:=#[ptr kp,u32 r,u64 0,u64 1,.func (.func 205) #[] #[ptr b1,ptr b9]]) (C:=(b9,Obj.cells #[.func (.func 203) #[] #[ptr b1]] 260 (0,0))::(bx,_)::(b1,Obj.cells #[ptr kp] 85 (0,0))::C) (Q:=λv H=>v=u64 (cw K ah S r%AY)/\H=(b9,Obj.cells #[.func (.func 203) #[] #[ptr b1]] 260 (0,0))::(bx,Obj.cells (ax .u32 [(r:Int)]) 110 (0,0))::(b1,Obj.cells #[ptr kp] 85 (0,0))::C) (aF λg=>IN ?_) ?_
 ·intro c1 _ c3 _ mb _;refine aE.bg (ke:=kr) (vr:=λv (x:Nat)=>v=u64 x) (k:=0) (b:=mb) (x:=0) cY gN aE.empty rfl λj9 jL FA=>⟨_,.head _,?_⟩;refine aE.bg (ke:=kr) (vr:=λv (x:Nat)=>v=u64 x) (k:=1) (b:=mb) (x:=1) cY gN FA rfl λgR iE Tp=>⟨_,.head _,?_⟩;intro c9 _;refine St.one (c':=#[.map (some mb)]) (by exact .head _) rfl zI rfl ?_;intro Nx _;refine St.one (c':=#[.func (.func 290) #[] #[ptr c9,ptr c1,ptr c3,ptr Nx]]) (by exact .head _) rfl zI rfl ?_;refine Ld.q ?_;refine aL.of rfl zK ?_;obtain⟨Z,hZ⟩:∃Z:Hp,Z=[(Nx,Obj.cells #[.func (.func 290) #[] #[ptr c9,ptr c1,ptr c3,ptr Nx]] 350 (0,0)),(c9,.cells #[.map (some mb)] 349 (0,0)),(c3,.cells #[.func (.func 205) #[] #[ptr b1,ptr b9]] 265 (0,0)),(c1,.cells #[ptr kp] 85 (0,0)),
   (b9,Obj.cells #[.func (.func 203) #[] #[ptr b1]] 260 (0,0)),(bx,Obj.cells (ax .u32 [(r:Int)]) 110 (0,0)),(b1,Obj.cells #[ptr kp] 85 (0,0))]:=⟨_,rfl⟩
  refine aa.pre (H':=(mb,Obj.map gR iE)::(Z++C)) (.perm ?_) ?_
  ·rw[hZ];exact(List.Perm.cons _ (List.Perm.swap _ _ _)).trans (List.Perm.swap _ _ _)
  refine aa.fq (args:=#[u32 r,ptr c9,ptr c1,ptr c3,ptr Nx]) (Mg (Z:=Z) (b1:=b1) (b9:=b9) h (by rw[hZ];exact .tail _ (.head _)) (by rw[hZ];exact .tail _ (.tail _ (.tail _ (.head _)))) (by rw[hZ];exact .tail _ (.tail _ (.head _))) (by rw[hZ];exact .head _) (by rw[hZ];exact .tail _ (.tail _ (.tail _ (.tail _ (.tail _ (.tail _ (.head _))))))) (by rw[hZ];exact .tail _ (.tail _ (.tail _ (.tail _ (.head _))))) K.n r gR iE _ (xdt _ _) hr ⟨Tp,λr' x hm=>?_,λr' hr'=>?_⟩) ?_
  ·rw[bJ,bJ]at hm;split at hm
   ·rename_i e;subst e;cases hm;rw[ri h zD];rfl
   split at hm
   ·rename_i e;subst e;cases hm;rw[ri h zD];rfl
   simp[aK]at hm
  ·rw[bJ,bJ];have:r'=0\/r'=1:=by omega
   rcases this with rfl|rfl<;>simp
  rintro v H ⟨rfl,oP,qq,m3,rfl,_⟩;refine aN.mk ?_ ⟨rfl,rfl⟩;rw[hZ];exact .skip (.skip (.skip (.skip (.skip (.refl _)))))
 rintro v H ⟨rfl,rfl⟩;refine Ld.q ?_;refine aL.of rfl zK (aa.eh (args:=#[u32 r,ptr b1]) .here (rQ (Z:=[(b9,_),(bx,_),(b1,_)]) h hr (by exact .tail _ (.tail _ (.head _)))) ?_);refine ae.nE (bc.mk (.skip (.skip .tail)) ?_);rw[z6,(Si h K.n r (xdt _ _) hr).1]
end
end
end Go.Proofs
namespace Go.Sx
open Go
section
variable {P:Program} {g:Gh} {H:Hp}
def wv:Nat->List (List zV)->List (Nat×zV)
 |_,[]=>[]
 |i,r::rs=>(i,.agg r.toArray)::wv (i+1) rs
theorem vX{k:Nat}:∀(rs:List (List zV)) (i:Nat) (pre aJ:List zV),(∀r∈rs,r.length=k)->pre.length=i*k->aJ.length=rs.length*k->pC (λi=>some (i*k,k)) (pre++aJ) (wv i rs)=some (pre++rs.flatten)
 | [],i,pre,aJ,_,_,hj=>by
  have:aJ=[]:=xcM.1 (by simpa using hj);subst this;simp[wv,pC]
 |r::rs,i,pre,aJ,hr,hp,hj=>by
  have hrk:=hr r (xbH ..);have YG:aJ.length=k+rs.length*k:=by rw[hj,xay,xbu,Nat.add_comm]
  simp only[wv,pC,Value.cells];have hb:(Nat.beq r.toArray.toList.length k&&Nat.ble (i*k+r.toArray.toList.length) (pre++aJ).length)=true:=by
   have e1:r.toArray.toList.length=k:=hrk;rw[e1,xaf];simp;omega
  rw[hb,xap];have h1:=oD r (pre++aJ) (i*k) (by rw[xaf];omega);rw[mG]at h1;have h2:uZ (pre++aJ) (i*k) r=pre++r++aJ.drop k:=by
   have:=xce Array.toList h1;simp only at this;rw[this,<-hp];simp[xer,hrk,xes]
  show pC _ (uZ (pre++aJ) (i*k) r) _=_;rw[h2,vX rs (i+1) (pre++r) (aJ.drop k) (λx hx=>hr x (xbt _ hx)) (by rw[xaf,hp,hrk,xbu]) (by rw[List.length_drop];omega)];simp
theorem av.many{t e k:Nat}{z:zV}(rs:List (List zV)){len:Nat}{parts:List (Nat×zV)}{K:zV->Hp->Prop}(h1:P.underlying t=some (.slice e))(h2:dI P e=some k)(h3:fJ P e=some z)(hk:rs.length*k<=16777216)(hr:∀r∈rs,r.length=k)
 (hl:rs.length=len)(hp:wv 0 rs=parts)(h:∀b,K (.slice (some ⟨b,0,Option.none⟩) len len) ((b,.cells (rows rs) e (0,0))::H)):av P t len parts H K:=by
 subst hl hp;refine⟨rows rs,e,k,z,h1,h2,h3,by omega,?_,λb _=>h b⟩;have:((Array.range (rs.length*k)).map (z.cells[· %z.cells.size]!))=(((Array.range (rs.length*k)).map (z.cells[· %z.cells.size]!)).toList).toArray:=by rw[xdq]
 rw[this];generalize hc:((Array.range (rs.length*k)).map (z.cells[· %z.cells.size]!)).toList=c;have hlen:c.length=rs.length*k:=by rw[<-hc];simp
 refine mS _ _ _ ?_;have:=vX rs 0 [] c hr zI hlen;simpa using this
def kI(kd:IntKind)(a:Int):zV:=.int kd a
theorem bZ(kd:IntKind)(a b:Int):Instr.sameNow (.int kd) (kI kd a) (kI kd b)=some (decide (a=b)):=by
 simp only[Instr.sameNow,kI,xa6,xaq];rw[xbR];simp
theorem Ap(kd:IntKind)(a:Int):Instr.sameBits 10000 (kI kd a) (kI kd a)=true:=by simp[Instr.sameBits,kI]
theorem aE.look{κ β:Type}[DecidableEq κ]{ke:κ->zV}{vr:zV->β->Prop}{es:Array MapEntry}{ck b:Nat}{m:List (κ×β)}{kd:TypeDesc}{zero:zV}{ok:Bool}{k:κ}{K:zV->Prop}(hk:∀a b,Instr.sameNow kd (ke a) (ke b)=some (decide (a=b)))(h:aE ke vr es ck m)(hm:(b,Obj.map es ck)∈H)
 (h1:∀x v,aK m k=some x->vr v x->K (cond ok (.tuple #[v,.bool true]) v))(h2:aK m k=none->K (cond ok (.tuple #[zero,.bool false]) zero)):cZ kd zero ok H (.map (some b)) (ke k) K:=by
 cases hx:aK m k with
 |none=>exact h.bM hk hm hx (h2 hx)
 |some x=>exact h.hit hk hm hx λv hv=>h1 x v hx hv
end
end Go.Sx
set_option maxRecDepth 100000
namespace Go.Proofs
open Go Go.Sx
section
open aA
section
variable {B:Hp}
abbrev i64(a:Int):zV:=iv a
abbrev eZ(e h:Int)(n:Nat)(t:Int):zV:=.agg #[i64 e,i64 h,u64 n,i64 t]
theorem bI(e h:Int)(n:Nat)(t:Int):∀u∈[i64 e,i64 h,u64 n,i64 t],u.oneCell'=true:=λu hu=>by
 simp only[xak,xaS,xby]at hu;rcases hu with rfl|rfl|rfl|rfl<;>rfl
theorem cB(e:Int)(B:Hp):Rd zQ 41 #[i64 e] B (· =eZ e (-1) 0 0):=by
 refine aF λg=>Ox ?_;intro b1 _;refine Build.mk (cs:=[i64 e,i64 (-1),u64 0,i64 0]) zK ?_;refine St.p (bI _ _ _ _) ?_;refine ay.q ?_;exact bc.mk .tail rfl
theorem dR(n:Nat)(e:Int)(B:Hp):Rd zQ 143 #[u64 n,i64 e] B (· =if e=0 then eZ 0 (-1) n 0 else eZ e (-1) 0 0):=by
 refine aF λg=>Jo ?_;intro b1 _;refine ae.neq ?_;by_cases he:e=0
 ·subst he;refine Br.no' rfl (Build.mk (cs:=[i64 0,i64 (-1),u64 n,i64 0]) zK ?_);refine St.p (bI _ _ _ _) ?_;refine ay.q ?_;exact bc.mk .tail rfl
 refine Br.TA (by simpa using he) (aa.eq (cB e _) (St.p (r:=[i64 e,i64 (-1),u64 0,i64 0]) (bI _ _ _ _) ?_));refine ay.q ?_;exact bc.mk .tail (by rw[xab he])
theorem Kk(b:Bool)(B:Hp):Rd zQ 145 #[.bool b] B (· =u64 b.toNat):=by
 refine aF λg=>Jm ?_;cases b
 ·exact Br.no (bc.mk (.refl _) rfl)
 exact Br.yes (bc.mk (.refl _) rfl)
structure fM where
 op:Nat
 a:Int
 b:Int
 c:Int
 x:Nat
def fM.cells(s:fM):List zV:=[.int .u8 (s.op:Int),i64 s.a,i64 s.b,i64 s.c,u64 s.x]
abbrev fM.v(s:fM):zV:=.agg s.cells.toArray
theorem fM.one(s:fM):∀u∈s.cells,u.oneCell'=true:=λu hu=>by
 simp only[fM.cells,xak,xaS,xby]at hu;rcases hu with rfl|rfl|rfl|rfl|rfl<;>rfl
structure fM.Ok(s:fM):Prop where
 op:s.op<256
 a: -9223372036854775808<=s.a/\s.a<=9223372036854775807
 b: -9223372036854775808<=s.b/\s.b<=9223372036854775807
 c: -9223372036854775808<=s.c/\s.c<=9223372036854775807
 x:s.x<18446744073709551616
structure Cf where
 n:Nat
 cap:Nat
 str:Nat
 gr:Nat
 rs:Nat
def Cf.cells(c:Cf):List zV:=[i64 c.n,i64 c.cap,.int .u8 (c.str:Int),i64 c.gr,i64 c.rs]
abbrev jh(sp:Nat)(c:Cf)(kp mb nx:Nat):Nat×Obj:=(sp,.cells (c.cells++[ptr kp,.map (some mb),i64 (nx:Int)]).toArray 90 (0,0))
structure ij(kp nx:Nat)(c:Cf)(K:Kd)(S:Nat->aA.Fn)(ord ah tr:zL)(hs:List (Int×Nat))(es:Array MapEntry)(ck:Nat)(C:Hp):Prop where
 ks:cc kp K S ord ah tr C
 n:K.n=c.n
 cap:K.cap=c.cap
 dG:aE (kI .i64) (λv (r:Nat)=>v=u32 r) es ck hs
 live:∀p∈hs,live K.N p.2
 hold:∀r,K.hold r=if 2<=r then(hs.map Prod.snd).count r else 0
 lt:∀p∈hs,0<=p.1/\p.1<nx
abbrev gS(sp:Nat)(c:Cf)(kp mb nx:Nat)(es:Array MapEntry)(ck:Nat)(C:Hp):Hp:=jh sp c kp mb nx::(mb,.map es ck)::C
end
section
variable {sp kp mb nx:Nat} {c:Cf} {K:Kd} {S:Nat->aA.Fn} {ord ah tr:zL} {hs:List (Int×Nat)} {es:Array MapEntry} {ck:Nat} {C:Hp}
theorem eJ(h:ij kp nx c K S ord ah tr hs es ck C)(a:Int):Rd zQ 133 #[ptr sp,i64 a] (gS sp c kp mb nx es ck C) (· =.bool (aK hs a).isSome):=by
 refine aF λg=>Jw ?_;refine Ld.n (v:=.map (some mb)) ?_;refine h.dG.look (k:=a) (bZ _) (by exact .tail _ (.head _)) (λx v hx hv=>?_) (λhx=>?_)
 ·exact Ext.two (bc.mk (.refl _) (by rw[hx];rfl))
 exact Ext.two (bc.mk (.refl _) (by rw[hx];rfl))
theorem Bs(a:Int):Rd zQ 132 #[ptr sp,i64 a] (gS sp c kp mb nx es ck C) (· =.bool (decide (0<=a/\a<c.n))):=by
 refine aF λg=>Jx ?_;refine ae.geq (cf.and (a:=decide (0<=a)) (decide (a<c.n)) (λ_=>?_) rfl λ_=>?_)
 ·refine Nil.ptr (ai.mk (Ld.f (v:=i64 c.n) ?_));exact ae.lss ⟨rfl,rfl⟩
 exact bc.mk (.refl _) (by rw[<-xdE])
theorem KH(a:Int)(B:Hp):Rd zQ 131 #[i64 a] B (· =.bool (decide (a=0\/a=1))):=by
 refine aF λg=>Jy ?_;refine ae.eql (cf.or (a:=a==0) (a==1) (λ_=>ae.eql ⟨rfl,rfl⟩) rfl λ_=>?_);refine bc.mk (.refl _) ?_;rw[xa7];rfl
def Gb(w:Nat)(x:fM):Bool:=decide (w&&&32≠0) && !decide (x.a=0\/x.a=1)
def NC(w:Nat)(x:fM):Bool:=decide (w&&&64≠0) && !decide (x.c=0\/x.c=1)
def EX(n w:Nat)(x:fM):Bool:=decide (w&&&8≠0) && !decide (0<=x.a/\x.a<n)
def EW(n w:Nat)(x:fM):Bool:=decide (w&&&16≠0) && !decide (0<=x.b/\x.b<n)
def MA(n w:Nat)(x:fM):Bool:=decide (w&&&128≠0) &&decide (x.x>>>n≠0)
def v8(hs:List (Int×Nat))(w:Nat)(x:fM):Bool:=decide (w&&&1≠0) && !(aK hs x.a).isSome
def v7(hs:List (Int×Nat))(w:Nat)(x:fM):Bool:=decide (w&&&2≠0) && !(aK hs x.b).isSome
def yZ(hs:List (Int×Nat))(w:Nat)(x:fM):Bool:=decide (w&&&4≠0) && !(aK hs x.c).isSome
def kD(n:Nat)(hs:List (Int×Nat))(w:Nat)(x:fM):Int:=
 if(Gb w x||NC w x)=true then 1 else if(EX n w x||EW n w x||MA n w x)=true then 2 else if(v8 hs w x||v7 hs w x||yZ hs w x)=true then 3 else 0
theorem ae.has{w m:Nat}{k:zV->Prop}(hw:w<256)(hm:m<256)(h:k (.bool (decide (w&&&m≠0)))):ae .num .and (.int .u8 (w:Int)) (.int .u8 (m:Int)) λv=>ae .num .neq v (.int .u8 0) k:=by
 refine ae.jD (by simpa[bF]using hw) (by simpa[bF]using hm) (ae.neq ?_);have:(((w&&&m:Nat):Int) !=0)=decide (w&&&m≠0):=by
  rw[xbR];simp
 rw[this];exact h
theorem look_ok(h:ij kp nx c K S ord ah tr hs es ck C){x:fM}{w:Nat}(hw:w<256)(hx:x.x<18446744073709551616):Rd zQ 83 #[ptr sp,x.v,.int .u8 (w:Int)] (gS sp c kp mb nx es ck C) (· =i64 (kD c.n hs w x)):=by
 refine aF λg=>N8 ?_;intro b1 _ J3 h3;have Sf:∀b:Bool,(Gb w x||NC w x)=b->J3 [.bool b] ((b1,.cells (Value.cells x.v) 35 (0,0))::gS sp c kp mb nx es ck C):=λb hb=>by
  refine h3 _ _ λ_=>?_;cases b;rotate_left
  ·exact Br.yes (bc.mk .tail (by unfold kD;rw[xae hb]))
  apply Br.no;intro J7 h7;have Se:∀b:Bool,(EX c.n w x||EW c.n w x||MA c.n w x)=b->J7 [.bool b] ((b1,.cells (Value.cells x.v) 35 (0,0))::gS sp c kp mb nx es ck C):=λb' hb'=>by
   refine h7 _ _ λ_=>?_;cases b';rotate_left
   ·exact Br.yes (bc.mk .tail (by unfold kD;rw[hb,xab zD,xae hb']))
   apply Br.no;intro J11 h11;have Lc:∀b:Bool,(v8 hs w x||v7 hs w x||yZ hs w x)=b->J11 [.bool b] ((b1,.cells (Value.cells x.v) 35 (0,0))::gS sp c kp mb nx es ck C):=λb2 ta=>by
    refine h11 _ _ λ_=>?_;cases b2
    ·exact Br.no (bc.mk .tail (by unfold kD;rw[hb,hb',ta];rfl))
    exact Br.yes (bc.mk .tail (by unfold kD;rw[hb,hb',xab zD,xab zD,xae ta]))
   intro J15 h15;have k15:∀b:Bool,v8 hs w x=b->J15 [.bool b] ((b1,.cells (Value.cells x.v) 35 (0,0))::gS sp c kp mb nx es ck C):=λb2 ta=>by
    refine h15 _ _ λ_=>?_;cases b2;rotate_left
    ·exact Br.yes (JE.mk (Lc true (by rw[ta];rfl)))
    apply Br.no;intro J19 h19;have k19:∀b:Bool,v7 hs w x=b->J19 [.bool b] ((b1,.cells (Value.cells x.v) 35 (0,0))::gS sp c kp mb nx es ck C):=λb3 RE=>by
     refine h19 _ _ λ_=>?_;cases b3;rotate_left
     ·exact Br.yes (JE.mk (Lc true (by rw[RE,xdJ];rfl)))
     refine Br.no (ae.has (m:=4) hw zD (Split.mk (λe=>?_) (λe=>?_)))
     ·refine Ld.f (v:=i64 x.c) ?_;refine aa.eq (eJ h x.c) (Un.not (aI.mk (JE.mk (Lc _ ?_))));rw[ta,RE];unfold yZ;rw[e];rfl
     refine aI.mk (JE.mk (Lc false ?_));rw[ta,RE];unfold yZ;rw[e];rfl
    refine ae.has (m:=2) hw zD (Split.mk (λe=>?_) (λe=>?_))
    ·refine Ld.f (v:=i64 x.b) ?_;refine aa.eq (eJ h x.b) (Un.not (aI.mk (JE.mk (k19 _ ?_))));unfold v7;rw[e];rfl
    refine aI.mk (JE.mk (k19 false ?_));unfold v7;rw[e];rfl
   refine ae.has (m:=1) hw zD (Split.mk (λe=>?_) (λe=>?_))
   ·refine Ld.f (v:=i64 x.a) ?_;refine aa.eq (eJ h x.a) (Un.not (aI.mk (JE.mk (k15 _ ?_))));unfold v8;rw[e];rfl
   refine aI.mk (JE.mk (k15 false ?_));unfold v8;rw[e];rfl
  intro J50 h50;have k50:∀b:Bool,EX c.n w x=b->J50 [.bool b] ((b1,.cells (Value.cells x.v) 35 (0,0))::gS sp c kp mb nx es ck C):=λb2 ta=>by
   refine h50 _ _ λ_=>?_;cases b2;rotate_left
   ·exact Br.yes (JE.mk (Se true (by rw[ta];rfl)))
   apply Br.no;intro J54 h54;have k54:∀b:Bool,EW c.n w x=b->J54 [.bool b] ((b1,.cells (Value.cells x.v) 35 (0,0))::gS sp c kp mb nx es ck C):=λb3 RE=>by
    refine h54 _ _ λ_=>?_;cases b3;rotate_left
    ·exact Br.yes (JE.mk (Se true (by rw[RE,xdJ];rfl)))
    refine Br.no (ae.has (m:=128) hw zD (cf.and (decide (x.x>>>c.n≠0)) (λ_=>?_) rfl λgs=>?_))
    ·refine Ld.f (v:=u64 x.x) ?_;refine Nil.ptr (ai.mk (Ld.f (v:=i64 c.n) ?_));refine ae.iL (by simpa[bF]using hx) (ae.neq ⟨rfl,?_⟩);congr 1;generalize x.x>>>c.n=y;rw[xbR];simp
    refine JE.mk (Se _ ?_);rw[ta,RE];rfl
   refine ae.has (m:=16) hw zD (Split.mk (λe=>?_) (λe=>?_))
   ·refine Ld.f (v:=i64 x.b) ?_;refine aa.eq (Bs x.b) (Un.not (aI.mk (JE.mk (k54 _ ?_))));unfold EW;rw[e];rfl
   refine aI.mk (JE.mk (k54 false ?_));unfold EW;rw[e];rfl
  refine ae.has (m:=8) hw zD (Split.mk (λe=>?_) (λe=>?_))
  ·refine Ld.f (v:=i64 x.a) ?_;refine aa.eq (Bs x.a) (Un.not (aI.mk (JE.mk (k50 _ ?_))));unfold EX;rw[e];rfl
  refine aI.mk (JE.mk (k50 false ?_));unfold EX;rw[e];rfl
 intro J88 h88;have k88:∀b:Bool,Gb w x=b->J88 [.bool b] ((b1,.cells (Value.cells x.v) 35 (0,0))::gS sp c kp mb nx es ck C):=λb hb=>by
  refine h88 _ _ λ_=>?_;cases b;rotate_left
  ·exact Br.yes (JE.mk (Sf true (by rw[hb];rfl)))
  refine Br.no (ae.has (m:=64) hw zD (Split.mk (λe=>?_) (λe=>?_)))
  ·refine Ld.f (v:=i64 x.c) ?_;refine aL.of rfl zK (aa.eq (args:=#[i64 x.c]) (KH x.c _) (Un.not (aI.mk (JE.mk (Sf _ ?_)))));rw[hb];unfold NC;rw[e];rfl
  refine aI.mk (JE.mk (Sf false ?_));rw[hb];unfold NC;rw[e];rfl
 refine ae.has (m:=32) hw zD (Split.mk (λe=>?_) (λe=>?_))
 ·refine Ld.f (v:=i64 x.a) ?_;refine aL.of rfl zK (aa.eq (args:=#[i64 x.a]) (KH x.a _) (Un.not (aI.mk (JE.mk (k88 _ ?_)))));unfold Gb;rw[e];rfl
 refine aI.mk (JE.mk (k88 false ?_));unfold Gb;rw[e];rfl
end
end
section
open aA
section
theorem CE{n:Int}(hn:n<0\/64<n)(B:Hp):Rd zQ 68 #[iv n] B (· =.tuple #[.slice none 0 0,iv 1]):=by
 refine aF λg=>zo ?_;refine ae.lss (cf.or (a:=decide (n<0)) (decide (64<n)) (λ_=>ae.gtr ⟨rfl,rfl⟩) rfl λ_=>?_);rw[<-xa7,xam hn];exact Br.yes (bc.mk (.refl _) rfl)
theorem X1{n cap:Int}(hb:n<1\/64<n\/cap<2\/1048576<cap):Rd zQ 40 #[i64 n,i64 cap] [] (· =.tuple #[.pointer none,i64 1]):=by
 refine aF λg=>zu ?_;by_cases hn:n<0\/64<n
 ·refine aa.eq (CE hn _) (Ext.two (ae.cG (cf.or true (λh=>absurd h zD) rfl λgs=>?_)));refine cf.or true (λh=>absurd h zD) rfl λgs=>?_;refine cf.or true (λh=>absurd h zD) rfl λgs=>Br.yes ?_;exact bc.mk (.refl _) rfl
 obtain⟨m,rfl⟩:∃m:Nat,n=m:=⟨n.toNat,by omega⟩;refine aa.fq (s8 (n:=m) zO) ?_;rintro v CO ⟨s,rfl,hO⟩;refine Ext.two (ae.cG (cf.or (decide ((m:Int)<1)) (λ_=>ae.lss ⟨rfl,rfl⟩) rfl λgs=>?_));refine cf.or (decide (cap<2)) (λ_=>ae.lss ⟨rfl,rfl⟩) rfl λgs=>?_;refine cf.or (decide (1048576<cap)) (λ_=>ae.gtr ⟨rfl,rfl⟩) rfl λgs=>?_;exact Br.TA (by simp only[xa9,xaA];omega) (bc.mk (λ_ _ h=>h.bt) rfl)
structure xu where
 n:Int
 cap:Int
 str:Nat
 gr:Int
 rs:Int
def xu.cells(c:xu):List zV:=[i64 c.n,i64 c.cap,.int .u8 (c.str:Int),i64 c.gr,i64 c.rs]
theorem xu.one(c:xu):∀u∈c.cells,u.oneCell'=true:=λu hu=>by
 simp only[xu.cells,xak,xaS,xby]at hu;rcases hu with rfl|rfl|rfl|rfl|rfl<;>rfl
def gX(c:xu):Bool:=decide (6<c.str)||decide (c.gr<100)||decide (1000<c.gr)||decide (c.rs<0)||decide (16<c.rs)
def iP(c:xu):Bool:=decide (c.n<1\/64<c.n\/c.cap<2\/1048576<c.cap)
def g9(c:xu):Int:=if gX c=true then 1 else if iP c=true then 1 else if c.str=6/\12<c.n then 6 else 0
structure Cf.Ok(c:Cf):Prop where
 n:1<=c.n/\c.n<=64
 cap:2<=c.cap/\c.cap<=1048576
 str:c.str<=6
 gr:100<=c.gr/\c.gr<=1000
 rs:c.rs<=16
 ex:c.str=6->c.n<=12
def Cf.i(c:Cf):xu:=⟨c.n,c.cap,c.str,c.gr,c.rs⟩
theorem UB{c:xu}(h:g9 c=0):∃d:Cf,c=d.i/\d.Ok:=by
 unfold g9 at h;split at h
 ·cases h
 rename_i h1;split at h
 ·cases h
 rename_i h2;split at h
 ·cases h
 rename_i h3;simp only[gX,iP,xa9,xaA]at h1 h2;obtain⟨n,cap,str,gr,rs⟩:=c;simp only at h1 h2 h3;exact⟨⟨n.toNat,cap.toNat,str,gr.toNat,rs.toNat⟩,by simp only[Cf.i,xu.mk.injEq];exact⟨by omega,by omega,trivial,by omega,by omega⟩,⟨by simp only;omega,by simp only;omega,by simp only;omega,by simp only;omega,by simp only;omega,λe=>by simp only at e⊢;omega⟩⟩
theorem BF(c:xu){Q:zV->Hp->Prop}(hno:g9 c≠0->Q (.tuple #[.pointer none,i64 (g9 c)]) [])
 (hok:∀d:Cf,c=d.i->d.Ok->∀(sp kp mb:Nat) (C:Hp),cc kp (K0 d.n d.cap) S0 (List.range d.n) (List.range d.n) [] C->Q (.tuple #[ptr sp,i64 0]) (gS sp d kp mb 0 #[] 0 C)):
  Fc zQ 14 #[.agg c.cells.toArray] [] Q:=by
 refine aF λg=>OF ?_;intro b1 _ J3 h3;have jt:gX c=true->J3 [.bool true] [(b1,.cells (Value.cells (.agg c.cells.toArray)) 23 (0,0))]:=λhb=>by
  refine h3 _ _ λ_=>Br.yes ?_;have e:g9 c=1:=by unfold g9;rw[xae hb]
  rw[e]at hno;exact aN.mk .tail (hno zD)
 have jf:gX c=false->J3 [.bool false] [(b1,.cells (Value.cells (.agg c.cells.toArray)) 23 (0,0))]:=λhb=>by
  refine h3 _ _ λ_=>Br.no ?_;refine Ld.f (v:=i64 c.n) ?_;refine Ld.f (v:=i64 c.cap) ?_;cases ta:iP c;rotate_left
  ·refine aa.eh hnew (X1 (by simpa[iP]using ta)) ?_;refine Ext.two (ae.cG (Br.T ?_));have e:g9 c=1:=by unfold g9;rw[hb,xab zD,xae ta]
   rw[e]at hno;exact aN.mk .tail (hno zD)
  simp only[iP,xbq]at ta;simp only[gX,xaF,xbq]at hb;obtain⟨m,hm⟩:∃m:Nat,c.n=m:=⟨c.n.toNat,by omega⟩;obtain⟨q,hq⟩:∃q:Nat,c.cap=q:=⟨c.cap.toNat,by omega⟩;rw[hm,hq];refine aa.fn hnew (X0 (n:=m) (cap:=q) zO zO) ?_;rintro w C ⟨kp,rfl,hK⟩;refine Ext.two (ae.cG (Br.F (Ld.u (v:=.int .u8 (c.str:Int)) (xac _ (.head _)) ?_)));refine ae.eO (b:=6) (cf.and (decide (12<c.n)) (λ_=>?_) rfl λgs=>?_)
  ·exact Ld.u (v:=i64 c.n) (xac _ (.head _)) (ae.gtr ⟨rfl,rfl⟩)
  rw[<-xdE];refine Br.dec (λh6=>?_) (λh6=>?_)
  ·have e:g9 c=6:=by
    unfold g9;rw[xab (by simp only[gX,xa9,xaA];omega),xab (by simp only[iP,xaA];omega),xae h6]
   rw[e]at hno;exact aN.mk (λ_ _ h=>h.bt) (hno zD)
  have e:g9 c=0:=by
   unfold g9;rw[xab (by simp only[gX,xa9,xaA];omega),xab (by simp only[iP,xaA];omega),xab h6]
  obtain⟨d,rfl,hd⟩:=UB e;have em:m=d.n:=by simp only[Cf.i]at hm;omega
  have eq:q=d.cap:=by simp only[Cf.i]at hq;omega
  subst em eq;refine ay.whole (r:=d.i.cells) (xac _ (.head _)) rfl ?_;intro mb _;refine Build.mk (cs:=d.cells++[ptr kp,.map (some mb),i64 ((0:Nat):Int)]) zK ?_;intro sp _;refine aN.mk ?_ (hok d rfl hd sp kp mb C hK);exact .cons (.cons .left)
 refine Ld.f (v:=.int .u8 (c.str:Int)) ?_;refine ae.m9 (b:=6) (Br.dec (λh=>by rw[xam h];exact JE.mk (jt (by simp[gX,h]))) (λh1=>?_));refine Ld.f (v:=i64 c.gr) ?_;refine ae.lss (Br.dec (λh=>by rw[xam h];exact JE.mk (jt (by simp[gX,h]))) (λh2=>?_));refine Ld.f (v:=i64 c.gr) ?_;refine ae.gtr (Br.dec (λh=>by rw[xam h];exact JE.mk (jt (by simp[gX,h]))) (λyQ=>?_));refine Ld.f (v:=i64 c.rs) ?_;refine ae.lss (Br.dec (λh=>by rw[xam h];exact JE.mk (jt (by simp[gX,h]))) (λh4=>?_));refine Ld.f (v:=i64 c.rs) ?_;refine ae.gtr ?_;cases hb:decide (16<c.rs)
 ·exact JE.mk (jf (by simp only[gX,hb,xal h1,xal h2,xal yQ,xal h4];rfl))
 exact JE.mk (jt (by simp only[gX,hb,xdJ]))
end
section
variable {sp kp mb nx:Nat} {c:Cf} {K:Kd} {S:Nat->aA.Fn} {ord ah tr:zL} {hs:List (Int×Nat)} {es:Array MapEntry} {ck:Nat} {C:Hp}
theorem Qq{κ β:Type}[DecidableEq κ]{m:List (κ×β)}{k:κ}{x:β}(h:k∉m.map Prod.fst):dZ m k x=m++[(k,x)]:=by
 unfold dZ;rw[xab h]
theorem yP(hE:aE (kI .i64) (λv (r:Nat)=>v=u32 r) es ck hs)(hk:(nx:Int)∉hs.map Prod.fst)(CJ:nx+1<9223372036854775808)(r:Nat)(t:Int):
  Fc zQ 84 #[ptr sp,u32 r,i64 t] (gS sp c kp mb nx es ck C) (λv H=>v=eZ 0 nx 0 t/\∃es' bB,H=gS sp c kp mb (nx+1) es' bB C/\aE (kI .i64) (λv (r:Nat)=>v=u32 r) es' bB (hs++[((nx:Int),r)])):=by
 refine aF λg=>N7 ?_;intro b1 _;refine Ld.n (v:=i64 (nx:Int)) ?_;refine Ld.n (v:=i64 (nx:Int)) ?_;refine ae.inc (Nil.ptr (ai.mk (St.one (c':=(c.cells++[ptr kp,.map (some mb),i64 ((nx+1:Nat):Int)]).toArray) (by exact .tail (.head _)) rfl (by simp[Cf.cells]) rfl ?_)));refine Ld.n (v:=.map (some mb)) ?_;refine hE.bg (k:=(nx:Int)) (b:=mb) (x:=r) (bZ _) (Ap _) rfl λes' bB he=>⟨_,.tail (.tail (.head _)),?_⟩;rw[Qq hk]at he;refine Build.mk (cs:=[i64 0,i64 (nx:Int),u64 0,i64 t]) zK ?_;refine St.p (bI _ _ _ _) ?_;refine ay.q ?_;exact aN.mk .tail ⟨rfl,es',bB,rfl,he⟩
def eU(op:Nat):Option (Nat×Nat):=
 if op=11 then some (21,82)else if op=10 then some (129,81)else if op=9 then some (129,80)else if op=8 then some (81,79)else
 if op=7 then some (7,78)else if op=6 then some (3,77)else if op=5 then some (3,76)else if op=4 then some (3,75)else
 if op=3 then some (1,74)else if op=2 then some (32,73)else if op=1 then some (8,72)else none
def KC(p:Nat×Nat):List zV:=[.int .u8 (p.1:Int),.func (.func p.2) #[] #[]]
theorem MF:Fc zQ 42 #[] [] (λv H=>∃b es ck m,v=.map (some b)/\H=[(b,.map es ck)]/\aE (kI .u8) (λv (p:Nat×Nat)=>v=.agg (KC p).toArray) es ck m/\∀op:Nat,aK m (op:Int)=eU op):=by
 refine aF λg=>Ow ?_;intro b _;have bg:∀{k:Int} {p:Nat×Nat} {es:Array MapEntry} {ck:Nat} {m:List (Int×(Nat×Nat))} {Q:Hp->Prop},aE (kI .u8) (λv (p:Nat×Nat)=>v=.agg (KC p).toArray) es ck m->(∀es' bB,aE (kI .u8) (λv (p:Nat×Nat)=>v=.agg (KC p).toArray) es' bB (dZ m k p)->Q [(b,.map es' bB)])->
   Build zQ 95 [(0,.int .u8 (p.1:Int)),(1,.func (.func p.2) #[] #[])] λv=>aW (.int .u8) [(b,.map es ck)] (.map (some b)) (kI .u8 k) v Q:=λ{k p es ck m Q} he hq=>by
  refine Build.mk (cs:=KC p) zK ?_;exact aE.bg (bZ _) (Ap _) he rfl λes' bB he'=>⟨_,.head _,hq es' bB he'⟩
 refine bg (k:=1) (p:=(8,72)) aE.empty λ_ _ h=>?_;refine bg (k:=2) (p:=(32,73)) h λ_ _ h=>?_;refine bg (k:=3) (p:=(1,74)) h λ_ _ h=>?_;refine bg (k:=4) (p:=(3,75)) h λ_ _ h=>?_;refine bg (k:=5) (p:=(3,76)) h λ_ _ h=>?_;refine bg (k:=6) (p:=(3,77)) h λ_ _ h=>?_;refine bg (k:=7) (p:=(7,78)) h λ_ _ h=>?_;refine bg (k:=8) (p:=(81,79)) h λ_ _ h=>?_;refine bg (k:=9) (p:=(129,80)) h λ_ _ h=>?_;refine bg (k:=10) (p:=(129,81)) h λ_ _ h=>?_;refine bg (k:=11) (p:=(21,82)) h λ_ _ h=>?_;refine aN.mk (.refl _) ⟨b,_,_,_,rfl,rfl,h,λop=>?_⟩;simp only[bJ];have:∀j:Nat,((op:Int)=(j:Int))=(op=j):=λj=>propext zO;have e:=this 11;have e2:=this 10;have e3:=this 9;have e4:=this 8;have e5:=this 7;have e6:=this 6;have e7:=this 5;have e8:=this 4;have e9:=this 3;have e10:=this 2;have Zh:=this 1
 simp only[Int.cast_ofNat_Int]at*;simp only[e,e2,e3,e4,e5,e6,e7,e8,e9,e10,Zh];rfl
end
section
variable {sp kp mb nx:Nat} {c:Cf} {K K':Kd} {S S':Nat->aA.Fn} {ord ah bW tr de o:zL} {hs:List (Int×Nat)} {es:Array MapEntry} {ck:Nat} {C C':Hp}
theorem Kept.const(hK:cc kp K S ord ah tr C)(dh:cc kp K' S' o bW de C')(r:Nat)(hr:r<2):S' r=S r:=by
  have h1:=hK.ok.mid.int;have h2:=dh.ok.mid.int;have:r=0\/r=1:=by omega
  rcases this with rfl|rfl
  · exact funext λx=>by rw[h1.zero,h2.zero]
  · exact funext λx=>by rw[h1.one,h2.one]
theorem ij.kept(h:ij kp nx c K S ord ah tr hs es ck C)(dh:cc kp K' S' o bW de C')(hk:Kept K S K' S'):ij kp nx c K' S' o bW de hs es ck C'/\∀p∈hs,S' p.2=S p.2:=by
  have hh:∀p∈hs,2<=p.2->K.hold p.2≠0:=λp hp h2=>by
    rw[h.hold,xae h2];exact xdp (xbJ.2 (xaP hp))
  refine⟨⟨dh,hk.n.trans h.n,hk.cap.trans h.cap,h.dG,λp hp=>?_,λr=>by rw[hk.hold,h.hold],h.lt⟩,λp hp=>?_⟩
  · by_cases h2:2<=p.2
    · exact .inr (dh.ok.mid.held p.2 (by rw[hk.hold];exact hh p hp h2))
    · exact .inl zO
  · by_cases h2:2<=p.2
    · exact hk.fn _ (hh p hp h2)
    · exact Kept.const h.ks dh _ zO
theorem ij.key(h:ij kp nx c K S ord ah tr hs es ck C):(nx:Int)∉hs.map Prod.fst:=λhm=>by
  obtain⟨p,hp,e⟩:=xao.1 hm;have:=h.lt p hp;omega
theorem ij.grow(h:ij kp nx c K S ord ah tr hs es ck C){f:aA.Fn}{r:Nat}{es':Array MapEntry}{bB:Nat}(dh:cc kp K' S' o bW de C')(hg:kO K S K' S' f r)(he:aE (kI .i64) (λv (r:Nat)=>v=u32 r) es' bB (hs++[((nx:Int),r)])):
    ij kp (nx+1) c K' S' o bW de (hs++[((nx:Int),r)]) es' bB C'/\∀p∈hs,S' p.2=S p.2:=by
  refine⟨⟨dh,hg.n.trans h.n,hg.cap.trans h.cap,he,λp hp=>?_,λs=>?_,λp hp=>?_⟩,λp hp=>hg.fn _ (h.live p hp)⟩
  · rcases xan.1 hp with hp|hp
    · exact cu hg.N (h.live p hp)
    · rw[xaE.1 hp];exact hg.live
  · rw[hg.hold,h.hold,xaJ,xbf]
    by_cases e:s=r
    · subst e
      by_cases h2:2<=s
      · simp[h2]
      · simp[h2]
    · have:List.count s (List.map Prod.snd [((nx:Int),r)])=0:=by
        simp only[xaB,xb6,xdI,xaE];exact e
      have e2:(if s=r/\2<=r then 1 else 0)=0:=xab λh=>e h.1;rw[this,e2];split<;>rfl
  · rcases xan.1 hp with hp|hp
    · have:=h.lt p hp;omega
    · rw[xaE.1 hp];simp only;omega
def nu(kp:Nat)(K:Kd)(S:Nat->aA.Fn)(ord ah tr:zL)(f:aA.Fn)(T:Nat->Prop)(w:zV)(H:Hp):Prop:=
  (∃r K' S',w=.tuple #[u32 r,i64 0]/\cc kp K' S' ord ah [] H/\kO K S K' S' f r/\T 0)\/
  (∃(e:Nat) (K':Kd) (S':Nat->aA.Fn) (de:zL),w=.tuple #[u32 0,i64 e]/\(e=8\/e=9)/\cc kp K' S' ord ah de H/\(de=[]\/de=tr)/\Kept K S K' S'/\T e)
theorem nu.two{f:aA.Fn}{T:Nat->Prop}{w:zV}{H:Hp}(h:nu kp K S ord ah tr f T w H):∃x y,w=.tuple #[x,y]:=by
  rcases h with⟨r,_,_,rfl,_⟩|⟨e,_,_,_,rfl,_⟩
  · exact⟨_,_,rfl⟩
  · exact⟨_,_,rfl⟩
inductive tv(T:zL->Nat->Prop)(R:zL->zL->Prop)(o:zL):Nat->zL->Prop
  |one:tv T R o 1 o
  |more {t:Nat} {p ls:zL}:tv T R o t p->T p 9->R p ls->tv T R o (t+1) (az p ls)
theorem tv.pos{T:zL->Nat->Prop}{R:zL->zL->Prop}{t:Nat}(h:tv T R ord t o):1<=t:=by
  cases h<;>omega
def Lw(sp kp mb nx:Nat)(c:Cf)(S:Nat->aA.Fn)(sz:zL->Nat)(ord tr:zL)(hs:List (Int×Nat))(f:aA.Fn)(T:zL->Nat->Prop)(R:zL->zL->Prop)(v:zV)(H:Hp):Prop:=
  ∃(t:Nat) (o bW de:zL) (K':Kd) (S':Nat->aA.Fn) (es':Array MapEntry) (bB:Nat) (C':Hp),t<=c.rs+1/\tv T R ord t o/\(∀p∈hs,S' p.2=S p.2)/\
    ((∃r,v=eZ 0 nx 0 t/\H=gS sp c kp mb (nx+1) es' bB C'/\ij kp (nx+1) c K' S' o bW de (hs++[((nx:Int),r)]) es' bB C'/\S' r=f/\T o 0/\de=[])\/
     (∃e:Nat,(e=8\/e=9)/\v=eZ e (-1) 0 t/\H=gS sp c kp mb nx es' bB C'/\ij kp nx c K' S' o bW de hs es' bB C'/\T o e/\(e=9->t=c.rs+1)/\de.length+66*sz o<=tr.length+66*sz ord))
theorem UI{f w:Nat}{x:fM}{fn:aA.Fn}{T:zL->Nat->Prop}{R:zL->zL->Prop}(fN:aT zQ f=true)(h:ij kp nx c K S ord ah tr hs es ck C)(hc:c.Ok)(CJ:nx+1<9223372036854775808)(hw:w<256)(hx:x.x<18446744073709551616)(hl:kD c.n hs w x=0)
   (KQ:∀{K':Kd} {S':Nat->aA.Fn} {o bW de:zL} {C':Hp},ij kp nx c K' S' o bW de hs es ck C'->(∀p∈hs,S' p.2=S p.2)->Fc zQ f #[ptr sp,x.v] (gS sp c kp mb nx es ck C') (λv H=>∃C2,H=gS sp c kp mb nx es ck C2/\nu kp K' S' o bW de fn (T o) v C2))
   (hrun:∀{K':Kd} {S':Nat->aA.Fn} {o bW de:zL} {C':Hp},T o 9->ij kp nx c K' S' o bW de hs es ck C'->(∀p∈hs,S' p.2=S p.2)->de.length<=tr.length+66*cI K S ord->
      Fc zQ 85 #[ptr kp,.int .u8 (c.str:Int),i64 c.gr] C' (λv H=>∃ls a b,v=.tuple #[a,b]/\R o ls/\At kp K' S' (az o ls) (de++ls) H/\ls.length+66*cI K' S' (az o ls)<=66*cI K' S' o)):
    Fc zQ 43 #[ptr sp,x.v,.agg (KC (w,f)).toArray] (gS sp c kp mb nx es ck C) (Lw sp kp mb nx c S (cI K S) ord tr hs fn T R):=by
  refine aF λg=>zq ?_;intro b1 _ b3 _ b5 _;refine ay.q (r:=x.cells) ?_;refine Ld.f (v:=.int .u8 (w:Int)) ?_;refine aa.eq (look_ok h hw hx) ?_;rw[hl];refine ae.cG (Br.F ?_);refine⟨λvs H=>∃(t:Nat) (o bW de:zL) (K':Kd) (S':Nat->aA.Fn) (C':Hp),vs=[i64 (t:Int)]/\t<=c.rs+1/\H=(b5,.cells #[i64 0,i64 0,u64 0,i64 0] 37 (0,0))::(b3,.cells (KC (w,f)).toArray 95 (0,0))::(b1,.cells x.cells.toArray 35 (0,0))::gS sp c kp mb nx es ck C'/\
      ij kp nx c K' S' o bW de hs es ck C'/\Kept K S K' S'/\tv T R ord t o/\de.length+66*cI K S o<=tr.length+66*cI K S ord,λvs _=>20-bL vs 0,JE.mk ⟨1,ord,ah,tr,K,S,C,rfl,by omega,rfl,h,.refl _ _,.one,xaj _⟩,?_⟩
  rintro w0 H ⟨t,o,aaR,Wy,K1,S1,C1,⟨⟩,ht,rfl,h1,tO,hT,hb⟩ gs;have A9:=hc.rs;have hsame:=(h.kept h1.ks tO).2;refine Ld.f (v:=.func (.func f) #[] #[]) ?_;refine ay.q (r:=x.cells) ?_;refine aL.of rfl fN (aa.fq (args:=#[ptr sp,x.v]) (KQ h1 hsame) ?_);rintro w H ⟨C2,rfl,hQ⟩;rcases hQ with⟨r,K2,S2,rfl,dk,hg,h0⟩|⟨e,K2,S2,D7,rfl,he,dk,tJ,qY,RO⟩
  · refine Ext.two (ae.gU (Br.T (aa.fq (yP h1.dG h.key CJ r t) ?_)))
    rintro w H ⟨rfl,gR,iE,rfl,hE⟩;refine St.p (r:=[i64 0,i64 nx,u64 0,i64 t]) (bI _ _ _ _) ?_;refine ay.q ?_;obtain⟨h3,h4⟩:=h1.grow dk hg hE;exact aN.mk (.skip (.skip .tail)) ⟨t,o,aaR,[],K2,S2,gR,iE,C2,ht,hT,λp hp=>(h4 p hp).trans (hsame p hp),.inl ⟨r,rfl,rfl,h3,hg.is,h0,rfl⟩⟩
  · obtain⟨h3,h4⟩:=h1.kept dk qY
    have ta:D7.length+66*cI K S o<=tr.length+66*cI K S ord:=by
      rcases tJ with rfl|rfl
      · rw[xch];omega
      · exact hb
    have fin:(e=9->t=c.rs+1)->Lw sp kp mb nx c S (cI K S) ord tr hs fn T R (eZ e (-1) 0 t) (gS sp c kp mb nx es ck C2):=λhet=>
      ⟨t,o,aaR,D7,K2,S2,es,ck,C2,ht,hT,λp hp=>(h4 p hp).trans (hsame p hp),.inr ⟨e,he,rfl,rfl,h3,RO,het,ta⟩⟩
    refine Ext.two (ae.gU (Br.F (ae.cG (cf.or (decide (c.rs<t)) (λ_=>?_) rfl λgs=>?_))))
    · refine Nil.ptr (ai.mk (Ld.f (v:=i64 c.rs) ?_))
      exact ae.m9 ⟨rfl,rfl⟩
    rw[<-xa7];refine Br.dec (λKN=>?_) (λKN=>?_)
    · refine aa.eq (cB e _) ?_
      intro Zs _;refine St.p (r:=[i64 e,i64 (-1),u64 0,i64 0]) (bI _ _ _ _) ?_;refine ai.mk (St.one (c':=#[i64 e,i64 (-1),u64 0,i64 t]) (by exact .head _) rfl zI rfl ?_);refine ay.q (r:=[i64 e,i64 (-1),u64 0,i64 t]) ?_;refine St.p (bI _ _ _ _) ?_;refine ay.q ?_;exact aN.mk (.skip (.skip (.skip .tail))) (fin λ_=>by omega)
    · have he9:e=9:=by omega
      subst he9;refine DR.of (R:=(b5,.cells #[i64 0,i64 0,u64 0,i64 0] 37 (0,0))::(b3,.cells (KC (w,f)).toArray 95 (0,0))::(b1,.cells x.cells.toArray 35 (0,0))::gS sp c kp mb nx es ck C2) (.refl _) (Ld.n (v:=ptr kp) ?_);refine Nil.ptr (ai.mk (Ld.f (v:=.int .u8 (c.str:Int)) ?_));refine Nil.ptr (ai.mk (Ld.f (v:=i64 c.gr) ?_));intro F;refine aa.fq (hrun RO h3 (λp hp=>(h4 p hp).trans (hsame p hp)) zO) ?_;rintro w2 H2 ⟨ls,a,b,rfl,hR,hA,hlen⟩;refine ae.inc ?_;obtain⟨K3,S3,aet,j8,pn⟩:=hA;obtain⟨h5,h6⟩:=h3.kept j8 pn;rw[qU (tO.trans qY),qU (tO.trans qY)]at hlen;refine aC.mk ⟨t+1,az o ls,aet,D7++ls,K3,S3,H2,rfl,by omega,rfl,h5,(tO.trans qY).trans pn,.more hT RO hR,by rw[xaf];omega⟩ (by simp only[bL];omega)
end
section
def HF(L:List aA.Fn)(g:aA.Fn):Prop:=g∈L/\∃v,cF g v
noncomputable def xP(L:List aA.Fn)(f:aA.Fn):Nat:=L.countP λg=> @decide (g=f) (Classical.propDecidable _)
def D1(L:List aA.Fn)(f:aA.Fn):Prop:=(∃v,cF f v)/\65535<=xP L f
def Zt(n cap:Nat)(L:List aA.Fn)(f:aA.Fn)(ord:zL)(e:Nat):Prop:=
 (e=0/\Fits (aG n ord (λg=>HF L g\/g=f)) cap/\¬D1 L f)\/(e=9/\¬Fits (aG n ord (λg=>HF L g\/g=f)) cap)\/(e=8/\D1 L f)
def Dr(n cap:Nat)(L:List aA.Fn)(q:Bool)(mask:Nat)(f:aA.Fn)(ord:zL)(e:Nat):Prop:=
 e=0\/(e=9/\∃i,i<n/\mask.testBit i=true/\¬Fits (aG n ord (λg=>(HF L g\/(bitsOf mask i≠[]/\g=tG q (bitsOf mask i) f))\/g=qf q i (tG q (bitsOf mask i) f))) cap)\/(e=8/\∃g,65534<=xP L g)
def Sp(n cap:Nat)(L:List aA.Fn)(lo hi f:aA.Fn)(ord:zL)(e:Nat):Prop:=
 e=0\/(e=9/\(¬Fits (aG n ord (λg=>HF L g\/g=lo)) cap\/¬Fits (aG n ord (λg=>(HF L g\/g=lo)\/g=hi)) cap\/¬Fits (aG n ord (λg=>((HF L g\/g=lo)\/g=hi)\/g=f)) cap))\/(e=8/\∃g,65533<=xP L g)
def dO(n:Nat)(F:Int->aA.Fn)(x:fM):aA.Fn:=match x.op with
 |1=>λy=>y.testBit x.a.toNat
 |2=>λ_=>decide (x.a=1)
 |3=>λy=> !F x.a y
 |4=>λy=>F x.a y&&F x.b y
 |5=>λy=>F x.a y||F x.b y
 |6=>λy=>F x.a y^^F x.b y
 |7=>λy=>if F x.a y then F x.b y else F x.c y
 |8=>λy=>F x.a (an.aB y x.b.toNat (decide (x.c=1)))
 |9=>tG true (bitsOf x.x n) (F x.a)
 |10=>tG false (bitsOf x.x n) (F x.a)
 |_=>λy=>if F x.c y then F x.a (an.aB y x.b.toNat true)else F x.a (an.aB y x.b.toNat false)
def pZ(n cap:Nat)(L:List aA.Fn)(F:Int->aA.Fn)(x:fM)(ord:zL)(e:Nat):Prop:=
 if x.op=9 then Dr n cap L true x.x (F x.a) ord e else if x.op=10 then Dr n cap L false x.x (F x.a) ord e else
 if x.op=11 then Sp n cap L (λy=>F x.a (an.aB y x.b.toNat false)) (λy=>F x.a (an.aB y x.b.toNat true)) (dO n F x) ord e else Zt n cap L (dO n F x) ord e
def fL(S:Nat->aA.Fn)(hs:List (Int×Nat)):List aA.Fn:=hs.map λp=>S p.2
def bU(S:Nat->aA.Fn)(hs:List (Int×Nat))(a:Int):aA.Fn:=match aK hs a with|some r=>S r|none=>λ_=>false
variable {sp kp mb nx:Nat} {c:Cf} {K K':Kd} {S S':Nat->aA.Fn} {ord ah bW tr de o:zL} {hs:List (Int×Nat)} {es:Array MapEntry} {ck:Nat} {C C':Hp}
theorem qt{n:Nat}{ord:zL}{f:aA.Fn}(hf:∀v,¬cF f v)(g:aA.Fn):¬aG n ord (λg=>g=f) g:=by
 rintro⟨l,hl,hg,hh⟩;rw[ug (l:=n) (λj _=>hf _) l zO g hg]at hh;exact hf _ hh
theorem kO.acH{K':Kd}{S':Nat->aA.Fn}{f:aA.Fn}{x:Nat}{de:zL}{C':Hp}(h:kO K S K' S' f x)(hK:cc kp K S ord ah tr C)(dh:cc kp K' S' ord ah de C'):Fits (aG K.n ord (λg=>K.held S g\/g=f)) K.cap:=by
 have hc:=dh.ok.size dh.od;have hr:=dh.ok.mid.room;have h2:=dh.ok.mid.cap;rw[h.n]at hc;refine Fits.mono (λg hg=>?_) ⟨K'.used-2,hc,by rw[<-h.cap];omega⟩;have old:∀g,K.held S g->K'.held S' g:=λg ⟨s,hs,e⟩=>⟨s,by show K'.hold s≠0;have:K.hold s≠0:=hs;rw[h.hold];omega,by rw[h.fn s (.inr (hK.ok.mid.held s hs)),e]⟩;by_cases h2:2<=x
 ·refine cK (λg hg=>?_) hg;rcases hg with hg|rfl
  ·exact old g hg
  exact⟨x,by show K'.hold x≠0;rw[h.hold,xae ⟨rfl,h2⟩];omega,h.is.symm⟩
 rcases(B9 g).1 hg with hg|hg
 ·exact cK old hg
 refine absurd hg (qt (λv=>?_) g);rintro⟨y,hy⟩;rw[<-h.is]at hy;have hi:=dh.ok.mid.int;obtain rfl|rfl:x=0\/x=1:=by omega
 ·exact hy (by rw[hi.zero,hi.zero])
 exact hy (by rw[hi.one,hi.one])
theorem VV(h:∀p∈hs,S' p.2=S p.2):fL S' hs=fL S hs:=xbn h
theorem bA{a:Int}{r:Nat}(h:aK hs a=some r):bU S hs a=S r:=by unfold bU;rw[h]
theorem ij.find(h:ij kp nx c K S ord ah tr hs es ck C){a:Int}{r:Nat}(hm:aK hs a=some r):(a,r)∈hs:=(dV h.dG.nd).1 hm
theorem Nc(eY:(hs.map Prod.fst).Nodup)(h:∀p∈hs,S' p.2=S p.2):bU S' hs=bU S hs:=funext λa=>by
 unfold bU;cases hm:aK hs a with
 |none=>rfl
 |some r=>exact h _ ((dV eY).1 hm)
theorem iA(hK:cc kp K S ord ah tr C){r:Nat}(hl:live K.N r):2<=r↔∃v,cF (S r) v:=by
 constructor
 ·intro h2;obtain⟨d,hd⟩:∃d,K.N r=some d:=by
   rcases hl with hl|hl
   ·omega
   exact hl
  exact⟨d.v,gm hK.ok.wf hK.ok.lv hK.ok.mid.int hd⟩
 rintro⟨v,y,hy⟩;have hi:=hK.ok.mid.int;by_cases h2:2<=r
 ·exact h2
 exfalso;obtain rfl|rfl:r=0\/r=1:=by omega
 ·exact hy (by rw[hi.zero,hi.zero])
 exact hy (by rw[hi.one,hi.one])
theorem ij.same(h:ij kp nx c K S ord ah tr hs es ck C){a b:Nat}(ha:aA.live K.N a)(hb:aA.live K.N b):S a=S b↔a=b:=
 ⟨λe=>h.ks.ok.wf.same h.ks.ok.lv h.ks.ok.mid.int ha hb λx=>congrFun e x,λe=>by rw[e]⟩
theorem ij.held(h:ij kp nx c K S ord ah tr hs es ck C):K.held S=HF (fL S hs):=funext λg=>propext (by
 constructor
 ·rintro⟨s,hs0,rfl⟩;have h0:K.hold s≠0:=hs0;rw[h.hold]at h0;by_cases h2:2<=s
  ·rw[xae h2]at h0;obtain⟨p,hp,e⟩:=xao.1 (xbJ.1 (xee h0));subst e;exact⟨xao.2 ⟨p,hp,rfl⟩,(iA h.ks (h.live p hp)).1 h2⟩
  rw[xab h2]at h0;exact absurd rfl h0
 rintro⟨hm,hv⟩;obtain⟨p,hp,rfl⟩:=xao.1 hm;have h2:=(iA h.ks (h.live p hp)).2 hv;refine⟨p.2,?_,rfl⟩;show K.hold p.2≠0;rw[h.hold,xae h2];exact xdp (xbJ.2 (xaP hp)))
theorem ij.count(h:ij kp nx c K S ord ah tr hs es ck C){r:Nat}(hr:aA.live K.N r)(h2:2<=r):K.hold r=xP (fL S hs) (S r):=by
 rw[h.hold,xae h2];unfold xP fL;rw[xeA,List.count,xeA];refine List.countP_congr λp hp=>?_;have:=h.same (h.live p hp) hr;simp only[Function.comp_apply,xcO,xaA];exact this.symm
theorem ij.full(h:ij kp nx c K S ord ah tr hs es ck C){r:Nat}(hr:K.hold r=65535)(h2:2<=r):D1 (fL S hs) (S r):=by
 have hl:aA.live K.N r:=.inr (h.ks.ok.mid.held r zO);exact⟨(iA h.ks hl).1 h2,by rw[<-h.count hl h2,hr];exact xaj _⟩
theorem ij.big(h:ij kp nx c K S ord ah tr hs es ck C){r k:Nat}(hr:k<=K.hold r)(hk:0<k)(h2:2<=r):k<=xP (fL S hs) (S r):=by
 rw[<-h.count (.inr (h.ks.ok.mid.held r zO)) h2];exact hr
theorem ij.done(h:ij kp nx c K S ord ah tr hs es ck C){f:aA.Fn}{w:zV}(hD:jZ kp K S ord ah tr f w C'):nu kp K S ord ah tr f (Zt K.n K.cap (fL S hs) f ord) w C':=by
 rcases hD with(⟨x,K',S',rfl,dh,hg⟩|⟨rfl,⟨K',S',de,dh,eM,hk⟩,hf⟩)|⟨rfl,⟨K',S',de,dh,eM,hk⟩,r,h2,hr,rfl⟩
 ·refine .inl ⟨x,K',S',rfl,dh,hg,.inl ⟨rfl,by rw[<-h.held];exact hg.acH h.ks dh,?_⟩⟩;rintro⟨hv,hc⟩;have Fo:2<=x:=(iA dh hg.live).2 (by rw[hg.is];exact hv);have hle:=dh.gg x;rw[hg.hold,xae ⟨rfl,Fo⟩]at hle;obtain⟨p,hp,e⟩:∃p∈hs,S p.2=f:=by
   have:0<xP (fL S hs) f:=by omega
   obtain⟨g,hg1,To⟩:=List.countP_pos_iff.1 this;obtain⟨p,hp,rfl⟩:=xao.1 hg1;exact⟨p,hp,by simpa using To⟩
  have hpx:p.2=x:=dh.ok.wf.same dh.ok.lv dh.ok.mid.int (cu hg.N (h.live p hp)) hg.live λy=>by rw[hg.fn _ (h.live p hp),e,hg.is]
  subst hpx;have:=h.count (h.live p hp) Fo;rw[e]at this;omega
 ·exact .inr ⟨9,K',S',de,rfl,.inr rfl,dh,eM,hk,.inr (.inl ⟨rfl,by rw[<-h.held];exact hf⟩)⟩
 exact .inr ⟨8,K',S',de,rfl,.inl rfl,dh,eM,hk,.inr (.inr ⟨rfl,h.full hr h2⟩)⟩
theorem ij.each(h:ij kp nx c K S ord ah tr hs es ck C){q:Bool}{mask r:Nat}{w:zV}(hD:mg kp K S ord ah tr q mask r w C'):nu kp K S ord ah tr (tG q (bitsOf mask K.n) (S r)) (Dr K.n K.cap (fL S hs) q mask (S r) ord) w C':=by
 rcases hD with(⟨x,K',S',rfl,dh,hg⟩|⟨rfl,⟨K',S',de,dh,eM,hk⟩,i,hi,hb,hf⟩)|⟨rfl,⟨K',S',de,dh,eM,hk⟩,hF⟩
 ·exact .inl ⟨x,K',S',rfl,dh,hg,.inl rfl⟩
 ·exact .inr ⟨9,K',S',de,rfl,.inr rfl,dh,eM,hk,.inr (.inl ⟨rfl,i,hi,hb,by rw[<-h.held];exact hf⟩)⟩
 refine .inr ⟨8,K',S',de,rfl,.inl rfl,dh,eM,hk,.inr (.inr ⟨rfl,?_⟩)⟩;rcases hF with⟨_,h2,hr⟩|⟨i,x,_,_,h2,_,_,hx,_⟩
 ·exact⟨_,h.big (k:=65534) zO zO h2⟩
 exact⟨_,h.big hx zO h2⟩
theorem ij.comp(h:ij kp nx c K S ord ah tr hs es ck C){lo hi f:aA.Fn}{w:zV}(hD:D2 kp K S ord ah tr lo hi f w C'):nu kp K S ord ah tr f (Sp K.n K.cap (fL S hs) lo hi f ord) w C':=by
 rcases hD with(⟨x,K',S',rfl,dh,hg⟩|⟨rfl,⟨K',S',de,dh,eM,hk⟩,hf⟩)|⟨rfl,⟨K',S',de,dh,eM,hk⟩,x,h2,_,hF⟩
 ·exact .inl ⟨x,K',S',rfl,dh,hg,.inl rfl⟩
 ·exact .inr ⟨9,K',S',de,rfl,.inr rfl,dh,eM,hk,.inr (.inl ⟨rfl,by rw[<-h.held];exact hf⟩)⟩
 refine .inr ⟨8,K',S',de,rfl,.inl rfl,dh,eM,hk,.inr (.inr ⟨rfl,_,h.big (k:=65533) ?_ zO h2⟩)⟩;have one:∀{p:Prop} {a:Nat},One p a->a<=1:=λho=>by rcases ho with⟨h,_⟩|⟨h,_⟩<;>omega
 rcases hF with⟨_,h⟩|⟨a,ha,_,h⟩|⟨a,b,ha,hb,_,h⟩
 ·omega
 ·have:=one ha;omega
 have:=one ha;have:=one hb;omega
end
section
variable {sp kp mb nx:Nat} {c:Cf} {K:Kd} {S:Nat->aA.Fn} {ord ah tr:zL} {hs:List (Int×Nat)} {es:Array MapEntry} {ck:Nat} {C:Hp} {x:fM}
theorem NN(hK:cc kp K S ord ah tr C){a b:Nat}(ha:live K.N a)(hb:live K.N b):Fc zQ 123 #[ptr kp,u32 a,u32 b] C (jZ kp K S ord ah tr (λy=>S a y&&S b y)):=by
 refine aF λg=>JH ?_;refine aa.fq (jE hK (op:=8) zD ha hb) ?_;intro w H hD;rw[show(λy=>WG 8 (S a y) (S b y))=λy=>S a y&&S b y from funext λy=>by cases S a y<;>cases S b y<;>rfl]at hD;obtain⟨x,e,rfl⟩:=hD.two;exact Ext.two (aN.here hD)
theorem SL(hK:cc kp K S ord ah tr C){a b:Nat}(ha:live K.N a)(hb:live K.N b):Fc zQ 124 #[ptr kp,u32 a,u32 b] C (jZ kp K S ord ah tr (λy=>S a y||S b y)):=by
 refine aF λg=>JG ?_;refine aa.fq (jE hK (op:=14) zD ha hb) ?_;intro w H hD;rw[show(λy=>WG 14 (S a y) (S b y))=λy=>S a y||S b y from funext λy=>by cases S a y<;>cases S b y<;>rfl]at hD;obtain⟨x,e,rfl⟩:=hD.two;exact Ext.two (aN.here hD)
theorem NF(hK:cc kp K S ord ah tr C){a b:Nat}(ha:live K.N a)(hb:live K.N b):Fc zQ 125 #[ptr kp,u32 a,u32 b] C (jZ kp K S ord ah tr (λy=>S a y^^S b y)):=by
 refine aF λg=>JF ?_;refine aa.fq (jE hK (op:=6) zD ha hb) ?_;intro w H hD;rw[show(λy=>WG 6 (S a y) (S b y))=λy=>S a y^^S b y from funext λy=>by cases S a y<;>cases S b y<;>rfl]at hD;obtain⟨x,e,rfl⟩:=hD.two;exact Ext.two (aN.here hD)
theorem DV(hK:cc kp K S ord ah tr C)(b:Bool):Fc zQ 121 #[ptr kp,.bool b] C (jZ kp K S ord ah tr (λ_=>b)):=by
 have hi:=hK.ok.mid.int;refine aF λg=>JJ ?_;refine ae.aD (Br.no ?_);intro J2 h2;have go:∀r:Nat,r<2->(S r=λ_=>b)->J2 [u32 r] C:=λr hr hf=>by
  refine h2 _ _ λ_=>?_;refine aa.fq (mM hK (r:=r) (.inl hr) (λh=>by omega)) ?_;rintro v H ⟨rfl,K',dh,hm⟩;exact aN.here (.inl (.inl ⟨r,K',S,rfl,dh,⟨hm.n,hm.cap,λs d h=>by rw[hm.N];exact h,λ_ _=>rfl,.inl hr,hf,λs=>by rw[hm.hold];split<;>rfl⟩⟩))
 cases b
 ·exact Br.no (JE.mk (go 0 zD (funext hi.zero)))
 exact Br.yes (JE.mk (go 1 zD (funext hi.one)))
theorem dr{n w:Nat}(h:kD n hs w x=0):(Gb w x=false/\NC w x=false)/\(EX n w x=false/\EW n w x=false/\MA n w x=false)/\(v8 hs w x=false/\v7 hs w x=false/\yZ hs w x=false):=by
 unfold kD at h;split at h
 ·cases h
 split at h
 ·cases h
 split at h
 ·cases h
 rename_i h1 h2 h3;simp only[xem,xaF]at h1 h2 h3;exact⟨h1,⟨h2.1.1,h2.1.2,h2.2⟩,⟨h3.1.1,h3.1.2,h3.2⟩⟩
theorem er{m:List (Int×Nat)}{a:Int}{p:Bool}(h:(p&& !(aK m a).isSome)=false)(hp:p=true):∃r,aK m a=some r:=by
 subst hp;cases hm:aK m a with
 |none=>rw[hm]at h;cases h
 |some r=>exact⟨r,rfl⟩
theorem En{n:Nat}{a:Int}{p:Bool}(h:(p&& !decide (0<=a/\a<n))=false)(hp:p=true):∃v:Nat,a=v/\v<n:=by
 subst hp;have:0<=a/\a<n:=by simpa using h
 exact⟨a.toNat,by omega,by omega⟩
theorem kC{n cap:Nat}{L:List aA.Fn}{F:Int->aA.Fn}(h:x.op<9):pZ n cap L F x ord=Zt n cap L (dO n F x) ord:=funext λe=>by
 unfold pZ;rw[xab zO,xab zO,xab zO]
theorem aaK{n cap:Nat}{L:List aA.Fn}{F:Int->aA.Fn}(h:x.op=9):pZ n cap L F x ord=Dr n cap L true x.x (F x.a) ord:=funext λe=>by
 unfold pZ;rw[xae h]
theorem XY{n cap:Nat}{L:List aA.Fn}{F:Int->aA.Fn}(h:x.op=10):pZ n cap L F x ord=Dr n cap L false x.x (F x.a) ord:=funext λe=>by
 unfold pZ;rw[xab zO,xae h]
theorem XX{n cap:Nat}{L:List aA.Fn}{F:Int->aA.Fn}(h:x.op=11):pZ n cap L F x ord=Sp n cap L (λy=>F x.a (an.aB y x.b.toNat false)) (λy=>F x.a (an.aB y x.b.toNat true)) (dO n F x) ord:=funext λe=>by
 unfold pZ;rw[xab zO,xab zO,xae h]
def jo(f:Nat)(op w:Nat):Prop:=∀{sp kp mb nx:Nat} {c:Cf} {K:Kd} {S:Nat->aA.Fn} {ord ah tr:zL} {hs:List (Int×Nat)} {es:Array MapEntry} {ck:Nat} {C:Hp} {x:fM},ij kp nx c K S ord ah tr hs es ck C->x.op=op->x.x<18446744073709551616->kD c.n hs w x=0->
 Fc zQ f #[ptr sp,x.v] (gS sp c kp mb nx es ck C) (λv H=>∃C2,H=gS sp c kp mb nx es ck C2/\nu kp K S ord ah tr (dO c.n (bU S hs) x) (pZ c.n c.cap (fL S hs) (bU S hs) x ord) v C2)
theorem qy:jo 72 1 8:=by
 intro sp kp mb nx c K S ord ah tr hs es ck C x h hop Tg hl;obtain⟨⟨Tr,Tq⟩,⟨QX,OP,OO⟩,Ay,KO,OT⟩:=dr hl;obtain⟨v,hv,ON⟩:=En QX zD;refine aF λg=>Oj ?_;intro b1 _;refine DR.of (R:=[(b1,.cells (Value.cells x.v) 35 (0,0)),jh sp c kp mb nx,(mb,.map es ck)]) (.cons (.cons (.cons λ_ _ h=>h.bt))) (Ld.n (v:=ptr kp) ?_);refine Ld.f (v:=i64 x.a) ?_;rw[hv];intro F;refine aa.fq (NG h.ks (v:=v) (by rw[h.n];exact ON)) ?_;rintro w H hD;have hQ:nu kp K S ord ah tr (dO c.n (bU S hs) x) (pZ c.n c.cap (fL S hs) (bU S hs) x ord) w H:=by
  have hq:=h.done hD;rw[h.n,h.cap]at hq;rw[kC zO];have e:dO c.n (bU S hs) x=λy=>y.testBit x.a.toNat:=by simp only[dO,hop]
  rw[e];simp only[hv,xbe];exact hq
 obtain⟨y,e,rfl⟩:=hQ.two;refine⟨.cons (.cons (.cons λ_ _ h=>h.bt)),?_⟩;exact Ext.two (aN.mk .tail ⟨_,rfl,hQ⟩)
theorem z8:jo 73 2 32:=by
 intro sp kp mb nx c K S ord ah tr hs es ck C x h hop Tg hl;obtain⟨⟨Tr,Tq⟩,⟨QX,OP,OO⟩,Ay,KO,OT⟩:=dr hl;refine aF λg=>Oi ?_;intro b1 _;refine DR.of (R:=[(b1,.cells (Value.cells x.v) 35 (0,0)),jh sp c kp mb nx,(mb,.map es ck)]) (.cons (.cons (.cons λ_ _ h=>h.bt))) (Ld.n (v:=ptr kp) ?_);refine Ld.f (v:=i64 x.a) ?_;refine ae.gU ?_;intro F;refine aa.fq (DV h.ks (decide (x.a=1))) ?_;rintro w H hD;have hQ:nu kp K S ord ah tr (dO c.n (bU S hs) x) (pZ c.n c.cap (fL S hs) (bU S hs) x ord) w H:=by
  have hq:=h.done hD;rw[h.n,h.cap]at hq;rw[kC zO];have e:dO c.n (bU S hs) x=λ_=>decide (x.a=1):=by simp only[dO,hop]
  rw[e];exact hq
 obtain⟨y,e,rfl⟩:=hQ.two;refine⟨.cons (.cons (.cons λ_ _ h=>h.bt)),?_⟩;exact Ext.two (aN.mk .tail ⟨_,rfl,hQ⟩)
theorem T5:jo 74 3 1:=by
 intro sp kp mb nx c K S ord ah tr hs es ck C x h hop Tg hl;obtain⟨⟨Tr,Tq⟩,⟨QX,OP,OO⟩,Ay,KO,OT⟩:=dr hl;obtain⟨ra,ha⟩:=er Ay zD;have la:=h.live _ (h.find ha);refine aF λg=>Oh ?_;intro b1 _;refine DR.of (R:=[(b1,.cells (Value.cells x.v) 35 (0,0)),jh sp c kp mb nx,(mb,.map es ck)]) (.cons (.cons (.cons λ_ _ h=>h.bt))) (Ld.n (v:=ptr kp) ?_);refine Ld.n (v:=.map (some mb)) ?_;refine Ld.f (v:=i64 x.a) ?_;refine h.dG.hit (k:=x.a) (bZ _) (b:=mb) (by exact .tail _ (.tail _ (.head _))) ha λv e=>?_;subst e;intro F;refine aa.fq (NK h.ks la) ?_;rintro w H hD;have hQ:nu kp K S ord ah tr (dO c.n (bU S hs) x) (pZ c.n c.cap (fL S hs) (bU S hs) x ord) w H:=by
  have hq:=h.done hD;rw[h.n,h.cap]at hq;rw[kC zO];have e:dO c.n (bU S hs) x=λy=> !bU S hs x.a y:=by simp only[dO,hop]
  rw[e];simp only[bA ha];exact hq
 obtain⟨y,e,rfl⟩:=hQ.two;refine⟨.cons (.cons (.cons λ_ _ h=>h.bt)),?_⟩;exact Ext.two (aN.mk .tail ⟨_,rfl,hQ⟩)
theorem Km:jo 75 4 3:=by
 intro sp kp mb nx c K S ord ah tr hs es ck C x h hop Tg hl;obtain⟨⟨Tr,Tq⟩,⟨QX,OP,OO⟩,Ay,KO,OT⟩:=dr hl;obtain⟨ra,ha⟩:=er Ay zD;have la:=h.live _ (h.find ha);obtain⟨rb,hb⟩:=er KO zD;have lb:=h.live _ (h.find hb);refine aF λg=>Og ?_;intro b1 _;refine DR.of (R:=[(b1,.cells (Value.cells x.v) 35 (0,0)),jh sp c kp mb nx,(mb,.map es ck)]) (.cons (.cons (.cons λ_ _ h=>h.bt))) (Ld.n (v:=ptr kp) ?_);refine Ld.n (v:=.map (some mb)) ?_;refine Ld.f (v:=i64 x.a) ?_;refine h.dG.hit (k:=x.a) (bZ _) (b:=mb) (by exact .tail _ (.tail _ (.head _))) ha λv e=>?_;subst e;refine Ld.n (v:=.map (some mb)) ?_;refine Ld.f (v:=i64 x.b) ?_;refine h.dG.hit (k:=x.b) (bZ _) (b:=mb) (by exact .tail _ (.tail _ (.head _))) hb λv e=>?_;subst e;intro F;refine aa.fq (NN h.ks la lb) ?_;rintro w H hD;have hQ:nu kp K S ord ah tr (dO c.n (bU S hs) x) (pZ c.n c.cap (fL S hs) (bU S hs) x ord) w H:=by
  have hq:=h.done hD;rw[h.n,h.cap]at hq;rw[kC zO];have e:dO c.n (bU S hs) x=λy=>bU S hs x.a y&&bU S hs x.b y:=by simp only[dO,hop]
  rw[e];simp only[bA ha,bA hb];exact hq
 obtain⟨y,e,rfl⟩:=hQ.two;refine⟨.cons (.cons (.cons λ_ _ h=>h.bt)),?_⟩;exact Ext.two (aN.mk .tail ⟨_,rfl,hQ⟩)
theorem XK:jo 76 5 3:=by
 intro sp kp mb nx c K S ord ah tr hs es ck C x h hop Tg hl;obtain⟨⟨Tr,Tq⟩,⟨QX,OP,OO⟩,Ay,KO,OT⟩:=dr hl;obtain⟨ra,ha⟩:=er Ay zD;have la:=h.live _ (h.find ha);obtain⟨rb,hb⟩:=er KO zD;have lb:=h.live _ (h.find hb);refine aF λg=>Of ?_;intro b1 _;refine DR.of (R:=[(b1,.cells (Value.cells x.v) 35 (0,0)),jh sp c kp mb nx,(mb,.map es ck)]) (.cons (.cons (.cons λ_ _ h=>h.bt))) (Ld.n (v:=ptr kp) ?_);refine Ld.n (v:=.map (some mb)) ?_;refine Ld.f (v:=i64 x.a) ?_;refine h.dG.hit (k:=x.a) (bZ _) (b:=mb) (by exact .tail _ (.tail _ (.head _))) ha λv e=>?_;subst e;refine Ld.n (v:=.map (some mb)) ?_;refine Ld.f (v:=i64 x.b) ?_;refine h.dG.hit (k:=x.b) (bZ _) (b:=mb) (by exact .tail _ (.tail _ (.head _))) hb λv e=>?_;subst e;intro F;refine aa.fq (SL h.ks la lb) ?_;rintro w H hD;have hQ:nu kp K S ord ah tr (dO c.n (bU S hs) x) (pZ c.n c.cap (fL S hs) (bU S hs) x ord) w H:=by
  have hq:=h.done hD;rw[h.n,h.cap]at hq;rw[kC zO];have e:dO c.n (bU S hs) x=λy=>bU S hs x.a y||bU S hs x.b y:=by simp only[dO,hop]
  rw[e];simp only[bA ha,bA hb];exact hq
 obtain⟨y,e,rfl⟩:=hQ.two;refine⟨.cons (.cons (.cons λ_ _ h=>h.bt)),?_⟩;exact Ext.two (aN.mk .tail ⟨_,rfl,hQ⟩)
theorem TU:jo 77 6 3:=by
 intro sp kp mb nx c K S ord ah tr hs es ck C x h hop Tg hl;obtain⟨⟨Tr,Tq⟩,⟨QX,OP,OO⟩,Ay,KO,OT⟩:=dr hl;obtain⟨ra,ha⟩:=er Ay zD;have la:=h.live _ (h.find ha);obtain⟨rb,hb⟩:=er KO zD;have lb:=h.live _ (h.find hb);refine aF λg=>Oe ?_;intro b1 _;refine DR.of (R:=[(b1,.cells (Value.cells x.v) 35 (0,0)),jh sp c kp mb nx,(mb,.map es ck)]) (.cons (.cons (.cons λ_ _ h=>h.bt))) (Ld.n (v:=ptr kp) ?_);refine Ld.n (v:=.map (some mb)) ?_;refine Ld.f (v:=i64 x.a) ?_;refine h.dG.hit (k:=x.a) (bZ _) (b:=mb) (by exact .tail _ (.tail _ (.head _))) ha λv e=>?_;subst e;refine Ld.n (v:=.map (some mb)) ?_;refine Ld.f (v:=i64 x.b) ?_;refine h.dG.hit (k:=x.b) (bZ _) (b:=mb) (by exact .tail _ (.tail _ (.head _))) hb λv e=>?_;subst e;intro F;refine aa.fq (NF h.ks la lb) ?_;rintro w H hD;have hQ:nu kp K S ord ah tr (dO c.n (bU S hs) x) (pZ c.n c.cap (fL S hs) (bU S hs) x ord) w H:=by
  have hq:=h.done hD;rw[h.n,h.cap]at hq;rw[kC zO];have e:dO c.n (bU S hs) x=λy=>bU S hs x.a y^^bU S hs x.b y:=by simp only[dO,hop]
  rw[e];simp only[bA ha,bA hb];exact hq
 obtain⟨y,e,rfl⟩:=hQ.two;refine⟨.cons (.cons (.cons λ_ _ h=>h.bt)),?_⟩;exact Ext.two (aN.mk .tail ⟨_,rfl,hQ⟩)
theorem T7:jo 78 7 7:=by
 intro sp kp mb nx c K S ord ah tr hs es ck C x h hop Tg hl;obtain⟨⟨Tr,Tq⟩,⟨QX,OP,OO⟩,Ay,KO,OT⟩:=dr hl;obtain⟨ra,ha⟩:=er Ay zD;have la:=h.live _ (h.find ha);obtain⟨rb,hb⟩:=er KO zD;have lb:=h.live _ (h.find hb);obtain⟨rc,hc⟩:=er OT zD;have lc:=h.live _ (h.find hc);refine aF λg=>Od ?_;intro b1 _;refine DR.of (R:=[(b1,.cells (Value.cells x.v) 35 (0,0)),jh sp c kp mb nx,(mb,.map es ck)]) (.cons (.cons (.cons λ_ _ h=>h.bt))) (Ld.n (v:=ptr kp) ?_);refine Ld.n (v:=.map (some mb)) ?_;refine Ld.f (v:=i64 x.a) ?_;refine h.dG.hit (k:=x.a) (bZ _) (b:=mb) (by exact .tail _ (.tail _ (.head _))) ha λv e=>?_;subst e;refine Ld.n (v:=.map (some mb)) ?_;refine Ld.f (v:=i64 x.b) ?_;refine h.dG.hit (k:=x.b) (bZ _) (b:=mb) (by exact .tail _ (.tail _ (.head _))) hb λv e=>?_;subst e;refine Ld.n (v:=.map (some mb)) ?_;refine Ld.f (v:=i64 x.c) ?_;refine h.dG.hit (k:=x.c) (bZ _) (b:=mb) (by exact .tail _ (.tail _ (.head _))) hc λv e=>?_;subst e;intro F;refine aa.fq (ze h.ks la lb lc) ?_;rintro w H hD;have hQ:nu kp K S ord ah tr (dO c.n (bU S hs) x) (pZ c.n c.cap (fL S hs) (bU S hs) x ord) w H:=by
  have hq:=h.done hD;rw[h.n,h.cap]at hq;rw[kC zO];have e:dO c.n (bU S hs) x=λy=>if bU S hs x.a y then bU S hs x.b y else bU S hs x.c y:=by simp only[dO,hop]
  rw[e];simp only[bA ha,bA hb,bA hc];exact hq
 obtain⟨y,e,rfl⟩:=hQ.two;refine⟨.cons (.cons (.cons λ_ _ h=>h.bt)),?_⟩;exact Ext.two (aN.mk .tail ⟨_,rfl,hQ⟩)
theorem zX:jo 79 8 81:=by
 intro sp kp mb nx c K S ord ah tr hs es ck C x h hop Tg hl;obtain⟨⟨Tr,Tq⟩,⟨QX,OP,OO⟩,Ay,KO,OT⟩:=dr hl;obtain⟨ra,ha⟩:=er Ay zD;have la:=h.live _ (h.find ha);obtain⟨v,hv,ON⟩:=En OP zD;refine aF λg=>Oc ?_;intro b1 _;refine DR.of (R:=[(b1,.cells (Value.cells x.v) 35 (0,0)),jh sp c kp mb nx,(mb,.map es ck)]) (.cons (.cons (.cons λ_ _ h=>h.bt))) (Ld.n (v:=ptr kp) ?_);refine Ld.n (v:=.map (some mb)) ?_;refine Ld.f (v:=i64 x.a) ?_;refine h.dG.hit (k:=x.a) (bZ _) (b:=mb) (by exact .tail _ (.tail _ (.head _))) ha λv e=>?_;subst e;refine Ld.f (v:=i64 x.b) ?_;refine Ld.f (v:=i64 x.c) ?_;refine ae.gU ?_;rw[hv];intro F;refine aa.fq (uT h.ks la (v:=v) (by rw[h.n];exact ON)) ?_;rintro w H hD;have hQ:nu kp K S ord ah tr (dO c.n (bU S hs) x) (pZ c.n c.cap (fL S hs) (bU S hs) x ord) w H:=by
  have hq:=h.done hD;rw[h.n,h.cap]at hq;rw[kC zO];have e:dO c.n (bU S hs) x=λy=>bU S hs x.a (an.aB y x.b.toNat (decide (x.c=1))):=by simp only[dO,hop]
  rw[e];simp only[bA ha,hv,xbe];exact hq
 obtain⟨y,e,rfl⟩:=hQ.two;refine⟨.cons (.cons (.cons λ_ _ h=>h.bt)),?_⟩;exact Ext.two (aN.mk .tail ⟨_,rfl,hQ⟩)
theorem EG:jo 80 9 129:=by
 intro sp kp mb nx c K S ord ah tr hs es ck C x h hop Tg hl;obtain⟨⟨Tr,Tq⟩,⟨QX,OP,OO⟩,Ay,KO,OT⟩:=dr hl;obtain⟨ra,ha⟩:=er Ay zD;have la:=h.live _ (h.find ha);have hm:x.x<2^K.n:=by
  rw[h.n];have:x.x>>>c.n=0:=by simpa[MA]using OO
  rw[xaZ]at this;exact(Nat.div_eq_zero_iff.1 this).resolve_left (xdp (xbw _))
 refine aF λg=>Ob ?_;intro b1 _;refine DR.of (R:=[(b1,.cells (Value.cells x.v) 35 (0,0)),jh sp c kp mb nx,(mb,.map es ck)]) (.cons (.cons (.cons λ_ _ h=>h.bt))) (Ld.n (v:=ptr kp) ?_);refine Ld.n (v:=.map (some mb)) ?_;refine Ld.f (v:=i64 x.a) ?_;refine h.dG.hit (k:=x.a) (bZ _) (b:=mb) (by exact .tail _ (.tail _ (.head _))) ha λv e=>?_;subst e;refine Ld.f (v:=u64 x.x) ?_;intro F;refine aa.fq (Dp h.ks la hm) ?_;rintro w H hD;have hQ:nu kp K S ord ah tr (dO c.n (bU S hs) x) (pZ c.n c.cap (fL S hs) (bU S hs) x ord) w H:=by
  have hq:=h.each hD;rw[h.n,h.cap]at hq;rw[aaK hop];have e:dO c.n (bU S hs) x=tG true (bitsOf x.x c.n) (bU S hs x.a):=by simp only[dO,hop]
  rw[e,bA ha];exact hq
 obtain⟨y,e,rfl⟩:=hQ.two;refine⟨.cons (.cons (.cons λ_ _ h=>h.bt)),?_⟩;exact Ext.two (aN.mk .tail ⟨_,rfl,hQ⟩)
theorem EF:jo 81 10 129:=by
 intro sp kp mb nx c K S ord ah tr hs es ck C x h hop Tg hl;obtain⟨⟨Tr,Tq⟩,⟨QX,OP,OO⟩,Ay,KO,OT⟩:=dr hl;obtain⟨ra,ha⟩:=er Ay zD;have la:=h.live _ (h.find ha);have hm:x.x<2^K.n:=by
  rw[h.n];have:x.x>>>c.n=0:=by simpa[MA]using OO
  rw[xaZ]at this;exact(Nat.div_eq_zero_iff.1 this).resolve_left (xdp (xbw _))
 refine aF λg=>Oa ?_;intro b1 _;refine DR.of (R:=[(b1,.cells (Value.cells x.v) 35 (0,0)),jh sp c kp mb nx,(mb,.map es ck)]) (.cons (.cons (.cons λ_ _ h=>h.bt))) (Ld.n (v:=ptr kp) ?_);refine Ld.n (v:=.map (some mb)) ?_;refine Ld.f (v:=i64 x.a) ?_;refine h.dG.hit (k:=x.a) (bZ _) (b:=mb) (by exact .tail _ (.tail _ (.head _))) ha λv e=>?_;subst e;refine Ld.f (v:=u64 x.x) ?_;intro F;refine aa.fq (Di h.ks la hm) ?_;rintro w H hD;have hQ:nu kp K S ord ah tr (dO c.n (bU S hs) x) (pZ c.n c.cap (fL S hs) (bU S hs) x ord) w H:=by
  have hq:=h.each hD;rw[h.n,h.cap]at hq;rw[XY hop];have e:dO c.n (bU S hs) x=tG false (bitsOf x.x c.n) (bU S hs x.a):=by simp only[dO,hop]
  rw[e,bA ha];exact hq
 obtain⟨y,e,rfl⟩:=hQ.two;refine⟨.cons (.cons (.cons λ_ _ h=>h.bt)),?_⟩;exact Ext.two (aN.mk .tail ⟨_,rfl,hQ⟩)
theorem BN:jo 82 11 21:=by
 intro sp kp mb nx c K S ord ah tr hs es ck C x h hop Tg hl;obtain⟨⟨Tr,Tq⟩,⟨QX,OP,OO⟩,Ay,KO,OT⟩:=dr hl;obtain⟨ra,ha⟩:=er Ay zD;have la:=h.live _ (h.find ha);obtain⟨rc,hc⟩:=er OT zD;have lc:=h.live _ (h.find hc);obtain⟨v,hv,ON⟩:=En OP zD;refine aF λg=>N9 ?_;intro b1 _;refine DR.of (R:=[(b1,.cells (Value.cells x.v) 35 (0,0)),jh sp c kp mb nx,(mb,.map es ck)]) (.cons (.cons (.cons λ_ _ h=>h.bt))) (Ld.n (v:=ptr kp) ?_);refine Ld.n (v:=.map (some mb)) ?_;refine Ld.f (v:=i64 x.a) ?_;refine h.dG.hit (k:=x.a) (bZ _) (b:=mb) (by exact .tail _ (.tail _ (.head _))) ha λv e=>?_;subst e;refine Ld.f (v:=i64 x.b) ?_;rw[hv];refine Ld.n (v:=.map (some mb)) ?_;refine Ld.f (v:=i64 x.c) ?_;refine h.dG.hit (k:=x.c) (bZ _) (b:=mb) (by exact .tail _ (.tail _ (.head _))) hc λv e=>?_;subst e;intro F;refine aa.fq (Nu h.ks la (v:=v) (by rw[h.n];exact ON) lc) ?_;rintro w H hD;have hQ:nu kp K S ord ah tr (dO c.n (bU S hs) x) (pZ c.n c.cap (fL S hs) (bU S hs) x ord) w H:=by
  have hq:=h.comp hD;rw[h.n,h.cap]at hq;rw[XX hop];have e:dO c.n (bU S hs) x=λy=>if bU S hs x.c y then bU S hs x.a (an.aB y x.b.toNat true)else bU S hs x.a (an.aB y x.b.toNat false):=by simp only[dO,hop]
  rw[e];simp only[bA ha,bA hc,hv,xbe];exact hq
 obtain⟨y,e,rfl⟩:=hQ.two;refine⟨.cons (.cons (.cons λ_ _ h=>h.bt)),?_⟩;exact Ext.two (aN.mk .tail ⟨_,rfl,hQ⟩)
end
section
variable {sp kp mb nx:Nat} {c:Cf} {K:Kd} {S:Nat->aA.Fn} {ord ah tr:zL} {hs:List (Int×Nat)} {es:Array MapEntry} {ck:Nat} {C:Hp} {x:fM}
theorem UJ{w f:Nat}(h:ij kp nx c K S ord ah tr hs es ck C)(hw:w<256)(hx:x.x<18446744073709551616)(hl:kD c.n hs w x≠0):
  Rd zQ 43 #[ptr sp,x.v,.agg (KC (w,f)).toArray] (gS sp c kp mb nx es ck C) (· =eZ (kD c.n hs w x) (-1) 0 0):=by
 refine aF λg=>zq ?_;intro b1 _ b3 _ b5 _;refine ay.q (r:=x.cells) ?_;refine Ld.f (v:=.int .u8 (w:Int)) ?_;refine aa.eq (look_ok h hw hx) (ae.cG (Br.T ?_ hl));refine aa.eq (cB _ _) (St.p (r:=[i64 (kD c.n hs w x),i64 (-1),u64 0,i64 0]) (bI _ _ _ _) ?_);refine ay.q ?_;exact bc.mk (.skip (.skip .tail)) rfl
def mY(op:Nat):Option Nat:=
 if op=23 then some 97 else if op=22 then some 96 else if op=21 then some 95 else if op=20 then some 94 else
 if op=19 then some 93 else if op=18 then some 92 else if op=17 then some 91 else if op=16 then some 90 else
 if op=15 then some 89 else if op=14 then some 88 else if op=13 then some 87 else if op=12 then some 86 else none
theorem NH:Fc zQ 44 #[] [] (λv H=>∃b es ck m,v=.map (some b)/\H=[(b,.map es ck)]/\aE (kI .u8) (λv (p:Nat)=>v=.func (.func p) #[] #[]) es ck m/\∀op:Nat,aK m (op:Int)=mY op):=by
 refine aF λg=>Ov ?_;intro b _;have bg:∀{k:Int} {p:Nat} {es:Array MapEntry} {ck:Nat} {m:List (Int×Nat)} {Q:Hp->Prop},aE (kI .u8) (λv (p:Nat)=>v=.func (.func p) #[] #[]) es ck m->(∀es' bB,aE (kI .u8) (λv (p:Nat)=>v=.func (.func p) #[] #[]) es' bB (dZ m k p)->Q [(b,.map es' bB)])->
   aW (.int .u8) [(b,.map es ck)] (.map (some b)) (kI .u8 k) (.func (.func p) #[] #[]) Q:=λ{k p es ck m Q} he hq=>
  aE.bg (bZ _) (Ap _) he rfl λes' bB he'=>⟨_,.head _,hq es' bB he'⟩
 refine bg (k:=12) aE.empty λ_ _ h=>?_;refine bg (k:=13) h λ_ _ h=>?_;refine bg (k:=14) h λ_ _ h=>?_;refine bg (k:=15) h λ_ _ h=>?_;refine bg (k:=16) h λ_ _ h=>?_;refine bg (k:=17) h λ_ _ h=>?_;refine bg (k:=18) h λ_ _ h=>?_;refine bg (k:=19) h λ_ _ h=>?_;refine bg (k:=20) h λ_ _ h=>?_;refine bg (k:=21) h λ_ _ h=>?_;refine bg (k:=22) h λ_ _ h=>?_;refine bg (k:=23) h λ_ _ h=>?_;refine aN.mk (.refl _) ⟨b,_,_,_,rfl,rfl,h,λop=>?_⟩;simp only[bJ];have:∀j:Nat,((op:Int)=(j:Int))=(op=j):=λj=>propext zO;have e:=this 12;have e2:=this 13;have e3:=this 14;have e4:=this 15;have e5:=this 16;have e6:=this 17;have e7:=this 18;have e8:=this 19;have e9:=this 20;have e10:=this 21;have Zh:=this 22;have e12:=this 23
 simp only[Int.cast_ofNat_Int]at*;simp only[e,e2,e3,e4,e5,e6,e7,e8,e9,e10,Zh,e12];rfl
def ZG(v:zV):Prop:=∃(e h:Int) (n:Nat) (t:Int),v=eZ e h n t
set_option maxHeartbeats 1000000 in
theorem qz{C:Hp}{Q:zV->Hp->Prop}(hQ:∀v H,Q v H->ZG v)
 (h1:∀w f,eU x.op=some (w,f)->Fc zQ 43 #[ptr sp,x.v,.agg (KC (w,f)).toArray] C Q)
 (h2:∀f,eU x.op=none->mY x.op=some f->aT zQ f=true->Fc zQ f #[ptr sp,x.v] C Q)
 (h3:eU x.op=none->mY x.op=none->Q (eZ 12 (-1) 0 0) C):Fc zQ 16 #[ptr sp,x.v] C Q:=by
 refine aF λg=>OD ?_;intro b1 _ b3 _;refine ae.aD (Br.no (DR.of (R:=(b1,.cells x.cells.toArray 35 (0,0))::[]) (.skip (.cons λ_ _ h=>h.bt)) (Ld.f (v:=.int .u8 (x.op:Int)) ?_)));intro F;refine aa.fn hnew MF ?_;rintro w H ⟨bm,j9,jL,m1,rfl,rfl,Ts,tL⟩;refine⟨.skip (.skip (.cons λ_ _ h=>h.bt)),?_⟩;refine⟨[(b1,.cells x.cells.toArray 35 (0,0)),(bm,.map j9 jL)],(aM.perm (List.Perm.swap _ _ _)).trans (.skip ?_),.cons (λ_ _ h=>h.bt),?_⟩
 ·exact(aM.perm (List.Perm.swap _ _ _)).trans (.cons (.cons λ_ _ h=>h.bt))
 refine Ts.look (k:=(x.op:Int)) (bZ _) (by exact .tail _ (.head _)) (λp v hp hv=>?_) (λhp=>?_)
 ·subst hv;obtain⟨w,f⟩:=p;rw[tL]at hp;apply Ext.two;intro wy _;intro F;refine St.p (r:=KC (w,f)) (λu hu=>by simp only[KC,xak,xaS,xby]at hu;rcases hu with rfl|rfl<;>rfl) ?_;refine⟨.skip ((aM.perm (List.Perm.swap _ _ _)).trans (.skip ((aM.perm (List.Perm.swap _ _ _)).trans (.cons (.cons λ_ _ h=>h.bt))))),?_⟩;refine Br.yes (ay.q (r:=x.cells) ?_);refine ay.q (r:=KC (w,f)) ?_;refine aa.fq (h1 w f hp) ?_;intro v H hv;obtain⟨e,h,n,t,rfl⟩:=hQ v H hv;refine St.p (r:=[i64 e,i64 h,u64 n,i64 t]) (bI _ _ _ _) ?_;refine ay.q ?_;exact aN.mk (.skip (.skip (.skip .tail))) hv
 rw[tL]at hp;apply Ext.two;intro wy _;intro F;refine St.p (r:=[.int .u8 0,.nilFunc]) (by simp[Value.oneCell']) ?_;refine⟨.skip ((aM.perm (List.Perm.swap _ _ _)).trans (.skip ((aM.perm (List.Perm.swap _ _ _)).trans (.cons (.cons λ_ _ h=>h.bt))))),?_⟩;refine Br.no (DR.of (R:=(b1,.cells x.cells.toArray 35 (0,0))::[]) (.skip (.skip (.skip (.cons λ_ _ h=>h.bt)))) (Ld.f (v:=.int .u8 (x.op:Int)) ?_));intro F;refine aa.fn hnew NH ?_;rintro w H ⟨ba,gR,iE,m2,rfl,rfl,sn,lR⟩;refine⟨.skip (.skip (.skip (.skip (.cons λ_ _ h=>h.bt)))),?_⟩;refine⟨[(b1,.cells x.cells.toArray 35 (0,0)),(ba,.map gR iE)],?_,.cons (λ_ _ h=>h.bt),?_⟩
 ·refine(aM.perm ((List.Perm.cons _ (List.Perm.cons _ (List.Perm.cons _ (List.Perm.swap _ _ _)))).trans ((List.Perm.cons _ (List.Perm.cons _ (List.Perm.swap _ _ _))).trans ((List.Perm.cons _ (List.Perm.swap _ _ _)).trans (List.Perm.swap _ _ _))))).trans ?_;exact .cons ((aM.perm (List.Perm.swap _ _ _)).trans (.skip ((aM.perm (List.Perm.swap _ _ _)).trans (.skip ((aM.perm (List.Perm.swap _ _ _)).trans (.skip (.cons λ_ _ h=>h.bt)))))))
 refine sn.look (k:=(x.op:Int)) (bZ _) (by exact .tail _ (.head _)) (λf v hf hv=>?_) (λhf=>?_)
 ·subst hv;rw[lR]at hf;have fN:aT zQ f=true:=by
   unfold mY at hf
   repeat' split at hf
   all_goals first|(cases hf;kernel_rfl)|cases hf
  refine Ext.two (Br.yes (ay.q (r:=x.cells) ?_));refine aL.of rfl fN (aa.fq (args:=#[ptr sp,x.v]) (h2 f hp hf fN) ?_);intro v H hv;obtain⟨e,h,n,t,rfl⟩:=hQ v H hv;refine St.p (r:=[i64 e,i64 h,u64 n,i64 t]) (bI _ _ _ _) ?_;refine ay.q ?_;exact aN.mk (.skip (.skip (.skip (.skip .tail)))) hv
 rw[lR]at hf;refine Ext.two (Br.no (aa.eq (cB _ _) (St.p (r:=[i64 12,i64 (-1),u64 0,i64 0]) (bI _ _ _ _) ?_)));refine ay.q ?_;exact aN.mk (.skip (.skip (.skip (.skip .tail)))) (h3 hp hf)
end
section
variable {sp kp mb nx:Nat} {c:Cf} {K:Kd} {S:Nat->aA.Fn} {ord ah tr:zL} {hs:List (Int×Nat)} {es:Array MapEntry} {ck:Nat} {C:Hp} {x:fM}
theorem PM(h:ij kp nx c K S ord ah tr hs es ck C)(hx:x.x<18446744073709551616):
  Rd zQ 88 #[ptr sp,x.v] (gS sp c kp mb nx es ck C) (· =if(aK hs x.a).isSome then eZ 0 (-1) (bU S hs x.a x.x).toNat 0 else eZ 3 (-1) 0 0):=by
 refine aF λg=>N6 ?_;intro b1 _ b3 _;refine Ld.f (v:=i64 x.a) ?_;refine aa.eq (eJ h x.a) (Un.not ?_);cases hm:aK hs x.a with
 |none=>
  refine Br.yes (aa.eq (cB _ _) (St.p (r:=[i64 3,i64 (-1),u64 0,i64 0]) (bI _ _ _ _) ?_));refine ay.q ?_;exact bc.mk (.skip .tail) rfl
 |some r=>
  apply Br.no;have hl:=h.live _ (h.find hm);refine DR.of (.refl _) (Ld.n (v:=ptr kp) ?_);refine Ld.n (v:=.map (some mb)) ?_;refine Ld.f (v:=i64 x.a) ?_;refine h.dG.hit (k:=x.a) (bZ _) (b:=mb) (by exact .tail _ (.tail _ (.tail _ (.head _)))) hm λv e=>?_;subst e;refine Ld.f (v:=u64 x.x) ?_;intro F;refine aa.eq (args:=#[ptr kp,u32 r,u64 x.x]) (Sw h.ks hl hx) (⟨.refl _,?_⟩);refine Ext.two (aa.eq (Kk _ _) (aa.eq (dR _ 0 _) (St.p (r:=[i64 0,i64 (-1),u64 (S r x.x).toNat,i64 0]) (bI _ _ _ _) ?_)));refine ay.q ?_;exact bc.mk (.skip .tail) (by rw[bA hm];rfl)
theorem PC(h:ij kp nx c K S ord ah tr hs es ck C):
  Rd zQ 89 #[ptr sp,x.v] (gS sp c kp mb nx es ck C) (λw=>w=if(aK hs x.a).isSome&& (aK hs x.b).isSome then eZ 0 (-1) (@decide (bU S hs x.a=bU S hs x.b) (Classical.propDecidable _)).toNat 0 else eZ 3 (-1) 0 0):=by
 refine aF λg=>N5 ?_;intro b1 _ b3 _ J5 h5;have no:((aK hs x.a).isSome&& (aK hs x.b).isSome)=false->J5 [.bool true] ((b3,.cells #[i64 0,i64 0,u64 0,i64 0] 37 (0,0))::(b1,.cells (Value.cells x.v) 35 (0,0))::gS sp c kp mb nx es ck C):=λhb=>by
  refine h5 _ _ λ_=>Br.yes ?_;refine aa.eq (cB _ _) (St.p (r:=[i64 3,i64 (-1),u64 0,i64 0]) (bI _ _ _ _) ?_);refine ay.q ?_;exact bc.mk (.skip .tail) (by rw[hb];rfl)
 refine Ld.f (v:=i64 x.a) ?_;refine aa.eq (eJ h x.a) (Un.not ?_);cases hm:aK hs x.a with
 |none=>exact Split.Ut rfl (aI.mk (JE.mk (no (by rw[hm];rfl))))
 |some r=>
 refine Split.go rfl (Ld.f (v:=i64 x.b) ?_);refine aa.eq (eJ h x.b) (Un.not (aI.mk ?_));cases lR:aK hs x.b with
 |none=>exact JE.mk (no (by rw[lR];exact xea _))
 |some q=>
 refine JE.mk (h5 _ _ λ_=>Br.no ?_);have hl:=h.live _ (h.find hm);have qo:=h.live _ (h.find lR);refine DR.of (.refl _) (Ld.n (v:=.map (some mb)) ?_);refine Ld.f (v:=i64 x.a) ?_;refine h.dG.hit (k:=x.a) (bZ _) (b:=mb) (by exact .tail _ (.tail _ (.tail _ (.head _)))) hm λv e=>?_;subst e;refine Ld.n (v:=.map (some mb)) ?_;refine Ld.f (v:=i64 x.b) ?_;refine h.dG.hit (k:=x.b) (bZ _) (b:=mb) (by exact .tail _ (.tail _ (.tail _ (.head _)))) lR λv e=>?_;subst e;refine ae.eO ?_;have e:decide (r=q)= @decide (bU S hs x.a=bU S hs x.b) (Classical.propDecidable _):=by
  by_cases hq:r=q
  ·rw[xam hq];exact(@decide_eq_true _ (Classical.propDecidable _) (by rw[bA hm,bA lR];exact(h.same hl qo).2 hq)).symm
  rw[xal hq];exact(@decide_eq_false _ (Classical.propDecidable _) (by rw[bA hm,bA lR];exact λe=>hq ((h.same hl qo).1 e))).symm
 rw[e];intro F;refine aa.eq (Kk _ _) ?_;intro F;refine aa.eq (dR _ 0 _) ?_;intro F;refine St.p (r:=[i64 0,i64 (-1),u64 _,i64 0]) (bI _ _ _ _) ?_;refine ay.q ?_;exact bc.mk (.skip .tail) (by rw[hm,lR];rfl)
theorem PF(h:ij kp nx c K S ord ah tr hs es ck C):
  Rd zQ 92 #[ptr sp,x.v] (gS sp c kp mb nx es ck C) (· =eZ 0 (-1) (cI K S ord) 0):=by
 have hle:=gu h.ks.aZ;refine aF λg=>NX ?_;intro b1 _ b3 _;refine Ld.n (v:=ptr kp) ?_;refine aa.eq (cH h.ks.aZ) (br.q (aa.eq (dR _ 0 _) (St.p (r:=[i64 0,i64 (-1),u64 (cI K S ord),i64 0]) (bI _ _ _ _) ?_)));refine ay.q ?_;exact bc.mk (.skip .tail) rfl
theorem L6(h:ij kp nx c K S ord ah tr hs es ck C)(hv:x.a<0\/(c.n:Int)<=x.a):
  Rd zQ 95 #[ptr sp,x.v] (gS sp c kp mb nx es ck C) (· =eZ 2 (-1) 0 0):=by
 refine aF λg=>zl ?_;intro b1 _ b3 _;refine DR.of (.refl _) (Ld.n (v:=ptr kp) ?_);refine Ld.f (v:=i64 x.a) ?_;intro F;refine aa.eq (args:=#[ptr kp,i64 x.a]) (DL h.ks.aZ (by rw[h.n];exact hv)) (⟨.refl _,Ext.two ?_⟩);refine br.q (a:=0) (aa.eq (dR 0 2 _) (St.p (r:=[i64 2,i64 (-1),u64 0,i64 0]) (bI _ _ _ _) ?_));refine ay.q ?_;exact bc.mk (.skip .tail) rfl
theorem L7(h:ij kp nx c K S ord ah tr hs es ck C){v:Nat}(hx:x.a=v)(hv:v<c.n):
  Rd zQ 95 #[ptr sp,x.v] (gS sp c kp mb nx es ck C) (λw=>∃p,p<c.n/\ord.getD p 0=v/\w=eZ 0 (-1) p 0):=by
 have hn:=h.ks.aZ.lq;refine aF λg=>zl ?_;intro b1 _ b3 _;refine DR.of (.refl _) (Ld.n (v:=ptr kp) ?_);refine Ld.f (v:=i64 x.a) ?_;rw[hx];intro F;refine aa.rq (args:=#[ptr kp,i64 (v:Int)]) (DM h.ks.aZ (by rw[h.n];exact hv)) ?_;rintro w ⟨p,hp,hop,rfl⟩;refine⟨.refl _,Ext.two ?_⟩;refine br.q (aa.eq (dR p 0 _) (St.p (r:=[i64 0,i64 (-1),u64 p,i64 0]) (bI _ _ _ _) ?_));refine ay.q ?_;exact bc.mk (.skip .tail) ⟨p,by rw[<-h.n];exact hp,hop,rfl⟩
theorem PB(h:ij kp nx c K S ord ah tr hs es ck C){P:Nat->Int->Prop}(RF:∀r,aK hs x.a=some r->Rd zQ 146 #[ptr kp,u32 r] C (λv=>∃n e,P n e/\v=.tuple #[u64 n,i64 e])):
  Rd zQ 90 #[ptr sp,x.v] (gS sp c kp mb nx es ck C) (λv=>((aK hs x.a).isSome=false/\v=eZ 3 (-1) 0 0)\/((aK hs x.a).isSome=true/\∃n e,P n e/\v=if e=0 then eZ 0 (-1) n 0 else eZ e (-1) 0 0)):=by
 refine aF λg=>NZ ?_;intro b1 _ b3 _;refine Ld.f (v:=i64 x.a) ?_;refine aa.eq (eJ h x.a) (Un.not ?_);cases hm:aK hs x.a with
 |none=>
  refine Br.yes (aa.eq (cB _ _) (St.p (r:=[i64 3,i64 (-1),u64 0,i64 0]) (bI _ _ _ _) ?_));refine ay.q ?_;exact bc.mk (.skip .tail) (.inl ⟨rfl,rfl⟩)
 |some r=>
  refine Br.no (DR.of (.refl _) (Ld.n (v:=ptr kp) ?_));refine Ld.n (v:=.map (some mb)) ?_;refine Ld.f (v:=i64 x.a) ?_;refine h.dG.hit (k:=x.a) (bZ _) (b:=mb) (by exact .tail _ (.tail _ (.tail _ (.head _)))) hm λv e=>?_;subst e;intro F;refine aa.rq (args:=#[ptr kp,u32 r]) (RF r hm) ?_;rintro w ⟨n,e,hP,rfl⟩;refine⟨.refl _,?_⟩;apply Ext.two;intro F;refine aa.eq (dR n e _) ?_;intro F;by_cases he:e=0
  ·rw[xae he];refine St.p (r:=[i64 0,i64 (-1),u64 n,i64 0]) (bI _ _ _ _) ?_;refine ay.q ?_;exact bc.mk (.skip .tail) (.inr ⟨rfl,n,e,hP,by rw[xae he]⟩)
  rw[xab he];refine St.p (r:=[i64 e,i64 (-1),u64 0,i64 0]) (bI _ _ _ _) ?_;refine ay.q ?_;exact bc.mk (.skip .tail) (.inr ⟨rfl,n,e,hP,by rw[xab he]⟩)
theorem L8(h:ij kp nx c K S ord ah tr hs es ck C){P:Nat->Int->Prop}(RF:∀r,aK hs x.a=some r->Rd zQ 148 #[ptr kp,u32 r] C (λv=>∃n e,P n e/\v=.tuple #[u64 n,i64 e])):
  Rd zQ 93 #[ptr sp,x.v] (gS sp c kp mb nx es ck C) (λv=>((aK hs x.a).isSome=false/\v=eZ 3 (-1) 0 0)\/((aK hs x.a).isSome=true/\∃n e,P n e/\v=if e=0 then eZ 0 (-1) n 0 else eZ e (-1) 0 0)):=by
 refine aF λg=>NW ?_;intro b1 _ b3 _;refine Ld.f (v:=i64 x.a) ?_;refine aa.eq (eJ h x.a) (Un.not ?_);cases hm:aK hs x.a with
 |none=>
  refine Br.yes (aa.eq (cB _ _) (St.p (r:=[i64 3,i64 (-1),u64 0,i64 0]) (bI _ _ _ _) ?_));refine ay.q ?_;exact bc.mk (.skip .tail) (.inl ⟨rfl,rfl⟩)
 |some r=>
  refine Br.no (DR.of (.refl _) (Ld.n (v:=ptr kp) ?_));refine Ld.n (v:=.map (some mb)) ?_;refine Ld.f (v:=i64 x.a) ?_;refine h.dG.hit (k:=x.a) (bZ _) (b:=mb) (by exact .tail _ (.tail _ (.tail _ (.head _)))) hm λv e=>?_;subst e;intro F;refine aa.rq (args:=#[ptr kp,u32 r]) (RF r hm) ?_;rintro w ⟨n,e,hP,rfl⟩;refine⟨.refl _,?_⟩;apply Ext.two;intro F;refine aa.eq (dR n e _) ?_;intro F;by_cases he:e=0
  ·rw[xae he];refine St.p (r:=[i64 0,i64 (-1),u64 n,i64 0]) (bI _ _ _ _) ?_;refine ay.q ?_;exact bc.mk (.skip .tail) (.inr ⟨rfl,n,e,hP,by rw[xae he]⟩)
  rw[xab he];refine St.p (r:=[i64 e,i64 (-1),u64 0,i64 0]) (bI _ _ _ _) ?_;refine ay.q ?_;exact bc.mk (.skip .tail) (.inr ⟨rfl,n,e,hP,by rw[xab he]⟩)
theorem BC(h:ij kp nx c K S ord ah tr hs es ck C){P:Nat->Int->Prop}(RF:∀r,aK hs x.a=some r->Rd zQ 149 #[ptr kp,u32 r] C (λv=>∃n e,P n e/\v=.tuple #[u64 n,i64 e])):
  Rd zQ 94 #[ptr sp,x.v] (gS sp c kp mb nx es ck C) (λv=>((aK hs x.a).isSome=false/\v=eZ 3 (-1) 0 0)\/((aK hs x.a).isSome=true/\∃n e,P n e/\v=if e=0 then eZ 0 (-1) n 0 else eZ e (-1) 0 0)):=by
 refine aF λg=>NV ?_;intro b1 _ b3 _;refine Ld.f (v:=i64 x.a) ?_;refine aa.eq (eJ h x.a) (Un.not ?_);cases hm:aK hs x.a with
 |none=>
  refine Br.yes (aa.eq (cB _ _) (St.p (r:=[i64 3,i64 (-1),u64 0,i64 0]) (bI _ _ _ _) ?_));refine ay.q ?_;exact bc.mk (.skip .tail) (.inl ⟨rfl,rfl⟩)
 |some r=>
  refine Br.no (DR.of (.refl _) (Ld.n (v:=ptr kp) ?_));refine Ld.n (v:=.map (some mb)) ?_;refine Ld.f (v:=i64 x.a) ?_;refine h.dG.hit (k:=x.a) (bZ _) (b:=mb) (by exact .tail _ (.tail _ (.tail _ (.head _)))) hm λv e=>?_;subst e;intro F;refine aa.rq (args:=#[ptr kp,u32 r]) (RF r hm) ?_;rintro w ⟨n,e,hP,rfl⟩;refine⟨.refl _,?_⟩;apply Ext.two;intro F;refine aa.eq (dR n e _) ?_;intro F;by_cases he:e=0
  ·rw[xae he];refine St.p (r:=[i64 0,i64 (-1),u64 n,i64 0]) (bI _ _ _ _) ?_;refine ay.q ?_;exact bc.mk (.skip .tail) (.inr ⟨rfl,n,e,hP,by rw[xae he]⟩)
  rw[xab he];refine St.p (r:=[i64 e,i64 (-1),u64 0,i64 0]) (bI _ _ _ _) ?_;refine ay.q ?_;exact bc.mk (.skip .tail) (.inr ⟨rfl,n,e,hP,by rw[xab he]⟩)
end
structure Rp where
 e:Int
 h:Int
 n:Nat
 t:Int
def Rp.cells(r:Rp):List zV:=[i64 r.e,i64 r.h,u64 r.n,i64 r.t]
abbrev Rp.v(r:Rp):zV:=.agg r.cells.toArray
def Rp.eq(a b:Rp):Bool:=decide (a.e=b.e) && (decide (a.h=b.h) && (decide (a.n=b.n) &&decide (a.t=b.t)))
theorem Rp.eq_iff{a b:Rp}:Rp.eq a b=true↔a=b:=by
 obtain⟨a1,a2,a3,a4⟩:=a;obtain⟨b1,b2,b3,b4⟩:=b;simp[Rp.eq]
theorem Rp.one(r:Rp):∀u∈r.cells,u.oneCell'=true:=bI _ _ _ _
theorem R7:(Tryz.prog.fieldsOf 37).toList.map (λf=>(f.name,f.type,f.offset))=[("E",27,0),("H",3,1),("N",33,2),("Tries",3,3)]:=by kernel_rfl
theorem T8:Tryz.prog.underlying 3=some (.int .i64):=by kernel_rfl
theorem Ua:Tryz.prog.underlying 27=some (.int .i64):=by kernel_rfl
theorem TX:Tryz.prog.underlying 33=some (.int .u64):=by kernel_rfl
theorem aeg{g:Gh}{H:Hp}{o:Oper}{ρ:Operand->zV}{k:zV->Prop}{neq:Bool}{x y:Operand}{a b:Rp}(ho:o.op=.binOp (cond neq .neq .eql) 37 x y 37)(hx:ρ x=a.v)(hy:ρ y=b.v)
 (hk:k (.bool (cond neq (!Rp.eq a b) (Rp.eq a b)))):jG zQ g o ρ H k:=by
 refine jG.struct (neq:=neq) ho hx hy zK zK zK (b:=Rp.eq a b) ?_ hk;intro w;have h:=R7;generalize (Tryz.prog.fieldsOf 37).toList=fs at h;rcases fs with _|⟨f1,_|⟨f2,_|⟨f3,_|⟨f4,_|⟨f5,fs⟩⟩⟩⟩⟩<;>simp only[xaB,xb6,xau,xdv,xa0,reduceCtorEq,and_false]at h;obtain⟨⟨n1,t1,o1⟩,⟨n2,t2,o2⟩,⟨n3,t3,o3⟩,n4,t4,o4⟩:=h;have p1:∀(r:Rp) w,(part 27 r.cells.toArray 0).run zQ w=.ok (i64 r.e) w:=λr w=>run_part_plain (w:=w) zK rfl;have p2:∀(r:Rp) w,(part 3 r.cells.toArray 1).run zQ w=.ok (i64 r.h) w:=λr w=>run_part_plain (w:=w) zK rfl;have p3:∀(r:Rp) w,(part 33 r.cells.toArray 2).run zQ w=.ok (u64 r.n) w:=λr w=>run_part_plain (w:=w) zK rfl;have p4:∀(r:Rp) w,(part 3 r.cells.toArray 3).run zQ w=.ok (i64 r.t) w:=λr w=>run_part_plain (w:=w) zK rfl;have dq:∀x y:Int,(x==y)=decide (x=y):=λx y=>by rw[xbR];simp
 have q1:∀(x y:Int) w,(Op.equalIn 9999 27 (i64 x) (i64 y)).run zQ w=.ok (decide (x=y)) w:=λx y w=>by
  rw[run_equalIn_int w 9998 27 .i64 _ _ _ Ua,dq]
 have q2:∀(x y:Int) w,(Op.equalIn 9999 3 (i64 x) (i64 y)).run zQ w=.ok (decide (x=y)) w:=λx y w=>by
  rw[run_equalIn_int w 9998 3 .i64 _ _ _ T8,dq]
 have q3:∀(x y:Nat) w,(Op.equalIn 9999 33 (u64 x) (u64 y)).run zQ w=.ok (decide (x=y)) w:=λx y w=>by
  rw[run_equalIn_int w 9998 33 .u64 _ _ _ TX,dq];congr 1;exact xcp.2 Int.ofNat_inj
 show(Op.eqFields 9999 a.cells.toArray b.cells.toArray [f1,f2,f3,f4]).run zQ w=_;simp only[Op.eqFields,n1,n2,n3,n4,t1,t2,t3,t4,o1,o2,o3,o4,Sem.run_bind,p1,p2,p3,p4,q1,q2,q3,Result.andThen_ok,Sem.run_ite,Sem.run_pure];unfold Rp.eq;by_cases h1:a.e=b.e<;>by_cases h2:a.h=b.h<;>by_cases h3:a.n=b.n<;>by_cases h4:a.t=b.t<;>simp[h1,h2,h3,h4]
def qB:List Rp->List Rp->Bool
 | [],[]=>true
 |a::l,b::r=>Rp.eq a b&&qB l r
 |_,_=>false
theorem lj:∀{l r:List Rp},qB l r=true↔l=r
 | [],[]=>by simp[qB]
 | [],_::_=>by simp[qB]
 |_::_,[]=>by simp[qB]
 |a::l,b::r=>by simp[qB,Rp.eq_iff,lj]
theorem Mh{B:Hp}{va vb:zV}{l r:List Rp}(hl:Sl 4 B va (l.map Rp.cells))(hr:Sl 4 B vb (r.map Rp.cells))(cA:l.length<9223372036854775807):Rd zQ 17 #[va,vb] B (· =.bool (qB l r)):=by
 refine aF λg=>OC ?_;refine hl.bP ?_;refine hr.bP ?_;rw[xax,xax];refine ae.tH (Br.dec (λhne=>?_) (λheq=>?_))
 ·refine bc.mk (.refl _) ?_;cases he:qB l r
  ·rfl
  rw[lj.1 he]at hne;exact absurd rfl hne
 have heq:l.length=r.length:=by simpa using heq
 refine⟨λvs H=>∃i:Nat,vs=[i64 (i:Int)]/\i<=l.length/\H=B/\l.take i=r.take i,λvs _=>l.length-bL vs 0,JE.mk ⟨0,rfl,xaO _,rfl,rfl⟩,?_⟩;rintro w H ⟨i,⟨⟩,hi,rfl,he⟩ gs;refine hl.bP ?_;rw[xax];refine ae.fi (Br.dec (λhlt=>?_) (λhge=>?_))
 ·have hlr:i<r.length:=by omega
  refine au.sl hl (i:=i) (r:=l[i].cells) (by rw[xat,xaa hlt];rfl) λp hp=>?_;refine ay.at hp rfl zD (λ_ h=>h) ?_;refine au.sl hr (i:=i) (r:=r[i].cells) (by rw[xat,xaa hlr];rfl) λp hp=>?_;refine ay.at hp rfl zD (λ_ h=>h) ?_;refine aeg (neq:=true) (x:=.tmp 20) (y:=.tmp 24) (a:=l[i]) (b:=r[i]) zK rfl rfl ?_;simp only[xap];refine Br.mk (λhb=>?_) (λhb=>?_)
  ·refine bc.mk (.refl _) ?_;cases Tp:qB l r
   ·rfl
   have h2:=lj.1 Tp;have:Rp.eq l[i] r[i]=true:=Rp.eq_iff.2 (by subst h2;rfl);rw[this]at hb;cases hb
  have h2:l[i]=r[i]:=Rp.eq_iff.1 (by simpa using hb);refine ae.inc (aC.of (.refl _) ⟨i+1,rfl,hlt,rfl,?_⟩ (by simp only[bL];omega));rw[xbp,xbp,he,xaa hlt,xaa hlr,h2]
 refine bc.mk (.refl _) ?_;have h2:l=r:=by rwa [xca zO,xca zO]at he
 rw[lj.2 h2]
theorem Qb(n:Nat)(B:Hp):Rd zQ 18 #[i64 (n:Int)] B (· =.agg (xu.cells ⟨n,1048576,0,100,0⟩).toArray):=by
 refine aF λg=>OB ?_;intro b1 _;refine Build.mk (cs:=xu.cells ⟨n,1048576,0,100,0⟩) zK ?_;refine St.p (xu.one _) ?_;refine ay.q (r:=xu.cells ⟨n,1048576,0,100,0⟩) ?_;exact bc.mk .tail rfl
theorem Cf.Ok.g9{d:Cf}(h:d.Ok):g9 d.i=0:=by
 obtain⟨h1,h2,h3,h4,h5,h6⟩:=h;have a1:gX d.i=false:=by
  show(decide (6<d.str)||decide ((d.gr:Int)<100)||decide (1000<(d.gr:Int))||decide ((d.rs:Int)<0)||decide (16<(d.rs:Int)))=false;simp only[xaF,xbq];omega
 have a2:iP d.i=false:=by
  show decide ((d.n:Int)<1\/64<(d.n:Int)\/(d.cap:Int)<2\/1048576<(d.cap:Int))=false;rw[xbq];omega
 have a3:¬(d.i.str=6/\12<d.i.n):=by
  show¬(d.str=6/\12<(d.n:Int));omega
 unfold Proofs.g9;rw[a1,a2,xab zD,xab zD,xab a3]
theorem Um{c:xu}{steps:List fM}{sv:zV}{Y:Hp}(hs:Sl 5 Y sv (steps.map fM.cells))(cA:steps.length<4398046511104)(I:Nat->Nat->List Rp->Hp->Prop)
 (h0:∀d:Cf,c=d.i->d.Ok->∀(sp kp mb:Nat) (C:Hp),cc kp (K0 d.n d.cap) S0 (List.range d.n) (List.range d.n) [] C->I 0 sp [] (gS sp d kp mb 0 #[] 0 C))
 (hstep:∀(i sp:Nat) (l:List Rp) (H:Hp) (x:fM),g9 c=0->steps[i]? =some x->I i sp l H->l.length=i->Fc zQ 16 #[ptr sp,x.v] H (λv H'=>∃r:Rp,v=r.v/\I (i+1) sp (l++[r]) H')):
  Fc zQ 15 #[.agg c.cells.toArray,sv] Y (λw H=>(g9 c≠0/\w=.tuple #[.slice none 0 0,i64 (g9 c)]/\H=Y)\/
   (g9 c=0/\∃(sp:Nat) (l:List Rp) (s:zV) (CR HS:Hp),w=.tuple #[s,i64 0]/\H=CR++Y/\aV 37 4 s (l.map Rp.cells) CR/\l.length=steps.length/\I steps.length sp l HS)):=by
 refine aF λg=>OE ?_;intro b1 _;refine ay.q (r:=c.cells) ?_;refine aa.fn hnew (BF c (Q:=λv H=>(g9 c≠0/\v=.tuple #[.pointer none,i64 (g9 c)]/\H=[])\/(g9 c=0/\∃sp,v=.tuple #[ptr sp,i64 0]/\I 0 sp [] H)) (λh=>.inl ⟨h,rfl,rfl⟩) (λd hd hok sp kp mb C hK=>.inr ⟨?_,sp,rfl,h0 d hd hok sp kp mb C hK⟩)) ?_
 ·subst hd;exact hok.g9
 rintro w H (⟨hne,rfl,rfl⟩|⟨he,sp,rfl,hI⟩)
 ·refine Ext.two (ae.cG (Br.T ?_ hne));exact aN.mk (.tail) (.inl ⟨hne,rfl,rfl⟩)
 refine Ext.two (ae.cG (Br.F (hs.bP ?_)));rw[xax];refine⟨λvs H'=>∃(i:Nat) (s:zV) (l:List Rp) (CR HS:Hp),vs=[s,i64 (i:Int)]/\i<=steps.length/\l.length=i/\H'=CR++(HS++((b1,.cells (Value.cells (.agg c.cells.toArray)) 23 (0,0))::Y))/\aV 37 4 s (l.map Rp.cells) CR/\I i sp l HS,
  λvs _=>steps.length-bL vs 1,JE.mk ⟨0,_,[],[],H,rfl,xaO _,rfl,rfl,aV.nil _ _,hI⟩,?_⟩
 rintro w1 w2 H' ⟨i,s,l,CR,HS,⟨⟩,hi,hl,rfl,hR,hI⟩ gs;refine ae.fi (Br.dec (λhlt=>?_) (λhge=>?_))
 ·refine au.sl hs (i:=i) (r:=steps[i].cells) (by rw[xat,xaa hlt];rfl) λp hp=>?_;refine ay.at hp rfl zD (λ_ h=>xac _ (xac _ (.tail _ h))) ?_;intro Bl _;refine St.p (r:=steps[i].cells) (fM.one _) ?_;refine ay.q (r:=steps[i].cells) ?_;refine aa.fn (.cons (.app .left)) (hstep i sp l HS steps[i] he (xaa hlt) hI hl) ?_;rintro v HS' ⟨r,rfl,hI'⟩;refine av.one (z:=.agg #[i64 0,i64 0,u64 0,i64 0]) (e:=37) (k:=4) (r:=r.cells) zK zK zK zD rfl λbx=>?_;refine aV.rB (r:=r.cells) hR (.cons (.cons .left)) (by exact .head _) rfl (Rp.one r) ⟨[i64 0,i64 0,u64 0,i64 0],rfl,rfl⟩ (by rw[xax];omega) (by rw[xax];omega) λv' CR' VB=>?_;refine ae.inc (aC.of (.skip .tail) ⟨i+1,v',l++[r],CR',HS',rfl,hlt,by rw[xaf,hl];rfl,rfl,by rw[xaJ];exact VB,hI'⟩ (by simp only[bL];omega))
 obtain rfl:i=steps.length:=by omega
 exact aN.mk (aM.cW (aM.right.trans .tail) CR) (.inr ⟨he,sp,l,w1,CR,HS,rfl,rfl,hR,hl,hI⟩)
abbrev FS:=List (Int×aA.Fn)
def je(S:Nat->aA.Fn)(hs:List (Int×Nat)):FS:=hs.map λp=>(p.1,S p.2)
def fF(F:FS)(a:Int):aA.Fn:=match aK F a with|some f=>f|none=>λ_=>false
def tR(F:FS):List aA.Fn:=F.map Prod.snd
def fU(F:FS)(a:Int):Bool:=(aK F a).isSome
theorem vj{S:Nat->aA.Fn}{a:Int}:∀hs:List (Int×Nat),aK (je S hs) a=(aK hs a).map S
  | []=>rfl
  |p::hs=>by
    have ih:=vj (S:=S) (a:=a) hs;unfold aK je at*;rw[xaB,xbv,xbv];by_cases e:p.1=a
    · simp[e]
    · simp only[e,xdn]
      exact ih
theorem mT{S:Nat->aA.Fn}{hs:List (Int×Nat)}:fF (je S hs)=bU S hs:=funext λa=>by
  unfold fF bU;rw[vj];cases aK hs a<;>rfl
theorem q9{S:Nat->aA.Fn}{hs:List (Int×Nat)}:tR (je S hs)=fL S hs:=by
  unfold tR je fL;rw[xbQ];rfl
theorem eE{S:Nat->aA.Fn}{hs:List (Int×Nat)}(a:Int):fU (je S hs) a=(aK hs a).isSome:=by
  unfold fU;rw[vj];cases aK hs a<;>rfl
theorem mc{S S':Nat->aA.Fn}{hs:List (Int×Nat)}(h:∀p∈hs,S' p.2=S p.2):je S' hs=je S hs:=xbn λp hp=>by rw[h p hp]
theorem NM{S:Nat->aA.Fn}{hs:List (Int×Nat)}:(je S hs).map Prod.fst=hs.map Prod.fst:=by
  unfold je;rw[xbQ];rfl
def iR(n:Nat)(F:FS)(w:Nat)(x:fM):Int:=
  if(Gb w x||NC w x)=true then 1 else if(EX n w x||EW n w x||MA n w x)=true then 2 else
  if((decide (w&&&1≠0) && !fU F x.a)||(decide (w&&&2≠0) && !fU F x.b)||(decide (w&&&4≠0) && !fU F x.c))=true then 3 else 0
theorem yx{S:Nat->aA.Fn}{hs:List (Int×Nat)}{n w:Nat}{x:fM}:iR n (je S hs) w x=kD n hs w x:=by
  unfold iR kD v8 v7 yZ;rw[eE,eE,eE]
noncomputable def Bh(n:Nat)(F:FS)(ord:zL):Nat:=sz n ord (HF (tR F))
def kg(sp:Nat)(c:Cf)(nx:Nat)(F:FS)(ord tr:zL)(H:Hp):Prop:=
  ∃(kp mb:Nat) (K:Kd) (S:Nat->aA.Fn) (ah:zL) (hs:List (Int×Nat)) (es:Array MapEntry) (ck:Nat) (C:Hp),H=gS sp c kp mb nx es ck C/\ij kp nx c K S ord ah tr hs es ck C/\je S hs=F
section
variable {sp nx:Nat} {c:Cf} {F:FS} {ord tr:zL} {H:Hp} {x:fM}
theorem ij.Bh{kp:Nat}{K:Kd}{S:Nat->aA.Fn}{ah:zL}{hs:List (Int×Nat)}{es:Array MapEntry}{ck:Nat}{C:Hp}(h:ij kp nx c K S ord ah tr hs es ck C)(o:zL):cI K S o=Proofs.Bh c.n (je S hs) o:=by
  unfold cI Proofs.Bh;rw[h.held,q9,h.n]
theorem KJ{d:Cf}{kp mb:Nat}{C:Hp}(hK:cc kp (K0 d.n d.cap) S0 (List.range d.n) (List.range d.n) [] C):kg sp d 0 [] (List.range d.n) [] (gS sp d kp mb 0 #[] 0 C):=
  ⟨kp,mb,_,_,_,[],_,_,C,rfl,⟨hK,rfl,rfl,aE.empty,by simp,λr=>by
    show([]:zL).getD r 0=_;simp,by simp⟩,rfl⟩
theorem kg.nodup(h:kg sp c nx F ord tr H):(F.map Prod.fst).Nodup:=by
  obtain⟨kp,mb,K,S,ah,hs,es,ck,C,rfl,h,rfl⟩:=h;rw[NM];exact h.dG.nd
theorem kg.perm(h:kg sp c nx F ord tr H):ord.Perm (List.range c.n):=by
  obtain⟨kp,mb,K,S,ah,hs,es,ck,C,rfl,h,rfl⟩:=h;rw[<-h.n];exact h.ks.perm
def Xv(sp:Nat)(c:Cf)(nx:Nat)(F:FS)(ord tr:zL)(x:fM)(R:zL->zL->Prop)(v:zV)(H:Hp):Prop:=
  ∃(t:Nat) (o de:zL),t<=c.rs+1/\tv (pZ c.n c.cap (tR F) (fF F) x) R ord t o/\
    ((v=eZ 0 nx 0 t/\kg sp c (nx+1) (F++[((nx:Int),dO c.n (fF F) x)]) o [] H/\pZ c.n c.cap (tR F) (fF F) x o 0)\/
     (∃e:Nat,(e=8\/e=9)/\v=eZ e (-1) 0 t/\kg sp c nx F o de H/\pZ c.n c.cap (tR F) (fF F) x o e/\(e=9->t=c.rs+1)/\de.length+66*Bh c.n F o<=tr.length+66*Bh c.n F ord))
theorem V6{w f:Nat}(hm:eU x.op=some (w,f)):jo f x.op w/\aT zQ f=true/\w<256:=by
  have nine:x.op=1\/x.op=2\/x.op=3\/x.op=4\/x.op=5\/x.op=6\/x.op=7\/x.op=8\/x.op=9\/x.op=10\/x.op=11:=by
    unfold eU at hm
    repeat' split at hm
    all_goals first|omega|cases hm
  rcases nine with e|e|e|e|e|e|e|e|e|e|e<;>rw[e]at hm⊢ <;>cases hm
  · exact⟨qy,by kernel_rfl,by decide⟩
  · exact⟨z8,by kernel_rfl,by decide⟩
  · exact⟨T5,by kernel_rfl,by decide⟩
  · exact⟨Km,by kernel_rfl,by decide⟩
  · exact⟨XK,by kernel_rfl,by decide⟩
  · exact⟨TU,by kernel_rfl,by decide⟩
  · exact⟨T7,by kernel_rfl,by decide⟩
  · exact⟨zX,by kernel_rfl,by decide⟩
  · exact⟨EG,by kernel_rfl,by decide⟩
  · exact⟨EF,by kernel_rfl,by decide⟩
  · exact⟨BN,by kernel_rfl,by decide⟩
theorem ry(hx:x.op=1):jo 72 x.op 8/\aT zQ 72=true:=by
  rw[hx];exact⟨qy,by kernel_rfl⟩
theorem DD(hx:x.op=4):jo 75 x.op 3/\aT zQ 75=true:=by
  rw[hx];exact⟨Km,by kernel_rfl⟩
def SZ(c:Cf)(nx:Nat)(F:FS)(T:zL->Nat->Prop)(R:zL->zL->Prop)(b:Nat):Prop:=
  ∀{kp:Nat} {K:Kd} {S:Nat->aA.Fn} {o ah tr:zL} {hs:List (Int×Nat)} {es:Array MapEntry} {ck:Nat} {C:Hp},T o 9->ij kp nx c K S o ah tr hs es ck C->je S hs=F->tr.length<=b->
    Fc zQ 85 #[ptr kp,.int .u8 (c.str:Int),i64 c.gr] C (λv H=>∃ls a b,v=.tuple #[a,b]/\R o ls/\At kp K S (az o ls) (tr++ls) H/\ls.length+66*cI K S (az o ls)<=66*cI K S o)
theorem KE{w f:Nat}{R:zL->zL->Prop}(h:kg sp c nx F ord tr H)(hc:c.Ok)(CJ:nx+1<9223372036854775808)(hx:x.x<18446744073709551616)(hf:jo f x.op w)(fN:aT zQ f=true)(hw:w<256)(hl:iR c.n F w x=0)
   (hrun:SZ c nx F (pZ c.n c.cap (tR F) (fF F) x) R (tr.length+66*Bh c.n F ord)):
    Fc zQ 43 #[ptr sp,x.v,.agg (KC (w,f)).toArray] H (Xv sp c nx F ord tr x R):=by
  obtain⟨kp,mb,K,S,ah,hs,es,ck,C,rfl,h,rfl⟩:=h;rw[yx]at hl;rw[mT,q9,<-h.Bh]at hrun;refine(UI fN h hc CJ hw hx hl (fn:=dO c.n (bU S hs) x) (T:=pZ c.n c.cap (fL S hs) (bU S hs) x) (R:=R) (λ{K' S' o bW de C'} h' hS=>?_) (λ{K' S' o bW de C'} hT h' hS hb=>?_)).mono ?_
  · have:=hf (sp:=sp) (mb:=mb) h' rfl hx hl
    rwa [VV hS,Nc h.dG.nd hS]at this
  · exact hrun hT h' (mc hS) hb
  · rintro v H ⟨t,o,bW,de,K',S',es',bB,C',ht,hT,hS,hq⟩
    unfold Xv;have ez:Bh c.n (je S hs)=cI K S:=funext λo=>(h.Bh o).symm;rw[mT,q9,ez];refine⟨t,o,de,ht,hT,?_⟩;rcases hq with⟨r,rfl,rfl,h',hr,h0,rfl⟩|⟨e,he,rfl,rfl,h',RO,h9,hb⟩
    · refine .inl ⟨rfl,⟨kp,mb,K',S',bW,_,es',bB,C',rfl,h',?_⟩,h0⟩
      rw[<-mc hS];unfold je;rw[xaJ,<-hr];rfl
    · exact .inr ⟨e,he,rfl,⟨kp,mb,K',S',bW,_,es',bB,C',rfl,h',mc hS⟩,RO,h9,hb⟩
theorem vq{w f:Nat}(h:kg sp c nx F ord tr H)(hx:x.x<18446744073709551616)(hw:w<256)(hl:iR c.n F w x≠0):
    Rd zQ 43 #[ptr sp,x.v,.agg (KC (w,f)).toArray] H (· =eZ (iR c.n F w x) (-1) 0 0):=by
  obtain⟨kp,mb,K,S,ah,hs,es,ck,C,rfl,h,rfl⟩:=h;rw[yx]at hl⊢;exact UJ h hw hx hl
theorem La(h:kg sp c nx F ord tr H)(hx:x.x<18446744073709551616):Rd zQ 88 #[ptr sp,x.v] H (· =if fU F x.a then eZ 0 (-1) (fF F x.a x.x).toNat 0 else eZ 3 (-1) 0 0):=by
  obtain⟨kp,mb,K,S,ah,hs,es,ck,C,rfl,h,rfl⟩:=h;rw[eE,mT];exact PM h hx
theorem Kl(h:kg sp c nx F ord tr H):Rd zQ 90 #[ptr sp,x.v] H (· =if fU F x.a then eZ 0 (-1) (sat c.n (fF F x.a)%AY) 0 else eZ 3 (-1) 0 0):=by
  obtain⟨kp,mb,K,S,ah,hs,es,ck,C,rfl,h,rfl⟩:=h;rw[eE,mT];refine(PB h (x:=x) (P:=λn e=>e=0/\n=sat c.n (bU S hs x.a)%AY) λr hr=>?_).mono λv H ⟨e,hv⟩=>⟨e,?_⟩
  · rw[bA hr,<-h.n]
    exact(Sn h.ks (h.live _ (h.find hr))).mono λv H ⟨e,hv⟩=>⟨e,_,_,⟨rfl,rfl⟩,hv⟩
  · rcases hv with⟨h1,h2⟩|⟨h1,n,e,⟨rfl,rfl⟩,h2⟩
    · rw[h1];exact h2
    · rw[h1];exact h2
end
end
end Go.Proofs
namespace aA
open an
variable {n:Nat} {ah:Nat->Nat} {N:eB} {S:Nat->Fn} {ord:zL} {R:Nat->Prop} {V:zL}
inductive Rc(N:eB)(R:Nat->Prop):Nat->Prop
 |base {r:Nat}:R r->Rc N R r
 |lo {p:Nat} {d:Nd}:Rc N R p->N p=some d->Rc N R d.lo
 |hi {p:Nat} {d:Nd}:Rc N R p->N p=some d->Rc N R d.hi
def NO(N:eB)(V:zL):Prop:=∀u∈V,∃d,N u=some d/\(d.lo<2\/d.lo∈V)/\(d.hi<2\/d.hi∈V)
theorem JS(h0:∀r,r<2->N r=none)(hV:NO N V)(hR:∀r,R r->r<2\/r∈V):∀l r,A N ah n R l r->r<2\/r∈V
 |0,r,ha=>hR r ha
 |l+1,r,ha=>by
  rcases ha with⟨h1,_⟩|⟨p,d,h1,h2,_,h4⟩
  ·exact JS h0 hV hR l r h1
  rcases JS h0 hV hR l p h1 with hp|hp
  ·rw[h0 p hp]at h2;cases h2
  obtain⟨d',hd,a,b⟩:=hV p hp;rw[h2]at hd;cases hd;rcases h4 with rfl|rfl
  ·exact a
  exact b
theorem Rc.at(h:WF n ah N)(hR:∀r,R r->live N r){u:Nat}(hu:Rc N R u):∀d,N u=some d->A N ah n R (ah d.v) u:=by
 induction hu with
 |base hr=>
  intro d hd;have:=sM (N:=N) (ah:=ah) (n:=n) (ah d.v) 0 hr (by rw[aq hd];omega);rwa [xa3]at this
 | @lo p e hp he ih=>
  intro d hd;have hlt:=(h.lo he).2;rw[aq hd]at hlt;have hb:A N ah n R (ah e.v+1) e.lo:=.inr ⟨p,e,ih e he,he,rfl,.inl rfl⟩;have:=sM (ah d.v-(ah e.v+1)) _ hb (by rw[aq hd];omega);rwa [show ah e.v+1+(ah d.v-(ah e.v+1))=ah d.v by omega]at this
 | @hi p e hp he ih=>
  intro d hd;have hlt:=(h.hi he).2;rw[aq hd]at hlt;have hb:A N ah n R (ah e.v+1) e.hi:=.inr ⟨p,e,ih e he,he,rfl,.inr rfl⟩;have:=sM (ah d.v-(ah e.v+1)) _ hb (by rw[aq hd];omega);rwa [show ah e.v+1+(ah d.v-(ah e.v+1))=ah d.v by omega]at this
theorem LN(h:WF n ah N)(hl:jY n ah)(ho:Ord n ah ord)(hi:Interp N S)(hR:∀r,R r->live N r)(hV:NO N V)(hRV:∀r,R r->r<2\/r∈V)(hVR:∀u∈V,Rc N R u)(g:Fn):aG n ord (Fs S R) g↔∃u∈V,g=S u:=by
 constructor
 ·rintro⟨l,Bb,hf,x,hx⟩;obtain⟨v1,v2⟩:=ho.aZ l Bb;obtain⟨r,ha,rfl⟩:=(M9 h hl ho hi hR l zO g).1 hf;rcases JS (λr hr=>h.const hr) hV hRV l r ha with hc|hm
  ·exfalso;have:r=0\/r=1:=by omega
   rcases this with rfl|rfl
   ·exact hx (by rw[hi.zero,hi.zero])
   exact hx (by rw[hi.one,hi.one])
  exact⟨r,hm,rfl⟩
 rintro⟨u,hu,rfl⟩;obtain⟨d,hd,_⟩:=hV u hu;have hv:=h.var hd;refine⟨ah d.v,hl.lt _ hv,(M9 h hl ho hi hR _ (xb7 (hl.lt _ hv)) _).2 ⟨u,(hVR u hu).at h hR d hd,rfl⟩,?_⟩;rw[ho.of hl hv];exact gm h hl hi hd
theorem TG(h:WF n ah N)(hl:jY n ah)(ho:Ord n ah ord)(hi:Interp N S)(hR:∀r,R r->live N r)(hV:NO N V)(hRV:∀r,R r->r<2\/r∈V)(hVR:∀u∈V,Rc N R u)(nd:V.Nodup):o7 (aG n ord (Fs S R)) V.length:=by
 have live':∀u∈V,live N u:=λu hu=>let ⟨d,hd,_⟩:=hV u hu;.inr ⟨d,hd⟩
 refine⟨V.map S,?_,by simp,λg=>?_⟩
 ·refine xcc.2 (nd.imp_of_mem λ{a b} ha hb hne e=>hne ?_);exact h.same hl hi (live' a ha) (live' b hb) λx=>congrFun e x
 rw[LN h hl ho hi hR hV hRV hVR,xao];exact⟨λ⟨u,hu,e⟩=>⟨u,hu,e.symm⟩,λ⟨u,hu,e⟩=>⟨u,hu,e.symm⟩⟩
theorem LO(h:WF n ah N)(hl:jY n ah)(hi:Interp N S)(hV:NO N V){v:Nat}(hno:∀u∈V,∀d,N u=some d->d.v≠v):∀(k u:Nat),n-dep n ah N u<=k->u<2\/u∈V->∀x,S u (aB x v false)=S u (aB x v true):=by
 intro k;have const:∀u,u<2->∀x,S u (aB x v false)=S u (aB x v true):=λu hu x=>by
  have:u=0\/u=1:=by omega
  rcases this with rfl|rfl
  ·rw[hi.zero,hi.zero]
  rw[hi.one,hi.one]
 induction k with
 |zero=>
  intro u hk hu x;rcases hu with hu|hu
  ·exact const u hu x
  obtain⟨d,hd,_⟩:=hV u hu;rw[aq hd]at hk;have:=hl.lt _ (h.var hd);omega
 |succ k ih=>
  intro u hk hu x;rcases hu with hu|hu
  ·exact const u hu x
  obtain⟨d,hd,a,b⟩:=hV u hu;have h1:=(h.lo hd).2;have h2:=(h.hi hd).2;have h3:=hl.lt _ (h.var hd);rw[aq hd]at hk;have hne:=hno u hu d hd;rw[hi.node hd,hi.node hd,aj,aj,xab hne,xab hne,ih d.lo zO a,ih d.hi zO b]
theorem Rc.cF(h:WF n ah N)(hl:jY n ah)(hi:Interp N S){r u v:Nat}(hu:Rc N (λq=>q=r) u):cF (S u) v->cF (S r) v:=by
 have step:∀(p q:Nat) (d:Nd) (b:Bool),N p=some d->q=(if b then d.hi else d.lo)->aA.cF (S q) v->aA.cF (S p) v:=λp q d b hp hq hv=>by
  have Ve:live N q/\ah d.v+1<=dep n ah N q:=by
   cases b
   ·rw[hq];exact h.lo hp
   rw[hq];exact h.hi hp
  have ind:∀x c,S q (aB x d.v c)=S q x:=λx c=>h.bN hl hi Ve.1 (h.var hp) zO x c;obtain⟨x,hx⟩:=hv;have hne:v≠d.v:=λe=>by
   subst e;exact hx (by rw[ind,ind])
  refine⟨aB x d.v b,?_⟩;have e:∀c,S p (aB (aB x d.v b) v c)=S q (aB x v c):=λc=>by
   have tb:(aB (aB x d.v b) v c).testBit d.v=b:=by rw[aj,xab (λe=>hne e.symm),aj,xae rfl]
   rw[hi.node hp,tb,dj (λe=>hne e.symm),<-ind (aB x v c) b,hq];cases b<;>rfl
  rw[e,e];exact hx
 induction hu with
 |base hr=>rw[hr];exact id
 |lo _ he ih=>exact λhv=>ih (step _ _ _ false he rfl hv)
 |hi _ he ih=>exact λhv=>ih (step _ _ _ true he rfl hv)
theorem LP(h:WF n ah N)(hl:jY n ah)(hi:Interp N S){r:Nat}(hV:NO N V)(hr:r<2\/r∈V)(hVR:∀u∈V,Rc N (λq=>q=r) u)(v:Nat):cF (S r) v↔∃u∈V,∃d,N u=some d/\d.v=v:=by
 constructor
 ·rintro⟨x,hx⟩;refine xaK λhno=>hx (LO h hl hi hV (λu hu d hd e=>hno ⟨u,hu,d,hd,e⟩) _ r (xaj _) hr x)
 rintro⟨u,hu,d,hd,rfl⟩;exact(hVR u hu).cF h hl hi (gm h hl hi hd)
end aA
set_option maxRecDepth 100000
namespace Go.Proofs
open Go Go.Sx
section
open aA
section
variable {kp mb b7 b1 b3 AT Tv:Nat} {cap:Array zV} {K:Kd} {S:Nat->aA.Fn} {ord ah tr:zL} {C Z:Hp} {P:zL->Hp->Prop}
def yc(V:zL):List (Nat×Unit):=V.map λr=>(r,())
theorem uL{V:zL}{r:Nat}:aK (yc V) r=if r∈V then some ()else none:=by
 unfold yc;induction V with
 |nil=>rfl
 |cons a V ih=>
  unfold aK at*;rw[xaB,xbv];by_cases e:a=r
  ·subst e;simp
  simp only[e,xdn];rw[ih];have:(r∈a::V)↔r∈V:=by simp[xa8 e]
  by_cases hv:r∈V
  ·rw[xae hv,xae (this.2 hv)]
  rw[xab hv,xab λh=>hv (this.1 h)]
theorem PO{V:zL}{r:Nat}(h:r∉V):dZ (yc V) r ()=yc (V++[r]):=by
 unfold dZ yc;rw[xab (by rw[xbQ];simpa using h),xaJ];rfl
abbrev DX(es:Array MapEntry)(ck:Nat)(V:zL):Prop:=aE kr (λv (_:Unit)=>v=i64 1) es ck (yc V)
structure Walk(K:Kd)(V V':zL)(r:Nat):Prop where
 nd:V'.Nodup
 sub:∀u∈V,u∈V'
 has:r<2\/r∈V'
 shut:∀u∈V',u∉V->∃d,K.N u=some d/\(d.lo<2\/d.lo∈V')/\(d.hi<2\/d.hi∈V')
 rc:∀u∈V',u∉V->Rc K.N (λq=>q=r) u
def Wt(Tv:Nat)(cap:Array zV)(K:Kd)(P:zL->Hp->Prop):Prop:=aT zQ Tv=true/\∀(V:zL) (r:Nat) (d:Nd) (G:Hp),K.N r=some d->P V G->Fc zQ Tv (#[.agg (bu d).toArray]++cap) G (λv G'=>v=.tuple #[]/\P (V++[r]) G')
theorem ye{N:eB}{r q u:Nat}(h1:Rc N (λx=>x=r) q)(h2:Rc N (λx=>x=q) u):Rc N (λx=>x=r) u:=by
 induction h2 with
 |base e=>rw[e];exact h1
 |lo _ hd ih=>exact .lo ih hd
 |hi _ hd ih=>exact .hi ih hd
theorem TE(h:cc kp K S ord ah tr C)(hd:Wt Tv cap K P)(h7:(b7,Obj.cells #[.map (some mb)] 351 (0,0))∈Z)(h1:(b1,Obj.cells #[ptr kp] 85 (0,0))∈Z)(h3:(b3,Obj.cells #[.func (.func Tv) #[] cap] 267 (0,0))∈Z)
 (h10:(AT,Obj.cells #[.func (.func 291) #[] #[ptr b7,ptr b1,ptr b3,ptr AT]] 261 (0,0))∈Z):
  ∀(k r:Nat) (es:Array MapEntry) (ck:Nat) (V:zL) (G:Hp),K.n-dep K.n (lv ah) K.N r<=k->live K.N r->V.Nodup->DX es ck V->P V G->
  Fc zQ 291 #[u32 r,ptr b7,ptr b1,ptr b3,ptr AT] ((mb,.map es ck)::(G++(Z++C))) (λv H=>v=.tuple #[]/\∃es' bB V' G',H=(mb,.map es' bB)::(G'++(Z++C))/\DX es' bB V'/\P V' G'/\Walk K V V' r):=by
 have stop:∀{r:Nat} {es:Array MapEntry} {ck:Nat} {V:zL} {G:Hp},V.Nodup->DX es ck V->P V G->(r<2\/r∈V)->
   Fc zQ 291 #[u32 r,ptr b7,ptr b1,ptr b3,ptr AT] ((mb,.map es ck)::(G++(Z++C))) (λv H=>v=.tuple #[]/\∃es' bB V' G',H=(mb,.map es' bB)::(G'++(Z++C))/\DX es' bB V'/\P V' G'/\Walk K V V' r):=by
  intro r es ck V G eY hE hP hr;refine aF λg=>wT ?_;refine aa.eq (oS r _) (cf.or (a:=decide (r<2)) (decide (r∈V)) (λ_=>?_) rfl λ_=>?_)
  ·refine Ld.mk (v:=.map (some mb)) (.tail _ (xac _ (xad _ h7))) rfl ?_;by_cases hm:r∈V
   ·refine hE.hit (k:=r) cY (b:=mb) (by exact .head _) (by rw[uL,xae hm]) λv e=>?_;subst e;exact ae.gtr ⟨rfl,by rw[xam hm];rfl⟩
   refine hE.bM (k:=r) cY (b:=mb) (by exact .head _) (by rw[uL,xab hm]) ?_;exact ae.gtr ⟨rfl,by rw[xal hm];rfl⟩
  rw[<-xa7,xam hr];refine Br.yes (aN.mk (.refl _) ⟨rfl,es,ck,V,G,rfl,hE,hP,⟨eY,λ_ h=>h,hr,λu h h'=>absurd h h',λu h h'=>absurd h h'⟩⟩)
 intro k;induction k with
 |zero=>
  intro r es ck V G hk hr eY hE hP;refine stop eY hE hP (.inl ?_);cases hN:K.N r with
  |some d=>
   rw[aq hN]at hk;have:=h.ok.lv.lt _ (h.ok.mid.var hN);omega
  |none=>
   rcases hr with hr|⟨d,e⟩
   ·exact hr
   rw[hN]at e;cases e
 |succ k ih=>
  intro r es ck V G hk hr eY hE hP;by_cases hs:r<2\/r∈V
  ·exact stop eY hE hP hs
  have p7:¬r<2:=λh=>hs (.inl h);have Yp:r∉V:=λh=>hs (.inr h);obtain⟨d,hN⟩:∃d,K.N r=some d:=by
   rcases hr with hr|hr
   ·omega
   exact hr
  have hlo:=h.ok.wf.lo hN;have hhi:=h.ok.wf.hi hN;rw[aq hN]at hk;have hvl:=h.ok.lv.lt _ (h.ok.mid.var hN);refine aF λg=>wT ?_;refine aa.eq (oS r _) (cf.or (a:=decide (r<2)) false (λ_=>?_) rfl λ_=>?_)
  ·refine Ld.mk (v:=.map (some mb)) (.tail _ (xac _ (xad _ h7))) rfl ?_;refine hE.bM (k:=r) cY (b:=mb) (by exact .head _) (by rw[uL,xab Yp]) ?_;exact ae.gtr ⟨rfl,rfl⟩
  rw[xal p7];refine Br.no (Ld.mk (v:=.map (some mb)) (.tail _ (xac _ (xad _ h7))) rfl ?_);refine hE.bg (k:=r) (b:=mb) (x:=()) cY gN rfl λj9 jL FA=>⟨_,.head _,?_⟩;rw[PO Yp]at FA;refine Ld.mk (v:=ptr kp) (.tail _ (xac _ (xad _ h1))) rfl ?_;refine aa.eq (args:=#[ptr kp,u32 r]) (wg h hN) ?_;intro jd _;refine St.p (fC d) ?_;refine Ld.mk (v:=.func (.func Tv) #[] cap) (.tail _ (.tail _ (xac _ (xad _ h3)))) rfl ?_;refine ay.q ?_;refine aL.of rfl hd.1 (aa.fn (.cons (.cons .left)) (by simpa using hd.2 V r d G hN hP) ?_);rintro v G1 ⟨rfl,hP1⟩;refine Ld.mk (v:=.func (.func 291) #[] #[ptr b7,ptr b1,ptr b3,ptr AT]) (.tail _ (.tail _ (xac _ (xad _ h10)))) rfl ?_;refine Ld.f (v:=u32 d.lo) ?_;refine aL.of rfl zK ?_;have ae1:(V++[r]).Nodup:=xa4.2 ⟨eY,by simp,λa ha b hb e=>Yp (by rw[xaE.1 hb]at e;rwa [<-e])⟩;refine aa.fq (args:=#[u32 d.lo,ptr b7,ptr b1,ptr b3,ptr AT]) (ih d.lo j9 jL (V++[r]) G1 zO hlo.1 ae1 FA hP1) ?_;rintro v H ⟨rfl,gR,iE,V2,G2,rfl,sn,hP2,w2⟩;refine Ld.mk (v:=.func (.func 291) #[] #[ptr b7,ptr b1,ptr b3,ptr AT]) (.tail _ (.tail _ (xac _ (xad _ h10)))) rfl ?_;refine Ld.f (v:=u32 d.hi) ?_;refine aL.of rfl zK (aa.fq (args:=#[u32 d.hi,ptr b7,ptr b1,ptr b3,ptr AT]) (ih d.hi gR iE V2 G2 zO hhi.1 w2.nd sn hP2) ?_);rintro v H ⟨rfl,oP,qq,V3,G3,rfl,OY,hP3,w3⟩;have r2:r∈V2:=w2.sub r zI;refine aN.mk .tail ⟨rfl,oP,qq,V3,G3,rfl,OY,hP3,⟨w3.nd,λu hu=>w3.sub u (w2.sub u (xad _ hu)),.inr (w3.sub r r2),λu hu hn=>?_,λu hu hn=>?_⟩⟩
  ·by_cases U7:u∈V2
   ·by_cases Fq:u∈V++[r]
    ·rcases xan.1 Fq with h'|h'
     ·exact absurd h' hn
     rw[xaE.1 h'];exact⟨d,hN,w2.has.imp id (w3.sub _),w3.has⟩
    obtain⟨e,he,a,b⟩:=w2.shut u U7 Fq;exact⟨e,he,a.imp id (w3.sub _),b.imp id (w3.sub _)⟩
   exact w3.shut u hu U7
  by_cases U7:u∈V2
  ·by_cases Fq:u∈V++[r]
   ·rcases xan.1 Fq with h'|h'
    ·exact absurd h' hn
    exact .base (xaE.1 h')
   exact ye (Rc.lo (.base rfl) hN) (w2.rc u U7 Fq)
  exact ye (Rc.hi (.base rfl) hN) (w3.rc u hu U7)
theorem DG(h:cc kp K S ord ah tr C)(hd:Wt Tv cap K P){r b:Nat}{X G:Hp}(hr:live K.N r)(hP:P [] G)(hm:(b,Obj.cells (ax .u32 [(r:Int)]) 110 (0,0))∈X):
  Fc zQ 206 #[ptr kp,.slice (some ⟨b,0,none⟩) 1 1,.func (.func Tv) #[] cap] (G++(X++C)) (λv H=>v=.tuple #[]/\∃V G',H=G'++(X++C)/\P V G'/\V.Nodup/\NO K.N V/\(r<2\/r∈V)/\∀u∈V,Rc K.N (λq=>q=r) u):=by
 refine aF λg=>IL ?_;intro b1 _ b3 _ mb _ b7 _;refine St.one (c':=#[.map (some mb)]) (by exact .head _) rfl zI rfl ?_;intro AT _;refine St.one (c':=#[.func (.func 291) #[] #[ptr b7,ptr b1,ptr b3,ptr AT]]) (by exact .head _) rfl zI rfl ?_;refine aO.mk ?_;obtain⟨Z,hZ⟩:∃Z:Hp,Z=(AT,Obj.cells #[.func (.func 291) #[] #[ptr b7,ptr b1,ptr b3,ptr AT]] 261 (0,0))::(b7,.cells #[.map (some mb)] 351 (0,0))::(b3,.cells #[.func (.func Tv) #[] cap] 267 (0,0))::(b1,.cells #[ptr kp] 85 (0,0))::X:=⟨_,rfl⟩;have OR:∀(e:Obj),List.Perm ((AT,Obj.cells #[.func (.func 291) #[] #[ptr b7,ptr b1,ptr b3,ptr AT]] 261 (0,0))::(b7,.cells #[.map (some mb)] 351 (0,0))::(mb,e)::(b3,.cells #[.func (.func Tv) #[] cap] 267 (0,0))::(b1,.cells #[ptr kp] 85 (0,0))::(G++(X++C))) ((mb,e)::(G++(Z++C))):=λe=>by
  rw[hZ];refine((List.Perm.cons _ (List.Perm.swap _ _ _)).trans (List.Perm.swap _ _ _)).trans (.cons _ ?_);have:∀(a b c d:Nat×Obj),(a::b::c::d::(G++(X++C))).Perm (G++(a::b::c::d::(X++C))):=λa b c d=>by
   have:=(xbb (l₁:=[a,b,c,d]) (l₂:=G)).append_right (X++C);simpa[xai]using this
  exact this _ _ _ _
 refine⟨λvs H=>∃(i:Nat) (es:Array MapEntry) (ck:Nat) (V:zL) (G':Hp),vs=[i64 (i:Int)]/\H=(mb,.map es ck)::(G'++(Z++C))/\DX es ck V/\P V G'/\((i=0/\V=[])\/(i=1/\Walk K [] V r)),λvs _=>1-bL vs 0,JE.of (.perm (OR _)) ⟨0,#[],0,[],G,rfl,rfl,aE.empty,hP,.inl ⟨rfl,rfl⟩⟩,?_⟩;rintro w H ⟨i,es,ck,V,G',⟨⟩,rfl,hE,hPV,hi⟩ gs;have mZ:∀{x:Nat×Obj},x∈Z->x∈(mb,Obj.map es ck)::(G'++(Z++C)):=λhx=>.tail _ (xac _ (xad _ hx));rcases hi with⟨rfl,rfl⟩|⟨rfl,hw⟩
 ·refine ae.fi (b:=1) (Br.T (au.nat zD ?_));refine Ld.mk (v:=u32 r) (mZ (by rw[hZ];exact .tail _ (.tail _ (.tail _ (.tail _ hm))))) rfl ?_;refine Ld.mk (v:=.func (.func 291) #[] #[ptr b7,ptr b1,ptr b3,ptr AT]) (mZ (by rw[hZ];exact .head _)) rfl ?_;refine aL.of rfl zK (aa.fq (args:=#[u32 r,ptr b7,ptr b1,ptr b3,ptr AT]) (TE (Z:=Z) h hd (by rw[hZ];exact .tail _ (.head _)) (by rw[hZ];exact .tail _ (.tail _ (.tail _ (.head _)))) (by rw[hZ];exact .tail _ (.tail _ (.head _))) (by rw[hZ];exact .head _) K.n r es ck [] G' (xdt _ _) hr List.nodup_nil hE hPV) ?_);rintro v H ⟨rfl,gR,iE,V2,G2,rfl,sn,hP2,w2⟩;exact ae.inc (a:=0) (aC.mk ⟨1,gR,iE,V2,G2,rfl,rfl,sn,hP2,.inr ⟨rfl,w2⟩⟩ (by simp only[bL];decide))
 refine ae.fi (b:=1) (Br.F (aN.mk ?_ ⟨rfl,V,G',rfl,hPV,hw.nd,λu hu=>hw.shut u hu zI,hw.has,λu hu=>hw.rc u hu zI⟩));rw[hZ];exact .skip (.cW (.skip (.skip (.skip .tail))) _)
theorem AJ(h:cc kp K S ord ah tr C)(b6:Nat):Wt 209 #[ptr b6] K (λV G=>∃m:Nat,G=[(b6,.cells #[u64 m] 33 (0,0))]/\m<18446744073709551616/\∀v,m.testBit v=true↔∃u∈V,∃d,K.N u=some d/\d.v=v):=by
 refine⟨by kernel_rfl,?_⟩;rintro V r d G hN ⟨m,rfl,hm,hv⟩;have hn:=h.aZ.lq;have kX:=h.ok.mid.var hN;refine aF λg=>IJ ?_;intro b1 _;refine DR.of (.refl _) (Ld.mk (v:=u64 m) (.tail _ (.head _)) rfl ?_);refine Ld.f (v:=i64 (d.v:Int)) ?_;refine ae.nE (a:=1) ?_;have e:(1<<<d.v)%18446744073709551616=2^d.v:=by
  rw[xco,xdj];exact xbi (xaQ (xbx zD (show d.v<64 by omega)) zD)
 rw[e];have h2:2^d.v<18446744073709551616:=xaQ (xbx zD (show d.v<64 by omega)) zD;refine ae.Kw (by simpa[bF]using hm) (by simpa[bF]using h2) ?_;intro F;refine St.one (c':=#[u64 (m|||2^d.v)]) (by exact .tail (.head _)) rfl zI rfl ?_;refine aN.mk .tail ⟨rfl,_,rfl,xbF (n:=64) hm h2,λv=>?_⟩;rw[xbY,xa9,hv,xbU,xaA];constructor
 ·rintro(⟨u,hu,e,he,Fz⟩|rfl)
  ·exact⟨u,xad _ hu,e,he,Fz⟩
  exact⟨r,by simp,d,hN,rfl⟩
 rintro⟨u,hu,e,he,Fz⟩;rcases xan.1 hu with hu|hu
 ·exact .inl ⟨u,hu,e,he,Fz⟩
 rw[xaE.1 hu,hN]at he;cases he;exact .inr Fz
def Wk(f:aA.Fn)(m:Nat):Prop:=m<18446744073709551616/\∀v,m.testBit v=true↔cF f v
theorem Dv(h:cc kp K S ord ah tr C){r:Nat}(hr:live K.N r):
  Rd zQ 149 #[ptr kp,u32 r] C (λv=>∃m,Wk (S r) m/\v=.tuple #[u64 m,i64 0]):=by
 refine aF λg=>Jj ?_;refine av.int (e:=110) zK zK zK λbx=>?_;refine aa.eh .here (wm (X:=[(bx,_)]) h (by exact .head _) hr) ?_;refine ae.cG (Br.F ?_);intro b6 _;refine St.one (c':=#[u64 0]) (by exact .head _) rfl zI rfl ?_;refine av.int (e:=110) zK zK zK λby'=>?_;refine aa.pre (H':=[(b6,Obj.cells #[u64 0] 33 (0,0))]++([(by',Obj.cells (ax .u32 [(r:Int)]) 110 (0,0)),(bx,Obj.cells (ax .u32 [(r:Int)]) 110 (0,0))]++C)) (.perm (.swap _ _ _)) ?_;refine aa.fn .here (DG (P:=λV G=>∃m:Nat,G=[(b6,.cells #[u64 m] 33 (0,0))]/\m<18446744073709551616/\∀v,m.testBit v=true↔∃u∈V,∃d,K.N u=some d/\d.v=v) h (AJ h b6) hr ⟨0,rfl,by decide,λv=>by simp⟩ (by exact .head _)) ?_;rintro v H ⟨rfl,V,G,rfl,⟨m,rfl,hm,hv⟩,eY,hsh,Yp,hrc⟩;refine Ld.q ?_;refine bc.mk (.skip (.skip .tail)) ⟨m,⟨hm,λv=>?_⟩,rfl⟩;rw[hv,LP h.ok.wf h.ok.lv h.ok.mid.int hsh Yp hrc]
theorem Np(b4:Nat):Wt 207 #[ptr b4] K (λV G=>∃x:Int,G=[(b4,.cells #[i64 x] 3 (0,0))]/\(V.length<4611686018427387904->x=V.length)):=by
 refine⟨by kernel_rfl,?_⟩;rintro V r d G hN ⟨x,rfl,hx⟩;refine aF λg=>IK ?_;intro b1 _;refine Ld.mk (v:=i64 x) (.tail _ (.head _)) rfl ?_;refine ae.add (St.one (c':=#[i64 (IntKind.i64.wrap (x+1))]) (by exact .tail (.head _)) rfl zI rfl ?_);refine aN.mk .tail ⟨rfl,_,rfl,λhl=>?_⟩;rw[xaf,xcm]at hl⊢;rw[hx zO,wrap_i64 zO];omega
theorem Sk(h:cc kp K S ord ah tr C){r b:Nat}{X:Hp}(hr:live K.N r)(hm:(b,Obj.cells (ax .u32 [(r:Int)]) 110 (0,0))∈X):
  Rd zQ 147 #[ptr kp,.slice (some ⟨b,0,none⟩) 1 1] (X++C) (· =.tuple #[i64 ((sz K.n ord (λg=>g=S r):Nat):Int),i64 0]):=by
 refine aF λg=>Jk ?_;refine aa.eq (wm (X:=X) h hm hr) (ae.cG (Br.F ?_));intro b4 _;refine St.one (c':=#[i64 0]) (by exact .head _) rfl zI rfl ?_;refine aa.fn (C:=[(b4,Obj.cells #[i64 0] 3 (0,0))]++(X++C)) .here (DG (P:=λV G=>∃x:Int,G=[(b4,.cells #[i64 x] 3 (0,0))]/\(V.length<4611686018427387904->x=V.length)) h (Np b4) hr ⟨0,rfl,λ_=>rfl⟩ hm) ?_;rintro v H ⟨rfl,V,G,rfl,⟨x,rfl,hx⟩,eY,hsh,Yp,hrc⟩;refine Ld.q ?_;refine bc.mk .tail ?_;have hc:=TG h.ok.wf h.ok.lv h.od h.ok.mid.int (R:=λq=>q=r) (λq hq=>by rw[hq];exact hr) hsh (λq hq=>by rw[hq];exact Yp) hrc eY;have hlen:V.length<=1048576:=by
  have:∀u∈V,u∈List.range 1048576:=λu hu=>by
   obtain⟨d,hd,_⟩:=hsh u hu;exact xaM.2 (h.bK (.inr ⟨d,hd⟩))
  have:=cv eY this;rwa [xaI]at this
 rw[hx zO,<-J4 hc];have e:Fs S (λq=>q=r)=λg=>g=S r:=funext λg=>propext ⟨λ⟨q,hq,e⟩=>by rw[e,hq],λe=>⟨r,rfl,e⟩⟩;rw[e];rfl
end
end
section
open aA
section
variable {C:Hp}
def Tl(p:Bool)(v:zV):Prop:=∃(n:Nat) (b:Bool),n<18446744073709551616/\v=.agg [u64 n,.bool b].toArray/\(b||decide (n≠0))=p
theorem pH(n:Nat)(b:Bool):∀u∈[u64 n,Value.bool b],u.oneCell'=true:=λu hu=>by
 rcases xak.1 hu with rfl|hu
 ·rfl
 rw[xaE.1 hu];rfl
theorem Tl.no:Tl false (.agg #[u64 0,.bool false]):=⟨0,false,by decide,rfl,rfl⟩
theorem Tl.yes:Tl true (.agg #[u64 1,.bool false]):=⟨1,false,by decide,rfl,rfl⟩
theorem x5{p:Bool}{v:zV}(h:Tl p v):Rd zQ 295 #[v,u64 0] C (· =.bool p):=by
 obtain⟨n,b,hn,rfl,hp⟩:=h;refine aF λg=>HK ?_;intro b1 _;refine Ld.f (v:=.bool b) ?_;refine cf.or (a:=b) (decide (n≠0)) (λ_=>?_) rfl λ_=>?_
 ·refine Ld.f (v:=u64 n) ?_;exact ae.m9 (b:=0) ⟨rfl,by rw[xcp.2 (show 0<n↔n≠0 by omega)]⟩
 rw[hp];exact bc.mk .tail rfl
theorem Bx{p q:Bool}{v w:zV}(h:Tl p v)(h':Tl q w):Rd zQ 365 #[v,w] C (Tl (p||q)):=by
 obtain⟨n,b,hn,rfl,hp⟩:=h;obtain⟨m,d,hm,rfl,hq⟩:=h';refine aF λg=>GN ?_;intro b1 _ b3 _ b5 _;refine Ld.f (v:=u64 n) ?_;refine Ld.f (v:=u64 m) ?_;refine ae.acV (Ld.f (v:=.bool b) ?_);refine cf.or (a:=b) d (λ_=>?_) rfl λ_=>?_
 ·refine Ld.f (v:=.bool d) ?_;exact⟨rfl,rfl⟩
 refine cf.or (a:=b||d) (decide ((n+m)%18446744073709551616<n)) (λ_=>?_) rfl λ_=>?_
 ·refine Ld.f (v:=u64 n) ?_;refine ae.fi ⟨rfl,rfl⟩
 refine Build.mk (cs:=[u64 ((n+m)%18446744073709551616),.bool (b||d||decide ((n+m)%18446744073709551616<n))]) zK ?_;refine St.p (r:=[u64 ((n+m)%18446744073709551616),.bool (b||d||decide ((n+m)%18446744073709551616<n))]) (pH _ _) ?_;refine ay.q ?_;refine bc.mk (.skip (.skip .tail)) ⟨_,_,xbB _ zD,rfl,?_⟩;rw[<-hp,<-hq];cases b<;>cases d<;>simp only[Bool.true_or,xdJ,xdw];rw[<-xa7,<-xa7];exact xcp.2 zO
theorem LY{p:Bool}{v:zV}(h:Tl p v)(k:Nat):Rd zQ 363 #[v,i64 (k:Int)] C (Tl p):=by
 obtain⟨n,b,hn,rfl,hp⟩:=h;refine aF λg=>GO ?_;intro b1 _ b3 _;refine ae.eO (b:=0) (cf.or (a:=decide (k=0)) (decide (n=0)) (λ_=>?_) rfl λ_=>?_)
 ·refine Ld.f (v:=u64 n) ?_;exact ae.eO (b:=0) ⟨rfl,rfl⟩
 refine Br.mk (λhb=>?_) (λhb=>?_)
 ·refine ay.whole (r:=[u64 n,.bool b]) (T:=356) (fz:=(0,0)) (by exact .tail _ (.head _)) rfl ?_;refine St.p (r:=[u64 n,.bool b]) (pH _ _) ?_;refine ay.q ?_;exact bc.mk (.skip .tail) ⟨n,b,hn,rfl,hp⟩
 rw[<-xa7]at hb;have hb:=xdf hb;refine Ld.f (v:=u64 n) ?_;refine ae.nE ?_;intro J h17;have fin:∀x:Bool,(x||decide ((n<<<k)%18446744073709551616≠0))=true->J [] ((b3,.cells [u64 ((n<<<k)%18446744073709551616),.bool x].toArray 356 (0,0))::(b1,.cells (Value.cells (.agg [u64 n,.bool b].toArray)) 356 (0,0))::C):=λx hx=>h17 _ λ_=>by
  refine ay.q ?_;refine bc.mk (.skip .tail) ⟨_,x,xbB _ zD,rfl,?_⟩;rw[hx,<-hp];have:decide (n≠0)=true:=xam zO;rw[this,xdJ]
 refine DR.of (.refl _) (ae.eO (b:=0) (Br.mk (λhz=>?_) (λhz=>?_)))
 ·refine Build.mk (cs:=[u64 ((n<<<k)%18446744073709551616),.bool true]) zK ?_;intro F;refine St.p (r:=[u64 ((n<<<k)%18446744073709551616),.bool true]) (pH _ _) ?_;exact JE.mk (fin true rfl)
 refine ae.iL (xbB _ zD) (Ld.f (v:=u64 n) ?_);refine ae.tH (aI.mk (Build.mk (cs:=[u64 ((n<<<k)%18446744073709551616),.bool (decide (((n<<<k)%18446744073709551616)>>>k≠n))]) zK ?_));intro F;refine St.p (r:=[u64 ((n<<<k)%18446744073709551616),.bool (decide (((n<<<k)%18446744073709551616)>>>k≠n))]) (pH _ _) ?_;refine JE.mk (fin _ ?_);rw[xam (p:=(n<<<k)%18446744073709551616≠0) (xdf hz),xdJ]
end
section
variable {kp d nm n f F V:Nat} {j7:zV} {K:Kd} {S:Nat->aA.Fn} {ord ah tr:zL} {C Z:Hp}
abbrev El(n f nm:Nat)(j7:zV)(F V:Nat):Array zV:=#[i64 (n:Int),u32 f,.map (some nm),j7,u64 F,u64 V]
theorem JV{v b:Nat}(hl:j7.oneCell'=true)(hv:v<64)(hb:b<=1)(hF:F<18446744073709551616)(hV:V<18446744073709551616):
  Fc zQ 296 #[ptr d,i64 (v:Int),u64 b] ((d,.cells (El n f nm j7 F V) 361 (0,0))::C) (λw H=>w=.tuple #[]/\∃F' V',H=(d,.cells (El n f nm j7 F' V') 361 (0,0))::C/\F'<18446744073709551616/\V'<18446744073709551616/\
   (∀j,F'.testBit j=(F.testBit j||decide (j=v)))/\∀j,V'.testBit j=if j=v then decide (b=1)else V.testBit j):=by
 have e1:(1<<<v)%18446744073709551616=2^v:=by
  rw[xco,xdj];exact xbi (xaQ (xbx zD hv) zD)
 have h2:2^v<18446744073709551616:=xaQ (xbx zD hv) zD;have eb:(b<<<v)%18446744073709551616=b*2^v:=by
  rw[xco];refine xbi (xaC (xaY _ hb) zO)
 have ta:b*2^v<18446744073709551616:=xaC (xaY _ hb) zO;have hVa:m4 V (2^v)<18446744073709551616:=xaC (m0 _ _) hV;refine aF λg=>HJ ?_;refine DR.of (.refl _) (Ld.n (v:=u64 F) ?_);refine ae.nE (a:=1) ?_;rw[e1];refine ae.Kw (by simpa[bF]using hF) (by simpa[bF]using h2) (.ptr (.mk ?_));intro G;refine St.one (c':=El n f nm j7 (F|||2^v) V) (.head _) rfl zI rfl ?_;refine DR.of (.refl _) (Ld.n (v:=u64 V) ?_);refine ae.nE (a:=1) ?_;rw[e1];refine ae.DP (by simpa[bF]using hV) (by simpa[bF]using h2) (ae.nE ?_);rw[eb];refine ae.Kw (by simpa[bF]using hVa) (by simpa[bF]using ta) (.ptr (.mk ?_));intro G;refine St.one (c':=El n f nm j7 (F|||2^v) (m4 V (2^v)|||b*2^v)) (.head _) rfl zI rfl ?_;refine aN.mk (.refl _) ⟨rfl,_,_,rfl,xbF (n:=64) hF h2,xbF (n:=64) hVa ta,λj=>?_,λj=>?_⟩
 ·rw[xbY,xbU];congr 1;exact xcp.2 eq_comm
 rw[xbY,dH,xbU];have:b=0\/b=1:=by omega
 by_cases e:j=v
 ·rw[xae e,e,xam rfl];rcases this with rfl|rfl
  ·simp
  simp[xbU]
 rw[xab e,xal (xa8 e)];rcases this with rfl|rfl
 ·simp
 rw[xdj,xbU,xal (xa8 e)];simp
structure Fal(n:Nat)(ns:zL):Prop where
 len:ns.length=n+1
 le:∀a,a<=n->ns.getD a 0<=n+1
 step:∀a,a<n->ns.getD (a+1) 0<=ns.getD a 0
theorem Fal.mono{ns:zL}(h:Fal n ns){a:Nat}:∀k,a+k<=n->ns.getD (a+k) 0<=ns.getD a 0
 |0,_=>xaj _
 |k+1,hk=>xbO (h.step (a+k) zO) (Fal.mono h k zO)
theorem Pb{ls:zL}(hd:(d,Obj.cells (El n f nm j7 F V) 361 (0,0))∈Z)(hL:dA .i64 Z j7 (iw ls))(hlen:ls.length=n)(hn:n<=64)(hlt:∀l∈ls,l<n)(hF:F<18446744073709551616):
  Fc zQ 360 #[ptr d] Z (λv H=>∃b ns,Fal n ns/\v=.slice (some ⟨b,0,none⟩) (n+1) (n+1)/\H=(b,.cells (ax .i64 (iw ns)) 3 (0,0))::Z):=by
 refine aF λg=>GR ?_;refine Ld.v hd ?_;refine ae.inc (cU.ints zO zO λb=>?_);refine Ld.v (.tail _ hd) ?_;refine hL.bP ?_;rw[ak,hlen];have z0:List.replicate (n+1) (0:Int)=iw (List.replicate (n+1) 0):=by simp[iw]
 rw[z0];refine⟨λvs H=>∃(j:Nat) (ns:zL),vs=[i64 (j:Int)]/\j<=n/\H=(b,.cells (ax .i64 (iw ns)) 3 (0,0))::Z/\ns.length=n+1/\∀a,ns.getD a 0<=1,λvs _=>n-bL vs 0,JE.mk ⟨0,_,rfl,by omega,rfl,by simp,λa=>?_⟩,?_⟩
 ·by_cases ha:a<n+1
  ·simp[List.getD,ha]
  simp[List.getD,ha]
 rintro w H ⟨j,ns,⟨⟩,hj,rfl,MV,h1⟩ gs;refine ae.fi (Br.dec (λiB=>?_) (λhge=>?_))
 ·intro J hJ;have back:∀ns':zL,ns'.length=n+1->(∀a,ns'.getD a 0<=1)->J [] ((b,.cells (ax .i64 (iw ns')) 3 (0,0))::Z):=λns' hl' sq=>hJ _ λ_=>by
   exact ae.inc (aC.mk ⟨j+1,ns',rfl,by omega,rfl,hl',sq⟩ (by simp only[bL];omega))
  have hlj:j<ls.length:=by omega
  refine hL.ld (dg (xaa hlj)) (λ_ h=>.tail _ h) ?_;refine Ld.v (.tail _ hd) ?_;refine ae.iL (by simpa[bF]using hF) (ae.jD (by simp[bF];exact xaC (xbl _ _) hF) zD (ae.eO (b:=0) (Br.mk (λ_=>?_) (λ_=>JE.mk (back ns MV h1)))));have hlv:=hlt ls[j] (xaG hlj);refine au.nat zO ?_;refine St.ints (.head _) (by rw[ak];omega) ?_;rw[show((1:Int))=((1:Nat):Int)from rfl,fj];refine JE.mk (back _ (by simpa using MV) λa=>?_);rw[List.getD,xbo];split
  ·split
   ·exact xaj _
   exact xaO _
  exact h1 a
 refine Ld.v (.tail _ hd) ?_;refine ae.kx (c:=(n:Int) -1) rfl zO ?_;refine⟨λvs H=>∃(j:Nat) (ns:zL),vs=[i64 ((j:Int) -1)]/\j<=n/\H=(b,.cells (ax .i64 (iw ns)) 3 (0,0))::Z/\ns.length=n+1/\(∀a,a<j->ns.getD a 0<=1)/\(∀a,j<=a->a<=n->ns.getD a 0<=n+1-a)/\∀a,j<=a->a<n->ns.getD (a+1) 0<=ns.getD a 0,
  λvs _=>match vs with| [.int _ q]=>(q+1).toNat|_=>0,JE.mk ⟨n,ns,rfl,xaj _,rfl,MV,λa _=>h1 a,λa h h'=>xbO (h1 a) zO,λa h h'=>by omega⟩,?_⟩
 rintro w H ⟨j,ns,⟨⟩,hj,rfl,MV,g1,g2,g3⟩ gs;refine ae.geq (Br.dec (λhge=>?_) (λiB=>?_))
 ·obtain⟨i,rfl⟩:∃i,j=i+1:=⟨j-1,by omega⟩;have ei:(((i+1:Nat):Int) -1)=(i:Int):=by omega
  rw[ei];refine DR.of (.refl _) ?_;have hB:dA .i64 ((b,Obj.cells (ax .i64 (iw ns)) 3 (0,0))::Z) (.slice (some ⟨b,0,none⟩) (iw ns).length (n+1)) (iw ns):=dA.block (.head _) (by rw[ak];omega);rw[ak,MV]at hB;have a1:=g1 i zO;have a2:=g2 (i+1) zO zO;refine hB.ld (bH zO) (λ_ h=>h) ?_;refine ae.inc (hB.ld (bH zO) (λ_ h=>h) ?_);refine ae.fH (au.nat zO ?_);intro G;refine St.ints (.head _) (by rw[ak];omega) ?_;rw[fj];refine ae.kx (c:=(i:Int) -1) rfl zO ?_;have get:∀a,(ns.set i (ns.getD i 0+ns.getD (i+1) 0)).getD a 0=if a=i then ns.getD i 0+ns.getD (i+1) 0 else ns.getD a 0:=λa=>by
   rw[List.getD,xbo];by_cases e:i=a
   ·rw[xae e,xae zO,xae e.symm];rfl
   rw[xab e,xab (xa8 e)];rfl
  refine aC.mk ⟨i,_,rfl,by omega,rfl,by simpa using MV,λa ha=>?_,λa ha hn'=>?_,λa ha hn'=>?_⟩ ?_
  ·rw[get,xab zO];exact g1 a zO
  ·rw[get];split
   ·subst a;omega
   exact g2 a zO hn'
  ·rw[get,get];rw[xab (show a+1≠i by omega)];split
   ·subst a;omega
   exact g3 a zO hn'
  show((i:Int) -1+1).toNat<((i:Int)+1).toNat;omega
 obtain rfl:j=0:=by omega
 exact aN.mk (.refl _) ⟨b,ns,⟨MV,λa ha=>xbO (g2 a (xaO _) ha) zO,λa ha=>g3 a (xaO _) ha⟩,rfl,rfl⟩
end
section
variable {d0 b1 b8 kZ wy tT Eh bf kb nm n f F V Bk:Nat} {j7:zV} {K:Kd} {S:Nat->aA.Fn} {ah ls ns:zL} {Bj:Array MapEntry} {m:List (Nat×Nd)} {Z:Hp}
def ag(n F V x:Nat):Prop:=∀j,j<n->F.testBit j=true->x.testBit j=V.testBit j
noncomputable def qT(n F V:Nat)(g:aA.Fn):Bool:= @decide (∃x,ag n F V x/\g x=true) (Classical.propDecidable _)
theorem pU{g:aA.Fn}:qT n F V g=true↔∃x,ag n F V x/\g x=true:= @decide_eq_true_iff _ (Classical.propDecidable _)
theorem Uh:qT n F V (λ_=>false)=false:=by
 cases h:qT n F V (λ_=>false)with
 |false=>rfl
 |true=>obtain⟨x,_,e⟩:=pU.1 h;cases e
theorem XQ:qT n F V (λ_=>true)=true:=pU.2 ⟨V,λ_ _ _=>rfl,rfl⟩
theorem y6(h:Ok K S (lv ah)){r:Nat}{d:Nd}(hN:K.N r=some d)(x:Nat)(b:Bool):S d.lo (an.aB x d.v b)=S d.lo x/\S d.hi (an.aB x d.v b)=S d.hi x:=by
 have e (c:Bool):=(gi h.wf h.lv h.mid.int (r:=r) (.inr ⟨d,hN⟩) (h.mid.var hN) (by rw[aq hN];exact xaj _) c);have e1:=e false;have e2:=e true;rw[(kH hN).1]at e1;rw[(kH hN).2]at e2;constructor
 ·rw[e1.1,e1.1,aA.ow]
 rw[e2.1,e2.1,aA.ow]
theorem Ui(h:Ok K S (lv ah)){r:Nat}{d:Nd}(hN:K.N r=some d):
  qT K.n F V (S r)=((!F.testBit d.v|| !V.testBit d.v) &&qT K.n F V (S d.lo)||(!F.testBit d.v||V.testBit d.v) &&qT K.n F V (S d.hi)):=by
 have nd:=h.mid.int.node hN;have put:∀(x:Nat) (b:Bool),ag K.n F V x->(F.testBit d.v=true->V.testBit d.v=b)->ag K.n F V (an.aB x d.v b):=λx b hx hb j hj hF=>by
  rw[an.aj];split
  ·subst j;exact(hb hF).symm
  exact hx j hj hF
 have hv:=h.mid.var hN;rw[xbR,xa9,xav,xav,pU,pU,pU];constructor
 ·rintro⟨x,hx,hS⟩;have q:=nd x;have hxv:=hx d.v hv;cases hb:x.testBit d.v with
  |true=>
   rw[hb,xae rfl]at q;refine .inr ⟨?_,x,hx,by rw[<-q];exact hS⟩;cases hF:F.testBit d.v
   ·rfl
   rw[<-hxv hF,hb];rfl
  |false=>
   rw[hb,xab zD]at q;refine .inl ⟨?_,x,hx,by rw[<-q];exact hS⟩;cases hF:F.testBit d.v
   ·rfl
   rw[<-hxv hF,hb];rfl
 rintro(⟨hc,x,hx,hS⟩|⟨hc,x,hx,hS⟩)
 ·refine⟨an.aB x d.v false,put x false hx λhF=>?_,?_⟩
  ·rw[hF]at hc;simpa using hc
  rw[nd,an.aj,xae rfl,xab zD,(y6 h hN x false).1];exact hS
 refine⟨an.aB x d.v true,put x true hx λhF=>?_,?_⟩
 ·rw[hF]at hc;simpa using hc
 rw[nd,an.aj,xae rfl,xae rfl,(y6 h hN x true).2];exact hS
abbrev NP(es:Array MapEntry)(ck:Nat)(m:List (Nat×Nd)):Prop:=aE kr (λv (d:Nd)=>v=.agg (bu d).toArray) es ck m
structure Wj(K:Kd)(S:Nat->aA.Fn)(ah ls:zL)(m:List (Nat×Nd))(n f F V d0 b1 nm:Nat)(j7:zV)(Bj:Array MapEntry)(Bk:Nat)(Z:Hp):Prop where
 ok:Ok K S (lv ah)
 lq:K.n<=64
 hn:n=K.n
 d:(d0,Obj.cells (El n f nm j7 F V) 361 (0,0))∈Z
 hnm:(nm,Obj.map Bj Bk)∈Z
 dG:NP Bj Bk m
 cov:∀u e,Rc K.N (λq=>q=f) u->K.N u=some e->aK m u=some e
 L:dA .i64 Z j7 (iw ls)
 get:∀v,v<n->ls[v]? =some (lv ah v)
 F64:F<18446744073709551616
 V64:V<18446744073709551616
structure TcH(n d0 b1 b8 kZ wy tT Eh bf kb:Nat)(ns:zL)(Z:Hp):Prop where
 h1:(b1,Obj.cells #[ptr d0] 353 (0,0))∈Z
 h8:(b8,Obj.cells #[.slice (some ⟨bf,0,none⟩) (n+1) (n+1)] 43 (0,0))∈Z
 hf:(bf,Obj.cells (ax .i64 (iw ns)) 3 (0,0))∈Z
 h17:(kZ,Obj.cells #[.map (some kb)] 419 (0,0))∈Z
 h20:(wy,Obj.cells #[.func (.func 361) #[] #[ptr b1]] 260 (0,0))∈Z
 h23:(tT,Obj.cells #[.func (.func 364) #[] #[ptr kZ,ptr b1,ptr Eh]] 420 (0,0))∈Z
 h25:(Eh,Obj.cells #[.func (.func 362) #[] #[ptr tT,ptr b8,ptr wy]] 422 (0,0))∈Z
 fal:Fal n ns
theorem LQ(h:Wj K S ah ls m n f F V d0 b1 nm j7 Bj Bk Z)(h1:(b1,Obj.cells #[ptr d0] 353 (0,0))∈Z){r:Nat}(hr:live K.N r)(hR:Rc K.N (λq=>q=f) r):
  Rd zQ 361 #[u32 r,ptr b1] Z (· =i64 ((dep K.n (lv ah) K.N r:Nat):Int)):=by
 refine aF λg=>GQ ?_;refine ae.xE (b:=1) (Br.dec (λh2=>?_) (λh2=>?_))
 ·refine Ld.mk h1 rfl ?_;refine Ld.v (v:=i64 (n:Int)) h.d ?_;refine bc.mk (.refl _) ?_;have h0:K.N r=none:=by
   cases hN:K.N r with
   |none=>rfl
   |some d=>have:=h.ok.mid.two hN;omega
  rw[aU h0,h.hn]
 obtain⟨d,hN⟩:∃d,K.N r=some d:=by
  rcases hr with hr|hr
  ·omega
  exact hr
 have kX:=h.ok.mid.var hN;refine Ld.mk h1 rfl ?_;refine Ld.v h.d ?_;refine Ld.mk h1 rfl ?_;refine Ld.v h.d ?_;refine h.dG.hit (k:=r) cY (b:=nm) h.hnm (h.cov r d hR hN) λv e=>?_;subst e;refine Bm.mk (off:=0) (cs:=(bu d).toArray) (v:=i64 (d.v:Int)) rfl ?_;refine h.L.ld (dg (h.get d.v (by rw[h.hn];exact kX))) (λ_ h=>h) ?_;refine bc.mk (.refl _) ?_;rw[aq hN]
structure KnT(q:Nat->Bool)(es:Array MapEntry)(ck:Nat)(mm:List (Nat×Bool)):Prop where
 dG:aE kr (λv (x:Bool)=>Tl x v) es ck mm
 val:∀r x,aK mm r=some x->x=q r
 low:∀r,r<2->aK mm r≠none
abbrev Wv(q:Nat->Bool)(kb:Nat)(Z:Hp)(r:Nat):zV->Hp->Prop:=λv H=>Tl (q r) v/\∃es' bB UD,H=(kb,.map es' bB)::Z/\KnT q es' bB UD
theorem ot{p:Bool}{v:zV}(h:Tl p v):∃r:List zV,v=.agg r.toArray/\r.length=2/\∀u∈r,u.oneCell'=true:=by
 obtain⟨n,b,_,rfl,_⟩:=h;exact⟨_,rfl,rfl,pH _ _⟩
theorem rM(h:Wj K S ah ls m n f F V d0 b1 nm j7 Bj Bk Z)(t:TcH n d0 b1 b8 kZ wy tT Eh bf kb ns Z){q:Nat->Bool}{r l:Nat}(hr:live K.N r)(hR:Rc K.N (λq=>q=f) r)(hl:l<=dep K.n (lv ah) K.N r){es:Array MapEntry}{ck:Nat}
 (hc:Fc zQ 364 #[u32 r,ptr kZ,ptr b1,ptr Eh] ((kb,.map es ck)::Z) (Wv q kb Z r)):
  Fc zQ 362 #[u32 r,i64 (l:Int),ptr tT,ptr b8,ptr wy] ((kb,.map es ck)::Z) (Wv q kb Z r):=by
 have hdl:=h.ok.wf.iD h.ok.lv r;have Bb:=t.fal.len;have hB:dA .i64 Z (.slice (some ⟨bf,0,none⟩) (iw ns).length (n+1)) (iw ns):=dA.block t.hf (by rw[ak];omega);rw[ak,Bb]at hB;have hn':=h.hn;have abt:=t.fal.mono (a:=l) (dep K.n (lv ah) K.N r-l) zO;rw[show l+(dep K.n (lv ah) K.N r-l)=dep K.n (lv ah) K.N r by omega]at abt;have hle:=t.fal.le l zO;have si:=h.lq;refine aF λg=>GP ?_;intro c1 _;refine DR.of (R:=Z) (.skip .tail) (Ld.mk t.h23 rfl ?_);refine Ld.mk t.h8 rfl ?_;refine hB.ld (bH zO) (λ_ h=>h) ?_;refine Ld.mk t.h8 rfl ?_;refine Ld.mk t.h20 rfl ?_;intro G;refine aL.of rfl zK (aa.fq (args:=#[u32 r,ptr kZ,ptr b1,ptr Eh]) hc ?_);rintro v1 H ⟨hv1,j9,jL,mm1,rfl,tL⟩;refine⟨.skip .tail,Z,.skip .tail,.refl _,?_⟩;intro G;refine aL.of rfl zK (aa.eq (args:=#[u32 r,ptr b1]) (LQ (Z:=Z) h t.h1 hr hR) (⟨.skip .tail,Z,.skip .tail,.refl _,?_⟩));refine hB.ld (bH zO) (λ_ h=>h) ?_;refine ae.bY ?_;intro G;refine aa.rq (LY (C:=Z) hv1 _) ?_;intro v2 ZT;intro G;have aeG:=ZT;obtain⟨rr,rfl,xq,O2⟩:=ot ZT;refine St.p (r:=rr) O2 ?_ (hr:=xq);refine ay.q ?_ (hr:=xq);exact aN.mk .tail ⟨aeG,j9,jL,mm1,rfl,tL⟩
end
section
variable {d0 b1 b8 kZ wy tT Eh bf kb nm n f F V Bk:Nat} {j7:zV} {K:Kd} {S:Nat->aA.Fn} {ah ls ns:zL} {Bj:Array MapEntry} {m:List (Nat×Nd)} {Z:Hp}
theorem uV(a k:Nat):decide ((a>>>k)%2=0)= !a.testBit k:=by
 rw[<-AK];have:=Nat.mod_two_eq_zero_or_one (a>>>k);rcases this with e|e<;>rw[e]<;>rfl
theorem LR(h:Wj K S ah ls m n f F V d0 b1 nm j7 Bj Bk Z)(t:TcH n d0 b1 b8 kZ wy tT Eh bf kb ns Z):
  ∀(k r:Nat) (es:Array MapEntry) (ck:Nat) (mm:List (Nat×Bool)),K.n-dep K.n (lv ah) K.N r<=k->live K.N r->Rc K.N (λq=>q=f) r->KnT (λr=>qT K.n F V (S r)) es ck mm->
  Fc zQ 364 #[u32 r,ptr kZ,ptr b1,ptr Eh] ((kb,.map es ck)::Z) (Wv (λr=>qT K.n F V (S r)) kb Z r):=by
 have hit:∀{r:Nat} {es:Array MapEntry} {ck:Nat} {mm:List (Nat×Bool)} {x:Bool},KnT (λr=>qT K.n F V (S r)) es ck mm->aK mm r=some x->
   Fc zQ 364 #[u32 r,ptr kZ,ptr b1,ptr Eh] ((kb,.map es ck)::Z) (Wv (λr=>qT K.n F V (S r)) kb Z r):=by
  intro r es ck mm x hm hv;refine aF λg=>wJ ?_;intro c1 _;refine Ld.mk (v:=.map (some kb)) (.tail _ (.tail _ t.h17)) rfl ?_;refine hm.dG.hit (k:=r) cY (b:=kb) (by exact .tail _ (.head _)) hv λv' e=>?_;have ex:=hm.val r x hv;have e':=e;obtain⟨rr,rfl,xq,O2⟩:=ot e;apply Ext.two;intro c7 _;refine St.p (r:=rr) O2 ?_ (hr:=xq);refine Br.yes (ay.q ?_ (hr:=xq));refine St.p (r:=rr) O2 ?_ (hr:=xq);refine ay.q ?_ (hr:=xq);exact aN.mk (.skip .tail) ⟨by show Tl (qT K.n F V (S r)) _;rw[show qT K.n F V (S r)=x from ex.symm];exact e',es,ck,mm,rfl,hm⟩
 intro k;induction k with
 |zero=>
  intro r es ck mm hk hr hR hm;have p7:r<2:=by
   cases hN:K.N r with
   |some d=>
    rw[aq hN]at hk;have:=h.ok.lv.lt _ (h.ok.mid.var hN);omega
   |none=>
    rcases hr with hr|⟨d,e⟩
    ·exact hr
    rw[hN]at e;cases e
  cases hv:aK mm r with
  |none=>exact absurd hv (hm.low r p7)
  |some v=>exact hit hm hv
 |succ k ih=>
  intro r es ck mm hk hr hR hm;cases hv:aK mm r with
  |some v=>exact hit hm hv
  |none=>
  have p7:¬r<2:=λh2=>hm.low r h2 hv;obtain⟨d,hN⟩:∃d,K.N r=some d:=by
   rcases hr with hr|hr
   ·omega
   exact hr
  have hlo:=h.ok.wf.lo hN;have hhi:=h.ok.wf.hi hN;rw[aq hN]at hk;have kX:=h.ok.mid.var hN;have hvl:=h.ok.lv.lt _ kX;have si:=h.lq;have VI:=h.F64;have Vz:=h.V64;have qn:=Ui (F:=F) (V:=V) h.ok hN;refine aF λg=>wJ ?_;intro c1 _;refine Ld.mk (v:=.map (some kb)) (.tail _ (.tail _ t.h17)) rfl ?_;refine hm.dG.bM (k:=r) cY (b:=kb) (by exact .tail _ (.head _)) hv ?_;apply Ext.two;intro c7 _;refine St.p (r:=[u64 0,.bool false]) (pH _ _) ?_;apply Br.no;have up:∀{x y z:Nat×Obj} {l:List (Nat×Obj)},l=Z->∀{w},w∈Z->w∈x::y::z::l:=λe w hw=>by subst e;exact .tail _ (.tail _ (.tail _ hw))
  refine Ld.mk (v:=ptr d0) (.tail _ (.tail _ (.tail _ t.h1))) rfl ?_;refine Ld.v (v:=.map (some nm)) (.tail _ (.tail _ (.tail _ h.d))) ?_;refine h.dG.hit (k:=r) cY (b:=nm) (.tail _ (.tail _ (.tail _ h.hnm))) (h.cov r d hR hN) λv e=>?_;subst e;intro c18 _;refine St.p (fC d) ?_;refine Ld.mk (v:=ptr d0) (.tail _ (.tail _ (.tail _ (.tail _ t.h1)))) rfl ?_;refine Ld.v (v:=j7) (.tail _ (.tail _ (.tail _ (.tail _ h.d)))) ?_;refine Ld.f (v:=i64 (d.v:Int)) ?_;refine h.L.ld (dg (h.get d.v (by rw[h.hn];exact kX))) (λ_ h=>.tail _ (.tail _ (.tail _ (.tail _ h)))) ?_;refine ae.inc ?_;intro c30 _;intro J32 OZ;have last:∀(p:Bool) (t30:List zV) (es':Array MapEntry) (bB:Nat) (UD:List (Nat×Bool)),Tl p (.agg t30.toArray)->t30.length=2->(∀u∈t30,u.oneCell'=true)->KnT (λr=>qT K.n F V (S r)) es' bB UD->p=((!F.testBit d.v|| !V.testBit d.v) &&qT K.n F V (S d.lo))->
    J32 [] ((c30,.cells t30.toArray 356 (0,0))::(c18,.cells (bu d).toArray 226 (0,0))::(c7,.cells [u64 0,.bool false].toArray 356 (0,0))::(c1,.cells #[u64 0,.bool false] 356 (0,0))::(kb,.map es' bB)::Z):=by
   intro p t30 es' bB UD hp xq O2 hm' ep;refine OZ _ λ_=>?_;intro J35 h35;have fin:∀(p:Bool) (t30:List zV) (es':Array MapEntry) (bB:Nat) (UD:List (Nat×Bool)),Tl p (.agg t30.toArray)->t30.length=2->(∀u∈t30,u.oneCell'=true)->KnT (λr=>qT K.n F V (S r)) es' bB UD->p=qT K.n F V (S r)->
     J35 [] ((c30,.cells t30.toArray 356 (0,0))::(c18,.cells (bu d).toArray 226 (0,0))::(c7,.cells [u64 0,.bool false].toArray 356 (0,0))::(c1,.cells #[u64 0,.bool false] 356 (0,0))::(kb,.map es' bB)::Z):=by
    intro p t30 es' bB UD hp xq O2 hm' ep;refine h35 _ λ_=>?_;refine Ld.mk (v:=.map (some kb)) (.tail _ (.tail _ (.tail _ (.tail _ (.tail _ t.h17))))) rfl ?_;refine ay.q ?_ (hr:=xq);refine hm'.dG.bg (k:=r) (b:=kb) (x:=p) cY gN hp λoP qq he=>⟨_,.tail (.tail (.tail (.tail (.head _)))),?_⟩;refine ay.q ?_ (hr:=xq);refine St.p (r:=t30) O2 ?_ (hr:=xq);refine ay.q ?_ (hr:=xq);refine aN.mk (.skip (.skip (.skip .tail))) ⟨by show Tl (qT K.n F V (S r)) _;rw[<-ep];exact hp,oP,qq,_,rfl,he,λr' x' nR=>?_,λr' hr'=>?_⟩
    ·rw[bJ]at nR;split at nR
     ·rename_i e;subst e;cases nR;exact ep
     exact hm'.val r' x' nR
    rw[bJ];split
    ·simp
    exact hm'.low r' hr'
   refine Ld.mk (v:=ptr d0) (.tail _ (.tail _ (.tail _ (.tail _ (.tail _ t.h1))))) rfl ?_;refine Ld.v (v:=u64 F) (.tail _ (.tail _ (.tail _ (.tail _ (.tail _ h.d))))) ?_;refine Ld.f (v:=i64 (d.v:Int)) ?_;refine ae.iL (by simpa[bF]using VI) (ae.jD (by simp[bF];exact xaC (xbl _ _) VI) zD (ae.eO (b:=0) ?_));rw[xbP,uV];refine cf.or (a:= !F.testBit d.v) (V.testBit d.v) (λ_=>?_) rfl λ_=>?_
   ·refine Ld.mk (v:=ptr d0) (.tail _ (.tail _ (.tail _ (.tail _ (.tail _ t.h1))))) rfl ?_;refine Ld.v (v:=u64 V) (.tail _ (.tail _ (.tail _ (.tail _ (.tail _ h.d))))) ?_;refine Ld.f (v:=i64 (d.v:Int)) ?_;refine ae.iL (by simpa[bF]using Vz) (ae.jD (by simp[bF];exact xaC (xbl _ _) Vz) zD (ae.eO (b:=1) ?_));rw[xbP,AK];exact⟨rfl,rfl⟩
   refine Br.mk (λhb=>?_) (λhb=>?_)
   ·refine DR.of (R:=(c30,.cells t30.toArray 356 (0,0))::(c18,.cells (bu d).toArray 226 (0,0))::Z) (.cons (.cons (.skip (.skip .tail)))) (ay.q ?_ (hr:=xq));refine Ld.mk (v:=.func (.func 362) #[] #[ptr tT,ptr b8,ptr wy]) (.tail _ (.tail _ t.h25)) rfl ?_;refine Ld.f (v:=u32 d.hi) ?_;intro G;refine aL.of rfl zK (aa.fq (args:=#[u32 d.hi,i64 ((lv ah d.v+1:Nat):Int),ptr tT,ptr b8,ptr wy]) (rM (Z:=Z) h t hhi.1 (.hi hR hN) zO (ih d.hi es' bB UD zO hhi.1 (.hi hR hN) hm')) ?_);rintro v2 H ⟨ZT,gR,iE,mm2,rfl,lR⟩;refine⟨.cons (.cons (.skip (.skip .tail))),?_⟩;intro G;refine aa.rq (Bx (C:=Z) hp ZT) ?_;intro v3 hv3;intro G;have Yi:=hv3;obtain⟨rr,rfl,h3l,h3o⟩:=ot hv3;refine St.p (r:=rr) h3o ?_ (hr:=h3l) (hs:=by simpa using xq);refine JE.mk (fin _ rr gR iE mm2 Yi h3l h3o lR ?_);rw[ep,qn,hb,xcq]
   refine JE.mk (fin p t30 es' bB UD hp xq O2 hm' ?_);rw[ep,qn,hb,xd6,xdu]
  refine Ld.mk (v:=ptr d0) (.tail _ (.tail _ (.tail _ (.tail _ (.tail _ t.h1))))) rfl ?_;refine Ld.v (v:=u64 F) (.tail _ (.tail _ (.tail _ (.tail _ (.tail _ h.d))))) ?_;refine Ld.f (v:=i64 (d.v:Int)) ?_;refine ae.iL (by simpa[bF]using VI) (ae.jD (by simp[bF];exact xaC (xbl _ _) VI) zD (ae.eO (b:=0) ?_));rw[xbP,uV];refine cf.or (a:= !F.testBit d.v) (!V.testBit d.v) (λ_=>?_) rfl λ_=>?_
  ·refine Ld.mk (v:=ptr d0) (.tail _ (.tail _ (.tail _ (.tail _ (.tail _ t.h1))))) rfl ?_;refine Ld.v (v:=u64 V) (.tail _ (.tail _ (.tail _ (.tail _ (.tail _ h.d))))) ?_;refine Ld.f (v:=i64 (d.v:Int)) ?_;refine ae.iL (by simpa[bF]using Vz) (ae.jD (by simp[bF];exact xaC (xbl _ _) Vz) zD (ae.eO (b:=0) ?_));rw[xbP,uV];exact⟨rfl,rfl⟩
  refine Br.mk (λhb=>?_) (λhb=>?_)
  ·refine DR.of (R:=(c30,.cells [u64 0,.bool false].toArray 356 (0,0))::(c18,.cells (bu d).toArray 226 (0,0))::Z) (.cons (.cons (.skip (.skip .tail)))) (ay.q ?_);refine Ld.mk (v:=.func (.func 362) #[] #[ptr tT,ptr b8,ptr wy]) (.tail _ (.tail _ t.h25)) rfl ?_;refine Ld.f (v:=u32 d.lo) ?_;intro G;refine aL.of rfl zK (aa.fq (args:=#[u32 d.lo,i64 ((lv ah d.v+1:Nat):Int),ptr tT,ptr b8,ptr wy]) (rM (Z:=Z) h t hlo.1 (.lo hR hN) zO (ih d.lo es ck mm zO hlo.1 (.lo hR hN) hm)) ?_);rintro v2 H ⟨ZT,gR,iE,mm2,rfl,lR⟩;refine⟨.cons (.cons (.skip (.skip .tail))),?_⟩;intro G;refine aa.rq (Bx (C:=Z) Tl.no ZT) ?_;intro v3 hv3;intro G;have Yi:=hv3;obtain⟨rr,rfl,h3l,h3o⟩:=ot hv3;refine St.p (r:=rr) h3o ?_ (hr:=h3l);refine JE.mk (last _ rr gR iE mm2 Yi h3l h3o lR ?_);rw[hb,xcq,xdw]
  refine JE.mk (last false [u64 0,.bool false] es ck mm Tl.no rfl (pH _ _) hm ?_);rw[hb,xd6]
end
section
variable {d0 nm n f F V Bk:Nat} {j7:zV} {K:Kd} {S:Nat->aA.Fn} {ah ls:zL} {Bj:Array MapEntry} {m:List (Nat×Nd)} {Z Z':Hp}
theorem Wj.more{b b':Nat}(h:Wj K S ah ls m n f F V d0 b nm j7 Bj Bk Z)(hs:∀x∈Z,x∈Z'):Wj K S ah ls m n f F V d0 b' nm j7 Bj Bk Z':=
 ⟨h.ok,h.lq,h.hn,hs _ h.d,hs _ h.hnm,h.dG,h.cov,h.L.mono hs,h.get,h.F64,h.V64⟩
theorem xZ{b:Nat}(h:Wj K S ah ls m n f F V d0 b nm j7 Bj Bk Z)(hlen:ls.length=n)(hf:live K.N f):Rd zQ 294 #[ptr d0] Z (Tl (qT K.n F V (S f))):=by
 have si:=h.lq;have hn:=h.hn;have hi:=h.ok.mid.int;have hlt:∀l∈ls,l<n:=λl hl=>by
  obtain⟨i,hi,e⟩:=xba.1 hl;have q:=h.get i zO;rw[xaa hi,e]at q;cases q;rw[hn];exact h.ok.lv.lt _ zO
 refine aF λg=>HL ?_;intro b1 _ b3 _;refine Ld.q ?_;refine aa.fq (Pb (Z:=Z) h.d h.L hlen zO hlt h.F64) ?_;rintro v H ⟨bf,ns,aft,rfl,rfl⟩;intro b8 _;refine St.one (c':=#[.slice (some ⟨bf,0,none⟩) (n+1) (n+1)]) (by exact .head _) rfl zI rfl ?_;intro kb _;refine Build.mk (cs:=[u64 0,.bool false]) zK ?_;refine aE.bg (ke:=kr) (vr:=λv (x:Bool)=>Tl x v) (k:=0) (b:=kb) (x:=false) cY gN aE.empty Tl.no λj9 jL FA=>⟨_,.head _,?_⟩;refine Build.mk (cs:=[u64 1,.bool false]) zK ?_;refine aE.bg (ke:=kr) (vr:=λv (x:Bool)=>Tl x v) (k:=1) (b:=kb) (x:=true) cY gN FA Tl.yes λgR iE Tp=>⟨_,.head _,?_⟩;intro kZ _;refine St.one (c':=#[.map (some kb)]) (by exact .head _) rfl zI rfl ?_;intro wy _;refine St.one (c':=#[.func (.func 361) #[] #[ptr b1]]) (by exact .head _) rfl zI rfl ?_;intro tT _ Eh _;refine St.one (c':=#[.func (.func 362) #[] #[ptr tT,ptr b8,ptr wy]]) (by exact .head _) rfl zI rfl ?_;refine St.one (c':=#[.func (.func 364) #[] #[ptr kZ,ptr b1,ptr Eh]]) (by exact .tail (.head _)) rfl zI rfl ?_;obtain⟨Y,hY⟩:∃Y:Hp,Y=(Eh,Obj.cells #[.func (.func 362) #[] #[ptr tT,ptr b8,ptr wy]] 422 (0,0))::(tT,.cells #[.func (.func 364) #[] #[ptr kZ,ptr b1,ptr Eh]] 420 (0,0))::(wy,.cells #[.func (.func 361) #[] #[ptr b1]] 260 (0,0))::(kZ,.cells #[.map (some kb)] 419 (0,0))::
  (b8,.cells #[.slice (some ⟨bf,0,none⟩) (n+1) (n+1)] 43 (0,0))::(b3,.cells #[u64 0,.bool false] 356 (0,0))::(b1,.cells #[ptr d0] 353 (0,0))::(bf,.cells (ax .i64 (iw ns)) 3 (0,0))::Z:=⟨_,rfl⟩
 have hYs:∀x∈Z,x∈Y:=λx hx=>by rw[hY];exact .tail _ (.tail _ (.tail _ (.tail _ (.tail _ (.tail _ (.tail _ (.tail _ hx)))))))
 have hvw:Wj K S ah ls m n f F V d0 b1 nm j7 Bj Bk Y:=h.more hYs;have ht:TcH n d0 b1 b8 kZ wy tT Eh bf kb ns Y:=by
  refine⟨?_,?_,?_,?_,?_,?_,?_,aft⟩<;>rw[hY]<;>simp
 have hk:KnT (λr=>qT K.n F V (S r)) gR iE [(0,false),(1,true)]:=by
  refine⟨Tp,λr x hx=>?_,λr hr=>?_⟩
  ·unfold aK at hx;rw[xbv,xbv]at hx;by_cases e0:r=0
   ·subst e0;have:x=false:=by simpa using hx.symm
    rw[this,show S 0=λ_=>false from funext hi.zero];exact Uh.symm
   by_cases e1:r=1
   ·subst e1;have:x=true:=by simpa using hx.symm
    rw[this,show S 1=λ_=>true from funext hi.one];exact XQ.symm
   simp[xa8 e0,xa8 e1]at hx
  have:r=0\/r=1:=by omega
  rcases this with rfl|rfl<;>simp[aK]
 refine DR.of (R:=(Eh,Obj.cells #[.func (.func 362) #[] #[ptr tT,ptr b8,ptr wy]] 422 (0,0))::(b1,.cells #[ptr d0] 353 (0,0))::Z) (.cons (.skip (.skip (.skip (.skip (.skip (.skip (.cons .tail)))))))) (Ld.q ?_);refine Ld.q ?_;refine Ld.v (v:=u32 f) (.tail _ (.tail _ h.d)) ?_;intro G;refine aL.of rfl zK (aa.pre (H':=(kb,Obj.map gR iE)::Y) (by rw[hY];exact .perm (xaT (l₁:=[_,_,_,_]))) ?_);refine aa.fn (args:=#[u32 f,i64 ((0:Nat):Int),ptr tT,ptr b8,ptr wy]) .here (rM hvw ht hf (.base rfl) (xaO _) (LR hvw ht K.n f gR iE _ (xdt _ _) hf (.base rfl) hk)) ?_;rintro v H ⟨hv,oP,qq,mm3,rfl,pn⟩;intro G;have nR:=hv;obtain⟨rr,rfl,xq,O2⟩:=ot hv;rw[hY];refine St.p (r:=rr) O2 ?_ (hr:=xq);refine ay.q ?_ (hr:=xq);exact bc.mk (.skip (.skip (.skip (.skip (.skip (.skip (.skip (.skip .tail)))))))) nR
end
section
variable {kp mb b1 b9 Gc ND n f:Nat} {j7:zV} {K:Kd} {S:Nat->aA.Fn} {ord ah tr:zL} {C Z:Hp}
theorem s6(h:cc kp K S ord ah tr C){r:Nat}(hr:live K.N r):Rd zQ 292 #[ptr kp,u32 r] C (· =i64 (if r=0 then 10 else 0)):=by
 have hlt:=h.bK hr;refine aF λg=>HN ?_;refine ae.aD (Br.no (aa.eq (args:=#[ptr kp,u32 r]) (iS h.rep zO) ?_));rw[bX.2 hr];apply Ext.two;intro b6 _;refine St.p (aR K.N r).2 ?_ (hr:=(aR K.N r).1);refine ae.cG (Br.F (ae.eO (b:=0) (Br.mk (λhb=>?_) (λhb=>?_))))
 ·rw[xae (xcd hb)];exact bc.mk .tail rfl
 rw[xab (xdf hb)];exact bc.mk .tail rfl
structure SY(K:Kd)(m m':List (Nat×Nd))(r:Nat):Prop where
 good:∀u d,aK m' u=some d->K.N u=some d
 sub:∀u,aK m u≠none->aK m' u≠none
 has:r<2\/aK m' r≠none
 shut:∀u,aK m' u≠none->aK m u=none->∃d,K.N u=some d/\(d.lo<2\/aK m' d.lo≠none)/\(d.hi<2\/aK m' d.hi≠none)
theorem SY.cov{m:List (Nat×Nd)}(h:SY K [] m f)(h2:∀u d,K.N u=some d->2<=u):∀u e,Rc K.N (λq=>q=f) u->K.N u=some e->aK m u=some e:=by
 have step:∀u,Rc K.N (λq=>q=f) u->u<2\/aK m u≠none:=λu hu=>by
  induction hu with
  |base e=>subst e;exact h.has
  |lo hp hN ih=>
   rcases ih with ih|ih
   ·have:=h2 _ _ hN;omega
   obtain⟨d,hd,a,b⟩:=h.shut _ ih rfl;rw[hN]at hd;cases hd;exact a
  |hi hp hN ih=>
   rcases ih with ih|ih
   ·have:=h2 _ _ hN;omega
   obtain⟨d,hd,a,b⟩:=h.shut _ ih rfl;rw[hN]at hd;cases hd;exact b
 intro u e hu hN;rcases step u hu with h'|h'
 ·have:=h2 _ _ hN;omega
 cases hm:aK m u with
 |none=>exact absurd hm h'
 |some d=>have:=h.good u d hm;rw[hN]at this;cases this;rfl
theorem Ub(h:cc kp K S ord ah tr C)(h9:(b9,Obj.cells (El n f mb j7 0 0) 361 (0,0))∈Z)(h11:(Gc,Obj.cells #[ptr b9] 353 (0,0))∈Z)(h1:(b1,Obj.cells #[ptr kp] 85 (0,0))∈Z)
 (h48:(ND,Obj.cells #[.func (.func 359) #[] #[ptr Gc,ptr b1,ptr ND]] 261 (0,0))∈Z):
  ∀(k r:Nat) (es:Array MapEntry) (ck:Nat) (m:List (Nat×Nd)),K.n-dep K.n (lv ah) K.N r<=k->live K.N r->NP es ck m->(∀u d,aK m u=some d->K.N u=some d)->
  Fc zQ 359 #[u32 r,ptr Gc,ptr b1,ptr ND] ((mb,.map es ck)::(Z++C)) (λv H=>v=.tuple #[]/\∃es' bB m',H=(mb,.map es' bB)::(Z++C)/\NP es' bB m'/\SY K m m' r):=by
 have h9':=xad C h9;have Ze:=xad C h11;have sq:=xad C h1;have VK:=xad C h48;have two:=λ(u:Nat) (d:Nd) (e:K.N u=some d)=>(h.ok.mid.two e).1;have stop:∀{r:Nat} {es:Array MapEntry} {ck:Nat} {m:List (Nat×Nd)},NP es ck m->(∀u d,aK m u=some d->K.N u=some d)->(r<2\/aK m r≠none)->
   Fc zQ 359 #[u32 r,ptr Gc,ptr b1,ptr ND] ((mb,.map es ck)::(Z++C)) (λv H=>v=.tuple #[]/\∃es' bB m',H=(mb,.map es' bB)::(Z++C)/\NP es' bB m'/\SY K m m' r):=by
  intro r es ck m hE hg hr;refine aF λg=>wK ?_;refine Ld.mk (v:=ptr b9) (.tail _ Ze) rfl ?_;refine Ld.v (v:=.map (some mb)) (.tail _ h9') ?_;have fin:SY K m m r:=⟨hg,λ_ h=>h,hr,λu h h'=>absurd h' h⟩;cases hv:aK m r with
  |some d=>
   refine hE.hit (k:=r) cY (b:=mb) (by exact .head _) hv λv e=>?_;subst e;apply Ext.two;intro b8 _;refine St.p (fC d) ?_;refine cf.or (a:=true) true (λe=>by cases e) rfl λ_=>?_;exact Br.yes (aN.mk .tail ⟨rfl,es,ck,m,rfl,hE,fin⟩)
  |none=>
   have h2:r<2:=hr.resolve_right λh=>h hv;refine hE.bM (k:=r) cY (b:=mb) (by exact .head _) hv ?_;apply Ext.two;intro b8 _;refine St.p (r:=[i64 0,u32 0,u32 0]) (by simp[u32,Value.oneCell']) ?_;refine cf.or (a:=false) (decide (r<=1)) (λ_=>ae.xE (b:=1) ⟨rfl,rfl⟩) rfl λ_=>?_;rw[xam (show r<=1 by omega)];exact Br.yes (aN.mk .tail ⟨rfl,es,ck,m,rfl,hE,fin⟩)
 intro k;induction k with
 |zero=>
  intro r es ck m hk hr hE hg;refine stop hE hg (.inl ?_);cases hN:K.N r with
  |some d=>
   rw[aq hN]at hk;have:=h.ok.lv.lt _ (h.ok.mid.var hN);omega
  |none=>
   rcases hr with hr|⟨d,e⟩
   ·exact hr
   rw[hN]at e;cases e
 |succ k ih=>
  intro r es ck m hk hr hE hg;by_cases hs:r<2\/aK m r≠none
  ·exact stop hE hg hs
  have p7:¬r<2:=λh=>hs (.inl h);have hv:aK m r=none:=xaK λh=>hs (.inr h);obtain⟨d,hN⟩:∃d,K.N r=some d:=by
   rcases hr with hr|hr
   ·omega
   exact hr
  have hlt:=h.bK (.inr ⟨d,hN⟩);have hlo:=h.ok.wf.lo hN;have hhi:=h.ok.wf.hi hN;rw[aq hN]at hk;have hvl:=h.ok.lv.lt _ (h.ok.mid.var hN);refine aF λg=>wK ?_;refine Ld.mk (v:=ptr b9) (.tail _ Ze) rfl ?_;refine Ld.v (v:=.map (some mb)) (.tail _ h9') ?_;refine hE.bM (k:=r) cY (b:=mb) (by exact .head _) hv ?_;apply Ext.two;intro b8 _;refine St.p (r:=[i64 0,u32 0,u32 0]) (by simp[u32,Value.oneCell']) ?_;refine cf.or (a:=false) (decide (r<=1)) (λ_=>ae.xE (b:=1) ⟨rfl,rfl⟩) rfl λ_=>?_;rw[xal (show¬r<=1 by omega)];refine Br.no (Ld.mk (v:=ptr kp) (.tail _ (.tail _ sq)) rfl ?_);refine aa.eq (args:=#[ptr kp,u32 r]) (iS h.rep zO) ?_;rw[dX hN (two r d hN)];apply Ext.two;intro Bl _;refine St.p (fC d) ?_;refine DR.of (.refl _) (Ld.mk (v:=ptr b9) (.tail _ (.tail _ (.tail _ Ze))) rfl ?_);refine Ld.v (v:=.map (some mb)) (.tail _ (.tail _ (.tail _ h9'))) ?_;refine ay.q ?_;intro G;refine hE.bg (k:=r) (b:=mb) (x:=d) cY gN rfl λj9 jL FA=>⟨_,.tail (.tail (.head _)),?_⟩;have g1:∀u e,aK (dZ m r d) u=some e->K.N u=some e:=λu e hu=>by
   rw[bJ]at hu;split at hu
   ·cases hu;subst u;exact hN
   exact hg u e hu
  refine Ld.mk (v:=.func (.func 359) #[] #[ptr Gc,ptr b1,ptr ND]) (.tail _ (.tail _ (.tail _ VK))) rfl ?_;refine Ld.f (v:=u32 d.lo) ?_;refine aL.of rfl zK (aa.fq (args:=#[u32 d.lo,ptr Gc,ptr b1,ptr ND]) (ih d.lo j9 jL _ zO hlo.1 FA g1) ?_);rintro v H ⟨rfl,gR,iE,m2,rfl,sn,w2⟩;refine Ld.mk (v:=.func (.func 359) #[] #[ptr Gc,ptr b1,ptr ND]) (.tail _ (.tail _ (.tail _ VK))) rfl ?_;refine Ld.f (v:=u32 d.hi) ?_;refine aL.of rfl zK (aa.fq (args:=#[u32 d.hi,ptr Gc,ptr b1,ptr ND]) (ih d.hi gR iE m2 zO hhi.1 sn w2.good) ?_);rintro v H ⟨rfl,oP,qq,m3,rfl,OY,w3⟩;have r1:aK (dZ m r d) r≠none:=by rw[bJ,xae rfl];simp
  refine aN.mk (.skip .tail) ⟨rfl,oP,qq,m3,rfl,OY,⟨w3.good,λu hu=>w3.sub u (w2.sub u ?_),.inr (w3.sub r (w2.sub r r1)),λu hu hn=>?_⟩⟩
  ·rw[bJ];split
   ·simp
   exact hu
  by_cases U7:aK m2 u=none
  ·exact w3.shut u hu U7
  by_cases Fq:aK (dZ m r d) u=none
  ·obtain⟨e,he,a,b⟩:=w2.shut u U7 Fq;exact⟨e,he,a.imp id (w3.sub _),b.imp id (w3.sub _)⟩
  rw[bJ]at Fq;split at Fq
  ·subst u;exact⟨d,hN,w2.has.imp id (w3.sub _),w3.has⟩
  exact absurd hn Fq
end
section
variable {kp:Nat} {K:Kd} {S:Nat->aA.Fn} {ord ah tr:zL} {C:Hp}
theorem XM(h:cc kp K S ord ah tr C){f:Nat}(hf:live K.N f):Fc zQ 293 #[ptr kp,u32 f] C (λv H=>∃d0 nm j7 Bj Bk m B,v=ptr d0/\j7.oneCell'=true/\H=(d0,.cells (El K.n f nm j7 0 0) 361 (0,0))::((nm,.map Bj Bk)::(B++C))/\NP Bj Bk m/\
  (∀u e,Rc K.N (λq=>q=f) u->K.N u=some e->aK m u=some e)/\dA .i64 B j7 (iw ((List.range K.n).map (lv ah)))):=by
 have si:=h.aZ.lq;refine aF λg=>HM ?_;intro b1 _;refine Ld.q ?_;refine aa.eq (gM h.rep) ?_;intro nm _;refine Build.mk (cs:=[i64 (K.n:Int),u32 f,.map (some nm),.slice none 0 0,u64 0,u64 0]) zK ?_;intro b9 _ Gc _;refine St.one (c':=#[ptr b9]) (by exact .head _) rfl zI rfl ?_;refine Ld.q ?_;refine Ld.n (v:=i64 (K.n:Int)) ?_;refine⟨λvs H=>∃(j:Nat) (j7:zV) (CL:Hp),vs=[i64 (j:Int)]/\j<=K.n/\j7.oneCell'=true/\aQ 3 .i64 j7 (iw ((List.range j).map (lv ah))) CL/\
   H=(Gc,.cells #[ptr b9] 353 (0,0))::(b9,.cells (El K.n f nm j7 0 0) 361 (0,0))::(nm,.map #[] 0)::(b1,.cells #[ptr kp] 85 (0,0))::(CL++C),λvs _=>K.n-bL vs 0,
  JE.mk ⟨0,.slice none 0 0,[],rfl,xaO _,rfl,aQ.nil,rfl⟩,?_⟩
 rintro w H ⟨j,j7,CL,⟨⟩,hj,ho,hL,rfl⟩ gs;refine ae.fi (Br.dec (λhlt=>?_) (λhge=>?_))
 ·refine Ld.q ?_;refine aa.eq (lK h.rep _) ?_;rw[xae ⟨by omega,by omega⟩];refine Ext.two (DR.of (R:=(Gc,Obj.cells #[ptr b9] 353 (0,0))::(b9,.cells (El K.n f nm j7 0 0) 361 (0,0))::C) (.cons (.cons (.skip (.skip .right)))) (Ld.q ?_));refine Ld.q ?_;refine Ld.n (v:=j7) ?_;intro G;refine av.int (e:=3) zK zK zK λbx=>?_;refine⟨.skip (.cons (.cons (.skip (.skip .right)))),?_⟩;intro G;refine hL.rB (.cons (.cons (.cons (.cons (.cons .left))))) (by exact .head _) zP zP λv' N' cC=>?_;refine⟨.skip (.cons (.cons (.skip (.skip .right)))),?_⟩;refine .ptr (.mk ?_);intro G;have nR:v'.oneCell'=true:=by
   obtain⟨x,y,z,rfl⟩:∃x y z,v'=.slice x y z:=by
    rcases cC with⟨rfl,_⟩|⟨b,c,rfl,_⟩
    ·exact⟨_,_,_,rfl⟩
    exact⟨_,_,_,rfl⟩
   rfl
  refine St.one (c':=El K.n f nm v' 0 0) (by exact .tail (.tail (.head _))) nR zI rfl ?_;refine ae.inc (aC.of .tail ⟨j+1,v',N',rfl,hlt,nR,?_,rfl⟩ (by simp only[bL];omega));rw[xcl,xaJ,cj];rw[xbe]at cC;exact cC
 obtain rfl:j=K.n:=by omega
 intro ND _;refine St.one (c':=#[.func (.func 359) #[] #[ptr Gc,ptr b1,ptr ND]]) (by exact .head _) rfl zI rfl ?_;refine Ld.q ?_;refine aL.of rfl zK ?_;obtain⟨Z,hZ⟩:∃Z:Hp,Z=(ND,Obj.cells #[.func (.func 359) #[] #[ptr Gc,ptr b1,ptr ND]] 261 (0,0))::(Gc,.cells #[ptr b9] 353 (0,0))::(b9,.cells (El K.n f nm j7 0 0) 361 (0,0))::(b1,.cells #[ptr kp] 85 (0,0))::CL:=⟨_,rfl⟩;refine aa.pre (H':=(nm,Obj.map #[] 0)::(Z++C)) (by rw[hZ];exact .perm (xaT (l₁:=[_,_,_]))) ?_;refine aa.fn (args:=#[u32 f,ptr Gc,ptr b1,ptr ND]) .here (Ub (Z:=Z) (b9:=b9) (n:=K.n) (f:=f) (j7:=j7) h (by rw[hZ];simp) (by rw[hZ];simp) (by rw[hZ];simp) (by rw[hZ];simp) K.n f #[] 0 [] (xdt _ _) hf aE.empty (λu d e=>by cases e)) ?_;rintro v H ⟨rfl,es',bB,m',rfl,C8,w'⟩;refine Ld.mk (v:=ptr b9) (.tail _ (xad _ (by rw[hZ];exact .tail _ (.head _)))) rfl ?_;refine aN.mk ?_ ⟨b9,nm,j7,es',bB,m',CL,rfl,ho,rfl,C8,w'.cov (λu d e=>(h.ok.mid.two e).1),hL.ints⟩;rw[hZ];exact .trans (.cons (.skip (.skip (.cons .tail)))) .swap
def Lst(n:Nat)(f:aA.Fn)(V:Nat):Prop:=(∀j,n<=j->V.testBit j=false)/\∀v,v<n->(V.testBit v=true↔¬∃x:Nat,(∀j,v<j->j<n->x.testBit j=V.testBit j)/\x.testBit v=false/\f x=true)
theorem Mr(h:cc kp K S ord ah tr C){f:Nat}(hf:live K.N f)(h0:f≠0):Rd zQ 148 #[ptr kp,u32 f] C (λv=>∃V,V<18446744073709551616/\Lst K.n (S f) V/\v=.tuple #[u64 V,i64 0]):=by
 have si:=h.aZ.lq;have aaz:∃x,S f x=true:=by
  refine xaK λhno=>h0 ?_;have:S f=S 0:=funext λx=>by
   rw[h.ok.mid.int.zero];cases e:S f x with
   |false=>rfl
   |true=>exact absurd ⟨x,e⟩ hno
  exact h.ok.wf.same h.ok.lv h.ok.mid.int hf (.inl zD) λx=>congrFun this x
 refine aF λg=>xf ?_;refine aa.rq (Q:=λv=>∃V,V<18446744073709551616/\Lst K.n (S f) V/\v=.tuple #[u64 V,i64 0]) (aF λg=>xd ?_) ?_;rotate_left
 ·rintro v ⟨V,h1,h2,rfl⟩;exact Ext.two (bc.mk (.refl _) ⟨V,h1,h2,rfl⟩)
 refine aa.eq (s6 h hf) ?_;rw[xab h0];refine ae.cG (Br.F (aa.fq (XM h hf) ?_));rintro v H ⟨d0,nm,j7,Bj,Bk,m,B,rfl,ho,rfl,hE,afz,hL⟩;obtain⟨X,hX⟩:∃X:Hp,X=(nm,Obj.map Bj Bk)::(B++C):=⟨_,rfl⟩;rw[<-hX];have vw:∀F V,F<18446744073709551616->V<18446744073709551616->Wj K S ah ((List.range K.n).map (lv ah)) m K.n f F V d0 0 nm j7 Bj Bk ((d0,.cells (El K.n f nm j7 F V) 361 (0,0))::X):=λF V hF hV=>
  ⟨h.ok,si,rfl,.head _,by rw[hX];exact .tail _ (.head _),hE,afz,hL.mono λx hx=>by rw[hX];exact .tail _ (.tail _ (xad _ hx)),λv hv=>by simp[hv],hF,hV⟩
 refine aa.rq (xZ (vw 0 0 zD zD) zI hf) ?_;intro t ht;refine aa.eq (x5 (C:=X) ht) ?_;have e0:qT K.n 0 0 (S f)=true:=by
  obtain⟨x,hx⟩:=aaz;exact pU.2 ⟨x,λj _ hj=>by simp at hj,hx⟩
 rw[e0];refine Un.not (Br.no (Ld.n (v:=i64 (K.n:Int)) ?_));refine ae.kx (c:=(K.n:Int) -1) rfl zO ?_;refine⟨λvs H=>∃(j F V:Nat),vs=[u64 0,i64 ((j:Int) -1)]/\j<=K.n/\F<18446744073709551616/\V<18446744073709551616/\H=(d0,.cells (El K.n f nm j7 F V) 361 (0,0))::X/\(∀i,F.testBit i=(decide (j<=i) &&decide (i<K.n)))/\(∀i,i<j\/K.n<=i->V.testBit i=false)/\
   ∀v,j<=v->v<K.n->(V.testBit v=true↔¬∃x:Nat,(∀i,v<i->i<K.n->x.testBit i=V.testBit i)/\x.testBit v=false/\S f x=true),
  λvs _=>match vs with| [_,.int _ q]=>(q+1).toNat|_=>0,
  JE.mk ⟨K.n,0,0,rfl,xaj _,by decide,by decide,rfl,λi=>?_,λi _=>by simp,λv a b=>by omega⟩,?_⟩
 ·rw[xcN];by_cases e:K.n<=i
  ·rw[xal (show¬i<K.n by omega),xea]
  rw[xal e,xd6]
 rintro w1 w2 H ⟨j,F,V,⟨⟩,hj,hF,hV,rfl,hFb,YX,hVb⟩ gs;refine ae.geq (Br.dec (λhge=>?_) (λhlt=>?_))
 ·obtain⟨i,rfl⟩:∃i,j=i+1:=⟨j-1,by omega⟩;have ei:(((i+1:Nat):Int) -1)=(i:Int):=by omega
  rw[ei];intro J hJ;have back:∀F' V':Nat,F'<18446744073709551616->V'<18446744073709551616->(∀a,F'.testBit a=(decide (i<=a) &&decide (a<K.n)))->(∀a,a<i\/K.n<=a->V'.testBit a=false)->
    (∀v,i<=v->v<K.n->(V'.testBit v=true↔¬∃x:Nat,(∀a,v<a->a<K.n->x.testBit a=V'.testBit a)/\x.testBit v=false/\S f x=true))->J [u64 0] ((d0,.cells (El K.n f nm j7 F' V') 361 (0,0))::X):=λF' V' a b c d e=>hJ _ _ λ_=>by
   refine ae.kx (c:=(i:Int) -1) rfl zO (aC.mk ⟨i,F',V',rfl,by omega,a,b,rfl,c,d,e⟩ ?_);show((i:Int) -1+1).toNat<((i:Int)+1).toNat;omega
  refine aa.fq (JV (C:=X) (b:=0) ho zO zD hF hV) ?_;rintro w H ⟨rfl,F1,V1,rfl,hF1,hV1,agb,afO⟩;have same:V1=V:=xaX λa=>by
   rw[afO];split
   ·subst a;rw[YX i (.inl zO)];rfl
   rfl
  subst same;have fb:∀a,F1.testBit a=(decide (i<=a) &&decide (a<K.n)):=λa=>by
   rw[agb,hFb];by_cases e:a=i
   ·subst e;rw[xam (show a<K.n by omega),xam rfl,xam (xaj a)];simp
   rw[xal e,xdu];congr 1;exact xcp.2 zO
  refine aa.rq (xZ (vw F1 V1 hF1 hV1) zI hf) ?_;intro t ht;intro b31 _;have ht':=ht;obtain⟨rr,rfl,xq,O2⟩:=ot ht;refine St.p (r:=rr) O2 ?_ (hr:=xq);refine ay.q ?_ (hr:=xq);refine aa.eq (x5 (C:=X) ht') (Un.not ?_);have qi:qT K.n F1 V1 (S f)=true↔∃x:Nat,(∀a,i<a->a<K.n->x.testBit a=V1.testBit a)/\x.testBit i=false/\S f x=true:=by
   rw[pU];constructor
   ·rintro⟨x,hx,hS⟩;refine⟨x,λa ha hn=>hx a hn (by rw[fb,xam (show i<=a by omega),xam hn];rfl),?_,hS⟩;rw[hx i zO (by rw[fb,xam (xaj i),xam (show i<K.n by omega)];rfl)];exact YX i (.inl zO)
   rintro⟨x,hx,hxi,hS⟩;refine⟨x,λa hn hF=>?_,hS⟩;rw[fb,xav,xaA,xaA]at hF;by_cases e:a=i
   ·subst e;rw[hxi];exact(YX a (.inl zO)).symm
   exact hx a zO hn
  refine Br.mk (λhb=>?_) (λhb=>?_)
  ·have hno:qT K.n F1 V1 (S f)=false:=by simpa using hb
   have hz:∃q,rr=[u64 0,q]:=by
    obtain⟨n,b,hn,e,hp⟩:=ht';rw[hno]at hp;have:rr=[u64 n,.bool b]:=by
     have:=Value.agg.inj e;simpa using this
    rw[xaF,xbq]at hp;have e0:n=0:=xaK hp.2;exact⟨.bool b,by rw[this,e0]⟩
   obtain⟨q,rfl⟩:=hz;refine Ld.f (v:=u64 0) ?_;refine ae.xx (b:=0) zD (xaj _) (aa.pre .tail ?_);refine aa.fq (JV (C:=X) (b:=1) ho zO zD hF1 hV1) ?_;rintro w H ⟨rfl,F2,V2,rfl,hF2,hV2,aga,ab4⟩;have v2:∀a,a≠i->V2.testBit a=V1.testBit a:=λa ha=>by rw[ab4,xab ha]
   refine JE.mk (back F2 V2 hF2 hV2 (λa=>?_) (λa ha=>?_) λv hv ON=>?_)
   ·rw[aga,fb];by_cases e:a=i
    ·subst e;rw[xam (show a<K.n by omega),xam rfl,xam (xaj a)];rfl
    rw[xal e,xdu]
   ·rw[v2 a zO];exact YX a zO
   have agx:∀x:Nat,(∀a,v<a->a<K.n->x.testBit a=V2.testBit a)↔(∀a,v<a->a<K.n->x.testBit a=V1.testBit a):=λx=>
    ⟨λq a h1 h2=>by rw[q a h1 h2,v2 a zO],λq a h1 h2=>by rw[q a h1 h2,v2 a zO]⟩
   simp only[agx];by_cases e:v=i
   ·subst e;rw[ab4,xae rfl];have:=mt qi.2 (by rw[hno];decide);simp only[this,not_false_eq_true];decide
   rw[v2 v e];exact hVb v zO ON
  have QV:qT K.n F1 V1 (S f)=true:=by simpa using hb
  refine JE.of .tail (back F1 V1 hF1 hV1 fb (λa ha=>YX a zO) λv hv ON=>?_);by_cases e:v=i
  ·subst e;rw[YX v (.inl zO)];simp only[qi.1 QV,not_true_eq_false];decide
  exact hVb v zO ON
 obtain rfl:j=0:=by omega
 refine Ld.n (v:=u64 V) ?_;refine bc.mk ?_ ⟨V,hV,⟨λi hi=>YX i (.inr hi),λv hv=>hVb v (xaO _) hv⟩,rfl⟩;rw[hX];exact .skip (.skip .right)
theorem Ms(h:cc kp K S ord ah tr C):Rd zQ 148 #[ptr kp,u32 0] C (· =.tuple #[u64 0,i64 10]):=by
 refine aF λg=>xf ?_;refine aa.rq (Q:=λv=>v=.tuple #[u64 0,i64 10]) (aF λg=>xd ?_) ?_;rotate_left
 ·rintro v rfl;exact Ext.two (bc.mk (.refl _) rfl)
 refine aa.eq (s6 h (.inl zD)) ?_;rw[xae rfl];exact ae.cG (Br.T (bc.mk (.refl _) rfl))
end
end
end Go.Proofs
namespace aA
open an
variable {n:Nat} {ord:zL}
def Xk(ord:zL)(L:List Fn):Nat->List Fn
 |0=>L
 |l+1=>(Xk ord L l).flatMap λf=>[λx=>f (aB x (ord.getD l 0) false),λx=>f (aB x (ord.getD l 0) true)]
theorem vR(L:List Fn):∀l,(Xk ord L l).length=L.length*2^l
 |0=>by simp[Xk]
 |l+1=>by
  rw[Xk,List.length_flatMap];simp only[xay,xch];rw[List.map_const',List.sum_replicate_nat,vR L l,xd0,xcK]
theorem R1{F:Fn->Prop}{L:List Fn}(h:∀g,F g->g∈L):∀l g,fs ord F l g->g∈Xk ord L l
 |0,g,hg=>h g hg
 |l+1,g,⟨f,hf,b,e⟩=>by
  rw[Xk,List.mem_flatMap];refine⟨f,R1 h l f hf,?_⟩;subst e;cases b<;>simp
def DU(ord:zL)(L:List Fn):Nat->List Fn
 |0=>[]
 |k+1=>DU ord L k++Xk ord L k
theorem tq{ord:zL}(L:List Fn):∀k,(DU ord L k).length+L.length=L.length*2^k
 |0=>by simp[DU]
 |k+1=>by
  have:=tq (ord:=ord) L k;rw[DU,xaf,vR,xd0];have e:L.length*(2^k*2)=L.length*2^k+L.length*2^k:=by rw[<-xcK,Nat.mul_two]
  omega
theorem Ck{L:List Fn}{g:Fn}{l:Nat}(h:g∈Xk ord L l):∀k,l<k->g∈DU ord L k
 |0,hk=>by omega
 |k+1,hk=>by
  rw[DU,xan];by_cases e:l=k
  ·subst e;exact .inr h
  exact .inl (Ck h k zO)
theorem yg{F:Fn->Prop}{L:List Fn}(h:∀g,F g->g∈L):∀g,aG n ord F g->g∈DU ord L n:=by
 rintro g ⟨l,hl,hg,_⟩;exact Ck (R1 h l g hg) n hl
theorem B8:∀l:List Fn,∃l':List Fn,l'.Nodup/\l'.length<=l.length/\∀g,g∈l↔g∈l'
 | []=>⟨[],List.nodup_nil,xaj _,λ_=>xcT⟩
 |f::l=>by
  obtain⟨l',h1,h2,h3⟩:=B8 l;by_cases hm:f∈l'
  ·refine⟨l',h1,Nat.le_succ_of_le h2,λg=>?_⟩;rw[xak,h3];exact⟨λh=>h.elim (λe=>e▸hm) id,.inr⟩
  exact⟨f::l',xaV.2 ⟨hm,h1⟩,Nat.succ_le_succ h2,λg=>by rw[xak,xak,h3]⟩
theorem Le{U:Fn->Prop}{l:List Fn}(h:∀g,U g->g∈l):∃k,k<=l.length/\o7 U k:=by
 classical
 obtain⟨l',h1,h2,h3⟩:=B8 l;refine⟨(l'.filter λg=>decide (U g)).length,xbO (xbZ _ _) h2,_,h1.filter _,rfl,λg=>?_⟩;rw[xbS,xaA,<-h3];exact⟨λx=>⟨h g x,x⟩,λx=>x.2⟩
theorem EZ{F:Fn->Prop}{L:List Fn}{cap:Nat}(h:∀g,F g->g∈L)(hc:L.length*2^n+2<=cap):∃ku,o7 (aG n ord F) ku/\ku+2<=cap:=by
 obtain⟨k,h1,h2⟩:=Le (yg (n:=n) (ord:=ord) h);have:=tq (ord:=ord) L n;exact⟨k,h2,by omega⟩
end aA
set_option maxRecDepth 100000
namespace Go.Proofs
open Go Go.Sx
section
open aA
section
variable {sp kp mb nx:Nat} {c:Cf} {K:Kd} {S:Nat->aA.Fn} {ord ah tr:zL} {hs:List (Int×Nat)} {es:Array MapEntry} {ck:Nat} {C:Hp} {x:fM}
theorem PA(h:ij kp nx c K S ord ah tr hs es ck C):
  Rd zQ 91 #[ptr sp,x.v] (gS sp c kp mb nx es ck C) (· =if(aK hs x.a).isSome then eZ 0 (-1) (sz c.n ord (λg=>g=bU S hs x.a)) 0 else eZ 3 (-1) 0 0):=by
 refine aF λg=>NY ?_;intro b1 _ b3 _;refine Ld.f (v:=i64 x.a) ?_;refine aa.eq (eJ h x.a) (Un.not ?_);cases hm:aK hs x.a with
 |none=>
  refine Br.yes (aa.eq (cB _ _) (St.p (r:=[i64 3,i64 (-1),u64 0,i64 0]) (bI _ _ _ _) ?_));refine ay.q ?_;exact bc.mk (.skip .tail) rfl
 |some r=>
  apply Br.no;have hl:=h.live _ (h.find hm);refine DR.of (.refl _) (Ld.n (v:=ptr kp) ?_);refine Ld.n (v:=.map (some mb)) ?_;refine Ld.f (v:=i64 x.a) ?_;refine h.dG.hit (k:=x.a) (bZ _) (b:=mb) (by exact .tail _ (.tail _ (.tail _ (.head _)))) hm λv e=>?_;subst e;intro F;refine av.int (e:=110) (x:=(r:Int)) zK zK zK λbx=>?_;refine⟨.tail,?_⟩;intro F;refine aa.pre (H':=[(bx,Obj.cells (ax .u32 [(r:Int)]) 110 (0,0)),(b3,.cells #[i64 0,i64 0,u64 0,i64 0] 37 (0,0)),(b1,.cells (Value.cells x.v) 35 (0,0)),jh sp c kp mb nx,(mb,.map es ck)]++C) (.refl _) ?_;refine aa.eq (args:=#[ptr kp,.slice (some ⟨bx,0,none⟩) 1 1]) (Sk h.ks hl (.head _)) (⟨.tail,?_⟩);refine Ext.two (br.of (m:=((sz K.n ord (λg=>g=S r):Nat):Int)) (fc (kd:=.u64) ?_) ?_)
  ·have hc:=h.ks.ok.size h.ks.od;have hroom:=h.ks.ok.mid.cap;have hcap:=h.ks.rep.cap;obtain⟨k,hk,lY⟩:=Le (U:=aG K.n ord (λg=>g=S r)) (l:=DU ord [S r] K.n) (yg zI);have hle:k<=1048576:=by
    by_cases h2:2<=r
    ·have s9:K.held S (S r):=⟨r,by show K.hold r≠0;rw[h.hold,xae h2];exact xdp (xbJ.2 (xaP (f:=Prod.snd) (h.find hm))),rfl⟩;have ajP:=lY.le hc λg hg=>cK (λg e=>by rw[e];exact s9) hg;omega
    have:k=0:=lY.uniq (o7.none.congr λg=>⟨False.elim,λhg=>qt (λv=>λhv=>h2 ((iA h.ks hl).2 ⟨v,hv⟩)) g hg⟩);omega
   rw[J4 lY];exact xaC hle zD
  refine aa.eq (dR _ 0 _) (St.p (r:=[i64 0,i64 (-1),u64 (sz K.n ord (λg=>g=S r)),i64 0]) (bI _ _ _ _) ?_);refine ay.q ?_;exact bc.mk (.skip (.skip .tail)) (by rw[bA hm,<-h.n];rfl)
theorem Kj(h:ij kp nx c K S ord ah tr hs es ck C)(hno:aK hs x.a=none\/∃r,aK hs x.a=some r/\2<=r/\K.hold r=65535):
  Rd zQ 86 #[ptr sp,x.v] (gS sp c kp mb nx es ck C) (· =if(aK hs x.a).isSome then eZ 8 (-1) 0 0 else eZ 3 (-1) 0 0):=by
 refine aF λg=>zn ?_;intro b1 _ b3 _;refine Ld.n (v:=.map (some mb)) ?_;refine Ld.f (v:=i64 x.a) ?_;refine h.dG.look (k:=x.a) (bZ _) (b:=mb) (by exact .tail _ (.tail _ (.tail _ (.head _)))) (λr v hr hv=>?_) (λhr=>?_)
 ·subst hv;refine Ext.two (Un.not (Br.no (Ld.n (v:=ptr kp) ?_)));rcases hno with e|⟨q,hq,h2,hf⟩
  ·rw[hr]at e;cases e
  rw[hr]at hq;cases hq;refine aa.eq (args:=#[ptr kp,u32 r]) (oJ h.ks (h.live _ (h.find hr)) h2 hf) (ae.cG (Br.T (aa.eq (cB _ _) (St.p (r:=[i64 8,i64 (-1),u64 0,i64 0]) (bI _ _ _ _) ?_))));refine ay.q ?_;exact bc.mk (.skip .tail) (by rw[hr];rfl)
 refine Ext.two (Un.not (Br.yes (aa.eq (cB _ _) (St.p (r:=[i64 3,i64 (-1),u64 0,i64 0]) (bI _ _ _ _) ?_))));refine ay.q ?_;exact bc.mk (.skip .tail) (by rw[hr];rfl)
theorem Uc(h:ij kp nx c K S ord ah tr hs es ck C)(CJ:nx+1<9223372036854775808){r:Nat}(hr:aK hs x.a=some r)(hf:2<=r->K.hold r<65535):
  Fc zQ 86 #[ptr sp,x.v] (gS sp c kp mb nx es ck C) (λv H=>v=eZ 0 nx 0 0/\∃K' es' bB C',H=gS sp c kp mb (nx+1) es' bB C'/\ij kp (nx+1) c K' S ord ah [] (hs++[((nx:Int),r)]) es' bB C'):=by
 have hl:=h.live _ (h.find hr);refine aF λg=>zn ?_;intro b1 _ b3 _;refine Ld.n (v:=.map (some mb)) ?_;refine Ld.f (v:=i64 x.a) ?_;refine h.dG.hit (k:=x.a) (bZ _) (b:=mb) (by exact .tail _ (.tail _ (.tail _ (.head _)))) hr λv hv=>?_;subst hv;refine Ext.two (Un.not (Br.no (Ld.n (v:=ptr kp) ?_)));refine aa.fq (args:=#[ptr kp,u32 r]) (mM h.ks hl hf) ?_;rintro v H ⟨rfl,K',dh,hm⟩;refine ae.cG (Br.F (aa.fq (yP h.dG h.key CJ r 0) ?_));rintro v H2 ⟨rfl,es',bB,rfl,he⟩;refine St.p (r:=[i64 0,i64 nx,u64 0,i64 0]) (bI _ _ _ _) ?_;refine ay.q ?_;have hg:kO K S K' S (S r) r:=⟨hm.n,hm.cap,λs d hd=>by rw[hm.N];exact hd,λ_ _=>rfl,by rw[hm.N];exact hl,rfl,λs=>by rw[hm.hold];split<;>rfl⟩;exact aN.mk (.skip .tail) ⟨rfl,K',es',bB,H,rfl,(h.grow dh hg he).1⟩
theorem count_erase{l:List (Int×Nat)}{a:Int}{r:Nat}(eY:(l.map Prod.fst).Nodup)(hm:(a,r)∈l)(s:Nat):((ia l a).map Prod.snd).count s=(l.map Prod.snd).count s-if s=r then 1 else 0:=by
 induction l with
 |nil=>cases hm
 |cons p l ih=>
  obtain⟨k,q⟩:=p;rw[xaB,xaV]at eY;unfold ia at*;by_cases hk:k=a
  ·subst hk;have hq:q=r:=by
    rcases xak.1 hm with e|hm
    ·cases e;rfl
    exact absurd (xaP (f:=Prod.fst) hm) eY.1
   subst hq;have e:(l.filter λy=>decide ¬y.1=k)=l:=xcg.2 λy hy=>by
    have:y.1≠k:=λe=>eY.1 (by rw[<-e];exact xao.2 ⟨y,hy,rfl⟩);simpa using this
   rw[xbk,xab zI,e,xaB,xb3];by_cases hs:s=q
   ·subst hs;simp
   have:(q==s)=false:=by simpa using λe=>hs e.symm
   simp[hs,this]
  have hm':(a,r)∈l:=by
   rcases xak.1 hm with e|hm
   ·cases e;exact absurd rfl hk
   exact hm
  rw[xbk,xae (by simpa using hk),xaB,xaB,xb3,xb3,ih eY.2 hm'];by_cases hs:s=r
  ·subst hs;have:0<(l.map Prod.snd).count s:=xbJ.2 (xaP (f:=Prod.snd) hm');rw[xae rfl];omega
  rw[xab hs];rfl
theorem PI(h:ij kp nx c K S ord ah tr hs es ck C){r:Nat}(hr:aK hs x.a=some r):
  Fc zQ 87 #[ptr sp,x.v] (gS sp c kp mb nx es ck C) (λv H=>v=eZ 0 (-1) 0 0/\∃K' es' C',H=gS sp c kp mb nx es' ck C'/\ij kp nx c K' S ord ah [] (ia hs x.a) es' ck C'):=by
 have hmem:=h.find hr;have hl:=h.live _ hmem;have hlt:=h.ks.bK hl;have hh:2<=r->K.hold r≠0:=λh2=>by
  rw[h.hold,xae h2];exact xdp (xbJ.2 (xaP (f:=Prod.snd) hmem))
 refine aF λg=>zm ?_;intro b1 _ b3 _;refine Ld.n (v:=.map (some mb)) ?_;refine Ld.f (v:=i64 x.a) ?_;refine h.dG.hit (k:=x.a) (bZ _) (b:=mb) (by exact .tail _ (.tail _ (.tail _ (.head _)))) hr λv hv=>?_;subst hv;refine Ext.two (Un.not (Br.no (Ld.n (v:=ptr kp) ?_)));refine aa.fq (args:=#[ptr kp,u32 r]) (mU h.ks zO hh) ?_;rintro v H ⟨rfl,K',dh,hm⟩;refine DR.of (.refl _) (Ld.n (v:=.map (some mb)) ?_);refine Ld.f (v:=i64 x.a) ?_;intro F;refine aE.del (k:=x.a) (bZ _) h.dG (.tail _ (.tail _ (.tail _ (.head _)))) λes' he=>⟨_,.tail (.tail (.tail (.head _))),?_⟩;refine aa.eq (dR 0 0 _) (St.p (r:=[i64 0,i64 (-1),u64 0,i64 0]) (bI _ _ _ _) ?_);refine ay.q ?_;have hsub:∀p,p∈ia hs x.a->p∈hs:=λp hp=>(xbS.1 hp).1;have W7:∀s,K'.hold s=if 2<=s then((ia hs x.a).map Prod.snd).count s else 0:=λs=>by
  rw[hm.hold,h.hold,count_erase h.dG.nd hmem];by_cases h2:2<=s
  ·rw[xae h2,xae h2];by_cases e:s=r
   ·rw[xae ⟨e,by omega⟩,xae e]
   rw[xab (λh=>e h.1),xab e];rfl
  rw[xab h2,xab h2,xab (λh=>h2 zO)]
 refine aN.mk (.skip .tail) ⟨rfl,K',es',H,rfl,⟨dh,hm.n.trans h.n,hm.cap.trans h.cap,he,λp hp=>?_,W7,λp hp=>h.lt p (hsub p hp)⟩⟩;by_cases h2:2<=p.2
 ·refine .inr (dh.ok.mid.held p.2 ?_);rw[W7,xae h2];exact xdp (xbJ.2 (xaP (f:=Prod.snd) hp))
 exact .inl zO
theorem PJ(h:ij kp nx c K S ord ah tr hs es ck C)(hr:aK hs x.a=none):
  Rd zQ 87 #[ptr sp,x.v] (gS sp c kp mb nx es ck C) (· =eZ 3 (-1) 0 0):=by
 refine aF λg=>zm ?_;intro b1 _ b3 _;refine Ld.n (v:=.map (some mb)) ?_;refine Ld.f (v:=i64 x.a) ?_;refine h.dG.bM (k:=x.a) (bZ _) (b:=mb) (by exact .tail _ (.tail _ (.tail _ (.head _)))) hr ?_;refine Ext.two (Un.not (Br.yes (aa.eq (cB _ _) (St.p (r:=[i64 3,i64 (-1),u64 0,i64 0]) (bI _ _ _ _) ?_))));refine ay.q ?_;exact bc.mk (.skip .tail) rfl
theorem BL{C0:Hp}{e:Int}(he:e≠0)(hex:Rd zQ 151 #[ptr kp,i64 x.a] C0 (· =i64 e)):
  Rd zQ 96 #[ptr sp,x.v] (gS sp c kp mb nx es ck C0) (· =eZ e (-1) 0 0):=by
 refine aF λg=>zk ?_;intro b1 _ b3 _;refine DR.of (.refl _) (Ld.n (v:=ptr kp) ?_);refine Ld.f (v:=i64 x.a) ?_;intro F;refine aa.eq (args:=#[ptr kp,i64 x.a]) hex ?_;intro F;refine aa.eq (dR 0 e _) ?_;intro F;rw[xab he];refine St.p (r:=[i64 e,i64 (-1),u64 0,i64 0]) (bI _ _ _ _) ?_;refine ay.q ?_;exact bc.mk (.skip .tail) rfl
theorem PK{C0:Hp}{Q:Hp->Prop}(hex:Fc zQ 151 #[ptr kp,i64 x.a] C0 (λv H=>v=i64 0/\Q H)):
  Fc zQ 96 #[ptr sp,x.v] (gS sp c kp mb nx es ck C0) (λv H=>v=eZ 0 (-1) 0 0/\∃C',H=gS sp c kp mb nx es ck C'/\Q C'):=by
 refine aF λg=>zk ?_;intro b1 _ b3 _;refine DR.of (R:=(b3,.cells #[i64 0,i64 0,u64 0,i64 0] 37 (0,0))::(b1,.cells (Value.cells x.v) 35 (0,0))::gS sp c kp mb nx es ck C0) (.refl _) (Ld.n (v:=ptr kp) ?_);refine Ld.f (v:=i64 x.a) ?_;intro F;refine aa.fq (args:=#[ptr kp,i64 x.a]) hex ?_;rintro v C' ⟨rfl,hQ⟩;intro F;refine aa.eq (dR 0 0 _) ?_;intro F;refine St.p (r:=[i64 0,i64 (-1),u64 0,i64 0]) (bI _ _ _ _) ?_;refine ay.q ?_;exact aN.mk (.skip .tail) ⟨rfl,C',rfl,hQ⟩
theorem zY{C0:Hp}(ha:x.a<0\/6<x.a):Rd zQ 97 #[ptr sp,x.v] (gS sp c kp mb nx es ck C0) (· =eZ 1 (-1) 0 0):=by
 refine aF λg=>zj ?_;intro b1 _ b3 _;refine Ld.f (v:=i64 x.a) ?_;refine ae.lss (cf.or (decide (6<x.a)) (λ_=>Ld.f (v:=i64 x.a) (ae.gtr ⟨rfl,rfl⟩)) rfl λ_=>?_);rw[<-xa7,xam ha];refine Br.yes (aa.eq (cB _ _) (St.p (r:=[i64 1,i64 (-1),u64 0,i64 0]) (bI _ _ _ _) ?_));refine ay.q ?_;exact bc.mk (.skip .tail) rfl
theorem nC{C0:Hp}{s:Nat}(hs:x.a=s)(Yn:s<=6){Q:Int->Nat->Hp->Prop}(hrun:Fc zQ 85 #[ptr kp,.int .u8 (s:Int),i64 x.b] C0 (λv H=>∃(a b d:Int) (t:Bool) (e:Int),v=.tuple #[tF a b d t,i64 e]/\∃n,Q e n H/\Rd zQ 140 #[ptr kp] H (· =i64 ((n:Nat):Int))/\n<18446744073709551616)):
  Fc zQ 97 #[ptr sp,x.v] (gS sp c kp mb nx es ck C0) (λv H=>∃e n C',v=(if e=0 then eZ 0 (-1) n 0 else eZ e (-1) 0 0)/\H=gS sp c kp mb nx es ck C'/\Q e n C'):=by
 refine aF λg=>zj ?_;intro b1 _ b3 _;refine Ld.f (v:=i64 x.a) ?_;rw[hs];refine ae.lss (cf.or (decide (6<(s:Int))) (λ_=>Ld.f (v:=i64 x.a) (by rw[hs];exact ae.gtr ⟨rfl,rfl⟩)) rfl λ_=>?_);rw[<-xa7,xal zO];refine Br.no (DR.of (R:=[(b3,.cells #[i64 0,i64 0,u64 0,i64 0] 37 (0,0)),(b1,.cells (Value.cells x.v) 35 (0,0)),jh sp c kp mb nx]) (.cons (.cons (.cons λ_ _ h=>h.bt))) (Ld.n (v:=ptr kp) ?_));refine Ld.f (v:=i64 x.a) ?_;rw[hs];refine br.q (Ld.f (v:=i64 x.b) ?_);intro F;refine aa.fq (args:=#[ptr kp,.int .u8 (s:Int),i64 x.b]) hrun ?_;rintro v H ⟨a,b,d,t,e,rfl,n,hQ,fK,hn⟩;refine⟨.cons (.cons (.cons λ_ _ h=>h.bt)),?_⟩;apply Ext.two;intro b31 _;intro F;refine St.p (r:=[i64 a,i64 b,i64 d,.bool t]) (oB _ _ _ _) ?_;refine⟨.skip (.cons (.cons (.cons λ_ _ h=>h.bt))),?_⟩;refine Ld.n (v:=ptr kp) ?_;refine aa.eq (args:=#[ptr kp]) fK (br.q (a:=n) ?_ (xaQ hn zD));refine aa.eq (dR n e _) ?_;by_cases he:e=0
 ·rw[xae he];refine St.p (r:=[i64 0,i64 (-1),u64 n,i64 0]) (bI _ _ _ _) ?_;refine ay.q ?_;exact aN.mk (.skip (.skip .tail)) ⟨e,n,H,by rw[xae he],rfl,hQ⟩
 rw[xab he];refine St.p (r:=[i64 e,i64 (-1),u64 0,i64 0]) (bI _ _ _ _) ?_;refine ay.q ?_;exact aN.mk (.skip (.skip .tail)) ⟨e,n,H,by rw[xab he],rfl,hQ⟩
end
end
section
open aA
section
variable {sp nx kp:Nat} {c:Cf} {F:FS} {ord tr:zL} {H C:Hp} {x:fM} {K:Kd} {S:Nat->aA.Fn}
theorem SV{S:Nat->aA.Fn}{hs:List (Int×Nat)}(a:Int):je S (ia hs a)=ia (je S hs) a:=by
 unfold je ia;rw[List.filter_map];rfl
theorem Ue(h:kg sp c nx F ord tr H):Rd zQ 89 #[ptr sp,x.v] H (λw=>w=if fU F x.a&&fU F x.b then eZ 0 (-1) (@decide (fF F x.a=fF F x.b) (Classical.propDecidable _)).toNat 0 else eZ 3 (-1) 0 0):=by
 obtain⟨kp,mb,K,S,ah,hs,es,ck,C,rfl,h,rfl⟩:=h;rw[eE,eE,mT];exact PC h
theorem UP(h:kg sp c nx F ord tr H):Rd zQ 92 #[ptr sp,x.v] H (· =eZ 0 (-1) (Bh c.n F ord) 0):=by
 obtain⟨kp,mb,K,S,ah,hs,es,ck,C,rfl,h,rfl⟩:=h;rw[<-h.Bh];exact PF h
theorem T6(h:kg sp c nx F ord tr H):Rd zQ 91 #[ptr sp,x.v] H (· =if fU F x.a then eZ 0 (-1) (sz c.n ord (λg=>g=fF F x.a)) 0 else eZ 3 (-1) 0 0):=by
 obtain⟨kp,mb,K,S,ah,hs,es,ck,C,rfl,h,rfl⟩:=h;rw[eE,mT];exact PA h
theorem Qu(h:kg sp c nx F ord tr H):Rd zQ 95 #[ptr sp,x.v] H (λw=>((x.a<0\/(c.n:Int)<=x.a)/\w=eZ 2 (-1) 0 0)\/((0<=x.a/\x.a<c.n)/\∃p,p<c.n/\ord.getD p 0=x.a.toNat/\w=eZ 0 (-1) p 0)):=by
 obtain⟨kp,mb,K,S,ah,hs,es,ck,C,rfl,h,rfl⟩:=h;by_cases hv:x.a<0\/(c.n:Int)<=x.a
 ·exact(L6 h hv).mono λv H ⟨h1,h2⟩=>⟨h1,.inl ⟨hv,h2⟩⟩
 obtain⟨v,hxv⟩:∃v:Nat,x.a=v:=⟨x.a.toNat,by omega⟩;refine(L7 h hxv zO).mono λw H ⟨h1,p,hp,ho,h2⟩=>⟨h1,.inr ⟨by omega,p,hp,?_,h2⟩⟩;rw[hxv,xbe];exact ho
theorem Ez(h:kg sp c nx F ord tr H):Rd zQ 94 #[ptr sp,x.v] H (λw=>(fU F x.a=false/\w=eZ 3 (-1) 0 0)\/(fU F x.a=true/\∃m,Wk (fF F x.a) m/\w=eZ 0 (-1) m 0)):=by
 obtain⟨kp,mb,K,S,ah,hs,es,ck,C,rfl,h,rfl⟩:=h;rw[eE,mT];refine(BC h (x:=x) (P:=λn e=>e=0/\Wk (bU S hs x.a) n) λr hr=>?_).mono λv H ⟨e,hv⟩=>⟨e,?_⟩
 ·rw[bA hr];exact(Dv h.ks (h.live _ (h.find hr))).mono λv H ⟨e,m,hm,hv⟩=>⟨e,m,0,⟨rfl,hm⟩,hv⟩
 rcases hv with h1|⟨h1,n,e,⟨rfl,hn⟩,h2⟩
 ·exact .inl h1
 exact .inr ⟨h1,n,hn,h2⟩
theorem Zi(h:kg sp c nx F ord tr H)(CJ:nx+1<9223372036854775808):Fc zQ 86 #[ptr sp,x.v] H (λw H'=>
  (fU F x.a=false/\w=eZ 3 (-1) 0 0/\H'=H)\/(fU F x.a=true/\D1 (tR F) (fF F x.a)/\w=eZ 8 (-1) 0 0/\H'=H)\/
  (fU F x.a=true/\¬D1 (tR F) (fF F x.a)/\w=eZ 0 nx 0 0/\kg sp c (nx+1) (F++[((nx:Int),fF F x.a)]) ord [] H')):=by
 obtain⟨kp,mb,K,S,ah,hs,es,ck,C,rfl,h,rfl⟩:=h;rw[eE,mT,q9];cases hm:aK hs x.a with
 |none=>
  refine Fc.mono (Kj h (x:=x) (.inl hm)) λv H ⟨h1,h2⟩=>.inl ⟨rfl,?_,h1⟩;rw[hm]at h2;exact h2
 |some r=>
  have hl:live K.N r:=h.live _ (h.find hm);have hle:=h.ks.gg r;rw[bA hm];by_cases hf:2<=r/\K.hold r=65535
  ·refine Fc.mono (Kj h (x:=x) (.inr ⟨r,hm,hf.1,hf.2⟩)) λv H ⟨h1,h2⟩=>.inr (.inl ⟨rfl,h.full hf.2 hf.1,?_,h1⟩);rw[hm]at h2;exact h2
  refine(Uc h CJ hm (λh2=>by omega)).mono ?_;rintro v H ⟨rfl,K',es',bB,C',rfl,h'⟩;refine .inr (.inr ⟨rfl,?_,rfl,kp,mb,K',S,ah,_,es',bB,C',rfl,h',by unfold je;rw[xaJ];rfl⟩);rintro⟨hv,hc⟩;have h2:=(iA h.ks hl).2 hv;rw[<-h.count hl h2]at hc;omega
theorem VR(h:kg sp c nx F ord tr H):Fc zQ 87 #[ptr sp,x.v] H (λw H'=>(fU F x.a=false/\w=eZ 3 (-1) 0 0/\H'=H)\/(fU F x.a=true/\w=eZ 0 (-1) 0 0/\kg sp c nx (ia F x.a) ord [] H')):=by
 obtain⟨kp,mb,K,S,ah,hs,es,ck,C,rfl,h,rfl⟩:=h;rw[eE];cases hm:aK hs x.a with
 |none=>exact Fc.mono (PJ h (x:=x) hm) λv H ⟨h1,h2⟩=>.inl ⟨rfl,h2,h1⟩
 |some r=>
  refine(PI h hm).mono ?_;rintro v H ⟨rfl,K',es',C',rfl,h'⟩;exact .inr ⟨rfl,rfl,kp,mb,K',S,ah,_,es',ck,C',rfl,h',SV _⟩
noncomputable def VP(n:Nat)(F:FS)(ord:zL)(l:Nat):Nat:=A5 n ord l (HF (tR F))
theorem VW(h:kg sp c nx F ord tr H)(eM:tr.length<17592186044416):Fc zQ 96 #[ptr sp,x.v] H (λw H'=>
  ((x.a<0\/(c.n:Int)<=x.a+1)/\w=eZ 1 (-1) 0 0/\H'=H)\/(∃l:Nat,x.a=l/\l+1<c.n/\¬VP c.n F ord l+2<=c.cap/\w=eZ 9 (-1) 0 0/\H'=H)\/
  (∃l:Nat,x.a=l/\l+1<c.n/\VP c.n F ord l+2<=c.cap/\w=eZ 0 (-1) 0 0/\kg sp c nx F (fR ord l) (tr++[l]) H')):=by
 obtain⟨kp,mb,K,S,ah,hs,es,ck,C,rfl,h,rfl⟩:=h;by_cases ha:x.a<0\/(c.n:Int)<=x.a+1
 ·exact Fc.mono (BL (x:=x) (e:=1) zD (R8 h.ks (l:=x.a) (by rw[h.n];omega))) λv H ⟨h1,h2⟩=>.inl ⟨ha,h2,h1⟩
 obtain⟨l,hl⟩:∃l:Nat,x.a=l:=⟨x.a.toNat,by omega⟩;have Bb:l+1<K.n:=by rw[h.n];omega
 have e:VP c.n (je S hs) ord l=A5 K.n ord l (K.held S):=by unfold VP;rw[h.held,q9,h.n]
 by_cases hf:jb K S ord l
 ·refine(PK (x:=x) (Q:=λC'=>At kp K S (fR ord l) (tr++[l]) C') (by rw[hl];exact ur h.ks.aZ Bb eM hf)).mono ?_;rintro v H ⟨rfl,C',rfl,K',S',bW,dh,hk⟩;obtain⟨h',hS⟩:=h.kept dh hk;exact .inr (.inr ⟨l,hl,by omega,by rw[e,<-h.cap];exact hf,rfl,kp,mb,K',S',bW,hs,es,ck,C',rfl,h',mc hS⟩)
 refine Fc.mono (BL (x:=x) (e:=9) zD (by rw[hl];exact mX h.ks.aZ Bb eM hf)) λv H ⟨h1,h2⟩=>.inr (.inl ⟨l,hl,by omega,?_,h2,h1⟩);rw[e,<-h.cap];exact hf
theorem uR(h:kg sp c nx F ord tr H)(ha:x.a<0\/6<x.a):Rd zQ 97 #[ptr sp,x.v] H (· =eZ 1 (-1) 0 0):=by
 obtain⟨kp,mb,K,S,ah,hs,es,ck,C,rfl,h,rfl⟩:=h;exact zY ha
theorem Zq(h:At kp K S ord tr C){s:Nat}{gr:Int}(hb:6<s\/gr<100\/1000<gr):Rd zQ 134 #[ptr kp,.int .u8 (s:Int),i64 gr] C (· =i64 1):=by
 refine aF λg=>xj ?_;refine ae.aD (Br.no (ae.m9 (b:=6) (cf.or (a:=decide (6<s)) (decide (gr<100)) (λ_=>ae.lss ⟨rfl,rfl⟩) rfl λ_=>?_)));refine cf.or (a:=decide (6<s)||decide (gr<100)) (decide (1000<gr)) (λ_=>ae.gtr ⟨rfl,rfl⟩) rfl λ_=>?_;rw[<-xa7,<-xa7,xam zO];exact Br.yes (bc.mk (.refl _) rfl)
theorem PZ(h:At kp K S ord tr C){s:Nat}{gr:Int}(hb:6<s\/gr<100\/1000<gr):Rd zQ 85 #[ptr kp,.int .u8 (s:Int),i64 gr] C (· =.tuple #[tF 0 0 0 false,i64 1]):=by
 refine aF λg=>iH ?_;intro b1 _;refine aa.eq (Zq h hb) (ae.cG (Br.T (Build.mk (cs:=[iv 0,iv 0,iv 0,.bool false]) zK ?_)));refine St.q ?_;refine ay.q ?_;exact bc.mk .tail rfl
theorem uQ(h:kg sp c nx F ord tr H){s:Nat}(hs:x.a=s)(Yn:s<=6)(hb:x.b<100\/1000<x.b):Fc zQ 97 #[ptr sp,x.v] H (λw H'=>w=eZ 1 (-1) 0 0/\H'=H):=by
 obtain⟨kp,mb,K,S,ah,hs',es,ck,C,rfl,h,rfl⟩:=h;have hle:=gu h.ks.aZ;refine(nC (x:=x) hs Yn (Q:=λe _ H=>e=1/\H=C) (Fc.mono (PZ h.ks.aZ (s:=s) (.inr hb)) λv H ⟨h1,h2⟩=>?_)).mono ?_
 ·subst h1;exact⟨_,_,_,_,_,h2,_,⟨rfl,rfl⟩,cH h.ks.aZ,by omega⟩
 rintro v H ⟨e,n,C',rfl,rfl,rfl,rfl⟩;exact⟨rfl,rfl⟩
end
theorem WD{b k len:Nat}{rs:List (List zV)}{T:TypeId}(hr:∀r∈rs,r.length=k)(hk:0<k)(hl:rs.length=len):Sl k [(b,.cells (rows rs) T (0,0))] (.slice (some ⟨b,0,none⟩) len len) rs:=by
 have h:=aV.mk' (T:=T) (k:=k) (b:=b) (rs:=rs) (aJ:=[]) (n:=len) (c:=len) (by simpa using hr) hl.symm (by simp[hl]);rw[xaL]at h;exact Sl.qF h hk
section
variable {sp nx n cap:Nat} {c:Cf} {F:FS} {ord tr o:zL} {H:Hp} {x:fM}
theorem BZ(h:((tR F).length+3)*2^n+2<=cap):¬pZ n cap (tR F) (fF F) x o 9:=by
 have room:∀(L2:List aA.Fn) (P:aA.Fn->Prop),L2.length<=3->(∀g,P g->HF (tR F) g\/g∈L2)->Fits (aG n o P) cap:=λL2 P hl hP=>by
  refine EZ (L:=tR F++L2) (λg hg=>?_) ?_
  ·rcases hP g hg with h|h
   ·exact xad _ h.1
   exact xac _ h
  rw[xaf];exact xbO (Nat.add_le_add_right (xaY _ zO) 2) h
 unfold pZ;split
 ·rintro(h|⟨_,i,_,_,hf⟩|⟨h,_⟩)
  ·cases h
  ·refine hf (room [tG true (bitsOf x.x i) (fF F x.a),qf true i (tG true (bitsOf x.x i) (fF F x.a))] _ zI λg hg=>?_);rcases hg with(h|⟨_,h⟩)|h
   ·exact .inl h
   ·exact .inr (by simp[h])
   exact .inr (by simp[h])
  cases h
 split
 ·rintro(h|⟨_,i,_,_,hf⟩|⟨h,_⟩)
  ·cases h
  ·refine hf (room [tG false (bitsOf x.x i) (fF F x.a),qf false i (tG false (bitsOf x.x i) (fF F x.a))] _ zI λg hg=>?_);rcases hg with(h|⟨_,h⟩)|h
   ·exact .inl h
   ·exact .inr (by simp[h])
   exact .inr (by simp[h])
  cases h
 split
 ·rintro(h|⟨_,hf|hf|hf⟩|⟨h,_⟩)
  ·cases h
  ·exact hf (room [_] _ zI λg hg=>hg.imp id λh=>by simpa using h)
  ·refine hf (room [λy=>fF F x.a (an.aB y x.b.toNat false),λy=>fF F x.a (an.aB y x.b.toNat true)] _ zI λg hg=>?_);rcases hg with(h|h)|h
   ·exact .inl h
   ·exact .inr (by simp[h])
   exact .inr (by simp[h])
  ·refine hf (room [λy=>fF F x.a (an.aB y x.b.toNat false),λy=>fF F x.a (an.aB y x.b.toNat true),dO n (fF F) x] _ zI λg hg=>?_);rcases hg with((h|h)|h)|h
   ·exact .inl h
   ·exact .inr (by simp[h])
   ·exact .inr (by simp[h])
   exact .inr (by simp[h])
  cases h
 rintro(⟨h,_⟩|⟨_,hf⟩|⟨h,_⟩)
 ·cases h
 ·exact hf (room [_] _ zI λg hg=>hg.imp id λh=>by simpa using h)
 cases h
theorem Zo(L:List aA.Fn)(g:aA.Fn):xP L g<=L.length:=List.countP_le_length
theorem B1(h:pZ n cap (tR F) (fF F) x o 8):∃g,65533<=xP (tR F) g:=by
 unfold pZ at h;split at h
 ·rcases h with h|⟨h,_⟩|⟨_,g,hg⟩
  ·cases h
  ·cases h
  exact⟨g,by omega⟩
 split at h
 ·rcases h with h|⟨h,_⟩|⟨_,g,hg⟩
  ·cases h
  ·cases h
  exact⟨g,by omega⟩
 split at h
 ·rcases h with h|⟨h,_⟩|⟨_,g,hg⟩
  ·cases h
  ·cases h
  exact⟨g,by omega⟩
 rcases h with⟨h,_⟩|⟨h,_⟩|⟨_,h⟩
 ·cases h
 ·cases h
 exact⟨_,xbO zD h.2⟩
theorem Uw(h:(tR F).length<65533):¬pZ n cap (tR F) (fF F) x o 8:=λht=>by
 obtain⟨g,hg⟩:=B1 ht;have:=Zo (tR F) g;omega
theorem r5{w f:Nat}(h:kg sp c nx F ord tr H)(hc:c.Ok)(CJ:nx+1<9223372036854775808)(hx:x.x<18446744073709551616)(hm:eU x.op=some (w,f))(hf:jo f x.op w)(fN:aT zQ f=true)(hw:w<256)(hl:iR c.n F w x=0)
 (hr:(F.length+3)*2^c.n+2<=c.cap)(h8:F.length<65533):
  Fc zQ 16 #[ptr sp,x.v] H (λv H'=>v=eZ 0 nx 0 1/\kg sp c (nx+1) (F++[((nx:Int),dO c.n (fF F) x)]) ord [] H'):=by
 have hlen:(tR F).length=F.length:=by unfold tR;rw[xax]
 have no9:∀o,¬pZ c.n c.cap (tR F) (fF F) x o 9:=λo=>BZ (by rw[hlen];exact hr);refine qz (λv H h=>?_) (λw' f' hm'=>?_) (λf hn=>by rw[hm]at hn;cases hn) (λhn=>by rw[hm]at hn;cases hn)
 ·obtain⟨rfl,_⟩:=h;exact⟨_,_,_,_,rfl⟩
 rw[hm]at hm';cases hm';refine(KE (R:=λ_ _=>False) h hc CJ hx hf fN hw hl λhT _ _=>absurd hT (no9 _)).mono ?_;rintro v H' ⟨t,o,de,ht,hT,hq⟩;have h1:t=1/\o=ord:=by
  cases hT with
  |one=>exact⟨rfl,rfl⟩
  |more h h9 _=>exact absurd h9 (no9 _)
 obtain⟨rfl,rfl⟩:=h1;rcases hq with⟨rfl,h',_⟩|⟨e,he,_,_,RO,_⟩
 ·exact⟨rfl,h'⟩
 rcases he with rfl|rfl
 ·exact absurd RO (Uw (by rw[hlen];exact h8))
 exact absurd RO (no9 _)
theorem UH{w f:Nat}(h:kg sp c nx F ord tr H)(hx:x.x<18446744073709551616)(hm:eU x.op=some (w,f))(hw:w<256)(hl:iR c.n F w x≠0):
  Fc zQ 16 #[ptr sp,x.v] H (λv H'=>v=eZ (iR c.n F w x) (-1) 0 0/\H'=H):=by
 refine qz (λv H h=>?_) (λw' f' hm'=>?_) (λf hn=>by rw[hm]at hn;cases hn) (λhn=>by rw[hm]at hn;cases hn)
 ·obtain⟨rfl,_⟩:=h;exact⟨_,_,_,_,rfl⟩
 rw[hm]at hm';cases hm';exact Fc.mono (vq h hx hw hl) λv H ⟨e1,e2⟩=>⟨e2,e1⟩
theorem DN{f:Nat}{Q:zV->Hp->Prop}(hm:eU x.op=none)(ha:mY x.op=some f)(hQ:∀v H,Q v H->ZG v)(h:Fc zQ f #[ptr sp,x.v] H Q):Fc zQ 16 #[ptr sp,x.v] H Q:=
 qz hQ (λw f hn=>by rw[hm]at hn;cases hn) (λf' _ ef _=>by rw[ha]at ef;cases ef;exact h) (λ_ hn=>by rw[ha]at hn;cases hn)
end
def awS:List fM:=[⟨1,0,0,0,0⟩,⟨1,1,0,0,0⟩,⟨4,0,1,0,0⟩,⟨16,2,0,0,0⟩,⟨14,2,0,0,3⟩,⟨1,2,0,0,0⟩]
def awR:List Rp:=[⟨0,0,0,1⟩,⟨0,1,0,1⟩,⟨0,2,0,1⟩,⟨0, -1,1,0⟩,⟨0, -1,1,0⟩,⟨2, -1,0,0⟩]
def awF:FS:=[(0,λy=>y.testBit 0),(1,λy=>y.testBit 1),(2,λy=>y.testBit 0&&y.testBit 1)]
def Xq:Cf:=⟨2,1048576,0,100,0⟩
theorem AU:Xq.Ok:=⟨by decide,by decide,by decide,by decide,by decide,by decide⟩
theorem Wb{i sp:Nat}{H:Hp}{x:fM}(hx:awS[i]? =some x)(h:kg sp Xq (min i 3) (awF.take i) [0,1] [] H):
  Fc zQ 16 #[ptr sp,x.v] H (λv H'=>∃r,awR[i]? =some r/\v=r.v/\kg sp Xq (min (i+1) 3) (awF.take (i+1)) [0,1] [] H'):=by
 have hi:i<6:=(xah.1 hx).1;obtain rfl|rfl|rfl|rfl|rfl|rfl:i=0\/i=1\/i=2\/i=3\/i=4\/i=5:=by omega
 ·cases hx;refine(r5 h AU zD zD (w:=8) rfl (ry rfl).1 (ry (x:=⟨1,0,0,0,0⟩) rfl).2 zD rfl zD zD).mono ?_;rintro v H' ⟨rfl,h'⟩;exact⟨_,rfl,rfl,h'⟩
 ·cases hx;refine(r5 h AU zD zD (w:=8) rfl (ry rfl).1 (ry (x:=⟨1,1,0,0,0⟩) rfl).2 zD rfl zD zD).mono ?_;rintro v H' ⟨rfl,h'⟩;exact⟨_,rfl,rfl,h'⟩
 ·cases hx;refine(r5 h AU zD zD (w:=3) rfl (DD rfl).1 (DD (x:=⟨4,0,1,0,0⟩) rfl).2 zD rfl zD zD).mono ?_;rintro v H' ⟨rfl,h'⟩;exact⟨_,rfl,rfl,h'⟩
 ·cases hx;refine DN (f:=90) rfl rfl (λv H h=>?_) (Fc.mono (Kl h) ?_)
  ·obtain⟨r,_,rfl,_⟩:=h;exact⟨_,_,_,_,rfl⟩
  rintro v H' ⟨rfl,rfl⟩;refine⟨_,rfl,?_,h⟩;have:sat 2 (λy=>y.testBit 0&&y.testBit 1)%AY=1:=by decide+kernel
  show eZ 0 (-1) (sat 2 (λy=>y.testBit 0&&y.testBit 1)%AY) 0=_;rw[this];rfl
 ·cases hx;refine DN (f:=88) rfl rfl (λv H h=>?_) (Fc.mono (La h zD) ?_)
  ·obtain⟨r,_,rfl,_⟩:=h;exact⟨_,_,_,_,rfl⟩
  rintro v H' ⟨rfl,rfl⟩;exact⟨_,rfl,rfl,h⟩
 cases hx;refine(UH h zD (w:=8) rfl zD zD).mono ?_;rintro v H' ⟨rfl,rfl⟩;exact⟨_,rfl,rfl,h⟩
set_option maxHeartbeats 1000000 in
theorem Gd(B:Hp):Rd zQ 13 #[] B (· =.bool true):=by
 refine aF λg=>OG ?_;refine aa.eq (Qb 2 _) (Build.mk (cs:=fM.cells ⟨1,0,0,0,0⟩) zK ?_);refine Build.mk (cs:=fM.cells ⟨1,1,0,0,0⟩) zK ?_;refine Build.mk (cs:=fM.cells ⟨4,0,1,0,0⟩) zK ?_;refine Build.mk (cs:=fM.cells ⟨16,2,0,0,0⟩) zK ?_;refine Build.mk (cs:=fM.cells ⟨14,2,0,0,3⟩) zK ?_;refine Build.mk (cs:=fM.cells ⟨1,2,0,0,0⟩) zK ?_;refine av.many (e:=35) (k:=5) (z:=.agg #[.int .u8 0,i64 0,i64 0,i64 0,u64 0]) (awS.map fM.cells) zK zK zK zD zD rfl rfl λbx=>?_;refine aa.fn (bG.left (A:=B)) (Um (c:=Xq.i) (steps:=awS) (Y:=[(bx,_)]) (WD zD zD rfl) zD (λi sp l H=>l=awR.take i/\kg sp Xq (min i 3) (awF.take i) [0,1] [] H) (λd hd hok sp kp mb C hK=>?_) (λi sp l H x he hx hI hl=>?_)) ?_
 ·have:d=Xq:=by
   obtain⟨a1,a2,a3,a4,a5⟩:=d;simp only[Xq,Cf.i,xu.mk.injEq]at hd;simp only[Xq,Cf.mk.injEq];omega
  subst this;exact⟨rfl,KJ hK⟩
 ·obtain⟨rfl,hI⟩:=hI;refine(Wb hx hI).mono ?_;rintro v H' ⟨r,hr,rfl,h'⟩;exact⟨r,rfl,by rw[xbp,hr];rfl,h'⟩
 rintro w H (⟨hne,_⟩|⟨_,sp,l,s,CR,HS,rfl,rfl,hR,hl,hI⟩)
 ·exact absurd AU.g9 hne
 have hl6:l=awR:=hI.1;subst hl6;refine Ext.two (Build.mk (cs:=Rp.cells ⟨0,0,0,1⟩) zK ?_);refine Build.mk (cs:=Rp.cells ⟨0,1,0,1⟩) zK ?_;refine Build.mk (cs:=Rp.cells ⟨0,2,0,1⟩) zK ?_;refine Build.mk (cs:=Rp.cells ⟨0, -1,1,0⟩) zK ?_;refine Build.mk (cs:=Rp.cells ⟨0, -1,1,0⟩) zK ?_;refine Build.mk (cs:=Rp.cells ⟨2, -1,0,0⟩) zK ?_;refine av.many (e:=37) (k:=4) (z:=.agg #[i64 0,i64 0,u64 0,i64 0]) (awR.map Rp.cells) zK zK zK zD zD rfl rfl λby'=>?_;intro J23 h23;refine ae.gU (Split.go zD ?_);refine aa.eh .here (Mh (l:=awR) (r:=awR) ((Sl.qF hR zD).mono λ_ h=>?_) ((WD (T:=37) zD zD rfl).mono λ_ h=>?_) zD) ?_
 ·exact .tail _ (xad _ (xad _ h))
 ·rw[xaE.1 h];exact .head _
 rw[lj.2 rfl];refine aI.mk (JE.mk (h23 _ _ λ_=>?_));exact bc.mk (.skip aM.right) rfl
def g0:aA.Fn:=λy=>y.testBit 0
def g1:aA.Fn:=λy=>y.testBit 1
def g2:aA.Fn:=λy=>y.testBit 0&&y.testBit 1
def g3:aA.Fn:=λy=> !g2 y
def g4:aA.Fn:=λ_=>decide ((0:Int)=1)
end
end Go.Proofs
