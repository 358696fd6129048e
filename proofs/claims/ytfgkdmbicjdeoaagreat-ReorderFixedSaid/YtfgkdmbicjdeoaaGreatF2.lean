import Derived.Test.YtfgkdmbicjdeoaaGreatF1
import Derived.ChangeKeysEq
import Derived.Laws.StructEq
import Derived.Defers
import Derived.Test.YtfgkdmbicjdeoaaGreatProg
set_option linter.unusedVariables false
set_option linter.unusedSimpArgs false
set_option linter.unusedSectionVars false
namespace aj
def gI(w:Nat):List UInt8:=(List.range 8).map fun i=>UInt8.ofNat (w>>>(8*i))
def gM(ws:List Nat):List UInt8:=ws.flatMap gI
theorem fI(w:Nat):(gI w).length=8:=by simp[gI]
theorem rI:∀l:List Nat,(gM l).length=8*l.length
 | []=>rfl
 |x::l=>by rw[gM,List.flatMap_cons,List.length_append,fI];have:=rI l;unfold gM at this;rw[this,List.length_cons];omega
theorem Da{a b:Nat}(ha:a<18446744073709551616)(hb:b<18446744073709551616)(h:gI a=gI b):a=b:=by
 apply Nat.eq_of_testBit_eq
 intro j
 by_cases hj:j<64
 ·have hi:j/8<8:=by omega
  have h1:=congrArg (fun l=>l[j/8]?) h
  simp only[gI,List.getElem?_map,List.getElem?_range hi,Option.map_some,Option.some.injEq]at h1
  have h2:=congrArg UInt8.toNat h1
  simp only[UInt8.toNat_ofNat']at h2
  have h3:=congrArg (fun x=>x.testBit (j%8)) h2
  simp only[Nat.testBit_mod_two_pow,Nat.testBit_shiftRight]at h3
  rw[show 8*(j/8)+j%8=j by omega]at h3
  have:decide (j%8<8)=true:=by simp;omega
  simpa[this]using h3
 ·rw[Nat.testBit_lt_two_pow (Nat.lt_of_lt_of_le ha (Nat.pow_le_pow_right (n:=2) (by decide) (by omega:64≤j))),Nat.testBit_lt_two_pow (Nat.lt_of_lt_of_le hb (Nat.pow_le_pow_right (n:=2) (by decide) (by omega:64≤j)))]
theorem zN:∀{a b:List Nat},(∀w∈a,w<18446744073709551616)→(∀w∈b,w<18446744073709551616)→gM a=gM b→a=b
 | [],[],_,_,_=>rfl
 | [],y::b,_,_,h=>by have:=congrArg List.length h;simp[gM,fI]at this;omega
 |x::a,[],_,_,h=>by have:=congrArg List.length h;simp[gM,fI]at this
 |x::a,y::b,ha,hb,h=>by
  simp only[gM,List.flatMap_cons]at h
  obtain⟨h1,h2⟩:=List.append_inj h (by rw[fI,fI])
  rw[Da (ha x (by simp)) (hb y (by simp)) h1,zN (fun w hw=>ha w (by simp[hw])) (fun w hw=>hb w (by simp[hw])) h2]
theorem cB.key_inj{n:Nat}{a b:List Nat}(ha:cB n a)(hb:cB n b)(h:gM a=gM b):a=b:=zN (fun w hw=>ha.lt hw) (fun w hw=>hb.lt hw) h
abbrev Fs:=List (List Nat)
def add(l:Fs)(t:List Nat):Fs:=if t∈l then l else l++[t]
def dS(L:Fs):Fs:=L.foldl add []
def given(n:Nat)(l:Fs)(v:Nat):Fs:=l.foldl (fun acc t=>add (add acc (ed n t v false)) (ed n t v true)) []
def nodes(n:Nat)(l:Fs)(v:Nat):Fs:=l.filter fun t=>dep n t v
def st(n:Nat)(L:Fs)(A:Nat):Nat→Fs
 |0=>dS L
 |k+1=>if A.testBit k then given n (st n L A k) k else st n L A k
def lvl(n:Nat)(L:Fs)(A v:Nat):Nat:=(nodes n (st n L A n) v).length
theorem sr{l:Fs}{t x:List Nat}:x∈add l t↔x∈l∨x=t:=by
 unfold add
 split
 ·constructor
  ·exact .inl
  ·rintro(h|rfl)<;>assumption
 ·simp
theorem q6{l:Fs}{t:List Nat}(h:l.Nodup):(add l t).Nodup:=by
 unfold add
 split
 ·exact h
 ·rename_i hn
  rw[List.nodup_append]
  exact⟨h,by simp,fun a ha b hb=>by simp at hb;subst hb;rintro rfl;exact hn ha⟩
theorem jX{α:Type}(f:α→Fs→Fs)(g:α→List Nat→Prop)(hf:∀a l x,x∈f a l↔x∈l∨g a x):∀(L:List α) (acc:Fs) (x:List Nat),x∈L.foldl (fun acc a=>f a acc) acc↔x∈acc∨∃a∈L,g a x
 | [],acc,x=>by simp
 |a::L,acc,x=>by
  rw[List.foldl_cons,jX f g hf L,hf]
  simp only[List.mem_cons,exists_eq_or_imp,or_assoc]
theorem iz{α:Type}(f:α→Fs→Fs)(hf:∀a l,l.Nodup→(f a l).Nodup):∀(L:List α) (acc:Fs),acc.Nodup→(L.foldl (fun acc a=>f a acc) acc).Nodup
 | [],acc,h=>h
 |a::L,acc,h=>iz f hf L _ (hf a acc h)
theorem cX{L:Fs}{x:List Nat}:x∈dS L↔x∈L:=by
 unfold dS
 have:=jX (fun a l=>add l a) (fun a x=>x=a) (fun a l x=>sr) L [] x
 rw[this];simp
theorem iO(L:Fs):(dS L).Nodup:=iz (fun a l=>add l a) (fun a l h=>q6 h) L [] (by simp)
theorem bY{n v:Nat}{l:Fs}{x:List Nat}:x∈given n l v↔∃t∈l,∃b,x=ed n t v b:=by
 unfold given
 have:=jX (fun t acc=>add (add acc (ed n t v false)) (ed n t v true)) (fun t x=>∃b,x=ed n t v b) (fun t l x=>by
  rw[sr,sr]
  constructor
  ·rintro((h|h)|h)
   ·exact .inl h
   ·exact .inr ⟨false,h⟩
   ·exact .inr ⟨true,h⟩
  ·rintro(h|⟨b,h⟩)
   ·exact .inl (.inl h)
   ·cases b
    ·exact .inl (.inr h)
    ·exact .inr h) l [] x
 rw[this];simp
theorem mM(n:Nat)(l:Fs)(v:Nat):(given n l v).Nodup:=iz (fun t acc=>add (add acc (ed n t v false)) (ed n t v true)) (fun a l h=>q6 (q6 h)) l [] (by simp)
theorem mr(n:Nat)(L:Fs)(A:Nat):∀k,(st n L A k).Nodup
 |0=>iO L
 |k+1=>by
  rw[st];split
  ·exact mM _ _ _
  ·exact mr n L A k
theorem iR{a b:Fs}(ha:a.Nodup)(hb:b.Nodup)(h:∀x,x∈a↔x∈b):a.Perm b:=(List.perm_ext_iff_of_nodup ha hb).2 h
theorem k7{n v:Nat}{a b:Fs}(h:a.Perm b):(nodes n a v).length=(nodes n b v).length:=(h.filter _).length_eq
theorem BD{n:Nat}{L:Fs}{A:Nat}(hL:∀t∈L,cB n t)(hn:n≤16):∀k,∀t∈st n L A k,cB n t
 |0,t,h=>hL t (cX.1 h)
 |k+1,t,h=>by
  rw[st]at h
  split at h
  ·obtain⟨u,_,b,rfl⟩:=bY.1 h;exact cH hn
  ·exact BD hL hn k t h
theorem gg(l:Fs)(t:List Nat):(add l t).length≤l.length+1:=by unfold add;split<;>simp
theorem dY{α:Type}(f:α→Fs→Fs)(c:Nat)(hf:∀a l,(f a l).length≤l.length+c):∀(L:List α) (acc:Fs),(L.foldl (fun acc a=>f a acc) acc).length≤acc.length+c*L.length
 | [],acc=>by simp
 |a::L,acc=>by
  have h1:=dY f c hf L (f a acc)
  have h2:=hf a acc
  rw[List.foldl_cons,List.length_cons,Nat.mul_succ];omega
theorem qw(n:Nat)(L:Fs)(A:Nat):∀k,(st n L A k).length≤2^k*L.length
 |0=>by have:=dY (fun a l=>add l a) 1 (fun a l=>gg l a) L [];simpa[st,dS]using this
 |k+1=>by
  have ih:=qw n L A k
  rw[st,Nat.pow_succ]
  split
  ·have h:=dY (fun t acc=>add (add acc (ed n t k false)) (ed n t k true)) 2 (fun a l=>by have h1:=gg (add l (ed n a k false)) (ed n a k true);have h2:=gg l (ed n a k false);omega) (st n L A k) []
   have h':(given n (st n L A k) k).length≤2*(st n L A k).length:=by simpa[given]using h
   have:2*(st n L A k).length≤2*(2^k*L.length):=Nat.mul_le_mul_left _ ih
   rw[Nat.mul_comm (2^k) 2,Nat.mul_assoc];omega
  ·have:2^k*L.length≤2^k*2*L.length:=Nat.mul_le_mul_right _ (by omega)
   omega
def kf(n:Nat)(ws:List Nat):Nat→Nat
 |0=>0
 |v+1=>if dep n ws v then kf n ws v|||2^v else kf n ws v
def ov(n:Nat)(ws:List Nat):Nat:=kf n ws n
theorem g7(n:Nat)(ws:List Nat)(u:Nat):∀k,(kf n ws k).testBit u=(decide (u<k) &&dep n ws u)
 |0=>by simp[kf]
 |v+1=>by
  rw[kf]
  by_cases e:u=v
  ·subst e
   split
   ·rename_i h;rw[Nat.testBit_or,Nat.testBit_two_pow_self];simp[h]
   ·rename_i h;rw[g7 n ws u u];simp[h]
  ·have h1:decide (u<v+1)=decide (u<v):=by simp;omega
   rw[h1]
   split
   ·rw[Nat.testBit_or,Nat.testBit_two_pow,g7 n ws u v];simp[Ne.symm e]
   ·exact g7 n ws u v
theorem mm(n:Nat)(ws:List Nat):∀k,kf n ws k<2^k
 |0=>by simp[kf]
 |v+1=>by
  have h1:=mm n ws v
  have h2:2^v<2^(v+1):=Nat.pow_lt_pow_right (by decide) (by omega)
  rw[kf];split
  ·exact Nat.or_lt_two_pow (by omega) h2
  ·omega
theorem sE(A u:Nat):(A>>>u&&&1=1)↔A.testBit u=true:=by
 rw[e9,Nat.testBit_shiftRight,Nat.add_zero];cases A.testBit u<;>simp
theorem sF(A u:Nat):((A>>>u)%2=1)↔A.testBit u=true:=by
 rw[←sE,Nat.and_one_is_mod]
def eX(bs:List Bool)(i:Nat):Nat→Nat
 |0=>0
 |j+1=>if bs.getD (64*i+j) false then eX bs i j|||2^j else eX bs i j
theorem c9(bs:List Bool)(i k:Nat):∀J,(eX bs i J).testBit k=(decide (k<J) &&bs.getD (64*i+k) false)
 |0=>by simp[eX]
 |j+1=>by
  rw[eX]
  by_cases e:k=j
  ·subst e
   split
   ·rename_i h;rw[Nat.testBit_or,Nat.testBit_two_pow_self,h];simp
   ·rename_i h;rw[c9 bs i k k];simp at h⊢;exact h
  ·have h1:decide (k<j+1)=decide (k<j):=by simp;omega
   rw[h1]
   split
   ·rw[Nat.testBit_or,Nat.testBit_two_pow,c9 bs i k j];simp[Ne.symm e]
   ·exact c9 bs i k j
theorem pg(bs:List Bool)(i:Nat):∀J,eX bs i J<2^J
 |0=>by simp[eX]
 |j+1=>by
  have h1:=pg bs i j
  have h2:2^j<2^(j+1):=Nat.pow_lt_pow_right (by decide) (by omega)
  rw[eX];split
  ·exact Nat.or_lt_two_pow (by omega) h2
  ·omega
theorem vH{bs:List Bool}{i j:Nat}(h:bs.getD (64*i+j) false=true):eX bs i j+2^j=eX bs i (j+1):=by
 rw[eX,if_pos h]
 have:=Nat.two_pow_add_eq_or_of_lt (pg bs i j) 1
 rw[Nat.mul_one]at this
 rw[Nat.or_comm,←this,Nat.add_comm]
def ik(n:Nat)(bs:List Bool):List Nat:=(List.range (wN n)).map fun i=>eX bs i 64
theorem Im(v:Nat):eX ((List.range 64).map fun x=>x.testBit v) 0 64=mask v:=by
 apply Nat.eq_of_testBit_eq;intro k
 rw[c9,dB]
 by_cases hk:k<64
 ·simp[hk]
 ·simp[hk]
theorem Cy{n v i:Nat}{ws:List Nat}{b:Bool}(hf:cB n ws)(hv:v<n)(hi:i<wN n):dG ws v b i&&&ct n=dG ws v b i:=by
 have Kx:∀k,ws.getD k 0<2^64:=fun k=>by
  rw[List.getD_eq_getElem?_getD]
  rcases Nat.lt_or_ge k ws.length with h|h
  ·rw[List.getElem?_eq_getElem h];exact hf.lt (List.getElem_mem h)
  ·rw[List.getElem?_eq_none h];decide
 have hlt:dG ws v b i<2^64:=by
  unfold dG
  split
  ·exact Kx _
  ·split
   ·exact Nat.or_lt_two_pow (Nat.lt_of_le_of_lt Nat.and_le_left (Kx i)) (Nat.lt_of_le_of_lt (Nat.shiftRight_le _ _) (Nat.lt_of_le_of_lt Nat.and_le_left (Kx i)))
   ·exact Nat.or_lt_two_pow (Nat.lt_of_le_of_lt (Go.Sx.jS _ _) (Kx i)) (Nat.mod_lt _ (by decide))
 by_cases h6:6≤n
 ·exact mY (by unfold ct;rw[if_pos h6];have:(2:Nat)^64=18446744073709551616:=rfl;omega)
 ·have hv6:¬6≤v:=by omega
  apply Nat.eq_of_testBit_eq;intro j
  rw[Nat.testBit_and,fh,if_neg h6]
  by_cases hj:j<2^n
  ·simp[hj]
  ·have hz:(dG ws v b i).testBit j=false:=by
    have oP:ws.getD i 0≤ct n:=by
     rw[List.getD_eq_getElem?_getD,List.getElem?_eq_getElem (by rw[hf.len];exact hi)];exact hf.full _ (List.getElem_mem _)
    have tP:∀k,2^n≤k→(ws.getD i 0).testBit k=false:=fun k hk=>by
     have:=congrArg (fun x=>x.testBit k) (mY oP)
     simp only[Nat.testBit_and,fh,if_neg h6]at this
     rw[←this];simp;omega
    unfold dG
    rw[if_neg hv6]
    cases b
    ·simp only[Bool.false_eq_true,if_false]
     rw[show(18446744073709551616:Nat)=2^64 by rfl,Nat.testBit_or,Nat.testBit_mod_two_pow,Nat.testBit_shiftLeft,Go.Sx.cZ,Go.Sx.cZ,tP j (by omega),dB,dB]
     by_cases hle:2^v≤j
     ·by_cases GJ:j<64
      ·obtain⟨s1,s2⟩:=BE ⟨v,by omega⟩ ⟨j,GJ⟩
       simp only at s1 s2
       cases hb:j.testBit v
       ·have:=(s2 hb).2.2.2.2 hle
        have h3:j-2^v<64:=Nat.lt_of_le_of_lt (Nat.sub_le _ _) GJ
        simp[this,h3]
       ·have h5:=s1 hb
        have:¬(j-2^v<2^n):=fun hlt=>by
         have h6':=fj (b:=true) hlt hv
         have h7:=(BE ⟨v,by omega⟩ ⟨j-2^v,Nat.lt_of_le_of_lt (Nat.sub_le _ _) GJ⟩).2 h5.2.2.2.2
         simp only at h7
         rw[h7.1]at h6';omega
        rw[tP (j-2^v) (by omega)];simp
      ·simp[GJ]
     ·simp[hle]
    ·simp only[if_true]
     rw[Nat.testBit_or,Nat.testBit_and,Nat.testBit_shiftRight,Nat.testBit_and,tP j (Nat.le_of_not_lt hj),tP (2^v+j) (Nat.le_trans (Nat.le_of_not_lt hj) (Nat.le_add_left _ _))];simp
   rw[hz];rfl
theorem LG(i k:Nat):i-i/2^k%2*2^k=aI i k false∧(i-i/2^k%2*2^k)+2^k=aI i k true:=by
 have hp:=Nat.two_pow_pos k
 have hdm:=Nat.div_add_mod i (2^k)
 have hm:=Nat.mod_lt i hp
 generalize hq:i/2^k=q at*
 generalize hr:i%2^k=r at*
 have hle:q%2*2^k≤2^k*q:=by rw[Nat.mul_comm];exact Nat.mul_le_mul_left _ (Nat.mod_le _ _)
 have e1:i-q%2*2^k=2^k*(2*(q/2))+r:=by
  have:2^k*q=2^k*(2*(q/2))+q%2*2^k:=by
   rw[Nat.mul_comm (q%2),←Nat.mul_add];congr 1;omega
  omega
 have tb:∀j,i.testBit j=if j<k then r.testBit j else q.testBit (j-k):=fun j=>by rw[←hdm];exact Nat.testBit_two_pow_mul_add q hm j
 have e2:(2^k*(2*(q/2))+r)+2^k=2^k*(2*(q/2)+1)+r:=by rw[Nat.mul_succ];omega
 rw[e1]
 refine⟨?_,?_⟩
 ·apply Nat.eq_of_testBit_eq;intro j
  rw[Nat.testBit_two_pow_mul_add _ hm,au,tb]
  by_cases hj:j<k
  ·rw[if_pos hj,if_neg (by omega),if_pos hj]
  ·rw[if_neg hj,if_neg hj]
   by_cases e:j=k
   ·subst e;simp
   ·rw[if_neg e]
    obtain⟨d,hd⟩:∃d,j-k=d+1:=⟨j-k-1,by omega⟩
    rw[hd,Nat.testBit_succ,Nat.testBit_succ];congr 1;omega
 ·rw[e2]
  apply Nat.eq_of_testBit_eq;intro j
  rw[Nat.testBit_two_pow_mul_add _ hm,au,tb]
  by_cases hj:j<k
  ·rw[if_pos hj,if_neg (by omega),if_pos hj]
  ·rw[if_neg hj,if_neg hj]
   by_cases e:j=k
   ·subst e;simp
   ·rw[if_neg e]
    obtain⟨d,hd⟩:∃d,j-k=d+1:=⟨j-k-1,by omega⟩
    rw[hd,Nat.testBit_succ,Nat.testBit_succ];congr 1;omega
end aj
namespace Go.Sx
open Go
section
variable {P:Program} {H:Hp}
theorem av.int{t e:Nat}{kd:IntKind}{x:Int}{K:Value→Hp→Prop}(h1:P.underlying t=some (.slice e))(h2:dO P e=some 1)(h3:fu P e=some (.int kd 0))
 (h:∀b,K (.slice (some ⟨b,0,none⟩) 1 1) ((b,.cells (aC kd [x]) e (0,0))::H)):av P t 1 [(0,.int kd x)] H K:=by
 refine⟨aC kd [x],e,1,_,h1,h2,h3,by decide,?_,fun b _=>h b⟩
 have e1:Array.range 1=#[0]:=rfl
 simp[Instr.fill,Value.cells,aC,e1]
theorem av.none{t e k:Nat}{z:Value}{K:Value→Hp→Prop}(h1:P.underlying t=some (.slice e))(h2:dO P e=some k)(h3:fu P e=some z)
 (h:∀b,K (.slice (some ⟨b,0,none⟩) 0 0) ((b,.cells #[] e (0,0))::H)):av P t 0 [] H K:=by
 refine⟨_,e,k,z,h1,h2,h3,by simp,rfl,fun b _=>?_⟩
 have:((Array.range (0*k)).map fun i=>z.cells[i%z.cells.size]!)=#[]:=by simp
 rw[this];exact h b
def fK(T:TypeId)(v:Value)(ts:List Tb)(C B:Hp):Prop:=∃rs,aS T 2 v rs C∧iq (OC B) rs ts
theorem fK.nil{T:TypeId}{B:Hp}:fK T (.slice none 0 0) [] [] B:=⟨[],aS.nil _ _,iq.nil⟩
theorem fK.mono{T:TypeId}{v:Value}{ts:List Tb}{C B B':Hp}(h:fK T v ts C B)(hs:∀x∈B,x∈B'):fK T v ts C B':=let ⟨rs,h1,h2⟩:=h;⟨rs,h1,h2.mono fun _ _ h=>h.mono hs⟩
theorem fK.xy{T:TypeId}{v:Value}{ts:List Tb}{C B B':Hp}(h:fK T v ts C B)(hc:∀x∈C,x∈B')(hb:∀x∈B,x∈B'):cT B' v ts:=by
 obtain⟨rs,h1,h2⟩:=h;exact⟨rs,(Sl.rE h1 (by decide)).mono hc,h2.mono fun _ _ h=>h.mono hb⟩
theorem fK.app{T:TypeId}{v:Value}{ts:List Tb}{C B0 A B:Hp}(h:fK T v ts C B0){xb xc:Nat}{t:Tb}{s:Value}{xT:TypeId}{fz:Nat×Nat}(hx:(xb,Obj.cells #[.int .i64 t.n,s] xT fz)∈A++(C++B))(hw:Words B0 s t.ws)
 (hl:ts.length<4398046511103){K:Value→Hp→Prop}(hk:∀v' C',fK T v' (ts++[t]) C' B0→K v' (A++(C'++B))):App P T 2 32 (.agg #[.int .i64 0,.slice none 0 0]) (A++(C++B)) v (.slice (some ⟨xb,0,none⟩) 1 xc) K:=by
 obtain⟨rs,h1,h2⟩:=h
 have hs:s.oneCell'=true:=by obtain⟨a,c,rfl,_⟩:=hw.1.shape;rfl
 have u5:=h2.1
 refine h1.Dg (r:=[.int .i64 t.n,s]) hx rfl (fun u hu=>by simp only[List.mem_cons,List.not_mem_nil,or_false]at hu;rcases hu with rfl|rfl;rfl;exact hs) ⟨[.int .i64 0,.slice none 0 0],rfl,rfl⟩ (by omega) (by omega) fun v' C' ho=>hk v' C' ⟨_,ho,h2.snoc ⟨s,rfl,hw⟩⟩
def qV(l:List UInt8):List (List Value):=l.map fun b=>[Value.int .u8 b.toNat]
theorem HQ(l:List UInt8):rows (qV l)=(l.map fun b=>Value.int .u8 b.toNat).toArray:=by
 unfold rows qV
 congr 1
 induction l with
 |nil=>rfl
 |cons b r ih=>simp[ih]
theorem j4.own{T:TypeId}{v:Value}{l:List UInt8}{C:Hp}(h:aS T 1 v (qV l) C)(hs:∀x∈C,x∈H){K:Value→Prop}(hk:K (.string ⟨l.toArray⟩)):j4 H v K:=by
 obtain⟨a,cap,h1,h2⟩:=((Sl.rE h (by decide)).mono hs).cells
 refine⟨a,_,cap,l,h1,?_,by simp[qV],hk⟩
 rw[HQ,Nat.mul_one]at h2;exact h2
def xz(l:List UInt8):Value:=.string ⟨l.toArray⟩
theorem sZ(a b:List UInt8):((⟨a.toArray⟩:ByteArray)==⟨b.toArray⟩)=decide (a=b):=by
 rw[beq_toListBytes,ByteArray.toList_eq,ByteArray.toList_eq]
 simp only[List.toList_toArray]
 rw[Bool.eq_iff_iff];simp
theorem LB(a b:List UInt8):Instr.sameNow .string (xz a) (xz b)=some (decide (a=b)):=by
 show some _=some _
 rw[sZ]
theorem HC(a:List UInt8):Instr.sameBits 10000 (xz a) (xz a)=true:=by
 show((⟨a.toArray⟩:ByteArray)==⟨a.toArray⟩)=true
 rw[sZ];simp
theorem ae.WY{a b:List UInt8}{k:Value→Prop}(h:k (.bool (decide (a≠b)))):ae .str .neq (xz a) (xz b) k:=by
 refine⟨_,rfl,?_⟩
 have:(!((⟨a.toArray⟩:ByteArray).toList==(⟨b.toArray⟩:ByteArray).toList))=decide (a≠b):=by
  rw[←beq_toListBytes,sZ];simp
 rw[this];exact h
def gw(n:Nat)(B:Hp)(es:Array MapEntry)(ck:Nat)(m:List (List UInt8×List Nat)):Prop:=
 bu xz (fun v ws=>j5 B v ⟨n,ws⟩) es ck m∧∀x∈m,x.1=aj.gM x.2∧aj.cB n x.2
theorem gw.mono{n:Nat}{B B':Hp}{es:Array MapEntry}{ck:Nat}{m:List (List UInt8×List Nat)}(h:gw n B es ck m)(hs:∀x∈B,x∈B'):gw n B' es ck m:=⟨h.1.mono fun _ _ h=>h.mono hs,h.2⟩
theorem gw.empty(n:Nat)(B:Hp):gw n B #[] 0 []:=⟨bu.empty,by simp⟩
def xw(m:List (List UInt8×List Nat))(ws:List Nat):List (List UInt8×List Nat):=gU m (aj.gM ws) ws
theorem gw.nodup{n:Nat}{B:Hp}{es:Array MapEntry}{ck:Nat}{m:List (List UInt8×List Nat)}(h:gw n B es ck m):(m.map Prod.snd).Nodup:=by
 have h1:=h.1.nd
 have e:m.map Prod.fst=(m.map Prod.snd).map aj.gM:=by
  rw[List.map_map];apply List.map_congr_left;intro x hx;exact(h.2 x hx).1
 rw[e]at h1
 exact List.Pairwise.of_map aj.gM (fun a b hne e=>hne (by rw[e])) h1
theorem qu{n:Nat}{m:List (List UInt8×List Nat)}{ws:List Nat}(hm:∀x∈m,x.1=aj.gM x.2∧aj.cB n x.2)(hf:aj.cB n ws):∀x,x∈(xw m ws).map Prod.snd↔x∈m.map Prod.snd∨x=ws:=by
 intro x
 unfold xw gU
 split
 ·rename_i hk
  obtain⟨y,hy,hky⟩:=List.mem_map.1 hk
  have hyw:y.2=ws:=(hm y hy).2.key_inj hf (by rw[←(hm y hy).1,hky])
  have:(m.map fun y=>if y.1=aj.gM ws then(aj.gM ws,ws)else y)=m:=by
   conv=>rhs;rw[←List.map_id m]
   apply List.map_congr_left
   intro z hz
   split
   ·rename_i hzk
    have:z.2=ws:=(hm z hz).2.key_inj hf (by rw[←(hm z hz).1,hzk])
    simp only[id];rw[←hzk,←this]
   ·rfl
  rw[this]
  constructor
  ·exact .inl
  ·rintro(h|rfl)
   ·exact h
   ·exact List.mem_map.2 ⟨y,hy,hyw⟩
 ·simp
theorem PN{n:Nat}{m:List (List UInt8×List Nat)}{ws:List Nat}(hm:∀x∈m,x.1=aj.gM x.2∧aj.cB n x.2)(hf:aj.cB n ws):∀x∈xw m ws,x.1=aj.gM x.2∧aj.cB n x.2:=by
 intro x hx
 unfold xw gU at hx
 split at hx
 ·obtain⟨y,hy,rfl⟩:=List.mem_map.1 hx
  split
  ·exact⟨rfl,hf⟩
  ·exact hm y hy
 ·rcases List.mem_append.1 hx with hx|hx
  ·exact hm x hx
  ·simp at hx;subst hx;exact⟨rfl,hf⟩
theorem gw.cz{n:Nat}{B:Hp}{es:Array MapEntry}{ck b:Nat}{m:List (List UInt8×List Nat)}{ws:List Nat}{val:Value}{K:Hp→Prop}(h:gw n B es ck m)(hv:j5 B val ⟨n,ws⟩)(hf:aj.cB n ws)
 (h1:∀es' eU,gw n B es' eU (xw m ws)→∃H',cJ b (.map es ck) (.map es' eU) H H'∧K H'):gi .string H (.map (some b)) (xz (aj.gM ws)) val K:=
 bu.cz LB HC h.1 hv fun es' eU he=>h1 es' eU ⟨he,PN h.2 hf⟩
end
end Go.Sx
namespace Go.Sx
open Go
section
variable {P:Program} {g:Gh} {H:Hp}
theorem aS.apps{elem k bytes:Nat}{zero:Value}{v:Value}{rs:List (List Value)}{C A B:Hp}(h:aS elem k v rs C){xa:Option Addr}{xc:Nat}{r2:List (List Value)}
 (hx:Cells (A++(C++B)) xa (r2.length*k) (rows r2))(hr:∀r∈r2,r.length=k)(h1:∀r∈r2,∀u∈r,u.oneCell'=true)(hz:∃z:List Value,zero.cells=z.toArray∧z.length=k)
 (hb:(rs.length+r2.length)*bytes≤140737488355328)(bE:rs.length+r2.length≤9223372036854775807){K:Value→Hp→Prop}
 (hk:∀v' C',aS elem k v' (rs++r2) C'→K v' (A++(C'++B))):App P elem k bytes zero (A++(C++B)) v (.slice xa r2.length xc) K:=by
 obtain⟨z,Xo,Qz⟩:=hz
 have hnone:∀u∈(rows r2).toList,u.oneCell'=true:=by
  intro u hu
  simp only[rows,List.mem_flatten]at hu
  obtain⟨r,h2,h3⟩:=hu
  exact h1 r h2 u h3
 rcases h with⟨rfl,rfl,rfl⟩|⟨b,aL,rfl,rfl,aK⟩
 ·refine⟨none,0,0,xa,r2.length,xc,#[],rows r2,rfl,rfl,rfl,hx,bS hr,by simp,hnone,fun h=>?_,fun _=>⟨by simpa using hb,by simpa using bE,fun fY hn b hbf=>?_⟩⟩
  ·have:r2=[]:=List.eq_nil_of_length_eq_zero (by omega)
   subst this
   exact hk _ [] (.inl ⟨rfl,rfl,rfl⟩)
  ·rw[show(#[]:Array Value)++rows r2++Builtin.zeroCells zero.cells (fY-(0+r2.length))=rows ([]++r2++List.replicate (fY-r2.length) z)by rw[Xo,pe z Qz];simp only[Nat.zero_add,Array.empty_append,List.nil_append];rw[ei]]
   refine⟨_,aO.R8 [(b,_)] A B,hk _ [(b,_)] (.inr ⟨b,List.replicate (fY-r2.length) z,?_,rfl,?_⟩)⟩
   ·simp;omega
   ·intro x hx
    rcases List.mem_append.1 hx with hx|hx
    ·exact hr x hx
    ·rw[List.eq_of_mem_replicate hx,Qz]
 ·have hsz:=bS aK
  have oa:∀x∈rs,x.length=k:=fun x hx=>aK x (by simp[hx])
  have hold:rows rs=(rows (rs++aL)).extract 0 (0+rs.length*k):=by
   rw[←ei]
   apply Array.ext'
   have:=bS oa
   have h2:(rows rs).toList.length=rs.length*k:=by rw[Array.length_toList];exact this
   rw[Array.toList_extract,Array.toList_append,List.extract_eq_take_drop,List.drop_zero,Nat.zero_add,Nat.sub_zero,←h2,List.take_left]
  refine⟨some ⟨b,0,none⟩,rs.length,rs.length+aL.length,xa,r2.length,xc,rows rs,rows r2,rfl,rfl,.inr ⟨rfl,_,elem,(0,0),by simp,?_,hold⟩,hx,bS hr,bS oa,hnone,fun hfit=>?_,fun hgrow=>⟨hb,by omega,fun fY hn b' hbf=>?_⟩⟩
  ·rw[hsz];simp only[List.length_append,Nat.zero_add];exact Nat.mul_le_mul_right _ (by omega)
  ·obtain⟨j1,j2,rfl,hj⟩:∃j1 j2,aL=j1++j2∧j1.length=r2.length:=⟨aL.take r2.length,aL.drop r2.length,(List.take_append_drop _ _).symm,by rw[List.length_take];omega⟩
   have Yi:∀x∈j1,x.length=k:=fun x hx=>aK x (by simp[hx])
   refine⟨_,elem,_,rfl,?_,((cJ.head _).append B).bI A,hk _ [(b,_)] (.inr ⟨b,j2,?_,?_,?_⟩)⟩
   ·rw[hsz,List.length_append,List.length_append,hj,Nat.add_mul,Nat.add_mul]
    show 0+rs.length*k+r2.length*k≤_
    omega
   ·simp;omega
   ·have e:(⟨b,0,none⟩:Addr).off+rs.length*k=rs.length*k:=by simp
    have l1:=di rs oa
    have l2:=di j1 Yi
    have l3:=di r2 hr
    have e2:ji (rows (rs++(j1++j2))) (rs.length*k) (rows r2).toList=rows (rs++r2++j2):=by
     unfold rows
     rw[List.flatten_append,List.flatten_append,List.toList_toArray,pG _ _ _ (by rw[List.length_append,List.length_append,l1,l2,l3,hj];omega)]
     congr 1
     rw[List.flatten_append,List.flatten_append,←l1,List.take_left,l3,←hj,←l2,List.drop_append,←List.append_assoc]
     simp[List.drop_append]
    rw[e,e2]
   ·intro x hx
    simp only[List.append_assoc,List.mem_append]at hx
    rcases hx with hx|hx|hx
    ·exact oa x hx
    ·exact hr x hx
    ·exact aK x (by simp[hx])
  ·refine⟨A++([(b',_)]++B),?_,hk _ [(b',_)] (.inr ⟨b',List.replicate (fY-(rs.length+r2.length)) z,?_,rfl,?_⟩)⟩
   ·rw[Xo,pe z Qz,ei,ei]
    exact fun g w h=>(aO.W0 [[_],A,[_],B] [[_],A,[_],B] ((List.perm_append_comm (l₁:=[_,A]) (l₂:=[_])).append_right [B]|>.trans (.cons _ (.swap _ _ _))) g w h).tail
   ·simp;omega
   ·intro x hx
    rcases List.mem_append.1 hx with hx|hx
    ·rcases List.mem_append.1 hx with hx|hx
     ·exact oa x hx
     ·exact hr x hx
    ·rw[List.eq_of_mem_replicate hx,Qz]
def aQ(T:TypeId)(kd:IntKind)(v:Value)(l:List Int)(C:Hp):Prop:=aS T 1 v (l.map fun n=>[Value.int kd n]) C
theorem aQ.nil{T:TypeId}{kd:IntKind}:aQ T kd (.slice none 0 0) [] []:=aS.nil _ _
theorem aQ.aR{T:TypeId}{kd:IntKind}{v:Value}{l:List Int}{C:Hp}(h:aQ T kd v l C){K:Value→Prop}(hk:K (.int .i64 l.length)):aG v K:=aS.aR h (by simpa using hk)
theorem aQ.ints{T:TypeId}{kd:IntKind}{v:Value}{l:List Int}{C:Hp}(h:aQ T kd v l C):bW kd C v l:=Sl.rE h (by decide)
theorem aQ.app{T:TypeId}{kd:IntKind}{v:Value}{l:List Int}{C A B:Hp}{bytes:Nat}(h:aQ T kd v l C){xb xc:Nat}{x:Int}{xT:TypeId}{fz:Nat×Nat}(hx:(xb,Obj.cells (aC kd [x]) xT fz)∈A++(C++B))
 (hb:(l.length+1)*bytes≤140737488355328)(hm:l.length+1≤9223372036854775807){K:Value→Hp→Prop}(hk:∀v' C',aQ T kd v' (l++[x]) C'→K v' (A++(C'++B))):App P T 1 bytes (.int kd 0) (A++(C++B)) v (.slice (some ⟨xb,0,none⟩) 1 xc) K:=
 aS.Dg (r:=[.int kd x]) h hx rfl (by simp[Value.oneCell']) ⟨[.int kd 0],rfl,rfl⟩ (by simpa using hb) (by simpa using hm) fun v' C' ho=>hk v' C' (by unfold aQ;simpa using ho)
theorem aQ.apps{T:TypeId}{kd:IntKind}{v x:Value}{l l2:List Int}{C A B:Hp}{bytes:Nat}(h:aQ T kd v l C)(hx:bW kd (A++(C++B)) x l2)
 (hb:(l.length+l2.length)*bytes≤140737488355328)(hm:l.length+l2.length≤9223372036854775807){K:Value→Hp→Prop}(hk:∀v' C',aQ T kd v' (l++l2) C'→K v' (A++(C'++B))):App P T 1 bytes (.int kd 0) (A++(C++B)) v x K:=by
 obtain⟨a,cap,rfl,hc⟩:=Sl.cells hx
 exact aS.apps h hc (by simp) (by simp[Value.oneCell']) ⟨[.int kd 0],rfl,rfl⟩ (by simpa using hb) (by simpa using hm) fun v' C' ho=>hk v' C' (by unfold aQ;rw[List.map_append];exact ho)
theorem av.Xj{t e:Nat}{kd:IntKind}{x y z:Int}{K:Value→Hp→Prop}(h1:P.underlying t=some (.slice e))(h2:dO P e=some 1)(h3:fu P e=some (.int kd 0))
 (h:∀b,K (.slice (some ⟨b,0,Option.none⟩) 3 3) ((b,.cells (aC kd [x,y,z]) e (0,0))::H)):av P t 3 [(0,.int kd x),(1,.int kd y),(2,.int kd z)] H K:=by
 refine⟨aC kd [x,y,z],e,1,_,h1,h2,h3,by decide,?_,fun b _=>h b⟩
 have e1:Array.range (3*1)=#[0,1,2]:=rfl
 simp[Instr.fill,Value.cells,aC,e1]
end
end Go.Sx
namespace Go.Sx
open Go
section
variable {P:Program}
theorem AB{e:TypeId}{i:TypeInfo}(hi:P.info? e=some i)(hs:i.size=1):P.cellsOf e=1:=by simp[Program.cellsOf,hi,hs]
theorem tp{e:TypeId}{q:IntKind}(hu:P.underlying e=some (.int q)){l:List Int}{j:Nat}{x:Int}(h:l[j]? =some x)(w:World):(part e (aC q l) j).run P w=.ok (.int q x) w:=by
 simp[part,isAgg,run_underlying hu,aC,h]
theorem p6{e:TypeId}{q:IntKind}(hu:P.underlying e=some (.int q))(hc:P.cellsOf e=1)(d:Nat)(l l':List Int)(w:World):∀is:List Nat,(∀i∈is,i<l.length∧i<l'.length)→
  (Op.eqItems (d+1) e (P.cellsOf e) (aC q l) (aC q l') is).run P w=.ok (is.all fun i=>l[i]? ==l'[i]?) w
 | [],_=>by simp[Op.eqItems]
 |i::is,h=>by
  obtain⟨h1,h2⟩:=h i (by simp)
  have g1:l[i]? =some l[i]:=List.getElem?_eq_getElem h1
  have g2:l'[i]? =some l'[i]:=List.getElem?_eq_getElem h2
  have p1:=tp (P:=P) hu g1 w
  have p2:=tp (P:=P) hu g2 w
  have p3:(Op.equalIn (d+1) e (.int q l[i]) (.int q l'[i])).run P w=.ok (l[i]==l'[i]) w:=by
   simp only[Op.equalIn,Sem.run_bind,run_underlying hu,Result.andThen_ok,if_true,Sem.run_pure]
  have ih:=p6 hu hc d l l' w is fun j hj=>h j (by simp[hj])
  simp only[Op.eqItems,hc,Nat.mul_one,Sem.run_bind,p1,p2,p3,Result.andThen_ok]at ih⊢
  rw[List.all_cons,g1,g2]
  cases hb:(l[i]==l'[i])
  ·simp[hb]
  ·simp[hb,ih]
theorem FO.array{t e:TypeId}{q:IntKind}{n:Nat}(ht:P.underlying t=some (.array n e))(hu:P.underlying e=some (.int q))(hz:dO P e=some 1)(l l':List Int)(h1:l.length=n)(h2:l'.length=n):
  FO P t (.agg (aC q l)) (.agg (aC q l')) (decide (l=l')):=by
 obtain⟨i,hi,hs⟩:=bU hz
 have hc:=AB hi hs
 intro w
 show(Op.equalIn (9998+1+1) t _ _).run P w=_
 rw[run_equalIn_array w (9998+1) _ _ ht hi,p6 hu hc 9998 l l' w _ (fun j hj=>by have:=List.mem_range.1 hj;omega)]
 congr 1
 rw[Bool.eq_iff_iff]
 simp only[List.all_eq_true,List.mem_range,decide_eq_true_eq,beq_iff_eq]
 constructor
 ·intro h
  apply List.ext_getElem?
  intro j
  by_cases hj:j<n
  ·exact h j hj
  ·rw[List.getElem?_eq_none (by omega),List.getElem?_eq_none (by omega)]
 ·rintro rfl j _;rfl
theorem nX.array{t e:TypeId}{q:IntKind}{n:Nat}(ht:P.underlying t=some (.array n e))(hu:P.underlying e=some (.int q))(hz:dO P e=some 1)(l:List Int)(h1:l.length=n):nX P t (.agg (aC q l)):=by
 obtain⟨i,hi,hs⟩:=bU hz
 intro b w
 have gen:∀d,(Instr.checkKey b (d+1+1) t (.agg (aC q l))).run P w=.ok () w:=by
  intro d
  have p2:∀x:Int,(Instr.checkKey b (d+1) e (.int q x)).run P w=.ok () w:=fun x=>by
   simp only[Instr.checkKey,Sem.run_bind,run_underlying hu,Result.andThen_ok,Sem.run_pure]
  unfold Instr.checkKey
  simp only[Sem.run_bind,run_underlying ht,Result.andThen_ok]
  simp only[Std.Legacy.Range.forIn_eq_forIn_range',Std.Legacy.Range.size,Nat.sub_zero,Nat.add_one_sub_one,Nat.div_one]
  have key:∀is:List Nat,(∀j∈is,j<l.length)→(forIn is PUnit.unit fun j (_:PUnit)=>(do
     Instr.checkKey b (d+1) e (←part e (aC q l) (j*(←sizeOf e)))
     pure (ForInStep.yield PUnit.unit):Sem (ForInStep PUnit))).run P w=.ok PUnit.unit w:=by
   intro is
   induction is with
   |nil=>intro _;simp
   |cons j is ih=>
    intro h
    have p1:=tp (P:=P) hu (List.getElem?_eq_getElem (h j (by simp))) w
    simp only[List.forIn_cons,Sem.run_bind,run_sizeOf hi,Result.andThen_ok,hs,Nat.mul_one,p1,p2,Sem.run_pure]
    exact ih fun k hk=>h k (by simp[hk])
  have:=key (List.range' 0 n) (fun j hj=>by have:=List.mem_range'_1.1 hj;omega)
  rw[this];rfl
 exact gen 9998
theorem Build.two{t e:TypeId}{q:IntKind}{x y:Int}{K:Value→Prop}(ht:P.underlying t=some (.array 2 e))(hz:dO P e=some 1)(h0:fu P t=some (.agg (aC q [0,0])))(h:K (.agg (aC q [x,y]))):
  Build P t [(0,.int q x),(1,.int q y)] K:=by
 refine⟨_,fun w=>?_,h⟩
 obtain⟨i,hi,hs⟩:=bU hz
 obtain⟨i0,M7,Z5⟩:=de h0
 simp only[Instr.build,Sem.run_bind,eZ M7 Z5,Result.andThen_ok,run_underlying ht,run_sizeOf hi,hs]
 simp[Instr.fill,Value.cells,aC]
end
end Go.Sx
namespace Go.Sx
open Go
section
variable {P:Program} {g:Gh} {H:Hp}
theorem jH.struct{o:Oper}{ρ:Operand→Value}{k:Value→Prop}{neq:Bool}{t yt:TypeId}{x y:Operand}{xs ys:Array Value}{b:Bool}(ho:o.op=.binOp (cond neq .neq .eql) t x y yt)(hx:ρ x=.agg xs)(hy:ρ y=.agg ys)
 (hg:P.eqGuardType P.depth t=false)(hu:P.underlying t=some (.struct (P.fieldsOf t)))(hp:P.stoodInHeld t=false)
 (he:∀w,(Op.eqFields 9999 xs ys (P.fieldsOf t).toList).run P w=.ok b w)(hk:k (.bool (cond neq (!b) b))):jH P g o ρ H k:=by
 obtain⟨dst,op,type,pos,after,guard⟩:=o
 simp only at ho
 subst ho
 obtain⟨v,h1,h2⟩:=Reads.mk (P:=P) (g:=g) (H:=H) (o:=⟨dst,.binOp (cond neq .neq .eql) t x y yt,type,pos,after,guard⟩) (ρ:=ρ) (k:=k) (s:=do eqGuard (cond neq .neq .eql) t x y (ρ x) (ρ y);binOp (cond neq .neq .eql) t (ρ x) (ρ y)) rfl
  ⟨.bool (cond neq (!b) b),hk,fun w _=>by
   rw[hx,hy]
   simp only[Sem.run_bind,run_eqGuard_agg w _ t x y xs ys hg,Result.andThen_ok]
   cases neq
   ·simp only[cond_false];rw[run_eql_struct,show(10000:Nat)=9999+1 from rfl,run_equalIn_struct w 9999 t xs ys hu hp,he];rfl
   ·simp only[cond_true];rw[run_neq_struct,show(10000:Nat)=9999+1 from rfl,run_equalIn_struct w 9999 t xs ys hu hp,he];rfl⟩
 exact⟨v,h2,h1⟩
end
end Go.Sx
namespace Go.Sx
open Go
section
variable {P:Program} {g:Gh} {H:Hp}
def uD(P:Program)(t:TypeId)(x y:Value):Prop:=
 (∃q a b,P.underlying t=some (.int q)∧x=.int q a∧y=.int q b)∨(∃a b,P.underlying t=some .bool∧x=.bool a∧y=.bool b)
theorem uD.eq{t:TypeId}{x y:Value}(h:uD P t x y)(d:Nat)(w:World):∃b,(Op.equalIn (d+1) t x y).run P w=.ok b w∧(b=true↔x=y):=by
 rcases h with⟨q,a,b,hu,rfl,rfl⟩|⟨a,b,hu,rfl,rfl⟩
 ·exact⟨a==b,by simp[Op.equalIn,run_underlying hu],by simp⟩
 ·exact⟨a==b,by simp[Op.equalIn,run_underlying hu],by simp⟩
theorem oK{t:TypeId}{xs:Array Value}{o:Nat}{x:Value}(hu:(∃q,P.underlying t=some (.int q))∨P.underlying t=some .bool)(h:xs[o]? =some x)(w:World):(part t xs o).run P w=.ok x w:=by
 rcases hu with⟨q,hu⟩|hu<;>simp[part,isAgg,run_underlying hu,h]
theorem oe(d:Nat)(xs ys:Array Value)(w:World):∀fs:List Field,(∀f∈fs,f.name≠ "_" ∧∃x y,xs[f.offset]? =some x∧ys[f.offset]? =some y∧uD P f.type x y)→
  ∃b,(Op.eqFields (d+1) xs ys fs).run P w=.ok b w∧(b=true↔∀f∈fs,xs[f.offset]? =ys[f.offset]?)
 | [],_=>⟨true,by simp[Op.eqFields],by simp⟩
 |f::fs,h=>by
  obtain⟨hn,x,y,hx,hy,hp⟩:=h f (by simp)
  obtain⟨b',ih,hb'⟩:=oe d xs ys w fs fun g hg=>h g (by simp[hg])
  have hu:(∃q,P.underlying f.type=some (.int q))∨P.underlying f.type=some .bool:=by
   rcases hp with⟨q,_,_,hu,_⟩|⟨_,_,hu,_⟩
   ·exact .inl ⟨q,hu⟩
   ·exact .inr hu
  obtain⟨b,hr,hb⟩:=hp.eq d w
  have p1:=oK hu hx w
  have p2:=oK hu hy w
  cases b with
  |false=>
   refine⟨false,by simp[Op.eqFields,hn,p1,p2,hr],?_⟩
   simp only[Bool.false_eq_true,List.mem_cons,forall_eq_or_imp,false_iff,hx,hy,Option.some.injEq]
   exact fun hh=>absurd (hb.2 hh.1) (by decide)
  |true=>
   refine⟨b',by simp[Op.eqFields,hn,p1,p2,hr,ih],?_⟩
   rw[hb']
   simp only[List.mem_cons,forall_eq_or_imp,hx,hy,Option.some.injEq,hb.1 rfl,true_and]
theorem FO.flat{t:TypeId}{fs:Array Field}(ht:P.underlying t=some (.struct fs))(hp:P.stoodInHeld t=false){xs ys:Array Value}{p:Prop}[Decidable p]
 (h:∀f∈fs.toList,f.name≠ "_" ∧∃x y,xs[f.offset]? =some x∧ys[f.offset]? =some y∧uD P f.type x y)(he:(∀f∈fs.toList,xs[f.offset]? =ys[f.offset]?)↔p):FO P t (.agg xs) (.agg ys) (decide p):=by
 have e:P.fieldsOf t=fs:=by simp[Program.fieldsOf,ht]
 intro w
 show(Op.equalIn (9998+1+1) t _ _).run P w=_
 rw[run_equalIn_struct w (9998+1) t xs ys (by rw[e];exact ht) hp,e]
 obtain⟨b,hr,hb⟩:=oe (P:=P) 9998 xs ys w fs.toList h
 rw[hr]
 congr 1
 rw[Bool.eq_iff_iff,hb,he,decide_eq_true_eq]
theorem nX.flat{t:TypeId}{fs:Array Field}(ht:P.underlying t=some (.struct fs)){xs:Array Value}
 (h:∀f∈fs.toList,f.name≠ "_" ∧∃x,xs[f.offset]? =some x∧uD P f.type x x):nX P t (.agg xs):=by
 intro b w
 have gen:∀d,(Instr.checkKey b (d+1+1) t (.agg xs)).run P w=.ok () w:=by
  intro d
  unfold Instr.checkKey
  simp only[Sem.run_bind,run_underlying ht,Result.andThen_ok]
  rw[←Array.forIn_toList]
  clear ht
  generalize fs.toList=l at h
  induction l with
  |nil=>simp
  |cons f l ih=>
   obtain⟨hn,x,hx,hp⟩:=h f (by simp)
   have hu:(∃q,P.underlying f.type=some (.int q))∨P.underlying f.type=some .bool:=by
    rcases hp with⟨q,_,_,hu,_⟩|⟨_,_,hu,_⟩
    ·exact .inl ⟨q,hu⟩
    ·exact .inr hu
   have p1:=oK hu hx w
   have p2:(Instr.checkKey b (d+1) f.type x).run P w=.ok () w:=by
    rcases hp with⟨q,a,_,hu,rfl,_⟩|⟨a,_,hu,rfl,_⟩
    ·simp only[Instr.checkKey,Sem.run_bind,run_underlying hu,Result.andThen_ok,Sem.run_pure]
    ·simp only[Instr.checkKey,Sem.run_bind,run_underlying hu,Result.andThen_ok,Sem.run_pure]
   have:=ih fun g hg=>h g (by simp[hg])
   simp only[List.forIn_cons,Sem.run_bind]
   simp[hn,p1,p2]
   simpa using this
 exact gen 9998
theorem vk(n:Nat){xs:Array Value}(h:∀x∈xs.toList,(∃q a,x=.int q a)∨∃a,x=.bool a):Instr.sameBits (n+1+1) (.agg xs) (.agg xs)=true:=by
 simp only[Instr.sameBits,beq_self_eq_true,Bool.true_and,List.all_eq_true]
 intro x hx
 obtain⟨a,b⟩:=x
 have h1:=List.of_mem_zip hx
 have e:a=b:=by
  obtain⟨i,hi,he⟩:=List.mem_iff_getElem.1 hx
  simp at he
  exact he.1.symm.trans he.2
 subst e
 rcases h a h1.1 with⟨q,z,rfl⟩|⟨z,rfl⟩<;>simp[Instr.sameBits]
end
section
variable {κ:Type} [DecidableEq κ] {β:Type} {ke:κ→Value} {vr:Value→β→Prop} {es:Array MapEntry} {ck b:Nat} {m:List (κ×β)} {P:Program} {H:Hp}
def vp(m:List (κ×β))(k:κ):List (κ×β):=m.filter fun y=>¬y.1=k
theorem wc{k k':κ}:er (vp m k) k'=if k'=k then none else er m k':=by
 unfold er vp
 rw[List.find?_filter]
 by_cases e:k'=k
 ·rw[if_pos e]
  rw[List.find?_eq_none.2]
  ·rfl
  ·intro x _;simp;intro h1 h2;exact h1 (h2.trans e)
 ·rw[if_neg e]
  congr 1
  congr 1
  funext y
  by_cases e2:y.1=k'
  ·have:¬y.1=k:=fun e3=>e (e2.symm.trans e3)
   simp[e2,this,e]
  ·simp[e2]
theorem gp{k k':κ}{x:β}:er (gU m k x) k'=if k'=k then some x else er m k':=by
 unfold er gU
 by_cases hk:k∈m.map Prod.fst
 ·rw[if_pos hk]
  by_cases e:k'=k
  ·subst e
   rw[if_pos rfl]
   induction m with
   |nil=>simp at hk
   |cons y m ih=>
    rw[List.map_cons,List.find?_cons]
    by_cases ey:y.1=k'
    ·simp[ey]
    ·rw[if_neg ey]
     simp only[ey,decide_false]
     rw[ih]
     rw[List.map_cons]at hk
     rcases List.mem_cons.1 hk with h|h
     ·exact absurd h.symm ey
     ·simpa using h
  ·rw[if_neg e]
   have:∀l:List (κ×β),(List.find? (fun y=>decide (y.1=k')) (l.map fun y=>if y.1=k then(k,x)else y)).map Prod.snd=(List.find? (fun y=>decide (y.1=k')) l).map Prod.snd:=by
    intro l
    induction l with
    |nil=>rfl
    |cons y l ih=>
     rw[List.map_cons,List.find?_cons,List.find?_cons]
     by_cases ey:y.1=k
     ·have h1:decide (k=k')=false:=by simpa using fun h=>e h.symm
      have h2:decide (y.1=k')=false:=by rw[ey];exact h1
      simp only[if_pos ey,h1,h2]
      exact ih
     ·simp only[if_neg ey]
      cases decide (y.1=k')with
      |true=>rfl
      |false=>exact ih
   exact this m
 ·rw[if_neg hk]
  rw[List.find?_append]
  by_cases e:k'=k
  ·subst e
   have:List.find? (fun y=>decide (y.1=k')) m=none:=by
    rw[List.find?_eq_none];intro y hy;simp;intro h;exact hk (List.mem_map.2 ⟨y,hy,h⟩)
   simp[this]
  ·have:¬k=k':=fun h=>e h.symm
   rw[if_neg e]
   cases List.find? (fun y=>decide (y.1=k')) m<;>simp[this]
theorem BS(nd:(m.map Prod.fst).Nodup){i:Nat}{k:κ}{y:β}(hi:m[i]? =some (k,y)):vp m k=m.eraseIdx i:=by
 unfold vp
 induction m generalizing i with
 |nil=>simp at hi
 |cons z m ih=>
  rw[List.map_cons,List.nodup_cons]at nd
  cases i with
  |zero=>
   simp at hi;subst hi
   rw[List.eraseIdx_cons_zero,List.filter_cons_of_neg (by simp)]
   rw[List.filter_eq_self]
   intro w hw
   simp only[decide_not,Bool.not_eq_true',decide_eq_false_iff_not]
   intro e
   exact nd.1 (List.mem_map.2 ⟨w,hw,e⟩)
  |succ i=>
   simp at hi
   have hz:¬z.1=k:=fun e=>nd.1 (List.mem_map.2 ⟨_,List.mem_of_getElem? hi,e.symm⟩)
   rw[List.eraseIdx_cons_succ,List.filter_cons_of_pos (by simpa using hz),ih nd.2 hi]
omit [DecidableEq κ] in
theorem bu.less(h:bu ke vr es ck m)(i:Nat):bu ke vr (es.eraseIdxIfInBounds i) ck (m.eraseIdx i):=by
 have hl:(es.eraseIdxIfInBounds i).toList=es.toList.eraseIdx i:=by
  unfold Array.eraseIdxIfInBounds
  split
  ·simp
  ·rename_i hh;rw[List.eraseIdx_of_length_le (by simpa using hh)]
 refine⟨?_,fun j e x he hx=>?_,?_,?_,fun e he=>?_⟩
 ·have:=congrArg List.length hl
  rw[Array.length_toList,List.length_eraseIdx]at this
  rw[this,List.length_eraseIdx,Array.length_toList,h.len]
 ·rw[←Array.getElem?_toList,hl,List.getElem?_eraseIdx]at he
  rw[List.getElem?_eraseIdx]at hx
  split at he
  ·rename_i hh;rw[if_pos hh]at hx;exact h.key j e x (by simpa using he) hx
  ·rename_i hh;rw[if_neg hh]at hx;exact h.key (j+1) e x (by simpa using he) hx
 ·rw[←gG];exact h.nd.sublist (List.eraseIdx_sublist _ _)
 ·rw[hl,←gG];exact h.born.sublist (List.eraseIdx_sublist _ _)
 ·rw[hl]at he;exact h.lt e (List.mem_of_mem_eraseIdx he)
theorem bu.aed{P:Program}{kt:TypeId}{k:κ}{K:Hp→Prop}(hk:∀a b,FO P kt (ke a) (ke b) (decide (a=b)))(hc:∀a,nX P kt (ke a))(h:bu ke vr es ck m)(hm:(b,Obj.map es ck)∈H)
 (h1:∀es',bu ke vr es' ck (vp m k)→∃H',cJ b (.map es ck) (.map es' ck) H H'∧K H'):qh P kt H (.map (some b)) (ke k) K:=by
 refine⟨hc k,.inr ?_⟩
 rcases h.Ak hk k with⟨i,y,e,g1,g2,g3,g4⟩|⟨g1,g2⟩
 ·refine⟨b,es,ck,_,rfl,g4,?_⟩
  have:=h.less i
  rw[←BS h.nd g2]at this
  exact h1 _ this
 ·refine⟨b,es,ck,_,rfl,g2,hm,?_⟩
  have e:vp m k=m:=by
   unfold vp
   rw[List.filter_eq_self]
   intro w hw
   simp only[decide_not,Bool.not_eq_true',decide_eq_false_iff_not]
   intro e
   exact g1 (List.mem_map.2 ⟨w,hw,e⟩)
  obtain⟨H',hu,hK⟩:=h1 es (by rw[e];exact h)
  have:∀{H H':Hp},cJ b (.map es ck) (.map es ck) H H'→H'=H:=by
   intro H H' hu
   generalize ho:Obj.map es ck=o at hu
   induction hu with
   |head R=>rfl
   |tail _ ih=>rw[ih]
  rw[this hu]at hK;exact hK
end
section
variable {P:Program} {H:Hp}
theorem aS.Gy{T:TypeId}{k:Nat}{v:Value}{rs:List (List Value)}{C:Hp}(hs:aS T k v rs C){i:Nat}{kd:IntKind}{r:List Value}(hr:rs[i]? =some r)(hC:∀y∈C,y∈H){K:Value→Prop}(hk:K (.agg r.toArray)):
  ah k v (.int kd (i:Int)) fun p=>az k H p K:=by
 have hi:=(List.getElem?_eq_some_iff.1 hr).1
 obtain⟨b',aL,rfl,rfl,aK⟩:=hs.pos (by omega)
 exact ah.nat hi (az.row (hC _ (List.Mem.head _)) aK (by rw[List.getElem?_append_left hi];exact hr) hk)
theorem aS.BY{T:TypeId}{k:Nat}{v x:Value}{rs:List (List Value)}{C:Hp}(hs:aS T k v rs C){i j:Nat}{kd:IntKind}{r:List Value}(hr:rs[i]? =some r)(hj:r[j]? =some x)(hC:∀y∈C,y∈H){K:Value→Prop}(hk:K x):
  ah k v (.int kd (i:Int)) fun p=>aa j p fun q=>Ld H q K:=by
 have hi:=(List.getElem?_eq_some_iff.1 hr).1
 obtain⟨b',aL,rfl,rfl,aK⟩:=hs.pos (by omega)
 exact ah.nat hi (aa.mk (Ld.row (hC _ (List.Mem.head _)) aK (by rw[List.getElem?_append_left hi];exact hr) hj hk))
theorem aS.Se{T:TypeId}{v x:Value}{rs:List (List Value)}{C:Hp}(hs:aS T 1 v rs C){i:Nat}{kd:IntKind}(hr:rs[i]? =some [x])(hC:∀y∈C,y∈H){K:Value→Prop}(hk:K x):
  ah 1 v (.int kd (i:Int)) fun p=>Ld H p K:=by
 have hi:=(List.getElem?_eq_some_iff.1 hr).1
 obtain⟨b',aL,rfl,rfl,aK⟩:=hs.pos (by omega)
 exact ah.nat hi (Ld.W4 (l:=rs++aL) (hC _ (List.Mem.head _)) aK (by rw[List.getElem?_append_left hi];exact hr) hk)
theorem aS.Mq{T:TypeId}{k n:Nat}{v:Value}{rs:List (List Value)}{C:Hp}(hs:aS T k v rs C){i:Nat}{kd:IntKind}{r:List Value}(hr:rs[i]? =some r)(hn:0<n∧n≤k)(hC:∀y∈C,y∈H){K:Value→Prop}(hk:K (.agg (r.take n).toArray)):
  ah k v (.int kd (i:Int)) fun p=>aa 0 p fun q=>az n H q K:=by
 have hi:=(List.getElem?_eq_some_iff.1 hr).1
 obtain⟨b',aL,rfl,rfl,aK⟩:=hs.pos (by omega)
 have u5:r.length=k:=aK r (List.mem_append_left _ (List.mem_of_getElem? hr))
 refine ah.nat hi (aa.mk ?_)
 have yL:At H (.pointer (some ⟨b',0+i*k+0,none⟩)) (r.take n):=⟨b',_,_,_,_,rfl,hC _ (List.Mem.head _),fun j x hj=>by
  have QO:j<n:=by have:=(List.getElem?_eq_some_iff.1 hj).1;simp at this;omega
  rw[List.getElem?_take,if_pos QO]at hj
  rw[Nat.add_zero,Nat.zero_add,ia aK (by omega),List.getElem?_append_left hi,hr];exact hj⟩
 exact az.at yL (by simp;omega) hn.1 (fun _ h=>h) hk
theorem HN{k:Nat}{l:List (List Value)}(h:∀r∈l,r.length=k){i:Nat}{r xs:List Value}(hi:l[i]? =some r)(hx:xs.length≤k):ji (rows l) (i*k) xs=rows (l.set i (xs++r.drop xs.length)):=by
 have hlt:=(List.getElem?_eq_some_iff.1 hi).1
 have hr:=h r (List.mem_of_getElem? hi)
 have key:∀(xs:List Value) (j:Nat) (l:List (List Value)) (r:List Value),(∀r∈l,r.length=k)→l[i]? =some r→j+xs.length≤k→ji (rows l) (i*k+j) xs=rows (l.set i (r.take j++xs++r.drop (j+xs.length))):=by
  intro xs
  induction xs with
  |nil=>
   intro j l r h hi _
   have hlt:=(List.getElem?_eq_some_iff.1 hi).1
   simp only[ji,List.append_nil,List.length_nil,Nat.add_zero,List.take_append_drop]
   congr 1
   apply List.ext_getElem?
   intro m
   rw[List.getElem?_set]
   by_cases e:i=m
   ·subst e;rw[if_pos rfl,hi,if_pos hlt]
   ·rw[if_neg e]
  |cons x xs ih=>
   intro j l r h hi hj
   have hr:=h r (List.mem_of_getElem? hi)
   have hlt:=(List.getElem?_eq_some_iff.1 hi).1
   simp only[List.length_cons]at hj
   rw[ji,n6 h hi (by omega),Nat.add_assoc]
   rw[ih (j+1) (l.set i (r.set j x)) (r.set j x) (fun y hy=>by
    rcases List.mem_or_eq_of_mem_set hy with hy|rfl
    ·exact h y hy
    ·simpa using hr) (by simp[hlt]) (by omega)]
   rw[List.set_set]
   congr 2
   have e1:(r.set j x).take (j+1)=r.take j++[x]:=by
    rw[List.set_eq_take_append_cons_drop,if_pos (by omega),List.take_append]
    simp[List.take_take,show min (j+1) j=j by omega,show j+1-min j r.length=1 by omega]
   have e2:(r.set j x).drop (j+1+xs.length)=r.drop (j+(x::xs).length):=by
    rw[List.drop_set,if_pos (by omega)]
    congr 1
    simp;omega
   rw[e1,e2]
   simp
 have:=key xs 0 l r h hi (by omega)
 simpa using this
theorem aS.P3{T:TypeId}{k n:Nat}{v:Value}{rs:List (List Value)}{C A B:Hp}(hs:aS T k v rs C){i:Nat}{kd:IntKind}{r xs:List Value}(hr:rs[i]? =some r)(hx:xs.length=n∧n≤k)(h1:∀x∈xs,x.oneCell'=true){K:Hp→Prop}
 (hk:∀C',aS T k v (rs.set i (xs++r.drop n)) C'→K (A++(C'++B))):ah k v (.int kd (i:Int)) fun p=>aa 0 p fun q=>St n (A++(C++B)) q (.agg xs.toArray) K:=by
 have hi:=(List.getElem?_eq_some_iff.1 hr).1
 obtain⟨b',aL,rfl,rfl,aK⟩:=hs.pos (by omega)
 refine ah.nat hi (aa.mk ?_)
 have hg:(rs++aL)[i]? =some r:=by rw[List.getElem?_append_left hi];exact hr
 have e:(rs++aL).set i (xs++r.drop xs.length)=rs.set i (xs++r.drop n)++aL:=by rw[List.set_append_left _ _ hi,hx.1]
 refine St.mk (c':=rows (rs.set i (xs++r.drop n)++aL)) (H':=A++([(b',.cells (rows (rs.set i (xs++r.drop n)++aL)) T (0,0))]++B)) (((cJ.head _).append B).bI A) (by simpa[Value.cells]using hx.1) ?_ (by simpa[Value.cells]using h1) ?_ ?_
 ·rw[bS aK,Nat.zero_add,Nat.add_zero,List.length_append]
  have:=Nat.mul_le_mul_right k (Nat.succ_le_of_lt hi)
  rw[Nat.succ_mul]at this
  have h2:rs.length*k≤(rs.length+aL.length)*k:=Nat.mul_le_mul_right k (by omega)
  omega
 ·simp only[Value.cells,Nat.zero_add,Nat.add_zero]
  rw[HN aK hg (by omega),e]
 ·have u5:r.length=k:=aK r (List.mem_append_left _ (List.mem_of_getElem? hr))
  refine hk _ (aS.mk' (aL:=aL) (fun y hy=>?_) (by simp) (by simp))
  rcases List.mem_append.1 hy with hy|hy
  ·rcases List.mem_or_eq_of_mem_set hy with hy|rfl
   ·exact aK y (List.mem_append_left _ hy)
   ·simp;omega
  ·exact aK y (List.mem_append_right _ hy)
theorem aS.LX{T:TypeId}{k:Nat}{v:Value}{rs:List (List Value)}{C A B:Hp}(hs:aS T k v rs C){i:Nat}{kd:IntKind}{xs:List Value}(hi:i<rs.length)(hx:xs.length=k)(h1:∀x∈xs,x.oneCell'=true){K:Hp→Prop}
 (hk:∀C',aS T k v (rs.set i xs) C'→K (A++(C'++B))):ah k v (.int kd (i:Int)) fun p=>St k (A++(C++B)) p (.agg xs.toArray) K:=by
 obtain⟨b',aL,rfl,rfl,aK⟩:=hs.pos (by omega)
 refine ah.nat hi (St.row (l:=rs++aL) (((cJ.head _).append B).bI A) aK (by simp;omega) hx h1 ?_)
 have e:(rs++aL).set i xs=rs.set i xs++aL:=by rw[List.set_append_left _ _ hi]
 rw[e]
 refine hk [(b',_)] (aS.mk' (aL:=aL) (fun y hy=>?_) (by simp) (by simp))
 rcases List.mem_append.1 hy with hy|hy
 ·rcases List.mem_or_eq_of_mem_set hy with hy|rfl
  ·exact aK y (List.mem_append_left _ hy)
  ·exact hx
 ·exact aK y (List.mem_append_right _ hy)
theorem aQ.ld{T:TypeId}{kd xP:IntKind}{v:Value}{l:List Int}{C:Hp}(hs:aQ T kd v l C){i:Nat}{x:Int}(hx:l[i]? =some x)(hC:∀y∈C,y∈H){K:Value→Prop}(hk:K (.int kd x)):ah 1 v (.int xP (i:Int)) fun p=>Ld H p K:=
 aS.Se hs (x:=.int kd x) (by simp[hx]) hC hk
theorem aQ.put{T:TypeId}{kd xP:IntKind}{v:Value}{l:List Int}{C A B:Hp}(hs:aQ T kd v l C){i:Nat}{x:Int}(hi:i<l.length){K:Hp→Prop}
 (hk:∀C',aQ T kd v (l.set i x) C'→K (A++(C'++B))):ah 1 v (.int xP (i:Int)) fun p=>St 1 (A++(C++B)) p (.int kd x) K:=by
 have hi':i<(l.map fun n=>[Value.int kd n]).length:=by simpa using hi
 obtain⟨b',aL,rfl,rfl,aK⟩:=aS.pos hs (by omega)
 refine ah.nat hi' ?_
 refine St.cell (l:=l.map (fun n=>[Value.int kd n])++aL) (i:=i) (k:=1) (j:=0) (r:=[.int kd l[i]]) (((cJ.head _).append B).bI A) aK (by rw[List.getElem?_append_left hi'];simp[hi]) (by omega) rfl ?_
 have e:(l.map (fun n=>[Value.int kd n])++aL).set i ([Value.int kd l[i]].set 0 (.int kd x))=(l.set i x).map (fun n=>[Value.int kd n])++aL:=by
  rw[List.set_append_left _ _ hi',List.map_set];rfl
 rw[e]
 refine hk [(b',_)] (aS.mk' (aL:=aL) (fun r hr'=>?_) (by simp) (by simp))
 rcases List.mem_append.1 hr' with hr'|hr'
 ·obtain⟨y,_,rfl⟩:=List.mem_map.1 hr';rfl
 ·exact aK r (List.mem_append_right _ hr')
theorem aO.nil{H:Hp}:aO H []:=fun _ _ h=>h.kW
theorem aS.cut{T:TypeId}{k i:Nat}{v:Value}{rs:List (List Value)}{C:Hp}(hs:aS T k v rs C)(hi:i≤rs.length){kd:IntKind}{K:Value→Prop}(hk:∀v',aS T k v' (rs.take i) C→K v'):
  gh k v none (some (.int kd (i:Int))) K:=by
 by_cases hp:0<rs.length
 ·obtain⟨b',aL,rfl,rfl,aK⟩:=hs.pos hp
  refine gh.upto (by omega) (hk _ ?_)
  have e:rs++aL=rs.take i++(rs.drop i++aL):=by rw[←List.append_assoc,List.take_append_drop]
  rw[e]at aK⊢
  exact aS.mk' aK (by simp;omega) (by simp;omega)
 ·obtain rfl:rs=[]:=List.eq_nil_of_length_eq_zero (by omega)
  obtain rfl:i=0:=by simpa using hi
  obtain⟨a,c,rfl⟩:=hs.len
  exact gh.upto (Nat.zero_le _) (hk _ (by simpa using hs))
theorem aQ.cut{T:TypeId}{kd xP:IntKind}{i:Nat}{v:Value}{l:List Int}{C:Hp}(hs:aQ T kd v l C)(hi:i≤l.length){K:Value→Prop}(hk:∀v',aQ T kd v' (l.take i) C→K v'):
  gh 1 v none (some (.int xP (i:Int))) K:=
 aS.cut hs (by simpa using hi) fun v' h=>hk v' (by unfold aQ;rw[List.map_take];exact h)
end
end Go.Sx
namespace Go.Sx
open Go
section
variable {P:Program} {H C:Hp} {c:Hp→Hp}
theorem cy.split(h:cy C H c):∃A B,∀X,c X=A++(X++B):=by
 induction h with
 |here=>exact⟨[],[],fun X=>by simp⟩
 | @left A=>exact⟨[],A,fun X=>rfl⟩
 | @cons x H c h ih=>
  obtain⟨A,B,e⟩:=ih
  exact⟨x::A,B,fun X=>by show x::c X=_;rw[e];rfl⟩
 | @app A' H c h ih=>
  obtain⟨A,B,e⟩:=ih
  exact⟨A'++A,B,fun X=>by show A'++c X=_;rw[e,List.append_assoc]⟩
theorem cy.sub(h:cy C H c):∀x∈C,x∈H:=fun x hx=>by
 obtain⟨A,B,e⟩:=h.split
 rw[h.spec.1,e]
 exact List.mem_append_right _ (List.mem_append_left _ hx)
theorem aS.mW{elem k bytes:Nat}{zero:Value}{v:Value}{rs:List (List Value)}(h:aS elem k v rs C)(hh:cy C H c){xb:Nat}{r:List Value}{xT:TypeId}{fz:Nat×Nat}{xc:Nat}
 (hx:(xb,Obj.cells r.toArray xT fz)∈H)(hr:r.length=k)(h1:∀u∈r,u.oneCell'=true)(hz:∃z:List Value,zero.cells=z.toArray∧z.length=k)
 (hb:(rs.length+1)*bytes≤140737488355328)(bE:rs.length+1≤9223372036854775807){K:Value→Hp→Prop}
 (hk:∀v' C',aS elem k v' (rs++[r]) C'→K v' (c C')):App P elem k bytes zero H v (.slice (some ⟨xb,0,none⟩) 1 xc) K:=by
 obtain⟨A,B,e⟩:=hh.split
 have e2:=hh.spec.1
 rw[e]at e2
 subst e2
 exact h.Dg hx hr h1 hz hb bE fun v' C' ho=>by have:=hk v' C' ho;rwa [e]at this
theorem aQ.mW{T:TypeId}{kd:IntKind}{v:Value}{l:List Int}{bytes:Nat}(h:aQ T kd v l C)(hh:cy C H c){xb xc:Nat}{x:Int}{xT:TypeId}{fz:Nat×Nat}(hx:(xb,Obj.cells (aC kd [x]) xT fz)∈H)
 (hb:(l.length+1)*bytes≤140737488355328)(hm:l.length+1≤9223372036854775807){K:Value→Hp→Prop}(hk:∀v' C',aQ T kd v' (l++[x]) C'→K v' (c C')):App P T 1 bytes (.int kd 0) H v (.slice (some ⟨xb,0,none⟩) 1 xc) K:=by
 obtain⟨A,B,e⟩:=hh.split
 have e2:=hh.spec.1
 rw[e]at e2
 subst e2
 exact h.app hx hb hm fun v' C' ho=>by have:=hk v' C' ho;rwa [e]at this
theorem aQ.qc{T:TypeId}{kd:IntKind}{v x:Value}{l l2:List Int}{bytes:Nat}(h:aQ T kd v l C)(hh:cy C H c)(hx:bW kd H x l2)
 (hb:(l.length+l2.length)*bytes≤140737488355328)(hm:l.length+l2.length≤9223372036854775807){K:Value→Hp→Prop}(hk:∀v' C',aQ T kd v' (l++l2) C'→K v' (c C')):App P T 1 bytes (.int kd 0) H v x K:=by
 obtain⟨A,B,e⟩:=hh.split
 have e2:=hh.spec.1
 rw[e]at e2
 subst e2
 exact h.apps hx hb hm fun v' C' ho=>by have:=hk v' C' ho;rwa [e]at this
theorem aQ.jD{T:TypeId}{kd xP:IntKind}{v:Value}{l:List Int}(hs:aQ T kd v l C)(hh:cy C H c){i:Nat}{x:Int}(hi:i<l.length){K:Hp→Prop}
 (hk:∀C',aQ T kd v (l.set i x) C'→K (c C')):ah 1 v (.int xP (i:Int)) fun p=>St 1 H p (.int kd x) K:=by
 obtain⟨A,B,e⟩:=hh.split
 have e2:=hh.spec.1
 rw[e]at e2
 subst e2
 exact hs.put hi fun C' ho=>by have:=hk C' ho;rwa [e]at this
theorem aQ.one{T:TypeId}{kd:IntKind}{v:Value}{l:List Int}(h:aQ T kd v l C):v.oneCell'=true:=by obtain⟨a,c,e⟩:=aS.len h;rw[e];rfl
theorem fZ(l:List Nat)(i x:Nat):(iw l).set i (x:Int)=iw (l.set i x):=by unfold iw;rw[List.map_set]
theorem bT(a b:List Nat):iw (a++b)=iw a++iw b:=by unfold iw;rw[List.map_append]
theorem bF{l:List Nat}{i:Nat}(h:i<l.length):(iw l)[i]? =some ((l.getD i 0:Nat):Int):=by
 rw[cj (List.getElem?_eq_getElem h)];simp[List.getD,List.getElem?_eq_getElem h]
end
end Go.Sx
namespace Go.Sx
open Go
theorem kz{p:Nat→Prop}(h:∃k,p k):∃k,p k∧∀j,p j→k≤j:=by
 obtain⟨k,hk⟩:=h
 induction k using Nat.strongRecOn with
 |_ k ih=>
  by_cases e:∃j,j<k∧p j
  ·obtain⟨j,hj,hp⟩:=e;exact ih j hj hp
  ·exact⟨k,hk,fun j hp=>Nat.le_of_not_lt fun hlt=>e ⟨j,hlt,hp⟩⟩
open Classical in
noncomputable def mF(J:Nat→List Value→Hp→Prop)(vs:List Value)(H:Hp):Nat:=if h:∃k,J k vs H then Classical.choose (kz h)else 0
theorem Ir{J:Nat→List Value→Hp→Prop}{vs:List Value}{H:Hp}{k:Nat}(h:J k vs H):mF J vs H≤k:=by
 unfold mF
 rw[dif_pos ⟨k,h⟩]
 exact(Classical.choose_spec (kz ⟨k,h⟩)).2 k h
theorem zG{J:Nat→List Value→Hp→Prop}{vs:List Value}{H:Hp}(h:∃k,J k vs H):J (mF J vs H) vs H:=by
 unfold mF
 rw[dif_pos h]
 exact(Classical.choose_spec (kz h)).1
def nj(J:Nat→List Value→Hp→Prop):List Value→Hp→Prop:=fun vs H=>∃k,J k vs H
theorem nj.open{J:Nat→List Value→Hp→Prop}{vs:List Value}{H:Hp}(h:nj J vs H):∃k,J k vs H∧k=mF J vs H:=⟨_,zG h,rfl⟩
theorem nj.mk{J:Nat→List Value→Hp→Prop}{vs:List Value}{H:Hp}(k:Nat)(h:J k vs H):JE (nj J) vs H:=JE.mk ⟨k,h⟩
theorem nj.back{J:Nat→List Value→Hp→Prop}{vs vs':List Value}{H H' H0:Hp}{k:Nat}(e:aO H H')(hk:k=mF J vs H0)(k':Nat)(h:J k' vs' H')(hlt:k'<k):ay (nj J) (mF J) vs' H vs H0:=
 ay.of e ⟨k',h⟩ (Nat.lt_of_le_of_lt (Ir h) (by omega))
theorem Xd{vs:List Value}{H:Hp}{Q:(List Value→Hp→Prop)→(List Value→Hp→Nat)→Prop}(J:Nat→List Value→Hp→Prop)(k:Nat)(h:J k vs H)(hq:Q (nj J) (mF J)):
  ∃(I:List Value→Hp→Prop) (m:List Value→Hp→Nat),JE I vs H∧Q I m:=⟨_,_,nj.mk k h,hq⟩
section
variable {P:Program} {H:Hp}
theorem av.Xk{t e:Nat}{kd:IntKind}{x y:Int}{K:Value→Hp→Prop}(h1:P.underlying t=some (.slice e))(h2:dO P e=some 1)(h3:fu P e=some (.int kd 0))
 (h:∀b,K (.slice (some ⟨b,0,Option.none⟩) 2 2) ((b,.cells (aC kd [x,y]) e (0,0))::H)):av P t 2 [(0,.int kd x),(1,.int kd y)] H K:=by
 refine⟨aC kd [x,y],e,1,_,h1,h2,h3,by decide,?_,fun b _=>h b⟩
 have e1:Array.range (2*1)=#[0,1]:=rfl
 simp[Instr.fill,Value.cells,aC,e1]
theorem HP(kd:IntKind)(l:List Int):rows (l.map fun n=>[Value.int kd n])=aC kd l:=by
 unfold rows aC
 congr 1
 induction l with
 |nil=>rfl
 |cons x l ih=>rw[List.map_cons,List.flatten_cons,ih];rfl
theorem aQ.made{T:TypeId}{kd:IntKind}{b:Nat}(l:List Int):aQ T kd (.slice (some ⟨b,0,none⟩) l.length l.length) l [(b,.cells (aC kd l) T (0,0))]:=by
 have:=aS.mk' (T:=T) (k:=1) (b:=b) (n:=l.length) (c:=l.length) (rs:=l.map fun n=>[Value.int kd n]) (aL:=[]) (fun r hr=>by
  rw[List.append_nil]at hr
  obtain⟨x,_,rfl⟩:=List.mem_map.1 hr;rfl) (by simp) (by simp)
 rw[List.append_nil,HP]at this
 exact this
end
end Go.Sx
namespace Go.Sx
open Go
section
variable {P:Program} {g:Gh}
structure KJ where
 f:FuncId
 l:List Value
def sJ(P:Program)(g:Gh)(f:FuncId)(args:Array Value)(H:Hp)(R:Ending→Hp→Prop):Prop:=
 ∀w,Own g H w→∀u,CallsD P f args u w fun e u' w'=>u'=u∧∃H',Own g H' w'∧R e H'
def VP(P:Program)(g:Gh)(f:FuncId)(args:Array Value)(H:Hp)(K:Hp→Prop):Prop:=sJ P g f args H fun e H'=>(∃v,e=.returned v)∧K H'
def Lp(P:Program)(g:Gh)(K:Hp→Prop):List KJ→Hp→Prop
 | [],H=>K H
 |x::r,H=>VP P g x.f x.l.toArray H (Lp P g K r)
def VO(P:Program)(o:Oper)(ρ:Operand→Value)(k:KJ→Prop):Prop:=
 match o.op with
 | .defer c=>match c.callee with
  | .value x=>match ρ x with
   | .func (.func f) first cap=>cond (cR P f) (k ⟨f,first.toList++(c.args.toList.map ρ++cap.toList)⟩) False
   |_=>False
  |_=>False
 |_=>False
def Mz:Code→Option (Array Oper×Oper)
 | .region _ ops false=>match ops.toList.getLast? with
  |some o=>match o.op with
   | .defer _=>some (ops,o)
   |_=>none
  |none=>none
 |_=>none
def NV(P:Program)(g:Gh)(fn:Func)(R:Ending→Hp→Prop)(dl:List KJ):Exit→Fr→Hp→Prop
 | .normal,fr,H=>Lp P g (fun H'=>tf P fr H' fn.results.toList fun vs=>R (.returned (BA vs)) H') dl H
 | .ret,fr,H=>Lp P g (fun H'=>tf P fr H' fn.results.toList fun vs=>R (.returned (BA vs)) H') dl H
 |_,_,_=>False
def CY(P:Program)(g:Gh)(n:Nat)(E:List KJ→Exit→Fr→Hp→Prop):Code→Hn→List KJ→Fr→Hp→Prop
 | .seq x y,hn,dl,fr,H=>
  match Mz x with
  |some (ops,o)=>cond (o.dst.isNone&&o.guard.isNone)
    (eO P g n ops false (ops.toList.length+1) false none [] ops.toList.dropLast fr H (fun _ fr' H'=>VO P o (ev fr') fun d=>CY P g n E y hn.b (d::dl) fr' H') (fun _ _=>False)) False
  |none=>match hn.m with
   |0=>den P g n x hn.a (y4 (CY P g n E y hn.b dl) (E dl)) fr H
   |_=>cond (Qd x hn.I)
    (Zy hn.L.length (fun vs H'=>∀gs,CY P g n E y hn.b dl (mix hn.L vs hn.I fr gs) H') fun J=>den P g n x hn.a (y4 (fun fr' H'=>JE J (A2 fr' hn.L) H') (E dl)) fr H) False
 |c,hn,dl,fr,H=>den P g n c hn (E dl) fr H
def NY(P:Program)(g:Gh)(fn:Func)(hn:Hn)(args:List Value)(H:Hp)(R:Ending→Hp→Prop):Prop:=
 match fn.body with
 |some c=>cond (Nat.ble args.length fn.ntmps) (CY P g fn.ntmps (NV P g fn R) c hn [] (jk args 0) H) False
 |none=>False
def NoP:List PanicEntry→Hp→Prop:=fun _ _=>∀_:Fr,False
def DOK(P:Program)(x:KJ)(d:Deferred):Prop:=∃cap args,d={target:=.fn (.func x.f) cap,args:=args}∧args++cap=x.l.toArray∧cR P x.f=true
inductive FP(P:Program):List KJ→List Deferred→Prop
 |nil:FP P [] []
 |cons {x d l ds} (h:DOK P x d) (hr:FP P l ds):FP P (x::l) (d::ds)
theorem sU{fn:Func}{tmps:Array Value}{K:Hp→Prop}{R:Ending→World→Prop}(hK:∀H w,Own g H w→K H→∃v,(results fn tmps).run P w=.ok v w∧R (.returned v) w):
  ∀{dl:List KJ} {ds:List Deferred},FP P dl ds→∀H w,Own g H w→Lp P g K dl H→Leaves P fn tmps R ds .returning w
 |_,_,.nil,H,w,hw,h=>hK H w hw h
 |_,_,.cons ⟨cap,args,hd,ha,hc⟩ hr,H,w,hw,h=>by
  subst hd
  refine leaves_cons (by simp) ?_ ((h w hw .returning).mono ?_)
  ·show(callFunc _ (args++cap)).run P w=_
   rw[ha]
   exact fp hc _ w
  ·rintro e u' w' ⟨rfl,H',ho,⟨v,rfl⟩,hk⟩
   exact sU hK hr H' w' ho hk
theorem oR{fn:Func}{R:Ending→Hp→Prop}{n:Nat}{dl:List KJ}{ds:List Deferred}(hd:FP P dl ds){e:Exit}{fr:Fr}{H:Hp}{a:Act}{w:World}(ha:cD ds n a fr)(hw:Own g H w)(h:NV P g fn R dl e fr H):
  bodyPostD P fn (fun e w'=>∃H',Own g H' w'∧R e H') e a w:=by
 have key:∀{H},Own g H w→Lp P g (fun H'=>tf P fr H' fn.results.toList fun vs=>R (.returned (BA vs)) H') dl H→Leaves P fn a.tmps (fun e w'=>∃H',Own g H' w'∧R e H') a.defers .returning w:=fun hw h=>by
  rw[ha.defers]
  refine sU (fun H w hw h=>?_) hd _ _ hw h
  obtain⟨vs,hr,hk⟩:=ic ha hw h
  exact⟨_,hr,H,hw,hk⟩
 cases e with
 |normal=>exact key hw h
 |ret=>exact key hw h
 |panic ch=>exact h.elim
 |exit id=>exact h.elim
 |goto l=>exact h.elim
 |outgrown=>exact h.elim
theorem B8{c:Code}{ops:Array Oper}{o:Oper}(h:Mz c=some (ops,o)):∃id d,c=.region id ops false∧ops.toList=ops.toList.dropLast++[o]∧o.op=.defer d:=by
 unfold Mz at h
 split at h
 ·rename_i id ops'
  split at h
  ·rename_i o' ho
   split at h
   ·rename_i d hd
    simp only[Option.some.injEq,Prod.mk.injEq]at h
    obtain⟨rfl,rfl⟩:=h
    refine⟨id,d,rfl,?_,hd⟩
    obtain⟨hne,e⟩:=List.getLast?_eq_some_iff.1 ho
    rw[e];simp
   ·cases h
  ·cases h
 ·cases h
theorem OP{o:Oper}{fr:Fr}{k:KJ→Prop}(h:VO P o (ev fr) k):∃x d,k x∧DOK P x d∧∀w,(execOp (ev fr) o).run P w=.ok (.defer d) w:=by
 unfold VO at h
 split at h<;>try exact h.elim
 rename_i c hop
 split at h<;>try exact h.elim
 rename_i x hc
 split at h<;>try exact h.elim
 rename_i f first cap hx
 cases jW:cR P f<;>simp only[jW,cond_true,cond_false]at h
 refine⟨_,{target:=.fn (.func f) cap,args:=first++c.args.map (ev fr)},h,⟨cap,_,rfl,?_,jW⟩,fun w=>?_⟩
 ·apply Array.ext'
  simp
 ·simp only[execOp,hop,resolve,hc,hx,Deferred.ofValue,Sem.run_bind,Sem.run_pure,Result.andThen_ok]
theorem CX{n:Nat}{fn:Func}{R:Ending→Hp→Prop}:∀(c:Code) (hn:Hn) (dl:List KJ) (fr:Fr) (H:Hp),CY P g n (NV P g fn R) c hn dl fr H→∀(ds:List Deferred),FP P dl ds→∀(a:Act) (w:World),cD ds n a fr→Own g H w→
  c.wp P (bodyPostD P fn fun e w'=>∃H',Own g H' w'∧R e H') a w:=by
 have plain:∀(c:Code) (hn:Hn) (dl:List KJ) (fr:Fr) (H:Hp),den P g n c hn (NV P g fn R dl) fr H→∀(ds:List Deferred),FP P dl ds→∀(a:Act) (w:World),cD ds n a fr→Own g H w→
   c.wp P (bodyPostD P fn fun e w'=>∃H',Own g H' w'∧R e H') a w:=fun c hn dl fr H h ds hd a w ha hw=>
  wp_mono (kG c hn _ fr H h a w ha hw) fun e a' w' ⟨fr',H',ew,dx,_,hq⟩=>oR hd ew dx hq
 intro c
 induction c with
 |seq x y _ ih=>
  intro hn dl fr H h ds hd a w ha hw
  unfold CY at h
  split at h
  ·rename_i ops o hx
   obtain⟨id,d,rfl,hl,hop⟩:=B8 hx
   cases hc:(o.dst.isNone&&o.guard.isNone)<;>simp only[hc,cond_true,cond_false]at h
   simp only[Bool.and_eq_true,Option.isNone_iff_eq_none]at hc
   refine wp_seq (wp_region_list ?_)
   rw[hl]
   refine cK _ _ _ _ _ fr H _ _ h trivial (iC.nil fr) a w ha hw [o] _ ?_ ?_
   ·intro a' w' o6 fr' H' ew dx _ _ hk
    refine wpList_plain hc.2 fun K hK=>?_
    obtain⟨x,dd,hx,hok,hrun⟩:=OP hk
    show o.upon P a' K _ ((execOp a'.eval o).run P w')
    rw[ew.eval,hrun]
    refine hK _ _ ?_
    refine ih _ _ fr' H' hx (dd::ds) (.cons hok hd) _ _ ?_ dx
    rw[hc.1]
    exact⟨congrArg _ ew.defers,ew.size,ew.get⟩
   ·intro ch a' w' fr' H' _ _ hk;exact hk.elim
  ·split at h
   ·refine wp_seq (wp_mono (kG x _ _ fr H h a w ha hw) ?_)
    rintro e a' w' ⟨fr',H',ew,dx,ho,hq⟩
    cases e with
    |normal=>exact ih _ _ fr' H' hq ds hd a' w' ew dx
    |ret=>exact oR (e:=.ret) hd ew dx hq
    |exit id=>exact hq.elim
    |goto l=>exact hq.elim
    |panic ch=>exact hq.elim
    |outgrown=>exact hq.elim
   ·cases hno:Qd x hn.I<;>simp only[hno,cond_true,cond_false]at h
    have h':=h (fun vs H'=>∀gs,CY P g n (NV P g fn R) y hn.b dl (mix hn.L vs hn.I fr gs) H') (uX.intro (fun vs H' hh=>hh) _)
    refine wp_seq (wp_mono (kG x _ _ fr H h' a w ha hw) ?_)
    rintro e a' w' ⟨fr',H',ew,dx,ho,hq⟩
    cases e with
    |normal=>
     obtain⟨Hj,tO,hq⟩:=hq
     have QG:=hq fr'
     rw[tB fun s hs=>ho rfl s (tx hno s hs)]at QG
     exact ih _ _ fr' Hj QG ds hd a' w' ew (tO _ _ dx)
    |ret=>exact oR (e:=.ret) hd ew dx hq
    |exit id=>exact hq.elim
    |goto l=>exact hq.elim
    |panic ch=>exact hq.elim
    |outgrown=>exact hq.elim
 |_=>intro hn dl fr H h;exact plain _ hn dl fr H h
theorem MB{args:List Value}{m:Nat}(hle:args.length≤m):cD [] m {tmps:=args.toArray++Array.replicate (m-args.toArray.size) undef,defers:=[]} (jk args 0):=by
 refine⟨rfl,by simp;omega,fun s=>?_⟩
 rw[lq,Array.getD_eq_getD_getElem?,Array.getElem?_append]
 simp only[List.size_toArray,Nat.not_lt_zero,if_false,Nat.sub_zero]
 by_cases hs:s<args.length
 ·simp[hs,List.getD]
 ·rw[if_neg hs,Array.getElem?_replicate]
  have:args.getD s undef=undef:=by simp[List.getD,List.getElem?_eq_none (Nat.le_of_not_lt hs)]
  rw[this]
  split<;>rfl
theorem Au{f:FuncId}{fn:Func}{hn:Hn}{args:List Value}{H:Hp}{R:Ending→Hp→Prop}(hf:P.funcs[f]? =some fn)(h:NY P g fn hn args H R):ai P g f args.toArray H R:=by
 intro w hw
 unfold NY at h
 split at h<;>try exact h.elim
 rename_i c hc
 cases hl:Nat.ble args.length fn.ntmps<;>simp only[hl,cond_true,cond_false]at h
 exact calls_of_wp_defers hf hc (CX c hn [] _ H h [] .nil _ w (MB (Nat.le_of_ble_eq_true hl)) hw)
theorem As{f:FuncId}{fn:Func}{hn:Hn}{args:List Value}{H:Hp}{R:Ending→Hp→Prop}(hf:P.funcs[f]? =some fn)(h:Ja P g fn hn args H R):sJ P g f args.toArray H R:=by
 intro w hw u
 unfold Ja at h
 split at h<;>try exact h.elim
 rename_i c hc
 cases hl:Nat.ble args.length fn.ntmps<;>simp only[hl,cond_true,cond_false]at h
 refine callsD_of_wp hf hc (wp_mono (kG c hn _ _ H h _ w (MB (Nat.le_of_ble_eq_true hl)) hw) ?_)
 rintro e a' w' ⟨fr',H',ew,dx,_,hq⟩
 cases e with
 |normal=>obtain⟨vs,hr,hk⟩:=ic ew dx hq;exact⟨ew.defers,_,hr,H',dx,hk⟩
 |ret=>obtain⟨vs,hr,hk⟩:=ic ew dx hq;exact⟨ew.defers,_,hr,H',dx,hk⟩
 |panic ch=>exact⟨ew.defers,H',dx,hq⟩
 |exit id=>exact hq.elim
 |goto l=>exact hq.elim
 |outgrown=>exact hq.elim
abbrev Jt:=List Value→Hp→Prop
abbrev Mt:=List Value→Hp→Nat
abbrev Rt:=Ending→Hp→Prop
abbrev Hn.n(a b:Hn):Hn:=.h 0 [] [] a b
theorem ak{f:FuncId}{fn:Func}{hn:Hn}{args:List Value}{H:Hp}{R:Rt}{L:Prop}(hf:P.funcs[f]? =some fn)(h:L)(e:Ja P g fn hn args H R=L):ai P g f args.toArray H R:=CZ hf (e.mpr h)
theorem T4{f:FuncId}{fn:Func}{hn:Hn}{args:List Value}{H:Hp}{R:Rt}{L:Prop}(hf:P.funcs[f]? =some fn)(h:L)(e:NY P g fn hn args H R=L):ai P g f args.toArray H R:=Au hf (e.mpr h)
theorem T5{f:FuncId}{fn:Func}{hn:Hn}{args:List Value}{H:Hp}{R:Rt}{L:Prop}(hf:P.funcs[f]? =some fn)(h:L)(e:Ja P g fn hn args H R=L):sJ P g f args.toArray H R:=As hf (e.mpr h)
end
end Go.Sx
set_option maxRecDepth 100000
namespace Go.Proofs
open Go Go.Sx
variable {g:Gh} {a0 a1 a2 a3 a4 a5 a6 a7 a8 a9 si sg Zd Zc Zb Za:Value} {H:Hp} {R:Rt}
abbrev pt(b:Nat):Value:=.pointer (some ⟨b,0,none⟩)
abbrev CF:=ag Tryz.prog
def hr(m:Nat)(T:List Nat):Nat→Nat→Hn→Hn
 |_,0,x=>x
 |i,k+1,x=>.h m [i] T (hr m T (i+1) k x) .e
def hN:Nat→Hn→Hn
 |0,x=>x
 |k+1,x=>.n .e (hN k x)
abbrev iv(n:Int):Value:=.int .i64 n
def L9(g:Gh)(H:Hp)(R:Rt):Prop:=
CF g 39 #[] H (fun v1 H2=>
Un .not v1 fun v3=>
aA v3 (Value.bool true) (Value.bool false) fun v4=>
aA v4 (Value.bool true) (Value.bool false) fun v5=>
Br v5 (
R (.returned (Value.bool false)) H2) (
CF g 49 #[(.pointer none),(Value.int .u8 9),(iv 0)] H2 (fun v6 H7=>
Ext 0 v6 fun v8=>
Ext 1 v6 fun v9=>
bq H7 (.cells #[(iv 0),(iv 0),(iv 0),(Value.bool false)] 42 (0,0)) fun qZ dZ=>
St 4 dZ (pt qZ) v8 fun fq=>
CF g 50 #[(.pointer none),(.slice none 0 0),(iv 0)] fq (fun bj fe=>
Ext 0 bj fun bD=>
Ext 1 bj fun bR=>
bq fe (.cells #[(iv 0),(iv 0),(iv 0),(Value.bool false)] 42 (0,0)) fun Wr dK=>
St 4 dK (pt Wr) bD fun fR=>
ae .num .neq v9 (iv 10) fun v20=>
bM v20 false (fun t21=>
ae .num .neq bR (iv 10) fun cC=>
(fR=fR∧cC=Value.bool t21)) (fun t21=>(Value.bool true)=Value.bool t21) fun t21=>∀Ra:Fr,
bM (Value.bool t21) false (fun t24=>
az 4 fR (pt qZ) fun cF=>
Build Tryz.prog 42 [] fun cG=>
jH Tryz.prog g (fX Tryz.f9 5 9) (ev (fun s=>cond (Nat.beq s 44) cF (cond (Nat.beq s 45) cG (undef)))) fR fun cS=>
(fR=fR∧cS=Value.bool t24)) (fun t24=>(Value.bool true)=Value.bool t24) fun t24=>∀Vf:Fr,
bM (Value.bool t24) false (fun t29=>
az 4 fR (pt Wr) fun v30=>
Build Tryz.prog 42 [] fun eR=>
jH Tryz.prog g (fX Tryz.f9 5 14) (ev (fun s=>cond (Nat.beq s 49) v30 (cond (Nat.beq s 50) eR (undef)))) fR fun dR=>
(fR=fR∧dR=Value.bool t29)) (fun t29=>(Value.bool true)=Value.bool t29) fun t29=>∀ad2:Fr,
Br (Value.bool t29) (
R (.returned (Value.bool false)) fR) (
CF g 51 #[(iv 13),(iv 50)] fR (fun fc jI=>
Ext 0 fc fun dQ=>
Ext 1 fc fun eF=>
CF g 49 #[dQ,(Value.int .u8 7),(iv 100)] jI (fun fy Ba=>
Ext 0 fy fun fw=>
Ext 1 fy fun eY=>
CF g 49 #[dQ,(Value.int .u8 0),(iv 99)] Ba (fun gB AO=>
Ext 0 gB fun gj=>
Ext 1 gB fun g9=>
CF g 49 #[dQ,(Value.int .u8 1),(iv 1001)] AO (fun iG AN=>
Ext 0 iG fun jC=>
Ext 1 iG fun iF=>
bq AN (.cells #[(iv 0),(iv 0),(iv 0),(Value.bool false)] 42 (0,0)) fun Wq G7=>
St 4 G7 (pt Wq) jC fun Po=>
CF g 49 #[dQ,(Value.int .u8 6),(iv 100)] Po (fun l7 KI=>
Ext 0 l7 fun kT=>
Ext 1 l7 fun po=>
bq KI (.cells #[(iv 0),(iv 0),(iv 0),(Value.bool false)] 42 (0,0)) fun Wp VI=>
St 4 VI (pt Wp) kT fun A8=>
CF g 49 #[dQ,(Value.int .u8 6),(iv 99)] A8 (fun qj uW=>
Ext 0 qj fun vi=>
Ext 1 qj fun oo=>
bq uW (.cells #[(iv 0),(iv 0),(iv 0),(Value.bool false)] 42 (0,0)) fun Wo H65=>
St 4 H65 (pt Wo) vi fun A7=>
ae .num .neq eY (iv 1) fun vM=>
bM vM false (fun t68=>
ae .num .neq g9 (iv 1) fun xh=>
(A7=A7∧xh=Value.bool t68)) (fun t68=>(Value.bool true)=Value.bool t68) fun t68=>∀adW:Fr,
bM (Value.bool t68) false (fun t71=>
ae .num .neq iF (iv 1) fun xg=>
(A7=A7∧xg=Value.bool t71)) (fun t71=>(Value.bool true)=Value.bool t71) fun t71=>∀ajM:Fr,
bM (Value.bool t71) false (fun t74=>
ae .num .neq po (iv 6) fun vK=>
(A7=A7∧vK=Value.bool t74)) (fun t74=>(Value.bool true)=Value.bool t74) fun t74=>∀adU:Fr,
bM (Value.bool t74) false (fun t77=>
ae .num .neq oo (iv 1) fun KV=>
(A7=A7∧KV=Value.bool t77)) (fun t77=>(Value.bool true)=Value.bool t77) fun t77=>∀ajJ:Fr,
Br (Value.bool t77) (
R (.returned (Value.bool false)) A7) (
av Tryz.prog 87 2 [(0,(Value.int .u8 1)),(1,(Value.int .u8 9))] A7 fun F0 WD=>
CF g 50 #[dQ,F0,(iv 100)] WD (fun yG Th=>
Ext 0 yG fun Ku=>
Ext 1 yG fun Hw=>
av Tryz.prog 87 2 [(0,(Value.int .u8 6)),(1,(Value.int .u8 9))] Th fun KU ZF=>
CF g 50 #[dQ,KU,(iv 100)] ZF (fun KT H89=>
Ext 0 KT fun Kt=>
Ext 1 KT fun Hv=>
av Tryz.prog 87 2 [(0,(Value.int .u8 3)),(1,(Value.int .u8 6))] H89 fun Bk H93=>
CF g 50 #[dQ,Bk,(iv 100)] H93 (fun Bj WA=>
Ext 0 Bj fun OX=>
Ext 1 Bj fun Tt=>
CF g 50 #[dQ,(.slice none 0 0),(iv 100)] WA (fun Ks Wz=>
Ext 0 Ks fun Lk=>
Ext 1 Ks fun xm=>
St 4 Wz (pt qZ) Lk fun lK=>
∀yx:Jt,(∀WI:Value,∀ON:Hp,(∀agR:Fr,
Br WI (
R (.returned (Value.bool false)) ON) (
av Tryz.prog 25 4 [(0,(iv 0)),(1,(iv 2)),(2,(iv 1)),(3,(iv 3))] ON fun xl VN=>
CF g 53 #[] VN (fun xk VM=>
av Tryz.prog 28 1 [(0,xk)] VM fun Lg VL=>
CF g 52 #[(iv 100),xl,Lg] VL (fun Bt afc=>
Ext 0 Bt fun Bq=>
Ext 1 Bt fun Hy=>
Ext 2 Bt fun Le=>
bq afc (.cells #[(.pointer none),(.pointer none),(.slice none 0 0),(.slice none 0 0)] 98 (0,0)) fun Dd VJ=>
St 4 VJ (pt Dd) Bq fun Km=>
aa 0 (pt Dd) fun Lc=>
Ld Km Lc fun Bp=>
av Tryz.prog 87 2 [(0,(Value.int .u8 6)),(1,(Value.int .u8 0))] Km fun yX FN=>
CF g 50 #[Bp,yX,(iv 100)] FN (fun Bo RS=>
Ext 0 Bo fun TV=>
Ext 1 Bo fun Bn=>
St 4 RS (pt qZ) TV fun l6=>
Un .not Le fun Bm=>
bM Bm false (fun t131=>
ae .num .neq Bn (iv 0) fun La=>
(l6=l6∧La=Value.bool t131)) (fun t131=>(Value.bool true)=Value.bool t131) fun t131=>∀agO:Fr,
bM (Value.bool t131) false (fun t134=>
aa 3 (pt qZ) fun K9=>
Ld l6 K9 fun K8=>
(l6=l6∧K8=Value.bool t134)) (fun t134=>(Value.bool true)=Value.bool t134) fun t134=>∀agN:Fr,
bM (Value.bool t134) false (fun t138=>
aa 0 (pt qZ) fun K6=>
Ld l6 K6 fun TT=>
ae .num .neq TT (iv 6) fun KZ=>
(l6=l6∧KZ=Value.bool t138)) (fun t138=>(Value.bool true)=Value.bool t138) fun t138=>∀agM:Fr,
bM (Value.bool t138) false (fun t143=>
aa 1 (pt qZ) fun KY=>
Ld l6 KY fun abN=>
ae .num .neq abN (iv 4) fun KX=>
(l6=l6∧KX=Value.bool t143)) (fun t143=>(Value.bool true)=Value.bool t143) fun t143=>∀agL:Fr,
Br (Value.bool t143) (
R (.returned (Value.bool false)) l6) (
av Tryz.prog 25 7 [(0,(iv 0)),(1,(iv 36)),(2,(iv 396)),(3,(iv 6)),(4,(iv 20)),(5,(iv 46)),(6,(iv 12))] l6 fun PD ae6=>
aG PD fun TQ=>
∃(VB:Jt) (ab8:Mt),JE VB [(iv 0)] ae6∧∀Bg:Value,∀FM:Hp,VB [Bg] FM→∀agK:Fr,
ae .num .lss Bg TQ fun TN=>
Br TN (
ah 1 PD Bg fun abI=>
Ld FM abI fun KW=>
bL .u8 Bg fun TM=>
CF g 40 #[(iv 4),(iv 10),TM] FM (fun PC FL=>
Ext 0 PC fun abH=>
Ext 1 PC fun TL=>
ae .num .neq TL (iv 0) fun TK=>
bM TK false (fun t165=>
ae .num .neq abH KW fun TJ=>
(FL=FL∧TJ=Value.bool t165)) (fun t165=>(Value.bool true)=Value.bool t165) fun t165=>∀agJ:Fr,
Br (Value.bool t165) (
R (.returned (Value.bool false)) FL) (
ae .num .add Bg (iv 1) fun abE=>
ay VB ab8 [abE] FL [Bg] FM)) (aq R)) (
CF g 40 #[(iv 64),(iv 1048576),(Value.int .u8 2)] FM (fun PB ae1=>
Ext 0 PB fun TG=>
Ext 1 PB fun TE=>
CF g 40 #[(iv 3),(iv 10),(Value.int .u8 5)] ae1 (fun PA ae0=>
Ext 0 PA fun TD=>
Ext 1 PA fun TC=>
CF g 40 #[(iv 0),(iv 1),(Value.int .u8 0)] ae0 (fun Pz aeZ=>
Ext 0 Pz fun WM=>
Ext 1 Pz fun TA=>
CF g 40 #[(iv 1),(iv (-1)),(Value.int .u8 0)] aeZ (fun Py aeY=>
Ext 0 Py fun WL=>
Ext 1 Py fun Tz=>
CF g 40 #[(iv 1),(iv 1),(Value.int .u8 7)] aeY (fun Pw q8=>
Ext 0 Pw fun WK=>
Ext 1 Pw fun Ty=>
ae .num .eql TE (iv 0) fun Tx=>
bM Tx true (fun t190=>
ae .num .eql TG (iv 12683587392) fun Tw=>
(q8=q8∧Tw=Value.bool t190)) (fun t190=>(Value.bool false)=Value.bool t190) fun t190=>∀agI:Fr,
bM (Value.bool t190) true (fun t193=>
ae .num .eql TC (iv 0) fun abw=>
(q8=q8∧abw=Value.bool t193)) (fun t193=>(Value.bool false)=Value.bool t193) fun t193=>∀agH:Fr,
bM (Value.bool t193) true (fun t196=>
ae .num .eql TD (iv 0) fun abv=>
(q8=q8∧abv=Value.bool t196)) (fun t196=>(Value.bool false)=Value.bool t196) fun t196=>∀agG:Fr,
bM (Value.bool t196) true (fun t199=>
ae .num .eql TA (iv 1) fun abu=>
(q8=q8∧abu=Value.bool t199)) (fun t199=>(Value.bool false)=Value.bool t199) fun t199=>∀agF:Fr,
bM (Value.bool t199) true (fun t202=>
ae .num .eql Tz (iv 1) fun abt=>
(q8=q8∧abt=Value.bool t202)) (fun t202=>(Value.bool false)=Value.bool t202) fun t202=>∀agE:Fr,
bM (Value.bool t202) true (fun t205=>
ae .num .eql Ty (iv 1) fun abr=>
(q8=q8∧abr=Value.bool t205)) (fun t205=>(Value.bool false)=Value.bool t205) fun t205=>∀agD:Fr,
R (.returned (Value.bool t205)) q8) (aq R)) (aq R)) (aq R)) (aq R)) (aq R)))) (aq R)) (aq R)) (aq R)))→yx [WI] ON)→
ae .num .neq Hw (iv 1) fun abq=>
Split abq false (
ae .num .neq Hv (iv 1) fun abp=>
aA (Value.bool false) (Value.bool true) abp fun abo=>
Split abo false (
ae .num .neq Tt (iv 6) fun abn=>
aA (Value.bool false) (Value.bool true) abn fun abm=>
Split abm false (
ae .num .neq xm (iv 0) fun abl=>
aA (Value.bool false) (Value.bool true) abl fun abk=>
Split abk false (
az 4 lK (pt qZ) fun abj=>
Build Tryz.prog 42 [] fun abi=>
jH Tryz.prog g (fX Tryz.f9 19 17) (ev (fun s=>cond (Nat.beq s 138) abj (cond (Nat.beq s 139) abi (undef)))) lK fun abh=>
aA (Value.bool false) (Value.bool true) abh fun abg=>
Split abg false (
CF g 34 #[dQ] lK (fun abf aeX=>
ae .num .neq abf (iv 0) fun abe=>
aA (Value.bool false) (Value.bool true) abe fun abd=>
JE yx [abd] aeX) (aq R)) (
aA (Value.bool true) (Value.bool true) undef fun abc=>
JE yx [abc] lK)) (
aA (Value.bool true) (Value.bool true) undef fun abb=>
aA abb (Value.bool true) undef fun aba=>
JE yx [aba] lK)) (
aA (Value.bool true) (Value.bool true) undef fun aa9=>
aA aa9 (Value.bool true) undef fun aa8=>
aA aa8 (Value.bool true) undef fun aa7=>
JE yx [aa7] lK)) (
aA (Value.bool true) (Value.bool true) undef fun aa6=>
aA aa6 (Value.bool true) undef fun aa5=>
aA aa5 (Value.bool true) undef fun aa4=>
aA aa4 (Value.bool true) undef fun aa3=>
JE yx [aa3] lK)) (
aA (Value.bool true) (Value.bool true) undef fun aa2=>
aA aa2 (Value.bool true) undef fun aa1=>
aA aa1 (Value.bool true) undef fun aa0=>
aA aa0 (Value.bool true) undef fun aaZ=>
aA aaZ (Value.bool true) undef fun aaY=>
JE yx [aaY] lK)) (aq R)) (aq R)) (aq R)) (aq R))) (aq R)) (aq R)) (aq R)) (aq R)) (aq R)) (aq R))) (aq R)) (aq R))) (aq R)
theorem OE(h:L9 g H R):ai Tryz.prog g 9 #[] H R:=
 ak (hn:=(hN 4 (.n (.n (.h 0 [] [1] .e .e) .e) (hN 6 (.n (.n (.h 0 [] [1] .e .e) .e) (hN 4 (.n (.h 1 [146] [1] .e .e) (.n .e (.n .e (.n (.n (.h 0 [] [1] .e .e) .e) (.n .e (.n (.n .e (.n (.h 0 [185] [183,184] (.n .e (.n .e (.n (.n (.n .e (.n .e (.n (.h 0 [] [1] .e .e) .e))) .e) .e))) .e) .e)) (hN 5 (.n (.h 0 [] [1] .e .e) .e)))))))))))))) Tryz.func9 h (by kernel_rfl)
def L13(g:Gh)(a0:Value)(H:Hp)(R:Rt):Prop:=
ae .ptr .eql a0 (.pointer none) fun v1=>
Br v1 (
R (.returned (.slice none 0 0)) H) (
Nil a0 fun v2=>
aa 5 v2 fun v3=>
Ld H v3 fun v4=>
CF g 57 #[v4] H (fun v5 H6=>
R (.returned v5) H6) (aq R))
theorem Kh(h:L13 g a0 H R):ai Tryz.prog g 13 #[a0] H R:=
 ak (hn:=.e) Tryz.func13 h (by kernel_rfl)
def L14(g:Gh)(a0:Value)(H:Hp)(R:Rt):Prop:=
ae .num .eql a0 (iv 2) fun v1=>
Br v1 (
av Tryz.prog 25 1 [(0,(iv 0))] H fun v2 H3=>
R (.returned (.tuple #[v2,(iv 0)])) H3) (
ae .num .eql a0 (iv 3) fun v4=>
Br v4 (
av Tryz.prog 25 5 [(0,(iv 1)),(1,(iv 0)),(2,(iv 1)),(3,(iv 0)),(4,(iv 1))] H fun v5 H6=>
R (.returned (.tuple #[v5,(iv 0)])) H6) (
ae .num .eql a0 (iv 4) fun v7=>
Br v7 (
av Tryz.prog 25 23 [(0,(iv 2)),(1,(iv 1)),(2,(iv 0)),(3,(iv 2)),(4,(iv 0)),(5,(iv 1)),(6,(iv 2)),(7,(iv 0)),(8,(iv 2)),(9,(iv 1)),(10,(iv 0)),(11,(iv 2)),(12,(iv 0)),(13,(iv 1)),(14,(iv 2)),(15,(iv 0)),(16,(iv 2)),(17,(iv 1)),(18,(iv 0)),(19,(iv 2)),(20,(iv 0)),(21,(iv 1)),(22,(iv 2))] H fun v8 H9=>
R (.returned (.tuple #[v8,(iv 0)])) H9) (
R (.returned (.tuple #[(.slice none 0 0),(iv 1)])) H)))
theorem Kg(h:L14 g a0 H R):ai Tryz.prog g 14 #[a0] H R:=
 ak (hn:=.e) Tryz.func14 h (by kernel_rfl)
def L15(g:Gh)(a0:Value)(H:Hp)(R:Rt):Prop:=
ae .ptr .eql a0 (.pointer none) fun v1=>
Br v1 (
R (.returned (iv 0)) H) (
Nil a0 fun v2=>
aa 0 v2 fun v3=>
aa 0 v3 fun v4=>
Ld H v4 fun v5=>
CF g 58 #[v5] H (fun v6 H7=>
ae .num .sub v6 (iv 2) fun v8=>
R (.returned v8) H7) (aq R))
theorem Kf(h:L15 g a0 H R):ai Tryz.prog g 15 #[a0] H R:=
 ak (hn:=.e) Tryz.func15 h (by kernel_rfl)
def L17(g:Gh)(a0 a1:Value)(H:Hp)(R:Rt):Prop:=
ae .ptr .eql a0 (.pointer none) fun v1=>
Br v1 (
R (.returned (iv 10)) H) (
ae .num .lss a1 (iv 0) fun v2=>
bM v2 false (fun t3=>
Nil a0 fun v4=>
aa 4 v4 fun v5=>
Ld H v5 fun v6=>
ae .num .sub v6 (iv 2) fun v7=>
ae .num .gtr a1 v7 fun v8=>
(H=H∧v8=Value.bool t3)) (fun t3=>(Value.bool true)=Value.bool t3) fun t3=>∀S8:Fr,
Br (Value.bool t3) (
R (.returned (iv 1)) H) (
CF g 59 #[a0,a1] H (fun v10 dZ=>
Un .not v10 fun bc=>
Br bc (
R (.returned (iv 9)) dZ) (
Nil a0 fun bj=>
aa 7 bj fun bA=>
Ld dZ bA fun bD=>
av Tryz.prog 25 1 [(0,a1)] dZ fun bR fS=>
App Tryz.prog 3 1 8 (iv 0) fS bD bR fun v20 dN=>
Nil a0 fun cC=>
aa 7 cC fun cv=>
St 1 dN cv v20 fun iD=>
R (.returned (iv 0)) iD)) (aq R)))
theorem Ke(h:L17 g a0 a1 H R):ai Tryz.prog g 17 #[a0,a1] H R:=
 ak (hn:=(.n .e (.n (.n (.n .e (.n .e (.n (.h 0 [] [1] .e .e) .e))) .e) .e))) Tryz.func17 h (by kernel_rfl)
def L18(g:Gh)(a0:Value)(H:Hp)(R:Rt):Prop:=
ae .ptr .eql a0 (.pointer none) fun v1=>
bM v1 false (fun t2=>
Nil a0 fun v3=>
aa 7 v3 fun v4=>
Ld H v4 fun v5=>
aG v5 fun v6=>
ae .num .eql v6 (iv 0) fun v7=>
(H=H∧v7=Value.bool t2)) (fun t2=>(Value.bool true)=Value.bool t2) fun t2=>∀CG:Fr,
Br (Value.bool t2) (
R (.returned (.tuple #[(iv 0),(iv 10)])) H) (
Nil a0 fun v9=>
aa 7 v9 fun v10=>
Ld H v10 fun v11=>
aG v11 fun bc=>
ae .num .sub bc (iv 1) fun bj=>
Nil a0 fun bA=>
aa 7 bA fun bD=>
Ld H bD fun bR=>
ah 1 bR bj fun bK=>
Ld H bK fun ca=>
CF g 59 #[a0,ca] H (fun bQ jw=>
Nil a0 fun cf=>
aa 7 cf fun cC=>
Ld jw cC fun cv=>
gh 1 cv none (some bj) fun cu=>
Nil a0 fun cF=>
aa 7 cF fun cG=>
St 1 jw cG cu fun iV=>
R (.returned (.tuple #[ca,(iv 0)])) iV) (aq R))
theorem Kc(h:L18 g a0 H R):ai Tryz.prog g 18 #[a0] H R:=
 ak (hn:=(.n .e (.n (.n (.h 0 [] [1] .e .e) .e) .e))) Tryz.func18 h (by kernel_rfl)
variable {g:Gh} {a0 a1 a2 a3 a4 a5 a6 a7 a8 a9 si sg Zd Zc Zb Za:Value} {H:Hp} {R:Rt}
def L22(g:Gh)(a0 a1:Value)(H:Hp)(R:Rt):Prop:=
bq H (.cells #[(iv 0),(iv 0),(iv 0),(Value.bool false)] 42 (0,0)) fun b1 H2=>
CF g 60 #[a0,a1] H2 (fun v3 H4=>
ae .num .neq v3 (iv 0) fun v5=>
Br v5 (
Build Tryz.prog 42 [] fun v6=>
St 4 H4 (pt b1) v6 fun H7=>
az 4 H7 (pt b1) fun v8=>
R (.returned (.tuple #[v8,v3])) H7) (
CF g 62 #[a0,a1] H4 (fun v9 dJ=>
CF g 68 #[v9,a0,a1] dJ (fun v11 fq=>
Nil v9 fun bj=>
aa 1 bj fun bA=>
az 4 fq bA fun bD=>
St 4 fq (pt b1) bD fun eP=>
az 4 eP (pt b1) fun bK=>
R (.returned (.tuple #[bK,(iv 0)])) eP) (aq R)) (aq R))) (aq R)
theorem Kb(h:L22 g a0 a1 H R):ai Tryz.prog g 22 #[a0,a1] H R:=
 ak (hn:=.e) Tryz.func22 h (by kernel_rfl)
def L25(g:Gh)(a0:Value)(H:Hp)(R:Rt):Prop:=
bq H (.cells #[(iv 0),(iv 0),(iv 0),(Value.bool false)] 42 (0,0)) fun b1 H2=>
ae .ptr .eql a0 (.pointer none) fun v3=>
Br v3 (
Build Tryz.prog 42 [] fun v4=>
St 4 H2 (pt b1) v4 fun H5=>
az 4 H5 (pt b1) fun v6=>
R (.returned (.tuple #[v6,(iv 10)])) H5) (
CF g 61 #[a0] H2 (fun v7 H8=>
ae .num .gtr v7 (iv 12) fun v9=>
Br v9 (
Build Tryz.prog 42 [] fun v10=>
St 4 H8 (pt b1) v10 fun dZ=>
az 4 dZ (pt b1) fun bc=>
R (.returned (.tuple #[bc,(iv 6)])) dZ) (
CF g 70 #[a0] H8 (fun bj fe=>
aG bj fun bD=>
∃(I16:Jt) (m17:Mt),JE I16 [(.slice none 0 0),(iv 0)] fe∧∀pn AV:Value,∀fR:Hp,I16 [pn,AV] fR→∀NA:Fr,
ae .num .lss AV bD fun cC=>
Br cC (
ah 1 bj AV fun cv=>
Ld fR cv fun cu=>
CF g 71 #[a0,cu] fR (fun cF jZ=>
Ext 0 cF fun cS=>
Ext 1 cF fun dA=>
bq jZ (.cells #[(iv 0),(.slice none 0 0)] 57 (0,0)) fun b29 ju=>
St 2 ju (pt b29) cS fun j6=>
az 2 j6 (pt b29) fun dR=>
av Tryz.prog 28 1 [(0,dR)] j6 fun ff nN=>
App Tryz.prog 57 2 32 (.agg #[(iv 0),(.slice none 0 0)]) nN pn ff fun eF mg=>
ae .num .add AV (iv 1) fun gx=>
ay I16 m17 [eF,gx] mg [pn,AV] fR) (aq R)) (
CF g 15 #[a0] fR (fun fw yC=>
CF g 26 #[pn] yC (fun gB AO=>
Ext 0 gB fun gj=>
Ext 1 gB fun g9=>
Ext 2 gB fun iG=>
ae .num .eql fw gj fun jT=>
Br jT (
Build Tryz.prog 42 [(0,fw),(1,fw),(3,(Value.bool true))] fun jC=>
St 4 AO (pt b1) jC fun yB=>
az 4 yB (pt b1) fun ja=>
R (.returned (.tuple #[ja,(iv 0)])) yB) (
CF g 42 #[a0,g9] AO (fun jB Po=>
Ext 0 jB fun l7=>
Ext 1 jB fun oq=>
CF g 15 #[a0] Po (fun kT vF=>
ae .num .eql oq (iv 0) fun qs=>
Build Tryz.prog 42 [(0,fw),(1,kT),(2,l7),(3,qs)] fun rp=>
St 4 vF (pt b1) rp fun A8=>
az 4 A8 (pt b1) fun qj=>
R (.returned (.tuple #[qj,(iv 0)])) A8) (aq R)) (aq R))) (aq R)) (aq R))) (aq R))) (aq R))
theorem Ka(h:L25 g a0 H R):ai Tryz.prog g 25 #[a0] H R:=
 ak (hn:=(hN 4 (.n (.n .e (.n (.h 0 [4,25] [0,2,23,24] .e .e) .e)) .e))) Tryz.func25 h (by kernel_rfl)
def L26(g:Gh)(a0:Value)(H:Hp)(R:Rt):Prop:=
CF g 72 #[a0] H (fun v1 H2=>
Ext 0 v1 fun v3=>
Ext 1 v1 fun v4=>
ae .num .neq v4 (iv 0) fun v5=>
Br v5 (
R (.returned (.tuple #[(iv 0),(.slice none 0 0),v4])) H2) (
Nil v3 fun v6=>
aa 1 v6 fun v7=>
Ld H2 v7 fun v8=>
ae .num .gtr v8 (iv 12) fun v9=>
Br v9 (
R (.returned (.tuple #[(iv 0),(.slice none 0 0),(iv 6)])) H2) (
∃(xd:Jt) (O2:Mt),JE xd [(.slice none 0 0),(iv 0)] H2∧∀kP mi:Value,∀c8:Hp,xd [kP,mi] c8→∀IP:Fr,
aG kP fun bR=>
Nil v3 fun bK=>
aa 1 bK fun ca=>
Ld c8 ca fun bQ=>
ae .num .lss bR bQ fun v20=>
Br v20 (
Nil v3 fun cf=>
aa 1 cf fun cC=>
Ld c8 cC fun cv=>
∃(I24:Jt) (m25:Mt),JE I24 [kP,mi,(iv 0)] c8∧∀vg vI AU:Value,∀iV:Hp,I24 [vg,vI,AU] iV→∀YQ:Fr,
ae .num .lss AU cv fun eR=>
Br eR (
∀J32:Jt,(∀Kr:Value,∀nN:Hp,(∀ad2:Fr,
Br Kr (
av Tryz.prog 25 1 [(0,AU)] nN fun dQ rX=>
App Tryz.prog 3 1 8 (iv 0) rX vg dQ fun fw yC=>
ae .num .shl (iv 1) AU fun gB=>
ae .num .or vI gB fun gk=>
ay xd O2 [fw,gk] yC [kP,mi] c8) (
ae .num .add AU (iv 1) fun gj=>
ay I24 m25 [vg,vI,gj] nN [vg,vI,AU] iV))→J32 [Kr] nN)→
DR iV fun R45=>
ae .num .shr vI AU fun iG=>
ae .num .and iG (iv 1) fun jT=>
ae .num .eql jT (iv 0) fun jC=>
Br jC (
ae .num .shl (iv 1) AU fun iF=>
ae .num .or vI iF fun ja=>
∀F51:Hp,
CF (g.add F51) 73 #[v3,vI,AU] iV (fun iW yz=>
∀F54:Hp,
CF (g.add F54) 74 #[v3,ja] yz (fun kT vF=>
ae .num .add iW kT fun qs=>
∀F58:Hp,
CF (g.add F58) 74 #[v3,vI] vF (fun Bl H60=>
ae .num .eql qs Bl fun xj=>
aA (Value.bool true) xj (Value.bool false) fun vi=>
JE J32 [vi] H60) aU) aU) aU) (
JE J32 [(Value.bool false)] iV)) (
ay xd O2 [vg,vI] iV [kP,mi] c8)) (
CF g 74 #[v3,(iv 0)] c8 (fun oo xe=>
R (.returned (.tuple #[oo,kP,(iv 0)])) xe) (aq R))))) (aq R)
theorem J0(h:L26 g a0 H R):ai Tryz.prog g 26 #[a0] H R:=
 ak (hn:=(hN 6 (.n (.n (.h 0 [7,8] [5] (.n .e (.n (.n .e (.n (.h 0 [7,8,34] [5,33] (.n .e (.n .e (.n (.n (.n .e (.h 1 [58] [5,7,8,9,33,34] (.h 1 [] [] (hr 0 [] 0 5 (.h 2 [5] [] (hr 0 [] 6 3 (hr 0 [] 10 5 (hr 0 [] 17 2 (.h 0 [9] [] (hr 0 [] 15 2 (hr 0 [] 19 3 .e)) .e)))) (hr 0 [] 6 15 (.h 3 [21] [] .e .e)))) .e) .e)) .e) .e))) .e) .e)) .e)) .e) .e) .e))) Tryz.func26 h (by kernel_rfl)
def L28(g:Gh)(a0:Value)(H:Hp)(R:Rt):Prop:=
bq H (.cells (Value.cells a0) 57 (0,0)) fun b1 H2=>
∀J3:Jt,(∀w6:Value,∀H5:Hp,(∀Ab:Fr,
Br w6 (
R (.returned (Value.bool false)) H5) (
aa 0 (pt b1) fun v7=>
Ld H5 v7 fun v8=>
ae .num .geq v8 (iv 6) fun v9=>
bM v9 false (fun t10=>
aa 1 (pt b1) fun v11=>
Ld H5 v11 fun bc=>
ah 1 bc (iv 0) fun bj=>
Ld H5 bj fun bA=>
aa 0 (pt b1) fun bD=>
Ld H5 bD fun bR=>
ae .num .shl (Value.int .u64 1) bR fun bK=>
ae .num .shr bA bK fun ca=>
ae .num .eql ca (Value.int .u64 0) fun bQ=>
(H5=H5∧bQ=Value.bool t10)) (fun t10=>(Value.bool true)=Value.bool t10) fun t10=>∀IN:Fr,
R (.returned (Value.bool t10)) H5))→J3 [w6] H5)→
DR H2 fun Zi=>
aa 0 (pt b1) fun cC=>
Ld Zi cC fun cv=>
ae .num .lss cv (iv 0) fun cu=>
Br cu (
JE J3 [(Value.bool true)] H2) (
aa 0 (pt b1) fun cF=>
Ld Zi cF fun cG=>
ae .num .gtr cG (iv 16) fun cS=>
aA (Value.bool false) (Value.bool true) cS fun dA=>
Br dA (
JE J3 [(Value.bool true)] H2) (
aa 1 (pt b1) fun dy=>
Ld Zi dy fun v30=>
aG v30 fun eR=>
aa 0 (pt b1) fun dR=>
Ld Zi dR fun ff=>
∀F34:Hp,
CF (g.add F34) 81 #[ff] H2 (fun fA qp=>
aO qp Zi∧
ae .num .neq eR fA fun eF=>
aA (Value.bool false) (Value.bool true) eF fun fy=>
JE J3 [fy] qp) aU))
theorem JZ(h:L28 g a0 H R):ai Tryz.prog g 28 #[a0] H R:=
 ak (hn:=(.n .e (.n (.h 1 [19] [1] (.h 1 [] [] (hr 0 [] 0 3 (.h 2 [3] [] (hr 0 [] 4 3 (hr 3 [] 7 2 (hr 0 [] 9 7 (.h 3 [16] [] .e .e)))) (hr 0 [] 4 4 (.h 2 [8] [] (hr 0 [] 9 7 (.h 3 [16] [] .e .e)) (hr 0 [] 9 8 .e))))) .e) .e) .e))) Tryz.func28 h (by kernel_rfl)
def L34(g:Gh)(a0:Value)(H:Hp)(R:Rt):Prop:=
ae .ptr .eql a0 (.pointer none) fun v1=>
Br v1 (
R (.returned (iv 0)) H) (
Nil a0 fun v2=>
aa 7 v2 fun v3=>
Ld H v3 fun v4=>
aG v4 fun v5=>
R (.returned v5) H)
theorem JY(h:L34 g a0 H R):ai Tryz.prog g 34 #[a0] H R:=
 ak (hn:=.e) Tryz.func34 h (by kernel_rfl)
def L36(g:Gh)(a0 a1:Value)(H:Hp)(R:Rt):Prop:=
bq H (.cells (Value.cells a0) 57 (0,0)) fun b1 H2=>
bq H2 (.cells (Value.cells a1) 57 (0,0)) fun b3 H4=>
aa 0 (pt b1) fun v5=>
Ld H4 v5 fun v6=>
aa 0 (pt b3) fun v7=>
Ld H4 v7 fun v8=>
ae .num .neq v6 v8 fun v9=>
bM v9 false (fun t10=>
aa 1 (pt b1) fun v11=>
Ld H4 v11 fun bc=>
aG bc fun bj=>
aa 1 (pt b3) fun bA=>
Ld H4 bA fun bD=>
aG bD fun bR=>
ae .num .neq bj bR fun bK=>
(H4=H4∧bK=Value.bool t10)) (fun t10=>(Value.bool true)=Value.bool t10) fun t10=>∀NA:Fr,
Br (Value.bool t10) (
R (.returned (Value.bool false)) H4) (
∃(I19:Jt) (m20:Mt),JE I19 [(iv 0)] H4∧∀lW:Value,∀fF:Hp,I19 [lW] fF→∀YR:Fr,
aa 1 (pt b1) fun cu=>
Ld fF cu fun cF=>
aG cF fun cG=>
ae .num .lss lW cG fun cS=>
Br cS (
aa 1 (pt b1) fun dA=>
Ld fF dA fun dy=>
ah 1 dy lW fun v30=>
Ld fF v30 fun eR=>
aa 1 (pt b3) fun dR=>
Ld fF dR fun ff=>
ah 1 ff lW fun fc=>
Ld fF fc fun fA=>
ae .num .neq eR fA fun dQ=>
Br dQ (
R (.returned (Value.bool false)) fF) (
ae .num .add lW (iv 1) fun eF=>
ay I19 m20 [eF] fF [lW] fF)) (
R (.returned (Value.bool true)) fF))
theorem JX(h:L36 g a0 a1 H R):ai Tryz.prog g 36 #[a0,a1] H R:=
 ak (hn:=(.n .e (.n (.n (.h 0 [] [1] .e .e) .e) (.n (.n .e (.n (.h 0 [5] [2,3] .e .e) .e)) .e)))) Tryz.func36 h (by kernel_rfl)
def L39(g:Gh)(H:Hp)(R:Rt):Prop:=
av Tryz.prog 87 3 [(0,(Value.int .u8 1)),(1,(Value.int .u8 3)),(2,(Value.int .u8 6))] H fun v1 H2=>
aG v1 fun v3=>
∃(I4:Jt) (m5:Mt),JE I4 [(iv 0)] H2∧∀w8:Value,∀H7:Hp,I4 [w8] H7→∀KC:Fr,
ae .num .lss w8 v3 fun v9=>
Br v9 (
ah 1 v1 w8 fun v10=>
Ld H7 v10 fun v11=>
av Tryz.prog 25 4 [(0,(iv 0)),(1,(iv 2)),(2,(iv 1)),(3,(iv 3))] H7 fun bc c8=>
CF g 53 #[] c8 (fun bA cY=>
av Tryz.prog 28 1 [(0,bA)] cY fun bR fS=>
CF g 52 #[(iv 100),bc,bR] fS (fun ca fR=>
Ext 0 ca fun v20=>
Ext 1 ca fun cf=>
Ext 2 ca fun cC=>
bq fR (.cells #[(.pointer none),(.pointer none),(.slice none 0 0),(.slice none 0 0)] 98 (0,0)) fun Vl iD=>
St 4 iD (pt Vl) v20 fun ef=>
Un .not cC fun cG=>
Br cG (
R (.returned (Value.bool false)) ef) (
aa 0 (pt Vl) fun cS=>
Ld ef cS fun dA=>
CF g 49 #[dA,v11,(iv 200)] ef (fun dy ju=>
Ext 0 dy fun eR=>
Ext 1 dy fun dR=>
bq ju (.cells #[(iv 0),(iv 0),(iv 0),(Value.bool false)] 42 (0,0)) fun KF nN=>
St 4 nN (pt KF) eR fun jI=>
∀yP:Jt,(∀OV:Value,∀mg:Hp,(∀YN:Fr,
Br OV (
R (.returned (Value.bool false)) mg) (
ae .num .add w8 (iv 1) fun fw=>
ay I4 m5 [fw] mg [w8] H7))→yP [OV] mg)→
ae .num .neq dR (iv 0) fun eY=>
Split eY false (
aa 0 (pt KF) fun gB=>
Ld jI gB fun gk=>
ae .num .neq gk (iv 6) fun gj=>
aA (Value.bool false) (Value.bool true) gj fun g9=>
Split g9 false (
aa 1 (pt KF) fun iG=>
Ld jI iG fun jT=>
ae .num .neq jT (iv 4) fun jC=>
aA (Value.bool false) (Value.bool true) jC fun iF=>
Split iF false (
aa 0 (pt Vl) fun ja=>
Ld jI ja fun jB=>
CF g 15 #[jB] jI (fun iW yz=>
ae .num .neq iW (iv 4) fun oq=>
aA (Value.bool false) (Value.bool true) oq fun kT=>
Split kT false (
aa 3 (pt KF) fun po=>
Ld yz po fun qs=>
ae .num .eql v11 (Value.int .u8 6) fun rp=>
ae .bool .neq qs rp fun Bl=>
aA (Value.bool false) (Value.bool true) Bl fun qj=>
JE yP [qj] yz) (
aA (Value.bool true) (Value.bool true) undef fun xj=>
JE yP [xj] yz)) (aq R)) (
aA (Value.bool true) (Value.bool true) undef fun vi=>
aA vi (Value.bool true) undef fun oo=>
JE yP [oo] jI)) (
aA (Value.bool true) (Value.bool true) undef fun yW=>
aA yW (Value.bool true) undef fun sO=>
aA sO (Value.bool true) undef fun rY=>
JE yP [rY] jI)) (
aA (Value.bool true) (Value.bool true) undef fun vM=>
aA vM (Value.bool true) undef fun vL=>
aA vL (Value.bool true) undef fun xh=>
aA xh (Value.bool true) undef fun sj=>
JE yP [sj] jI)) (aq R))) (aq R)) (aq R)) (
CF g 40 #[(iv 4),(iv 10),(Value.int .u8 2)] H7 (fun AW RP=>
Ext 0 AW fun yI=>
Ext 1 AW fun Hx=>
ae .num .eql Hx (iv 0) fun vK=>
bM vK true (fun t76=>
ae .num .eql yI (iv 396) fun yH=>
(RP=RP∧yH=Value.bool t76)) (fun t76=>(Value.bool false)=Value.bool t76) fun t76=>∀ajK:Fr,
R (.returned (Value.bool t76)) RP) (aq R))
theorem JW(h:L39 g H R):ai Tryz.prog g 39 #[] H R:=
 ak (hn:=(.n .e (.n (.n .e (.n (.h 0 [12] [10,11] (.n .e (.n .e (.n (.n (hN 4 (.h 1 [57] [10,11,12] .e .e)) .e) .e))) .e) .e)) (.n .e (.n (.h 0 [] [1] .e .e) .e))))) Tryz.func39 h (by kernel_rfl)
def L40(g:Gh)(a0 a1 a2:Value)(H:Hp)(R:Rt):Prop:=
ae .num .lss a0 (iv 1) fun v1=>
bM v1 false (fun t2=>
ae .num .gtr a0 (iv 64) fun v3=>
(H=H∧v3=Value.bool t2)) (fun t2=>(Value.bool true)=Value.bool t2) fun t2=>∀Ab:Fr,
bM (Value.bool t2) false (fun t5=>
ae .num .lss a1 (iv 0) fun v6=>
(H=H∧v6=Value.bool t5)) (fun t5=>(Value.bool true)=Value.bool t5) fun t5=>∀S9:Fr,
bM (Value.bool t5) false (fun t8=>
ae .num .gtr a1 (iv 1048576) fun v9=>
(H=H∧v9=Value.bool t8)) (fun t8=>(Value.bool true)=Value.bool t8) fun t8=>∀r9:Fr,
bM (Value.bool t8) false (fun t11=>
ae .num .gtr a2 (Value.int .u8 6) fun bc=>
(H=H∧bc=Value.bool t11)) (fun t11=>(Value.bool true)=Value.bool t11) fun t11=>∀Rc:Fr,
Br (Value.bool t11) (
R (.returned (.tuple #[(iv 0),(iv 1)])) H) (
ae .num .eql a2 (Value.int .u8 1) fun bA=>
Br bA (
ae .num .mul (iv 3) a0 fun bD=>
ae .num .sub a0 (iv 1) fun bR=>
ae .num .mul bD bR fun bK=>
R (.returned (.tuple #[bK,(iv 0)])) H) (
ae .num .eql a2 (Value.int .u8 2) fun ca=>
Br ca (
ae .num .mul (iv 3) a0 fun bQ=>
ae .num .sub a0 (iv 1) fun v20=>
ae .num .mul bQ v20 fun cf=>
ae .num .add a1 (iv 1) fun cC=>
ae .num .mul cf cC fun cv=>
R (.returned (.tuple #[cv,(iv 0)])) H) (
∀Vv:Jt,(∀Bf:Value,∀jZ:Hp,(∀ad5:Fr,
Br Bf (
CF g 100 #[a2] jZ (fun dA kM=>
∃(I30:Jt) (m31:Mt),JE I30 [(iv 1),(iv 2)] kM∧∀yE Kr:Value,∀iu:Hp,I30 [yE,Kr] iu→∀Vd:Fr,
ae .num .leq Kr dA fun dQ=>
Br dQ (
ae .num .mul yE Kr fun eF=>
ae .num .add Kr (iv 1) fun fy=>
ay I30 m31 [eF,fy] iu [yE,Kr] iu) (
ae .num .sub a0 dA fun gx=>
ae .num .add gx (iv 1) fun fw=>
Dl (iv 0) fw fun eY=>
ae .num .mul eY (iv 2) fun gB=>
ae .num .sub yE (iv 1) fun gk=>
ae .num .mul gB gk fun gj=>
R (.returned (.tuple #[gj,(iv 0)])) iu)) (aq R)) (
ae .num .eql a2 (Value.int .u8 6) fun g9=>
Br g9 (
ae .num .sub a0 (iv 1) fun iG=>
ae .num .mul a0 iG fun jT=>
R (.returned (.tuple #[jT,(iv 0)])) jZ) (
R (.returned (.tuple #[(iv 0),(iv 0)])) jZ)))→Vv [Bf] jZ)→
ae .num .eql a2 (Value.int .u8 3) fun jC=>
Br jC (
JE Vv [jC] H) (
ae .num .eql a2 (Value.int .u8 4) fun iF=>
Br iF (
JE Vv [iF] H) (
ae .num .eql a2 (Value.int .u8 5) fun ja=>
JE Vv [ja] H)))))
theorem JV(h:L40 g a0 a1 a2 H R):ai Tryz.prog g 40 #[a0,a1,a2] H R:=
 ak (hn:=(.n .e (.n (.n (.h 0 [] [1] .e .e) .e) (.n .e (.n (.n .e (.n (hN 4 (.h 1 [49] [2,8,31] .e (.n (.n .e (.n .e (.n (.n .e (.n (.h 0 [10,11] [8,9] .e .e) .e)) .e))) .e))) .e)) .e))))) Tryz.func40 h (by kernel_rfl)
def L42(g:Gh)(a0 a1:Value)(H:Hp)(R:Rt):Prop:=
ae .ptr .eql a0 (.pointer none) fun v1=>
Br v1 (
R (.returned (.tuple #[(iv 0),(iv 10)])) H) (
∀J2:Jt,(∀w5:Value,∀H4:Hp,(∀Ta:Fr,
Br w5 (
R (.returned (.tuple #[(iv 0),(iv 4)])) H4) (
CF g 13 #[a0] H4 (fun v6 H7=>
CF g 102 #[v6,a1] H7 (fun v8 H9=>
Ext 0 v8 fun v10=>
Ext 1 v8 fun v11=>
ae .num .neq v11 (iv 0) fun bc=>
Br bc (
R (.returned (.tuple #[(iv 0),v11])) H9) (
CF g 103 #[a0,v10] H9 (fun bj fe=>
Ext 0 bj fun bD=>
Ext 1 bj fun bR=>
R (.returned (.tuple #[bD,bR])) fe) (aq R))) (aq R)) (aq R)))→J2 [w5] H4)→
CF g 101 #[a1] H (fun bK dK=>
ae .num .neq bK (iv 0) fun bQ=>
Split bQ false (
aG a1 fun v20=>
CF g 61 #[a0] dK (fun cf fF=>
ae .num .neq v20 cf fun cv=>
aA (Value.bool false) (Value.bool true) cv fun cu=>
JE J2 [cu] fF) (aq R)) (
aA (Value.bool true) (Value.bool true) undef fun cF=>
JE J2 [cF] dK)) (aq R))
theorem JU(h:L42 g a0 a1 H R):ai Tryz.prog g 42 #[a0,a1] H R:=
 ak (hn:=(.n .e (.n .e (.n (.h 1 [19] [0,1] .e .e) .e)))) Tryz.func42 h (by kernel_rfl)
def L45(g:Gh)(a0 a1 a2:Value)(H:Hp)(R:Rt):Prop:=
bq H (.cells #[(iv 0),(iv 0),(iv 0),(Value.bool false)] 42 (0,0)) fun b1 H2=>
CF g 109 #[a0,a2] H2 (fun v3 H4=>
ae .num .neq v3 (iv 0) fun v5=>
Br v5 (
Build Tryz.prog 42 [] fun v6=>
St 4 H4 (pt b1) v6 fun H7=>
az 4 H7 (pt b1) fun v8=>
R (.returned (.tuple #[v8,v3])) H7) (
CF g 46 #[a0,a1] H4 (fun v9 dJ=>
Ext 0 v9 fun v11=>
Ext 1 v9 fun bc=>
ae .num .neq bc (iv 0) fun bj=>
Br bj (
Build Tryz.prog 42 [] fun bA=>
St 4 dJ (pt b1) bA fun cY=>
az 4 cY (pt b1) fun bR=>
R (.returned (.tuple #[bR,bc])) cY) (
CF g 15 #[a0] dJ (fun bK dK=>
Build Tryz.prog 42 [(0,bK)] fun bQ=>
bq dK (.cells #[(iv 0),(iv 0),(iv 0),(Value.bool false)] 42 (0,0)) fun wL dN=>
St 4 dN (pt wL) bQ fun fF=>
aa 0 (pt wL) fun cv=>
Ld fF cv fun cu=>
Build Tryz.prog 175 [(0,a0),(1,v11),(2,cu),(3,v11),(4,a2)] fun cF=>
bq fF (.cells (Value.cells cF) 175 (0,0)) fun sH iV=>
CF g 61 #[a0] iV (fun dA kM=>
ae .num .sub dA (iv 1) fun v30=>
ae .num .sub v30 v11 fun eR=>
ae .num .leq eR v11 fun dR=>
CF g 110 #[(pt sH),dR] kM (fun ff nN=>
CF g 111 #[(pt sH)] nN (fun fA qp=>
CF g 112 #[(pt sH),v11] qp (fun eF mg=>
Nil (pt sH) fun gx=>
aa 3 gx fun fw=>
Ld mg fw fun eY=>
Un .not dR fun gB=>
CF g 110 #[(pt sH),gB] mg (fun gk A9=>
CF g 111 #[(pt sH)] A9 (fun g9 Kl=>
∀ZA:Jt,(∀yB:Hp,(∀ajT:Fr,
DR yB fun G0=>
Nil (pt sH) fun jB=>
aa 5 jB fun iW=>
Ld G0 iW fun l7=>
∀F54:Hp,
CF (g.add F54) 15 #[a0] yB (fun kT vF=>
aO vF G0∧
aa 1 (pt wL) fun qs=>
∀F58:Hp,
St 1 vF qs kT fun A8=>
aO A8 G0∧
aa 2 (pt wL) fun qj=>
∀F61:Hp,
St 1 A8 qj l7 fun FK=>
az 4 FK (pt wL) fun oo=>
St 4 FK (pt b1) oo fun xe=>
az 4 xe (pt b1) fun sO=>
R (.returned (.tuple #[sO,(iv 0)])) xe) aU)→ZA [] yB)→
Nil (pt sH) fun rY=>
aa 3 rY fun vM=>
Ld Kl vM fun vL=>
ae .num .neq vL eY fun xh=>
Br xh (
Nil (pt sH) fun sj=>
aa 3 sj fun AW=>
Ld Kl AW fun xg=>
CF g 112 #[(pt sH),xg] Kl (fun yI Ti=>
JE ZA [] Ti) (aq R)) (
CF g 112 #[(pt sH),v11] Kl (fun vK Kj=>
CF g 110 #[(pt sH),dR] Kj (fun yH OL=>
∃(I79:Jt) (m80:Mt),JE I79 [] OL∧∀VE:Hp,I79 [] VE→∀ajI:Fr,
∀J83:Jt,(∀w86:Value,∀WC:Hp,(∀ajH:Fr,
Br w86 (
ay I79 m80 [] WC [] VE) (
JE ZA [] WC))→J83 [w86] WC)→
DR VE fun R87=>
Nil (pt sH) fun KT=>
aa 1 KT fun Tu=>
Ld R87 Tu fun Kt=>
Nil (pt sH) fun Hv=>
aa 3 Hv fun Bk=>
Ld R87 Bk fun Hu=>
ae .num .neq Kt Hu fun Bj=>
Br Bj (
Nil (pt sH) fun Pu=>
aa 7 Pu fun OX=>
Ld R87 OX fun Tt=>
∀F98:Hp,
fx Tryz.prog (g.add F98) Tt #[] VE (fun Ts afd=>
ae .num .eql Ts (iv 0) fun xm=>
aA (Value.bool true) xm (Value.bool false) fun Bv=>
JE J83 [Bv] afd) aU) (
JE J83 [(Value.bool false)] VE)) (aq R)) (aq R))) (aq R)) (aq R)) (aq R)) (aq R)) (aq R)) (aq R)) (aq R))) (aq R))) (aq R)
theorem JT(h:L45 g a0 a1 a2 H R):ai Tryz.prog g 45 #[a0,a1,a2] H R:=
 ak (hn:=(hN 13 (.h 1 [] [0,6,11,12] (hN 4 (.n (.h 0 [] [0,6,11,12] (.n (.h 1 [102] [0,6,11,12] (.h 1 [] [] (hr 0 [1] 0 9 (.h 2 [9] [] (hr 0 [1] 10 7 .e) (hr 0 [1] 10 6 (.h 3 [16] [1] .e .e)))) .e) .e) .e) .e) .e)) (.n (.h 1 [] [] (.h 0 [0] [1] (hr 0 [1] 2 4 (.h 0 [1] [1] (hr 0 [1] 6 4 .e) .e)) .e) .e) .e)))) Tryz.func45 h (by kernel_rfl)
def L46(g:Gh)(a0 a1:Value)(H:Hp)(R:Rt):Prop:=
ae .ptr .eql a0 (.pointer none) fun v1=>
Br v1 (
R (.returned (.tuple #[(iv 0),(iv 10)])) H) (
CF g 113 #[a0,a1] H (fun v2 H3=>
Un .not v2 fun v4=>
Br v4 (
R (.returned (.tuple #[(iv 0),(iv 2)])) H3) (
Nil a0 fun v5=>
aa 6 v5 fun v6=>
Ld H3 v6 fun v7=>
ah 1 v7 a1 fun v8=>
Ld H3 v8 fun v9=>
R (.returned (.tuple #[v9,(iv 0)])) H3)) (aq R))
theorem JS(h:L46 g a0 a1 H R):ai Tryz.prog g 46 #[a0,a1] H R:=
 ak (hn:=.e) Tryz.func46 h (by kernel_rfl)
def L47(g:Gh)(a0 a1:Value)(H:Hp)(R:Rt):Prop:=
bq H (.cells #[(iv 0),(iv 0),(iv 0),(Value.bool false)] 42 (0,0)) fun b1 H2=>
CF g 109 #[a0,a1] H2 (fun v3 H4=>
ae .num .neq v3 (iv 0) fun v5=>
Br v5 (
Build Tryz.prog 42 [] fun v6=>
St 4 H4 (pt b1) v6 fun H7=>
az 4 H7 (pt b1) fun v8=>
R (.returned (.tuple #[v8,v3])) H7) (
CF g 15 #[a0] H4 (fun v9 dJ=>
Build Tryz.prog 42 [(0,v9)] fun v11=>
bq dJ (.cells #[(iv 0),(iv 0),(iv 0),(Value.bool false)] 42 (0,0)) fun mV c8=>
St 4 c8 (pt mV) v11 fun fe=>
CF g 114 #[a0] fe (fun bD eP=>
aG bD fun bK=>
∃(FJ:Jt) (Uj:Mt),JE FJ [(iv 0)] eP∧∀jK:Value,∀dN:Hp,FJ [jK] dN→∀IN:Fr,
ae .num .lss jK bK fun cv=>
Br cv (
ah 1 bD jK fun cu=>
Ld dN cu fun cF=>
CF g 45 #[a0,cF,a1] dN (fun cG iV=>
Ext 0 cG fun dA=>
Ext 1 cG fun dy=>
bq iV (.cells #[(iv 0),(iv 0),(iv 0),(Value.bool false)] 42 (0,0)) fun KG j6=>
St 4 j6 (pt KG) dA fun nm=>
aa 2 (pt mV) fun ff=>
Ld nm ff fun fc=>
aa 2 (pt KG) fun fA=>
Ld nm fA fun dQ=>
ae .num .add fc dQ fun eF=>
aa 2 (pt mV) fun fy=>
St 1 nm fy eF fun Ba=>
ae .num .add jK (iv 1) fun fw=>
ay FJ Uj [fw] Ba [jK] dN) (aq R)) (
CF g 15 #[a0] dN (fun eY q7=>
aa 1 (pt mV) fun gk=>
St 1 q7 gk eY fun A9=>
az 4 A9 (pt mV) fun g9=>
St 4 A9 (pt b1) g9 fun Kl=>
az 4 Kl (pt b1) fun jT=>
R (.returned (.tuple #[jT,(iv 0)])) Kl) (aq R))) (aq R)) (aq R))) (aq R)
theorem JR(h:L47 g a0 a1 H R):ai Tryz.prog g 47 #[a0,a1] H R:=
 ak (hn:=(hN 3 (.n (.n .e (.n (.h 0 [25] [0,1,4,7,23,24] .e .e) .e)) .e))) Tryz.func47 h (by kernel_rfl)
def L49(g:Gh)(a0 a1 a2:Value)(H:Hp)(R:Rt):Prop:=
bq H (.cells #[(iv 0),(iv 0),(iv 0),(Value.bool false)] 42 (0,0)) fun b1 H2=>
CF g 115 #[a0,a1,a2] H2 (fun v3 H4=>
ae .num .neq v3 (iv 0) fun v5=>
Br v5 (
Build Tryz.prog 42 [] fun v6=>
St 4 H4 (pt b1) v6 fun H7=>
az 4 H7 (pt b1) fun v8=>
R (.returned (.tuple #[v8,v3])) H7) (
ae .num .eql a1 (Value.int .u8 1) fun v9=>
Br v9 (
CF g 47 #[a0,a2] H4 (fun v10 dZ=>
Ext 0 v10 fun bc=>
Ext 1 v10 fun bj=>
St 4 dZ (pt b1) bc fun fe=>
az 4 fe (pt b1) fun bD=>
R (.returned (.tuple #[bD,bj])) fe) (aq R)) (
ae .num .eql a1 (Value.int .u8 2) fun bR=>
Br bR (
CF g 48 #[a0,a2] H4 (fun bK dK=>
Ext 0 bK fun bQ=>
Ext 1 bK fun v20=>
Ext 2 bK fun cf=>
bq dK (.cells #[(iv 0),(iv 0),(iv 0),(Value.bool false)] 42 (0,0)) fun yp j3=>
St 4 j3 (pt yp) bQ fun iD=>
az 4 iD (pt yp) fun cF=>
St 4 iD (pt b1) cF fun jZ=>
az 4 jZ (pt b1) fun cS=>
R (.returned (.tuple #[cS,cf])) jZ) (aq R)) (
∀yQ:Jt,(∀Ps:Value,∀ju:Hp,(∀YP:Fr,
Br Ps (
CF g 100 #[a1] ju (fun dR iu=>
CF g 22 #[a0,dR] iu (fun fc jI=>
Ext 0 fc fun dQ=>
Ext 1 fc fun eF=>
St 4 jI (pt b1) dQ fun mg=>
az 4 mg (pt b1) fun gx=>
R (.returned (.tuple #[gx,eF])) mg) (aq R)) (aq R)) (
ae .num .eql a1 (Value.int .u8 6) fun fw=>
Br fw (
CF g 25 #[a0] ju (fun eY q7=>
Ext 0 eY fun gk=>
Ext 1 eY fun gj=>
St 4 q7 (pt b1) gk fun o9=>
az 4 o9 (pt b1) fun iG=>
R (.returned (.tuple #[iG,gj])) o9) (aq R)) (
CF g 15 #[a0] ju (fun jT qn=>
CF g 15 #[a0] qn (fun iF yA=>
Build Tryz.prog 42 [(0,jT),(1,iF)] fun jB=>
St 4 yA (pt b1) jB fun Po=>
az 4 Po (pt b1) fun l7=>
R (.returned (.tuple #[l7,(iv 0)])) Po) (aq R)) (aq R))))→yQ [Ps] ju)→
ae .num .eql a1 (Value.int .u8 3) fun oq=>
Br oq (
JE yQ [oq] H4) (
ae .num .eql a1 (Value.int .u8 4) fun kT=>
Br kT (
JE yQ [kT] H4) (
ae .num .eql a1 (Value.int .u8 5) fun po=>
JE yQ [po] H4)))))) (aq R)
theorem g6(h:L49 g a0 a1 a2 H R):ai Tryz.prog g 49 #[a0,a1,a2] H R:=
 ak (hn:=(.n .e (.n .e (.n (.n .e (.n (hN 4 (.h 1 [39] [0,1,6,20] .e .e)) .e)) .e)))) Tryz.func49 h (by kernel_rfl)
def L50(g:Gh)(a0 a1 a2:Value)(H:Hp)(R:Rt):Prop:=
bq H (.cells #[(iv 0),(iv 0),(iv 0),(Value.bool false)] 42 (0,0)) fun b1 H2=>
CF g 115 #[a0,(Value.int .u8 0),a2] H2 (fun v3 H4=>
aG a1 fun v5=>
∃(I6:Jt) (m7:Mt),JE I6 [v3,(iv 0)] H4∧∀eo jy:Value,∀H9:Hp,I6 [eo,jy] H9→∀CG:Fr,
ae .num .lss jy v5 fun bc=>
Br bc (
∀uU:Jt,(∀fT:Value,∀cY:Hp,(∀qM:Fr,
ae .num .add jy (iv 1) fun bK=>
ay I6 m7 [fT,bK] cY [eo,jy] H9)→uU [fT] cY)→
ah 1 a1 jy fun ca=>
Ld H9 ca fun bQ=>
CF g 115 #[a0,bQ,a2] H9 (fun v20 dN=>
ae .num .neq v20 (iv 0) fun cC=>
bM cC true (fun t23=>
ae .num .eql eo (iv 0) fun cu=>
bM cu false (fun t25=>
ae .num .lss v20 eo fun cG=>
(dN=dN∧cG=Value.bool t25)) (fun t25=>(Value.bool true)=Value.bool t25) fun t25=>∀ad4:Fr,
(dN=dN∧(Value.bool t25)=Value.bool t23)) (fun t23=>(Value.bool false)=Value.bool t23) fun t23=>∀Vf:Fr,
Br (Value.bool t23) (
JE uU [v20] dN) (
JE uU [eo] dN)) (aq R)) (
ae .num .neq eo (iv 0) fun dy=>
Br dy (
Build Tryz.prog 42 [] fun v30=>
St 4 H9 (pt b1) v30 fun j6=>
az 4 j6 (pt b1) fun dR=>
R (.returned (.tuple #[dR,eo])) j6) (
CF g 15 #[a0] H9 (fun ff nN=>
CF g 15 #[a0] nN (fun fA qp=>
Build Tryz.prog 42 [(0,ff),(1,fA)] fun eF=>
bq qp (.cells #[(iv 0),(iv 0),(iv 0),(Value.bool false)] 42 (0,0)) fun Te Ba=>
St 4 Ba (pt Te) eF fun qo=>
aG a1 fun eY=>
∃(I42:Jt) (m43:Mt),JE I42 [(iv 0)] qo∧∀VS:Value,∀o9:Hp,I42 [VS] o9→∀ajV:Fr,
ae .num .lss VS eY fun jT=>
Br jT (
ah 1 a1 VS fun jC=>
Ld o9 jC fun iF=>
CF g 49 #[a0,iF,a2] o9 (fun ja G7=>
Ext 0 ja fun iW=>
Ext 1 ja fun l7=>
bq G7 (.cells #[(iv 0),(iv 0),(iv 0),(Value.bool false)] 42 (0,0)) fun Y3 AM=>
St 4 AM (pt Y3) iW fun vF=>
ae .num .neq l7 (iv 0) fun qs=>
Br qs (
Build Tryz.prog 42 [] fun rp=>
St 4 vF (pt b1) rp fun A8=>
az 4 A8 (pt b1) fun qj=>
R (.returned (.tuple #[qj,l7])) A8) (
DR vF fun R61=>
aa 1 (pt Y3) fun vi=>
Ld R61 vi fun oo=>
aa 3 (pt Y3) fun yW=>
Ld R61 yW fun sO=>
aa 1 (pt Te) fun rY=>
∀F67:Hp,
St 1 vF rY oo fun RQ=>
aO RQ R61∧
aa 3 (pt Te) fun xh=>
∀F70:Hp,
St 1 RQ xh sO fun Kk=>
aa 2 (pt Te) fun xg=>
Ld Kk xg fun yI=>
aa 2 (pt Y3) fun Hx=>
Ld Kk Hx fun vK=>
ae .num .add yI vK fun OZ=>
aa 2 (pt Te) fun yH=>
St 1 Kk yH OZ fun OL=>
ae .num .add VS (iv 1) fun yV=>
ay I42 m43 [yV] OL [VS] o9)) (aq R)) (
az 4 o9 (pt Te) fun F0=>
St 4 o9 (pt b1) F0 fun WD=>
az 4 WD (pt b1) fun yG=>
R (.returned (.tuple #[yG,(iv 0)])) WD)) (aq R)) (aq R)))) (aq R)
theorem wY(h:L50 g a0 a1 a2 H R):ai Tryz.prog g 50 #[a0,a1,a2] H R:=
 ak (hn:=(.n .e (.n .e (.n (.n .e (.n (.h 0 [8,22] [0,1,2,6,20,21] (.n .e (.n .e (.h 1 [8] [0,1,2,6,20,21,22] (.n (.n .e (.n .e (.n (.h 0 [] [1] .e .e) .e))) .e) .e))) .e) .e)) (.n .e (.n .e (.n (.n .e (.n (.h 0 [54] [0,2,6,12,52,53] (.n .e (.n .e (.n (.n (hN 3 (.n (.h 1 [] [] (hr 0 [1] 0 8 .e) .e) .e)) .e) .e))) .e) .e)) .e))))))) Tryz.func50 h (by kernel_rfl)
def L51(g:Gh)(a0 a1:Value)(H:Hp)(R:Rt):Prop:=
CF g 116 #[a0] H (fun v1 H2=>
Ext 0 v1 fun v3=>
Ext 1 v1 fun v4=>
ae .num .neq v4 (iv 0) fun v5=>
bM v5 false (fun t6=>
ae .num .lss a0 (iv 1) fun v7=>
(H2=H2∧v7=Value.bool t6)) (fun t6=>(Value.bool true)=Value.bool t6) fun t6=>∀CG:Fr,
bM (Value.bool t6) false (fun t9=>
ae .num .lss a1 (iv 2) fun v10=>
(H2=H2∧v10=Value.bool t9)) (fun t9=>(Value.bool true)=Value.bool t9) fun t9=>∀ND:Fr,
bM (Value.bool t9) false (fun t12=>
ae .num .gtr a1 (iv 1048576) fun bj=>
(H2=H2∧bj=Value.bool t12)) (fun t12=>(Value.bool true)=Value.bool t12) fun t12=>∀qM:Fr,
Br (Value.bool t12) (
R (.returned (.tuple #[(.pointer none),(iv 1)])) H2) (
CF g 117 #[a0] H2 (fun bD eP=>
Ext 0 bD fun bK=>
Ext 1 bD fun ca=>
ae .num .neq ca (iv 0) fun bQ=>
Br bQ (
R (.returned (.tuple #[(.pointer none),ca])) eP) (
CF g 118 #[a1,bK] eP (fun v20 dN=>
Ext 0 v20 fun cC=>
Ext 1 v20 fun cv=>
bq dN (.cells #[(.pointer none),(.pointer none),(.slice none 0 0),(.slice none 0 0)] 115 (0,0)) fun b24 ef=>
St 4 ef (pt b24) cC fun jZ=>
ae .num .neq cv (iv 0) fun cS=>
Br cS (
R (.returned (.tuple #[(.pointer none),cv])) jZ) (
DR jZ fun R28=>
az 4 R28 (pt b24) fun dy=>
CF g 57 #[v3] jZ (fun v30 j6=>
aO j6 R28∧
Build Tryz.prog 117 [(0,dy),(1,a0),(2,v3),(3,v30)] fun dR=>
bq j6 (.cells (Value.cells dR) 117 (0,0)) fun KF nN=>
aO nN R28∧
R (.returned (.tuple #[(pt KF),(iv 0)])) nN) aU)) (aq R))) (aq R))) (aq R)
theorem JQ(h:L51 g a0 a1 H R):ai Tryz.prog g 51 #[a0,a1] H R:=
 ak (hn:=(.n .e (.n .e (.n (.n (.h 0 [] [1] .e .e) .e) (hN 4 (.n (.h 0 [0,1,2,3,4,5,6,7,8] [] .e .e) .e)))))) Tryz.func51 h (by kernel_rfl)
def L52(g:Gh)(a0 a1 a2:Value)(H:Hp)(R:Rt):Prop:=
bq H (.cells #[(.pointer none),(.pointer none),(.slice none 0 0),(.slice none 0 0)] 98 (0,0)) fun b1 H2=>
aG a1 fun v3=>
∀J4:Jt,(∀w7:Value,∀H6:Hp,(∀Pd:Fr,
Br w7 (
az 4 H6 (pt b1) fun v8=>
St 4 H6 (pt b1) v8 fun H9=>
az 4 H9 (pt b1) fun v10=>
R (.returned (.tuple #[v10,(Value.bool false),(Value.bool true)])) H9) (
aG a2 fun v11=>
∃(uV:Jt) (Ml:Mt),JE uV [(iv 0)] H6∧∀fT:Value,∀cY:Hp,uV [fT] cY→∀qM:Fr,
ae .num .lss fT v11 fun bK=>
Br bK (
ah 2 a2 fT fun ca=>
az 2 cY ca fun bQ=>
bq cY (.cells #[(iv 0),(.slice none 0 0)] 57 (0,0)) fun wL dN=>
St 2 dN (pt wL) bQ fun fF=>
az 2 fF (pt wL) fun cv=>
CF g 28 #[cv] fF (fun cu ef=>
Un .not cu fun cG=>
bM cG false (fun t27=>
aa 0 (pt wL) fun dA=>
Ld ef dA fun dy=>
ae .num .neq dy v3 fun v30=>
(ef=ef∧v30=Value.bool t27)) (fun t27=>(Value.bool true)=Value.bool t27) fun t27=>∀Ve:Fr,
Br (Value.bool t27) (
az 4 ef (pt b1) fun dR=>
St 4 ef (pt b1) dR fun iu=>
az 4 iu (pt b1) fun fc=>
R (.returned (.tuple #[fc,(Value.bool false),(Value.bool true)])) iu) (
ae .num .add fT (iv 1) fun fA=>
ay uV Ml [fA] ef [fT] cY)) (aq R)) (
CF g 51 #[v3,a0] cY (fun dQ rX=>
Ext 0 dQ fun fy=>
Ext 1 dQ fun gx=>
ae .num .neq gx (iv 0) fun fw=>
bM fw false (fun t41=>
ae .ptr .eql fy (.pointer none) fun gB=>
(rX=rX∧gB=Value.bool t41)) (fun t41=>(Value.bool true)=Value.bool t41) fun t41=>∀ajW:Fr,
Br (Value.bool t41) (
az 4 rX (pt b1) fun gj=>
St 4 rX (pt b1) gj fun o9=>
az 4 o9 (pt b1) fun iG=>
R (.returned (.tuple #[iG,(Value.bool true),(Value.bool false)])) o9) (
CF g 82 #[v3,a0] rX (fun jT qn=>
Build Tryz.prog 98 [(0,fy),(1,jT)] fun iF=>
St 4 qn (pt b1) iF fun yA=>
aa 1 (pt b1) fun jB=>
Ld yA jB fun iW=>
Nil iW fun l7=>
aa 2 l7 fun oq=>
Ld yA oq fun kT=>
CF g 120 #[kT,a1] yA (fun po G6=>
Ext 0 po fun rp=>
Ext 1 po fun Bl=>
aG rp fun qj=>
∃(I61:Jt) (m62:Mt),JE I61 [(iv 0)] G6∧∀VR:Value,∀xe:Hp,I61 [VR] xe→∀ajO:Fr,
ae .num .lss VR qj fun rY=>
Br rY (
ah 1 rp VR fun vM=>
Ld xe vM fun vL=>
∀Zz:Jt,(∀w72:Value,∀Kk:Hp,(∀adW:Fr,
Br w72 (
az 4 Kk (pt b1) fun yI=>
St 4 Kk (pt b1) yI fun Ti=>
az 4 Ti (pt b1) fun vK=>
R (.returned (.tuple #[vK,(Value.bool true),(Value.bool false)])) Ti) (
ae .num .add VR (iv 1) fun OZ=>
ay I61 m62 [OZ] Kk [VR] xe))→Zz [w72] Kk)→
CF g 17 #[fy,vL] xe (fun yH OL=>
ae .num .neq yH (iv 0) fun yV=>
Split yV false (
aa 1 (pt b1) fun F0=>
Ld OL F0 fun OY=>
CF g 86 #[OY,vL] OL (fun yG Th=>
ae .num .neq yG (iv 0) fun Ku=>
aA (Value.bool false) (Value.bool true) Ku fun Hw=>
JE Zz [Hw] Th) (aq R)) (
aA (Value.bool true) (Value.bool true) undef fun KU=>
JE Zz [KU] OL)) (aq R)) (
CF g 121 #[fy,(Value.int .u32 1)] xe (fun Pv WB=>
ae .num .neq Pv (iv 0) fun Tu=>
Br Tu (
az 4 WB (pt b1) fun Kt=>
St 4 WB (pt b1) Kt fun H91=>
az 4 H91 (pt b1) fun Bk=>
R (.returned (.tuple #[Bk,(Value.bool true),(Value.bool false)])) H91) (
aa 1 (pt b1) fun Hu=>
Ld WB Hu fun Bj=>
Nil Bj fun Pu=>
aa 4 Pu fun OX=>
St 1 WB OX (.slice none 0 0) fun ZE=>
aG a2 fun Ks=>
∃(I99:Jt) (ace:Mt),JE I99 [(iv 0)] ZE∧∀Hr:Value,∀lK:Hp,I99 [Hr] lK→∀agS:Fr,
ae .num .lss Hr Ks fun yY=>
Br yY (
∀OH:Jt,(∀ZK:Hp,(∀agQ:Fr,
ae .num .add Hr (iv 1) fun T0=>
ay I99 ace [T0] ZK [Hr] lK)→OH [] ZK)→
ah 2 a2 Hr fun xk=>
az 2 lK xk fun Lh=>
bq lK (.cells #[(iv 0),(.slice none 0 0)] 57 (0,0)) fun De VL=>
St 2 VL (pt De) Lh fun VK=>
aa 1 (pt b1) fun Bs=>
Ld VK Bs fun Bq=>
az 2 VK (pt De) fun Hy=>
av Tryz.prog 28 1 [(0,Hy)] VK fun Le RT=>
CF g 122 #[Bq,Le] RT (fun abQ Km=>
Un .not abQ fun Lc=>
Br Lc (
JE OH [] Km) (
az 2 Km (pt De) fun Bp=>
CF g 123 #[fy,a1,Bp,(iv 0)] Km (fun yX FN=>
Ext 0 yX fun Bo=>
Ext 1 yX fun TW=>
ae .num .neq TW (iv 0) fun TV=>
Br TV (
az 4 FN (pt b1) fun Bn=>
St 4 FN (pt b1) Bn fun l6=>
az 4 l6 (pt b1) fun Bm=>
R (.returned (.tuple #[Bm,(Value.bool true),(Value.bool false)])) l6) (
aa 1 (pt b1) fun Lb=>
Ld FN Lb fun La=>
az 2 FN (pt De) fun PE=>
CF g 124 #[La,PE] FN (fun WN ZI=>
aa 2 (pt b1) fun K8=>
Ld ZI K8 fun K7=>
av Tryz.prog 27 1 [(0,Bo)] ZI fun TU ae9=>
App Tryz.prog 77 1 4 (Value.int .u32 0) ae9 K7 TU fun TS ae7=>
aa 2 (pt b1) fun KY=>
St 1 ae7 KY TS fun OM=>
aa 3 (pt b1) fun KX=>
Ld OM KX fun abM=>
az 2 OM (pt De) fun PD=>
av Tryz.prog 28 1 [(0,PD)] OM fun TR ae5=>
App Tryz.prog 57 2 32 (.agg #[(iv 0),(.slice none 0 0)]) ae5 abM TR fun TP FM=>
aa 3 (pt b1) fun TO=>
St 1 FM TO TP fun ae4=>
JE OH [] ae4) (aq R))) (aq R))) (aq R)) (
DR lK fun Vr=>
az 4 Vr (pt b1) fun KW=>
az 4 Vr (pt b1) fun TM=>
CF g 125 #[TM] lK (fun PC FL=>
aO FL Vr∧
St 4 FL (pt b1) KW fun ZG=>
az 4 ZG (pt b1) fun TL=>
R (.returned (.tuple #[TL,(Value.bool true),PC])) ZG) aU))) (aq R))) (aq R)) (aq R))) (aq R))))→J4 [w7] H6)→
ae .num .lss v3 (iv 1) fun TK=>
Split TK false (
ae .num .gtr v3 (iv 8) fun abG=>
aA (Value.bool false) (Value.bool true) abG fun TJ=>
Split TJ false (
CF g 119 #[a1,v3] H2 (fun abF RR=>
Un .not abF fun PB=>
aA (Value.bool false) (Value.bool true) PB fun abD=>
Split abD false (
ae .num .lss a0 (iv 2) fun TG=>
aA (Value.bool false) (Value.bool true) TG fun TE=>
Split TE false (
ae .num .gtr a0 (iv 1048576) fun PA=>
aA (Value.bool false) (Value.bool true) PA fun abC=>
Split abC false (
aG a2 fun TD=>
ae .num .gtr TD (iv 60000) fun TC=>
aA (Value.bool false) (Value.bool true) TC fun Pz=>
JE J4 [Pz] RR) (
aA (Value.bool true) (Value.bool true) undef fun abB=>
JE J4 [abB] RR)) (
aA (Value.bool true) (Value.bool true) undef fun WM=>
aA WM (Value.bool true) undef fun TA=>
JE J4 [TA] RR)) (
aA (Value.bool true) (Value.bool true) undef fun Py=>
aA Py (Value.bool true) undef fun abA=>
aA abA (Value.bool true) undef fun WL=>
JE J4 [WL] RR)) (aq R)) (
aA (Value.bool true) (Value.bool true) undef fun Tz=>
aA Tz (Value.bool true) undef fun Pw=>
aA Pw (Value.bool true) undef fun abz=>
aA abz (Value.bool true) undef fun WK=>
JE J4 [WK] H2)) (
aA (Value.bool true) (Value.bool true) undef fun Ty=>
aA Ty (Value.bool true) undef fun Tx=>
aA Tx (Value.bool true) undef fun aby=>
aA aby (Value.bool true) undef fun Tw=>
aA Tw (Value.bool true) undef fun abx=>
JE J4 [abx] H2)
theorem JP(h:L52 g a0 a1 a2 H R):ai Tryz.prog g 52 #[a0,a1,a2] H R:=
 ak (hn:=(.n .e (.n .e (.n (.h 1 [48] [0,1,2,6,9] .e .e) (.n (.n .e (.n (.h 0 [52] [0,1,2,6,9,50,51] (.n .e (.n .e (.n (.n (.n .e (.n (.h 0 [] [1] .e .e) .e)) .e) .e))) .e) .e)) (.n .e (.n (.n (.h 0 [] [1] .e .e) .e) (.n .e (.n .e (.n (.n .e (.n (.h 0 [97] [1,2,6,12,95,96] (.n .e (.n .e (.n (.n (.n .e (.h 1 [111] [1,2,6,12,95,96,97] .e .e)) .e) .e))) .e) .e)) (.n .e (.n .e (.n (.n .e (.n (.h 0 [124] [1,6,12,122,123] (.n .e (.n .e (.h 1 [] [1,6,12,122,123,124] .e .e))) .e) .e)) (.n (.h 0 [0,1,2,3,4,5] [] .e .e) .e)))))))))))))) Tryz.func52 h (by kernel_rfl)
def L53(g:Gh)(H:Hp)(R:Rt):Prop:=
bq H (.cells #[(iv 0),(.slice none 0 0)] 57 (0,0)) fun b1 H2=>
∃(I3:Jt) (m4:Mt),JE I3 [(.slice none 0 0),(iv 0)] H2∧∀w7 w8:Value,∀H6:Hp,I3 [w7,w8] H6→∀Pd:Fr,
ae .num .lss w8 (iv 16) fun v9=>
Br v9 (
ae .num .and w8 (iv 3) fun v10=>
ae .num .eql v10 (iv 3) fun v11=>
bM v11 false (fun t12=>
ae .num .and w8 (iv 12) fun bj=>
ae .num .eql bj (iv 12) fun bA=>
(H6=H6∧bA=Value.bool t12)) (fun t12=>(Value.bool true)=Value.bool t12) fun t12=>∀NC:Fr,
av Tryz.prog 159 1 [(0,(Value.bool t12))] H6 fun bR fS=>
App Tryz.prog 4 1 1 (Value.bool false) fS w7 bR fun v20 dN=>
ae .num .add w8 (iv 1) fun cC=>
ay I3 m4 [v20,cC] dN [w7,w8] H6) (
CF g 98 #[(iv 4),w7] H6 (fun cv iD=>
St 2 iD (pt b1) cv fun ef=>
az 2 ef (pt b1) fun cG=>
R (.returned cG) ef) (aq R))
theorem JO(h:L53 g H R):ai Tryz.prog g 53 #[] H R:=
 ak (hn:=(.n .e (.n .e (.n (.n .e (.n (.h 0 [1,2] [0] (.n .e (.n (.n (.h 0 [] [1] .e .e) .e) .e)) .e) .e)) .e)))) Tryz.func53 h (by kernel_rfl)
variable {g:Gh} {a0 a1 a2 a3 a4 a5 a6 a7 a8 a9 si sg Zd Zc Zb Za:Value} {H:Hp} {R:Rt}
def L57(g:Gh)(a0:Value)(H:Hp)(R:Rt):Prop:=
ae .slice .eql a0 (.slice none 0 0) fun v1=>
Br v1 (
R (.returned (.slice none 0 0)) H) (
av Tryz.prog 25 0 [] H fun v2 H3=>
App Tryz.prog 3 1 8 (iv 0) H3 v2 a0 fun v6 H7=>
R (.returned v6) H7)
theorem JN(h:L57 g a0 H R):ai Tryz.prog g 57 #[a0] H R:=
 ak (hn:=.e) Tryz.func57 h (by kernel_rfl)
def L58(g:Gh)(a0:Value)(H:Hp)(R:Rt):Prop:=
ae .ptr .eql a0 (.pointer none) fun v1=>
Br v1 (
R (.returned (iv 0)) H) (
Nil a0 fun v2=>
aa 3 v2 fun v3=>
Ld H v3 fun v4=>
R (.returned v4) H)
theorem JM(h:L58 g a0 H R):ai Tryz.prog g 58 #[a0] H R:=
 ak (hn:=.e) Tryz.func58 h (by kernel_rfl)
def L59(g:Gh)(a0 a1:Value)(H:Hp)(R:Rt):Prop:=
Nil a0 fun v1=>
aa 5 v1 fun v2=>
Ld H v2 fun v3=>
ah 1 v3 a1 fun v4=>
Ld H v4 fun v5=>
Nil a0 fun v6=>
aa 5 v6 fun v7=>
Ld H v7 fun v8=>
ae .num .add a1 (iv 1) fun v9=>
ah 1 v8 v9 fun v10=>
Ld H v10 fun v11=>
CF g 134 #[a0,v5,v11] H (fun bc c8=>
DR c8 fun R14=>
Nil a0 fun bD=>
aa 0 bD fun bR=>
CF g 136 #[a0,v5,bc] c8 (fun bK dK=>
CF g 135 #[bR,bK] dK (fun bQ jw=>
Un .not bQ fun cf=>
Br cf (
R (.returned (Value.bool false)) jw) (
aG bc fun cC=>
∃(I23:Jt) (m24:Mt),JE I23 [(iv 0)] jw∧∀Bf:Value,∀jZ:Hp,I23 [Bf] jZ→∀ad5:Fr,
ae .num .lss Bf cC fun dA=>
Br dA (
ah 8 bc Bf fun dy=>
az 8 jZ dy fun v30=>
bq jZ (.cells #[(Value.int .u32 0),(iv 0),(Value.int .u32 0),(Value.int .u32 0),(Value.int .u32 0),(Value.int .u32 0),(Value.int .u32 0),(Value.int .u32 0)] 203 (0,0)) fun Jl nm=>
St 8 nm (pt Jl) v30 fun iu=>
DR iu fun yO=>
Nil a0 fun fA=>
aa 0 fA fun dQ=>
aa 1 dQ fun eF=>
Ld yO eF fun fy=>
aa 1 (pt Jl) fun gx=>
az 3 yO gx fun fw=>
CF g 137 #[fy,fw] iu (fun eY q7=>
ae .num .add Bf (iv 1) fun gk=>
ay I23 m24 [gk] q7 [Bf] jZ) aU) (
aG bc fun gj=>
∃(I45:Jt) (m46:Mt),JE I45 [(iv 0)] jZ∧∀WG:Value,∀qn:Hp,I45 [WG] qn→∀ad0:Fr,
ae .num .lss WG gj fun ja=>
Br ja (
ah 8 bc WG fun jB=>
az 8 qn jB fun iW=>
bq qn (.cells #[(Value.int .u32 0),(iv 0),(Value.int .u32 0),(Value.int .u32 0),(Value.int .u32 0),(Value.int .u32 0),(Value.int .u32 0),(Value.int .u32 0)] 203 (0,0)) fun KE KI=>
St 8 KI (pt KE) iW fun AM=>
DR AM fun RJ=>
Nil a0 fun qs=>
aa 0 qs fun rp=>
aa 4 (pt KE) fun Bl=>
Ld RJ Bl fun qj=>
aa 6 (pt KE) fun xj=>
Ld RJ xj fun vi=>
CF g 138 #[rp,v5,qj,vi] AM (fun oo xe=>
Nil a0 fun sO=>
aa 0 sO fun rY=>
CF g 139 #[rY,oo] xe (fun vM RQ=>
DR RQ fun R69=>
Nil a0 fun sj=>
aa 0 sj fun AW=>
aa 5 (pt KE) fun xg=>
Ld R69 xg fun yI=>
aa 7 (pt KE) fun Hx=>
Ld R69 Hx fun vK=>
CF g 138 #[AW,v5,yI,vK] RQ (fun OZ VG=>
Nil a0 fun KV=>
aa 0 KV fun yV=>
CF g 139 #[yV,OZ] VG (fun F0 WD=>
Build Tryz.prog 161 [(0,v11),(1,oo),(2,OZ)] fun yG=>
bq WD (.cells #[(iv 0),(Value.int .u32 0),(Value.int .u32 0)] 161 (0,0)) fun b83 H84=>
St 3 H84 (pt b83) yG fun WC=>
DR WC fun R86=>
Nil a0 fun Pv=>
aa 0 Pv fun KT=>
aa 0 KT fun Tu=>
Ld R86 Tu fun Kt=>
aa 0 (pt KE) fun Hv=>
Ld R86 Hv fun Bk=>
az 3 R86 (pt b83) fun Hu=>
CF g 140 #[Kt,Bk,Hu] WC (fun Bj WA=>
DR WA fun R96=>
Nil a0 fun Tt=>
aa 0 Tt fun Ks=>
aa 1 Ks fun Ts=>
Ld R96 Ts fun Lk=>
az 3 R96 (pt b83) fun xm=>
aa 0 (pt KE) fun Bv=>
Ld R96 Bv fun Bu=>
CF g 141 #[Lk,xm,Bu] WA (fun yY ON=>
ae .num .add WG (iv 1) fun Li=>
ay I45 m46 [Li] ON [WG] qn) aU) aU) (aq R)) aU) (aq R)) aU) (
aG bc fun xl=>
∃(VD:Jt) (acd:Mt),JE VD [(iv 0)] qn∧∀KR:Value,∀Ko:Hp,VD [KR] Ko→∀agP:Fr,
ae .num .lss KR xl fun Bt=>
Br Bt (
ah 8 bc KR fun Bs=>
az 8 Ko Bs fun Bq=>
bq Ko (.cells #[(Value.int .u32 0),(iv 0),(Value.int .u32 0),(Value.int .u32 0),(Value.int .u32 0),(Value.int .u32 0),(Value.int .u32 0),(Value.int .u32 0)] 203 (0,0)) fun RD afb=>
St 8 afb (pt RD) Bq fun RT=>
DR RT fun aet=>
Nil a0 fun TY=>
aa 0 TY fun Lc=>
aa 1 (pt RD) fun Bp=>
aa 1 Bp fun yX=>
Ld aet yX fun TX=>
CF g 142 #[Lc,TX] RT (fun Bo RS=>
DR RS fun aes=>
Nil a0 fun Bn=>
aa 0 Bn fun abP=>
aa 1 (pt RD) fun Bm=>
aa 2 Bm fun Lb=>
Ld aes Lb fun La=>
CF g 142 #[abP,La] RS (fun PE afa=>
ae .num .add KR (iv 1) fun K9=>
ay VD acd [K9] afa [KR] Ko) aU) aU) (
DR Ko fun Zk=>
Nil a0 fun K7=>
aa 5 K7 fun TU=>
Ld Zk TU fun K6=>
Nil a0 fun TT=>
aa 5 TT fun KZ=>
Ld Zk KZ fun TS=>
ae .num .add a1 (iv 1) fun abO=>
ah 1 K6 a1 fun KY=>
St 1 Ko KY v11 fun OM=>
ah 1 TS abO fun KX=>
St 1 OM KX v5 fun ZH=>
DR ZH fun Zj=>
Nil a0 fun TR=>
aa 6 TR fun TQ=>
Ld Zj TQ fun abL=>
Nil a0 fun abK=>
aa 6 abK fun TP=>
Ld Zj TP fun abJ=>
ae .num .add a1 (iv 1) fun TO=>
ah 1 abL v5 fun TN=>
St 1 ZH TN TO fun ae3=>
ah 1 abJ v11 fun KW=>
St 1 ae3 KW a1 fun ae2=>
R (.returned (Value.bool true)) ae2))))) aU) aU) (aq R)
theorem JL(h:L59 g a0 a1 H R):ai Tryz.prog g 59 #[a0,a1] H R:=
 ak (hn:=(hN 3 (.n (.n (.h 0 [0,1,2,3,4,5,6,7,8] [] .e .e) .e) (.n (.n .e (.n (.h 0 [47] [0,1,5,6,7,45,46] (.n .e (.n .e (.n (.n (.n .e (.h 0 [0,1,2,3,4,5,6,7] [] .e .e)) .e) .e))) .e) .e)) (.n (.n .e (.n (.h 0 [62] [0,1,5,6,7,60,61] (.n .e (.n .e (.n (.n (.n .e (.n (.h 0 [0,1,2,3,4,5,6,7,8,9] [] .e .e) (.n .e (.n (.h 0 [0,1,2,3,4,5,6,7,8,9] [] .e .e) (.n .e (.n .e (.n (.h 0 [0,1,2,3,4,5,6,7,8] [] .e .e) (.h 0 [0,1,2,3,4,5,6,7,8] [] .e .e)))))))) .e) .e))) .e) .e)) (.n (.n .e (.n (.h 0 [119] [0,1,5,6,117,118] (.n .e (.n .e (.n (.n (.n .e (.n (.h 0 [0,1,2,3,4,5,6] [] .e .e) (.h 0 [0,1,2,3,4,5,6] [] .e .e))) .e) .e))) .e) .e)) (.n (.h 0 [0,1,2,3,4,5,6,7,8,9,10,11,12,13,14,15,16] [] .e .e) (.n (.h 0 [0,1,2,3,4,5,6,7,8,9,10,11,12,13,14,15,16] [] .e .e) .e)))))))) Tryz.func59 h (by kernel_rfl)
def L60(g:Gh)(a0 a1:Value)(H:Hp)(R:Rt):Prop:=
ae .ptr .eql a0 (.pointer none) fun v1=>
Br v1 (
R (.returned (iv 10)) H) (
ae .num .lss a1 (iv 2) fun v2=>
bM v2 false (fun t3=>
ae .num .gtr a1 (iv 4) fun v4=>
(H=H∧v4=Value.bool t3)) (fun t3=>(Value.bool true)=Value.bool t3) fun t3=>∀Pd:Fr,
Br (Value.bool t3) (
R (.returned (iv 1)) H) (
R (.returned (iv 0)) H))
theorem JK(h:L60 g a0 a1 H R):ai Tryz.prog g 60 #[a0,a1] H R:=
 ak (hn:=(.n .e (.n (.n (.n .e (.n .e (.n (.h 0 [] [1] .e .e) .e))) .e) .e))) Tryz.func60 h (by kernel_rfl)
def L61(g:Gh)(a0:Value)(H:Hp)(R:Rt):Prop:=
ae .ptr .eql a0 (.pointer none) fun v1=>
Br v1 (
R (.returned (iv 0)) H) (
Nil a0 fun v2=>
aa 4 v2 fun v3=>
Ld H v3 fun v4=>
R (.returned v4) H)
theorem JJ(h:L61 g a0 H R):ai Tryz.prog g 61 #[a0] H R:=
 ak (hn:=.e) Tryz.func61 h (by kernel_rfl)
def L62(g:Gh)(a0 a1:Value)(H:Hp)(R:Rt):Prop:=
bq H (.cells (Value.cells a0) 26 (0,0)) fun b1 H2=>
DR H2 fun R3=>
Ld R3 (pt b1) fun v4=>
Ld R3 (pt b1) fun v5=>
CF g 15 #[v4] H2 (fun v6 H7=>
aO H7 R3∧
CF g 15 #[v5] H7 (fun v8 H9=>
aO H9 R3∧
Build Tryz.prog 42 [(0,v6),(1,v8)] fun v10=>
Build Tryz.prog 125 [(1,v10)] fun v11=>
bq H9 (.cells (Value.cells v11) 125 (0,0)) fun mV c8=>
aO c8 R3∧
CF g 14 #[a1] c8 (fun bA cY=>
Ext 0 bA fun bR=>
Ext 1 bA fun bK=>
bq cY (.cells #[(.slice none 0 0)] 25 (0,0)) fun sb fR=>
St 1 fR (pt sb) bR fun jw=>
Nil (pt mV) fun cf=>
aa 0 cf fun cC=>
St 1 jw cC (.func (.func 143) #[] #[(pt b1),(pt sb)]) fun j3=>
R (.returned (pt mV)) j3) (aq R)) aU) aU
theorem JI(h:L62 g a0 a1 H R):ai Tryz.prog g 62 #[a0,a1] H R:=
 ak (hn:=(.n .e (.n (.h 0 [0,2,1,3,4,5,6,7] [] .e .e) .e))) Tryz.func62 h (by kernel_rfl)
def L63(g:Gh)(a0 a1 a2:Value)(H:Hp)(R:Rt):Prop:=
DR H fun R1=>
Nil a0 fun v2=>
aa 1 v2 fun v3=>
aa 2 v3 fun v4=>
Ld R1 v4 fun v5=>
Nil a0 fun v6=>
aa 0 v6 fun v7=>
Ld R1 v7 fun v8=>
fx Tryz.prog g v8 #[a2] H (fun v9 dJ=>
aO dJ R1∧
ae .num .add v5 v9 fun v11=>
Nil a0 fun bc=>
aa 1 bc fun bj=>
aa 2 bj fun bA=>
St 1 dJ bA v11 fun cY=>
CF g 15 #[a1] cY (fun bR fS=>
Nil a0 fun ca=>
aa 1 ca fun bQ=>
aa 1 bQ fun v20=>
St 1 fS v20 bR fun dN=>
R (.returned (.tuple #[])) dN) (aq R)) aU
theorem JH(h:L63 g a0 a1 a2 H R):ai Tryz.prog g 63 #[a0,a1,a2] H R:=
 ak (hn:=(.n (.h 0 [0,1,2,3,4,5,6,7,8,9,10,11,12,13,14,15] [] .e .e) .e)) Tryz.func63 h (by kernel_rfl)
def L68(g:Gh)(a0 a1 a2:Value)(H:Hp)(R:Rt):Prop:=
∃(I1:Jt) (m2:Mt),JE I1 [(iv 0)] H∧∀w5:Value,∀H4:Hp,I1 [w5] H4→∀Ta:Fr,
ae .num .add w5 a2 fun v6=>
CF g 61 #[a1] H4 (fun v7 H8=>
ae .num .leq v6 v7 fun v9=>
Br v9 (
CF g 63 #[a0,a1,w5] H8 (fun v10 dZ=>
ae .num .add w5 (iv 1) fun bc=>
ay I1 m2 [bc] dZ [w5] H4) (aq R)) (
R (.returned (.tuple #[])) H8)) (aq R)
theorem JG(h:L68 g a0 a1 a2 H R):ai Tryz.prog g 68 #[a0,a1,a2] H R:=
 ak (hn:=(.n .e (.n (.h 0 [6] [0,1,2] .e .e) .e))) Tryz.func68 h (by kernel_rfl)
def L70(g:Gh)(a0:Value)(H:Hp)(R:Rt):Prop:=
ae .ptr .eql a0 (.pointer none) fun v1=>
Br v1 (
R (.returned (.slice none 0 0)) H) (
Nil a0 fun v2=>
aa 0 v2 fun v3=>
aa 3 v3 fun v4=>
Ld H v4 fun v5=>
aG v5 fun v6=>
∃(I7:Jt) (m8:Mt),JE I7 [(.slice none 0 0),(iv 0)] H∧∀jy eW:Value,∀dJ:Hp,I7 [jy,eW] dJ→∀S8:Fr,
ae .num .lss eW v6 fun bj=>
Br bj (
∀Ki:Jt,(∀yT:Value,∀eP:Hp,(∀NC:Fr,
ae .num .add eW (iv 1) fun ca=>
ay I7 m8 [yT,ca] eP [jy,eW] dJ)→Ki [yT] eP)→
ah 1 v5 eW fun bQ=>
Ld dJ bQ fun v20=>
ae .num .gtr v20 (Value.int .i32 0) fun cf=>
Br cf (
bL .u32 eW fun cC=>
av Tryz.prog 27 1 [(0,cC)] dJ fun cv iD=>
App Tryz.prog 77 1 4 (Value.int .u32 0) iD jy cv fun cS nO=>
JE Ki [cS] nO) (
JE Ki [jy] dJ)) (
R (.returned jy) dJ))
theorem wX(h:L70 g a0 H R):ai Tryz.prog g 70 #[a0] H R:=
 ak (hn:=(hN 3 (.n (.n .e (.n (.h 0 [3,14] [12,13] (.n .e (.n .e (.h 1 [3] [12,13,14] .e .e))) .e) .e)) .e))) Tryz.func70 h (by kernel_rfl)
def L71(g:Gh)(a0 a1:Value)(H:Hp)(R:Rt):Prop:=
bq H (.cells #[(iv 0),(.slice none 0 0)] 57 (0,0)) fun b1 H2=>
av Tryz.prog 27 1 [(0,a1)] H2 fun v3 H4=>
CF g 150 #[a0,v3] H4 (fun v5 H6=>
ae .num .neq v5 (iv 0) fun v7=>
Br v7 (
Build Tryz.prog 57 [] fun v8=>
St 2 H6 (pt b1) v8 fun H9=>
az 2 H9 (pt b1) fun v10=>
R (.returned (.tuple #[v10,v5])) H9) (
CF g 61 #[a0] H6 (fun v11 fq=>
bq fq (.cells #[(iv 0)] 3 (0,0)) fun RC fe=>
St 1 fe (pt RC) v11 fun cY=>
Ld cY (pt RC) fun bR=>
ae .num .gtr bR (iv 16) fun bK=>
Br bK (
Build Tryz.prog 57 [] fun ca=>
St 2 cY (pt b1) ca fun fR=>
az 2 fR (pt b1) fun v20=>
R (.returned (.tuple #[v20,(iv 6)])) fR) (
Ld cY (pt RC) fun cf=>
CF g 147 #[cf,(Value.bool false)] cY (fun cC j3=>
Ext 0 cC fun cu=>
Ext 1 cC fun cF=>
bq j3 (.cells #[(iv 0),(.slice none 0 0)] 57 (0,0)) fun sH iV=>
St 2 iV (pt sH) cu fun nO=>
Ld nO (pt RC) fun dy=>
CF g 147 #[dy,(Value.bool true)] nO (fun v30 j6=>
Ext 0 v30 fun dR=>
Ext 1 v30 fun ff=>
bq j6 (.cells #[(iv 0),(.slice none 0 0)] 57 (0,0)) fun Y5 jI=>
St 2 jI (pt Y5) dR fun qp=>
az 2 qp (pt sH) fun eF=>
az 2 qp (pt Y5) fun fy=>
CF g 151 #[a0,a1,eF,fy,(.func (.func 152) #[] #[(pt RC)])] qp (fun gx qo=>
St 2 qo (pt b1) gx fun yC=>
az 2 yC (pt b1) fun gB=>
R (.returned (.tuple #[gB,(iv 0)])) yC) (aq R)) (aq R)) (aq R))) (aq R))) (aq R)
theorem JF(h:L71 g a0 a1 H R):ai Tryz.prog g 71 #[a0,a1] H R:=
 ak (hn:=.e) Tryz.func71 h (by kernel_rfl)
def L72(g:Gh)(a0:Value)(H:Hp)(R:Rt):Prop:=
qg H fun v1 H2=>
qg H2 fun v3 H4=>
Build Tryz.prog 137 [(0,a0),(3,v1),(4,v3)] fun v5=>
bq H4 (.cells (Value.cells v5) 137 (0,0)) fun b6 H7=>
aG a0 fun v8=>
ae .num .eql v8 (iv 0) fun v9=>
Br v9 (
R (.returned (.tuple #[(pt b6),(iv 0)])) H7) (
CF g 155 #[a0] H7 (fun v10 dZ=>
Ext 0 v10 fun bc=>
Ext 1 v10 fun bj=>
ae .num .neq bj (iv 0) fun bA=>
Br bA (
R (.returned (.tuple #[(.pointer none),bj])) dZ) (
ah 2 a0 (iv 0) fun bD=>
aa 0 bD fun bR=>
Ld dZ bR fun bK=>
Nil (pt b6) fun ca=>
aa 1 ca fun bQ=>
St 1 dZ bQ bK fun jw=>
aG a0 fun cf=>
∃(FI:Jt) (Ui:Mt),JE FI [(iv 0)] jw∧∀jx:Value,∀ef:Hp,FI [jx] ef→∀Q9:Fr,
ae .num .lss jx cf fun cS=>
Br cS (
ah 2 a0 jx fun dA=>
az 2 ef dA fun dy=>
bq ef (.cells #[(iv 0),(.slice none 0 0)] 57 (0,0)) fun KG j6=>
St 2 j6 (pt KG) dy fun nm=>
az 2 nm (pt KG) fun ff=>
CF g 156 #[ff] nm (fun fc jI=>
Ext 0 fc fun dQ=>
Ext 1 fc fun eF=>
Nil (pt b6) fun fy=>
aa 2 fy fun gx=>
Ld jI gx fun fw=>
bL .i64 dQ fun eY=>
ae .num .or fw eY fun gB=>
Nil (pt b6) fun gk=>
aa 2 gk fun gj=>
St 1 jI gj gB fun o9=>
ae .num .add jx (iv 1) fun iG=>
ay FI Ui [iG] o9 [jx] ef) (aq R)) (
R (.returned (.tuple #[(pt b6),(iv 0)])) ef))) (aq R))
theorem JD(h:L72 g a0 H R):ai Tryz.prog g 72 #[a0] H R:=
 ak (hn:=(hN 5 (.n (.n .e (.n (.h 0 [37] [4,35,36] .e .e) .e)) .e))) Tryz.func72 h (by kernel_rfl)
def L73(g:Gh)(a0 a1 a2:Value)(H:Hp)(R:Rt):Prop:=
Nil a0 fun v1=>
aa 2 v1 fun v2=>
Ld H v2 fun v3=>
ae .num .shr v3 a2 fun v4=>
ae .num .and v4 (iv 1) fun v5=>
ae .num .eql v5 (iv 0) fun v6=>
Br v6 (
R (.returned (iv 0)) H) (
Nil a0 fun v7=>
aa 2 v7 fun v8=>
Ld H v8 fun v9=>
ae .num .and a1 v9 fun v10=>
Build Tryz.prog 226 [(0,v10),(1,a2)] fun v11=>
bq H (.cells #[(iv 0),(iv 0)] 226 (0,0)) fun mV c8=>
St 2 c8 (pt mV) v11 fun fe=>
Nil a0 fun bD=>
aa 3 bD fun bR=>
Ld fe bR fun bK=>
az 2 fe (pt mV) fun ca=>
kL Tryz.prog 226 (iv 0) true fe bK ca fun bQ=>
Ext 0 bQ fun v20=>
Ext 1 bQ fun cf=>
∀J22:Jt,(∀sN:Value,∀iD:Hp,(∀Ra:Fr,
R (.returned sN) iD)→J22 [sN] iD)→
Un .not cf fun cG=>
Br cG (
DR fe fun RL=>
Nil a0 fun dA=>
aa 0 dA fun dy=>
Ld RL dy fun v30=>
AS 2 1 (pt mV) (iv 0) fun eR=>
Ld RL eR fun dR=>
bL .u64 dR fun ff=>
CF g 157 #[v30,ff,a2] fe (fun fc jI=>
aO jI RL∧
Ext 0 fc fun dQ=>
Ext 1 fc fun eF=>
DR jI fun R38=>
Nil a0 fun gx=>
aa 3 gx fun fw=>
Ld R38 fw fun eY=>
az 2 R38 (pt mV) fun gB=>
lJ Tryz.prog 226 jI eY gB dQ fun AO=>
JE J22 [dQ] AO) aU) (
JE J22 [v20] fe))
theorem JC(h:L73 g a0 a1 a2 H R):ai Tryz.prog g 73 #[a0,a1,a2] H R:=
 ak (hn:=(hN 4 (.h 1 [8] [] (.n .e (.n (.n (.h 0 [0,1,2,3,4,5,6,7,8,9,10,11,12] [] .e .e) (.h 0 [0,1,2,3,4,5,6] [] .e .e)) .e)) .e))) Tryz.func73 h (by kernel_rfl)
def L74(g:Gh)(a0 a1:Value)(H:Hp)(R:Rt):Prop:=
Nil a0 fun v1=>
aa 2 v1 fun v2=>
Ld H v2 fun v3=>
ae .num .and a1 v3 fun v4=>
Nil a0 fun v5=>
aa 2 v5 fun v6=>
Ld H v6 fun v7=>
ae .num .eql v4 v7 fun v8=>
Br v8 (
R (.returned (iv 0)) H) (
Nil a0 fun v9=>
aa 4 v9 fun v10=>
Ld H v10 fun v11=>
qi (.int .i64) (iv 0) true H v11 v4 fun bc=>
Ext 0 bc fun bj=>
Ext 1 bc fun bA=>
Br bA (
R (.returned bj) H) (
Nil a0 fun bD=>
aa 1 bD fun bR=>
Ld H bR fun bK=>
∃(FJ:Jt) (Uj:Mt),JE FJ [(iv (-1)),(iv 0)] H∧∀jK lW:Value,∀dN:Hp,FJ [jK,lW] dN→∀IN:Fr,
ae .num .lss lW bK fun cu=>
Br cu (
∀Pk:Jt,(∀vg:Value,∀iV:Hp,(∀YQ:Fr,
ae .num .add lW (iv 1) fun dy=>
ay FJ Uj [vg,dy] iV [jK,lW] dN)→Pk [vg] iV)→
Nil a0 fun v30=>
aa 2 v30 fun eR=>
Ld dN eR fun dR=>
Un .xor dR fun ff=>
ae .num .or v4 ff fun fc=>
ae .num .shr fc lW fun fA=>
ae .num .and fA (iv 1) fun dQ=>
ae .num .eql dQ (iv 1) fun eF=>
Br eF (
JE Pk [jK] dN) (
DR dN fun R38=>
ae .num .shl (iv 1) lW fun gx=>
ae .num .or v4 gx fun fw=>
CF g 73 #[a0,v4,lW] dN (fun eY q7=>
CF g 74 #[a0,fw] q7 (fun gk A9=>
ae .num .add eY gk fun g9=>
ae .num .lss jK (iv 0) fun iG=>
bM iG false (fun t47=>
ae .num .lss g9 jK fun jC=>
(A9=A9∧jC=Value.bool t47)) (fun t47=>(Value.bool true)=Value.bool t47) fun t47=>∀ajS:Fr,
Br (Value.bool t47) (
JE Pk [g9] A9) (
JE Pk [jK] A9)) aU) aU)) (
Nil a0 fun ja=>
aa 4 ja fun jB=>
Ld dN jB fun iW=>
gi (.int .i64) dN iW v4 jK fun yz=>
R (.returned jK) yz)))
theorem wW(h:L74 g a0 a1 H R):ai Tryz.prog g 74 #[a0,a1] H R:=
 ak (hn:=(hN 5 (.n (.n .e (.n (.h 0 [7,37] [0,1,36] (.n .e (.n .e (.h 1 [7] [0,1,36,37] (.n (.n .e (.n .e (.n (.h 0 [0,1,2,4,5,6,7,8,3,9,10,11] [] .e .e) (.n (.h 0 [] [1] .e .e) .e)))) .e) .e))) .e) .e)) .e))) Tryz.func74 h (by kernel_rfl)
def L75(g:Gh)(a0:Value)(H:Hp)(R:Rt):Prop:=
∀J1:Jt,(∀w4 w5:Value,∀H3:Hp,(∀gs2:Fr,
∀J6:Jt,(∀w9 eo:Value,∀H8:Hp,(∀S9:Fr,
∀Vx:Jt,(∀kP mi:Value,∀c8:Hp,(∀IP:Fr,
bL .u8 kP fun bR=>
Tf (.string (ByteArray.mk #[0,1,2,2,3,3,3,3,4,4,4,4,4,4,4,4,5,5,5,5,5,5,5,5,5,5,5,5,5,5,5,5,6,6,6,6,6,6,6,6,6,6,6,6,6,6,6,6,6,6,6,6,6,6,6,6,6,6,6,6,6,6,6,6,7,7,7,7,7,7,7,7,7,7,7,7,7,7,7,7,7,7,7,7,7,7,7,7,7,7,7,7,7,7,7,7,7,7,7,7,7,7,7,7,7,7,7,7,7,7,7,7,7,7,7,7,7,7,7,7,7,7,7,7,7,7,7,7,8,8,8,8,8,8,8,8,8,8,8,8,8,8,8,8,8,8,8,8,8,8,8,8,8,8,8,8,8,8,8,8,8,8,8,8,8,8,8,8,8,8,8,8,8,8,8,8,8,8,8,8,8,8,8,8,8,8,8,8,8,8,8,8,8,8,8,8,8,8,8,8,8,8,8,8,8,8,8,8,8,8,8,8,8,8,8,8,8,8,8,8,8,8,8,8,8,8,8,8,8,8,8,8,8,8,8,8,8,8,8,8,8,8,8,8,8,8,8,8,8,8,8,8,8,8,8,8])) bR fun bK=>
bL .i64 bK fun ca=>
ae .num .add mi ca fun bQ=>
R (.returned bQ) c8)→Vx [kP,mi] c8)→
ae .num .geq w9 (Value.int .u64 256) fun v20=>
Br v20 (
ae .num .shr w9 (Value.int .u64 8) fun cf=>
ae .num .add eo (iv 8) fun cC=>
JE Vx [cf,cC] H8) (
JE Vx [w9,eo] H8))→J6 [w9,eo] H8)→
ae .num .geq w4 (Value.int .u64 65536) fun cv=>
Br cv (
ae .num .shr w4 (Value.int .u64 16) fun cu=>
ae .num .add w5 (iv 16) fun cF=>
JE J6 [cu,cF] H3) (
JE J6 [w4,w5] H3))→J1 [w4,w5] H3)→
ae .num .geq a0 (Value.int .u64 4294967296) fun cG=>
Br cG (
ae .num .shr a0 (Value.int .u64 32) fun cS=>
JE J1 [cS,(iv 32)] H) (
JE J1 [a0,(iv 0)] H)
theorem JB(h:L75 g a0 H R):ai Tryz.prog g 75 #[a0] H R:=
 ak (hn:=(.n .e (.h 1 [0,2] [] .e (.h 1 [0,2] [] .e (.h 1 [0,2] [] .e .e))))) Tryz.func75 h (by kernel_rfl)
def L76(g:Gh)(H:Hp)(R:Rt):Prop:=
Build Tryz.prog 231 [] fun v1=>
bq H (.cells (Value.cells v1) 231 (0,0)) fun b2 H3=>
R (.returned (pt b2)) H3
theorem JA(h:L76 g H R):ai Tryz.prog g 76 #[] H R:=
 ak (hn:=.e) Tryz.func76 h (by kernel_rfl)
def L77(g:Gh)(a0 a1 a2:Value)(H:Hp)(R:Rt):Prop:=
ae .ptr .eql a0 (.pointer none) fun v1=>
Br v1 (
R (.returned (iv 10)) H) (
Nil a0 fun v2=>
aa 1 v2 fun v3=>
Ld H v3 fun v4=>
qi (.int .i64) (iv 0) true H v4 a1 fun v5=>
Ext 0 v5 fun v6=>
Ext 1 v5 fun v7=>
Br v7 (
R (.returned (iv 11)) H) (
∀J8:Jt,(∀dJ:Hp,(∀S8:Fr,
Nil a0 fun v11=>
aa 0 v11 fun bc=>
Ld dJ bc fun bj=>
Build Tryz.prog 233 [(0,a1),(1,a2)] fun bA=>
av Tryz.prog 229 1 [(0,bA)] dJ fun bD eP=>
App Tryz.prog 233 2 16 (.agg #[(iv 0),(iv 0)]) eP bj bD fun bQ jw=>
Nil a0 fun cf=>
aa 0 cf fun cC=>
St 1 jw cC bQ fun j3=>
Nil a0 fun cu=>
aa 0 cu fun cF=>
Ld j3 cF fun cG=>
aG cG fun cS=>
ae .num .sub cS (iv 1) fun dA=>
CF g 158 #[a0,dA] j3 (fun dy ju=>
R (.returned (iv 0)) ju) (aq R))→J8 [] dJ)→
Nil a0 fun eR=>
aa 1 eR fun dR=>
Ld H dR fun ff=>
ae .map .eql ff (.map none) fun fc=>
Br fc (
qg H fun fA qp=>
Nil a0 fun eF=>
aa 1 eF fun fy=>
St 1 qp fy fA fun Ba=>
JE J8 [] Ba) (
JE J8 [] H)))
theorem Jz(h:L77 g a0 a1 a2 H R):ai Tryz.prog g 77 #[a0,a1,a2] H R:=
 ak (hn:=(hN 3 (.h 1 [] [0,1,2] .e .e))) Tryz.func77 h (by kernel_rfl)
def L78(g:Gh)(a0:Value)(H:Hp)(R:Rt):Prop:=
ae .ptr .eql a0 (.pointer none) fun v1=>
bM v1 false (fun t2=>
Nil a0 fun v3=>
aa 0 v3 fun v4=>
Ld H v4 fun v5=>
aG v5 fun v6=>
ae .num .eql v6 (iv 0) fun v7=>
(H=H∧v7=Value.bool t2)) (fun t2=>(Value.bool true)=Value.bool t2) fun t2=>∀CG:Fr,
Br (Value.bool t2) (
R (.returned (.tuple #[(iv 0),(iv 0),(iv 10)])) H) (
Nil a0 fun v9=>
aa 0 v9 fun v10=>
Ld H v10 fun v11=>
ah 2 v11 (iv 0) fun bc=>
az 2 H bc fun bj=>
bq H (.cells #[(iv 0),(iv 0)] 233 (0,0)) fun Pf cY=>
St 2 cY (pt Pf) bj fun eP=>
Nil a0 fun bK=>
aa 0 bK fun ca=>
Ld eP ca fun bQ=>
aG bQ fun v20=>
ae .num .sub v20 (iv 1) fun cf=>
Nil a0 fun cC=>
aa 0 cC fun cv=>
Ld eP cv fun cu=>
ah 2 cu cf fun cF=>
az 2 eP cF fun cG=>
bq eP (.cells #[(iv 0),(iv 0)] 233 (0,0)) fun b27 nO=>
St 2 nO (pt b27) cG fun kM=>
Nil a0 fun v30=>
aa 0 v30 fun eR=>
Ld kM eR fun dR=>
gh 2 dR none (some cf) fun ff=>
Nil a0 fun fc=>
aa 0 fc fun fA=>
St 1 kM fA ff fun qp=>
DR qp fun R37=>
Nil a0 fun fy=>
aa 1 fy fun gx=>
Ld R37 gx fun fw=>
aa 0 (pt Pf) fun eY=>
Ld R37 eY fun gB=>
uF (.int .i64) qp fw gB fun o9=>
∀J46:Jt,(∀qn:Hp,(∀ad0:Fr,
aa 0 (pt Pf) fun iF=>
Ld qn iF fun ja=>
aa 1 (pt Pf) fun jB=>
Ld qn jB fun iW=>
R (.returned (.tuple #[ja,iW,(iv 0)])) qn)→J46 [] qn)→
ae .num .gtr cf (iv 0) fun l7=>
Br l7 (
az 2 o9 (pt b27) fun oq=>
CF g 159 #[a0,(iv 0),oq] o9 (fun kT vF=>
CF g 160 #[a0,(iv 0)] vF (fun qs VI=>
JE J46 [] VI) (aq R)) (aq R)) (
JE J46 [] o9))
theorem wV(h:L78 g a0 H R):ai Tryz.prog g 78 #[a0] H R:=
 ak (hn:=(.n .e (.n .e (.n (.n (.h 0 [] [1] .e .e) .e) (hN 4 (.n (.h 0 [0,1,2,3,4,5,6] [] .e .e) (.h 1 [] [6] .e .e))))))) Tryz.func78 h (by kernel_rfl)
def L81(g:Gh)(a0:Value)(H:Hp)(R:Rt):Prop:=
ae .num .leq a0 (iv 6) fun v1=>
Br v1 (
R (.returned (iv 1)) H) (
ae .num .sub a0 (iv 6) fun v2=>
ae .num .shl (iv 1) v2 fun v3=>
R (.returned v3) H)
theorem Jy(h:L81 g a0 H R):ai Tryz.prog g 81 #[a0] H R:=
 ak (hn:=.e) Tryz.func81 h (by kernel_rfl)
def L82(g:Gh)(a0 a1:Value)(H:Hp)(R:Rt):Prop:=
Build Tryz.prog 74 [(0,a0),(1,a1)] fun v1=>
bq H (.cells (Value.cells v1) 74 (0,0)) fun b2 H3=>
∃(I4:Jt) (m5:Mt),JE I4 [(iv 0)] H3∧∀w8:Value,∀H7:Hp,I4 [w8] H7→∀KC:Fr,
ae .num .lss w8 a0 fun v9=>
Br v9 (
Nil (pt b2) fun v10=>
aa 2 v10 fun v11=>
Ld H7 v11 fun bc=>
av Tryz.prog 25 1 [(0,w8)] H7 fun bj fe=>
App Tryz.prog 3 1 8 (iv 0) fe bc bj fun bK dK=>
Nil (pt b2) fun bQ=>
aa 2 bQ fun v20=>
St 1 dK v20 bK fun dN=>
ae .num .add w8 (iv 1) fun cC=>
ay I4 m5 [cC] dN [w8] H7) (
R (.returned (pt b2)) H7)
theorem Jx(h:L82 g a0 a1 H R):ai Tryz.prog g 82 #[a0,a1] H R:=
 ak (hn:=(.n .e (.n .e (.n (.n .e (.n (.h 0 [6] [0,5] .e .e) .e)) .e)))) Tryz.func82 h (by kernel_rfl)
def L86(g:Gh)(a0 a1:Value)(H:Hp)(R:Rt):Prop:=
ae .num .lss a1 (iv 0) fun v1=>
bM v1 false (fun t2=>
Nil a0 fun v3=>
aa 0 v3 fun v4=>
Ld H v4 fun v5=>
ae .num .sub v5 (iv 2) fun v6=>
ae .num .gtr a1 v6 fun v7=>
(H=H∧v7=Value.bool t2)) (fun t2=>(Value.bool true)=Value.bool t2) fun t2=>∀CG:Fr,
Br (Value.bool t2) (
R (.returned (iv 1)) H) (
DR H fun R9=>
Nil a0 fun v10=>
aa 1 v10 fun v11=>
Ld R9 v11 fun bc=>
CF g 165 #[a0,a1] H (fun bj fe=>
aO fe R9∧
ae .num .add (iv 2) bj fun bD=>
ae .num .gtr bD bc fun bR=>
Br bR (
R (.returned (iv 9)) fe) (
Nil a0 fun bK=>
aa 2 bK fun ca=>
Ld fe ca fun bQ=>
CF g 166 #[bQ,a1] fe (fun v20 dN=>
Nil a0 fun cC=>
aa 2 cC fun cv=>
St 1 dN cv v20 fun iD=>
Nil a0 fun cF=>
aa 4 cF fun cG=>
Ld iD cG fun cS=>
av Tryz.prog 25 1 [(0,a1)] iD fun dA kM=>
App Tryz.prog 3 1 8 (iv 0) kM cS dA fun dR iu=>
Nil a0 fun fc=>
aa 4 fc fun fA=>
St 1 iu fA dR fun qp=>
R (.returned (iv 0)) qp) (aq R))) aU)
theorem wU(h:L86 g a0 a1 H R):ai Tryz.prog g 86 #[a0,a1] H R:=
 ak (hn:=(.n .e (.n (.n (.n (.h 0 [] [1] .e .e) (.n .e (.n (.h 0 [0,1,4,5,6,7,2,3,8,9] [] .e .e) .e))) .e) .e))) Tryz.func86 h (by kernel_rfl)
def L87(g:Gh)(a0:Value)(H:Hp)(R:Rt):Prop:=
CF g 88 #[a0] H (fun v1 H2=>
CF g 167 #[a0,v1] H2 (fun v3 H4=>
R (.returned v3) H4) (aq R)) (aq R)
theorem Jw(h:L87 g a0 H R):ai Tryz.prog g 87 #[a0] H R:=
 ak (hn:=.e) Tryz.func87 h (by kernel_rfl)
def L88(g:Gh)(a0:Value)(H:Hp)(R:Rt):Prop:=
Nil a0 fun v1=>
aa 3 v1 fun v2=>
Ld H v2 fun v3=>
aG v3 fun v4=>
∃(I5:Jt) (m6:Mt),JE I5 [(.slice none 0 0),(iv 0)] H∧∀w9 eo:Value,∀H8:Hp,I5 [w9,eo] H8→∀S9:Fr,
ae .num .lss eo v4 fun v11=>
Br v11 (
ah 3 v3 eo fun bc=>
az 3 H8 bc fun bj=>
bq H8 (.cells #[(iv 0),(.slice none 0 0),(iv 0)] 241 (0,0)) fun Pf cY=>
St 3 cY (pt Pf) bj fun eP=>
aa 0 (pt Pf) fun bK=>
az 2 eP bK fun ca=>
av Tryz.prog 28 1 [(0,ca)] eP fun bQ jw=>
App Tryz.prog 57 2 32 (.agg #[(iv 0),(.slice none 0 0)]) jw w9 bQ fun cv iD=>
ae .num .add eo (iv 1) fun cF=>
ay I5 m6 [cv,cF] iD [w9,eo] H8) (
R (.returned w9) H8)
theorem Jv(h:L88 g a0 H R):ai Tryz.prog g 88 #[a0] H R:=
 ak (hn:=(.n .e (.n .e (.n (.n .e (.n (.h 0 [3,11] [9,10] .e .e) .e)) .e)))) Tryz.func88 h (by kernel_rfl)
def L93(g:Gh)(a0 a1:Value)(H:Hp)(R:Rt):Prop:=
ae .ptr .eql a0 (.pointer none) fun v1=>
Br v1 (
R (.returned (.tuple #[(iv 0),(iv 10)])) H) (
CF g 113 #[a0,a1] H (fun v2 H3=>
Un .not v2 fun v4=>
Br v4 (
R (.returned (.tuple #[(iv 0),(iv 2)])) H3) (
Nil a0 fun v5=>
aa 0 v5 fun v6=>
aa 1 v6 fun v7=>
Ld H3 v7 fun v8=>
CF g 171 #[v8,a1] H3 (fun v9 dJ=>
Ext 0 v9 fun v11=>
Ext 1 v9 fun bc=>
R (.returned (.tuple #[v11,bc])) dJ) (aq R))) (aq R))
theorem Ju(h:L93 g a0 a1 H R):ai Tryz.prog g 93 #[a0,a1] H R:=
 ak (hn:=.e) Tryz.func93 h (by kernel_rfl)
def L95(g:Gh)(a0 a1:Value)(H:Hp)(R:Rt):Prop:=
ae .ptr .eql a0 (.pointer none) fun v1=>
bM v1 false (fun t2=>
bL .i64 a1 fun v3=>
Nil a0 fun v4=>
aa 0 v4 fun v5=>
aa 3 v5 fun v6=>
Ld H v6 fun v7=>
aG v7 fun v8=>
ae .num .geq v3 v8 fun v9=>
(H=H∧v9=Value.bool t2)) (fun t2=>(Value.bool true)=Value.bool t2) fun t2=>∀r9:Fr,
Br (Value.bool t2) (
R (.returned (iv 0)) H) (
Nil a0 fun v11=>
aa 0 v11 fun bc=>
aa 3 bc fun bj=>
Ld H bj fun bA=>
ah 1 bA a1 fun bD=>
Ld H bD fun bR=>
bL .i64 bR fun bK=>
R (.returned bK) H)
theorem Js(h:L95 g a0 a1 H R):ai Tryz.prog g 95 #[a0,a1] H R:=
 ak (hn:=(.n .e (.n (.n (.h 0 [] [1] .e .e) .e) .e))) Tryz.func95 h (by kernel_rfl)
def L96(g:Gh)(a0 a1:Value)(H:Hp)(R:Rt):Prop:=
bq H (.cells (Value.cells a1) 57 (0,0)) fun b1 H2=>
Nil a0 fun v3=>
aa 3 v3 fun v4=>
Ld H2 v4 fun v5=>
aG v5 fun v6=>
∃(I7:Jt) (m8:Mt),JE I7 [(iv 0)] H2∧∀jy:Value,∀dJ:Hp,I7 [jy] dJ→∀S8:Fr,
ae .num .lss jy v6 fun bc=>
Br bc (
ah 3 v5 jy fun bj=>
az 3 dJ bj fun bA=>
bq dJ (.cells #[(iv 0),(.slice none 0 0),(iv 0)] 241 (0,0)) fun qb eP=>
St 3 eP (pt qb) bA fun fS=>
aa 0 (pt qb) fun ca=>
az 2 fS ca fun bQ=>
az 2 fS (pt b1) fun v20=>
CF g 36 #[bQ,v20] fS (fun cf fF=>
Br cf (
aa 2 (pt qb) fun cv=>
Ld fF cv fun cu=>
R (.returned cu) fF) (
ae .num .add jy (iv 1) fun cF=>
ay I7 m8 [cF] fF [jy] dJ)) (aq R)) (
R (.returned (iv 0)) dJ)
theorem Jr(h:L96 g a0 a1 H R):ai Tryz.prog g 96 #[a0,a1] H R:=
 ak (hn:=(.n .e (.n (.n .e (.n (.h 0 [12] [3,10,11] .e .e) .e)) .e))) Tryz.func96 h (by kernel_rfl)
def L97(g:Gh)(a0 a1:Value)(H:Hp)(R:Rt):Prop:=
bq H (.cells #[(iv 0),(Value.int .u32 0),(Value.int .u32 0)] 161 (0,0)) fun b1 H2=>
ae .ptr .eql a0 (.pointer none) fun v3=>
Br v3 (
Build Tryz.prog 161 [] fun v4=>
St 3 H2 (pt b1) v4 fun H5=>
az 3 H5 (pt b1) fun v6=>
R (.returned (.tuple #[v6,(iv 10)])) H5) (
Nil a0 fun v7=>
aa 0 v7 fun v8=>
CF g 173 #[v8,a1] H2 (fun v9 dJ=>
Un .not v9 fun v11=>
Br v11 (
Build Tryz.prog 161 [] fun bc=>
St 3 dJ (pt b1) bc fun c8=>
az 3 c8 (pt b1) fun bA=>
R (.returned (.tuple #[bA,(iv 3)])) c8) (
Nil a0 fun bD=>
aa 0 bD fun bR=>
CF g 174 #[bR,a1] dJ (fun bK dK=>
St 3 dK (pt b1) bK fun fR=>
az 3 fR (pt b1) fun v20=>
R (.returned (.tuple #[v20,(iv 0)])) fR) (aq R))) (aq R))
theorem Jq(h:L97 g a0 a1 H R):ai Tryz.prog g 97 #[a0,a1] H R:=
 ak (hn:=.e) Tryz.func97 h (by kernel_rfl)
def L98(g:Gh)(a0 a1:Value)(H:Hp)(R:Rt):Prop:=
bq H (.cells #[(iv 0),(.slice none 0 0)] 57 (0,0)) fun b1 H2=>
CF g 81 #[a0] H2 (fun v3 H4=>
cc 50 1 8 (Value.int .u64 0) H4 v3 v3 fun v5 H6=>
Build Tryz.prog 57 [(0,a0),(1,v5)] fun v7=>
bq H6 (.cells #[(iv 0),(.slice none 0 0)] 57 (0,0)) fun b8 H9=>
St 2 H9 (pt b8) v7 fun dJ=>
∃(VC:Jt) (m12:Mt),JE VC [(iv 0)] dJ∧∀mi:Value,∀fe:Hp,VC [mi] fe→∀Rc:Fr,
aG a1 fun bR=>
ae .num .lss mi bR fun bK=>
Br bK (
∀Vw:Jt,(∀jw:Hp,(∀YS:Fr,
ae .num .add mi (iv 1) fun cf=>
ay VC m12 [cf] jw [mi] fe)→Vw [] jw)→
ah 1 a1 mi fun cC=>
Ld fe cC fun cv=>
Br cv (
DR fe fun R24=>
aa 1 (pt b8) fun cF=>
Ld R24 cF fun cG=>
ae .num .quo mi (iv 64) fun cS=>
ah 1 cG cS fun dA=>
Ld R24 dA fun dy=>
ae .num .rem mi (iv 64) fun v30=>
ae .num .shl (Value.int .u64 1) v30 fun eR=>
ae .num .add dy eR fun dR=>
ah 1 cG cS fun ff=>
St 1 fe ff dR fun nN=>
JE Vw [] nN) (
JE Vw [] fe)) (
az 2 fe (pt b8) fun fA=>
St 2 fe (pt b1) fA fun qp=>
az 2 qp (pt b1) fun eF=>
R (.returned eF) qp)) (aq R)
theorem Jp(h:L98 g a0 a1 H R):ai Tryz.prog g 98 #[a0,a1] H R:=
 ak (hn:=(.n .e (.n .e (.n (.n .e (.n (.h 0 [6] [1,4,5] (.n .e (.h 1 [] [1,4,5,6] (.n (.n .e (.n (.h 0 [0,1,2,3,4,5,6,7,8,9,10,11] [] .e .e) .e)) .e) .e)) .e) .e)) .e)))) Tryz.func98 h (by kernel_rfl)
def L100(g:Gh)(a0:Value)(H:Hp)(R:Rt):Prop:=
ae .num .sub a0 (Value.int .u8 3) fun v1=>
bL .i64 v1 fun v2=>
ae .num .add v2 (iv 2) fun v3=>
R (.returned v3) H
theorem FH(h:L100 g a0 H R):ai Tryz.prog g 100 #[a0] H R:=
 ak (hn:=.e) Tryz.func100 h (by kernel_rfl)
def L101(g:Gh)(a0:Value)(H:Hp)(R:Rt):Prop:=
aG a0 fun v1=>
cc 4 1 1 (Value.bool false) H v1 v1 fun v2 H3=>
aG a0 fun v4=>
∃(I5:Jt) (m6:Mt),JE I5 [(iv 0)] H3∧∀w9:Value,∀H8:Hp,I5 [w9] H8→∀S9:Fr,
ae .num .lss w9 v4 fun v10=>
Br v10 (
ah 1 a0 w9 fun v11=>
Ld H8 v11 fun bc=>
ae .num .lss bc (iv 0) fun bj=>
bM bj false (fun t14=>
aG a0 fun bD=>
ae .num .geq bc bD fun bR=>
(H8=H8∧bR=Value.bool t14)) (fun t14=>(Value.bool true)=Value.bool t14) fun t14=>∀YT:Fr,
bM (Value.bool t14) false (fun t18=>
ah 1 v2 bc fun bQ=>
Ld H8 bQ fun v20=>
(H8=H8∧v20=Value.bool t18)) (fun t18=>(Value.bool true)=Value.bool t18) fun t18=>∀YR:Fr,
Br (Value.bool t18) (
R (.returned (iv 4)) H8) (
ah 1 v2 bc fun cC=>
St 1 H8 cC (Value.bool true) fun j3=>
ae .num .add w9 (iv 1) fun cu=>
ay I5 m6 [cu] j3 [w9] H8)) (
aG a0 fun cF=>
ae .num .gtr cF (iv 64) fun cG=>
Br cG (
R (.returned (iv 13)) H8) (
R (.returned (iv 0)) H8))
theorem FG(h:L101 g a0 H R):ai Tryz.prog g 101 #[a0] H R:=
 ak (hn:=(.n .e (.n .e (.n (.n .e (.n (.h 0 [11] [0,3,9,10] (.n .e (.n .e (.n (.n (.n .e (.n (.n (.h 0 [] [1] .e .e) .e) .e)) .e) .e))) .e) .e)) .e)))) Tryz.func101 h (by kernel_rfl)
def L102(g:Gh)(a0 a1:Value)(H:Hp)(R:Rt):Prop:=
CF g 178 #[a0,a1] H (fun v1 H2=>
ae .num .neq v1 (iv 0) fun v3=>
Br v3 (
R (.returned (.tuple #[(.slice none 0 0),v1])) H2) (
CF g 57 #[a0] H2 (fun v4 H5=>
aG a1 fun v6=>
∃(I7:Jt) (m8:Mt),JE I7 [(.slice none 0 0),(iv 0)] H5∧∀jy eW:Value,∀dJ:Hp,I7 [jy,eW] dJ→∀S8:Fr,
ae .num .lss eW v6 fun bj=>
Br bj (
ah 1 a1 eW fun bA=>
Ld dJ bA fun bD=>
CF g 179 #[v4,bD] dJ (fun bR fS=>
∃(FJ:Jt) (Uj:Mt),JE FJ [jy,bR] fS∧∀jK lW:Value,∀dN:Hp,FJ [jK,lW] dN→∀IN:Fr,
ae .num .gtr lW eW fun cu=>
Br cu (
DR dN fun R25=>
ae .num .sub lW (iv 1) fun cG=>
ah 1 v4 lW fun cS=>
Ld R25 cS fun dA=>
ae .num .sub lW (iv 1) fun dy=>
ah 1 v4 dy fun v30=>
Ld R25 v30 fun eR=>
ah 1 v4 cG fun dR=>
St 1 dN dR dA fun iu=>
ah 1 v4 lW fun fc=>
St 1 iu fc eR fun jI=>
ae .num .sub lW (iv 1) fun dQ=>
av Tryz.prog 25 1 [(0,dQ)] jI fun eF mg=>
App Tryz.prog 3 1 8 (iv 0) mg jK eF fun eY q7=>
ae .num .sub lW (iv 1) fun gk=>
ay FJ Uj [eY,gk] q7 [jK,lW] dN) (
ae .num .add eW (iv 1) fun gj=>
ay I7 m8 [jK,gj] dN [jy,eW] dJ)) (aq R)) (
R (.returned (.tuple #[jy,(iv 0)])) dJ)) (aq R))) (aq R)
theorem FE(h:L102 g a0 a1 H R):ai Tryz.prog g 102 #[a0,a1] H R:=
 ak (hn:=(hN 4 (.n (.n .e (.n (.h 0 [8,22] [7,20,21] (.n .e (.n .e (.n (.n (.n .e (.n .e (.n (.h 0 [8,11] [7,9,20,21,22] (.n .e (.n (.n (.n (.h 0 [0,1,2,3,4,5,6,7,8,9,10,11,12,13,14,15,16,17] [] .e .e) .e) .e) .e)) .e) .e))) .e) .e))) .e) .e)) .e))) Tryz.func102 h (by kernel_rfl)
def L103(g:Gh)(a0 a1:Value)(H:Hp)(R:Rt):Prop:=
bq H (.cells #[(iv 0)] 3 (0,0)) fun b1 H2=>
CF g 104 #[a0] H2 (fun v3 H4=>
bq H4 (.cells #[(.pointer none)] 169 (0,0)) fun b5 H6=>
St 1 H6 (pt b5) v3 fun H7=>
aG a1 fun v8=>
∃(I9:Jt) (Uk:Mt),JE I9 [(iv 0)] H7∧∀nY:Value,∀fq:Hp,I9 [nY] fq→∀ND:Fr,
ae .num .lss nY v8 fun bA=>
Br bA (
ah 1 a1 nY fun bD=>
Ld fq bD fun bR=>
Ld fq (pt b5) fun bK=>
CF g 107 #[bK,bR] fq (fun ca fR=>
ae .num .neq ca (iv 0) fun v20=>
Br v20 (
St 1 fR (pt b1) (iv 0) fun dN=>
VP Tryz.prog g 180 #[(pt b5),(pt b1)] dN fun fF=>
Ld fF (pt b1) fun cv=>
R (.returned (.tuple #[cv,ca])) fF) (
ae .num .add nY (iv 1) fun cu=>
ay I9 Uk [cu] fR [nY] fq)) NoP) (
Ld fq (pt b5) fun cF=>
Nil cF fun cG=>
aa 3 cG fun cS=>
St 1 fq cS (Value.bool true) fun nO=>
St 1 nO (pt b1) (iv 0) fun kM=>
VP Tryz.prog g 180 #[(pt b5),(pt b1)] kM fun ju=>
Ld ju (pt b1) fun eR=>
R (.returned (.tuple #[eR,(iv 0)])) ju)) NoP
theorem FD(h:L103 g a0 a1 H R):ai Tryz.prog g 103 #[a0,a1] H R:=
 T4 (hn:=(hN 3 (.n (.n .e (.n (.h 0 [14] [4,6,12,13] .e .e) .e)) .e))) Tryz.func103 h (by kernel_rfl)
def L104(g:Gh)(a0:Value)(H:Hp)(R:Rt):Prop:=
CF g 34 #[a0] H (fun v1 H2=>
Build Tryz.prog 260 [(0,a0),(1,v1)] fun v3=>
bq H2 (.cells (Value.cells v3) 260 (0,0)) fun b4 H5=>
R (.returned (pt b4)) H5) (aq R)
theorem FC(h:L104 g a0 H R):ai Tryz.prog g 104 #[a0] H R:=
 ak (hn:=.e) Tryz.func104 h (by kernel_rfl)
def L105(g:Gh)(a0:Value)(H:Hp)(R:Rt):Prop:=
Nil a0 fun v1=>
aa 3 v1 fun v2=>
Ld H v2 fun v3=>
Un .not v3 fun v4=>
Br v4 (
CF g 108 #[a0] H (fun v5 H6=>
R (.returned (.tuple #[])) H6) (aq R)) (
R (.returned (.tuple #[])) H)
theorem uS(h:L105 g a0 H R):ai Tryz.prog g 105 #[a0] H R:=
 ak (hn:=.e) Tryz.func105 h (by kernel_rfl)
def L107(g:Gh)(a0 a1:Value)(H:Hp)(R:Rt):Prop:=
Nil a0 fun v1=>
aa 0 v1 fun v2=>
Ld H v2 fun v3=>
CF g 17 #[v3,a1] H (fun v4 H5=>
∀J6:Jt,(∀H8:Hp,(∀S9:Fr,
R (.returned v4) H8)→J6 [] H8)→
ae .num .eql v4 (iv 0) fun v9=>
Br v9 (
Nil a0 fun v10=>
aa 2 v10 fun v11=>
Ld H5 v11 fun bc=>
ae .num .add bc (iv 1) fun bj=>
Nil a0 fun bA=>
aa 2 bA fun bD=>
St 1 H5 bD bj fun eP=>
JE J6 [] eP) (
JE J6 [] H5)) (aq R)
theorem uR(h:L107 g a0 a1 H R):ai Tryz.prog g 107 #[a0,a1] H R:=
 ak (hn:=(.n .e (.n .e (.h 1 [] [5] .e .e)))) Tryz.func107 h (by kernel_rfl)
def L108(g:Gh)(a0:Value)(H:Hp)(R:Rt):Prop:=
DR H fun R1=>
Nil a0 fun v2=>
aa 0 v2 fun v3=>
Ld R1 v3 fun v4=>
Nil a0 fun v5=>
aa 1 v5 fun v6=>
Ld R1 v6 fun v7=>
CF g 145 #[v4,v7] H (fun v8 H9=>
aO H9 R1∧
Ext 0 v8 fun v10=>
Ext 1 v8 fun v11=>
Nil a0 fun bc=>
aa 2 bc fun bj=>
Ld H9 bj fun bA=>
ae .num .add bA v10 fun bD=>
Nil a0 fun bR=>
aa 2 bR fun bK=>
St 1 H9 bK bD fun dK=>
R (.returned (.tuple #[])) dK) aU
theorem FB(h:L108 g a0 H R):ai Tryz.prog g 108 #[a0] H R:=
 ak (hn:=(.n (.h 0 [0,1,2,3,4,5,6,7,8,9,10,11,12,13] [] .e .e) .e)) Tryz.func108 h (by kernel_rfl)
def L109(g:Gh)(a0 a1:Value)(H:Hp)(R:Rt):Prop:=
ae .ptr .eql a0 (.pointer none) fun v1=>
Br v1 (
R (.returned (iv 10)) H) (
ae .num .lss a1 (iv 100) fun v2=>
bM v2 false (fun t3=>
ae .num .gtr a1 (iv 1000) fun v4=>
(H=H∧v4=Value.bool t3)) (fun t3=>(Value.bool true)=Value.bool t3) fun t3=>∀Pd:Fr,
Br (Value.bool t3) (
R (.returned (iv 1)) H) (
R (.returned (iv 0)) H))
theorem FA(h:L109 g a0 a1 H R):ai Tryz.prog g 109 #[a0,a1] H R:=
 ak (hn:=(.n .e (.n (.n (.n .e (.n .e (.n (.h 0 [] [1] .e .e) .e))) .e) .e))) Tryz.func109 h (by kernel_rfl)
def L110(g:Gh)(a0 a1:Value)(H:Hp)(R:Rt):Prop:=
bq H (.cells (Value.cells a0) 172 (0,0)) fun b1 H2=>
Br a1 (
DR H2 fun R3=>
Ld R3 (pt b1) fun v4=>
Ld R3 (pt b1) fun v5=>
Nil v5 fun v6=>
aa 0 v6 fun v7=>
Ld R3 v7 fun v8=>
∀F9:Hp,
CF (g.add F9) 61 #[v8] H2 (fun v10 dZ=>
aO dZ R3∧
ae .num .sub v10 (iv 1) fun bc=>
Nil v4 fun bj=>
aa 6 bj fun bA=>
∀F15:Hp,
St 1 dZ bA bc fun eP=>
Ld eP (pt b1) fun bK=>
Nil bK fun ca=>
aa 7 ca fun bQ=>
St 1 eP bQ (.func (.func 181) #[] #[(pt b1)]) fun jw=>
R (.returned (.tuple #[])) jw) aU) (
Ld H2 (pt b1) fun cf=>
Nil cf fun cC=>
aa 6 cC fun cv=>
St 1 H2 cv (iv 0) fun iD=>
Ld iD (pt b1) fun cF=>
Nil cF fun cG=>
aa 7 cG fun cS=>
St 1 iD cS (.func (.func 183) #[] #[(pt b1)]) fun nO=>
R (.returned (.tuple #[])) nO)
theorem Fz(h:L110 g a0 a1 H R):ai Tryz.prog g 110 #[a0,a1] H R:=
 ak (hn:=(.n .e (.n .e (.n (.n (.h 1 [] [] (hr 0 [1] 0 10 .e) .e) .e) .e)))) Tryz.func110 h (by kernel_rfl)
def L111(g:Gh)(a0:Value)(H:Hp)(R:Rt):Prop:=
∃(I1:Jt) (m2:Mt),JE I1 [] H∧∀H4:Hp,I1 [] H4→∀Ta:Fr,
∀J5:Jt,(∀w8:Value,∀H7:Hp,(∀KC:Fr,
Br w8 (
Nil a0 fun v9=>
aa 0 v9 fun v10=>
Ld H7 v10 fun v11=>
CF g 15 #[v11] H7 (fun bc c8=>
∀Ki:Jt,(∀eP:Hp,(∀NC:Fr,
ae .num .mul bc (iv 100) fun bK=>
Nil a0 fun ca=>
aa 2 ca fun bQ=>
Ld eP bQ fun v20=>
Nil a0 fun cf=>
aa 4 cf fun cC=>
Ld eP cC fun cv=>
ae .num .mul v20 cv fun cu=>
ae .num .gtr bK cu fun cF=>
Br cF (
R (.returned (.tuple #[])) eP) (
ay I1 m2 [] eP [] H4))→Ki [] eP)→
Nil a0 fun cG=>
aa 2 cG fun cS=>
Ld c8 cS fun dA=>
ae .num .lss bc dA fun dy=>
Br dy (
Nil a0 fun v30=>
aa 1 v30 fun eR=>
Ld c8 eR fun dR=>
Nil a0 fun ff=>
aa 2 ff fun fc=>
St 1 c8 fc bc fun jI=>
Nil a0 fun dQ=>
aa 3 dQ fun eF=>
St 1 jI eF dR fun mg=>
JE Ki [] mg) (
JE Ki [] c8)) (aq R)) (
R (.returned (.tuple #[])) H7))→J5 [w8] H7)→
DR H4 fun Ph=>
Nil a0 fun fw=>
aa 1 fw fun eY=>
Ld Ph eY fun gB=>
Nil a0 fun gk=>
aa 6 gk fun gj=>
Ld Ph gj fun g9=>
ae .num .neq gB g9 fun iG=>
Br iG (
Nil a0 fun jT=>
aa 7 jT fun jC=>
Ld Ph jC fun iF=>
∀F50:Hp,
fx Tryz.prog (g.add F50) iF #[] H4 (fun jB Po=>
ae .num .eql jB (iv 0) fun l7=>
aA (Value.bool true) l7 (Value.bool false) fun oq=>
JE J5 [oq] Po) aU) (
JE J5 [(Value.bool false)] H4)
theorem Fy(h:L111 g a0 H R):ai Tryz.prog g 111 #[a0] H R:=
 ak (hn:=(.n (.h 0 [] [0] (.n (.h 1 [19] [0] (.h 1 [] [] (hr 0 [1] 0 9 (.h 2 [9] [] (hr 0 [1] 10 7 .e) (hr 0 [1] 10 6 (.h 3 [16] [1] .e .e)))) .e) .e) (.n (.n .e (.h 1 [] [0,2] .e .e)) .e)) .e) .e)) Tryz.func111 h (by kernel_rfl)
def L112(g:Gh)(a0 a1:Value)(H:Hp)(R:Rt):Prop:=
∃(I1:Jt) (m2:Mt),JE I1 [] H∧∀H4:Hp,I1 [] H4→∀Ta:Fr,
Nil a0 fun v5=>
aa 1 v5 fun v6=>
Ld H4 v6 fun v7=>
ae .num .neq v7 a1 fun v8=>
Br v8 (
Nil a0 fun v9=>
aa 0 v9 fun v10=>
Ld H4 v10 fun v11=>
CF g 18 #[v11] H4 (fun bc c8=>
Ext 0 bc fun bA=>
Ext 1 bc fun bD=>
Nil a0 fun bR=>
aa 5 bR fun bK=>
Ld c8 bK fun ca=>
ae .num .add ca (iv 1) fun bQ=>
Nil a0 fun v20=>
aa 5 v20 fun cf=>
St 1 c8 cf bQ fun fF=>
Nil a0 fun cv=>
aa 1 cv fun cu=>
Ld fF cu fun cF=>
ae .num .lss bA cF fun cG=>
Br cG (
Nil a0 fun cS=>
aa 1 cS fun dA=>
St 1 fF dA bA fun kM=>
ay I1 m2 [] kM [] H4) (
ae .num .add bA (iv 1) fun v30=>
Nil a0 fun eR=>
aa 1 eR fun dR=>
St 1 fF dR v30 fun iu=>
ay I1 m2 [] iu [] H4)) (aq R)) (
R (.returned (.tuple #[])) H4)
theorem Fx(h:L112 g a0 a1 H R):ai Tryz.prog g 112 #[a0,a1] H R:=
 ak (hn:=(.n (.h 0 [] [0,1] .e .e) .e)) Tryz.func112 h (by kernel_rfl)
def L113(g:Gh)(a0 a1:Value)(H:Hp)(R:Rt):Prop:=
ae .num .geq a1 (iv 0) fun v1=>
bM v1 true (fun t2=>
Nil a0 fun v3=>
aa 4 v3 fun v4=>
Ld H v4 fun v5=>
ae .num .lss a1 v5 fun v6=>
(H=H∧v6=Value.bool t2)) (fun t2=>(Value.bool false)=Value.bool t2) fun t2=>∀S9:Fr,
R (.returned (Value.bool t2)) H
theorem Fw(h:L113 g a0 a1 H R):ai Tryz.prog g 113 #[a0,a1] H R:=
 ak (hn:=(.n .e (.n (.h 0 [] [1] .e .e) .e))) Tryz.func113 h (by kernel_rfl)
def L114(g:Gh)(a0:Value)(H:Hp)(R:Rt):Prop:=
ae .ptr .eql a0 (.pointer none) fun v1=>
Br v1 (
R (.returned (.slice none 0 0)) H) (
CF g 76 #[] H (fun v2 H3=>
CF g 61 #[a0] H3 (fun v4 H5=>
∃(I6:Jt) (m7:Mt),JE I6 [(iv 0)] H5∧∀eo:Value,∀H9:Hp,I6 [eo] H9→∀CG:Fr,
ae .num .lss eo v4 fun v11=>
Br v11 (
CF g 93 #[a0,eo] H9 (fun bc c8=>
Ext 0 bc fun bA=>
Ext 1 bc fun bD=>
Un .neg bA fun bR=>
CF g 77 #[v2,eo,bR] c8 (fun bK dK=>
ae .num .add eo (iv 1) fun bQ=>
ay I6 m7 [bQ] dK [eo] H9) (aq R)) (aq R)) (
∃(VA:Jt) (m21:Mt),JE VA [(.slice none 0 0)] H9∧∀FZ:Value,∀j3:Hp,VA [FZ] j3→∀Rb:Fr,
CF g 184 #[v2] j3 (fun cF jZ=>
ae .num .gtr cF (iv 0) fun cS=>
Br cS (
CF g 78 #[v2] jZ (fun dA kM=>
Ext 0 dA fun v30=>
Ext 1 dA fun eR=>
Ext 2 dA fun dR=>
av Tryz.prog 25 1 [(0,v30)] kM fun ff nN=>
App Tryz.prog 3 1 8 (iv 0) nN FZ ff fun eF mg=>
ay VA m21 [eF] mg [FZ] j3) (aq R)) (
R (.returned FZ) jZ)) (aq R))) (aq R)) (aq R))
theorem Fv(h:L114 g a0 H R):ai Tryz.prog g 114 #[a0] H R:=
 ak (hn:=(hN 3 (.n (.n .e (.n (.h 0 [16] [0,3,15] .e .e) .e)) (.n .e (.n (.n (.h 0 [7] [3] .e .e) .e) .e))))) Tryz.func114 h (by kernel_rfl)
def L115(g:Gh)(a0 a1 a2:Value)(H:Hp)(R:Rt):Prop:=
ae .ptr .eql a0 (.pointer none) fun v1=>
Br v1 (
R (.returned (iv 10)) H) (
ae .num .gtr a1 (Value.int .u8 6) fun v2=>
bM v2 false (fun t3=>
ae .num .lss a2 (iv 100) fun v4=>
(H=H∧v4=Value.bool t3)) (fun t3=>(Value.bool true)=Value.bool t3) fun t3=>∀Pd:Fr,
bM (Value.bool t3) false (fun t6=>
ae .num .gtr a2 (iv 1000) fun v7=>
(H=H∧v7=Value.bool t6)) (fun t6=>(Value.bool true)=Value.bool t6) fun t6=>∀CG:Fr,
Br (Value.bool t6) (
R (.returned (iv 1)) H) (
∀J9:Jt,(∀eW:Value,∀dZ:Hp,(∀r9:Fr,
Br eW (
R (.returned (iv 6)) dZ) (
R (.returned (iv 0)) dZ))→J9 [eW] dZ)→
ae .num .eql a1 (Value.int .u8 6) fun bj=>
Split bj true (
CF g 61 #[a0] H (fun bA cY=>
ae .num .gtr bA (iv 12) fun bR=>
aA (Value.bool true) bR (Value.bool false) fun bK=>
JE J9 [bK] cY) (aq R)) (
aA (Value.bool false) undef (Value.bool false) fun ca=>
JE J9 [ca] H)))
theorem uQ(h:L115 g a0 a1 a2 H R):ai Tryz.prog g 115 #[a0,a1,a2] H R:=
 ak (hn:=(.n .e (.n (.n (.n .e (.n .e (.n (.h 0 [] [1] .e .e) (.n .e (.h 1 [21] [] .e .e))))) .e) .e))) Tryz.func115 h (by kernel_rfl)
def L116(g:Gh)(a0:Value)(H:Hp)(R:Rt):Prop:=
ae .num .lss a0 (iv 0) fun v1=>
bM v1 false (fun t2=>
ae .num .gtr a0 (iv 64) fun v3=>
(H=H∧v3=Value.bool t2)) (fun t2=>(Value.bool true)=Value.bool t2) fun t2=>∀Ab:Fr,
Br (Value.bool t2) (
R (.returned (.tuple #[(.slice none 0 0),(iv 1)])) H) (
CF g 185 #[a0] H (fun v5 H6=>
R (.returned (.tuple #[v5,(iv 0)])) H6) (aq R))
theorem Fu(h:L116 g a0 H R):ai Tryz.prog g 116 #[a0] H R:=
 ak (hn:=(.n .e (.n (.n (.h 0 [] [1] .e .e) .e) .e))) Tryz.func116 h (by kernel_rfl)
def L117(g:Gh)(a0:Value)(H:Hp)(R:Rt):Prop:=
ae .num .lss a0 (iv 1) fun v1=>
bM v1 false (fun t2=>
ae .num .gtr a0 (iv 64) fun v3=>
(H=H∧v3=Value.bool t2)) (fun t2=>(Value.bool true)=Value.bool t2) fun t2=>∀Ab:Fr,
Br (Value.bool t2) (
R (.returned (.tuple #[(.pointer none),(iv 1)])) H) (
cc 266 1 8 (.map none) H a0 a0 fun v5 H6=>
Build Tryz.prog 265 [(0,v5)] fun v7=>
bq H6 (.cells (Value.cells v7) 265 (0,0)) fun b8 H9=>
∃(xd:Jt) (O2:Mt),JE xd [(iv 0)] H9∧∀kP:Value,∀c8:Hp,xd [kP] c8→∀IP:Fr,
ae .num .lss kP a0 fun bD=>
Br bD (
Nil (pt b8) fun bR=>
aa 0 bR fun bK=>
Ld c8 bK fun ca=>
qg c8 fun bQ jw=>
ah 1 ca kP fun cf=>
St 1 jw cf bQ fun fF=>
ae .num .add kP (iv 1) fun cv=>
ay xd O2 [cv] fF [kP] c8) (
R (.returned (.tuple #[(pt b8),(iv 0)])) c8))
theorem Ft(h:L117 g a0 H R):ai Tryz.prog g 117 #[a0] H R:=
 ak (hn:=(.n .e (.n (.n (.h 0 [] [1] .e .e) .e) (.n .e (.n (.n .e (.n (.h 0 [17] [4,16] .e .e) .e)) .e))))) Tryz.func117 h (by kernel_rfl)
def L118(g:Gh)(a0 a1:Value)(H:Hp)(R:Rt):Prop:=
bq H (.cells #[(.pointer none),(.pointer none),(.slice none 0 0),(.slice none 0 0)] 115 (0,0)) fun b1 H2=>
CF g 186 #[a0] H2 (fun v3 H4=>
Ext 0 v3 fun v5=>
Ext 1 v3 fun v6=>
Build Tryz.prog 115 [(0,v5),(1,a1)] fun v7=>
St 4 H4 (pt b1) v7 fun H8=>
az 4 H8 (pt b1) fun v9=>
R (.returned (.tuple #[v9,v6])) H8) (aq R)
theorem Fq(h:L118 g a0 a1 H R):ai Tryz.prog g 118 #[a0,a1] H R:=
 ak (hn:=.e) Tryz.func118 h (by kernel_rfl)
def L119(g:Gh)(a0 a1:Value)(H:Hp)(R:Rt):Prop:=
aG a0 fun v1=>
ae .num .neq v1 a1 fun v2=>
Br v2 (
R (.returned (Value.bool false)) H) (
∃(I3:Jt) (m4:Mt),JE I3 [(iv 0)] H∧∀w7:Value,∀H6:Hp,I3 [w7] H6→∀Pd:Fr,
ae .num .lss w7 a1 fun v8=>
Br v8 (
aG a0 fun v9=>
∃(xd:Jt) (O2:Mt),JE xd [(iv 0),(iv 0)] H6∧∀kP mi:Value,∀c8:Hp,xd [kP,mi] c8→∀IP:Fr,
ae .num .lss mi v9 fun bR=>
Br bR (
∀uT:Jt,(∀pn:Value,∀fR:Hp,(∀NA:Fr,
ae .num .add mi (iv 1) fun cf=>
ay xd O2 [pn,cf] fR [kP,mi] c8)→uT [pn] fR)→
ah 1 a0 mi fun cC=>
Ld c8 cC fun cv=>
ae .num .eql cv w7 fun cu=>
Br cu (
ae .num .add kP (iv 1) fun cF=>
JE uT [cF] c8) (
JE uT [kP] c8)) (
ae .num .neq kP (iv 1) fun cG=>
Br cG (
R (.returned (Value.bool false)) c8) (
ae .num .add w7 (iv 1) fun cS=>
ay I3 m4 [cS] c8 [w7] H6))) (
R (.returned (Value.bool true)) H6))
theorem Fp(h:L119 g a0 a1 H R):ai Tryz.prog g 119 #[a0,a1] H R:=
 ak (hn:=(.n .e (.n .e (.n (.n .e (.n (.h 0 [5] [0,1] (.n .e (.n (.n (.n .e (.n (.n .e (.n (.h 0 [6,20] [0,1,5,18,19] (.n .e (.n .e (.h 1 [6] [0,1,5,18,19,20] .e .e))) .e) .e)) .e)) .e) .e)) .e) .e)) .e)))) Tryz.func119 h (by kernel_rfl)
variable {g:Gh} {a0 a1 a2 a3 a4 a5 a6 a7 a8 a9 si sg Zd Zc Zb Za:Value} {H:Hp} {R:Rt}
def L120(g:Gh)(a0 a1:Value)(H:Hp)(R:Rt):Prop:=
CF g 187 #[a0,a1] H (fun v1 H2=>
ae .num .neq v1 (iv 0) fun v3=>
Br v3 (
R (.returned (.tuple #[(.slice none 0 0),v1])) H2) (
∃(I4:Jt) (m5:Mt),JE I4 [a0,(.slice none 0 0),(iv 0)] H2∧∀w8 w9 eo:Value,∀H7:Hp,I4 [w8,w9,eo] H7→∀KC:Fr,
aG a1 fun v11=>
ae .num .lss eo v11 fun bc=>
Br bc (
ah 1 a1 eo fun bj=>
Ld H7 bj fun bA=>
CF g 188 #[w8,bA] H7 (fun bD eP=>
∃(I17:Jt) (m18:Mt),JE I17 [w8,w9,bD] eP∧∀AV jK lW:Value,∀jw:Hp,I17 [AV,jK,lW] jw→∀YS:Fr,
ae .num .gtr lW eo fun cu=>
Br cu (
ae .num .sub lW (iv 1) fun cF=>
CF g 189 #[AV,cF] jw (fun cG iV=>
ae .num .sub lW (iv 1) fun dA=>
av Tryz.prog 25 1 [(0,dA)] iV fun dy ju=>
App Tryz.prog 3 1 8 (iv 0) ju jK dy fun ff nN=>
ae .num .sub lW (iv 1) fun fA=>
ay I17 m18 [cG,ff,fA] nN [AV,jK,lW] jw) (aq R)) (
ae .num .add eo (iv 1) fun dQ=>
ay I4 m5 [AV,jK,dQ] jw [w8,w9,eo] H7)) (aq R)) (
R (.returned (.tuple #[w9,(iv 0)])) H7))) (aq R)
theorem Fo(h:L120 g a0 a1 H R):ai Tryz.prog g 120 #[a0,a1] H R:=
 ak (hn:=(hN 4 (.n (.n .e (.n (.h 0 [0,7,8] [1] (.n .e (.n (.n (.n .e (.n (.h 0 [0,7,9] [1,8] .e .e) .e)) .e) .e)) .e) .e)) .e))) Tryz.func120 h (by kernel_rfl)
def L121(g:Gh)(a0 a1:Value)(H:Hp)(R:Rt):Prop:=
ae .ptr .eql a0 (.pointer none) fun v1=>
Br v1 (
R (.returned (iv 10)) H) (
Nil a0 fun v2=>
aa 0 v2 fun v3=>
CF g 173 #[v3,a1] H (fun v4 H5=>
Un .not v4 fun v6=>
Br v6 (
R (.returned (iv 3)) H5) (
∀J7:Jt,(∀H9:Hp,(∀CG:Fr,
Nil a0 fun v10=>
aa 7 v10 fun v11=>
St 1 H9 v11 (.slice none 0 0) fun fq=>
R (.returned (iv 0)) fq)→J7 [] H9)→
ae .num .gtr a1 (Value.int .u32 1) fun bj=>
Br bj (
Nil a0 fun bA=>
aa 0 bA fun bD=>
aa 3 bD fun bR=>
Ld H5 bR fun bK=>
ah 1 bK a1 fun ca=>
Ld H5 ca fun bQ=>
ae .num .eql bQ (Value.int .i32 65535) fun v20=>
Br v20 (
R (.returned (iv 8)) H5) (
Nil a0 fun cf=>
aa 0 cf fun cC=>
aa 3 cC fun cv=>
Ld H5 cv fun cu=>
ah 1 cu a1 fun cF=>
Ld H5 cF fun cG=>
ae .num .add cG (Value.int .i32 1) fun cS=>
ah 1 cu a1 fun dA=>
St 1 H5 dA cS fun kM=>
Nil a0 fun v30=>
aa 0 v30 fun eR=>
aa 3 eR fun dR=>
Ld kM dR fun ff=>
ah 1 ff a1 fun fc=>
Ld kM fc fun fA=>
ae .num .eql fA (Value.int .i32 1) fun dQ=>
Br dQ (
Nil a0 fun eF=>
aa 0 eF fun fy=>
aa 2 fy fun gx=>
Ld kM gx fun fw=>
ah 1 fw a1 fun eY=>
Ld kM eY fun gB=>
ae .num .add gB (Value.int .i32 1) fun gk=>
ah 1 fw a1 fun gj=>
St 1 kM gj gk fun o9=>
JE J7 [] o9) (
JE J7 [] kM))) (
JE J7 [] H5))) (aq R))
theorem uP(h:L121 g a0 a1 H R):ai Tryz.prog g 121 #[a0,a1] H R:=
 ak (hn:=(.n .e (.n .e (.h 1 [] [0] .e .e)))) Tryz.func121 h (by kernel_rfl)
def L122(g:Gh)(a0 a1:Value)(H:Hp)(R:Rt):Prop:=
CF g 88 #[a0] H (fun v1 H2=>
App Tryz.prog 57 2 32 (.agg #[(iv 0),(.slice none 0 0)]) H2 (.slice none 0 0) v1 fun v5 H6=>
App Tryz.prog 57 2 32 (.agg #[(iv 0),(.slice none 0 0)]) H6 v5 a1 fun v9 dJ=>
DR dJ fun Zo=>
Nil a0 fun bc=>
aa 1 bc fun bj=>
Ld Zo bj fun bA=>
CF g 167 #[a0,v9] dJ (fun bD eP=>
aO eP Zo∧
ae .num .add (iv 2) bD fun bK=>
ae .num .leq bK bA fun ca=>
R (.returned ca) eP) aU) (aq R)
theorem Fm(h:L122 g a0 a1 H R):ai Tryz.prog g 122 #[a0,a1] H R:=
 ak (hn:=(hN 4 (.n (.h 0 [0,1,4,5,6,7,2,3,8,9] [] .e .e) .e))) Tryz.func122 h (by kernel_rfl)
def L123(g:Gh)(a0 a1 a2 a3:Value)(H:Hp)(R:Rt):Prop:=
bq H (.cells (Value.cells a2) 57 (0,0)) fun b1 H2=>
az 2 H2 (pt b1) fun v3=>
CF g 190 #[v3] H2 (fun v4 H5=>
Br v4 (
az 2 H5 (pt b1) fun v6=>
CF g 162 #[v6,(iv 0)] H5 (fun v7 H8=>
Br v7 (
R (.returned (.tuple #[(Value.int .u32 1),(iv 0)])) H8) (
R (.returned (.tuple #[(Value.int .u32 0),(iv 0)])) H8)) (aq R)) (
∃(I9:Jt) (Uk:Mt),JE I9 [a3] H5∧∀nY:Value,∀fq:Hp,I9 [nY] fq→∀ND:Fr,
DR fq fun R14=>
az 2 R14 (pt b1) fun bD=>
ah 1 a1 nY fun bR=>
Ld R14 bR fun bK=>
CF g 161 #[bD,bK] fq (fun ca fR=>
Un .not ca fun v20=>
Br v20 (
ae .num .add nY (iv 1) fun cf=>
ay I9 Uk [cf] fR [nY] fq) (
DR fR fun Pj=>
az 2 Pj (pt b1) fun cv=>
ah 1 a1 nY fun cu=>
Ld Pj cu fun cF=>
ae .num .add nY (iv 1) fun cG=>
CF g 163 #[cv,cF,(Value.bool false)] fR (fun cS nO=>
aO nO Pj∧
CF g 123 #[a0,a1,cS,cG] nO (fun dy ju=>
aO ju Pj∧
Ext 0 dy fun eR=>
Ext 1 dy fun dR=>
ae .num .neq dR (iv 0) fun ff=>
Br ff (
R (.returned (.tuple #[(Value.int .u32 0),dR])) ju) (
DR ju fun yO=>
az 2 yO (pt b1) fun fA=>
ah 1 a1 nY fun dQ=>
Ld yO dQ fun eF=>
ae .num .add nY (iv 1) fun fy=>
CF g 163 #[fA,eF,(Value.bool true)] ju (fun gx qo=>
aO qo yO∧
CF g 123 #[a0,a1,gx,fy] qo (fun eY q7=>
aO q7 yO∧
Ext 0 eY fun gk=>
Ext 1 eY fun gj=>
ae .num .neq gj (iv 0) fun g9=>
Br g9 (
CF g 131 #[a0,eR] q7 (fun iG AN=>
R (.returned (.tuple #[(Value.int .u32 0),gj])) AN) (aq R)) (
ah 1 a1 nY fun jC=>
Ld q7 jC fun iF=>
CF g 164 #[a0,iF,eR,gk] q7 (fun ja G7=>
Ext 0 ja fun iW=>
Ext 1 ja fun l7=>
CF g 131 #[a0,eR] G7 (fun oq AM=>
CF g 131 #[a0,gk] AM (fun po G6=>
R (.returned (.tuple #[iW,l7])) G6) (aq R)) (aq R)) (aq R))) aU) aU)) aU) aU)) aU)) (aq R)
theorem uO(h:L123 g a0 a1 a2 a3 H R):ai Tryz.prog g 123 #[a0,a1,a2,a3] H R:=
 ak (hn:=(.n .e (.n .e (.n (.n (.h 0 [3] [0,1,6] (.n (.n (.h 0 [0,1,2,3,4,5,6] [] .e .e) .e) .e) .e) .e) (.n (.h 0 [0,1,2,3,4,5,6,8,9,7,10,11,12,13,14,15] [] .e .e) (.n .e (.n (.h 0 [0,1,2,3,4,5,6,8,9,7,10,11,12,13,14,15] [] .e .e) .e))))))) Tryz.func123 h (by kernel_rfl)
def L124(g:Gh)(a0 a1:Value)(H:Hp)(R:Rt):Prop:=
bq H (.cells (Value.cells a1) 57 (0,0)) fun b1 H2=>
az 2 H2 (pt b1) fun v3=>
CF g 190 #[v3] H2 (fun v4 H5=>
Br v4 (
R (.returned (iv 0)) H5) (
∃(I6:Jt) (m7:Mt),JE I6 [(iv 0)] H5∧∀eo:Value,∀H9:Hp,I6 [eo] H9→∀CG:Fr,
Nil a0 fun v11=>
aa 3 v11 fun bc=>
Ld H9 bc fun bj=>
aG bj fun bA=>
ae .num .lss eo bA fun bD=>
Br bD (
DR H9 fun R16=>
Nil a0 fun bK=>
aa 3 bK fun ca=>
Ld R16 ca fun bQ=>
ah 3 bQ eo fun v20=>
aa 0 v20 fun cf=>
az 2 R16 cf fun cC=>
az 2 R16 (pt b1) fun cv=>
CF g 36 #[cC,cv] H9 (fun cu ef=>
aO ef R16∧
Br cu (
Nil a0 fun cG=>
aa 3 cG fun cS=>
Ld ef cS fun dA=>
ah 3 dA eo fun dy=>
aa 2 dy fun v30=>
Ld ef v30 fun eR=>
ae .num .geq eR (iv 65535) fun dR=>
Br dR (
R (.returned (iv 8)) ef) (
Nil a0 fun ff=>
aa 3 ff fun fc=>
Ld ef fc fun fA=>
ah 3 fA eo fun dQ=>
aa 2 dQ fun eF=>
Ld ef eF fun fy=>
ae .num .add fy (iv 1) fun gx=>
ah 3 fA eo fun fw=>
aa 2 fw fun eY=>
St 1 ef eY gx fun q7=>
R (.returned (iv 0)) q7)) (
ae .num .add eo (iv 1) fun gk=>
ay I6 m7 [gk] ef [eo] H9)) aU) (
DR H9 fun R44=>
Nil a0 fun g9=>
aa 3 g9 fun iG=>
Ld R44 iG fun jT=>
az 2 R44 (pt b1) fun jC=>
Build Tryz.prog 241 [(0,jC),(1,(iv 1))] fun iF=>
av Tryz.prog 72 1 [(0,iF)] H9 fun ja G7=>
aO G7 R44∧
App Tryz.prog 241 3 40 (.agg #[(iv 0),(.slice none 0 0),(iv 0)]) G7 jT ja fun oq AM=>
aO AM R44∧
Nil a0 fun po=>
aa 3 po fun qs=>
St 1 AM qs oq fun VI=>
R (.returned (iv 0)) VI))) (aq R)
theorem uN(h:L124 g a0 a1 H R):ai Tryz.prog g 124 #[a0,a1] H R:=
 ak (hn:=(.n .e (.n .e (.n (.n .e (.n (.h 0 [5] [0,3] (.n .e (.n (.n (.n (.h 0 [0,1,2,3,4,5,6,7,8,9] [] .e .e) .e) .e) .e)) .e) .e)) (.n (.h 0 [0,1,2,3,4,5,6,7,8,9,10,11] [] .e .e) .e))))) Tryz.func124 h (by kernel_rfl)
def L125(g:Gh)(a0:Value)(H:Hp)(R:Rt):Prop:=
bq H (.cells (Value.cells a0) 98 (0,0)) fun b1 H2=>
∀J3:Jt,(∀w6:Value,∀H5:Hp,(∀Ab:Fr,
Br w6 (
R (.returned (Value.bool false)) H5) (
aa 2 (pt b1) fun v7=>
Ld H5 v7 fun v8=>
aG v8 fun v9=>
∃(xd:Jt) (O2:Mt),JE xd [(iv 0)] H5∧∀kP:Value,∀c8:Hp,xd [kP] c8→∀IP:Fr,
ae .num .lss kP v9 fun bD=>
Br bD (
ah 1 v8 kP fun bR=>
Ld c8 bR fun bK=>
DR c8 fun wS=>
aa 0 (pt b1) fun bQ=>
Ld wS bQ fun v20=>
aa 1 (pt b1) fun cf=>
Ld wS cf fun cC=>
Nil cC fun cv=>
aa 0 cv fun cu=>
Ld wS cu fun cF=>
∀F26:Hp,
CF (g.add F26) 192 #[v20,bK,cF,(iv 0)] c8 (fun cS nO=>
aO nO wS∧
Ext 0 cS fun dy=>
Ext 1 cS fun v30=>
bq nO (.cells #[(iv 0),(.slice none 0 0)] 57 (0,0)) fun Jl nm=>
∀F33:Hp,
St 2 nm (pt Jl) dy fun nN=>
aO nN wS∧
∀G5:Jt,(∀WH:Value,∀rX:Hp,(∀YO:Fr,
Br WH (
R (.returned (Value.bool false)) rX) (
ae .num .add kP (iv 1) fun gx=>
ay xd O2 [gx] rX [kP] c8))→G5 [WH] rX)→
DR nN fun RK=>
Un .not v30 fun eY=>
Br eY (
JE G5 [(Value.bool true)] nN) (
az 2 RK (pt Jl) fun gB=>
aa 3 (pt b1) fun gk=>
Ld RK gk fun gj=>
ah 2 gj kP fun g9=>
az 2 RK g9 fun iG=>
∀F47:Hp,
CF (g.add F47) 36 #[gB,iG] nN (fun jC yB=>
aO yB RK∧
Un .not jC fun ja=>
aA (Value.bool false) (Value.bool true) ja fun jB=>
Br jB (
JE G5 [(Value.bool true)] yB) (
aa 0 (pt b1) fun iW=>
Ld RK iW fun l7=>
aa 1 (pt b1) fun oq=>
Ld RK oq fun kT=>
az 2 RK (pt Jl) fun po=>
∀F57:Hp,
CF (g.add F57) 95 #[l7,bK] yB (fun rp A8=>
aO A8 RK∧
∀F60:Hp,
CF (g.add F60) 96 #[kT,po] A8 (fun xj FK=>
aO FK RK∧
ae .num .neq rp xj fun oo=>
aA (Value.bool false) (Value.bool true) oo fun yW=>
JE G5 [yW] FK) aU) aU)) aU)) aU) (
R (.returned (Value.bool true)) c8)))→J3 [w6] H5)→
DR H2 fun wR=>
aa 0 (pt b1) fun rY=>
Ld wR rY fun vM=>
aa 1 (pt b1) fun vL=>
Ld wR vL fun xh=>
Nil xh fun sj=>
aa 2 sj fun AW=>
Ld wR AW fun xg=>
∀F73:Hp,
CF (g.add F73) 13 #[vM] H2 (fun Hx H75=>
aO H75 wR∧
∀F76:Hp,
CF (g.add F76) 191 #[Hx,xg] H75 (fun yH OL=>
aO OL wR∧
Un .not yH fun yV=>
Br yV (
JE J3 [(Value.bool true)] OL) (
aa 0 (pt b1) fun F0=>
Ld wR F0 fun OY=>
aa 1 (pt b1) fun yG=>
Ld wR yG fun Tv=>
Nil Tv fun Ku=>
aa 4 Ku fun Hw=>
Ld wR Hw fun KU=>
aG KU fun Pv=>
∀F88:Hp,
CF (g.add F88) 34 #[OY] OL (fun Tu H90=>
aO H90 wR∧
ae .num .neq Tu Pv fun Hv=>
aA (Value.bool false) (Value.bool true) Hv fun Bk=>
Br Bk (
JE J3 [(Value.bool true)] H90) (
aa 0 (pt b1) fun Hu=>
Ld wR Hu fun Bj=>
aa 1 (pt b1) fun Pu=>
Ld wR Pu fun OX=>
∀F97:Hp,
CF (g.add F97) 15 #[Bj] H90 (fun Ks Wz=>
aO Wz wR∧
∀ZN:Hp,
CF (g.add ZN) 87 #[OX] Wz (fun xm lK=>
aO lK wR∧
ae .num .neq Ks xm fun Bu=>
aA (Value.bool false) (Value.bool true) Bu fun yY=>
Br yY (
JE J3 [(Value.bool true)] lK) (
aa 0 (pt b1) fun Lj=>
Ld wR Lj fun Li=>
aa 1 (pt b1) fun xl=>
Ld wR xl fun T0=>
Nil T0 fun xk=>
aa 3 xk fun Lh=>
Ld wR Lh fun Lg=>
aG Lg fun Lf=>
∀ZM:Hp,
CF (g.add ZM) 70 #[Li] lK (fun Bs ZJ=>
aO ZJ wR∧
aG Bs fun Hy=>
ae .num .neq Hy Lf fun Le=>
aA (Value.bool false) (Value.bool true) Le fun TZ=>
JE J3 [TZ] ZJ) aU)) aU) aU)) aU)) aU) aU
theorem Fl(h:L125 g a0 H R):ai Tryz.prog g 125 #[a0] H R:=
 ak (hn:=(.n .e (.n (.h 1 [50] [1] (.h 1 [] [] (hr 0 [] 0 2 (hr 0 [] 3 5 (.h 0 [2] [] (hr 0 [] 8 2 (.h 2 [10] [] (hr 0 [] 11 10 (hr 3 [] 21 2 (hr 0 [] 23 7 (hr 3 [] 30 2 (hr 0 [] 32 11 (.h 3 [43] [] .e .e)))))) (hr 0 [] 11 2 (hr 0 [] 14 6 (.h 0 [13] [] (hr 0 [] 20 2 (.h 2 [22] [] (hr 0 [] 23 7 (hr 3 [] 30 2 (hr 0 [] 32 11 (.h 3 [43] [] .e .e)))) (hr 0 [] 23 2 (hr 0 [] 26 2 (.h 0 [25] [] (hr 0 [] 28 3 (.h 2 [31] [] (hr 0 [] 32 11 (.h 3 [43] [] .e .e)) (hr 0 [] 32 2 (hr 0 [] 36 6 (hr 0 [] 34 2 (hr 0 [] 42 2 .e)))))) .e))))) .e))))) .e))) .e) .e) (.n (.n .e (.n (.h 0 [54] [1,52,53] (.n .e (.n .e (.n (.n (.n .e (.n (.h 1 [] [] (hr 0 [] 0 8 (.h 1 [12] [] (hr 0 [] 8 7 .e) .e)) .e) (.h 1 [93] [1,52,53,54] (.h 1 [] [] (hr 0 [] 0 2 (.h 2 [2] [] (hr 0 [] 3 8 (hr 3 [] 11 2 (hr 0 [] 13 9 (.h 3 [22] [] .e .e)))) (hr 0 [] 3 9 (.h 2 [12] [] (hr 0 [] 13 9 (.h 3 [22] [] .e .e)) (hr 0 [] 13 3 (hr 0 [] 17 3 (.h 0 [16] [] (hr 0 [] 20 3 .e) .e))))))) .e) .e))) .e) .e))) .e) .e)) .e)))) Tryz.func125 h (by kernel_rfl)
def L131(g:Gh)(a0 a1:Value)(H:Hp)(R:Rt):Prop:=
ae .ptr .eql a0 (.pointer none) fun v1=>
Br v1 (
R (.returned (iv 10)) H) (
∀J2:Jt,(∀H4:Hp,(∀Ta:Fr,
Nil a0 fun v5=>
aa 7 v5 fun v6=>
St 1 H4 v6 (.slice none 0 0) fun H7=>
R (.returned (iv 0)) H7)→J2 [] H4)→
ae .num .gtr a1 (Value.int .u32 1) fun v8=>
Br v8 (
CF g 95 #[a0,a1] H (fun v9 dJ=>
ae .num .eql v9 (iv 0) fun v11=>
Br v11 (
R (.returned (iv 3)) dJ) (
Nil a0 fun bc=>
aa 0 bc fun bj=>
aa 3 bj fun bA=>
Ld dJ bA fun bD=>
ah 1 bD a1 fun bR=>
Ld dJ bR fun bK=>
ae .num .sub bK (Value.int .i32 1) fun ca=>
ah 1 bD a1 fun bQ=>
St 1 dJ bQ ca fun jw=>
Nil a0 fun cf=>
aa 0 cf fun cC=>
aa 3 cC fun cv=>
Ld jw cv fun cu=>
ah 1 cu a1 fun cF=>
Ld jw cF fun cG=>
ae .num .eql cG (Value.int .i32 0) fun cS=>
Br cS (
Nil a0 fun dA=>
aa 0 dA fun dy=>
CF g 142 #[dy,a1] jw (fun v30 j6=>
JE J2 [] j6) (aq R)) (
JE J2 [] jw))) (aq R)) (
JE J2 [] H))
theorem uM(h:L131 g a0 a1 H R):ai Tryz.prog g 131 #[a0,a1] H R:=
 ak (hn:=(.n .e (.n .e (.h 1 [] [0] .e .e)))) Tryz.func131 h (by kernel_rfl)
def L134(g:Gh)(a0 a1 a2:Value)(H:Hp)(R:Rt):Prop:=
Nil a0 fun v1=>
aa 0 v1 fun v2=>
aa 1 v2 fun v3=>
Ld H v3 fun v4=>
CF g 203 #[v4,a1] H (fun v5 H6=>
Ext 0 v5 fun v7=>
Ext 1 v5 fun v8=>
aG v7 fun v9=>
∃(xd:Jt) (O2:Mt),JE xd [(.slice none 0 0),(iv 0)] H6∧∀kP mi:Value,∀c8:Hp,xd [kP,mi] c8→∀IP:Fr,
ae .num .lss mi v9 fun bR=>
Br bR (
∀uT:Jt,(∀pn:Value,∀fR:Hp,(∀NA:Fr,
ae .num .add mi (iv 1) fun cf=>
ay xd O2 [pn,cf] fR [kP,mi] c8)→uT [pn] fR)→
ah 1 v7 mi fun cC=>
Ld c8 cC fun cv=>
Nil a0 fun cu=>
aa 0 cu fun cF=>
CF g 174 #[cF,cv] c8 (fun cG iV=>
bq iV (.cells #[(iv 0),(Value.int .u32 0),(Value.int .u32 0)] 161 (0,0)) fun A4 kM=>
St 3 kM (pt A4) cG fun ju=>
∀OF:Jt,(∀yE:Value,∀iu:Hp,(∀Vd:Fr,
Br yE (
JE uT [kP] iu) (
az 3 iu (pt A4) fun fA=>
Build Tryz.prog 203 [(0,cv),(1,fA)] fun dQ=>
bq iu (.cells #[(Value.int .u32 0),(iv 0),(Value.int .u32 0),(Value.int .u32 0),(Value.int .u32 0),(Value.int .u32 0),(Value.int .u32 0),(Value.int .u32 0)] 203 (0,0)) fun On mg=>
St 8 mg (pt On) dQ fun Ba=>
aa 1 (pt A4) fun fw=>
Ld Ba fw fun eY=>
CF g 204 #[a0,eY,a2] Ba (fun gB AO=>
Ext 0 gB fun gj=>
Ext 1 gB fun g9=>
aa 4 (pt On) fun iG=>
St 1 AO iG gj fun AN=>
aa 5 (pt On) fun jC=>
St 1 AN jC g9 fun yB=>
aa 2 (pt A4) fun ja=>
Ld yB ja fun jB=>
CF g 204 #[a0,jB,a2] yB (fun iW yz=>
Ext 0 iW fun oq=>
Ext 1 iW fun kT=>
aa 6 (pt On) fun po=>
St 1 yz po oq fun G6=>
aa 7 (pt On) fun rp=>
St 1 G6 rp kT fun A8=>
az 8 A8 (pt On) fun qj=>
av Tryz.prog 199 1 [(0,qj)] A8 fun xj FK=>
App Tryz.prog 203 8 40 (.agg #[(Value.int .u32 0),(iv 0),(Value.int .u32 0),(Value.int .u32 0),(Value.int .u32 0),(Value.int .u32 0),(Value.int .u32 0),(Value.int .u32 0)]) FK kP xj fun sO A7=>
JE uT [sO] A7) (aq R)) (aq R)))→OF [yE] iu)→
DR ju fun R67=>
Nil a0 fun vL=>
aa 0 vL fun xh=>
aa 1 (pt A4) fun sj=>
Ld R67 sj fun AW=>
∀F72:Hp,
CF (g.add F72) 174 #[xh,AW] ju (fun yI Ti=>
aO Ti R67∧
Bb 0 yI fun vK=>
ae .num .neq vK a2 fun OZ=>
Br OZ (
Nil a0 fun yH=>
aa 0 yH fun KV=>
aa 2 (pt A4) fun yV=>
Ld R67 yV fun F0=>
∀F81:Hp,
CF (g.add F81) 174 #[KV,F0] Ti (fun yG Th=>
aO Th R67∧
Bb 0 yG fun Ku=>
ae .num .neq Ku a2 fun Hw=>
aA (Value.bool true) Hw (Value.bool false) fun KU=>
JE OF [KU] Th) aU) (
JE OF [(Value.bool false)] Ti)) aU) (aq R)) (
R (.returned kP) c8)) (aq R)
theorem Fk(h:L134 g a0 a1 a2 H R):ai Tryz.prog g 134 #[a0,a1,a2] H R:=
 ak (hn:=(hN 3 (.n (.n .e (.n (.h 0 [7,26] [0,2,24,25] (.n .e (.n .e (.h 1 [7] [0,2,24,25,26] (.n (.n .e (.n .e (.n (.h 1 [54] [0,2,7,11,12,24,25,26] (.h 1 [] [] (hr 0 [] 0 5 (.h 0 [7] [] (hr 0 [] 5 2 (.h 0 [8] [] (.h 2 [9] [] (hr 0 [] 10 5 (.h 0 [17] [] (hr 0 [] 15 2 (hr 0 [] 18 2 .e)) .e)) (hr 0 [] 10 9 (.h 3 [19] [] .e .e))) .e)) .e)) .e) .e) .e))) .e) .e))) .e) .e)) .e))) Tryz.func134 h (by kernel_rfl)
def L135(g:Gh)(a0 a1:Value)(H:Hp)(R:Rt):Prop:=
DR H fun R1=>
Nil a0 fun v2=>
aa 0 v2 fun v3=>
Ld R1 v3 fun v4=>
Nil a0 fun v5=>
aa 0 v5 fun v6=>
Ld R1 v6 fun v7=>
CF g 58 #[v4] H (fun v8 H9=>
aO H9 R1∧
ae .num .add v8 a1 fun v10=>
CF g 146 #[v7] H9 (fun v11 fq=>
aO fq R1∧
ae .num .leq v10 v11 fun bj=>
R (.returned bj) fq) aU) aU
theorem Fj(h:L135 g a0 a1 H R):ai Tryz.prog g 135 #[a0,a1] H R:=
 ak (hn:=(.n .e (.n (.h 0 [0,1,2,3,5,7,8,9,10,4,6,11,12,13] [] .e .e) .e))) Tryz.func135 h (by kernel_rfl)
def L136(g:Gh)(a0 a1 a2:Value)(H:Hp)(R:Rt):Prop:=
qg H fun v1 H2=>
aG a2 fun v3=>
∃(I4:Jt) (m5:Mt),JE I4 [(iv 0)] H2∧∀w8:Value,∀H7:Hp,I4 [w8] H7→∀KC:Fr,
ae .num .lss w8 v3 fun v9=>
Br v9 (
ah 8 a2 w8 fun v10=>
az 8 H7 v10 fun v11=>
bq H7 (.cells #[(Value.int .u32 0),(iv 0),(Value.int .u32 0),(Value.int .u32 0),(Value.int .u32 0),(Value.int .u32 0),(Value.int .u32 0),(Value.int .u32 0)] 203 (0,0)) fun mV c8=>
St 8 c8 (pt mV) v11 fun fe=>
aa 4 (pt mV) fun bD=>
Ld fe bD fun bR=>
aa 6 (pt mV) fun bK=>
Ld fe bK fun ca=>
Build Tryz.prog 161 [(0,a1),(1,bR),(2,ca)] fun bQ=>
aa 5 (pt mV) fun v20=>
Ld fe v20 fun cf=>
aa 7 (pt mV) fun cC=>
Ld fe cC fun cv=>
Build Tryz.prog 161 [(0,a1),(1,cf),(2,cv)] fun cu=>
av Tryz.prog 286 2 [(0,bQ),(1,cu)] fe fun cF jZ=>
aG cF fun cS=>
∃(Vz:Jt) (m29:Mt),JE Vz [(iv 0)] jZ∧∀Be:Value,∀j6:Hp,Vz [Be] j6→∀ad3:Fr,
ae .num .lss Be cS fun ff=>
Br ff (
∀ZB:Jt,(∀qp:Hp,(∀ajZ:Fr,
ae .num .add Be (iv 1) fun eF=>
ay Vz m29 [eF] qp [Be] j6)→ZB [] qp)→
ah 3 cF Be fun fy=>
az 3 j6 fy fun gx=>
bq j6 (.cells #[(iv 0),(Value.int .u32 0),(Value.int .u32 0)] 161 (0,0)) fun Vk yC=>
St 3 yC (pt Vk) gx fun q7=>
DR q7 fun R43=>
Nil a0 fun gj=>
aa 0 gj fun g9=>
aa 1 g9 fun iG=>
Ld R43 iG fun jT=>
az 3 R43 (pt Vk) fun jC=>
CF g 205 #[jT,jC] q7 (fun iF yA=>
aO yA R43∧
Ext 0 iF fun jB=>
Ext 1 iF fun iW=>
Un .not iW fun l7=>
bM l7 true (fun t54=>
aa 1 (pt Vk) fun kT=>
Ld yA kT fun po=>
aa 2 (pt Vk) fun qs=>
Ld yA qs fun rp=>
ae .num .neq po rp fun Bl=>
(yA=yA∧Bl=Value.bool t54)) (fun t54=>(Value.bool false)=Value.bool t54) fun t54=>∀adZ:Fr,
Br (Value.bool t54) (
Vo Tryz.prog g 10 (nR Tryz.f136 10) [7,11] [v1,(pt Vk)] yA fun FK=>∀adY:Fr,
JE ZB [] FK) (
JE ZB [] yA)) aU) (
ae .num .add w8 (iv 1) fun oo=>
ay I4 m5 [oo] j6 [w8] H7)) (
yw H7 v1 fun yW=>
R (.returned yW) H7)
theorem Fi(h:L136 g a0 a1 a2 H R):ai Tryz.prog g 136 #[a0,a1,a2] H R:=
 ak (hn:=(.n .e (.n .e (.n (.n .e (.n (.h 0 [17] [0,1,7,15,16] (.n .e (.n .e (.n (.n (.n .e (.n .e (.n (.h 0 [35] [0,1,7,15,16,17,33,34] (.n .e (.n .e (.h 1 [] [0,1,7,15,16,17,33,34,35] (.n (.n .e (.n (.h 0 [0,1,2,3,4,5,6,7,8,9,10,11] [] .e .e) (.n (.h 0 [] [1] .e .e) (.n (.h 9 [7,11] [] .e .e) .e)))) .e) .e))) .e) .e))) .e) .e))) .e) .e)) .e)))) Tryz.func136 h (by kernel_rfl)
def L137(g:Gh)(a0 a1:Value)(H:Hp)(R:Rt):Prop:=
bq H (.cells (Value.cells a1) 161 (0,0)) fun b1 H2=>
aa 0 (pt b1) fun v3=>
Ld H2 v3 fun v4=>
CF g 206 #[a0,v4] H2 (fun v5 H6=>
ae .num .neq v5 (iv 0) fun v7=>
Br v7 (
R (.returned v5) H6) (
Nil a0 fun v8=>
aa 0 v8 fun v9=>
Ld H6 v9 fun v10=>
aa 0 (pt b1) fun v11=>
Ld H6 v11 fun bc=>
ah 1 v10 bc fun bj=>
Ld H6 bj fun bA=>
az 3 H6 (pt b1) fun bD=>
kL Tryz.prog 161 (Value.int .u32 0) true H6 bA bD fun bR=>
Ext 0 bR fun bK=>
Ext 1 bR fun ca=>
Un .not ca fun bQ=>
Br bQ (
R (.returned (iv 10)) H6) (
DR H6 fun A6=>
Nil a0 fun cf=>
aa 0 cf fun cC=>
Ld A6 cC fun cv=>
aa 0 (pt b1) fun cu=>
Ld A6 cu fun cF=>
ah 1 cv cF fun cG=>
Ld A6 cG fun cS=>
az 3 A6 (pt b1) fun dA=>
qh Tryz.prog 161 H6 cS dA fun j6=>
aO j6 A6∧
R (.returned (iv 0)) j6))) (aq R)
theorem Fh(h:L137 g a0 a1 H R):ai Tryz.prog g 137 #[a0,a1] H R:=
 ak (hn:=(hN 3 (.n (.h 0 [0,1,2,3,4,5,6,7,8,9] [] .e .e) .e))) Tryz.func137 h (by kernel_rfl)
def L138(g:Gh)(a0 a1 a2 a3:Value)(H:Hp)(R:Rt):Prop:=
ae .num .eql a2 a3 fun v1=>
Br v1 (
R (.returned a2) H) (
Build Tryz.prog 161 [(0,a1),(1,a2),(2,a3)] fun v2=>
bq H (.cells #[(iv 0),(Value.int .u32 0),(Value.int .u32 0)] 161 (0,0)) fun b3 H4=>
St 3 H4 (pt b3) v2 fun H5=>
DR H5 fun R6=>
Nil a0 fun v7=>
aa 1 v7 fun v8=>
Ld R6 v8 fun v9=>
az 3 R6 (pt b3) fun v10=>
CF g 205 #[v9,v10] H5 (fun v11 fq=>
aO fq R6∧
Ext 0 v11 fun bj=>
Ext 1 v11 fun bA=>
Br bA (
R (.returned bj) fq) (
az 3 fq (pt b3) fun bD=>
CF g 207 #[a0,bD] fq (fun bR fS=>
R (.returned bR) fS) (aq R))) aU)
theorem oY(h:L138 g a0 a1 a2 a3 H R):ai Tryz.prog g 138 #[a0,a1,a2,a3] H R:=
 ak (hn:=(hN 3 (.n (.n (.h 0 [0,1,2,3,4,5,6,7,8,9,10] [] .e .e) .e) .e))) Tryz.func138 h (by kernel_rfl)
def L139(g:Gh)(a0 a1:Value)(H:Hp)(R:Rt):Prop:=
ae .num .gtr a1 (Value.int .u32 1) fun v1=>
Br v1 (
Nil a0 fun v2=>
aa 2 v2 fun v3=>
Ld H v3 fun v4=>
ah 1 v4 a1 fun v5=>
Ld H v5 fun v6=>
ae .num .add v6 (Value.int .i32 1) fun v7=>
ah 1 v4 a1 fun v8=>
St 1 H v8 v7 fun H9=>
R (.returned (.tuple #[])) H9) (
R (.returned (.tuple #[])) H)
theorem Fg(h:L139 g a0 a1 H R):ai Tryz.prog g 139 #[a0,a1] H R:=
 ak (hn:=.e) Tryz.func139 h (by kernel_rfl)
def L140(g:Gh)(a0 a1 a2:Value)(H:Hp)(R:Rt):Prop:=
bq H (.cells (Value.cells a2) 161 (0,0)) fun b1 H2=>
ae .ptr .eql a0 (.pointer none) fun v3=>
Br v3 (
R (.returned (iv 10)) H2) (
az 3 H2 (pt b1) fun v4=>
CF g 208 #[a0,v4] H2 (fun v5 H6=>
ae .num .neq v5 (iv 0) fun v7=>
Br v7 (
R (.returned v5) H6) (
CF g 209 #[a0,a1] H6 (fun v8 H9=>
ae .num .neq v8 (iv 0) fun v10=>
Br v10 (
R (.returned v8) H9) (
DR H9 fun Zo=>
Nil a0 fun bc=>
aa 1 bc fun bj=>
Ld Zo bj fun bA=>
az 3 Zo (pt b1) fun bD=>
ah 5 bA a1 fun bR=>
aa 0 bR fun bK=>
St 3 H9 bK bD fun dK=>
R (.returned (iv 0)) dK)) (aq R))) (aq R))
theorem Ff(h:L140 g a0 a1 a2 H R):ai Tryz.prog g 140 #[a0,a1,a2] H R:=
 ak (hn:=(hN 4 (.n (.h 0 [0,1,2,3,4,5,6,7,8] [] .e .e) .e))) Tryz.func140 h (by kernel_rfl)
def L141(g:Gh)(a0 a1 a2:Value)(H:Hp)(R:Rt):Prop:=
bq H (.cells (Value.cells a1) 161 (0,0)) fun b1 H2=>
aa 0 (pt b1) fun v3=>
Ld H2 v3 fun v4=>
CF g 206 #[a0,v4] H2 (fun v5 H6=>
ae .num .neq v5 (iv 0) fun v7=>
Br v7 (
R (.returned v5) H6) (
Nil a0 fun v8=>
aa 0 v8 fun v9=>
Ld H6 v9 fun v10=>
aa 0 (pt b1) fun v11=>
Ld H6 v11 fun bc=>
ah 1 v10 bc fun bj=>
Ld H6 bj fun bA=>
az 3 H6 (pt b1) fun bD=>
kL Tryz.prog 161 (Value.int .u32 0) true H6 bA bD fun bR=>
Ext 0 bR fun bK=>
Ext 1 bR fun ca=>
Br ca (
R (.returned (iv 11)) H6) (
DR H6 fun uB=>
Nil a0 fun v20=>
aa 0 v20 fun cf=>
Ld uB cf fun cC=>
aa 0 (pt b1) fun cv=>
Ld uB cv fun cu=>
ah 1 cC cu fun cF=>
Ld uB cF fun cG=>
az 3 uB (pt b1) fun cS=>
lJ Tryz.prog 161 H6 cG cS a2 fun nO=>
R (.returned (iv 0)) nO))) (aq R)
theorem Fe(h:L141 g a0 a1 a2 H R):ai Tryz.prog g 141 #[a0,a1,a2] H R:=
 ak (hn:=(hN 3 (.n (.h 0 [0,1,2,3,4,5,6,7,8,9,10] [] .e .e) .e))) Tryz.func141 h (by kernel_rfl)
def L142(g:Gh)(a0 a1:Value)(H:Hp)(R:Rt):Prop:=
av Tryz.prog 27 1 [(0,a1)] H fun v1 H2=>
∃(I3:Jt) (m4:Mt),JE I3 [v1] H2∧∀w7:Value,∀H6:Hp,I3 [w7] H6→∀Pd:Fr,
aG w7 fun v8=>
ae .num .gtr v8 (iv 0) fun v9=>
Br v9 (
aG w7 fun v10=>
ae .num .sub v10 (iv 1) fun v11=>
ah 1 w7 v11 fun bc=>
Ld H6 bc fun bj=>
gh 1 w7 none (some v11) fun bA=>
ae .num .leq bj (Value.int .u32 1) fun bD=>
Br bD (
ay I3 m4 [bA] H6 [w7] H6) (
Nil a0 fun bR=>
aa 2 bR fun bK=>
Ld H6 bK fun ca=>
ah 1 ca bj fun bQ=>
Ld H6 bQ fun v20=>
ae .num .sub v20 (Value.int .i32 1) fun cf=>
ah 1 ca bj fun cC=>
St 1 H6 cC cf fun j3=>
Nil a0 fun cu=>
aa 2 cu fun cF=>
Ld j3 cF fun cG=>
ah 1 cG bj fun cS=>
Ld j3 cS fun dA=>
ae .num .gtr dA (Value.int .i32 0) fun dy=>
Br dy (
ay I3 m4 [bA] j3 [w7] H6) (
CF g 174 #[a0,bj] j3 (fun v30 j6=>
bq j6 (.cells #[(iv 0),(Value.int .u32 0),(Value.int .u32 0)] 161 (0,0)) fun Y6 iu=>
St 3 iu (pt Y6) v30 fun nN=>
DR nN fun R35=>
Nil a0 fun dQ=>
aa 1 dQ fun eF=>
Ld R35 eF fun fy=>
az 3 R35 (pt Y6) fun gx=>
CF g 137 #[fy,gx] nN (fun fw yC=>
Nil a0 fun gB=>
aa 0 gB fun gk=>
Ld yC gk fun gj=>
CF g 210 #[gj,bj] yC (fun g9 Kl=>
aa 1 (pt Y6) fun jT=>
Ld Kl jT fun jC=>
aa 2 (pt Y6) fun iF=>
Ld Kl iF fun ja=>
av Tryz.prog 27 2 [(0,jC),(1,ja)] Kl fun jB Po=>
App Tryz.prog 77 1 4 (Value.int .u32 0) Po bA jB fun kT vF=>
ay I3 m4 [kT] vF [w7] H6) (aq R)) aU) (aq R)))) (
R (.returned (.tuple #[])) H6)
theorem Fb(h:L142 g a0 a1 H R):ai Tryz.prog g 142 #[a0,a1] H R:=
 ak (hn:=(.n .e (.n (.h 0 [4] [0] (.n .e (.n (hN 6 (.n (.h 0 [0,1,2,3,4,5] [] .e .e) .e)) .e)) .e) .e))) Tryz.func142 h (by kernel_rfl)
def L143(g:Gh)(a0 a1 a2:Value)(H:Hp)(R:Rt):Prop:=
DR H fun R1=>
Ld R1 a1 fun v2=>
Ld R1 a1 fun v3=>
CF g 34 #[v2] H (fun v4 H5=>
aO H5 R1∧
CF g 15 #[v3] H5 (fun v6 H7=>
aO H7 R1∧
∀J8:Jt,(∀jy eW:Value,∀dJ:Hp,(∀S8:Fr,
Ld dJ a1 fun bj=>
ae .num .add v4 jy fun bA=>
CF g 145 #[bj,bA] dJ (fun bD eP=>
Ext 0 bD fun bK=>
Ext 1 bD fun ca=>
ae .num .add eW bK fun bQ=>
R (.returned bQ) eP) (aq R))→J8 [jy,eW] dJ)→
Ld H7 a2 fun v20=>
aG v20 fun cf=>
∃(FI:Jt) (Ui:Mt),JE FI [v6,(iv 0),(iv 0),(iv 0)] H7∧∀jx Bf vg vI:Value,∀ef:Hp,FI [jx,Bf,vg,vI] ef→∀Q9:Fr,
ae .num .lss vI cf fun v30=>
Br v30 (
∀OF:Jt,(∀yE Kr RY:Value,∀iu:Hp,(∀Vd:Fr,
ae .num .add vI (iv 1) fun eF=>
ay FI Ui [yE,Kr,RY,eF] iu [jx,Bf,vg,vI] ef)→OF [yE,Kr,RY] iu)→
ah 1 v20 vI fun fy=>
Ld ef fy fun gx=>
Ld ef a1 fun fw=>
ae .num .add a0 gx fun eY=>
CF g 144 #[fw,eY] ef (fun gB AO=>
Ext 0 gB fun gj=>
Ext 1 gB fun g9=>
bq AO (.cells #[(iv 0),(iv 0),(iv 0)] 210 (0,0)) fun Y4 AN=>
St 3 AN (pt Y4) gj fun qn=>
ae .num .neq g9 (iv 0) fun iF=>
Br iF (
JE J8 [Bf,vg] qn) (
ae .num .add vg (iv 1) fun ja=>
aa 2 (pt Y4) fun jB=>
Ld qn jB fun iW=>
ae .num .lss iW jx fun l7=>
Br l7 (
aa 2 (pt Y4) fun oq=>
Ld qn oq fun kT=>
JE OF [kT,ja,ja] qn) (
JE OF [jx,Bf,ja] qn))) (aq R)) (
JE J8 [Bf,vg] ef)) aU) aU
theorem Fa(h:L143 g a0 a1 a2 H R):ai Tryz.prog g 143 #[a0,a1,a2] H R:=
 ak (hn:=(.n .e (.n (.h 0 [0,2,1,3,4,5,6,7] [] .e .e) (.h 1 [7,8] [1,5] (.n .e (.n (.h 0 [6,7,8,21] [0,1,5,19,20] (.n .e (.n .e (.h 1 [6,7,8] [0,1,5,19,20,21] .e .e))) .e) .e)) .e)))) Tryz.func143 h (by kernel_rfl)
def L144(g:Gh)(a0 a1:Value)(H:Hp)(R:Rt):Prop:=
bq H (.cells #[(iv 0),(iv 0),(iv 0)] 210 (0,0)) fun b1 H2=>
CF g 15 #[a0] H2 (fun v3 H4=>
Build Tryz.prog 210 [(0,a1),(1,v3)] fun v5=>
bq H4 (.cells #[(iv 0),(iv 0),(iv 0)] 210 (0,0)) fun b6 H7=>
St 3 H7 (pt b6) v5 fun H8=>
CF g 17 #[a0,a1] H8 (fun v9 dJ=>
ae .num .neq v9 (iv 0) fun v11=>
Br v11 (
Build Tryz.prog 210 [] fun bc=>
St 3 dJ (pt b1) bc fun c8=>
az 3 c8 (pt b1) fun bA=>
R (.returned (.tuple #[bA,v9])) c8) (
CF g 15 #[a0] dJ (fun bD eP=>
aa 2 (pt b6) fun bK=>
St 1 eP bK bD fun dK=>
az 3 dK (pt b6) fun bQ=>
St 3 dK (pt b1) bQ fun jw=>
az 3 jw (pt b1) fun cf=>
R (.returned (.tuple #[cf,(iv 0)])) jw) (aq R))) (aq R)) (aq R)
theorem uL(h:L144 g a0 a1 H R):ai Tryz.prog g 144 #[a0,a1] H R:=
 ak (hn:=.e) Tryz.func144 h (by kernel_rfl)
def L145(g:Gh)(a0 a1:Value)(H:Hp)(R:Rt):Prop:=
ae .ptr .eql a0 (.pointer none) fun v1=>
Br v1 (
R (.returned (.tuple #[(iv 0),(iv 10)])) H) (
∀J2:Jt,(∀w5:Value,∀H4:Hp,(∀Ta:Fr,
Br w5 (
R (.returned (.tuple #[(iv 0),(iv 1)])) H4) (
∃(I6:Jt) (m7:Mt),JE I6 [(iv 0)] H4∧∀eo:Value,∀H9:Hp,I6 [eo] H9→∀CG:Fr,
CF g 34 #[a0] H9 (fun v11 fq=>
ae .num .gtr v11 a1 fun bj=>
Br bj (
CF g 18 #[a0] fq (fun bA cY=>
ae .num .add eo (iv 1) fun bR=>
ay I6 m7 [bR] cY [eo] H9) (aq R)) (
R (.returned (.tuple #[eo,(iv 0)])) fq)) (aq R)))→J2 [w5] H4)→
ae .num .lss a1 (iv 0) fun bK=>
Split bK false (
CF g 34 #[a0] H (fun ca fR=>
ae .num .gtr a1 ca fun v20=>
aA (Value.bool false) (Value.bool true) v20 fun cf=>
JE J2 [cf] fR) (aq R)) (
aA (Value.bool true) (Value.bool true) undef fun cC=>
JE J2 [cC] H))
theorem E9(h:L145 g a0 a1 H R):ai Tryz.prog g 145 #[a0,a1] H R:=
 ak (hn:=(.n .e (.n .e (.n (.h 1 [16] [0,1] .e .e) (.n .e (.n (.n (.h 0 [6] [0,1] .e .e) .e) .e)))))) Tryz.func145 h (by kernel_rfl)
def L146(g:Gh)(a0:Value)(H:Hp)(R:Rt):Prop:=
ae .ptr .eql a0 (.pointer none) fun v1=>
Br v1 (
R (.returned (iv 0)) H) (
Nil a0 fun v2=>
aa 0 v2 fun v3=>
Ld H v3 fun v4=>
R (.returned v4) H)
theorem E8(h:L146 g a0 H R):ai Tryz.prog g 146 #[a0] H R:=
 ak (hn:=.e) Tryz.func146 h (by kernel_rfl)
def L147(g:Gh)(a0 a1:Value)(H:Hp)(R:Rt):Prop:=
bq H (.cells (Value.cells a1) 4 (0,0)) fun b1 H2=>
bq H2 (.cells #[(iv 0),(.slice none 0 0)] 57 (0,0)) fun b3 H4=>
CF g 211 #[a0] H4 (fun v5 H6=>
ae .num .neq v5 (iv 0) fun v7=>
Br v7 (
Build Tryz.prog 57 [] fun v8=>
St 2 H6 (pt b3) v8 fun H9=>
az 2 H9 (pt b3) fun v10=>
R (.returned (.tuple #[v10,v5])) H9) (
CF g 212 #[a0,(.func (.func 213) #[] #[(pt b1)])] H6 (fun v11 fq=>
St 2 fq (pt b3) v11 fun c8=>
az 2 c8 (pt b3) fun bA=>
R (.returned (.tuple #[bA,(iv 0)])) c8) (aq R))) (aq R)
theorem E7(h:L147 g a0 a1 H R):ai Tryz.prog g 147 #[a0,a1] H R:=
 ak (hn:=.e) Tryz.func147 h (by kernel_rfl)
def L148(g:Gh)(a0 a1 a2:Value)(H:Hp)(R:Rt):Prop:=
bq H (.cells (Value.cells a0) 57 (0,0)) fun b1 H2=>
bq H2 (.cells #[(iv 0),(.slice none 0 0)] 57 (0,0)) fun b3 H4=>
az 2 H4 (pt b1) fun v5=>
CF g 214 #[v5,a1] H4 (fun v6 H7=>
ae .num .neq v6 (iv 0) fun v8=>
Br v8 (
Build Tryz.prog 57 [] fun v9=>
St 2 H7 (pt b3) v9 fun dJ=>
az 2 dJ (pt b3) fun v11=>
R (.returned (.tuple #[v11,v6])) dJ) (
az 2 H7 (pt b1) fun bc=>
CF g 215 #[bc,a1,a2] H7 (fun bj fe=>
St 2 fe (pt b3) bj fun cY=>
az 2 cY (pt b3) fun bR=>
R (.returned (.tuple #[bR,(iv 0)])) cY) (aq R))) (aq R)
theorem E6(h:L148 g a0 a1 a2 H R):ai Tryz.prog g 148 #[a0,a1,a2] H R:=
 ak (hn:=.e) Tryz.func148 h (by kernel_rfl)
def L150(g:Gh)(a0 a1:Value)(H:Hp)(R:Rt):Prop:=
ae .ptr .eql a0 (.pointer none) fun v1=>
Br v1 (
R (.returned (iv 10)) H) (
aG a1 fun v2=>
∃(I3:Jt) (m4:Mt),JE I3 [(iv 0)] H∧∀w7:Value,∀H6:Hp,I3 [w7] H6→∀Pd:Fr,
ae .num .lss w7 v2 fun v8=>
Br v8 (
ah 1 a1 w7 fun v9=>
Ld H6 v9 fun v10=>
CF g 97 #[a0,v10] H6 (fun v11 fq=>
Ext 0 v11 fun bj=>
Ext 1 v11 fun bA=>
bq fq (.cells #[(iv 0),(Value.int .u32 0),(Value.int .u32 0)] 161 (0,0)) fun qb eP=>
St 3 eP (pt qb) bj fun fS=>
ae .num .neq bA (iv 0) fun ca=>
Br ca (
R (.returned bA) fS) (
ae .num .add w7 (iv 1) fun bQ=>
ay I3 m4 [bQ] fS [w7] H6)) (aq R)) (
R (.returned (iv 0)) H6))
theorem E5(h:L150 g a0 a1 H R):ai Tryz.prog g 150 #[a0,a1] H R:=
 ak (hn:=(.n .e (.n .e (.n (.n .e (.n (.h 0 [13] [0,11,12] .e .e) .e)) .e)))) Tryz.func150 h (by kernel_rfl)
def L151(g:Gh)(a0 a1 a2 a3 a4:Value)(H:Hp)(R:Rt):Prop:=
bq H (.cells (Value.cells a0) 26 (0,0)) fun b1 H2=>
bq H2 (.cells (Value.cells a2) 57 (0,0)) fun b3 H4=>
bq H4 (.cells (Value.cells a3) 57 (0,0)) fun b5 H6=>
bq H6 (.cells (Value.cells a4) 221 (0,0)) fun b7 H8=>
bq H8 (.cells #[(iv 0),(.slice none 0 0)] 57 (0,0)) fun b9 dJ=>
qg dJ fun v11 fq=>
az 2 fq (pt b3) fun bj=>
gi (.int .u32) fq v11 (Value.int .u32 0) bj fun fe=>
az 2 fe (pt b5) fun bD=>
gi (.int .u32) fe v11 (Value.int .u32 1) bD fun eP=>
bq eP (.cells #[(.map none)] 295 (0,0)) fun Wr dK=>
St 1 dK (pt Wr) v11 fun fR=>
bq fR (.cells #[.nilFunc] 296 (0,0)) fun wL dN=>
St 1 dN (pt wL) (.func (.func 216) #[] #[(pt Wr),(pt b1),(pt b7),(pt wL)]) fun fF=>
Ld fF (pt wL) fun cv=>
fx Tryz.prog g cv #[a1] fF (fun cu ef=>
St 2 ef (pt b9) cu fun jZ=>
az 2 jZ (pt b9) fun cS=>
R (.returned cS) jZ) (aq R)
theorem E4(h:L151 g a0 a1 a2 a3 a4 H R):ai Tryz.prog g 151 #[a0,a1,a2,a3,a4] H R:=
 ak (hn:=.e) Tryz.func151 h (by kernel_rfl)
def L152(g:Gh)(a0 a1 a2 a3:Value)(H:Hp)(R:Rt):Prop:=
bq H (.cells (Value.cells a0) 161 (0,0)) fun b1 H2=>
bq H2 (.cells (Value.cells a1) 57 (0,0)) fun b3 H4=>
bq H4 (.cells (Value.cells a2) 57 (0,0)) fun b5 H6=>
bq H6 (.cells #[(iv 0),(.slice none 0 0)] 57 (0,0)) fun b7 H8=>
Ld H8 a3 fun v9=>
aa 0 (pt b1) fun v10=>
Ld H8 v10 fun v11=>
CF g 153 #[v9,v11] H8 (fun bc c8=>
Ext 0 bc fun bA=>
Ext 1 bc fun bD=>
bq c8 (.cells #[(iv 0),(.slice none 0 0)] 57 (0,0)) fun qY fS=>
St 2 fS (pt qY) bA fun dK=>
az 2 dK (pt qY) fun bQ=>
az 2 dK (pt b5) fun v20=>
az 2 dK (pt b3) fun cf=>
CF g 154 #[bQ,v20,cf] dK (fun cC j3=>
Ext 0 cC fun cu=>
Ext 1 cC fun cF=>
bq j3 (.cells #[(iv 0),(.slice none 0 0)] 57 (0,0)) fun sH iV=>
St 2 iV (pt sH) cu fun nO=>
az 2 nO (pt sH) fun dy=>
St 2 nO (pt b7) dy fun ju=>
az 2 ju (pt b7) fun eR=>
R (.returned eR) ju) (aq R)) (aq R)
theorem E3(h:L152 g a0 a1 a2 a3 H R):ai Tryz.prog g 152 #[a0,a1,a2,a3] H R:=
 ak (hn:=.e) Tryz.func152 h (by kernel_rfl)
def L153(g:Gh)(a0 a1:Value)(H:Hp)(R:Rt):Prop:=
bq H (.cells (Value.cells a1) 3 (0,0)) fun b1 H2=>
bq H2 (.cells #[(iv 0),(.slice none 0 0)] 57 (0,0)) fun b3 H4=>
CF g 211 #[a0] H4 (fun v5 H6=>
ae .num .neq v5 (iv 0) fun v7=>
Br v7 (
Build Tryz.prog 57 [] fun v8=>
St 2 H6 (pt b3) v8 fun H9=>
az 2 H9 (pt b3) fun v10=>
R (.returned (.tuple #[v10,v5])) H9) (
Ld H6 (pt b1) fun v11=>
ae .num .lss v11 (iv 0) fun bc=>
bM bc false (fun t13=>
Ld H6 (pt b1) fun bA=>
ae .num .geq bA a0 fun bD=>
(H6=H6∧bD=Value.bool t13)) (fun t13=>(Value.bool true)=Value.bool t13) fun t13=>∀Vg:Fr,
Br (Value.bool t13) (
Build Tryz.prog 57 [] fun bK=>
St 2 H6 (pt b3) bK fun dK=>
az 2 dK (pt b3) fun bQ=>
R (.returned (.tuple #[bQ,(iv 2)])) dK) (
CF g 212 #[a0,(.func (.func 218) #[] #[(pt b1)])] H6 (fun v20 dN=>
St 2 dN (pt b3) v20 fun fF=>
az 2 fF (pt b3) fun cv=>
R (.returned (.tuple #[cv,(iv 0)])) fF) (aq R)))) (aq R)
theorem E0(h:L153 g a0 a1 H R):ai Tryz.prog g 153 #[a0,a1] H R:=
 ak (hn:=(.n .e (.n .e (.n (.n (.h 0 [] [1] .e .e) .e) .e)))) Tryz.func153 h (by kernel_rfl)
def L154(g:Gh)(a0 a1 a2:Value)(H:Hp)(R:Rt):Prop:=
bq H (.cells (Value.cells a0) 57 (0,0)) fun b1 H2=>
bq H2 (.cells (Value.cells a1) 57 (0,0)) fun b3 H4=>
bq H4 (.cells (Value.cells a2) 57 (0,0)) fun b5 H6=>
bq H6 (.cells #[(iv 0),(.slice none 0 0)] 57 (0,0)) fun b7 H8=>
az 2 H8 (pt b1) fun v9=>
az 2 H8 (pt b3) fun v10=>
az 2 H8 (pt b5) fun v11=>
av Tryz.prog 28 3 [(0,v9),(1,v10),(2,v11)] H8 fun bc c8=>
CF g 220 #[bc] c8 (fun bA cY=>
Un .not bA fun bR=>
Br bR (
Build Tryz.prog 57 [] fun bK=>
St 2 cY (pt b7) bK fun dK=>
az 2 dK (pt b7) fun bQ=>
R (.returned (.tuple #[bQ,(iv 5)])) dK) (
aa 0 (pt b1) fun v20=>
Ld cY v20 fun cf=>
CF g 212 #[cf,(.func (.func 221) #[] #[(pt b1),(pt b3),(pt b5)])] cY (fun cC j3=>
St 2 j3 (pt b7) cC fun iD=>
az 2 iD (pt b7) fun cF=>
R (.returned (.tuple #[cF,(iv 0)])) iD) (aq R))) (aq R)
theorem EZ(h:L154 g a0 a1 a2 H R):ai Tryz.prog g 154 #[a0,a1,a2] H R:=
 ak (hn:=.e) Tryz.func154 h (by kernel_rfl)
def L155(g:Gh)(a0:Value)(H:Hp)(R:Rt):Prop:=
CF g 175 #[a0] H (fun v1 H2=>
Un .not v1 fun v3=>
Br v3 (
R (.returned (.tuple #[(.slice none 0 0),(iv 5)])) H2) (
aG a0 fun v4=>
ae .num .eql v4 (iv 0) fun v5=>
Br v5 (
R (.returned (.tuple #[(.slice none 0 0),(iv 0)])) H2) (
ah 2 a0 (iv 0) fun v6=>
aa 0 v6 fun v7=>
Ld H2 v7 fun v8=>
cc 50 1 8 (Value.int .u64 0) H2 v8 v8 fun v9 dJ=>
aG a0 fun v11=>
∃(uV:Jt) (Ml:Mt),JE uV [(iv 0)] dJ∧∀fT:Value,∀cY:Hp,uV [fT] cY→∀qM:Fr,
ae .num .lss fT v11 fun bK=>
Br bK (
ah 2 a0 fT fun ca=>
az 2 cY ca fun bQ=>
bq cY (.cells #[(iv 0),(.slice none 0 0)] 57 (0,0)) fun wL dN=>
St 2 dN (pt wL) bQ fun fF=>
az 2 fF (pt wL) fun cv=>
CF g 156 #[cv] fF (fun cu ef=>
Ext 0 cu fun cG=>
Ext 1 cu fun cS=>
aG v9 fun dA=>
∃(Vy:Jt) (m30:Mt),JE Vy [(iv 0)] ef∧∀FY:Value,∀nm:Hp,Vy [FY] nm→∀Ve:Fr,
ae .num .lss FY dA fun fc=>
Br fc (
∀G5:Jt,(∀rX:Hp,(∀YO:Fr,
ae .num .add FY (iv 1) fun fy=>
ay Vy m30 [fy] rX [FY] nm)→G5 [] rX)→
ae .num .shr cG FY fun gx=>
ae .num .and gx (Value.int .u64 1) fun fw=>
ae .num .eql fw (Value.int .u64 1) fun eY=>
Br eY (
DR nm fun R42=>
ah 1 v9 FY fun gk=>
Ld R42 gk fun gj=>
ae .num .shl (Value.int .u64 1) FY fun g9=>
ae .num .andNot cG g9 fun iG=>
ae .num .or gj iG fun jT=>
ah 1 v9 FY fun jC=>
St 1 nm jC jT fun yB=>
JE G5 [] yB) (
JE G5 [] nm)) (
ae .num .add fT (iv 1) fun ja=>
ay uV Ml [ja] nm [fT] cY)) (aq R)) (
R (.returned (.tuple #[v9,(iv 0)])) cY)))) (aq R)
theorem EY(h:L155 g a0 H R):ai Tryz.prog g 155 #[a0] H R:=
 ak (hn:=(hN 4 (.n (.n .e (.n (.h 0 [23] [4,21,22] (.n .e (.n .e (.n (.n (hN 3 (.n (.h 0 [34] [4,7,21,22,23,33] (.n .e (.n .e (.h 1 [] [4,7,21,22,23,33,34] (.n (.n .e (.n .e (.n (.h 0 [0,1,2,3,4,5,6,7,8,9,10] [] .e .e) .e))) .e) .e))) .e) .e)) .e) .e))) .e) .e)) .e))) Tryz.func155 h (by kernel_rfl)
def L156(g:Gh)(a0:Value)(H:Hp)(R:Rt):Prop:=
bq H (.cells (Value.cells a0) 57 (0,0)) fun b1 H2=>
az 2 H2 (pt b1) fun v3=>
av Tryz.prog 28 1 [(0,v3)] H2 fun v4 H5=>
CF g 220 #[v4] H5 (fun v6 H7=>
Un .not v6 fun v8=>
Br v8 (
R (.returned (.tuple #[(Value.int .u64 0),(iv 5)])) H7) (
aa 0 (pt b1) fun v9=>
Ld H7 v9 fun v10=>
∃(VC:Jt) (m12:Mt),JE VC [(Value.int .u64 0),(iv 0)] H7∧∀mi fT:Value,∀fe:Hp,VC [mi,fT] fe→∀Rc:Fr,
ae .num .lss fT v10 fun bK=>
Br bK (
∀Vw:Jt,(∀AV:Value,∀jw:Hp,(∀YS:Fr,
ae .num .add fT (iv 1) fun cC=>
ay VC m12 [AV,cC] jw [mi,fT] fe)→Vw [AV] jw)→
DR fe fun Tg=>
az 2 Tg (pt b1) fun cu=>
az 2 Tg (pt b1) fun cF=>
CF g 215 #[cu,fT,(Value.bool false)] fe (fun cG iV=>
aO iV Tg∧
Bb 1 cG fun dA=>
CF g 215 #[cF,fT,(Value.bool true)] iV (fun dy ju=>
aO ju Tg∧
Bb 1 dy fun eR=>
CF g 222 #[dA,eR] ju (fun dR iu=>
aO iu Tg∧
Un .not dR fun fc=>
Br fc (
ae .num .shl (Value.int .u64 1) fT fun fA=>
ae .num .or mi fA fun dQ=>
JE Vw [dQ] iu) (
JE Vw [mi] iu)) aU) aU) aU) (
R (.returned (.tuple #[mi,(iv 0)])) fe))) (aq R)
theorem EX(h:L156 g a0 H R):ai Tryz.prog g 156 #[a0] H R:=
 ak (hn:=(hN 3 (.n (.n .e (.n (.h 0 [4,12] [1,11] (.n .e (.n .e (.h 1 [4] [1,11,12] (.n (.n .e (.n (.h 0 [0,1,4,5,2,3,6,7,8,9] [] .e .e) .e)) .e) .e))) .e) .e)) .e))) Tryz.func156 h (by kernel_rfl)
def L157(g:Gh)(a0 a1 a2:Value)(H:Hp)(R:Rt):Prop:=
CF g 175 #[a0] H (fun v1 H2=>
Un .not v1 fun v3=>
Br v3 (
R (.returned (.tuple #[(iv 0),(iv 5)])) H2) (
∀J4:Jt,(∀w7:Value,∀H6:Hp,(∀Pd:Fr,
ae .num .lss a2 (iv 0) fun v8=>
bM v8 false (fun t9=>
ae .num .geq a2 w7 fun v10=>
(H6=H6∧v10=Value.bool t9)) (fun t9=>(Value.bool true)=Value.bool t9) fun t9=>∀ND:Fr,
bM (Value.bool t9) false (fun t12=>
ae .num .shr a1 w7 fun bj=>
ae .num .neq bj (Value.int .u64 0) fun bA=>
(H6=H6∧bA=Value.bool t12)) (fun t12=>(Value.bool true)=Value.bool t12) fun t12=>∀NC:Fr,
Br (Value.bool t12) (
R (.returned (.tuple #[(iv 0),(iv 2)])) H6) (
ae .num .shr a1 a2 fun bR=>
ae .num .and bR (Value.int .u64 1) fun bK=>
ae .num .eql bK (Value.int .u64 1) fun ca=>
Br ca (
R (.returned (.tuple #[(iv 0),(iv 4)])) H6) (
CF g 176 #[a0] H6 (fun bQ jw=>
∃(I21:Jt) (m22:Mt),JE I21 [bQ,(iv 0)] jw∧∀sN jx:Value,∀iD:Hp,I21 [sN,jx] iD→∀Ra:Fr,
ae .num .lss jx w7 fun cS=>
Br cS (
∀yQ:Jt,(∀Ps:Value,∀ju:Hp,(∀YP:Fr,
ae .num .add jx (iv 1) fun dR=>
ay I21 m22 [Ps,dR] ju [sN,jx] iD)→yQ [Ps] ju)→
ae .num .shr a1 jx fun ff=>
ae .num .and ff (Value.int .u64 1) fun fc=>
ae .num .eql fc (Value.int .u64 1) fun fA=>
Br fA (
CF g 177 #[sN,jx] iD (fun dQ rX=>
Ext 0 dQ fun fy=>
Ext 1 dQ fun gx=>
JE yQ [fy] rX) (aq R)) (
JE yQ [sN] iD)) (
CF g 177 #[sN,a2] iD (fun fw yC=>
Ext 0 fw fun gB=>
Ext 1 fw fun gk=>
R (.returned (.tuple #[gk,(iv 0)])) yC) (aq R))) (aq R))))→J4 [w7] H6)→
aG a0 fun gj=>
ae .num .gtr gj (iv 0) fun g9=>
Br g9 (
ah 2 a0 (iv 0) fun iG=>
aa 0 iG fun jT=>
Ld H2 jT fun jC=>
JE J4 [jC] H2) (
JE J4 [(iv 16)] H2))) (aq R)
theorem EW(h:L157 g a0 a1 a2 H R):ai Tryz.prog g 157 #[a0,a1,a2] H R:=
 ak (hn:=(hN 3 (.h 1 [8] [0,1,2] .e (.n (.n (.h 0 [] [1] .e .e) .e) (.n .e (.n .e (.n (.n .e (.n (.h 0 [9,44] [1,2,43] (.n .e (.n .e (.h 1 [9] [1,2,43,44] .e .e))) .e) .e)) .e))))))) Tryz.func157 h (by kernel_rfl)
def L158(g:Gh)(a0 a1:Value)(H:Hp)(R:Rt):Prop:=
Nil a0 fun v1=>
aa 0 v1 fun v2=>
Ld H v2 fun v3=>
ah 2 v3 a1 fun v4=>
az 2 H v4 fun v5=>
bq H (.cells #[(iv 0),(iv 0)] 233 (0,0)) fun b6 H7=>
St 2 H7 (pt b6) v5 fun H8=>
∃(I9:Jt) (Uk:Mt),JE I9 [a1] H8∧∀nY:Value,∀fq:Hp,I9 [nY] fq→∀ND:Fr,
∀Ki:Jt,(∀yT:Value,∀eP:Hp,(∀NC:Fr,
Br yT (
Nil a0 fun ca=>
aa 0 ca fun bQ=>
Ld eP bQ fun v20=>
ae .num .sub nY (iv 1) fun cf=>
ae .num .quo cf (iv 2) fun cC=>
ah 2 v20 cC fun cv=>
az 2 eP cv fun cu=>
CF g 159 #[a0,nY,cu] eP (fun cF jZ=>
ae .num .sub nY (iv 1) fun cS=>
ae .num .quo cS (iv 2) fun dA=>
ay I9 Uk [dA] jZ [nY] fq) (aq R)) (
az 2 eP (pt b6) fun dy=>
CF g 159 #[a0,nY,dy] eP (fun v30 j6=>
R (.returned (.tuple #[])) j6) (aq R)))→Ki [yT] eP)→
DR fq fun Vq=>
ae .num .gtr nY (iv 0) fun ff=>
Br ff (
az 2 Vq (pt b6) fun fc=>
Nil a0 fun fA=>
aa 0 fA fun dQ=>
Ld Vq dQ fun eF=>
ae .num .sub nY (iv 1) fun fy=>
ae .num .quo fy (iv 2) fun gx=>
ah 2 eF gx fun fw=>
az 2 Vq fw fun eY=>
∀F42:Hp,
CF (g.add F42) 223 #[fc,eY] fq (fun gk A9=>
aO A9 Vq∧
aA (Value.bool true) gk (Value.bool false) fun g9=>
JE Ki [g9] A9) aU) (
JE Ki [(Value.bool false)] fq)
theorem EV(h:L158 g a0 a1 H R):ai Tryz.prog g 158 #[a0,a1] H R:=
 ak (hn:=(.n .e (.n (.n (.h 0 [1] [0,4] (.n (.h 1 [26] [0,1,4] (.h 1 [] [] (hr 0 [] 0 2 (.h 2 [2] [] (hr 0 [] 3 12 .e) (hr 0 [] 3 11 (.h 3 [14] [] .e .e)))) .e) .e) .e) .e) .e) .e))) Tryz.func158 h (by kernel_rfl)
def L159(g:Gh)(a0 a1 a2:Value)(H:Hp)(R:Rt):Prop:=
bq H (.cells (Value.cells a2) 233 (0,0)) fun b1 H2=>
DR H2 fun R3=>
Nil a0 fun v4=>
aa 0 v4 fun v5=>
Ld R3 v5 fun v6=>
az 2 R3 (pt b1) fun v7=>
ah 2 v6 a1 fun v8=>
St 2 H2 v8 v7 fun H9=>
DR H9 fun Zr=>
Nil a0 fun v11=>
aa 1 v11 fun bc=>
Ld Zr bc fun bj=>
aa 0 (pt b1) fun bA=>
Ld Zr bA fun bD=>
gi (.int .i64) H9 bj bD a1 fun eP=>
R (.returned (.tuple #[])) eP
theorem EU(h:L159 g a0 a1 a2 H R):ai Tryz.prog g 159 #[a0,a1,a2] H R:=
 ak (hn:=(.n .e (.n (.h 0 [0,1,2,3,4,5,6,7] [] .e .e) (.h 0 [0,1,2,3,4,5,6,7] [] .e .e)))) Tryz.func159 h (by kernel_rfl)
def L160(g:Gh)(a0 a1:Value)(H:Hp)(R:Rt):Prop:=
Nil a0 fun v1=>
aa 0 v1 fun v2=>
Ld H v2 fun v3=>
ah 2 v3 a1 fun v4=>
az 2 H v4 fun v5=>
bq H (.cells #[(iv 0),(iv 0)] 233 (0,0)) fun b6 H7=>
St 2 H7 (pt b6) v5 fun H8=>
∃(I9:Jt) (Uk:Mt),JE I9 [a1] H8∧∀nY:Value,∀fq:Hp,I9 [nY] fq→∀ND:Fr,
ae .num .mul (iv 2) nY fun bA=>
ae .num .add bA (iv 1) fun bD=>
∀J16:Jt,(∀OW:Value,∀dK:Hp,(∀YT:Fr,
∀J20:Jt,(∀lW:Value,∀fF:Hp,(∀YR:Fr,
Br lW (
az 2 fF (pt b6) fun cu=>
CF g 159 #[a0,nY,cu] fF (fun cF jZ=>
R (.returned (.tuple #[])) jZ) (aq R)) (
Nil a0 fun cS=>
aa 0 cS fun dA=>
Ld fF dA fun dy=>
ah 2 dy OW fun v30=>
az 2 fF v30 fun eR=>
CF g 159 #[a0,nY,eR] fF (fun dR iu=>
ay I9 Uk [OW] iu [nY] fq) (aq R)))→J20 [lW] fF)→
DR dK fun yO=>
Nil a0 fun fA=>
aa 0 fA fun dQ=>
Ld yO dQ fun eF=>
aG eF fun fy=>
ae .num .geq OW fy fun gx=>
Br gx (
JE J20 [(Value.bool true)] dK) (
Nil a0 fun fw=>
aa 0 fw fun eY=>
Ld yO eY fun gB=>
ah 2 gB OW fun gk=>
az 2 yO gk fun gj=>
az 2 yO (pt b6) fun g9=>
∀F46:Hp,
CF (g.add F46) 223 #[gj,g9] dK (fun jT qn=>
aO qn yO∧
Un .not jT fun iF=>
aA (Value.bool false) (Value.bool true) iF fun ja=>
JE J20 [ja] qn) aU))→J16 [OW] dK)→
∀J51:Jt,(∀w54:Value,∀yz:Hp,(∀ajR:Fr,
Br w54 (
ae .num .add bD (iv 1) fun kT=>
JE J16 [kT] yz) (
JE J16 [bD] yz))→J51 [w54] yz)→
DR fq fun RJ=>
ae .num .add bD (iv 1) fun qs=>
Nil a0 fun rp=>
aa 0 rp fun Bl=>
Ld RJ Bl fun qj=>
aG qj fun xj=>
ae .num .lss qs xj fun vi=>
Br vi (
Nil a0 fun oo=>
aa 0 oo fun yW=>
Ld RJ yW fun sO=>
ae .num .add bD (iv 1) fun rY=>
ah 2 sO rY fun vM=>
az 2 RJ vM fun vL=>
Nil a0 fun xh=>
aa 0 xh fun sj=>
Ld RJ sj fun AW=>
ah 2 AW bD fun xg=>
az 2 RJ xg fun yI=>
∀F74:Hp,
CF (g.add F74) 223 #[vL,yI] fq (fun vK Kj=>
aO Kj RJ∧
aA (Value.bool true) vK (Value.bool false) fun yH=>
JE J51 [yH] Kj) aU) (
JE J51 [(Value.bool false)] fq)
theorem ET(h:L160 g a0 a1 H R):ai Tryz.prog g 160 #[a0,a1] H R:=
 ak (hn:=(.n .e (.n (.n (.h 0 [1] [0,4] (.n (.n .e (.h 1 [5] [0,1,4] (.h 1 [41] [0,1,4,5] (.h 1 [] [] (hr 0 [] 0 8 (.h 2 [8] [] (hr 0 [] 9 17 .e) (hr 0 [] 9 16 (.h 3 [25] [] .e .e)))) .e) .e) (.n (.h 1 [62] [0,1,4,5] (.h 1 [] [] (hr 0 [] 0 7 (.h 2 [7] [] (hr 0 [] 8 10 (.h 3 [18] [] .e .e)) (hr 0 [] 8 11 .e))) .e) .e) .e))) .e) .e) .e) .e))) Tryz.func160 h (by kernel_rfl)
def L161(g:Gh)(a0 a1:Value)(H:Hp)(R:Rt):Prop:=
bq H (.cells (Value.cells a0) 57 (0,0)) fun b1 H2=>
DR H2 fun R3=>
az 2 R3 (pt b1) fun v4=>
az 2 R3 (pt b1) fun v5=>
CF g 163 #[v4,a1,(Value.bool false)] H2 (fun v6 H7=>
aO H7 R3∧
CF g 163 #[v5,a1,(Value.bool true)] H7 (fun v8 H9=>
aO H9 R3∧
CF g 36 #[v6,v8] H9 (fun v10 dZ=>
aO dZ R3∧
Un .not v10 fun bc=>
R (.returned bc) dZ) aU) aU) aU
theorem ES(h:L161 g a0 a1 H R):ai Tryz.prog g 161 #[a0,a1] H R:=
 ak (hn:=(.n .e (.n (.h 0 [0,1,3,4,2,5,6,7,8] [] .e .e) .e))) Tryz.func161 h (by kernel_rfl)
def L162(g:Gh)(a0 a1:Value)(H:Hp)(R:Rt):Prop:=
bq H (.cells (Value.cells a0) 57 (0,0)) fun b1 H2=>
aa 1 (pt b1) fun v3=>
Ld H2 v3 fun v4=>
ae .num .quo a1 (iv 64) fun v5=>
ah 1 v4 v5 fun v6=>
Ld H2 v6 fun v7=>
ae .num .rem a1 (iv 64) fun v8=>
ae .num .shr v7 v8 fun v9=>
ae .num .rem v9 (Value.int .u64 2) fun v10=>
ae .num .eql v10 (Value.int .u64 1) fun v11=>
R (.returned v11) H2
theorem ER(h:L162 g a0 a1 H R):ai Tryz.prog g 162 #[a0,a1] H R:=
 ak (hn:=.e) Tryz.func162 h (by kernel_rfl)
def L163(g:Gh)(a0 a1 a2:Value)(H:Hp)(R:Rt):Prop:=
bq H (.cells (Value.cells a0) 57 (0,0)) fun b1 H2=>
bq H2 (.cells #[(iv 0),(.slice none 0 0)] 57 (0,0)) fun b3 H4=>
DR H4 fun R5=>
aa 0 (pt b1) fun v6=>
Ld R5 v6 fun v7=>
aa 1 (pt b1) fun v8=>
Ld R5 v8 fun v9=>
aG v9 fun v10=>
∀F11:Hp,
cc 50 1 8 (Value.int .u64 0) H4 v10 v10 fun bc c8=>
aO c8 R5∧
Build Tryz.prog 57 [(0,v7),(1,bc)] fun bA=>
bq c8 (.cells #[(iv 0),(.slice none 0 0)] 57 (0,0)) fun qb eP=>
∀F17:Hp,
St 2 eP (pt qb) bA fun dK=>
ae .num .geq a1 (iv 6) fun bQ=>
Br bQ (
ae .num .sub a1 (iv 6) fun v20=>
ae .num .shl (iv 1) v20 fun cf=>
∃(FI:Jt) (Ui:Mt),JE FI [(iv 0)] dK∧∀jx:Value,∀ef:Hp,FI [jx] ef→∀Q9:Fr,
aa 1 (pt b1) fun cS=>
Ld ef cS fun dA=>
aG dA fun dy=>
ae .num .lss jx dy fun v30=>
Br v30 (
ae .num .quo jx cf fun eR=>
ae .num .rem eR (iv 2) fun dR=>
ae .num .mul dR cf fun ff=>
ae .num .sub jx ff fun fc=>
∀G5:Jt,(∀WH:Value,∀rX:Hp,(∀YO:Fr,
DR rX fun Ph=>
aa 1 (pt qb) fun fw=>
Ld Ph fw fun eY=>
aa 1 (pt b1) fun gB=>
Ld Ph gB fun gk=>
ah 1 gk WH fun gj=>
Ld Ph gj fun g9=>
ah 1 eY jx fun iG=>
St 1 rX iG g9 fun AN=>
ae .num .add jx (iv 1) fun jC=>
ay FI Ui [jC] AN [jx] ef)→G5 [WH] rX)→
Br a2 (
ae .num .add fc cf fun iF=>
JE G5 [iF] ef) (
JE G5 [fc] ef)) (
az 2 ef (pt qb) fun ja=>
St 2 ef (pt b3) ja fun G7=>
az 2 G7 (pt b3) fun iW=>
R (.returned iW) G7)) (
CF g 224 #[(iv 6),a1] dK (fun l7 KI=>
Bb 1 l7 fun kT=>
ah 1 kT (iv 0) fun po=>
Ld KI po fun qs=>
∃(I58:Jt) (m59:Mt),JE I58 [(iv 0)] KI∧∀RX:Value,∀uW:Hp,I58 [RX] uW→∀adZ:Fr,
aa 1 (pt b1) fun oo=>
Ld uW oo fun yW=>
aG yW fun sO=>
ae .num .lss RX sO fun rY=>
Br rY (
∀J67:Jt,(∀VH:Hp,(∀adX:Fr,
ae .num .add RX (iv 1) fun sj=>
ay I58 m59 [sj] VH [RX] uW)→J67 [] VH)→
Br a2 (
aa 1 (pt b1) fun AW=>
Ld uW AW fun xg=>
ah 1 xg RX fun yI=>
Ld uW yI fun Hx=>
ae .num .and Hx qs fun vK=>
DR uW fun R76=>
aa 1 (pt qb) fun yH=>
Ld R76 yH fun KV=>
ae .num .shl (Value.int .u64 1) a1 fun yV=>
ae .num .shr vK yV fun F0=>
ae .num .or vK F0 fun OY=>
ah 1 KV RX fun yG=>
St 1 uW yG OY fun Th=>
JE J67 [] Th) (
aa 1 (pt b1) fun Ku=>
Ld uW Ku fun Hw=>
ah 1 Hw RX fun KU=>
Ld uW KU fun Pv=>
ae .num .andNot Pv qs fun KT=>
DR uW fun Vp=>
aa 1 (pt qb) fun Kt=>
Ld Vp Kt fun Hv=>
ae .num .shl (Value.int .u64 1) a1 fun Bk=>
ae .num .shl KT Bk fun Hu=>
ae .num .or KT Hu fun Bj=>
ah 1 Hv RX fun Pu=>
St 1 uW Pu Bj fun H96=>
JE J67 [] H96)) (
az 2 uW (pt qb) fun Tt=>
St 2 uW (pt b3) Tt fun H98=>
az 2 H98 (pt b3) fun Ts=>
R (.returned Ts) H98)) (aq R))
theorem EP(h:L163 g a0 a1 a2 H R):ai Tryz.prog g 163 #[a0,a1,a2] H R:=
 ak (hn:=(.n .e (.n (.h 1 [] [] (hr 0 [] 0 5 (.h 1 [7] [] (hr 0 [] 5 4 .e) .e)) .e) (.n (.n .e (.n (.n .e (.n (.n .e (.n (.h 0 [9] [2,3,6,7,8] (.n .e (.n (.n (.n .e (.h 1 [10] [2,3,6,7,8,9] .e (.h 0 [0,1,2,3,4,5,6,7,8,9] [] .e .e))) .e) .e)) .e) .e)) .e)) .e)) (.n .e (.n (.n .e (.n (.h 0 [12] [1,2,3,6,7,11] (.n .e (.h 1 [] [1,2,3,6,7,11,12] (.n (.n .e (.n (.n .e (.h 0 [0,1,2,3,4,5,6,7,8,9,10] [] .e .e)) (.n .e (.h 0 [0,1,2,3,4,5,6,7,8,9,10] [] .e .e)))) .e) .e)) .e) .e)) .e)))))) Tryz.func163 h (by kernel_rfl)
variable {g:Gh} {a0 a1 a2 a3 a4 a5 a6 a7 a8 a9 si sg Zd Zc Zb Za:Value} {H:Hp} {R:Rt}
def L164(g:Gh)(a0 a1 a2 a3:Value)(H:Hp)(R:Rt):Prop:=
ae .ptr .eql a0 (.pointer none) fun v1=>
Br v1 (
R (.returned (.tuple #[(Value.int .u32 0),(iv 10)])) H) (
CF g 225 #[a0,a1,a2,a3] H (fun v2 H3=>
ae .num .neq v2 (iv 0) fun v4=>
Br v4 (
R (.returned (.tuple #[(Value.int .u32 0),v2])) H3) (
CF g 226 #[a0,a1,a2,a3] H3 (fun v5 H6=>
Ext 0 v5 fun v7=>
Ext 1 v5 fun v8=>
∀J9:Jt,(∀eW:Value,∀dZ:Hp,(∀r9:Fr,
CF g 121 #[a0,eW] dZ (fun bj fe=>
ae .num .neq bj (iv 0) fun bD=>
Br bD (
R (.returned (.tuple #[(Value.int .u32 0),bj])) fe) (
R (.returned (.tuple #[eW,(iv 0)])) fe)) (aq R))→J9 [eW] dZ)→
Un .not v8 fun bR=>
Br bR (
Nil a0 fun bK=>
aa 0 bK fun ca=>
CF g 135 #[ca,(iv 1)] H6 (fun bQ jw=>
Un .not bQ fun cf=>
Br cf (
R (.returned (.tuple #[(Value.int .u32 0),(iv 9)])) jw) (
Nil a0 fun cC=>
aa 0 cC fun cv=>
Build Tryz.prog 161 [(0,a1),(1,a2),(2,a3)] fun cu=>
CF g 207 #[cv,cu] jw (fun cF jZ=>
JE J9 [cF] jZ) (aq R))) (aq R)) (
JE J9 [v7] H6)) (aq R))) (aq R))
theorem EO(h:L164 g a0 a1 a2 a3 H R):ai Tryz.prog g 164 #[a0,a1,a2,a3] H R:=
 ak (hn:=(hN 4 (.h 1 [11] [0] .e .e))) Tryz.func164 h (by kernel_rfl)
def L165(g:Gh)(a0 a1:Value)(H:Hp)(R:Rt):Prop:=
CF g 172 #[a0] H (fun v1 H2=>
aG v1 fun v3=>
∃(I4:Jt) (m5:Mt),JE I4 [(.slice none 0 0),(iv 0)] H2∧∀w8 w9:Value,∀H7:Hp,I4 [w8,w9] H7→∀KC:Fr,
ae .num .lss w9 v3 fun v10=>
Br v10 (
ah 1 v1 w9 fun v11=>
Ld H7 v11 fun bc=>
App Tryz.prog 57 2 32 (.agg #[(iv 0),(.slice none 0 0)]) H7 w8 bc fun bD eP=>
ae .num .add w9 (iv 1) fun bK=>
ay I4 m5 [bD,bK] eP [w8,w9] H7) (
DR H7 fun wS=>
Nil a0 fun bQ=>
aa 2 bQ fun v20=>
Ld wS v20 fun cf=>
CF g 88 #[a0] H7 (fun cC j3=>
aO j3 wS∧
CF g 166 #[cf,a1] j3 (fun cu ef=>
aO ef wS∧
CF g 227 #[cC,cu] ef (fun cG iV=>
aO iV wS∧
aG cG fun dA=>
∃(Vy:Jt) (m30:Mt),JE Vy [w8,(iv 0)] iV∧∀FY yE:Value,∀nm:Hp,Vy [FY,yE] nm→∀Ve:Fr,
ae .num .lss yE dA fun fA=>
Br fA (
ah 1 cG yE fun dQ=>
Ld nm dQ fun eF=>
App Tryz.prog 57 2 32 (.agg #[(iv 0),(.slice none 0 0)]) nm FY eF fun fw yC=>
ae .num .add yE (iv 1) fun gB=>
ay Vy m30 [fw,gB] yC [FY,yE] nm) (
CF g 228 #[FY] nm (fun gk A9=>
aG gk fun g9=>
R (.returned g9) A9) (aq R))) aU) aU) aU)) (aq R)
theorem EN(h:L165 g a0 a1 H R):ai Tryz.prog g 165 #[a0,a1] H R:=
 ak (hn:=(.n .e (.n .e (.n (.n .e (.n (.h 0 [5,13] [0,1,11,12] .e .e) .e)) (.n (.n (.h 0 [0,2,3,4,5,6,10,1,7,8,9] [] .e .e) (.n (.h 0 [5,31] [29,30] .e .e) .e)) .e))))) Tryz.func165 h (by kernel_rfl)
def L166(g:Gh)(a0 a1:Value)(H:Hp)(R:Rt):Prop:=
App Tryz.prog 3 1 8 (iv 0) H (.slice none 0 0) a0 fun v3 H4=>
DR H4 fun R5=>
ae .num .add a1 (iv 1) fun v6=>
ae .num .add a1 (iv 1) fun v7=>
ah 1 v3 v7 fun v8=>
Ld R5 v8 fun v9=>
ah 1 v3 a1 fun v10=>
Ld R5 v10 fun v11=>
ah 1 v3 a1 fun bc=>
St 1 H4 bc v9 fun c8=>
ah 1 v3 v6 fun bA=>
St 1 c8 bA v11 fun cY=>
R (.returned v3) cY
theorem EM(h:L166 g a0 a1 H R):ai Tryz.prog g 166 #[a0,a1] H R:=
 ak (hn:=(hN 3 (.n (.h 0 [0,1,2,3,4,5,6,7,8,9,10,11,12,13,14,15,16,17] [] .e .e) .e))) Tryz.func166 h (by kernel_rfl)
def L167(g:Gh)(a0 a1:Value)(H:Hp)(R:Rt):Prop:=
Nil a0 fun v1=>
aa 2 v1 fun v2=>
Ld H v2 fun v3=>
CF g 229 #[a1,v3] H (fun v4 H5=>
R (.returned v4) H5) (aq R)
theorem EL(h:L167 g a0 a1 H R):ai Tryz.prog g 167 #[a0,a1] H R:=
 ak (hn:=.e) Tryz.func167 h (by kernel_rfl)
def L171(g:Gh)(a0 a1:Value)(H:Hp)(R:Rt):Prop:=
CF g 206 #[a0,a1] H (fun v1 H2=>
ae .num .neq v1 (iv 0) fun v3=>
Br v3 (
R (.returned (.tuple #[(iv 0),v1])) H2) (
Nil a0 fun v4=>
aa 0 v4 fun v5=>
Ld H2 v5 fun v6=>
ah 1 v6 a1 fun v7=>
Ld H2 v7 fun v8=>
yw H2 v8 fun v9=>
R (.returned (.tuple #[v9,(iv 0)])) H2)) (aq R)
theorem EK(h:L171 g a0 a1 H R):ai Tryz.prog g 171 #[a0,a1] H R:=
 ak (hn:=.e) Tryz.func171 h (by kernel_rfl)
def L172(g:Gh)(a0:Value)(H:Hp)(R:Rt):Prop:=
DR H fun R1=>
Nil a0 fun v2=>
aa 2 v2 fun v3=>
Ld R1 v3 fun v4=>
CF g 88 #[a0] H (fun v5 H6=>
aO H6 R1∧
CF g 227 #[v5,v4] H6 (fun v7 H8=>
R (.returned v7) H8) aU) aU
theorem EJ(h:L172 g a0 H R):ai Tryz.prog g 172 #[a0] H R:=
 ak (hn:=(.n .e (.n (.h 0 [0,2,3,4,5,1,6,7] [] .e .e) .e))) Tryz.func172 h (by kernel_rfl)
def L173(g:Gh)(a0 a1:Value)(H:Hp)(R:Rt):Prop:=
Nil a0 fun v1=>
aa 0 v1 fun v2=>
Ld H v2 fun v3=>
CF g 231 #[v3,a1] H (fun v4 H5=>
Ext 0 v4 fun v6=>
Ext 1 v4 fun v7=>
bq H5 (.cells #[(iv 0),(Value.int .u32 0),(Value.int .u32 0)] 161 (0,0)) fun b8 H9=>
St 3 H9 (pt b8) v6 fun dJ=>
ae .num .eql v7 (iv 0) fun v11=>
R (.returned v11) dJ) (aq R)
theorem EI(h:L173 g a0 a1 H R):ai Tryz.prog g 173 #[a0,a1] H R:=
 ak (hn:=.e) Tryz.func173 h (by kernel_rfl)
def L174(g:Gh)(a0 a1:Value)(H:Hp)(R:Rt):Prop:=
bq H (.cells #[(iv 0),(Value.int .u32 0),(Value.int .u32 0)] 161 (0,0)) fun b1 H2=>
Nil a0 fun v3=>
aa 0 v3 fun v4=>
Ld H2 v4 fun v5=>
CF g 231 #[v5,a1] H2 (fun v6 H7=>
Ext 0 v6 fun v8=>
Ext 1 v6 fun v9=>
bq H7 (.cells #[(iv 0),(Value.int .u32 0),(Value.int .u32 0)] 161 (0,0)) fun qZ dZ=>
St 3 dZ (pt qZ) v8 fun fq=>
az 3 fq (pt qZ) fun bj=>
St 3 fq (pt b1) bj fun fe=>
az 3 fe (pt b1) fun bD=>
R (.returned bD) fe) (aq R)
theorem EH(h:L174 g a0 a1 H R):ai Tryz.prog g 174 #[a0,a1] H R:=
 ak (hn:=.e) Tryz.func174 h (by kernel_rfl)
def L175(g:Gh)(a0:Value)(H:Hp)(R:Rt):Prop:=
aG a0 fun v1=>
∃(I2:Jt) (m3:Mt),JE I2 [(iv 0)] H∧∀w6:Value,∀H5:Hp,I2 [w6] H5→∀Ab:Fr,
ae .num .lss w6 v1 fun v7=>
Br v7 (
ah 2 a0 w6 fun v8=>
az 2 H5 v8 fun v9=>
bq H5 (.cells #[(iv 0),(.slice none 0 0)] 57 (0,0)) fun qZ dZ=>
St 2 dZ (pt qZ) v9 fun fq=>
∀uU:Jt,(∀fT:Value,∀cY:Hp,(∀qM:Fr,
Br fT (
R (.returned (Value.bool false)) cY) (
ae .num .add w6 (iv 1) fun bK=>
ay I2 m3 [bK] cY [w6] H5))→uU [fT] cY)→
DR fq fun wS=>
az 2 wS (pt qZ) fun bQ=>
∀ZL:Hp,
CF (g.add ZL) 232 #[bQ] fq (fun cf fF=>
aO fF wS∧
Un .not cf fun cv=>
Br cv (
JE uU [(Value.bool true)] fF) (
aa 0 (pt qZ) fun cu=>
Ld wS cu fun cF=>
ah 2 a0 (iv 0) fun cG=>
aa 0 cG fun cS=>
Ld wS cS fun dA=>
ae .num .neq cF dA fun dy=>
aA (Value.bool false) (Value.bool true) dy fun v30=>
JE uU [v30] fF)) aU) (
R (.returned (Value.bool true)) H5)
theorem EG(h:L175 g a0 H R):ai Tryz.prog g 175 #[a0] H R:=
 ak (hn:=(.n .e (.n (.n .e (.n (.h 0 [7] [0,5,6] (.n .e (.n .e (.n (.n (.n .e (.h 1 [22] [0,5,6,7] (.h 1 [] [] (hr 0 [] 0 3 (.h 2 [3] [] (hr 0 [] 4 7 (.h 3 [11] [] .e .e)) (hr 0 [] 4 8 .e))) .e) .e)) .e) .e))) .e) .e)) .e))) Tryz.func175 h (by kernel_rfl)
def L176(g:Gh)(a0:Value)(H:Hp)(R:Rt):Prop:=
qg H fun v1 H2=>
aG a0 fun v3=>
∃(I4:Jt) (m5:Mt),JE I4 [(iv 0)] H2∧∀w8:Value,∀H7:Hp,I4 [w8] H7→∀KC:Fr,
ae .num .lss w8 v3 fun v9=>
Br v9 (
ah 2 a0 w8 fun v10=>
az 2 H7 v10 fun v11=>
bq H7 (.cells #[(iv 0),(.slice none 0 0)] 57 (0,0)) fun mV c8=>
St 2 c8 (pt mV) v11 fun fe=>
az 2 fe (pt mV) fun bD=>
CF g 233 #[v1,bD] fe (fun bR fS=>
ae .num .add w8 (iv 1) fun ca=>
ay I4 m5 [ca] fS [w8] H7) (aq R)) (
R (.returned v1) H7)
theorem EF(h:L176 g a0 H R):ai Tryz.prog g 176 #[a0] H R:=
 ak (hn:=(.n .e (.n .e (.n (.n .e (.n (.h 0 [9] [3,7,8] .e .e) .e)) .e)))) Tryz.func176 h (by kernel_rfl)
def L177(g:Gh)(a0 a1:Value)(H:Hp)(R:Rt):Prop:=
qg H fun v1 H2=>
Zg H2 a0 fun v3 H4=>
∃(I5:Jt) (m6:Mt),JE I5 [(iv 0)] H4∧∀w9:Value,∀H8:Hp,I5 [w9] H8→∀S9:Fr,
Ws H8 v3 fun v10 dZ=>
Ext 0 v10 fun bc=>
Br bc (
OO dZ v3 fun bj=>
Ext 1 bj fun bA=>
bq dZ (.cells #[(iv 0),(.slice none 0 0)] 57 (0,0)) fun qb eP=>
St 2 eP (pt qb) bA fun fS=>
az 2 fS (pt qb) fun ca=>
CF g 148 #[ca,a1,(Value.bool false)] fS (fun bQ jw=>
Ext 0 bQ fun cf=>
Ext 1 bQ fun cC=>
bq jw (.cells #[(iv 0),(.slice none 0 0)] 57 (0,0)) fun Vl iD=>
St 2 iD (pt Vl) cf fun ef=>
az 2 ef (pt qb) fun cG=>
CF g 148 #[cG,a1,(Value.bool true)] ef (fun cS nO=>
Ext 0 cS fun dy=>
Ext 1 cS fun v30=>
bq nO (.cells #[(iv 0),(.slice none 0 0)] 57 (0,0)) fun Jl nm=>
St 2 nm (pt Jl) dy fun iu=>
DR iu fun yO=>
az 2 yO (pt Vl) fun fA=>
az 2 yO (pt Jl) fun dQ=>
CF g 234 #[fA] iu (fun eF mg=>
aO mg yO∧
CF g 234 #[dQ] mg (fun gx qo=>
aO qo yO∧
∀J41:Jt,(∀w44:Value,∀AO:Hp,(∀ajX:Fr,
DR AO fun R45=>
az 2 R45 (pt Vl) fun iG=>
az 2 R45 (pt Jl) fun jT=>
gi (.string) AO v1 eF iG fun qn=>
aO qn R45∧
gi (.string) qn v1 gx jT fun yB=>
ay I5 m6 [w44] yB [w9] H8)→J41 [w44] AO)→
ae .str .neq eF gx fun ja=>
Br ja (
ae .num .add w9 (iv 1) fun jB=>
JE J41 [jB] qo) (
JE J41 [w9] qo)) aU) aU) (aq R)) (aq R)) (
R (.returned (.tuple #[v1,w9])) dZ)
theorem EE(h:L177 g a0 a1 H R):ai Tryz.prog g 177 #[a0,a1] H R:=
 ak (hn:=(.n .e (.n .e (.n (.n .e (.n (.h 0 [7] [1,6,18] (.n .e (.n .e (.n (hN 3 (.n (.h 0 [0,2,1,3,4,5] [] .e .e) (.h 1 [7] [1,6,10,12,14,15,18] .e (.h 0 [0,1,2,3,4,5,6,7] [] .e .e)))) .e))) .e) .e)) .e)))) Tryz.func177 h (by kernel_rfl)
def L178(g:Gh)(a0 a1:Value)(H:Hp)(R:Rt):Prop:=
CF g 101 #[a0] H (fun v1 H2=>
CF g 101 #[a1] H2 (fun v3 H4=>
ae .num .eql v1 (iv 4) fun v5=>
bM v5 false (fun t6=>
ae .num .eql v3 (iv 4) fun v7=>
(H4=H4∧v7=Value.bool t6)) (fun t6=>(Value.bool true)=Value.bool t6) fun t6=>∀CG:Fr,
bM (Value.bool t6) false (fun t9=>
aG a0 fun v10=>
aG a1 fun v11=>
ae .num .neq v10 v11 fun bc=>
(H4=H4∧bc=Value.bool t9)) (fun t9=>(Value.bool true)=Value.bool t9) fun t9=>∀Rc:Fr,
Br (Value.bool t9) (
R (.returned (iv 4)) H4) (
Dl v1 v3 fun bA=>
R (.returned bA) H4)) (aq R)) (aq R)
theorem ED(h:L178 g a0 a1 H R):ai Tryz.prog g 178 #[a0,a1] H R:=
 ak (hn:=(.n .e (.n .e (.n (.n (.h 0 [] [1] .e .e) .e) .e)))) Tryz.func178 h (by kernel_rfl)
def L179(g:Gh)(a0 a1:Value)(H:Hp)(R:Rt):Prop:=
aG a0 fun v1=>
∃(I2:Jt) (m3:Mt),JE I2 [(iv 0)] H∧∀w6:Value,∀H5:Hp,I2 [w6] H5→∀Ab:Fr,
ae .num .lss w6 v1 fun v7=>
Br v7 (
ah 1 a0 w6 fun v8=>
Ld H5 v8 fun v9=>
ae .num .eql a1 v9 fun v10=>
Br v10 (
R (.returned w6) H5) (
ae .num .add w6 (iv 1) fun v11=>
ay I2 m3 [v11] H5 [w6] H5)) (
R (.returned (iv (-1))) H5)
theorem EC(h:L179 g a0 a1 H R):ai Tryz.prog g 179 #[a0,a1] H R:=
 ak (hn:=(.n .e (.n (.n .e (.n (.h 0 [8] [0,1,7] .e .e) .e)) .e))) Tryz.func179 h (by kernel_rfl)
def L180(g:Gh)(a0 a1:Value)(H:Hp)(R:Rt):Prop:=
Ld H a0 fun v1=>
CF g 105 #[v1] H (fun v2 H3=>
Ld H3 a0 fun v4=>
Nil v4 fun v5=>
aa 2 v5 fun v6=>
Ld H3 v6 fun v7=>
St 1 H3 a1 v7 fun H8=>
R (.returned (.tuple #[])) H8) (aq R)
theorem rW(h:L180 g a0 a1 H R):sJ Tryz.prog g 180 #[a0,a1] H R:=
 T5 (hn:=.e) Tryz.func180 h (by kernel_rfl)
def L181(g:Gh)(a0:Value)(H:Hp)(R:Rt):Prop:=
DR H fun R1=>
Ld R1 a0 fun v2=>
Ld R1 a0 fun v3=>
Nil v3 fun v4=>
aa 1 v4 fun v5=>
Ld R1 v5 fun v6=>
∀F7:Hp,
CF (g.add F7) 182 #[v2,v6,(iv 1)] H (fun v8 H9=>
R (.returned v8) H9) aU
theorem uK(h:L181 g a0 H R):ai Tryz.prog g 181 #[a0] H R:=
 ak (hn:=(.n .e (.n (.h 1 [] [] (hr 0 [1] 0 7 .e) .e) .e))) Tryz.func181 h (by kernel_rfl)
def L182(g:Gh)(a0 a1 a2:Value)(H:Hp)(R:Rt):Prop:=
Nil a0 fun v1=>
aa 0 v1 fun v2=>
Ld H v2 fun v3=>
CF g 17 #[v3,a1] H (fun v4 H5=>
∀J6:Jt,(∀H8:Hp,(∀S9:Fr,
R (.returned v4) H8)→J6 [] H8)→
ae .num .eql v4 (iv 0) fun v9=>
Br v9 (
Nil a0 fun v10=>
aa 5 v10 fun v11=>
Ld H5 v11 fun bc=>
ae .num .add bc (iv 1) fun bj=>
Nil a0 fun bA=>
aa 5 bA fun bD=>
St 1 H5 bD bj fun eP=>
Nil a0 fun bK=>
aa 1 bK fun ca=>
Ld eP ca fun bQ=>
ae .num .add bQ a2 fun v20=>
Nil a0 fun cf=>
aa 1 cf fun cC=>
St 1 eP cC v20 fun j3=>
JE J6 [] j3) (
JE J6 [] H5)) (aq R)
theorem uJ(h:L182 g a0 a1 a2 H R):ai Tryz.prog g 182 #[a0,a1,a2] H R:=
 ak (hn:=(.n .e (.n .e (.h 1 [] [7] .e .e)))) Tryz.func182 h (by kernel_rfl)
def L183(g:Gh)(a0:Value)(H:Hp)(R:Rt):Prop:=
DR H fun R1=>
Ld R1 a0 fun v2=>
Ld R1 a0 fun v3=>
Nil v3 fun v4=>
aa 1 v4 fun v5=>
Ld R1 v5 fun v6=>
ae .num .sub v6 (iv 1) fun v7=>
∀F8:Hp,
CF (g.add F8) 182 #[v2,v7,(iv (-1))] H (fun v9 dJ=>
R (.returned v9) dJ) aU
theorem uI(h:L183 g a0 H R):ai Tryz.prog g 183 #[a0] H R:=
 ak (hn:=(.n .e (.n (.h 1 [] [] (hr 0 [1] 0 8 .e) .e) .e))) Tryz.func183 h (by kernel_rfl)
def L184(g:Gh)(a0:Value)(H:Hp)(R:Rt):Prop:=
ae .ptr .eql a0 (.pointer none) fun v1=>
Br v1 (
R (.returned (iv 0)) H) (
Nil a0 fun v2=>
aa 0 v2 fun v3=>
Ld H v3 fun v4=>
aG v4 fun v5=>
R (.returned v5) H)
theorem EB(h:L184 g a0 H R):ai Tryz.prog g 184 #[a0] H R:=
 ak (hn:=.e) Tryz.func184 h (by kernel_rfl)
def L185(g:Gh)(a0:Value)(H:Hp)(R:Rt):Prop:=
cc 3 1 8 (iv 0) H a0 a0 fun v1 H2=>
∃(I3:Jt) (m4:Mt),JE I3 [(iv 0)] H2∧∀w7:Value,∀H6:Hp,I3 [w7] H6→∀Pd:Fr,
ae .num .lss w7 a0 fun v8=>
Br v8 (
ah 1 v1 w7 fun v9=>
St 1 H6 v9 w7 fun dJ=>
ae .num .add w7 (iv 1) fun v11=>
ay I3 m4 [v11] dJ [w7] H6) (
R (.returned v1) H6)
theorem EA(h:L185 g a0 H R):ai Tryz.prog g 185 #[a0] H R:=
 ak (hn:=(.n .e (.n .e (.n (.n .e (.n (.h 0 [8] [3,7] .e .e) .e)) .e)))) Tryz.func185 h (by kernel_rfl)
def L186(g:Gh)(a0:Value)(H:Hp)(R:Rt):Prop:=
ae .num .lss a0 (iv 2) fun v1=>
bM v1 false (fun t2=>
ae .num .gtr a0 (iv 1048576) fun v3=>
(H=H∧v3=Value.bool t2)) (fun t2=>(Value.bool true)=Value.bool t2) fun t2=>∀Ab:Fr,
Br (Value.bool t2) (
R (.returned (.tuple #[(.pointer none),(iv 1)])) H) (
Build Tryz.prog 198 [(0,a0),(3,(iv 2))] fun v5=>
bq H (.cells (Value.cells v5) 198 (0,0)) fun b6 H7=>
∃(I8:Jt) (m9:Mt),JE I8 [(Value.int .u32 0)] H7∧∀eW:Value,∀dZ:Hp,I8 [eW] dZ→∀r9:Fr,
ae .num .lss eW (Value.int .u32 2) fun bj=>
Br bj (
Nil (pt b6) fun bA=>
aa 1 bA fun bD=>
Ld dZ bD fun bR=>
Build Tryz.prog 161 [(0,(iv (-1))),(1,eW),(2,eW)] fun bK=>
Build Tryz.prog 291 [(0,bK),(1,(Value.bool true)),(2,(Value.int .u8 255))] fun ca=>
av Tryz.prog 196 1 [(0,ca)] dZ fun bQ jw=>
App Tryz.prog 291 5 24 (.agg #[(iv 0),(Value.int .u32 0),(Value.int .u32 0),(Value.bool false),(Value.int .u8 0)]) jw bR bQ fun cv iD=>
Nil (pt b6) fun cF=>
aa 1 cF fun cG=>
St 1 iD cG cv fun iV=>
ae .num .add eW (Value.int .u32 1) fun dA=>
ay I8 m9 [dA] iV [eW] dZ) (
R (.returned (.tuple #[(pt b6),(iv 0)])) dZ))
theorem Ez(h:L186 g a0 H R):ai Tryz.prog g 186 #[a0] H R:=
 ak (hn:=(.n .e (.n (.n (.h 0 [] [1] .e .e) .e) (.n .e (.n (.n .e (.n (.h 0 [15] [4] .e .e) .e)) .e))))) Tryz.func186 h (by kernel_rfl)
def L187(g:Gh)(a0 a1:Value)(H:Hp)(R:Rt):Prop:=
CF g 235 #[a0] H (fun v1 H2=>
CF g 235 #[a1] H2 (fun v3 H4=>
ae .num .eql v1 (iv 4) fun v5=>
bM v5 false (fun t6=>
ae .num .eql v3 (iv 4) fun v7=>
(H4=H4∧v7=Value.bool t6)) (fun t6=>(Value.bool true)=Value.bool t6) fun t6=>∀CG:Fr,
bM (Value.bool t6) false (fun t9=>
aG a0 fun v10=>
aG a1 fun v11=>
ae .num .neq v10 v11 fun bc=>
(H4=H4∧bc=Value.bool t9)) (fun t9=>(Value.bool true)=Value.bool t9) fun t9=>∀Rc:Fr,
Br (Value.bool t9) (
R (.returned (iv 4)) H4) (
ae .num .neq v1 (iv 0) fun bA=>
Br bA (
R (.returned v1) H4) (
R (.returned v3) H4))) (aq R)) (aq R)
theorem Ey(h:L187 g a0 a1 H R):ai Tryz.prog g 187 #[a0,a1] H R:=
 ak (hn:=(.n .e (.n .e (.n (.n (.n (.h 0 [] [1] .e .e) .e) .e) .e)))) Tryz.func187 h (by kernel_rfl)
def L188(g:Gh)(a0 a1:Value)(H:Hp)(R:Rt):Prop:=
aG a0 fun v1=>
∃(I2:Jt) (m3:Mt),JE I2 [(iv 0)] H∧∀w6:Value,∀H5:Hp,I2 [w6] H5→∀Ab:Fr,
ae .num .lss w6 v1 fun v7=>
Br v7 (
ah 1 a0 w6 fun v8=>
Ld H5 v8 fun v9=>
ae .num .eql v9 a1 fun v10=>
Br v10 (
R (.returned w6) H5) (
ae .num .add w6 (iv 1) fun v11=>
ay I2 m3 [v11] H5 [w6] H5)) (
R (.returned (iv (-1))) H5)
theorem Ex(h:L188 g a0 a1 H R):ai Tryz.prog g 188 #[a0,a1] H R:=
 ak (hn:=(.n .e (.n (.n .e (.n (.h 0 [9] [1,7,8] .e .e) .e)) .e))) Tryz.func188 h (by kernel_rfl)
def L189(g:Gh)(a0 a1:Value)(H:Hp)(R:Rt):Prop:=
App Tryz.prog 3 1 8 (iv 0) H (.slice none 0 0) a0 fun v3 H4=>
DR H4 fun R5=>
ae .num .add a1 (iv 1) fun v6=>
ae .num .add a1 (iv 1) fun v7=>
ah 1 v3 v7 fun v8=>
Ld R5 v8 fun v9=>
ah 1 v3 a1 fun v10=>
Ld R5 v10 fun v11=>
ah 1 v3 a1 fun bc=>
St 1 H4 bc v9 fun c8=>
ah 1 v3 v6 fun bA=>
St 1 c8 bA v11 fun cY=>
R (.returned v3) cY
theorem Ew(h:L189 g a0 a1 H R):ai Tryz.prog g 189 #[a0,a1] H R:=
 ak (hn:=(hN 3 (.n (.h 0 [0,1,2,3,4,5,6,7,8,9,10,11,12,13,14,15,16,17] [] .e .e) .e))) Tryz.func189 h (by kernel_rfl)
def L190(g:Gh)(a0:Value)(H:Hp)(R:Rt):Prop:=
bq H (.cells (Value.cells a0) 57 (0,0)) fun b1 H2=>
∀J3:Jt,(∀w6:Value,∀H5:Hp,(∀Ab:Fr,
R (.returned w6) H5)→J3 [w6] H5)→
DR H2 fun R7=>
az 2 R7 (pt b1) fun v8=>
aa 0 (pt b1) fun v9=>
Ld R7 v9 fun v10=>
∀F11:Hp,
CF (g.add F11) 236 #[v10,(Value.bool false)] H2 (fun bc c8=>
aO c8 R7∧
∀F14:Hp,
CF (g.add F14) 36 #[v8,bc] c8 (fun bD eP=>
aO eP R7∧
Br bD (
JE J3 [(Value.bool true)] eP) (
az 2 R7 (pt b1) fun bK=>
aa 0 (pt b1) fun ca=>
Ld R7 ca fun bQ=>
∀ZL:Hp,
CF (g.add ZL) 236 #[bQ,(Value.bool true)] eP (fun cf fF=>
aO fF R7∧
∀F23:Hp,
CF (g.add F23) 36 #[bK,cf] fF (fun cu ef=>
aO ef R7∧
aA (Value.bool false) (Value.bool true) cu fun cG=>
JE J3 [cG] ef) aU) aU)) aU) aU
theorem Ev(h:L190 g a0 H R):ai Tryz.prog g 190 #[a0] H R:=
 ak (hn:=(.n .e (.h 1 [2] [] (.h 1 [] [] (hr 0 [] 0 5 (.h 2 [5] [] (hr 0 [] 6 5 (hr 3 [] 11 2 .e)) (hr 0 [] 6 7 .e))) .e) .e))) Tryz.func190 h (by kernel_rfl)
def L191(g:Gh)(a0 a1:Value)(H:Hp)(R:Rt):Prop:=
aG a0 fun v1=>
aG a1 fun v2=>
ae .num .neq v1 v2 fun v3=>
Br v3 (
R (.returned (Value.bool false)) H) (
∃(I4:Jt) (m5:Mt),JE I4 [(iv 0)] H∧∀w8:Value,∀H7:Hp,I4 [w8] H7→∀KC:Fr,
aG a0 fun v9=>
ae .num .lss w8 v9 fun v10=>
Br v10 (
ah 1 a0 w8 fun v11=>
Ld H7 v11 fun bc=>
ah 1 a1 w8 fun bj=>
Ld H7 bj fun bA=>
ae .num .neq bc bA fun bD=>
Br bD (
R (.returned (Value.bool false)) H7) (
ae .num .add w8 (iv 1) fun bR=>
ay I4 m5 [bR] H7 [w8] H7)) (
R (.returned (Value.bool true)) H7))
theorem Eu(h:L191 g a0 a1 H R):ai Tryz.prog g 191 #[a0,a1] H R:=
 ak (hn:=(.n .e (.n .e (.n (.n .e (.n (.h 0 [5] [0,1] .e .e) .e)) .e)))) Tryz.func191 h (by kernel_rfl)
def L192(g:Gh)(a0 a1 a2 a3:Value)(H:Hp)(R:Rt):Prop:=
bq H (.cells #[(iv 0),(.slice none 0 0)] 57 (0,0)) fun b1 H2=>
ae .num .eql a1 (Value.int .u32 0) fun v3=>
bM v3 false (fun t4=>
ae .num .eql a1 (Value.int .u32 1) fun v5=>
(H2=H2∧v5=Value.bool t4)) (fun t4=>(Value.bool true)=Value.bool t4) fun t4=>∀KC:Fr,
Br (Value.bool t4) (
ae .num .eql a1 (Value.int .u32 1) fun v7=>
CF g 236 #[a2,v7] H2 (fun v8 H9=>
St 2 H9 (pt b1) v8 fun dJ=>
az 2 dJ (pt b1) fun v11=>
R (.returned (.tuple #[v11,(Value.bool true)])) dJ) (aq R)) (
CF g 97 #[a0,a1] H2 (fun bc c8=>
Ext 0 bc fun bA=>
Ext 1 bc fun bD=>
bq c8 (.cells #[(iv 0),(Value.int .u32 0),(Value.int .u32 0)] 161 (0,0)) fun qY fS=>
St 3 fS (pt qY) bA fun dK=>
ae .num .neq bD (iv 0) fun bQ=>
bM bQ false (fun t20=>
ae .num .gtr a3 a2 fun cf=>
(dK=dK∧cf=Value.bool t20)) (fun t20=>(Value.bool true)=Value.bool t20) fun t20=>∀Rb:Fr,
bM (Value.bool t20) false (fun t23=>
aa 0 (pt qY) fun cu=>
Ld dK cu fun cF=>
ae .num .lss cF (iv 0) fun cG=>
(dK=dK∧cG=Value.bool t23)) (fun t23=>(Value.bool true)=Value.bool t23) fun t23=>∀ad4:Fr,
bM (Value.bool t23) false (fun t28=>
aa 0 (pt qY) fun dy=>
Ld dK dy fun v30=>
ae .num .geq v30 a2 fun eR=>
(dK=dK∧eR=Value.bool t28)) (fun t28=>(Value.bool true)=Value.bool t28) fun t28=>∀Vd:Fr,
Br (Value.bool t28) (
Build Tryz.prog 57 [] fun ff=>
St 2 dK (pt b1) ff fun nN=>
az 2 nN (pt b1) fun fA=>
R (.returned (.tuple #[fA,(Value.bool false)])) nN) (
aa 1 (pt qY) fun dQ=>
Ld dK dQ fun eF=>
ae .num .add a3 (iv 1) fun fy=>
CF g 192 #[a0,eF,a2,fy] dK (fun gx qo=>
Ext 0 gx fun eY=>
Ext 1 gx fun gB=>
bq qo (.cells #[(iv 0),(.slice none 0 0)] 57 (0,0)) fun b43 A9=>
St 2 A9 (pt b43) eY fun o9=>
aa 2 (pt qY) fun iG=>
Ld o9 iG fun jT=>
ae .num .add a3 (iv 1) fun jC=>
CF g 192 #[a0,jT,a2,jC] o9 (fun iF yA=>
Ext 0 iF fun jB=>
Ext 1 iF fun iW=>
bq yA (.cells #[(iv 0),(.slice none 0 0)] 57 (0,0)) fun KE KI=>
St 2 KI (pt KE) jB fun AM=>
Un .not gB fun po=>
bM po false (fun t57=>
Un .not iW fun rp=>
(AM=AM∧rp=Value.bool t57)) (fun t57=>(Value.bool true)=Value.bool t57) fun t57=>∀ajP:Fr,
Br (Value.bool t57) (
Build Tryz.prog 57 [] fun qj=>
St 2 AM (pt b1) qj fun uW=>
az 2 uW (pt b1) fun vi=>
R (.returned (.tuple #[vi,(Value.bool false)])) uW) (
aa 0 (pt qY) fun oo=>
Ld AM oo fun yW=>
az 2 AM (pt b43) fun sO=>
az 2 AM (pt KE) fun rY=>
CF g 237 #[yW,sO,rY] AM (fun vM RQ=>
St 2 RQ (pt b1) vM fun VH=>
az 2 VH (pt b1) fun sj=>
R (.returned (.tuple #[sj,(Value.bool true)])) VH) (aq R))) (aq R)) (aq R))) (aq R))
theorem oX(h:L192 g a0 a1 a2 a3 H R):ai Tryz.prog g 192 #[a0,a1,a2,a3] H R:=
 ak (hn:=(.n .e (.n (.n (.h 0 [] [1] .e .e) .e) (.n .e (.n (.n (.h 0 [] [1] .e .e) .e) (.n .e (.n .e (.n (.n (.h 0 [] [1] .e .e) .e) .e)))))))) Tryz.func192 h (by kernel_rfl)
def L194(g:Gh)(a0 a1 a2:Value)(H:Hp)(R:Rt):Prop:=
bq H (.cells (Value.cells a0) 5 (0,0)) fun b1 H2=>
bq H2 (.cells (Value.cells a1) 57 (0,0)) fun b3 H4=>
bq H4 (.cells (Value.cells a2) 57 (0,0)) fun b5 H6=>
bq H6 (.cells #[(iv 0),(.slice none 0 0)] 57 (0,0)) fun b7 H8=>
Ld H8 (pt b1) fun v9=>
ae .num .gtr v9 (Value.int .u8 15) fun v10=>
Br v10 (
Build Tryz.prog 57 [] fun v11=>
St 2 H8 (pt b7) v11 fun fq=>
az 2 fq (pt b7) fun bj=>
R (.returned (.tuple #[bj,(iv 1)])) fq) (
az 2 H8 (pt b3) fun bA=>
az 2 H8 (pt b5) fun bD=>
av Tryz.prog 28 2 [(0,bA),(1,bD)] H8 fun bR fS=>
CF g 220 #[bR] fS (fun ca fR=>
Un .not ca fun v20=>
Br v20 (
Build Tryz.prog 57 [] fun cf=>
St 2 fR (pt b7) cf fun fF=>
az 2 fF (pt b7) fun cv=>
R (.returned (.tuple #[cv,(iv 5)])) fF) (
aa 0 (pt b3) fun cu=>
Ld fR cu fun cF=>
CF g 212 #[cF,(.func (.func 239) #[] #[(pt b3),(pt b5),(pt b1)])] fR (fun cG iV=>
St 2 iV (pt b7) cG fun nO=>
az 2 nO (pt b7) fun dy=>
R (.returned (.tuple #[dy,(iv 0)])) nO) (aq R))) (aq R))
theorem Et(h:L194 g a0 a1 a2 H R):ai Tryz.prog g 194 #[a0,a1,a2] H R:=
 ak (hn:=.e) Tryz.func194 h (by kernel_rfl)
def L203(g:Gh)(a0 a1:Value)(H:Hp)(R:Rt):Prop:=
CF g 206 #[a0,a1] H (fun v1 H2=>
ae .num .neq v1 (iv 0) fun v3=>
Br v3 (
R (.returned (.tuple #[(.slice none 0 0),v1])) H2) (
Nil a0 fun v4=>
aa 0 v4 fun v5=>
Ld H2 v5 fun v6=>
ah 1 v6 a1 fun v7=>
Ld H2 v7 fun v8=>
CF g 251 #[v8] H2 (fun v9 dJ=>
CF g 250 #[v9] dJ (fun v11 fq=>
R (.returned (.tuple #[v11,(iv 0)])) fq) (aq R)) (aq R))) (aq R)
theorem Es(h:L203 g a0 a1 H R):ai Tryz.prog g 203 #[a0,a1] H R:=
 ak (hn:=.e) Tryz.func203 h (by kernel_rfl)
def L204(g:Gh)(a0 a1 a2:Value)(H:Hp)(R:Rt):Prop:=
Nil a0 fun v1=>
aa 0 v1 fun v2=>
CF g 174 #[v2,a1] H (fun v3 H4=>
bq H4 (.cells #[(iv 0),(Value.int .u32 0),(Value.int .u32 0)] 161 (0,0)) fun b5 H6=>
St 3 H6 (pt b5) v3 fun H7=>
aa 0 (pt b5) fun v8=>
Ld H7 v8 fun v9=>
ae .num .eql v9 a2 fun v10=>
Br v10 (
aa 1 (pt b5) fun v11=>
Ld H7 v11 fun bc=>
aa 2 (pt b5) fun bj=>
Ld H7 bj fun bA=>
R (.returned (.tuple #[bc,bA])) H7) (
R (.returned (.tuple #[a1,a1])) H7)) (aq R)
theorem Er(h:L204 g a0 a1 a2 H R):ai Tryz.prog g 204 #[a0,a1,a2] H R:=
 ak (hn:=.e) Tryz.func204 h (by kernel_rfl)
def L205(g:Gh)(a0 a1:Value)(H:Hp)(R:Rt):Prop:=
bq H (.cells (Value.cells a1) 161 (0,0)) fun b1 H2=>
aa 0 (pt b1) fun v3=>
Ld H2 v3 fun v4=>
CF g 206 #[a0,v4] H2 (fun v5 H6=>
ae .num .neq v5 (iv 0) fun v7=>
Br v7 (
R (.returned (.tuple #[(Value.int .u32 0),(Value.bool false)])) H6) (
Nil a0 fun v8=>
aa 0 v8 fun v9=>
Ld H6 v9 fun v10=>
aa 0 (pt b1) fun v11=>
Ld H6 v11 fun bc=>
ah 1 v10 bc fun bj=>
Ld H6 bj fun bA=>
az 3 H6 (pt b1) fun bD=>
kL Tryz.prog 161 (Value.int .u32 0) true H6 bA bD fun bR=>
Ext 0 bR fun bK=>
Ext 1 bR fun ca=>
R (.returned (.tuple #[bK,ca])) H6)) (aq R)
theorem Ep(h:L205 g a0 a1 H R):ai Tryz.prog g 205 #[a0,a1] H R:=
 ak (hn:=.e) Tryz.func205 h (by kernel_rfl)
def L206(g:Gh)(a0 a1:Value)(H:Hp)(R:Rt):Prop:=
ae .ptr .eql a0 (.pointer none) fun v1=>
Br v1 (
R (.returned (iv 10)) H) (
ae .num .lss a1 (iv 0) fun v2=>
bM v2 false (fun t3=>
Nil a0 fun v4=>
aa 0 v4 fun v5=>
Ld H v5 fun v6=>
aG v6 fun v7=>
ae .num .geq a1 v7 fun v8=>
(H=H∧v8=Value.bool t3)) (fun t3=>(Value.bool true)=Value.bool t3) fun t3=>∀S8:Fr,
Br (Value.bool t3) (
R (.returned (iv 2)) H) (
R (.returned (iv 0)) H))
theorem Eo(h:L206 g a0 a1 H R):ai Tryz.prog g 206 #[a0,a1] H R:=
 ak (hn:=(.n .e (.n (.n (.n .e (.n .e (.n (.h 0 [] [1] .e .e) .e))) .e) .e))) Tryz.func206 h (by kernel_rfl)
def L207(g:Gh)(a0 a1:Value)(H:Hp)(R:Rt):Prop:=
bq H (.cells (Value.cells a1) 161 (0,0)) fun b1 H2=>
DR H2 fun R3=>
Nil a0 fun v4=>
aa 0 v4 fun v5=>
Ld R3 v5 fun v6=>
az 3 R3 (pt b1) fun v7=>
CF g 252 #[v6,v7] H2 (fun v8 H9=>
aO H9 R3∧
Ext 0 v8 fun v10=>
Ext 1 v8 fun v11=>
∃(uV:Jt) (Ml:Mt),JE uV [] H9∧∀cY:Hp,uV [] cY→∀qM:Fr,
bL .i64 v10 fun bR=>
Nil a0 fun bK=>
aa 2 bK fun ca=>
Ld cY ca fun bQ=>
aG bQ fun v20=>
ae .num .geq bR v20 fun cf=>
Br cf (
Nil a0 fun cC=>
aa 2 cC fun cv=>
Ld cY cv fun cu=>
av Tryz.prog 113 1 [(0,(Value.int .i32 0))] cY fun cF jZ=>
App Tryz.prog 21 1 4 (Value.int .i32 0) jZ cu cF fun dy ju=>
Nil a0 fun eR=>
aa 2 eR fun dR=>
St 1 ju dR dy fun iu=>
Nil a0 fun fc=>
aa 3 fc fun fA=>
Ld iu fA fun dQ=>
av Tryz.prog 113 1 [(0,(Value.int .i32 0))] iu fun eF mg=>
App Tryz.prog 21 1 4 (Value.int .i32 0) mg dQ eF fun eY q7=>
Nil a0 fun gk=>
aa 3 gk fun gj=>
St 1 q7 gj eY fun o9=>
ay uV Ml [] o9 [] cY) (
DR cY fun R46=>
Nil a0 fun jT=>
aa 2 jT fun jC=>
Ld R46 jC fun iF=>
Nil a0 fun ja=>
aa 3 ja fun jB=>
Ld R46 jB fun iW=>
ah 1 iF v10 fun l7=>
St 1 cY l7 (Value.int .i32 0) fun KI=>
ah 1 iW v10 fun kT=>
St 1 KI kT (Value.int .i32 0) fun vF=>
aa 1 (pt b1) fun qs=>
Ld vF qs fun rp=>
CF g 139 #[a0,rp] vF (fun Bl H60=>
aa 2 (pt b1) fun xj=>
Ld H60 xj fun vi=>
CF g 139 #[a0,vi] H60 (fun oo xe=>
DR xe fun wR=>
Nil a0 fun rY=>
aa 1 rY fun vM=>
Ld wR vM fun vL=>
az 3 wR (pt b1) fun xh=>
CF g 141 #[vL,xh,v10] xe (fun sj Kk=>
R (.returned v10) Kk) aU) (aq R)) (aq R))) aU
theorem En(h:L207 g a0 a1 H R):ai Tryz.prog g 207 #[a0,a1] H R:=
 ak (hn:=(.n .e (.n (.h 0 [0,1,2,3,4,5,6,7,8,9,10] [] .e .e) (.n (.n (.h 0 [] [0,3,5] .e .e) .e) (.n (.h 0 [0,1,2,3,4,5,6,7,8,9,10,11,12,13] [] .e .e) (.n .e (.n .e (.n (.h 0 [0,1,2,3,4,5,6] [] .e .e) .e)))))))) Tryz.func207 h (by kernel_rfl)
def L208(g:Gh)(a0 a1:Value)(H:Hp)(R:Rt):Prop:=
bq H (.cells (Value.cells a1) 161 (0,0)) fun b1 H2=>
aa 0 (pt b1) fun v3=>
Ld H2 v3 fun v4=>
ae .num .lss v4 (iv 0) fun v5=>
bM v5 false (fun t6=>
aa 0 (pt b1) fun v7=>
Ld H2 v7 fun v8=>
ae .num .geq v8 (iv 64) fun v9=>
(H2=H2∧v9=Value.bool t6)) (fun t6=>(Value.bool true)=Value.bool t6) fun t6=>∀r9:Fr,
Br (Value.bool t6) (
R (.returned (iv 2)) H2) (
∀Vx:Jt,(∀kP:Value,∀c8:Hp,(∀IP:Fr,
Br kP (
R (.returned (iv 3)) c8) (
R (.returned (iv 0)) c8))→Vx [kP] c8)→
aa 1 (pt b1) fun bD=>
Ld H2 bD fun bR=>
CF g 253 #[a0,bR] H2 (fun bK dK=>
Un .not bK fun bQ=>
Split bQ false (
aa 2 (pt b1) fun v20=>
Ld dK v20 fun cf=>
CF g 253 #[a0,cf] dK (fun cC j3=>
Un .not cC fun cu=>
aA (Value.bool false) (Value.bool true) cu fun cF=>
JE Vx [cF] j3) (aq R)) (
aA (Value.bool true) (Value.bool true) undef fun cG=>
JE Vx [cG] dK)) (aq R))
theorem Em(h:L208 g a0 a1 H R):ai Tryz.prog g 208 #[a0,a1] H R:=
 ak (hn:=(.n .e (.n (.n (.n (.h 0 [] [1] .e .e) (.n .e (.h 1 [14] [] .e .e))) .e) .e))) Tryz.func208 h (by kernel_rfl)
def L209(g:Gh)(a0 a1:Value)(H:Hp)(R:Rt):Prop:=
∀J1:Jt,(∀w4:Value,∀H3:Hp,(∀gs2:Fr,
Br w4 (
R (.returned (iv 3)) H3) (
R (.returned (iv 0)) H3))→J1 [w4] H3)→
ae .num .leq a1 (Value.int .u32 1) fun v5=>
Split v5 false (
CF g 253 #[a0,a1] H (fun v6 H7=>
Un .not v6 fun v8=>
aA (Value.bool false) (Value.bool true) v8 fun v9=>
JE J1 [v9] H7) (aq R)) (
aA (Value.bool true) (Value.bool true) undef fun v10=>
JE J1 [v10] H)
theorem El(h:L209 g a0 a1 H R):ai Tryz.prog g 209 #[a0,a1] H R:=
 ak (hn:=(.n .e (.n (.h 1 [12] [] .e .e) .e))) Tryz.func209 h (by kernel_rfl)
def L210(g:Gh)(a0 a1:Value)(H:Hp)(R:Rt):Prop:=
ae .ptr .eql a0 (.pointer none) fun v1=>
Br v1 (
R (.returned (iv 10)) H) (
CF g 209 #[a0,a1] H (fun v2 H3=>
ae .num .neq v2 (iv 0) fun v4=>
Br v4 (
R (.returned v2) H3) (
Nil a0 fun v5=>
aa 1 v5 fun v6=>
Ld H3 v6 fun v7=>
Build Tryz.prog 291 [] fun v8=>
ah 5 v7 a1 fun v9=>
St 5 H3 v9 v8 fun dJ=>
Nil a0 fun v11=>
aa 2 v11 fun bc=>
Ld dJ bc fun bj=>
av Tryz.prog 27 1 [(0,a1)] dJ fun bA cY=>
App Tryz.prog 77 1 4 (Value.int .u32 0) cY bj bA fun ca fR=>
Nil a0 fun v20=>
aa 2 v20 fun cf=>
St 1 fR cf ca fun fF=>
Nil a0 fun cv=>
aa 3 cv fun cu=>
Ld fF cu fun cF=>
ae .num .sub cF (iv 1) fun cG=>
Nil a0 fun cS=>
aa 3 cS fun dA=>
St 1 fF dA cG fun kM=>
R (.returned (iv 0)) kM)) (aq R))
theorem Ek(h:L210 g a0 a1 H R):ai Tryz.prog g 210 #[a0,a1] H R:=
 ak (hn:=.e) Tryz.func210 h (by kernel_rfl)
def L211(g:Gh)(a0:Value)(H:Hp)(R:Rt):Prop:=
ae .num .lss a0 (iv 0) fun v1=>
Br v1 (
R (.returned (iv 1)) H) (
ae .num .gtr a0 (iv 16) fun v2=>
Br v2 (
R (.returned (iv 6)) H) (
R (.returned (iv 0)) H))
theorem Ej(h:L211 g a0 H R):ai Tryz.prog g 211 #[a0] H R:=
 ak (hn:=.e) Tryz.func211 h (by kernel_rfl)
def L212(g:Gh)(a0 a1:Value)(H:Hp)(R:Rt):Prop:=
bq H (.cells #[(iv 0),(.slice none 0 0)] 57 (0,0)) fun b1 H2=>
CF g 254 #[a0] H2 (fun v3 H4=>
cc 50 1 8 (Value.int .u64 0) H4 v3 v3 fun v5 H6=>
Build Tryz.prog 57 [(0,a0),(1,v5)] fun v7=>
bq H6 (.cells #[(iv 0),(.slice none 0 0)] 57 (0,0)) fun b8 H9=>
St 2 H9 (pt b8) v7 fun dJ=>
aa 1 (pt b8) fun v11=>
Ld dJ v11 fun bc=>
aG bc fun bj=>
∃(OI:Jt) (Xc:Mt),JE OI [(iv 0)] dJ∧∀nQ:Value,∀fS:Hp,OI [nQ] fS→∀Vg:Fr,
ae .num .lss nQ bj fun bQ=>
Br bQ (
DR fS fun A6=>
aa 1 (pt b8) fun cf=>
Ld A6 cf fun cC=>
fx Tryz.prog g a1 #[nQ] fS (fun cv iD=>
aO iD A6∧
CF g 255 #[a0] iD (fun cF jZ=>
aO jZ A6∧
ae .num .and cv cF fun cS=>
ah 1 cC nQ fun dA=>
St 1 jZ dA cS fun kM=>
ae .num .add nQ (iv 1) fun v30=>
ay OI Xc [v30] kM [nQ] fS) aU) aU) (
az 2 fS (pt b8) fun eR=>
St 2 fS (pt b1) eR fun nm=>
az 2 nm (pt b1) fun ff=>
R (.returned ff) nm)) (aq R)
theorem Ei(h:L212 g a0 a1 H R):ai Tryz.prog g 212 #[a0,a1] H R:=
 ak (hn:=(.n .e (.n .e (.n (.n .e (.n (.h 0 [15] [0,1,4,5,14] (.n .e (.n .e (.n (.n (.n .e (.h 0 [0,1,2,3,4,6,5,7,8,9,10] [] .e .e)) .e) .e))) .e) .e)) .e)))) Tryz.func212 h (by kernel_rfl)
def L213(g:Gh)(a0 a1:Value)(H:Hp)(R:Rt):Prop:=
Ld H a1 fun v1=>
Br v1 (
R (.returned (Value.int .u64 18446744073709551615)) H) (
R (.returned (Value.int .u64 0)) H)
theorem Eh(h:L213 g a0 a1 H R):ai Tryz.prog g 213 #[a0,a1] H R:=
 ak (hn:=.e) Tryz.func213 h (by kernel_rfl)
def L214(g:Gh)(a0 a1:Value)(H:Hp)(R:Rt):Prop:=
bq H (.cells (Value.cells a0) 57 (0,0)) fun b1 H2=>
az 2 H2 (pt b1) fun v3=>
av Tryz.prog 28 1 [(0,v3)] H2 fun v4 H5=>
CF g 220 #[v4] H5 (fun v6 H7=>
Un .not v6 fun v8=>
Br v8 (
R (.returned (iv 5)) H7) (
ae .num .lss a1 (iv 0) fun v9=>
bM v9 false (fun t10=>
aa 0 (pt b1) fun v11=>
Ld H7 v11 fun bc=>
ae .num .geq a1 bc fun bj=>
(H7=H7∧bj=Value.bool t10)) (fun t10=>(Value.bool true)=Value.bool t10) fun t10=>∀qM:Fr,
Br (Value.bool t10) (
R (.returned (iv 2)) H7) (
R (.returned (iv 0)) H7))) (aq R)
theorem Eg(h:L214 g a0 a1 H R):ai Tryz.prog g 214 #[a0,a1] H R:=
 ak (hn:=(.n .e (.n (.n (.n .e (.n .e (.n (.h 0 [] [1] .e .e) .e))) .e) .e))) Tryz.func214 h (by kernel_rfl)
def L215(g:Gh)(a0 a1 a2:Value)(H:Hp)(R:Rt):Prop:=
bq H (.cells (Value.cells a0) 57 (0,0)) fun b1 H2=>
bq H2 (.cells (Value.cells a1) 3 (0,0)) fun b3 H4=>
bq H4 (.cells (Value.cells a2) 4 (0,0)) fun b5 H6=>
bq H6 (.cells #[(iv 0),(.slice none 0 0)] 57 (0,0)) fun b7 H8=>
aa 0 (pt b1) fun v9=>
Ld H8 v9 fun v10=>
CF g 212 #[v10,(.func (.func 256) #[] #[(pt b3),(pt b5),(pt b1)])] H8 (fun v11 fq=>
St 2 fq (pt b7) v11 fun c8=>
az 2 c8 (pt b7) fun bA=>
R (.returned bA) c8) (aq R)
theorem Ef(h:L215 g a0 a1 a2 H R):ai Tryz.prog g 215 #[a0,a1,a2] H R:=
 ak (hn:=.e) Tryz.func215 h (by kernel_rfl)
def L216(g:Gh)(a0 a1 a2 a3 a4:Value)(H:Hp)(R:Rt):Prop:=
bq H (.cells #[(iv 0),(.slice none 0 0)] 57 (0,0)) fun b1 H2=>
Ld H2 a1 fun v3=>
qi (.int .u32) (.agg #[(iv 0),(.slice none 0 0)]) true H2 v3 a0 fun v4=>
Ext 0 v4 fun v5=>
Ext 1 v4 fun v6=>
bq H2 (.cells #[(iv 0),(.slice none 0 0)] 57 (0,0)) fun b7 H8=>
St 2 H8 (pt b7) v5 fun H9=>
Br v6 (
az 2 H9 (pt b7) fun v10=>
St 2 H9 (pt b1) v10 fun dZ=>
az 2 dZ (pt b1) fun bc=>
R (.returned bc) dZ) (
Ld H9 a2 fun bj=>
CF g 217 #[bj,a0] H9 (fun bA cY=>
bq cY (.cells #[(iv 0),(Value.int .u32 0),(Value.int .u32 0)] 161 (0,0)) fun qY fS=>
St 3 fS (pt qY) bA fun dK=>
DR dK fun uB=>
Ld uB a3 fun v20=>
az 3 uB (pt qY) fun cf=>
Ld uB a4 fun cC=>
aa 1 (pt qY) fun cv=>
Ld uB cv fun cu=>
Ld uB a4 fun cF=>
aa 2 (pt qY) fun cG=>
Ld uB cG fun cS=>
∀F28:Hp,
fx Tryz.prog (g.add F28) cC #[cu] dK (fun dy ju=>
aO ju uB∧
∀F31:Hp,
fx Tryz.prog (g.add F31) cF #[cS] ju (fun dR iu=>
aO iu uB∧
∀F34:Hp,
fx Tryz.prog (g.add F34) v20 #[cf,dy,dR] iu (fun fA qp=>
aO qp uB∧
bq qp (.cells #[(iv 0),(.slice none 0 0)] 57 (0,0)) fun On mg=>
∀F39:Hp,
St 2 mg (pt On) fA fun qo=>
Ld qo a1 fun eY=>
az 2 qo (pt On) fun gB=>
gi (.int .u32) qo eY a0 gB fun AO=>
az 2 AO (pt On) fun gj=>
St 2 AO (pt b1) gj fun o9=>
az 2 o9 (pt b1) fun iG=>
R (.returned iG) o9) aU) aU) aU) (aq R))
theorem uH(h:L216 g a0 a1 a2 a3 a4 H R):ai Tryz.prog g 216 #[a0,a1,a2,a3,a4] H R:=
 ak (hn:=(hN 3 (.n (.h 1 [] [] (hr 0 [] 0 5 (hr 0 [] 6 3 (.h 1 [11] [] (.h 0 [5] [] (hr 0 [] 9 4 .e) .e) .e))) .e) .e))) Tryz.func216 h (by kernel_rfl)
def L217(g:Gh)(a0 a1:Value)(H:Hp)(R:Rt):Prop:=
bq H (.cells #[(iv 0),(Value.int .u32 0),(Value.int .u32 0)] 161 (0,0)) fun b1 H2=>
CF g 97 #[a0,a1] H2 (fun v3 H4=>
Ext 0 v3 fun v5=>
Ext 1 v3 fun v6=>
bq H4 (.cells #[(iv 0),(Value.int .u32 0),(Value.int .u32 0)] 161 (0,0)) fun b7 H8=>
St 3 H8 (pt b7) v5 fun H9=>
az 3 H9 (pt b7) fun v10=>
St 3 H9 (pt b1) v10 fun dZ=>
az 3 dZ (pt b1) fun bc=>
R (.returned bc) dZ) (aq R)
theorem Ee(h:L217 g a0 a1 H R):ai Tryz.prog g 217 #[a0,a1] H R:=
 ak (hn:=.e) Tryz.func217 h (by kernel_rfl)
def L218(g:Gh)(a0 a1:Value)(H:Hp)(R:Rt):Prop:=
Ld H a1 fun v1=>
CF g 219 #[v1,a0] H (fun v2 H3=>
R (.returned v2) H3) (aq R)
theorem Ed(h:L218 g a0 a1 H R):ai Tryz.prog g 218 #[a0,a1] H R:=
 ak (hn:=.e) Tryz.func218 h (by kernel_rfl)
def L219(g:Gh)(a0 a1:Value)(H:Hp)(R:Rt):Prop:=
ae .num .geq a0 (iv 6) fun v1=>
Br v1 (
bL .u64 a1 fun v2=>
ae .num .sub a0 (iv 6) fun v3=>
ae .num .shr v2 v3 fun v4=>
ae .num .and v4 (Value.int .u64 1) fun v5=>
Un .neg v5 fun v6=>
R (.returned v6) H) (
∃(I7:Jt) (m8:Mt),JE I7 [(Value.int .u64 0),(iv 0)] H∧∀jy eW:Value,∀dJ:Hp,I7 [jy,eW] dJ→∀S8:Fr,
ae .num .lss eW (iv 64) fun bj=>
Br bj (
ae .num .shr eW a0 fun bA=>
ae .num .and bA (iv 1) fun bD=>
bL .u64 bD fun bR=>
ae .num .shl bR eW fun bK=>
ae .num .or jy bK fun ca=>
ae .num .add eW (iv 1) fun bQ=>
ay I7 m8 [ca,bQ] dJ [jy,eW] dJ) (
R (.returned jy) dJ))
theorem Ec(h:L219 g a0 a1 H R):ai Tryz.prog g 219 #[a0,a1] H R:=
 ak (hn:=(hN 3 (.n (.n .e (.n (.h 0 [5,16] [0] .e .e) .e)) .e))) Tryz.func219 h (by kernel_rfl)
def L220(g:Gh)(a0:Value)(H:Hp)(R:Rt):Prop:=
aG a0 fun v1=>
∃(I2:Jt) (m3:Mt),JE I2 [(iv 0)] H∧∀w6:Value,∀H5:Hp,I2 [w6] H5→∀Ab:Fr,
ae .num .lss w6 v1 fun v7=>
Br v7 (
ah 2 a0 w6 fun v8=>
az 2 H5 v8 fun v9=>
bq H5 (.cells #[(iv 0),(.slice none 0 0)] 57 (0,0)) fun qZ dZ=>
St 2 dZ (pt qZ) v9 fun fq=>
∀uU:Jt,(∀fT:Value,∀cY:Hp,(∀qM:Fr,
Br fT (
R (.returned (Value.bool false)) cY) (
ae .num .add w6 (iv 1) fun bK=>
ay I2 m3 [bK] cY [w6] H5))→uU [fT] cY)→
DR fq fun wS=>
az 2 wS (pt qZ) fun bQ=>
∀ZL:Hp,
CF (g.add ZL) 232 #[bQ] fq (fun cf fF=>
aO fF wS∧
Un .not cf fun cv=>
Br cv (
JE uU [(Value.bool true)] fF) (
aa 0 (pt qZ) fun cu=>
Ld wS cu fun cF=>
ah 2 a0 (iv 0) fun cG=>
aa 0 cG fun cS=>
Ld wS cS fun dA=>
ae .num .neq cF dA fun dy=>
aA (Value.bool false) (Value.bool true) dy fun v30=>
JE uU [v30] fF)) aU) (
R (.returned (Value.bool true)) H5)
theorem Eb(h:L220 g a0 H R):ai Tryz.prog g 220 #[a0] H R:=
 ak (hn:=(.n .e (.n (.n .e (.n (.h 0 [7] [0,5,6] (.n .e (.n .e (.n (.n (.n .e (.h 1 [22] [0,5,6,7] (.h 1 [] [] (hr 0 [] 0 3 (.h 2 [3] [] (hr 0 [] 4 7 (.h 3 [11] [] .e .e)) (hr 0 [] 4 8 .e))) .e) .e)) .e) .e))) .e) .e)) .e))) Tryz.func220 h (by kernel_rfl)
def L221(g:Gh)(a0 a1 a2 a3:Value)(H:Hp)(R:Rt):Prop:=
aa 1 a1 fun v1=>
Ld H v1 fun v2=>
ah 1 v2 a0 fun v3=>
Ld H v3 fun v4=>
aa 1 a2 fun v5=>
Ld H v5 fun v6=>
ah 1 v6 a0 fun v7=>
Ld H v7 fun v8=>
ae .num .and v4 v8 fun v9=>
aa 1 a1 fun v10=>
Ld H v10 fun v11=>
ah 1 v11 a0 fun bc=>
Ld H bc fun bj=>
Un .xor bj fun bA=>
aa 1 a3 fun bD=>
Ld H bD fun bR=>
ah 1 bR a0 fun bK=>
Ld H bK fun ca=>
ae .num .and bA ca fun bQ=>
ae .num .or v9 bQ fun v20=>
R (.returned v20) H
theorem Ea(h:L221 g a0 a1 a2 a3 H R):ai Tryz.prog g 221 #[a0,a1,a2,a3] H R:=
 ak (hn:=.e) Tryz.func221 h (by kernel_rfl)
def L222(g:Gh)(a0 a1:Value)(H:Hp)(R:Rt):Prop:=
aG a0 fun v1=>
aG a1 fun v2=>
ae .num .neq v1 v2 fun v3=>
Br v3 (
R (.returned (Value.bool false)) H) (
aG a0 fun v4=>
∃(I5:Jt) (m6:Mt),JE I5 [(iv 0)] H∧∀w9:Value,∀H8:Hp,I5 [w9] H8→∀S9:Fr,
ae .num .lss w9 v4 fun v10=>
Br v10 (
ah 1 a0 w9 fun v11=>
Ld H8 v11 fun bc=>
ah 1 a1 w9 fun bj=>
Ld H8 bj fun bA=>
ae .num .neq bc bA fun bD=>
Br bD (
R (.returned (Value.bool false)) H8) (
ae .num .add w9 (iv 1) fun bR=>
ay I5 m6 [bR] H8 [w9] H8)) (
R (.returned (Value.bool true)) H8))
theorem D9(h:L222 g a0 a1 H R):ai Tryz.prog g 222 #[a0,a1] H R:=
 ak (hn:=(.n .e (.n .e (.n (.n .e (.n (.h 0 [13] [0,1,12] .e .e) .e)) .e)))) Tryz.func222 h (by kernel_rfl)
def L223(g:Gh)(a0 a1:Value)(H:Hp)(R:Rt):Prop:=
bq H (.cells (Value.cells a0) 233 (0,0)) fun b1 H2=>
bq H2 (.cells (Value.cells a1) 233 (0,0)) fun b3 H4=>
aa 1 (pt b1) fun v5=>
Ld H4 v5 fun v6=>
aa 1 (pt b3) fun v7=>
Ld H4 v7 fun v8=>
ae .num .lss v6 v8 fun v9=>
bM v9 false (fun t10=>
aa 1 (pt b1) fun v11=>
Ld H4 v11 fun bc=>
aa 1 (pt b3) fun bj=>
Ld H4 bj fun bA=>
ae .num .eql bc bA fun bD=>
bM bD true (fun t16=>
aa 0 (pt b1) fun bK=>
Ld H4 bK fun ca=>
aa 0 (pt b3) fun bQ=>
Ld H4 bQ fun v20=>
ae .num .lss ca v20 fun cf=>
(H4=H4∧cf=Value.bool t16)) (fun t16=>(Value.bool false)=Value.bool t16) fun t16=>∀Rb:Fr,
(H4=H4∧(Value.bool t16)=Value.bool t10)) (fun t10=>(Value.bool true)=Value.bool t10) fun t10=>∀Ra:Fr,
R (.returned (Value.bool t10)) H4
theorem D8(h:L223 g a0 a1 H R):ai Tryz.prog g 223 #[a0,a1] H R:=
 ak (hn:=(.n .e (.n (.h 0 [] [1] .e .e) .e))) Tryz.func223 h (by kernel_rfl)
def L224(g:Gh)(a0 a1:Value)(H:Hp)(R:Rt):Prop:=
bq H (.cells #[(iv 0),(.slice none 0 0)] 57 (0,0)) fun b1 H2=>
ae .num .shl (iv 1) a0 fun v3=>
cc 4 1 1 (Value.bool false) H2 v3 v3 fun v4 H5=>
∃(I6:Jt) (m7:Mt),JE I6 [(iv 0)] H5∧∀eo:Value,∀H9:Hp,I6 [eo] H9→∀CG:Fr,
aG v4 fun v11=>
ae .num .lss eo v11 fun bc=>
Br bc (
ae .num .shr eo a1 fun bj=>
ae .num .rem bj (iv 2) fun bA=>
ae .num .eql bA (iv 1) fun bD=>
ah 1 v4 eo fun bR=>
St 1 H9 bR bD fun fS=>
ae .num .add eo (iv 1) fun ca=>
ay I6 m7 [ca] fS [eo] H9) (
CF g 98 #[a0,v4] H9 (fun bQ jw=>
St 2 jw (pt b1) bQ fun dN=>
az 2 dN (pt b1) fun cC=>
R (.returned cC) dN) (aq R))
theorem D7(h:L224 g a0 a1 H R):ai Tryz.prog g 224 #[a0,a1] H R:=
 ak (hn:=(.n .e (.n .e (.n (.n .e (.n (.h 0 [6] [0,1,4,5] .e .e) .e)) .e)))) Tryz.func224 h (by kernel_rfl)
def L225(g:Gh)(a0 a1 a2 a3:Value)(H:Hp)(R:Rt):Prop:=
CF g 113 #[a0,a1] H (fun v1 H2=>
Un .not v1 fun v3=>
Br v3 (
R (.returned (iv 2)) H2) (
∀J4:Jt,(∀w7:Value,∀H6:Hp,(∀Pd:Fr,
Br w7 (
R (.returned (iv 3)) H6) (
∀J8:Jt,(∀jy:Value,∀dJ:Hp,(∀S8:Fr,
Br jy (
R (.returned (iv 4)) dJ) (
R (.returned (iv 0)) dJ))→J8 [jy] dJ)→
DR H6 fun R12=>
ae .num .neq a2 a3 fun bj=>
Br bj (
Nil a0 fun bA=>
aa 6 bA fun bD=>
Ld R12 bD fun bR=>
ah 1 bR a1 fun bK=>
Ld R12 bK fun ca=>
∀F19:Hp,
CF (g.add F19) 257 #[a0,a2] H6 (fun v20 dN=>
aO dN R12∧
∀F22:Hp,
CF (g.add F22) 257 #[a0,a3] dN (fun cv iD=>
aO iD R12∧
Zu v20 cv fun cF=>
ae .num .geq ca cF fun cG=>
aA (Value.bool true) cG (Value.bool false) fun cS=>
JE J8 [cS] iD) aU) aU) (
JE J8 [(Value.bool false)] H6)))→J4 [w7] H6)→
Nil a0 fun dA=>
aa 0 dA fun dy=>
CF g 173 #[dy,a2] H2 (fun v30 j6=>
Un .not v30 fun dR=>
Split dR false (
Nil a0 fun ff=>
aa 0 ff fun fc=>
CF g 173 #[fc,a3] j6 (fun fA qp=>
Un .not fA fun eF=>
aA (Value.bool false) (Value.bool true) eF fun fy=>
JE J4 [fy] qp) (aq R)) (
aA (Value.bool true) (Value.bool true) undef fun gx=>
JE J4 [gx] j6)) (aq R))) (aq R)
theorem D6(h:L225 g a0 a1 a2 a3 H R):ai Tryz.prog g 225 #[a0,a1,a2,a3] H R:=
 ak (hn:=(.n .e (.n (.n (.n .e (.n .e (.h 1 [14] [0,1,2,3] .e (.n .e (.h 1 [29] [] (.h 1 [] [] (hr 0 [] 0 3 (.h 2 [3] [] (hr 0 [] 4 9 (hr 0 [] 14 2 (.h 0 [13] [] (hr 0 [] 16 5 .e) .e))) (hr 0 [] 4 15 (hr 3 [] 19 2 .e)))) .e) .e))))) .e) .e))) Tryz.func225 h (by kernel_rfl)
def L226(g:Gh)(a0 a1 a2 a3:Value)(H:Hp)(R:Rt):Prop:=
ae .num .eql a2 a3 fun v1=>
Br v1 (
R (.returned (.tuple #[a2,(Value.bool true)])) H) (
Nil a0 fun v2=>
aa 0 v2 fun v3=>
aa 1 v3 fun v4=>
Ld H v4 fun v5=>
Build Tryz.prog 161 [(0,a1),(1,a2),(2,a3)] fun v6=>
CF g 205 #[v5,v6] H (fun v7 H8=>
Ext 0 v7 fun v9=>
Ext 1 v7 fun v10=>
R (.returned (.tuple #[v9,v10])) H8) (aq R))
theorem D5(h:L226 g a0 a1 a2 a3 H R):ai Tryz.prog g 226 #[a0,a1,a2,a3] H R:=
 ak (hn:=.e) Tryz.func226 h (by kernel_rfl)
def L227(g:Gh)(a0 a1:Value)(H:Hp)(R:Rt):Prop:=
CF g 228 #[a0] H (fun v1 H2=>
aG a1 fun v3=>
∃(I4:Jt) (m5:Mt),JE I4 [(.slice none 0 0),v1,(iv 0)] H2∧∀w8 w9 eo:Value,∀H7:Hp,I4 [w8,w9,eo] H7→∀KC:Fr,
ae .num .lss eo v3 fun v11=>
Br v11 (
ah 1 a1 eo fun bc=>
Ld H7 bc fun bj=>
CF g 258 #[w9,bj] H7 (fun bA cY=>
av Tryz.prog 247 1 [(0,bA)] cY fun bR fS=>
App Tryz.prog 28 1 24 (.slice none 0 0) fS w8 bR fun v20 dN=>
CF g 259 #[w9,bj] dN (fun cC j3=>
ae .num .add eo (iv 1) fun cu=>
ay I4 m5 [v20,cC,cu] j3 [w8,w9,eo] H7) (aq R)) (aq R)) (
R (.returned w8) H7)) (aq R)
theorem D4(h:L227 g a0 a1 H R):ai Tryz.prog g 227 #[a0,a1] H R:=
 ak (hn:=(hN 3 (.n (.n .e (.n (.h 0 [5,6,13] [11,12] .e .e) .e)) .e))) Tryz.func227 h (by kernel_rfl)
def L228(g:Gh)(a0:Value)(H:Hp)(R:Rt):Prop:=
aG a0 fun v1=>
∃(I2:Jt) (m3:Mt),JE I2 [(.slice none 0 0),(iv 0)] H∧∀w6 w7:Value,∀H5:Hp,I2 [w6,w7] H5→∀Ab:Fr,
ae .num .lss w7 v1 fun v8=>
Br v8 (
∀J9:Jt,(∀eW:Value,∀dZ:Hp,(∀r9:Fr,
ae .num .add w7 (iv 1) fun bj=>
ay I2 m3 [eW,bj] dZ [w6,w7] H5)→J9 [eW] dZ)→
ah 2 a0 w7 fun bA=>
az 2 H5 bA fun bD=>
bq H5 (.cells #[(iv 0),(.slice none 0 0)] 57 (0,0)) fun qY fS=>
St 2 fS (pt qY) bD fun dK=>
az 2 dK (pt qY) fun bQ=>
CF g 260 #[w6,bQ] dK (fun v20 dN=>
Un .not v20 fun cC=>
Br cC (
az 2 dN (pt qY) fun cv=>
av Tryz.prog 28 1 [(0,cv)] dN fun cu ef=>
App Tryz.prog 57 2 32 (.agg #[(iv 0),(.slice none 0 0)]) ef w6 cu fun dA kM=>
JE J9 [dA] kM) (
JE J9 [w6] dN)) (aq R)) (
R (.returned w6) H5)
theorem D3(h:L228 g a0 H R):ai Tryz.prog g 228 #[a0] H R:=
 ak (hn:=(.n .e (.n .e (.n (.n .e (.n (.h 0 [3,8] [6,7] (.n .e (.n .e (.h 1 [3] [6,7,8] .e .e))) .e) .e)) .e)))) Tryz.func228 h (by kernel_rfl)
def L229(g:Gh)(a0 a1:Value)(H:Hp)(R:Rt):Prop:=
CF g 227 #[a0,a1] H (fun v1 H2=>
aG v1 fun v3=>
∃(I4:Jt) (m5:Mt),JE I4 [(iv 0),(iv 0)] H2∧∀w8 w9:Value,∀H7:Hp,I4 [w8,w9] H7→∀KC:Fr,
ae .num .lss w9 v3 fun v10=>
Br v10 (
ah 1 v1 w9 fun v11=>
Ld H7 v11 fun bc=>
aG bc fun bj=>
ae .num .add w8 bj fun bA=>
ae .num .add w9 (iv 1) fun bD=>
ay I4 m5 [bA,bD] H7 [w8,w9] H7) (
R (.returned w8) H7)) (aq R)
theorem D2(h:L229 g a0 a1 H R):ai Tryz.prog g 229 #[a0,a1] H R:=
 ak (hn:=(.n .e (.n .e (.n (.n .e (.n (.h 0 [5,12] [10,11] .e .e) .e)) .e)))) Tryz.func229 h (by kernel_rfl)
def L231(g:Gh)(a0 a1:Value)(H:Hp)(R:Rt):Prop:=
bq H (.cells #[(iv 0),(Value.int .u32 0),(Value.int .u32 0)] 161 (0,0)) fun b1 H2=>
ae .ptr .eql a0 (.pointer none) fun v3=>
Br v3 (
Build Tryz.prog 161 [] fun v4=>
St 3 H2 (pt b1) v4 fun H5=>
az 3 H5 (pt b1) fun v6=>
R (.returned (.tuple #[v6,(iv 10)])) H5) (
CF g 253 #[a0,a1] H2 (fun v7 H8=>
Un .not v7 fun v9=>
Br v9 (
Build Tryz.prog 161 [] fun v10=>
St 3 H8 (pt b1) v10 fun dZ=>
az 3 dZ (pt b1) fun bc=>
R (.returned (.tuple #[bc,(iv 3)])) dZ) (
Nil a0 fun bj=>
aa 1 bj fun bA=>
Ld H8 bA fun bD=>
ah 5 bD a1 fun bR=>
aa 0 bR fun bK=>
az 3 H8 bK fun ca=>
St 3 H8 (pt b1) ca fun fR=>
az 3 fR (pt b1) fun v20=>
R (.returned (.tuple #[v20,(iv 0)])) fR)) (aq R))
theorem D1(h:L231 g a0 a1 H R):ai Tryz.prog g 231 #[a0,a1] H R:=
 ak (hn:=.e) Tryz.func231 h (by kernel_rfl)
def L232(g:Gh)(a0:Value)(H:Hp)(R:Rt):Prop:=
bq H (.cells (Value.cells a0) 57 (0,0)) fun b1 H2=>
∀J3:Jt,(∀w6:Value,∀H5:Hp,(∀Ab:Fr,
Br w6 (
R (.returned (Value.bool false)) H5) (
DR H5 fun R7=>
aa 1 (pt b1) fun v8=>
Ld R7 v8 fun v9=>
aa 1 (pt b1) fun v10=>
Ld R7 v10 fun v11=>
aG v11 fun bc=>
ae .num .sub bc (iv 1) fun bj=>
ah 1 v9 bj fun bA=>
Ld R7 bA fun bD=>
aa 0 (pt b1) fun bR=>
Ld R7 bR fun bK=>
CF g 255 #[bK] H5 (fun ca fR=>
aO fR R7∧
ae .num .andNot bD ca fun v20=>
ae .num .eql v20 (Value.int .u64 0) fun cf=>
R (.returned cf) fR) aU))→J3 [w6] H5)→
DR H2 fun Pj=>
aa 0 (pt b1) fun cv=>
Ld Pj cv fun cu=>
ae .num .lss cu (iv 0) fun cF=>
Br cF (
JE J3 [(Value.bool true)] H2) (
aa 0 (pt b1) fun cG=>
Ld Pj cG fun cS=>
ae .num .gtr cS (iv 16) fun dA=>
aA (Value.bool false) (Value.bool true) dA fun dy=>
Br dy (
JE J3 [(Value.bool true)] H2) (
aa 1 (pt b1) fun v30=>
Ld Pj v30 fun eR=>
aG eR fun dR=>
aa 0 (pt b1) fun ff=>
Ld Pj ff fun fc=>
∀F35:Hp,
CF (g.add F35) 254 #[fc] H2 (fun dQ rX=>
aO rX Pj∧
ae .num .neq dR dQ fun fy=>
aA (Value.bool false) (Value.bool true) fy fun gx=>
JE J3 [gx] rX) aU))
theorem D0(h:L232 g a0 H R):ai Tryz.prog g 232 #[a0] H R:=
 ak (hn:=(.n .e (.n (.h 1 [19] [1] (.h 1 [] [] (hr 0 [] 0 3 (.h 2 [3] [] (hr 0 [] 4 3 (hr 3 [] 7 2 (hr 0 [] 9 7 (.h 3 [16] [] .e .e)))) (hr 0 [] 4 4 (.h 2 [8] [] (hr 0 [] 9 7 (.h 3 [16] [] .e .e)) (hr 0 [] 9 8 .e))))) .e) .e) (.n (.h 0 [0,1,2,3,4,5,6,7,8,9,10,11,12,13] [] .e .e) .e)))) Tryz.func232 h (by kernel_rfl)
def L233(g:Gh)(a0 a1:Value)(H:Hp)(R:Rt):Prop:=
bq H (.cells (Value.cells a1) 57 (0,0)) fun b1 H2=>
DR H2 fun R3=>
az 2 R3 (pt b1) fun v4=>
az 2 R3 (pt b1) fun v5=>
CF g 234 #[v4] H2 (fun v6 H7=>
aO H7 R3∧
gi (.string) H7 a0 v6 v5 fun H8=>
R (.returned (.tuple #[])) H8) aU
theorem DZ(h:L233 g a0 a1 H R):ai Tryz.prog g 233 #[a0,a1] H R:=
 ak (hn:=(.n .e (.h 0 [0,1,3,2,4] [] .e .e))) Tryz.func233 h (by kernel_rfl)
def L234(g:Gh)(a0:Value)(H:Hp)(R:Rt):Prop:=
bq H (.cells (Value.cells a0) 57 (0,0)) fun b1 H2=>
aa 1 (pt b1) fun v3=>
Ld H2 v3 fun v4=>
aG v4 fun v5=>
∃(I6:Jt) (m7:Mt),JE I6 [(.slice none 0 0),(iv 0)] H2∧∀eo jy:Value,∀H9:Hp,I6 [eo,jy] H9→∀CG:Fr,
ae .num .lss jy v5 fun bc=>
Br bc (
ah 1 v4 jy fun bj=>
Ld H9 bj fun bA=>
∃(I15:Jt) (m16:Mt),JE I15 [eo,(iv 0)] H9∧∀OW pn:Value,∀dK:Hp,I15 [OW,pn] dK→∀YT:Fr,
ae .num .lss pn (iv 8) fun cf=>
Br cf (
ae .num .mul (iv 8) pn fun cC=>
ae .num .shr bA cC fun cv=>
bL .u8 cv fun cu=>
av Tryz.prog 87 1 [(0,cu)] dK fun cF jZ=>
App Tryz.prog 5 1 1 (Value.int .u8 0) jZ OW cF fun dy ju=>
ae .num .add pn (iv 1) fun eR=>
ay I15 m16 [dy,eR] ju [OW,pn] dK) (
ae .num .add jy (iv 1) fun dR=>
ay I6 m7 [OW,dR] dK [eo,jy] H9)) (
j4 H9 eo fun ff=>
R (.returned ff) H9)
theorem DY(h:L234 g a0 H R):ai Tryz.prog g 234 #[a0] H R:=
 ak (hn:=(.n .e (.n .e (.n (.n .e (.n (.h 0 [3,10] [8,9] (.n .e (.n .e (.n (.n (.n .e (.n .e (.n (.h 0 [3,14] [5,8,9,10] .e .e) .e))) .e) .e))) .e) .e)) .e)))) Tryz.func234 h (by kernel_rfl)
def L235(g:Gh)(a0:Value)(H:Hp)(R:Rt):Prop:=
∃(I1:Jt) (m2:Mt),JE I1 [(iv 0)] H∧∀w5:Value,∀H4:Hp,I1 [w5] H4→∀Ta:Fr,
aG a0 fun v6=>
ae .num .lss w5 v6 fun v7=>
Br v7 (
CF g 188 #[a0,w5] H4 (fun v8 H9=>
ae .num .lss v8 (iv 0) fun v10=>
Br v10 (
R (.returned (iv 4)) H9) (
ae .num .add w5 (iv 1) fun v11=>
ay I1 m2 [v11] H9 [w5] H4)) (aq R)) (
aG a0 fun bc=>
ae .num .gtr bc (iv 64) fun bj=>
Br bj (
R (.returned (iv 13)) H4) (
R (.returned (iv 0)) H4))
theorem DX(h:L235 g a0 H R):ai Tryz.prog g 235 #[a0] H R:=
 ak (hn:=(.n .e (.n (.n .e (.n (.h 0 [3] [0] .e .e) .e)) .e))) Tryz.func235 h (by kernel_rfl)
def L236(g:Gh)(a0 a1:Value)(H:Hp)(R:Rt):Prop:=
bq H (.cells #[(iv 0),(.slice none 0 0)] 57 (0,0)) fun b1 H2=>
ae .num .shl (iv 1) a0 fun v3=>
cc 4 1 1 (Value.bool false) H2 v3 v3 fun v4 H5=>
∃(I6:Jt) (m7:Mt),JE I6 [(iv 0)] H5∧∀eo:Value,∀H9:Hp,I6 [eo] H9→∀CG:Fr,
aG v4 fun v11=>
ae .num .lss eo v11 fun bc=>
Br bc (
ah 1 v4 eo fun bj=>
St 1 H9 bj a1 fun fe=>
ae .num .add eo (iv 1) fun bD=>
ay I6 m7 [bD] fe [eo] H9) (
CF g 98 #[a0,v4] H9 (fun bR fS=>
St 2 fS (pt b1) bR fun dK=>
az 2 dK (pt b1) fun bQ=>
R (.returned bQ) dK) (aq R))
theorem DW(h:L236 g a0 a1 H R):ai Tryz.prog g 236 #[a0,a1] H R:=
 ak (hn:=(.n .e (.n .e (.n (.n .e (.n (.h 0 [6] [0,1,4,5] .e .e) .e)) .e)))) Tryz.func236 h (by kernel_rfl)
def L237(g:Gh)(a0 a1 a2:Value)(H:Hp)(R:Rt):Prop:=
bq H (.cells (Value.cells a1) 57 (0,0)) fun b1 H2=>
bq H2 (.cells (Value.cells a2) 57 (0,0)) fun b3 H4=>
bq H4 (.cells #[(iv 0),(.slice none 0 0)] 57 (0,0)) fun b5 H6=>
aa 0 (pt b1) fun v7=>
Ld H6 v7 fun v8=>
ae .num .shl (iv 1) v8 fun v9=>
cc 4 1 1 (Value.bool false) H6 v9 v9 fun v10 dZ=>
∃(uV:Jt) (Ml:Mt),JE uV [(iv 0)] dZ∧∀fT:Value,∀cY:Hp,uV [fT] cY→∀qM:Fr,
aG v10 fun bK=>
ae .num .lss fT bK fun ca=>
Br ca (
∀Pm:Jt,(∀dN:Hp,(∀IN:Fr,
ae .num .add fT (iv 1) fun cC=>
ay uV Ml [cC] dN [fT] cY)→Pm [] dN)→
ae .num .shr fT a0 fun cv=>
ae .num .rem cv (iv 2) fun cu=>
ae .num .eql cu (iv 1) fun cF=>
Br cF (
az 2 cY (pt b3) fun cG=>
CF g 162 #[cG,fT] cY (fun cS nO=>
ah 1 v10 fT fun dy=>
St 1 nO dy cS fun ju=>
JE Pm [] ju) (aq R)) (
az 2 cY (pt b1) fun eR=>
CF g 162 #[eR,fT] cY (fun dR iu=>
ah 1 v10 fT fun fc=>
St 1 iu fc dR fun jI=>
JE Pm [] jI) (aq R))) (
aa 0 (pt b1) fun dQ=>
Ld cY dQ fun eF=>
CF g 98 #[eF,v10] cY (fun fy Ba=>
St 2 Ba (pt b5) fy fun qo=>
az 2 qo (pt b5) fun eY=>
R (.returned eY) qo) (aq R))
theorem DV(h:L237 g a0 a1 a2 H R):ai Tryz.prog g 237 #[a0,a1,a2] H R:=
 ak (hn:=(.n .e (.n .e (.n (.n .e (.n (.h 0 [8] [0,4,5,6,7] (.n .e (.h 1 [] [0,4,5,6,7,8] .e .e)) .e) .e)) .e)))) Tryz.func237 h (by kernel_rfl)
def L239(g:Gh)(a0 a1 a2 a3:Value)(H:Hp)(R:Rt):Prop:=
aa 1 a1 fun v1=>
Ld H v1 fun v2=>
ah 1 v2 a0 fun v3=>
Ld H v3 fun v4=>
aa 1 a2 fun v5=>
Ld H v5 fun v6=>
ah 1 v6 a0 fun v7=>
Ld H v7 fun v8=>
Un .xor v4 fun v9=>
Un .xor v8 fun v10=>
ae .num .and v9 v10 fun v11=>
Un .xor v4 fun bc=>
ae .num .and bc v8 fun bj=>
Un .xor v8 fun bA=>
ae .num .and v4 bA fun bD=>
ae .num .and v4 v8 fun bR=>
av Tryz.prog 55 4 [(0,v11),(1,bj),(2,bD),(3,bR)] H fun bK dK=>
aG bK fun bQ=>
∃(VA:Jt) (m21:Mt),JE VA [(Value.int .u64 0),(iv 0)] dK∧∀FZ sN:Value,∀j3:Hp,VA [FZ,sN] j3→∀Rb:Fr,
ae .num .lss sN bQ fun cG=>
Br cG (
∀OG:Jt,(∀AU:Value,∀kM:Hp,(∀Vf:Fr,
ae .num .add sN (iv 1) fun eR=>
ay VA m21 [AU,eR] kM [FZ,sN] j3)→OG [AU] kM)→
ah 1 bK sN fun dR=>
Ld j3 dR fun ff=>
Ld j3 a3 fun fc=>
ae .num .shr fc sN fun fA=>
ae .num .and fA (Value.int .u8 1) fun dQ=>
ae .num .eql dQ (Value.int .u8 1) fun eF=>
Br eF (
ae .num .or FZ ff fun fy=>
JE OG [fy] j3) (
JE OG [FZ] j3)) (
R (.returned FZ) j3)
theorem DU(h:L239 g a0 a1 a2 a3 H R):ai Tryz.prog g 239 #[a0,a1,a2,a3] H R:=
 ak (hn:=(hN 3 (.n (.n .e (.n (.h 0 [8,39] [3,37,38] (.n .e (.n .e (.h 1 [8] [3,37,38,39] .e .e))) .e) .e)) .e))) Tryz.func239 h (by kernel_rfl)
variable {g:Gh} {a0 a1 a2 a3 a4 a5 a6 a7 a8 a9 si sg Zd Zc Zb Za:Value} {H:Hp} {R:Rt}
def L250(g:Gh)(a0:Value)(H:Hp)(R:Rt):Prop:=
CF g 273 #[a0] H (fun v1 H2=>
CF g 274 #[v1] H2 (fun v3 H4=>
R (.returned v1) H4) (aq R)) (aq R)
theorem DS(h:L250 g a0 H R):ai Tryz.prog g 250 #[a0] H R:=
 ak (hn:=.e) Tryz.func250 h (by kernel_rfl)
def L251(g:Gh)(a0:Value)(H:Hp)(R:Rt):Prop:=
bq H (.cells (Value.cells a0) 266 (0,0)) fun b1 H2=>
R (.returned (.func (.func 275) #[] #[(pt b1)])) H2
theorem DQ(h:L251 g a0 H R):ai Tryz.prog g 251 #[a0] H R:=
 ak (hn:=.e) Tryz.func251 h (by kernel_rfl)
def L252(g:Gh)(a0 a1:Value)(H:Hp)(R:Rt):Prop:=
bq H (.cells (Value.cells a1) 161 (0,0)) fun b1 H2=>
ae .ptr .eql a0 (.pointer none) fun v3=>
Br v3 (
R (.returned (.tuple #[(Value.int .u32 0),(iv 10)])) H2) (
az 3 H2 (pt b1) fun v4=>
CF g 208 #[a0,v4] H2 (fun v5 H6=>
ae .num .neq v5 (iv 0) fun v7=>
Br v7 (
R (.returned (.tuple #[(Value.int .u32 0),v5])) H6) (
Nil a0 fun v8=>
aa 2 v8 fun v9=>
Ld H6 v9 fun v10=>
aG v10 fun v11=>
ae .num .gtr v11 (iv 0) fun bc=>
Br bc (
Nil a0 fun bj=>
aa 2 bj fun bA=>
Ld H6 bA fun bD=>
ae .num .sub v11 (iv 1) fun bR=>
ah 1 bD bR fun bK=>
Ld H6 bK fun ca=>
Nil a0 fun bQ=>
aa 2 bQ fun v20=>
Ld H6 v20 fun cf=>
ae .num .sub v11 (iv 1) fun cC=>
gh 1 cf none (some cC) fun cv=>
Nil a0 fun cu=>
aa 2 cu fun cF=>
St 1 H6 cF cv fun jZ=>
DR jZ fun RL=>
Nil a0 fun dA=>
aa 1 dA fun dy=>
Ld RL dy fun v30=>
az 3 RL (pt b1) fun eR=>
Build Tryz.prog 291 [(0,eR),(1,(Value.bool true))] fun dR=>
ah 5 v30 ca fun ff=>
St 5 jZ ff dR fun nN=>
Nil a0 fun fA=>
aa 3 fA fun dQ=>
Ld nN dQ fun eF=>
ae .num .add eF (iv 1) fun fy=>
Nil a0 fun gx=>
aa 3 gx fun fw=>
St 1 nN fw fy fun yC=>
R (.returned (.tuple #[ca,(iv 0)])) yC) (
Nil a0 fun gB=>
aa 1 gB fun gk=>
Ld H6 gk fun gj=>
aG gj fun g9=>
Nil a0 fun iG=>
aa 0 iG fun jT=>
Ld H6 jT fun jC=>
ae .num .geq g9 jC fun iF=>
Br iF (
R (.returned (.tuple #[(Value.int .u32 0),(iv 9)])) H6) (
DR H6 fun G0=>
Nil a0 fun jB=>
aa 1 jB fun iW=>
Ld G0 iW fun l7=>
az 3 G0 (pt b1) fun oq=>
Build Tryz.prog 291 [(0,oq),(1,(Value.bool true))] fun kT=>
av Tryz.prog 196 1 [(0,kT)] H6 fun po G6=>
aO G6 G0∧
App Tryz.prog 291 5 24 (.agg #[(iv 0),(Value.int .u32 0),(Value.int .u32 0),(Value.bool false),(Value.int .u8 0)]) G6 l7 po fun qj uW=>
aO uW G0∧
Nil a0 fun vi=>
aa 1 vi fun oo=>
St 1 uW oo qj fun xe=>
Nil a0 fun sO=>
aa 3 sO fun rY=>
Ld xe rY fun vM=>
ae .num .add vM (iv 1) fun vL=>
Nil a0 fun xh=>
aa 3 xh fun sj=>
St 1 xe sj vL fun Kk=>
Nil a0 fun xg=>
aa 1 xg fun yI=>
Ld Kk yI fun Hx=>
aG Hx fun vK=>
ae .num .sub vK (iv 1) fun OZ=>
bL .u32 OZ fun yH=>
R (.returned (.tuple #[yH,(iv 0)])) Kk)))) (aq R))
theorem DP(h:L252 g a0 a1 H R):ai Tryz.prog g 252 #[a0,a1] H R:=
 ak (hn:=(hN 3 (.n (.n .e (.n .e (.n (.n .e (.n .e (.n (.h 0 [0,1,2,3,4,5,6,7,8] [] .e .e) .e))) .e))) (.n .e (.n (.h 0 [0,1,2,3,4,5,6,7,8,9,10,11] [] .e .e) .e))))) Tryz.func252 h (by kernel_rfl)
def L253(g:Gh)(a0 a1:Value)(H:Hp)(R:Rt):Prop:=
bL .i64 a1 fun v1=>
Nil a0 fun v2=>
aa 1 v2 fun v3=>
Ld H v3 fun v4=>
aG v4 fun v5=>
ae .num .lss v1 v5 fun v6=>
bM v6 true (fun t7=>
Nil a0 fun v8=>
aa 1 v8 fun v9=>
Ld H v9 fun v10=>
ah 5 v10 a1 fun v11=>
aa 3 v11 fun bc=>
Ld H bc fun bj=>
(H=H∧bj=Value.bool t7)) (fun t7=>(Value.bool false)=Value.bool t7) fun t7=>∀qM:Fr,
R (.returned (Value.bool t7)) H
theorem DO(h:L253 g a0 a1 H R):ai Tryz.prog g 253 #[a0,a1] H R:=
 ak (hn:=(.n .e (.n (.h 0 [] [1] .e .e) .e))) Tryz.func253 h (by kernel_rfl)
def L254(g:Gh)(a0:Value)(H:Hp)(R:Rt):Prop:=
ae .num .shl (iv 1) a0 fun v1=>
ae .num .shr v1 (Value.int .u64 6) fun v2=>
Dl (iv 1) v2 fun v3=>
R (.returned v3) H
theorem DN(h:L254 g a0 H R):ai Tryz.prog g 254 #[a0] H R:=
 ak (hn:=.e) Tryz.func254 h (by kernel_rfl)
def L255(g:Gh)(a0:Value)(H:Hp)(R:Rt):Prop:=
ae .num .geq a0 (iv 6) fun v1=>
Br v1 (
R (.returned (Value.int .u64 18446744073709551615)) H) (
ae .num .shl (Value.int .u64 1) a0 fun v2=>
ae .num .shl (Value.int .u64 1) v2 fun v3=>
ae .num .sub v3 (Value.int .u64 1) fun v4=>
R (.returned v4) H)
theorem DM(h:L255 g a0 H R):ai Tryz.prog g 255 #[a0] H R:=
 ak (hn:=.e) Tryz.func255 h (by kernel_rfl)
def L256(g:Gh)(a0 a1 a2 a3:Value)(H:Hp)(R:Rt):Prop:=
Ld H a1 fun v1=>
ae .num .geq v1 (iv 6) fun v2=>
Br v2 (
Ld H a1 fun v3=>
ae .num .sub v3 (iv 6) fun v4=>
ae .num .shl (iv 1) v4 fun v5=>
ae .num .andNot a0 v5 fun v6=>
∀J7:Jt,(∀eo:Value,∀H9:Hp,(∀CG:Fr,
aa 1 a3 fun v11=>
Ld H9 v11 fun bc=>
ah 1 bc eo fun bj=>
Ld H9 bj fun bA=>
R (.returned bA) H9)→J7 [eo] H9)→
Ld H a2 fun bD=>
Br bD (
Ld H a1 fun bR=>
ae .num .sub bR (iv 6) fun bK=>
ae .num .shl (iv 1) bK fun ca=>
ae .num .or v6 ca fun bQ=>
JE J7 [bQ] H) (
JE J7 [v6] H)) (
DR H fun A6=>
Ld A6 a1 fun cf=>
Ld A6 a1 fun cC=>
ae .num .shl (iv 1) cC fun cv=>
CF g 219 #[cf,(iv 0)] H (fun cu ef=>
aO ef A6∧
Ld ef a2 fun cG=>
Br cG (
aa 1 a3 fun cS=>
Ld ef cS fun dA=>
ah 1 dA a0 fun dy=>
Ld ef dy fun v30=>
ae .num .and v30 cu fun eR=>
ae .num .shr eR cv fun dR=>
ae .num .or eR dR fun ff=>
R (.returned ff) ef) (
aa 1 a3 fun fc=>
Ld ef fc fun fA=>
ah 1 fA a0 fun dQ=>
Ld ef dQ fun eF=>
ae .num .andNot eF cu fun fy=>
ae .num .shl fy cv fun gx=>
ae .num .or fy gx fun fw=>
R (.returned fw) ef)) aU)
theorem DL(h:L256 g a0 a1 a2 a3 H R):ai Tryz.prog g 256 #[a0,a1,a2,a3] H R:=
 ak (hn:=(.n .e (.n (.n .e (.n (.n .e (.h 1 [6] [3] .e .e)) .e)) (.n (.h 0 [0,2,3,1,4,5] [] .e .e) .e)))) Tryz.func256 h (by kernel_rfl)
def L257(g:Gh)(a0 a1:Value)(H:Hp)(R:Rt):Prop:=
Nil a0 fun v1=>
aa 0 v1 fun v2=>
CF g 174 #[v2,a1] H (fun v3 H4=>
bq H4 (.cells #[(iv 0),(Value.int .u32 0),(Value.int .u32 0)] 161 (0,0)) fun b5 H6=>
St 3 H6 (pt b5) v3 fun H7=>
aa 0 (pt b5) fun v8=>
Ld H7 v8 fun v9=>
ae .num .geq v9 (iv 0) fun v10=>
Br v10 (
Nil a0 fun v11=>
aa 6 v11 fun bc=>
Ld H7 bc fun bj=>
aa 0 (pt b5) fun bA=>
Ld H7 bA fun bD=>
ah 1 bj bD fun bR=>
Ld H7 bR fun bK=>
R (.returned bK) H7) (
Nil a0 fun ca=>
aa 4 ca fun bQ=>
Ld H7 bQ fun v20=>
R (.returned v20) H7)) (aq R)
theorem DK(h:L257 g a0 a1 H R):ai Tryz.prog g 257 #[a0,a1] H R:=
 ak (hn:=.e) Tryz.func257 h (by kernel_rfl)
def L258(g:Gh)(a0 a1:Value)(H:Hp)(R:Rt):Prop:=
aG a0 fun v1=>
∃(I2:Jt) (m3:Mt),JE I2 [(.slice none 0 0),(iv 0)] H∧∀w6 w7:Value,∀H5:Hp,I2 [w6,w7] H5→∀Ab:Fr,
ae .num .lss w7 v1 fun v8=>
Br v8 (
∀J9:Jt,(∀eW:Value,∀dZ:Hp,(∀r9:Fr,
ae .num .add w7 (iv 1) fun bj=>
ay I2 m3 [eW,bj] dZ [w6,w7] H5)→J9 [eW] dZ)→
ah 2 a0 w7 fun bA=>
az 2 H5 bA fun bD=>
bq H5 (.cells #[(iv 0),(.slice none 0 0)] 57 (0,0)) fun qY fS=>
St 2 fS (pt qY) bD fun dK=>
az 2 dK (pt qY) fun bQ=>
CF g 161 #[bQ,a1] dK (fun v20 dN=>
Br v20 (
az 2 dN (pt qY) fun cC=>
av Tryz.prog 28 1 [(0,cC)] dN fun cv iD=>
App Tryz.prog 57 2 32 (.agg #[(iv 0),(.slice none 0 0)]) iD w6 cv fun cS nO=>
JE J9 [cS] nO) (
JE J9 [w6] dN)) (aq R)) (
R (.returned w6) H5)
theorem DJ(h:L258 g a0 a1 H R):ai Tryz.prog g 258 #[a0,a1] H R:=
 ak (hn:=(.n .e (.n .e (.n (.n .e (.n (.h 0 [5,10] [1,8,9] (.n .e (.n .e (.h 1 [5] [1,8,9,10] .e .e))) .e) .e)) .e)))) Tryz.func258 h (by kernel_rfl)
def L259(g:Gh)(a0 a1:Value)(H:Hp)(R:Rt):Prop:=
aG a0 fun v1=>
∃(I2:Jt) (m3:Mt),JE I2 [(.slice none 0 0),(iv 0)] H∧∀w6 w7:Value,∀H5:Hp,I2 [w6,w7] H5→∀Ab:Fr,
ae .num .lss w7 v1 fun v8=>
Br v8 (
∀J9:Jt,(∀eW:Value,∀dZ:Hp,(∀r9:Fr,
ae .num .add w7 (iv 1) fun bj=>
ay I2 m3 [eW,bj] dZ [w6,w7] H5)→J9 [eW] dZ)→
ah 2 a0 w7 fun bA=>
az 2 H5 bA fun bD=>
bq H5 (.cells #[(iv 0),(.slice none 0 0)] 57 (0,0)) fun qY fS=>
St 2 fS (pt qY) bD fun dK=>
DR dK fun uB=>
az 2 uB (pt qY) fun v20=>
az 2 uB (pt qY) fun cf=>
∀F22:Hp,
CF (g.add F22) 163 #[v20,a1,(Value.bool false)] dK (fun cv iD=>
aO iD uB∧
∀F25:Hp,
CF (g.add F25) 163 #[cf,a1,(Value.bool true)] iD (fun cG iV=>
aO iV uB∧
bq iV (.cells #[(iv 0),(.slice none 0 0)] 57 (0,0)) fun A4 kM=>
bq kM (.cells #[(iv 0),(.slice none 0 0)] 57 (0,0)) fun KG j6=>
∀F32:Hp,
St 2 j6 (pt A4) cv fun iu=>
aO iu uB∧
∀F34:Hp,
St 2 iu (pt KG) cG fun jI=>
∀yP:Jt,(∀OV:Value,∀mg:Hp,(∀YN:Fr,
az 2 mg (pt KG) fun fw=>
CF g 260 #[OV,fw] mg (fun eY q7=>
Un .not eY fun gk=>
Br gk (
az 2 q7 (pt KG) fun gj=>
av Tryz.prog 28 1 [(0,gj)] q7 fun g9 Kl=>
App Tryz.prog 57 2 32 (.agg #[(iv 0),(.slice none 0 0)]) Kl OV g9 fun iF yA=>
JE J9 [iF] yA) (
JE J9 [OV] q7)) (aq R))→yP [OV] mg)→
az 2 jI (pt A4) fun jB=>
CF g 260 #[w6,jB] jI (fun iW yz=>
Un .not iW fun oq=>
Br oq (
az 2 yz (pt A4) fun kT=>
av Tryz.prog 28 1 [(0,kT)] yz fun po G6=>
App Tryz.prog 57 2 32 (.agg #[(iv 0),(.slice none 0 0)]) G6 w6 po fun qj uW=>
JE yP [qj] uW) (
JE yP [w6] yz)) (aq R)) aU) aU) (
R (.returned w6) H5)
theorem DI(h:L259 g a0 a1 H R):ai Tryz.prog g 259 #[a0,a1] H R:=
 ak (hn:=(.n .e (.n .e (.n (.n .e (.n (.h 0 [5,12] [1,10,11] (.n .e (.n .e (.h 1 [5] [1,10,11,12] (.n (.n .e (.n (.h 1 [] [] (hr 0 [] 0 2 (hr 0 [] 3 2 (hr 1 [] 6 2 (.h 0 [2] [] (hr 0 [] 5 5 .e) .e)))) .e) (.h 1 [5] [1,9,10,11,12] .e .e))) .e) .e))) .e) .e)) .e)))) Tryz.func259 h (by kernel_rfl)
def L260(g:Gh)(a0 a1:Value)(H:Hp)(R:Rt):Prop:=
bq H (.cells (Value.cells a1) 57 (0,0)) fun b1 H2=>
aG a0 fun v3=>
∃(I4:Jt) (m5:Mt),JE I4 [(iv 0)] H2∧∀w8:Value,∀H7:Hp,I4 [w8] H7→∀KC:Fr,
ae .num .lss w8 v3 fun v9=>
Br v9 (
ah 2 a0 w8 fun v10=>
az 2 H7 v10 fun v11=>
bq H7 (.cells #[(iv 0),(.slice none 0 0)] 57 (0,0)) fun mV c8=>
St 2 c8 (pt mV) v11 fun fe=>
az 2 fe (pt b1) fun bD=>
az 2 fe (pt mV) fun bR=>
CF g 36 #[bD,bR] fe (fun bK dK=>
Br bK (
R (.returned (Value.bool true)) dK) (
ae .num .add w8 (iv 1) fun bQ=>
ay I4 m5 [bQ] dK [w8] H7)) (aq R)) (
R (.returned (Value.bool false)) H7)
theorem DH(h:L260 g a0 a1 H R):ai Tryz.prog g 260 #[a0,a1] H R:=
 ak (hn:=(.n .e (.n (.n .e (.n (.h 0 [9] [3,7,8] .e .e) .e)) .e))) Tryz.func260 h (by kernel_rfl)
def L273(g:Gh)(a0:Value)(H:Hp)(R:Rt):Prop:=
CF g 284 #[(.slice none 0 0),a0] H (fun v1 H2=>
R (.returned v1) H2) (aq R)
theorem DG(h:L273 g a0 H R):ai Tryz.prog g 273 #[a0] H R:=
 ak (hn:=.e) Tryz.func273 h (by kernel_rfl)
def L274(g:Gh)(a0:Value)(H:Hp)(R:Rt):Prop:=
aG a0 fun v1=>
bL .u64 v1 fun v2=>
CF g 286 #[v2] H (fun v3 H4=>
CF g 285 #[a0,(iv 0),v1,v3] H4 (fun v5 H6=>
R (.returned (.tuple #[])) H6) (aq R)) (aq R)
theorem DF(h:L274 g a0 H R):ai Tryz.prog g 274 #[a0] H R:=
 ak (hn:=.e) Tryz.func274 h (by kernel_rfl)
def L285(g:Gh)(a0 a1 a2 a3:Value)(H:Hp)(R:Rt):Prop:=
∃(I1:Jt) (m2:Mt),JE I1 [a1,a2,a3,(Value.bool true),(Value.bool true)] H∧∀w5 w6 w7 w8 w9:Value,∀H4:Hp,I1 [w5,w6,w7,w8,w9] H4→∀Ta:Fr,
ae .num .sub w6 w5 fun v10=>
ae .num .leq v10 (iv 12) fun v11=>
Br v11 (
CF g 289 #[a0,w5,w6] H4 (fun bc c8=>
R (.returned (.tuple #[])) c8) (aq R)) (
ae .num .eql w7 (iv 0) fun bA=>
Br bA (
CF g 290 #[a0,w5,w6] H4 (fun bD eP=>
R (.returned (.tuple #[])) eP) (aq R)) (
∀uT:Jt,(∀pn:Value,∀fR:Hp,(∀NA:Fr,
CF g 292 #[a0,w5,w6] fR (fun cf fF=>
Ext 0 cf fun cv=>
Ext 1 cf fun cu=>
∀Pk:Jt,(∀vg vI:Value,∀iV:Hp,(∀YQ:Fr,
∀ZC:Jt,(∀nm:Hp,(∀Ve:Fr,
∀KH:Jt,(∀RY:Value,∀jI:Hp,(∀ad1:Fr,
Br RY (
CF g 296 #[a0,w5,w6,vg] jI (fun eF mg=>
ay I1 m2 [eF,w6,pn,w8,w9] mg [w5,w6,w7,w8,w9] H4) (aq R)) (
CF g 297 #[a0,w5,w6,vg] jI (fun gx qo=>
Ext 0 gx fun eY=>
Ext 1 gx fun gB=>
ae .num .sub eY w5 fun gk=>
ae .num .sub w6 eY fun gj=>
ae .num .quo v10 (iv 8) fun g9=>
ae .num .lss gk gj fun iG=>
Br iG (
ae .num .geq gk g9 fun jT=>
CF g 285 #[a0,w5,eY,pn] qo (fun jC yB=>
ae .num .add eY (iv 1) fun ja=>
ay I1 m2 [ja,w6,pn,jT,gB] yB [w5,w6,w7,w8,w9] H4) (aq R)) (
ae .num .geq gj g9 fun jB=>
ae .num .add eY (iv 1) fun iW=>
CF g 285 #[a0,iW,w6,pn] qo (fun l7 KI=>
ay I1 m2 [w5,eY,pn,jB,gB] KI [w5,w6,w7,w8,w9] H4) (aq R))) (aq R)))→KH [RY] jI)→
DR nm fun R55=>
ae .num .gtr w5 (iv 0) fun po=>
Br po (
ae .num .sub w5 (iv 1) fun qs=>
ah 1 a0 qs fun rp=>
Ld R55 rp fun Bl=>
ah 1 a0 vg fun qj=>
Ld R55 qj fun xj=>
∀F62:Hp,
CF (g.add F62) 295 #[Bl,xj] nm (fun oo xe=>
Un .not oo fun sO=>
aA (Value.bool true) sO (Value.bool false) fun rY=>
JE KH [rY] xe) aU) (
JE KH [(Value.bool false)] nm))→ZC [] nm)→
bM w8 true (fun t67=>
(iV=iV∧w9=Value.bool t67)) (fun t67=>(Value.bool false)=Value.bool t67) fun t67=>∀adX:Fr,
bM (Value.bool t67) true (fun t69=>
ae .num .eql vI (iv 1) fun sj=>
(iV=iV∧sj=Value.bool t69)) (fun t69=>(Value.bool false)=Value.bool t69) fun t69=>∀adV:Fr,
Br (Value.bool t69) (
CF g 294 #[a0,w5,w6] iV (fun xg H73=>
Br xg (
R (.returned (.tuple #[])) H73) (
JE ZC [] H73)) (aq R)) (
JE ZC [] iV))→Pk [vg,vI] iV)→
ae .num .eql cu (iv 2) fun Hx=>
Br Hx (
CF g 293 #[a0,w5,w6] fF (fun vK Kj=>
ae .num .sub w6 (iv 1) fun yH=>
ae .num .sub cv w5 fun KV=>
ae .num .sub yH KV fun yV=>
JE Pk [yV,(iv 1)] Kj) (aq R)) (
JE Pk [cv,cu] fF)) (aq R))→uT [pn] fR)→
Un .not w8 fun F0=>
Br F0 (
CF g 291 #[a0,w5,w6] H4 (fun OY VE=>
ae .num .sub w7 (iv 1) fun Tv=>
JE uT [Tv] VE) (aq R)) (
JE uT [w7] H4)))
theorem uG(h:L285 g a0 a1 a2 a3 H R):ai Tryz.prog g 285 #[a0,a1,a2,a3] H R:=
 ak (hn:=(.n .e (.n .e (.n (.h 0 [1,2,3,8,9] [0] (.n (hN 3 (.h 1 [3] [0,1,2,8,9,10] .e (.n .e (.h 1 [11,12] [0,1,2,3,8,9,10] .e (.h 1 [] [0,1,2,3,8,9,10,11] (.n (.h 0 [] [1] .e .e) .e) (.n (.h 1 [87] [0,1,2,3,8,9,10,11] (.h 1 [] [] (hr 0 [] 0 2 (.h 2 [2] [] (hr 0 [] 3 12 .e) (hr 0 [] 3 11 (.h 3 [14] [] .e .e)))) .e) .e) .e)))))) .e) .e) .e)))) Tryz.func285 h (by kernel_rfl)
def L286(g:Gh)(a0:Value)(H:Hp)(R:Rt):Prop:=
Br (Value.bool false) (
bL .u32 a0 fun v1=>
CF g 298 #[v1] H (fun v2 H3=>
R (.returned v2) H3) (aq R)) (
CF g 75 #[a0] H (fun v4 H5=>
R (.returned v4) H5) (aq R))
theorem DE(h:L286 g a0 H R):ai Tryz.prog g 286 #[a0] H R:=
 ak (hn:=.e) Tryz.func286 h (by kernel_rfl)
def L289(g:Gh)(a0 a1 a2:Value)(H:Hp)(R:Rt):Prop:=
ae .num .add a1 (iv 1) fun v1=>
∃(I2:Jt) (m3:Mt),JE I2 [v1] H∧∀w6:Value,∀H5:Hp,I2 [w6] H5→∀Ab:Fr,
ae .num .lss w6 a2 fun v7=>
Br v7 (
∃(I8:Jt) (m9:Mt),JE I8 [w6] H5∧∀eW:Value,∀dZ:Hp,I8 [eW] dZ→∀r9:Fr,
∀uU:Jt,(∀fT:Value,∀cY:Hp,(∀qM:Fr,
Br fT (
DR cY fun R17=>
ae .num .sub eW (iv 1) fun ca=>
ae .num .sub eW (iv 1) fun bQ=>
ah 1 a0 bQ fun v20=>
Ld R17 v20 fun cf=>
ah 1 a0 eW fun cC=>
Ld R17 cC fun cv=>
ah 1 a0 eW fun cu=>
St 1 cY cu cf fun ef=>
ah 1 a0 ca fun cG=>
St 1 ef cG cv fun iV=>
ae .num .sub eW (iv 1) fun dA=>
ay I8 m9 [dA] iV [eW] dZ) (
ae .num .add w6 (iv 1) fun dy=>
ay I2 m3 [dy] cY [w6] H5))→uU [fT] cY)→
DR dZ fun R30=>
ae .num .gtr eW a1 fun eR=>
Br eR (
ah 1 a0 eW fun dR=>
Ld R30 dR fun ff=>
ae .num .sub eW (iv 1) fun fc=>
ah 1 a0 fc fun fA=>
Ld R30 fA fun dQ=>
∀F37:Hp,
CF (g.add F37) 295 #[ff,dQ] dZ (fun fy Ba=>
aA (Value.bool true) fy (Value.bool false) fun fw=>
JE uU [fw] Ba) aU) (
JE uU [(Value.bool false)] dZ)) (
R (.returned (.tuple #[])) H5)
theorem DD(h:L289 g a0 a1 a2 H R):ai Tryz.prog g 289 #[a0,a1,a2] H R:=
 ak (hn:=(.n .e (.n (.h 0 [6] [0,1,2] (.n .e (.n (.n (.n .e (.n (.h 0 [7] [0,1,2,6] (.n (.h 1 [30] [0,1,2,6,7] (.h 1 [] [] (hr 0 [] 0 3 (.h 2 [3] [] (hr 0 [] 4 11 .e) (hr 0 [] 4 10 (.h 3 [14] [] .e .e)))) .e) .e) (.n (.n (.h 0 [0,1,2,3,4,5,6,7,8,9,10,11,12,13,14,15,16,17] [] .e .e) .e) .e)) .e) .e)) .e) .e)) .e) .e))) Tryz.func289 h (by kernel_rfl)
def L290(g:Gh)(a0 a1 a2:Value)(H:Hp)(R:Rt):Prop:=
ae .num .sub a2 a1 fun v1=>
ae .num .sub v1 (iv 1) fun v2=>
ae .num .quo v2 (iv 2) fun v3=>
∃(I4:Jt) (m5:Mt),JE I4 [v3] H∧∀w8:Value,∀H7:Hp,I4 [w8] H7→∀KC:Fr,
ae .num .geq w8 (iv 0) fun v9=>
Br v9 (
CF g 299 #[a0,w8,v1,a1] H7 (fun v10 dZ=>
ae .num .sub w8 (iv 1) fun bc=>
ay I4 m5 [bc] dZ [w8] H7) (aq R)) (
ae .num .sub v1 (iv 1) fun bj=>
∃(OI:Jt) (Xc:Mt),JE OI [bj] H7∧∀nQ:Value,∀fS:Hp,OI [nQ] fS→∀Vg:Fr,
ae .num .geq nQ (iv 0) fun bQ=>
Br bQ (
DR fS fun A6=>
ae .num .add a1 nQ fun cf=>
ae .num .add a1 nQ fun cC=>
ah 1 a0 cC fun cv=>
Ld A6 cv fun cu=>
ah 1 a0 a1 fun cF=>
Ld A6 cF fun cG=>
ah 1 a0 a1 fun cS=>
St 1 fS cS cu fun nO=>
ah 1 a0 cf fun dy=>
St 1 nO dy cG fun ju=>
CF g 299 #[a0,(iv 0),nQ,a1] ju (fun eR nm=>
ae .num .sub nQ (iv 1) fun ff=>
ay OI Xc [ff] nm [nQ] fS) (aq R)) (
R (.returned (.tuple #[])) fS))
theorem DC(h:L290 g a0 a1 a2 H R):ai Tryz.prog g 290 #[a0,a1,a2] H R:=
 ak (hn:=(hN 3 (.n (.n .e (.n (.h 0 [9] [0,6,7,8] .e .e) .e)) (.n .e (.n (.h 0 [10] [0,6,7] (.n .e (.n (.n (.n (.h 0 [0,1,2,3,4,5,6,7,8,9,10,11,12,13,14,15,16,17,18,19] [] .e .e) .e) .e) .e)) .e) .e))))) Tryz.func290 h (by kernel_rfl)
def L291(g:Gh)(a0 a1 a2:Value)(H:Hp)(R:Rt):Prop:=
ae .num .sub a2 a1 fun v1=>
ae .num .geq v1 (iv 8) fun v2=>
Br v2 (
bL .u64 v1 fun v3=>
bq H (.cells #[(Value.int .u64 0)] 373 (0,0)) fun b4 H5=>
St 1 H5 (pt b4) v3 fun H6=>
CF g 300 #[v1] H6 (fun v7 H8=>
ae .num .quo v1 (iv 4) fun v9=>
ae .num .mul v9 (iv 2) fun v10=>
ae .num .add a1 v10 fun v11=>
ae .num .sub v11 (iv 1) fun bc=>
∃(I13:Jt) (m14:Mt),JE I13 [bc] H8∧∀yT:Value,∀eP:Hp,I13 [yT] eP→∀NC:Fr,
ae .num .quo v1 (iv 4) fun ca=>
ae .num .mul ca (iv 2) fun bQ=>
ae .num .add a1 bQ fun v20=>
ae .num .add v20 (iv 1) fun cf=>
ae .num .leq yT cf fun cC=>
Br cC (
CF g 301 #[(pt b4)] eP (fun cv iD=>
ae .num .sub v7 (Value.int .u64 1) fun cF=>
ae .num .and cv cF fun cG=>
bL .i64 cG fun cS=>
∀yQ:Jt,(∀Ps:Value,∀ju:Hp,(∀YP:Fr,
DR ju fun Vq=>
ae .num .add a1 Ps fun ff=>
ae .num .add a1 Ps fun fc=>
ah 1 a0 fc fun fA=>
Ld Vq fA fun dQ=>
ah 1 a0 yT fun eF=>
Ld Vq eF fun fy=>
ah 1 a0 yT fun gx=>
St 1 ju gx dQ fun qo=>
ah 1 a0 ff fun eY=>
St 1 qo eY fy fun q7=>
ae .num .add yT (iv 1) fun gk=>
ay I13 m14 [gk] q7 [yT] eP)→yQ [Ps] ju)→
ae .num .geq cS v1 fun gj=>
Br gj (
ae .num .sub cS v1 fun g9=>
JE yQ [g9] iD) (
JE yQ [cS] iD)) (aq R)) (
R (.returned (.tuple #[])) eP)) (aq R)) (
R (.returned (.tuple #[])) H)
theorem DB(h:L291 g a0 a1 a2 H R):ai Tryz.prog g 291 #[a0,a1,a2] H R:=
 ak (hn:=(.n .e (.n .e (.n (hN 3 (.n (.h 0 [9] [0,1,6,7,8] (.n .e (.n (.n (.n .e (.h 1 [10] [0,1,6,7,8,9] .e (.h 0 [0,1,2,3,4,5,6,7,8,9,10,11,12,13,14,15,16,17,18,19] [] .e .e))) .e) .e)) .e) .e)) .e)))) Tryz.func291 h (by kernel_rfl)
def L292(g:Gh)(a0 a1 a2:Value)(H:Hp)(R:Rt):Prop:=
ae .num .sub a2 a1 fun v1=>
bq H (.cells #[(iv 0)] 3 (0,0)) fun b2 H3=>
ae .num .quo v1 (iv 4) fun v4=>
ae .num .mul v4 (iv 1) fun v5=>
ae .num .add a1 v5 fun v6=>
ae .num .quo v1 (iv 4) fun v7=>
ae .num .mul v7 (iv 2) fun v8=>
ae .num .add a1 v8 fun v9=>
ae .num .quo v1 (iv 4) fun v10=>
ae .num .mul v10 (iv 3) fun v11=>
ae .num .add a1 v11 fun bc=>
∀uU:Jt,(∀fT:Value,∀cY:Hp,(∀qM:Fr,
Ld cY (pt b2) fun bK=>
ae .num .eql bK (iv 0) fun ca=>
Br ca (
R (.returned (.tuple #[fT,(iv 1)])) cY) (
ae .num .eql bK (iv 12) fun bQ=>
Br bQ (
R (.returned (.tuple #[fT,(iv 2)])) cY) (
R (.returned (.tuple #[fT,(iv 0)])) cY)))→uU [fT] cY)→
ae .num .geq v1 (iv 8) fun v20=>
Br v20 (
∀ZD:Jt,(∀FZ sN jx:Value,∀j3:Hp,(∀Rb:Fr,
CF g 303 #[a0,FZ,sN,jx,(pt b2)] j3 (fun cS nO=>
JE uU [cS] nO) (aq R))→ZD [FZ,sN,jx] j3)→
ae .num .geq v1 (iv 50) fun dy=>
Br dy (
CF g 302 #[a0,v6,(pt b2)] H3 (fun v30 j6=>
CF g 302 #[a0,v9,(pt b2)] j6 (fun dR iu=>
CF g 302 #[a0,bc,(pt b2)] iu (fun fc jI=>
JE ZD [v30,dR,fc] jI) (aq R)) (aq R)) (aq R)) (
JE ZD [v6,v9,bc] H3)) (
JE uU [v9] H3)
theorem DA(h:L292 g a0 a1 a2 H R):ai Tryz.prog g 292 #[a0,a1,a2] H R:=
 ak (hn:=(hN 6 (.h 1 [11] [9] (.n .e (.n (.h 1 [10,11,12] [0,9] .e .e) .e)) .e))) Tryz.func292 h (by kernel_rfl)
def L293(g:Gh)(a0 a1 a2:Value)(H:Hp)(R:Rt):Prop:=
ae .num .sub a2 (iv 1) fun v1=>
∃(I2:Jt) (m3:Mt),JE I2 [a1,v1] H∧∀w6 w7:Value,∀H5:Hp,I2 [w6,w7] H5→∀Ab:Fr,
ae .num .lss w6 w7 fun v8=>
Br v8 (
DR H5 fun R9=>
ah 1 a0 w7 fun v10=>
Ld R9 v10 fun v11=>
ah 1 a0 w6 fun bc=>
Ld R9 bc fun bj=>
ah 1 a0 w6 fun bA=>
St 1 H5 bA v11 fun cY=>
ah 1 a0 w7 fun bR=>
St 1 cY bR bj fun fS=>
ae .num .add w6 (iv 1) fun ca=>
ae .num .sub w7 (iv 1) fun bQ=>
ay I2 m3 [ca,bQ] fS [w6,w7] H5) (
R (.returned (.tuple #[])) H5)
theorem Dz(h:L293 g a0 a1 a2 H R):ai Tryz.prog g 293 #[a0,a1,a2] H R:=
 ak (hn:=(.n .e (.n .e (.n (.h 0 [6,7] [0] (.n .e (.n (.n (.h 0 [0,1,2,3,4,5,6,7,8,9,10,11,12,13,14,15] [] .e .e) .e) .e)) .e) .e)))) Tryz.func293 h (by kernel_rfl)
def L294(g:Gh)(a0 a1 a2:Value)(H:Hp)(R:Rt):Prop:=
ae .num .add a1 (iv 1) fun v1=>
∃(I2:Jt) (m3:Mt),JE I2 [v1,(iv 0)] H∧∀w6 w7:Value,∀H5:Hp,I2 [w6,w7] H5→∀Ab:Fr,
ae .num .lss w7 (iv 5) fun v8=>
Br v8 (
∀J9:Jt,(∀eW:Value,∀dZ:Hp,(∀r9:Fr,
ae .num .add w7 (iv 1) fun bj=>
ay I2 m3 [eW,bj] dZ [w6,w7] H5)→J9 [eW] dZ)→
∃(OI:Jt) (Xc:Mt),JE OI [w6] H5∧∀nQ:Value,∀fS:Hp,OI [nQ] fS→∀Vg:Fr,
∀Pm:Jt,(∀jK:Value,∀dN:Hp,(∀IN:Fr,
Br jK (
ae .num .add nQ (iv 1) fun cv=>
ay OI Xc [cv] dN [nQ] fS) (
ae .num .eql nQ a2 fun cu=>
Br cu (
R (.returned (Value.bool true)) dN) (
ae .num .sub a2 a1 fun cF=>
ae .num .lss cF (iv 50) fun cG=>
Br cG (
R (.returned (Value.bool false)) dN) (
DR dN fun RL=>
ae .num .sub nQ (iv 1) fun dA=>
ae .num .sub nQ (iv 1) fun dy=>
ah 1 a0 dy fun v30=>
Ld RL v30 fun eR=>
ah 1 a0 nQ fun dR=>
Ld RL dR fun ff=>
ah 1 a0 nQ fun fc=>
St 1 dN fc eR fun jI=>
ah 1 a0 dA fun dQ=>
St 1 jI dQ ff fun rX=>
∀Wx:Jt,(∀qo:Hp,(∀ajY:Fr,
ae .num .sub a2 nQ fun eY=>
ae .num .geq eY (iv 2) fun gB=>
Br gB (
ae .num .add nQ (iv 1) fun gk=>
∃(I44:Jt) (m45:Mt),JE I44 [gk] qo∧∀OU:Value,∀AN:Hp,I44 [OU] AN→∀ajU:Fr,
ae .num .lss OU a2 fun iF=>
Br iF (
DR AN fun G0=>
ah 1 a0 OU fun jB=>
Ld G0 jB fun iW=>
ae .num .sub OU (iv 1) fun l7=>
ah 1 a0 l7 fun oq=>
Ld G0 oq fun kT=>
CF g 295 #[iW,kT] AN (fun po G6=>
Un .not po fun rp=>
Br rp (
JE J9 [nQ] G6) (
DR G6 fun R59=>
ae .num .sub OU (iv 1) fun qj=>
ae .num .sub OU (iv 1) fun xj=>
ah 1 a0 xj fun vi=>
Ld R59 vi fun oo=>
ah 1 a0 OU fun yW=>
Ld R59 yW fun sO=>
ah 1 a0 OU fun rY=>
St 1 G6 rY oo fun H67=>
ah 1 a0 qj fun vL=>
St 1 H67 vL sO fun VH=>
ae .num .add OU (iv 1) fun sj=>
ay I44 m45 [sj] VH [OU] AN)) aU) (
JE J9 [nQ] AN)) (
JE J9 [nQ] qo))→Wx [] qo)→
ae .num .sub nQ a1 fun AW=>
ae .num .geq AW (iv 2) fun xg=>
Br xg (
ae .num .sub nQ (iv 1) fun yI=>
∃(I74:Jt) (m75:Mt),JE I74 [yI] rX∧∀OS:Value,∀VG:Hp,I74 [OS] VG→∀adU:Fr,
ae .num .geq OS (iv 1) fun yV=>
Br yV (
DR VG fun Zh=>
ah 1 a0 OS fun OY=>
Ld Zh OY fun yG=>
ae .num .sub OS (iv 1) fun Tv=>
ah 1 a0 Tv fun Ku=>
Ld Zh Ku fun Hw=>
CF g 295 #[yG,Hw] VG (fun KU ZF=>
Un .not KU fun KT=>
Br KT (
JE Wx [] ZF) (
DR ZF fun Vp=>
ae .num .sub OS (iv 1) fun Kt=>
ae .num .sub OS (iv 1) fun Hv=>
ah 1 a0 Hv fun Bk=>
Ld Vp Bk fun Hu=>
ah 1 a0 OS fun Bj=>
Ld Vp Bj fun Pu=>
ah 1 a0 OS fun OX=>
St 1 ZF OX Hu fun ZE=>
ah 1 a0 Kt fun Ks=>
St 1 ZE Ks Pu fun Wz=>
ae .num .sub OS (iv 1) fun Lk=>
ay I74 m75 [Lk] Wz [OS] VG)) aU) (
JE Wx [] VG)) (
JE Wx [] rX)))))→Pm [jK] dN)→
DR fS fun Zp=>
ae .num .lss nQ a2 fun Bv=>
Br Bv (
ah 1 a0 nQ fun Bu=>
Ld Zp Bu fun yY=>
ae .num .sub nQ (iv 1) fun Lj=>
ah 1 a0 Lj fun Li=>
Ld Zp Li fun xl=>
∀afk:Hp,
CF (g.add afk) 295 #[yY,xl] fS (fun xk VM=>
Un .not xk fun Lg=>
aA (Value.bool true) Lg (Value.bool false) fun Lf=>
JE Pm [Lf] VM) aU) (
JE Pm [(Value.bool false)] fS)) (
R (.returned (Value.bool false)) H5)
theorem Dy(h:L294 g a0 a1 a2 H R):ai Tryz.prog g 294 #[a0,a1,a2] H R:=
 ak (hn:=(.n .e (.n .e (.n (.n .e (.n (.h 0 [7,8] [0,1,2] (.n .e (.h 1 [7] [0,1,2,8] (.n (.n (.n (.h 0 [7] [0,1,2,8] (.n (.h 1 [32] [0,1,2,7,8] (.h 1 [] [] (hr 0 [] 0 3 (.h 2 [3] [] (hr 0 [] 4 12 .e) (hr 0 [] 4 11 (.h 3 [15] [] .e .e)))) .e) .e) .e) .e) .e) (.n .e (.n .e (.n (.h 0 [0,1,2,3,4,5,6,7,8,9,10,11,12,13,14,15,16,17] [] .e .e) (.h 1 [] [0,1,2,7,8] (.n .e (.n (.n .e (.n (.h 0 [9] [0,1,2,7,8] (.n .e (.n (.n (.n (.n (.h 0 [0,1,2,3,4,5,6,7,8,9,10] [] .e .e) .e) (.h 0 [0,1,2,3,4,5,6,7,8,9,10,11,12,13,14,15,16,17] [] .e .e)) .e) .e)) .e) .e)) .e)) (.n .e (.n (.n .e (.n (.h 0 [10] [0,1,2,7,8] (.n .e (.n (.n (.n (.n (.h 0 [0,1,2,3,4,5,6,7,8,9,10] [] .e .e) .e) (.h 0 [0,1,2,3,4,5,6,7,8,9,10,11,12,13,14,15,16,17] [] .e .e)) .e) .e)) .e) .e)) .e))))))) .e) .e)) .e) .e)) .e)))) Tryz.func294 h (by kernel_rfl)
def L295(g:Gh)(a0 a1:Value)(H:Hp)(R:Rt):Prop:=
∀J1:Jt,(∀w4:Value,∀H3:Hp,(∀gs2:Fr,
R (.returned w4) H3)→J1 [w4] H3)→
CF g 304 #[a0] H (fun v5 H6=>
Split v5 true (
CF g 304 #[a1] H6 (fun v7 H8=>
Un .not v7 fun v9=>
aA (Value.bool true) v9 (Value.bool false) fun v10=>
Split v10 false (
ae .num .lss a0 a1 fun v11=>
aA (Value.bool false) (Value.bool true) v11 fun bc=>
JE J1 [bc] H8) (
aA (Value.bool true) (Value.bool true) undef fun bj=>
JE J1 [bj] H8)) (aq R)) (
aA (Value.bool false) undef (Value.bool false) fun bA=>
ae .num .lss a0 a1 fun bD=>
aA bA (Value.bool true) bD fun bR=>
JE J1 [bR] H6)) (aq R)
theorem Dx(h:L295 g a0 a1 H R):ai Tryz.prog g 295 #[a0,a1] H R:=
 ak (hn:=(.n .e (.h 1 [4] [] .e .e))) Tryz.func295 h (by kernel_rfl)
def L296(g:Gh)(a0 a1 a2 a3:Value)(H:Hp)(R:Rt):Prop:=
DR H fun R1=>
ah 1 a0 a3 fun v2=>
Ld R1 v2 fun v3=>
ah 1 a0 a1 fun v4=>
Ld R1 v4 fun v5=>
ah 1 a0 a1 fun v6=>
St 1 H v6 v3 fun H7=>
ah 1 a0 a3 fun v8=>
St 1 H7 v8 v5 fun H9=>
ae .num .add a1 (iv 1) fun v10=>
ae .num .sub a2 (iv 1) fun v11=>
∃(uV:Jt) (Ml:Mt),JE uV [v10,v11] H9∧∀fT yT:Value,∀cY:Hp,uV [fT,yT] cY→∀qM:Fr,
∃(FJ:Jt) (Uj:Mt),JE FJ [fT] cY∧∀jK:Value,∀dN:Hp,FJ [jK] dN→∀IN:Fr,
∀Wy:Jt,(∀jx:Value,∀ef:Hp,(∀Q9:Fr,
Br jx (
ae .num .add jK (iv 1) fun cS=>
ay FJ Uj [cS] ef [jK] dN) (
∃(Vz:Jt) (m29:Mt),JE Vz [yT] ef∧∀Be:Value,∀j6:Hp,Vz [Be] j6→∀ad3:Fr,
∀KH:Jt,(∀RY:Value,∀jI:Hp,(∀ad1:Fr,
Br RY (
ae .num .sub Be (iv 1) fun eF=>
ay Vz m29 [eF] jI [Be] j6) (
ae .num .gtr jK Be fun fy=>
Br fy (
R (.returned jK) jI) (
DR jI fun Ph=>
ah 1 a0 Be fun fw=>
Ld Ph fw fun eY=>
ah 1 a0 jK fun gB=>
Ld Ph gB fun gk=>
ah 1 a0 jK fun gj=>
St 1 jI gj eY fun o9=>
ah 1 a0 Be fun iG=>
St 1 o9 iG gk fun AN=>
ae .num .add jK (iv 1) fun jC=>
ae .num .sub Be (iv 1) fun iF=>
ay uV Ml [jC,iF] AN [fT,yT] cY)))→KH [RY] jI)→
DR j6 fun G0=>
ae .num .leq jK Be fun jB=>
Br jB (
ah 1 a0 a1 fun iW=>
Ld G0 iW fun l7=>
ah 1 a0 Be fun oq=>
Ld G0 oq fun kT=>
∀F56:Hp,
CF (g.add F56) 295 #[l7,kT] j6 (fun qs VI=>
aA (Value.bool true) qs (Value.bool false) fun Bl=>
JE KH [Bl] VI) aU) (
JE KH [(Value.bool false)] j6)))→Wy [jx] ef)→
DR dN fun R60=>
ae .num .leq jK yT fun xj=>
Br xj (
ah 1 a0 a1 fun vi=>
Ld R60 vi fun oo=>
ah 1 a0 jK fun yW=>
Ld R60 yW fun sO=>
∀F66:Hp,
CF (g.add F66) 295 #[oo,sO] dN (fun vM RQ=>
Un .not vM fun xh=>
aA (Value.bool true) xh (Value.bool false) fun sj=>
JE Wy [sj] RQ) aU) (
JE Wy [(Value.bool false)] dN)
theorem Dw(h:L296 g a0 a1 a2 a3 H R):ai Tryz.prog g 296 #[a0,a1,a2,a3] H R:=
 ak (hn:=(.n .e (.n (.h 0 [0,1,2,3,4,5,6,7,8,9,10,11,12,13,14,15] [] .e .e) (.n .e (.n (.n (.h 0 [9,10] [0,1] (.n (.n (.n (.h 0 [9] [0,1,10] (.n (.h 1 [43] [0,1,9,10] (.h 1 [] [] (hr 0 [] 0 3 (.h 2 [3] [] (hr 0 [] 4 11 .e) (hr 0 [] 4 10 (.h 3 [14] [] .e .e)))) .e) .e) .e) .e) .e) (.n (.n (.h 0 [10] [0,1,9] (.n (.h 1 [59] [0,1,9,10] (.h 1 [] [] (hr 0 [] 0 3 (.h 2 [3] [] (hr 0 [] 4 10 .e) (hr 0 [] 4 9 (.h 3 [13] [] .e .e)))) .e) .e) .e) .e) .e) (.n .e (.n (.h 0 [0,1,2,3,4,5,6,7,8,9,10,11,12,13,14,15] [] .e .e) .e)))) .e) .e) .e) .e))))) Tryz.func296 h (by kernel_rfl)
def L297(g:Gh)(a0 a1 a2 a3:Value)(H:Hp)(R:Rt):Prop:=
DR H fun R1=>
ah 1 a0 a3 fun v2=>
Ld R1 v2 fun v3=>
ah 1 a0 a1 fun v4=>
Ld R1 v4 fun v5=>
ah 1 a0 a1 fun v6=>
St 1 H v6 v3 fun H7=>
ah 1 a0 a3 fun v8=>
St 1 H7 v8 v5 fun H9=>
ae .num .add a1 (iv 1) fun v10=>
ae .num .sub a2 (iv 1) fun v11=>
∃(uV:Jt) (Ml:Mt),JE uV [v10] H9∧∀fT:Value,∀cY:Hp,uV [fT] cY→∀qM:Fr,
∀uT:Jt,(∀pn:Value,∀fR:Hp,(∀NA:Fr,
Br pn (
ae .num .add fT (iv 1) fun cf=>
ay uV Ml [cf] fR [fT] cY) (
∃(FI:Jt) (Ui:Mt),JE FI [v11] fR∧∀jx:Value,∀ef:Hp,FI [jx] ef→∀Q9:Fr,
∀OG:Jt,(∀AU:Value,∀kM:Hp,(∀Vf:Fr,
Br AU (
ae .num .sub jx (iv 1) fun eR=>
ay FI Ui [eR] kM [jx] ef) (
ae .num .gtr fT jx fun dR=>
Br dR (
DR kM fun R33=>
ah 1 a0 a1 fun fc=>
Ld R33 fc fun fA=>
ah 1 a0 jx fun dQ=>
Ld R33 dQ fun eF=>
ah 1 a0 jx fun fy=>
St 1 kM fy fA fun Ba=>
ah 1 a0 a1 fun fw=>
St 1 Ba fw eF fun yC=>
R (.returned (.tuple #[jx,(Value.bool true)])) yC) (
DR kM fun R42=>
ah 1 a0 jx fun gk=>
Ld R42 gk fun gj=>
ah 1 a0 fT fun g9=>
Ld R42 g9 fun iG=>
ah 1 a0 fT fun jT=>
St 1 kM jT gj fun qn=>
ah 1 a0 jx fun iF=>
St 1 qn iF iG fun yA=>
ae .num .add fT (iv 1) fun jB=>
ae .num .sub jx (iv 1) fun iW=>
∃(I53:Jt) (m54:Mt),JE I53 [jB,iW] yA∧∀w57 ZT:Value,∀vF:Hp,I53 [w57,ZT] vF→∀ajQ:Fr,
∃(I59:Jt) (m60:Mt),JE I59 [w57] vF∧∀OT:Value,∀FK:Hp,I59 [OT] FK→∀adY:Fr,
∀Ww:Jt,(∀w67:Value,∀A7:Hp,(∀ajN:Fr,
Br w67 (
ae .num .add OT (iv 1) fun vL=>
ay I59 m60 [vL] A7 [OT] FK) (
∃(I69:Jt) (m70:Mt),JE I69 [ZT] A7∧∀Kq:Value,∀RP:Hp,I69 [Kq] RP→∀adV:Fr,
∀Wv:Jt,(∀w77:Value,∀Kj:Hp,(∀ajL:Fr,
Br w77 (
ae .num .sub Kq (iv 1) fun KV=>
ay I69 m70 [KV] Kj [Kq] RP) (
ae .num .gtr OT Kq fun yV=>
Br yV (
DR Kj fun Zh=>
ah 1 a0 a1 fun OY=>
Ld Zh OY fun yG=>
ah 1 a0 Kq fun Tv=>
Ld Zh Tv fun Ku=>
ah 1 a0 Kq fun Hw=>
St 1 Kj Hw yG fun H86=>
ah 1 a0 a1 fun Pv=>
St 1 H86 Pv Ku fun WB=>
R (.returned (.tuple #[Kq,(Value.bool false)])) WB) (
DR Kj fun Vp=>
ah 1 a0 Kq fun Kt=>
Ld Vp Kt fun Hv=>
ah 1 a0 OT fun Bk=>
Ld Vp Bk fun Hu=>
ah 1 a0 OT fun Bj=>
St 1 Kj Bj Hv fun WA=>
ah 1 a0 Kq fun OX=>
St 1 WA OX Hu fun ZE=>
ae .num .add OT (iv 1) fun Ks=>
ae .num .sub Kq (iv 1) fun Ts=>
ay I53 m54 [Ks,Ts] ZE [w57,ZT] vF)))→Wv [w77] Kj)→
DR RP fun Zq=>
ae .num .leq OT Kq fun xm=>
Br xm (
ah 1 a0 Kq fun Bv=>
Ld Zq Bv fun Bu=>
ah 1 a0 a1 fun yY=>
Ld Zq yY fun Lj=>
∀afl:Hp,
CF (g.add afl) 295 #[Bu,Lj] RP (fun xl VN=>
Un .not xl fun xk=>
aA (Value.bool true) xk (Value.bool false) fun Lh=>
JE Wv [Lh] VN) aU) (
JE Wv [(Value.bool false)] RP)))→Ww [w67] A7)→
DR FK fun Zn=>
ae .num .leq OT ZT fun Lf=>
Br Lf (
ah 1 a0 OT fun Bt=>
Ld Zn Bt fun Bs=>
ah 1 a0 a1 fun Bq=>
Ld Zn Bq fun Hy=>
∀afj:Hp,
CF (g.add afj) 295 #[Bs,Hy] FK (fun TZ VJ=>
aA (Value.bool true) TZ (Value.bool false) fun TY=>
JE Ww [TY] VJ) aU) (
JE Ww [(Value.bool false)] FK))))→OG [AU] kM)→
DR ef fun Zm=>
ae .num .leq fT jx fun Bp=>
Br Bp (
ah 1 a0 jx fun yX=>
Ld Zm yX fun TX=>
ah 1 a0 a1 fun Bo=>
Ld Zm Bo fun TW=>
∀afi:Hp,
CF (g.add afi) 295 #[TX,TW] ef (fun Bn l6=>
Un .not Bn fun Bm=>
aA (Value.bool true) Bm (Value.bool false) fun Lb=>
JE OG [Lb] l6) aU) (
JE OG [(Value.bool false)] ef)))→uT [pn] fR)→
DR cY fun Zl=>
ae .num .leq fT v11 fun PE=>
Br PE (
ah 1 a0 fT fun WN=>
Ld Zl WN fun K9=>
ah 1 a0 a1 fun K8=>
Ld Zl K8 fun K7=>
∀afh:Hp,
CF (g.add afh) 295 #[K9,K7] cY (fun K6 ae8=>
aA (Value.bool true) K6 (Value.bool false) fun KZ=>
JE uT [KZ] ae8) aU) (
JE uT [(Value.bool false)] cY)
theorem Dv(h:L297 g a0 a1 a2 a3 H R):ai Tryz.prog g 297 #[a0,a1,a2,a3] H R:=
 ak (hn:=(.n .e (.n (.h 0 [0,1,2,3,4,5,6,7,8,9,10,11,12,13,14,15] [] .e .e) (.n .e (.n (.n (.h 0 [10] [0,1,11] (.n (.h 1 [43] [0,1,10,11] (.h 1 [] [] (hr 0 [] 0 3 (.h 2 [3] [] (hr 0 [] 4 10 .e) (hr 0 [] 4 9 (.h 3 [13] [] .e .e)))) .e) .e) .e) .e) .e) (.n (.n (.h 0 [11] [0,1,10] (.n (.h 1 [60] [0,1,10,11] (.h 1 [] [] (hr 0 [] 0 3 (.h 2 [3] [] (hr 0 [] 4 11 .e) (hr 0 [] 4 10 (.h 3 [14] [] .e .e)))) .e) .e) .e) .e) .e) (.n (.n .e (.n (.n (.h 0 [0,1,2,3,4,5,6,7,8,9,10,11,12,13,14,15] [] .e .e) .e) .e)) (.n (.h 0 [0,1,2,3,4,5,6,7,8,9,10,11,12,13,14,15] [] .e .e) (.n .e (.n .e (.n (.n (.h 0 [10,11] [0,1] (.n (.n (.n (.h 0 [10] [0,1,11] (.n (.h 1 [112] [0,1,10,11] (.h 1 [] [] (hr 0 [] 0 3 (.h 2 [3] [] (hr 0 [] 4 10 .e) (hr 0 [] 4 9 (.h 3 [13] [] .e .e)))) .e) .e) .e) .e) .e) (.n (.n (.h 0 [11] [0,1,10] (.n (.h 1 [129] [0,1,10,11] (.h 1 [] [] (hr 0 [] 0 3 (.h 2 [3] [] (hr 0 [] 4 11 .e) (hr 0 [] 4 10 (.h 3 [14] [] .e .e)))) .e) .e) .e) .e) .e) (.n .e (.n (.h 0 [0,1,2,3,4,5,6,7,8,9,10,11,12,13,14,15] [] .e .e) .e)))) .e) .e) .e) (.n (.h 0 [0,1,2,3,4,5,6,7,8,9,10,11,12,13,14,15] [] .e .e) .e)))))))))))) Tryz.func297 h (by kernel_rfl)
def L299(g:Gh)(a0 a1 a2 a3:Value)(H:Hp)(R:Rt):Prop:=
∃(I1:Jt) (m2:Mt),JE I1 [a1] H∧∀w5:Value,∀H4:Hp,I1 [w5] H4→∀Ta:Fr,
ae .num .mul (iv 2) w5 fun v6=>
ae .num .add v6 (iv 1) fun v7=>
ae .num .geq v7 a2 fun v8=>
Br v8 (
R (.returned (.tuple #[])) H4) (
∀J9:Jt,(∀eW:Value,∀dZ:Hp,(∀r9:Fr,
DR dZ fun R13=>
ae .num .add a3 w5 fun bA=>
ah 1 a0 bA fun bD=>
Ld R13 bD fun bR=>
ae .num .add a3 eW fun bK=>
ah 1 a0 bK fun ca=>
Ld R13 ca fun bQ=>
CF g 295 #[bR,bQ] dZ (fun v20 dN=>
Un .not v20 fun cC=>
Br cC (
R (.returned (.tuple #[])) dN) (
DR dN fun Tg=>
ae .num .add a3 w5 fun cu=>
ae .num .add a3 eW fun cF=>
ae .num .add a3 eW fun cG=>
ah 1 a0 cG fun cS=>
Ld Tg cS fun dA=>
ae .num .add a3 w5 fun dy=>
ah 1 a0 dy fun v30=>
Ld Tg v30 fun eR=>
ah 1 a0 cu fun dR=>
St 1 dN dR dA fun iu=>
ah 1 a0 cF fun fc=>
St 1 iu fc eR fun jI=>
ay I1 m2 [eW] jI [w5] H4)) aU)→J9 [eW] dZ)→
∀yP:Jt,(∀OV:Value,∀mg:Hp,(∀YN:Fr,
Br OV (
ae .num .add v7 (iv 1) fun fw=>
JE J9 [fw] mg) (
JE J9 [v7] mg))→yP [OV] mg)→
DR H4 fun R41=>
ae .num .add v7 (iv 1) fun gB=>
ae .num .lss gB a2 fun gk=>
Br gk (
ae .num .add a3 v7 fun gj=>
ah 1 a0 gj fun g9=>
Ld R41 g9 fun iG=>
ae .num .add a3 v7 fun jT=>
ae .num .add jT (iv 1) fun jC=>
ah 1 a0 jC fun iF=>
Ld R41 iF fun ja=>
∀F51:Hp,
CF (g.add F51) 295 #[iG,ja] H4 (fun iW yz=>
aA (Value.bool true) iW (Value.bool false) fun oq=>
JE yP [oq] yz) aU) (
JE yP [(Value.bool false)] H4))
theorem Du(h:L299 g a0 a1 a2 a3 H R):ai Tryz.prog g 299 #[a0,a1,a2,a3] H R:=
 ak (hn:=(.n .e (.n (.h 0 [8] [0,2,3] (.n (.n .e (.n .e (.h 1 [9] [0,2,3,8] (.h 1 [36] [0,2,3,8,9] (.h 1 [] [] (hr 0 [] 0 4 (.h 2 [4] [] (hr 0 [] 5 15 .e) (hr 0 [] 5 14 (.h 3 [19] [] .e .e)))) .e) .e) (.n (.n (.h 0 [0,1,2,3,4,5,6,7,8,9,10,11,12,13] [] .e .e) .e) (.n (.h 0 [0,1,2,3,4,5,6,7,8,9,10,11,12,13,14,15,16,17,18,19,20,21,22,23] [] .e .e) .e))))) .e) .e) .e))) Tryz.func299 h (by kernel_rfl)
def L300(g:Gh)(a0:Value)(H:Hp)(R:Rt):Prop:=
bL .u64 a0 fun v1=>
CF g 286 #[v1] H (fun v2 H3=>
ae .num .shl (Value.int .u64 1) v2 fun v4=>
R (.returned v4) H3) (aq R)
theorem Ds(h:L300 g a0 H R):ai Tryz.prog g 300 #[a0] H R:=
 ak (hn:=.e) Tryz.func300 h (by kernel_rfl)
def L301(g:Gh)(a0:Value)(H:Hp)(R:Rt):Prop:=
DR H fun R1=>
Nil a0 fun v2=>
Ld R1 v2 fun v3=>
Nil a0 fun v4=>
Ld R1 v4 fun v5=>
ae .num .shl v5 (Value.int .u64 13) fun v6=>
ae .num .xor v3 v6 fun v7=>
Nil a0 fun v8=>
St 1 H v8 v7 fun H9=>
DR H9 fun Zr=>
Nil a0 fun v11=>
Ld Zr v11 fun bc=>
Nil a0 fun bj=>
Ld Zr bj fun bA=>
ae .num .shr bA (Value.int .u64 7) fun bD=>
ae .num .xor bc bD fun bR=>
Nil a0 fun bK=>
St 1 H9 bK bR fun dK=>
DR dK fun uB=>
Nil a0 fun v20=>
Ld uB v20 fun cf=>
Nil a0 fun cC=>
Ld uB cC fun cv=>
ae .num .shl cv (Value.int .u64 17) fun cu=>
ae .num .xor cf cu fun cF=>
Nil a0 fun cG=>
St 1 dK cG cF fun iV=>
Nil a0 fun dA=>
Ld iV dA fun dy=>
R (.returned dy) iV
theorem Dr(h:L301 g a0 H R):ai Tryz.prog g 301 #[a0] H R:=
 ak (hn:=(.n .e (.n (.h 0 [0,1,2,3,4,5,6,7,8,9] [] .e .e) (.n (.h 0 [0,1,2,3,4,5,6,7,8,9] [] .e .e) (.n (.h 0 [0,1,2,3,4,5,6,7,8,9] [] .e .e) .e))))) Tryz.func301 h (by kernel_rfl)
def L302(g:Gh)(a0 a1 a2:Value)(H:Hp)(R:Rt):Prop:=
ae .num .sub a1 (iv 1) fun v1=>
ae .num .add a1 (iv 1) fun v2=>
CF g 303 #[a0,v1,a1,v2,a2] H (fun v3 H4=>
R (.returned v3) H4) (aq R)
theorem Dq(h:L302 g a0 a1 a2 H R):ai Tryz.prog g 302 #[a0,a1,a2] H R:=
 ak (hn:=.e) Tryz.func302 h (by kernel_rfl)
def L303(g:Gh)(a0 a1 a2 a3 a4:Value)(H:Hp)(R:Rt):Prop:=
CF g 305 #[a0,a1,a2,a4] H (fun v1 H2=>
Ext 0 v1 fun v3=>
Ext 1 v1 fun v4=>
CF g 305 #[a0,v4,a3,a4] H2 (fun v5 H6=>
Ext 0 v5 fun v7=>
Ext 1 v5 fun v8=>
CF g 305 #[a0,v3,v7,a4] H6 (fun v9 dJ=>
Ext 0 v9 fun v11=>
Ext 1 v9 fun bc=>
R (.returned bc) dJ) (aq R)) (aq R)) (aq R)
theorem Dp(h:L303 g a0 a1 a2 a3 a4 H R):ai Tryz.prog g 303 #[a0,a1,a2,a3,a4] H R:=
 ak (hn:=.e) Tryz.func303 h (by kernel_rfl)
def L304(g:Gh)(a0:Value)(H:Hp)(R:Rt):Prop:=
ae .num .neq a0 a0 fun v1=>
R (.returned v1) H
theorem Dn(h:L304 g a0 H R):ai Tryz.prog g 304 #[a0] H R:=
 ak (hn:=.e) Tryz.func304 h (by kernel_rfl)
def L305(g:Gh)(a0 a1 a2 a3:Value)(H:Hp)(R:Rt):Prop:=
DR H fun R1=>
ah 1 a0 a2 fun v2=>
Ld R1 v2 fun v3=>
ah 1 a0 a1 fun v4=>
Ld R1 v4 fun v5=>
CF g 295 #[v3,v5] H (fun v6 H7=>
Br v6 (
Nil a3 fun v8=>
Ld H7 v8 fun v9=>
ae .num .add v9 (iv 1) fun v10=>
Nil a3 fun v11=>
St 1 H7 v11 v10 fun fq=>
R (.returned (.tuple #[a2,a1])) fq) (
R (.returned (.tuple #[a1,a2])) H7)) aU
theorem Dm(h:L305 g a0 a1 a2 a3 H R):ai Tryz.prog g 305 #[a0,a1,a2,a3] H R:=
 ak (hn:=(.n .e (.n (.n (.h 0 [0,1,2,3,4,5,6,7,8] [] .e .e) .e) .e))) Tryz.func305 h (by kernel_rfl)
theorem eC{B:Hp}{s:Value}{n:Int}{K:Value→Hp→Prop}(h:∀b,K (.slice (some ⟨b,0,none⟩) 1 1) ((b,.cells #[.int .i64 n,s] 57 (0,0))::B)):
  av Tryz.prog 28 1 [(0,.agg #[.int .i64 n,s])] B K:=
 av.one (r:=[.int .i64 n,s]) (e:=57) (k:=2) (z:=.agg #[.int .i64 0,.slice none 0 0]) (by kernel_rfl) (by kernel_rfl) (by kernel_rfl) (by decide) rfl h
theorem th{G:Nat→Nat}{W:Nat}:((List.range W).map fun k=>if k<W then G k else 0)=(List.range W).map G:=by
 apply List.map_congr_left
 intro k hk
 rw[if_pos (List.mem_range.1 hk)]
theorem fQ{n:Nat}{ws:List Nat}(h:aj.cB n ws):ws.length≤4294967296:=by have:=h.len;have:=aj.rj h.lN;omega
theorem aD{B:Hp}{s:Value}{ws:List Nat}(h:Words B s ws):s.oneCell'=true:=by obtain⟨a,c,rfl,_⟩:=h.1.shape;rfl
theorem vZ{G:Nat→Nat}{W i:Nat}(hi:i<W):(iw ((List.range W).map fun k=>if k<i then G k else 0)).set i ((G i:Nat):Int)=iw ((List.range W).map fun k=>if k<i+1 then G k else 0):=by
 apply List.ext_getElem?
 intro j
 unfold iw
 by_cases e:i=j
 ·subst e;simp[hi]
 ·rw[List.getElem?_set_ne e]
  by_cases hj:j<W
  ·simp only[List.getElem?_map,List.getElem?_range hj,Option.map_some]
   by_cases h2:j<i
   ·rw[if_pos h2,if_pos (by omega)]
   ·rw[if_neg h2,if_neg (by omega)]
  ·rw[List.getElem?_eq_none (by simp;omega),List.getElem?_eq_none (by simp;omega)]
theorem range_zero{G:Nat→Nat}{W:Nat}:List.replicate W (0:Int)=iw ((List.range W).map fun k=>if k<0 then G k else 0):=by
 apply List.ext_getElem?
 intro j
 unfold iw
 by_cases hj:j<W
 ·simp[hj]
 ·rw[List.getElem?_eq_none (by simp;omega),List.getElem?_eq_none (by simp;omega)]
theorem gI{n:Nat}(hn:n≤16):aj.wN n≤9223372036854775807∧aj.wN n*8≤281474976710656:=by have:=aj.rj hn;omega
end Go.Proofs
