import Derived.Test.YtfgkdmbicjdeoaaGreatW1
import Derived.ChangeKeysEq
import Derived.Laws.StructEq
import Derived.Defers
import Derived.Test.YtfgkdmbicjdeoaaGreatProg
set_option linter.unusedVariables false
set_option linter.unusedSimpArgs false
set_option linter.unusedSectionVars false
namespace af
def fu(w:Nat):List UInt8:=(List.range 8).map fun i=>UInt8.ofNat (w>>>(8*i))
def fx(ws:List Nat):List UInt8:=ws.flatMap fu
theorem eF(w:Nat):(fu w).length=8:=by simp[fu]
theorem pF:∀l:List Nat,(fx l).length=8*l.length
 | []=>rfl
 |x::l=>by rw[fx,List.flatMap_cons,List.length_append,eF];have:=pF l;unfold fx at this;rw[this,List.length_cons];omega
theorem zK{a b:Nat}(ha:a<18446744073709551616)(hb:b<18446744073709551616)(h:fu a=fu b):a=b:=by
 apply Nat.eq_of_testBit_eq
 intro j
 by_cases hj:j<64
 ·have hi:j/8<8:=by omega
  have h1:=congrArg (fun l=>l[j/8]?) h
  simp only[fu,List.getElem?_map,List.getElem?_range hi,Option.map_some,Option.some.injEq]at h1
  have h2:=congrArg UInt8.toNat h1
  simp only[UInt8.toNat_ofNat']at h2
  have h3:=congrArg (fun x=>x.testBit (j%8)) h2
  simp only[Nat.testBit_mod_two_pow,Nat.testBit_shiftRight]at h3
  rw[show 8*(j/8)+j%8=j by omega]at h3
  have:decide (j%8<8)=true:=by simp;omega
  simpa[this]using h3
 ·rw[Nat.testBit_lt_two_pow (Nat.lt_of_lt_of_le ha (Nat.pow_le_pow_right (n:=2) (by decide) (by omega:64≤j))),Nat.testBit_lt_two_pow (Nat.lt_of_lt_of_le hb (Nat.pow_le_pow_right (n:=2) (by decide) (by omega:64≤j)))]
theorem wJ:∀{a b:List Nat},(∀w∈a,w<18446744073709551616)→(∀w∈b,w<18446744073709551616)→fx a=fx b→a=b
 | [],[],_,_,_=>rfl
 | [],y::b,_,_,h=>by have:=congrArg List.length h;simp[fx,eF]at this;omega
 |x::a,[],_,_,h=>by have:=congrArg List.length h;simp[fx,eF]at this
 |x::a,y::b,ha,hb,h=>by
  simp only[fx,List.flatMap_cons]at h
  obtain⟨h1,h2⟩:=List.append_inj h (by rw[eF,eF])
  rw[zK (ha x (by simp)) (hb y (by simp)) h1,wJ (fun w hw=>ha w (by simp[hw])) (fun w hw=>hb w (by simp[hw])) h2]
theorem bO.key_inj{n:Nat}{a b:List Nat}(ha:bO n a)(hb:bO n b)(h:fx a=fx b):a=b:=wJ (fun w hw=>ha.lt hw) (fun w hw=>hb.lt hw) h
abbrev Fs:=List (List Nat)
def add(l:Fs)(t:List Nat):Fs:=if t∈l then l else l++[t]
def df(L:Fs):Fs:=L.foldl add []
def given(n:Nat)(l:Fs)(v:Nat):Fs:=l.foldl (fun acc t=>add (add acc (dj n t v false)) (dj n t v true)) []
def nodes(n:Nat)(l:Fs)(v:Nat):Fs:=l.filter fun t=>dep n t v
def st(n:Nat)(L:Fs)(A:Nat):Nat→Fs
 |0=>df L
 |k+1=>if A.testBit k then given n (st n L A k) k else st n L A k
def lvl(n:Nat)(L:Fs)(A v:Nat):Nat:=(nodes n (st n L A n) v).length
theorem p7{l:Fs}{t x:List Nat}:x∈add l t↔x∈l∨x=t:=by
 unfold add
 split
 ·constructor
  ·exact .inl
  ·rintro(h|rfl)<;>assumption
 ·simp
theorem o9{l:Fs}{t:List Nat}(h:l.Nodup):(add l t).Nodup:=by
 unfold add
 split
 ·exact h
 ·rename_i hn
  rw[List.nodup_append]
  exact⟨h,by simp,fun a ha b hb=>by simp at hb;subst hb;rintro rfl;exact hn ha⟩
theorem iF{α:Type}(f:α→Fs→Fs)(g:α→List Nat→Prop)(hf:∀a l x,x∈f a l↔x∈l∨g a x):∀(L:List α) (acc:Fs) (x:List Nat),x∈L.foldl (fun acc a=>f a acc) acc↔x∈acc∨∃a∈L,g a x
 | [],acc,x=>by simp
 |a::L,acc,x=>by
  rw[List.foldl_cons,iF f g hf L,hf]
  simp only[List.mem_cons,exists_eq_or_imp,or_assoc]
theorem fV{α:Type}(f:α→Fs→Fs)(hf:∀a l,l.Nodup→(f a l).Nodup):∀(L:List α) (acc:Fs),acc.Nodup→(L.foldl (fun acc a=>f a acc) acc).Nodup
 | [],acc,h=>h
 |a::L,acc,h=>fV f hf L _ (hf a acc h)
theorem bY{L:Fs}{x:List Nat}:x∈df L↔x∈L:=by
 unfold df
 have:=iF (fun a l=>add l a) (fun a x=>x=a) (fun a l x=>p7) L [] x
 rw[this];simp
theorem fc(L:Fs):(df L).Nodup:=fV (fun a l=>add l a) (fun a l h=>o9 h) L [] (by simp)
theorem bt{n v:Nat}{l:Fs}{x:List Nat}:x∈given n l v↔∃t∈l,∃b,x=dj n t v b:=by
 unfold given
 have:=iF (fun t acc=>add (add acc (dj n t v false)) (dj n t v true)) (fun t x=>∃b,x=dj n t v b) (fun t l x=>by
  rw[p7,p7]
  constructor
  ·rintro((h|h)|h)
   ·exact .inl h
   ·exact .inr ⟨false,h⟩
   ·exact .inr ⟨true,h⟩
  ·rintro(h|⟨b,h⟩)
   ·exact .inl (.inl h)
   ·cases b
    ·exact .inl (.inr h)
    ·exact .inr h) l [] x
 rw[this];simp
theorem iu(n:Nat)(l:Fs)(v:Nat):(given n l v).Nodup:=fV (fun t acc=>add (add acc (dj n t v false)) (dj n t v true)) (fun a l h=>o9 (o9 h)) l [] (by simp)
theorem j8(n:Nat)(L:Fs)(A:Nat):∀k,(st n L A k).Nodup
 |0=>fc L
 |k+1=>by
  rw[st];split
  ·exact iu _ _ _
  ·exact j8 n L A k
theorem fh{a b:Fs}(ha:a.Nodup)(hb:b.Nodup)(h:∀x,x∈a↔x∈b):a.Perm b:=(List.perm_ext_iff_of_nodup ha hb).2 h
theorem gP{n v:Nat}{a b:Fs}(h:a.Perm b):(nodes n a v).length=(nodes n b v).length:=(h.filter _).length_eq
theorem uB{n:Nat}{L:Fs}{A:Nat}(hL:∀t∈L,bO n t)(hn:n≤16):∀k,∀t∈st n L A k,bO n t
 |0,t,h=>hL t (bY.1 h)
 |k+1,t,h=>by
  rw[st]at h
  split at h
  ·obtain⟨u,_,b,rfl⟩:=bt.1 h;exact cg hn
  ·exact uB hL hn k t h
theorem eT(l:Fs)(t:List Nat):(add l t).length≤l.length+1:=by unfold add;split<;>simp
theorem dh{α:Type}(f:α→Fs→Fs)(c:Nat)(hf:∀a l,(f a l).length≤l.length+c):∀(L:List α) (acc:Fs),(L.foldl (fun acc a=>f a acc) acc).length≤acc.length+c*L.length
 | [],acc=>by simp
 |a::L,acc=>by
  have h1:=dh f c hf L (f a acc)
  have h2:=hf a acc
  rw[List.foldl_cons,List.length_cons,Nat.mul_succ];omega
theorem oE(n:Nat)(L:Fs)(A:Nat):∀k,(st n L A k).length≤2^k*L.length
 |0=>by have:=dh (fun a l=>add l a) 1 (fun a l=>eT l a) L [];simpa[st,df]using this
 |k+1=>by
  have ih:=oE n L A k
  rw[st,Nat.pow_succ]
  split
  ·have h:=dh (fun t acc=>add (add acc (dj n t k false)) (dj n t k true)) 2 (fun a l=>by have h1:=eT (add l (dj n a k false)) (dj n a k true);have h2:=eT l (dj n a k false);omega) (st n L A k) []
   have h':(given n (st n L A k) k).length≤2*(st n L A k).length:=by simpa[given]using h
   have:2*(st n L A k).length≤2*(2^k*L.length):=Nat.mul_le_mul_left _ ih
   rw[Nat.mul_comm (2^k) 2,Nat.mul_assoc];omega
  ·have:2^k*L.length≤2^k*2*L.length:=Nat.mul_le_mul_right _ (by omega)
   omega
def iQ(n:Nat)(ws:List Nat):Nat→Nat
 |0=>0
 |v+1=>if dep n ws v then iQ n ws v|||2^v else iQ n ws v
def mJ(n:Nat)(ws:List Nat):Nat:=iQ n ws n
theorem fJ(n:Nat)(ws:List Nat)(u:Nat):∀k,(iQ n ws k).testBit u=(decide (u<k) &&dep n ws u)
 |0=>by simp[iQ]
 |v+1=>by
  rw[iQ]
  by_cases e:u=v
  ·subst e
   split
   ·rename_i h;rw[Nat.testBit_or,Nat.testBit_two_pow_self];simp[h]
   ·rename_i h;rw[fJ n ws u u];simp[h]
  ·have h1:decide (u<v+1)=decide (u<v):=by simp;omega
   rw[h1]
   split
   ·rw[Nat.testBit_or,Nat.testBit_two_pow,fJ n ws u v];simp[Ne.symm e]
   ·exact fJ n ws u v
theorem j7(n:Nat)(ws:List Nat):∀k,iQ n ws k<2^k
 |0=>by simp[iQ]
 |v+1=>by
  have h1:=j7 n ws v
  have h2:2^v<2^(v+1):=Nat.pow_lt_pow_right (by decide) (by omega)
  rw[iQ];split
  ·exact Nat.or_lt_two_pow (by omega) h2
  ·omega
theorem qe(A u:Nat):(A>>>u&&&1=1)↔A.testBit u=true:=by
 rw[dY,Nat.testBit_shiftRight,Nat.add_zero];cases A.testBit u<;>simp
theorem jK(A u:Nat):((A>>>u)%2=1)↔A.testBit u=true:=by
 rw[←qe,Nat.and_one_is_mod]
def dS(bs:List Bool)(i:Nat):Nat→Nat
 |0=>0
 |j+1=>if bs.getD (64*i+j) false then dS bs i j|||2^j else dS bs i j
theorem cG(bs:List Bool)(i k:Nat):∀J,(dS bs i J).testBit k=(decide (k<J) &&bs.getD (64*i+k) false)
 |0=>by simp[dS]
 |j+1=>by
  rw[dS]
  by_cases e:k=j
  ·subst e
   split
   ·rename_i h;rw[Nat.testBit_or,Nat.testBit_two_pow_self,h];simp
   ·rename_i h;rw[cG bs i k k];simp at h⊢;exact h
  ·have h1:decide (k<j+1)=decide (k<j):=by simp;omega
   rw[h1]
   split
   ·rw[Nat.testBit_or,Nat.testBit_two_pow,cG bs i k j];simp[Ne.symm e]
   ·exact cG bs i k j
theorem nv(bs:List Bool)(i:Nat):∀J,dS bs i J<2^J
 |0=>by simp[dS]
 |j+1=>by
  have h1:=nv bs i j
  have h2:2^j<2^(j+1):=Nat.pow_lt_pow_right (by decide) (by omega)
  rw[dS];split
  ·exact Nat.or_lt_two_pow (by omega) h2
  ·omega
theorem s7{bs:List Bool}{i j:Nat}(h:bs.getD (64*i+j) false=true):dS bs i j+2^j=dS bs i (j+1):=by
 rw[dS,if_pos h]
 have:=Nat.two_pow_add_eq_or_of_lt (nv bs i j) 1
 rw[Nat.mul_one]at this
 rw[Nat.or_comm,←this,Nat.add_comm]
def gU(n:Nat)(bs:List Bool):List Nat:=(List.range (wN n)).map fun i=>dS bs i 64
theorem Ef(v:Nat):dS ((List.range 64).map fun x=>x.testBit v) 0 64=mask v:=by
 apply Nat.eq_of_testBit_eq;intro k
 rw[cG,cS]
 by_cases hk:k<64
 ·simp[hk]
 ·simp[hk]
theorem zk{n v i:Nat}{ws:List Nat}{b:Bool}(hf:bO n ws)(hv:v<n)(hi:i<wN n):cV ws v b i&&&bQ n=cV ws v b i:=by
 have JN:∀k,ws.getD k 0<2^64:=fun k=>by
  rw[List.getD_eq_getElem?_getD]
  rcases Nat.lt_or_ge k ws.length with h|h
  ·rw[List.getElem?_eq_getElem h];exact hf.lt (List.getElem_mem h)
  ·rw[List.getElem?_eq_none h];decide
 have hlt:cV ws v b i<2^64:=by
  unfold cV
  split
  ·exact JN _
  ·split
   ·exact Nat.or_lt_two_pow (Nat.lt_of_le_of_lt Nat.and_le_left (JN i)) (Nat.lt_of_le_of_lt (Nat.shiftRight_le _ _) (Nat.lt_of_le_of_lt Nat.and_le_left (JN i)))
   ·exact Nat.or_lt_two_pow (Nat.lt_of_le_of_lt (Go.Sx.iB _ _) (JN i)) (Nat.mod_lt _ (by decide))
 by_cases h6:6≤n
 ·exact kO (by unfold bQ;rw[if_pos h6];have:(2:Nat)^64=18446744073709551616:=rfl;omega)
 ·have Yh:¬6≤v:=by omega
  apply Nat.eq_of_testBit_eq;intro j
  rw[Nat.testBit_and,ed,if_neg h6]
  by_cases hj:j<2^n
  ·simp[hj]
  ·have hz:(cV ws v b i).testBit j=false:=by
    have oO:ws.getD i 0≤bQ n:=by
     rw[List.getD_eq_getElem?_getD,List.getElem?_eq_getElem (by rw[hf.len];exact hi)];exact hf.full _ (List.getElem_mem _)
    have rB:∀k,2^n≤k→(ws.getD i 0).testBit k=false:=fun k hk=>by
     have:=congrArg (fun x=>x.testBit k) (kO oO)
     simp only[Nat.testBit_and,ed,if_neg h6]at this
     rw[←this];simp;omega
    unfold cV
    rw[if_neg Yh]
    cases b
    ·simp only[Bool.false_eq_true,if_false]
     rw[show(18446744073709551616:Nat)=2^64 by rfl,Nat.testBit_or,Nat.testBit_mod_two_pow,Nat.testBit_shiftLeft,Go.Sx.cD,Go.Sx.cD,rB j (by omega),cS,cS]
     by_cases hle:2^v≤j
     ·by_cases Db:j<64
      ·obtain⟨s1,s2⟩:=yK ⟨v,by omega⟩ ⟨j,Db⟩
       simp only at s1 s2
       cases hb:j.testBit v
       ·have:=(s2 hb).2.2.2.2 hle
        have h3:j-2^v<64:=Nat.lt_of_le_of_lt (Nat.sub_le _ _) Db
        simp[this,h3]
       ·have h5:=s1 hb
        have:¬(j-2^v<2^n):=fun hlt=>by
         have WU:=dc (b:=true) hlt hv
         have h7:=(yK ⟨v,by omega⟩ ⟨j-2^v,Nat.lt_of_le_of_lt (Nat.sub_le _ _) Db⟩).2 h5.2.2.2.2
         simp only at h7
         rw[h7.1]at WU;omega
        rw[rB (j-2^v) (by omega)];simp
      ·simp[Db]
     ·simp[hle]
    ·simp only[if_true]
     rw[Nat.testBit_or,Nat.testBit_and,Nat.testBit_shiftRight,Nat.testBit_and,rB j (Nat.le_of_not_lt hj),rB (2^v+j) (Nat.le_trans (Nat.le_of_not_lt hj) (Nat.le_add_left _ _))];simp
   rw[hz];rfl
theorem qz(i k:Nat):i-i/2^k%2*2^k=au i k false∧(i-i/2^k%2*2^k)+2^k=au i k true:=by
 have hp:=Nat.two_pow_pos k
 have YX:=Nat.div_add_mod i (2^k)
 have hm:=Nat.mod_lt i hp
 generalize hq:i/2^k=q at*
 generalize hr:i%2^k=r at*
 have hle:q%2*2^k≤2^k*q:=by rw[Nat.mul_comm];exact Nat.mul_le_mul_left _ (Nat.mod_le _ _)
 have e1:i-q%2*2^k=2^k*(2*(q/2))+r:=by
  have:2^k*q=2^k*(2*(q/2))+q%2*2^k:=by
   rw[Nat.mul_comm (q%2),←Nat.mul_add];congr 1;omega
  omega
 have tb:∀j,i.testBit j=if j<k then r.testBit j else q.testBit (j-k):=fun j=>by rw[←YX];exact Nat.testBit_two_pow_mul_add q hm j
 have e2:(2^k*(2*(q/2))+r)+2^k=2^k*(2*(q/2)+1)+r:=by rw[Nat.mul_succ];omega
 rw[e1]
 refine⟨?_,?_⟩
 ·apply Nat.eq_of_testBit_eq;intro j
  rw[Nat.testBit_two_pow_mul_add _ hm,ai,tb]
  by_cases hj:j<k
  ·rw[if_pos hj,if_neg (by omega),if_pos hj]
  ·rw[if_neg hj,if_neg hj]
   by_cases e:j=k
   ·subst e;simp
   ·rw[if_neg e]
    obtain⟨d,hd⟩:∃d,j-k=d+1:=⟨j-k-1,by omega⟩
    rw[hd,Nat.testBit_succ,Nat.testBit_succ];congr 1;omega
 ·rw[e2]
  apply Nat.eq_of_testBit_eq;intro j
  rw[Nat.testBit_two_pow_mul_add _ hm,ai,tb]
  by_cases hj:j<k
  ·rw[if_pos hj,if_neg (by omega),if_pos hj]
  ·rw[if_neg hj,if_neg hj]
   by_cases e:j=k
   ·subst e;simp
   ·rw[if_neg e]
    obtain⟨d,hd⟩:∃d,j-k=d+1:=⟨j-k-1,by omega⟩
    rw[hd,Nat.testBit_succ,Nat.testBit_succ];congr 1;omega
end af
namespace Go.Sx
open Go
section
variable {P:Program} {H:Hp}
theorem an.int{t e:Nat}{kd:IntKind}{x:Int}{K:Value→Hp→Prop}(h1:P.underlying t=some (.slice e))(h2:cT P e=some 1)(h3:dR P e=some (.int kd 0))
 (h:∀b,K (.slice (some ⟨b,0,none⟩) 1 1) ((b,.cells (az kd [x]) e (0,0))::H)):an P t 1 [(0,.int kd x)] H K:=by
 refine⟨az kd [x],e,1,_,h1,h2,h3,by decide,?_,fun b _=>h b⟩
 have e1:Array.range 1=#[0]:=rfl
 simp[Instr.fill,Value.cells,az,e1]
theorem an.none{t e k:Nat}{z:Value}{K:Value→Hp→Prop}(h1:P.underlying t=some (.slice e))(h2:cT P e=some k)(h3:dR P e=some z)
 (h:∀b,K (.slice (some ⟨b,0,none⟩) 0 0) ((b,.cells #[] e (0,0))::H)):an P t 0 [] H K:=by
 refine⟨_,e,k,z,h1,h2,h3,by simp,rfl,fun b _=>?_⟩
 have:((Array.range (0*k)).map fun i=>z.cells[i%z.cells.size]!)=#[]:=by simp
 rw[this];exact h b
def dJ(T:TypeId)(v:Value)(ts:List Tb)(C B:Hp):Prop:=∃rs,aO T 2 v rs C∧fR (z4 B) rs ts
theorem dJ.nil{T:TypeId}{B:Hp}:dJ T (.slice none 0 0) [] [] B:=⟨[],aO.nil _ _,fR.nil⟩
theorem dJ.mono{T:TypeId}{v:Value}{ts:List Tb}{C B B':Hp}(h:dJ T v ts C B)(hs:∀x∈B,x∈B'):dJ T v ts C B':=let ⟨rs,h1,h2⟩:=h;⟨rs,h1,h2.mono fun _ _ h=>h.mono hs⟩
theorem dJ.sF{T:TypeId}{v:Value}{ts:List Tb}{C B B':Hp}(h:dJ T v ts C B)(hc:∀x∈C,x∈B')(hb:∀x∈B,x∈B'):bV B' v ts:=by
 obtain⟨rs,h1,h2⟩:=h;exact⟨rs,(Sl.qN h1 (by decide)).mono hc,h2.mono fun _ _ h=>h.mono hb⟩
theorem dJ.app{T:TypeId}{v:Value}{ts:List Tb}{C B0 A B:Hp}(h:dJ T v ts C B0){xb xc:Nat}{t:Tb}{s:Value}{xT:TypeId}{fz:Nat×Nat}(hx:(xb,Obj.cells #[.int .i64 t.n,s] xT fz)∈A++(C++B))(hw:Words B0 s t.ws)
 (hl:ts.length<4398046511103){K:Value→Hp→Prop}(hk:∀v' C',dJ T v' (ts++[t]) C' B0→K v' (A++(C'++B))):App P T 2 32 (.agg #[.int .i64 0,.slice none 0 0]) (A++(C++B)) v (.slice (some ⟨xb,0,none⟩) 1 xc) K:=by
 obtain⟨rs,h1,h2⟩:=h
 have hs:s.oneCell'=true:=by obtain⟨a,c,rfl,_⟩:=hw.1.shape;rfl
 have ni:=h2.1
 refine h1.zW (r:=[.int .i64 t.n,s]) hx rfl (fun u hu=>by simp only[List.mem_cons,List.not_mem_nil,or_false]at hu;rcases hu with rfl|rfl;rfl;exact hs) ⟨[.int .i64 0,.slice none 0 0],rfl,rfl⟩ (by omega) (by omega) fun v' C' ho=>hk v' C' ⟨_,ho,h2.snoc ⟨s,rfl,hw⟩⟩
def o6(l:List UInt8):List (List Value):=l.map fun b=>[Value.int .u8 b.toNat]
theorem D2(l:List UInt8):rows (o6 l)=(l.map fun b=>Value.int .u8 b.toNat).toArray:=by
 unfold rows o6
 congr 1
 induction l with
 |nil=>rfl
 |cons b r ih=>simp[ih]
theorem iI.own{T:TypeId}{v:Value}{l:List UInt8}{C:Hp}(h:aO T 1 v (o6 l) C)(hs:∀x∈C,x∈H){K:Value→Prop}(hk:K (.string ⟨l.toArray⟩)):iI H v K:=by
 obtain⟨a,cap,h1,h2⟩:=((Sl.qN h (by decide)).mono hs).cells
 refine⟨a,_,cap,l,h1,?_,by simp[o6],hk⟩
 rw[D2,Nat.mul_one]at h2;exact h2
def uA(l:List UInt8):Value:=.string ⟨l.toArray⟩
theorem qx(a b:List UInt8):((⟨a.toArray⟩:ByteArray)==⟨b.toArray⟩)=decide (a=b):=by
 rw[beq_toListBytes,ByteArray.toList_eq,ByteArray.toList_eq]
 simp only[List.toList_toArray]
 rw[Bool.eq_iff_iff];simp
theorem GS(a b:List UInt8):Instr.sameNow .string (uA a) (uA b)=some (decide (a=b)):=by
 show some _=some _
 rw[qx]
theorem DO(a:List UInt8):Instr.sameBits 10000 (uA a) (uA a)=true:=by
 show((⟨a.toArray⟩:ByteArray)==⟨a.toArray⟩)=true
 rw[qx];simp
theorem aa.PY{a b:List UInt8}{k:Value→Prop}(h:k (.bool (decide (a≠b)))):aa .str .neq (uA a) (uA b) k:=by
 refine⟨_,rfl,?_⟩
 have:(!((⟨a.toArray⟩:ByteArray).toList==(⟨b.toArray⟩:ByteArray).toList))=decide (a≠b):=by
  rw[←beq_toListBytes,qx];simp
 rw[this];exact h
def e7(n:Nat)(B:Hp)(es:Array MapEntry)(ck:Nat)(m:List (List UInt8×List Nat)):Prop:=
 aX uA (fun v ws=>iL B v ⟨n,ws⟩) es ck m∧∀x∈m,x.1=af.fx x.2∧af.bO n x.2
theorem e7.mono{n:Nat}{B B':Hp}{es:Array MapEntry}{ck:Nat}{m:List (List UInt8×List Nat)}(h:e7 n B es ck m)(hs:∀x∈B,x∈B'):e7 n B' es ck m:=⟨h.1.mono fun _ _ h=>h.mono hs,h.2⟩
theorem e7.empty(n:Nat)(B:Hp):e7 n B #[] 0 []:=⟨aX.empty,by simp⟩
def ux(m:List (List UInt8×List Nat))(ws:List Nat):List (List UInt8×List Nat):=fi m (af.fx ws) ws
theorem e7.nodup{n:Nat}{B:Hp}{es:Array MapEntry}{ck:Nat}{m:List (List UInt8×List Nat)}(h:e7 n B es ck m):(m.map Prod.snd).Nodup:=by
 have h1:=h.1.nd
 have e:m.map Prod.fst=(m.map Prod.snd).map af.fx:=by
  rw[List.map_map];apply List.map_congr_left;intro x hx;exact(h.2 x hx).1
 rw[e]at h1
 exact List.Pairwise.of_map af.fx (fun a b hne e=>hne (by rw[e])) h1
theorem oC{n:Nat}{m:List (List UInt8×List Nat)}{ws:List Nat}(hm:∀x∈m,x.1=af.fx x.2∧af.bO n x.2)(hf:af.bO n ws):∀x,x∈(ux m ws).map Prod.snd↔x∈m.map Prod.snd∨x=ws:=by
 intro x
 unfold ux fi
 split
 ·rename_i hk
  obtain⟨y,hy,YK⟩:=List.mem_map.1 hk
  have X4:y.2=ws:=(hm y hy).2.key_inj hf (by rw[←(hm y hy).1,YK])
  have:(m.map fun y=>if y.1=af.fx ws then(af.fx ws,ws)else y)=m:=by
   conv=>rhs;rw[←List.map_id m]
   apply List.map_congr_left
   intro z hz
   split
   ·rename_i VZ
    have:z.2=ws:=(hm z hz).2.key_inj hf (by rw[←(hm z hz).1,VZ])
    simp only[id];rw[←VZ,←this]
   ·rfl
  rw[this]
  constructor
  ·exact .inl
  ·rintro(h|rfl)
   ·exact h
   ·exact List.mem_map.2 ⟨y,hy,X4⟩
 ·simp
theorem Kh{n:Nat}{m:List (List UInt8×List Nat)}{ws:List Nat}(hm:∀x∈m,x.1=af.fx x.2∧af.bO n x.2)(hf:af.bO n ws):∀x∈ux m ws,x.1=af.fx x.2∧af.bO n x.2:=by
 intro x hx
 unfold ux fi at hx
 split at hx
 ·obtain⟨y,hy,rfl⟩:=List.mem_map.1 hx
  split
  ·exact⟨rfl,hf⟩
  ·exact hm y hy
 ·rcases List.mem_append.1 hx with hx|hx
  ·exact hm x hx
  ·simp at hx;subst hx;exact⟨rfl,hf⟩
theorem e7.bS{n:Nat}{B:Hp}{es:Array MapEntry}{ck b:Nat}{m:List (List UInt8×List Nat)}{ws:List Nat}{val:Value}{K:Hp→Prop}(h:e7 n B es ck m)(hv:iL B val ⟨n,ws⟩)(hf:af.bO n ws)
 (h1:∀es' dw,e7 n B es' dw (ux m ws)→∃H',cA b (.map es ck) (.map es' dw) H H'∧K H'):ez .string H (.map (some b)) (uA (af.fx ws)) val K:=
 aX.bS GS DO h.1 hv fun es' dw he=>h1 es' dw ⟨he,Kh h.2 hf⟩
end
end Go.Sx
namespace Go.Sx
open Go
section
variable {P:Program} {g:Gh} {H:Hp}
theorem aO.apps{elem k bytes:Nat}{zero:Value}{v:Value}{rs:List (List Value)}{C A B:Hp}(h:aO elem k v rs C){xa:Option Addr}{xc:Nat}{r2:List (List Value)}
 (hx:Cells (A++(C++B)) xa (r2.length*k) (rows r2))(hr:∀r∈r2,r.length=k)(h1:∀r∈r2,∀u∈r,u.oneCell'=true)(hz:∃z:List Value,zero.cells=z.toArray∧z.length=k)
 (hb:(rs.length+r2.length)*bytes≤140737488355328)(aV:rs.length+r2.length≤9223372036854775807){K:Value→Hp→Prop}
 (hk:∀v' C',aO elem k v' (rs++r2) C'→K v' (A++(C'++B))):App P elem k bytes zero (A++(C++B)) v (.slice xa r2.length xc) K:=by
 obtain⟨z,Qo,Lf⟩:=hz
 have hnone:∀u∈(rows r2).toList,u.oneCell'=true:=by
  intro u hu
  simp only[rows,List.mem_flatten]at hu
  obtain⟨r,h2,h3⟩:=hu
  exact h1 r h2 u h3
 rcases h with⟨rfl,rfl,rfl⟩|⟨b,aD,rfl,rfl,aB⟩
 ·refine⟨none,0,0,xa,r2.length,xc,#[],rows r2,rfl,rfl,rfl,hx,bD hr,by simp,hnone,fun h=>?_,fun _=>⟨by simpa using hb,by simpa using aV,fun eP hn b UJ=>?_⟩⟩
  ·have:r2=[]:=List.eq_nil_of_length_eq_zero (by omega)
   subst this
   exact hk _ [] (.inl ⟨rfl,rfl,rfl⟩)
  ·rw[show(#[]:Array Value)++rows r2++Builtin.zeroCells zero.cells (eP-(0+r2.length))=rows ([]++r2++List.replicate (eP-r2.length) z)by rw[Qo,nt z Lf];simp only[Nat.zero_add,Array.empty_append,List.nil_append];rw[dk]]
   refine⟨_,aJ.Mm [(b,_)] A B,hk _ [(b,_)] (.inr ⟨b,List.replicate (eP-r2.length) z,?_,rfl,?_⟩)⟩
   ·simp;omega
   ·intro x hx
    rcases List.mem_append.1 hx with hx|hx
    ·exact hr x hx
    ·rw[List.eq_of_mem_replicate hx,Lf]
 ·have hsz:=bD aB
  have mu:∀x∈rs,x.length=k:=fun x hx=>aB x (by simp[hx])
  have hold:rows rs=(rows (rs++aD)).extract 0 (0+rs.length*k):=by
   rw[←dk]
   apply Array.ext'
   have:=bD mu
   have h2:(rows rs).toList.length=rs.length*k:=by rw[Array.length_toList];exact this
   rw[Array.toList_extract,Array.toList_append,List.extract_eq_take_drop,List.drop_zero,Nat.zero_add,Nat.sub_zero,←h2,List.take_left]
  refine⟨some ⟨b,0,none⟩,rs.length,rs.length+aD.length,xa,r2.length,xc,rows rs,rows r2,rfl,rfl,.inr ⟨rfl,_,elem,(0,0),by simp,?_,hold⟩,hx,bD hr,bD mu,hnone,fun hfit=>?_,fun hgrow=>⟨hb,by omega,fun eP hn b' UJ=>?_⟩⟩
  ·rw[hsz];simp only[List.length_append,Nat.zero_add];exact Nat.mul_le_mul_right _ (by omega)
  ·obtain⟨j1,j2,rfl,hj⟩:∃j1 j2,aD=j1++j2∧j1.length=r2.length:=⟨aD.take r2.length,aD.drop r2.length,(List.take_append_drop _ _).symm,by rw[List.length_take];omega⟩
   have Rs:∀x∈j1,x.length=k:=fun x hx=>aB x (by simp[hx])
   refine⟨_,elem,_,rfl,?_,((cA.head _).append B).bP A,hk _ [(b,_)] (.inr ⟨b,j2,?_,?_,?_⟩)⟩
   ·rw[hsz,List.length_append,List.length_append,hj,Nat.add_mul,Nat.add_mul]
    show 0+rs.length*k+r2.length*k≤_
    omega
   ·simp;omega
   ·have e:(⟨b,0,none⟩:Addr).off+rs.length*k=rs.length*k:=by simp
    have l1:=cL rs mu
    have l2:=cL j1 Rs
    have l3:=cL r2 hr
    have e2:gO (rows (rs++(j1++j2))) (rs.length*k) (rows r2).toList=rows (rs++r2++j2):=by
     unfold rows
     rw[List.flatten_append,List.flatten_append,List.toList_toArray,nL _ _ _ (by rw[List.length_append,List.length_append,l1,l2,l3,hj];omega)]
     congr 1
     rw[List.flatten_append,List.flatten_append,←l1,List.take_left,l3,←hj,←l2,List.drop_append,←List.append_assoc]
     simp[List.drop_append]
    rw[e,e2]
   ·intro x hx
    simp only[List.append_assoc,List.mem_append]at hx
    rcases hx with hx|hx|hx
    ·exact mu x hx
    ·exact hr x hx
    ·exact aB x (by simp[hx])
  ·refine⟨A++([(b',_)]++B),?_,hk _ [(b',_)] (.inr ⟨b',List.replicate (eP-(rs.length+r2.length)) z,?_,rfl,?_⟩)⟩
   ·rw[Qo,nt z Lf,dk,dk]
    exact fun g w h=>(aJ.P1 [[_],A,[_],B] [[_],A,[_],B] ((List.perm_append_comm (l₁:=[_,A]) (l₂:=[_])).append_right [B]|>.trans (.cons _ (.swap _ _ _))) g w h).tail
   ·simp;omega
   ·intro x hx
    rcases List.mem_append.1 hx with hx|hx
    ·rcases List.mem_append.1 hx with hx|hx
     ·exact mu x hx
     ·exact hr x hx
    ·rw[List.eq_of_mem_replicate hx,Lf]
def aK(T:TypeId)(kd:IntKind)(v:Value)(l:List Int)(C:Hp):Prop:=aO T 1 v (l.map fun n=>[Value.int kd n]) C
theorem aK.nil{T:TypeId}{kd:IntKind}:aK T kd (.slice none 0 0) [] []:=aO.nil _ _
theorem aK.aL{T:TypeId}{kd:IntKind}{v:Value}{l:List Int}{C:Hp}(h:aK T kd v l C){K:Value→Prop}(hk:K (.int .i64 l.length)):aA v K:=aO.aL h (by simpa using hk)
theorem aK.ints{T:TypeId}{kd:IntKind}{v:Value}{l:List Int}{C:Hp}(h:aK T kd v l C):bW kd C v l:=Sl.qN h (by decide)
theorem aK.app{T:TypeId}{kd:IntKind}{v:Value}{l:List Int}{C A B:Hp}{bytes:Nat}(h:aK T kd v l C){xb xc:Nat}{x:Int}{xT:TypeId}{fz:Nat×Nat}(hx:(xb,Obj.cells (az kd [x]) xT fz)∈A++(C++B))
 (hb:(l.length+1)*bytes≤140737488355328)(hm:l.length+1≤9223372036854775807){K:Value→Hp→Prop}(hk:∀v' C',aK T kd v' (l++[x]) C'→K v' (A++(C'++B))):App P T 1 bytes (.int kd 0) (A++(C++B)) v (.slice (some ⟨xb,0,none⟩) 1 xc) K:=
 aO.zW (r:=[.int kd x]) h hx rfl (by simp[Value.oneCell']) ⟨[.int kd 0],rfl,rfl⟩ (by simpa using hb) (by simpa using hm) fun v' C' ho=>hk v' C' (by unfold aK;simpa using ho)
theorem aK.apps{T:TypeId}{kd:IntKind}{v x:Value}{l l2:List Int}{C A B:Hp}{bytes:Nat}(h:aK T kd v l C)(hx:bW kd (A++(C++B)) x l2)
 (hb:(l.length+l2.length)*bytes≤140737488355328)(hm:l.length+l2.length≤9223372036854775807){K:Value→Hp→Prop}(hk:∀v' C',aK T kd v' (l++l2) C'→K v' (A++(C'++B))):App P T 1 bytes (.int kd 0) (A++(C++B)) v x K:=by
 obtain⟨a,cap,rfl,hc⟩:=Sl.cells hx
 exact aO.apps h hc (by simp) (by simp[Value.oneCell']) ⟨[.int kd 0],rfl,rfl⟩ (by simpa using hb) (by simpa using hm) fun v' C' ho=>hk v' C' (by unfold aK;rw[List.map_append];exact ho)
theorem an.Ql{t e:Nat}{kd:IntKind}{x y z:Int}{K:Value→Hp→Prop}(h1:P.underlying t=some (.slice e))(h2:cT P e=some 1)(h3:dR P e=some (.int kd 0))
 (h:∀b,K (.slice (some ⟨b,0,Option.none⟩) 3 3) ((b,.cells (az kd [x,y,z]) e (0,0))::H)):an P t 3 [(0,.int kd x),(1,.int kd y),(2,.int kd z)] H K:=by
 refine⟨az kd [x,y,z],e,1,_,h1,h2,h3,by decide,?_,fun b _=>h b⟩
 have e1:Array.range (3*1)=#[0,1,2]:=rfl
 simp[Instr.fill,Value.cells,az,e1]
end
end Go.Sx
namespace Go.Sx
open Go
section
variable {P:Program}
theorem xW{e:TypeId}{i:TypeInfo}(hi:P.info? e=some i)(hs:i.size=1):P.cellsOf e=1:=by simp[Program.cellsOf,hi,hs]
theorem qL{e:TypeId}{q:IntKind}(hu:P.underlying e=some (.int q)){l:List Int}{j:Nat}{x:Int}(h:l[j]? =some x)(w:World):(part e (az q l) j).run P w=.ok (.int q x) w:=by
 simp[part,isAgg,run_underlying hu,az,h]
theorem n8{e:TypeId}{q:IntKind}(hu:P.underlying e=some (.int q))(hc:P.cellsOf e=1)(d:Nat)(l l':List Int)(w:World):∀is:List Nat,(∀i∈is,i<l.length∧i<l'.length)→
  (Op.eqItems (d+1) e (P.cellsOf e) (az q l) (az q l') is).run P w=.ok (is.all fun i=>l[i]? ==l'[i]?) w
 | [],_=>by simp[Op.eqItems]
 |i::is,h=>by
  obtain⟨h1,h2⟩:=h i (by simp)
  have g1:l[i]? =some l[i]:=List.getElem?_eq_getElem h1
  have g2:l'[i]? =some l'[i]:=List.getElem?_eq_getElem h2
  have p1:=qL (P:=P) hu g1 w
  have p2:=qL (P:=P) hu g2 w
  have p3:(Op.equalIn (d+1) e (.int q l[i]) (.int q l'[i])).run P w=.ok (l[i]==l'[i]) w:=by
   simp only[Op.equalIn,Sem.run_bind,run_underlying hu,Result.andThen_ok,if_true,Sem.run_pure]
  have ih:=n8 hu hc d l l' w is fun j hj=>h j (by simp[hj])
  simp only[Op.eqItems,hc,Nat.mul_one,Sem.run_bind,p1,p2,p3,Result.andThen_ok]at ih⊢
  rw[List.all_cons,g1,g2]
  cases hb:(l[i]==l'[i])
  ·simp[hb]
  ·simp[hb,ih]
theorem Ca.array{t e:TypeId}{q:IntKind}{n:Nat}(ht:P.underlying t=some (.array n e))(hu:P.underlying e=some (.int q))(hz:cT P e=some 1)(l l':List Int)(h1:l.length=n)(h2:l'.length=n):
  Ca P t (.agg (az q l)) (.agg (az q l')) (decide (l=l')):=by
 obtain⟨i,hi,hs⟩:=bF hz
 have hc:=xW hi hs
 intro w
 show(Op.equalIn (9998+1+1) t _ _).run P w=_
 rw[run_equalIn_array w (9998+1) _ _ ht hi,n8 hu hc 9998 l l' w _ (fun j hj=>by have:=List.mem_range.1 hj;omega)]
 congr 1
 rw[Bool.eq_iff_iff]
 simp only[List.all_eq_true,List.mem_range,decide_eq_true_eq,beq_iff_eq]
 constructor
 ·intro h
  apply List.ext_getElem?
  intro j
  by_cases hj:j<n
  ·exact h j hj
  ·rw[List.getElem?_eq_none (by omega),List.getElem?_eq_none (by omega)]
 ·rintro rfl j _;rfl
theorem mh.array{t e:TypeId}{q:IntKind}{n:Nat}(ht:P.underlying t=some (.array n e))(hu:P.underlying e=some (.int q))(hz:cT P e=some 1)(l:List Int)(h1:l.length=n):mh P t (.agg (az q l)):=by
 obtain⟨i,hi,hs⟩:=bF hz
 intro b w
 have gen:∀d,(Instr.checkKey b (d+1+1) t (.agg (az q l))).run P w=.ok () w:=by
  intro d
  have p2:∀x:Int,(Instr.checkKey b (d+1) e (.int q x)).run P w=.ok () w:=fun x=>by
   simp only[Instr.checkKey,Sem.run_bind,run_underlying hu,Result.andThen_ok,Sem.run_pure]
  unfold Instr.checkKey
  simp only[Sem.run_bind,run_underlying ht,Result.andThen_ok]
  simp only[Std.Legacy.Range.forIn_eq_forIn_range',Std.Legacy.Range.size,Nat.sub_zero,Nat.add_one_sub_one,Nat.div_one]
  have key:∀is:List Nat,(∀j∈is,j<l.length)→(forIn is PUnit.unit fun j (_:PUnit)=>(do
     Instr.checkKey b (d+1) e (←part e (az q l) (j*(←sizeOf e)))
     pure (ForInStep.yield PUnit.unit):Sem (ForInStep PUnit))).run P w=.ok PUnit.unit w:=by
   intro is
   induction is with
   |nil=>intro _;simp
   |cons j is ih=>
    intro h
    have p1:=qL (P:=P) hu (List.getElem?_eq_getElem (h j (by simp))) w
    simp only[List.forIn_cons,Sem.run_bind,run_sizeOf hi,Result.andThen_ok,hs,Nat.mul_one,p1,p2,Sem.run_pure]
    exact ih fun k hk=>h k (by simp[hk])
  have:=key (List.range' 0 n) (fun j hj=>by have:=List.mem_range'_1.1 hj;omega)
  rw[this];rfl
 exact gen 9998
theorem Build.two{t e:TypeId}{q:IntKind}{x y:Int}{K:Value→Prop}(ht:P.underlying t=some (.array 2 e))(hz:cT P e=some 1)(h0:dR P t=some (.agg (az q [0,0])))(h:K (.agg (az q [x,y]))):
  Build P t [(0,.int q x),(1,.int q y)] K:=by
 refine⟨_,fun w=>?_,h⟩
 obtain⟨i,hi,hs⟩:=bF hz
 obtain⟨i0,EB,SF⟩:=cJ h0
 simp only[Instr.build,Sem.run_bind,dU EB SF,Result.andThen_ok,run_underlying ht,run_sizeOf hi,hs]
 simp[Instr.fill,Value.cells,az]
end
end Go.Sx
namespace Go.Sx
open Go
section
variable {P:Program} {g:Gh} {H:Hp}
def r9(P:Program)(t:TypeId)(x y:Value):Prop:=
 (∃q a b,P.underlying t=some (.int q)∧x=.int q a∧y=.int q b)∨(∃a b,P.underlying t=some .bool∧x=.bool a∧y=.bool b)
theorem r9.eq{t:TypeId}{x y:Value}(h:r9 P t x y)(d:Nat)(w:World):∃b,(Op.equalIn (d+1) t x y).run P w=.ok b w∧(b=true↔x=y):=by
 rcases h with⟨q,a,b,hu,rfl,rfl⟩|⟨a,b,hu,rfl,rfl⟩
 ·exact⟨a==b,by simp[Op.equalIn,run_underlying hu],by simp⟩
 ·exact⟨a==b,by simp[Op.equalIn,run_underlying hu],by simp⟩
theorem mU{t:TypeId}{xs:Array Value}{o:Nat}{x:Value}(hu:(∃q,P.underlying t=some (.int q))∨P.underlying t=some .bool)(h:xs[o]? =some x)(w:World):(part t xs o).run P w=.ok x w:=by
 rcases hu with⟨q,hu⟩|hu<;>simp[part,isAgg,run_underlying hu,h]
theorem mA(d:Nat)(xs ys:Array Value)(w:World):∀fs:List Field,(∀f∈fs,f.name≠ "_" ∧∃x y,xs[f.offset]? =some x∧ys[f.offset]? =some y∧r9 P f.type x y)→
  ∃b,(Op.eqFields (d+1) xs ys fs).run P w=.ok b w∧(b=true↔∀f∈fs,xs[f.offset]? =ys[f.offset]?)
 | [],_=>⟨true,by simp[Op.eqFields],by simp⟩
 |f::fs,h=>by
  obtain⟨hn,x,y,hx,hy,hp⟩:=h f (by simp)
  obtain⟨b',ih,hb'⟩:=mA d xs ys w fs fun g hg=>h g (by simp[hg])
  have hu:(∃q,P.underlying f.type=some (.int q))∨P.underlying f.type=some .bool:=by
   rcases hp with⟨q,_,_,hu,_⟩|⟨_,_,hu,_⟩
   ·exact .inl ⟨q,hu⟩
   ·exact .inr hu
  obtain⟨b,hr,hb⟩:=hp.eq d w
  have p1:=mU hu hx w
  have p2:=mU hu hy w
  cases b with
  |false=>
   refine⟨false,by simp[Op.eqFields,hn,p1,p2,hr],?_⟩
   simp only[Bool.false_eq_true,List.mem_cons,forall_eq_or_imp,false_iff,hx,hy,Option.some.injEq]
   exact fun hh=>absurd (hb.2 hh.1) (by decide)
  |true=>
   refine⟨b',by simp[Op.eqFields,hn,p1,p2,hr,ih],?_⟩
   rw[hb']
   simp only[List.mem_cons,forall_eq_or_imp,hx,hy,Option.some.injEq,hb.1 rfl,true_and]
theorem Ca.flat{t:TypeId}{fs:Array Field}(ht:P.underlying t=some (.struct fs))(hp:P.stoodInHeld t=false){xs ys:Array Value}{p:Prop}[Decidable p]
 (h:∀f∈fs.toList,f.name≠ "_" ∧∃x y,xs[f.offset]? =some x∧ys[f.offset]? =some y∧r9 P f.type x y)(he:(∀f∈fs.toList,xs[f.offset]? =ys[f.offset]?)↔p):Ca P t (.agg xs) (.agg ys) (decide p):=by
 have e:P.fieldsOf t=fs:=by simp[Program.fieldsOf,ht]
 intro w
 show(Op.equalIn (9998+1+1) t _ _).run P w=_
 rw[run_equalIn_struct w (9998+1) t xs ys (by rw[e];exact ht) hp,e]
 obtain⟨b,hr,hb⟩:=mA (P:=P) 9998 xs ys w fs.toList h
 rw[hr]
 congr 1
 rw[Bool.eq_iff_iff,hb,he,decide_eq_true_eq]
theorem mh.flat{t:TypeId}{fs:Array Field}(ht:P.underlying t=some (.struct fs)){xs:Array Value}
 (h:∀f∈fs.toList,f.name≠ "_" ∧∃x,xs[f.offset]? =some x∧r9 P f.type x x):mh P t (.agg xs):=by
 intro b w
 have gen:∀d,(Instr.checkKey b (d+1+1) t (.agg xs)).run P w=.ok () w:=by
  intro d
  unfold Instr.checkKey
  simp only[Sem.run_bind,run_underlying ht,Result.andThen_ok]
  rw[←Array.forIn_toList]
  clear ht
  generalize fs.toList=l at h
  induction l with
  |nil=>simp
  |cons f l ih=>
   obtain⟨hn,x,hx,hp⟩:=h f (by simp)
   have hu:(∃q,P.underlying f.type=some (.int q))∨P.underlying f.type=some .bool:=by
    rcases hp with⟨q,_,_,hu,_⟩|⟨_,_,hu,_⟩
    ·exact .inl ⟨q,hu⟩
    ·exact .inr hu
   have p1:=mU hu hx w
   have p2:(Instr.checkKey b (d+1) f.type x).run P w=.ok () w:=by
    rcases hp with⟨q,a,_,hu,rfl,_⟩|⟨a,_,hu,rfl,_⟩
    ·simp only[Instr.checkKey,Sem.run_bind,run_underlying hu,Result.andThen_ok,Sem.run_pure]
    ·simp only[Instr.checkKey,Sem.run_bind,run_underlying hu,Result.andThen_ok,Sem.run_pure]
   have:=ih fun g hg=>h g (by simp[hg])
   simp only[List.forIn_cons,Sem.run_bind]
   simp[hn,p1,p2]
   simpa using this
 exact gen 9998
theorem sH(n:Nat){xs:Array Value}(h:∀x∈xs.toList,(∃q a,x=.int q a)∨∃a,x=.bool a):Instr.sameBits (n+1+1) (.agg xs) (.agg xs)=true:=by
 simp only[Instr.sameBits,beq_self_eq_true,Bool.true_and,List.all_eq_true]
 intro x hx
 obtain⟨a,b⟩:=x
 have h1:=List.of_mem_zip hx
 have e:a=b:=by
  obtain⟨i,hi,he⟩:=List.mem_iff_getElem.1 hx
  simp at he
  exact he.1.symm.trans he.2
 subst e
 rcases h a h1.1 with⟨q,z,rfl⟩|⟨z,rfl⟩<;>simp[Instr.sameBits]
end
section
variable {κ:Type} [DecidableEq κ] {β:Type} {ke:κ→Value} {vr:Value→β→Prop} {es:Array MapEntry} {ck b:Nat} {m:List (κ×β)} {P:Program} {H:Hp}
def sK(m:List (κ×β))(k:κ):List (κ×β):=m.filter fun y=>¬y.1=k
theorem tx{k k':κ}:dn (sK m k) k'=if k'=k then none else dn m k':=by
 unfold dn sK
 rw[List.find?_filter]
 by_cases e:k'=k
 ·rw[if_pos e]
  rw[List.find?_eq_none.2]
  ·rfl
  ·intro x _;simp;intro h1 h2;exact h1 (h2.trans e)
 ·rw[if_neg e]
  congr 1
  congr 1
  funext y
  by_cases e2:y.1=k'
  ·have:¬y.1=k:=fun e3=>e (e2.symm.trans e3)
   simp[e2,this,e]
  ·simp[e2]
theorem eX{k k':κ}{x:β}:dn (fi m k x) k'=if k'=k then some x else dn m k':=by
 unfold dn fi
 by_cases hk:k∈m.map Prod.fst
 ·rw[if_pos hk]
  by_cases e:k'=k
  ·subst e
   rw[if_pos rfl]
   induction m with
   |nil=>simp at hk
   |cons y m ih=>
    rw[List.map_cons,List.find?_cons]
    by_cases ey:y.1=k'
    ·simp[ey]
    ·rw[if_neg ey]
     simp only[ey,decide_false]
     rw[ih]
     rw[List.map_cons]at hk
     rcases List.mem_cons.1 hk with h|h
     ·exact absurd h.symm ey
     ·simpa using h
  ·rw[if_neg e]
   have:∀l:List (κ×β),(List.find? (fun y=>decide (y.1=k')) (l.map fun y=>if y.1=k then(k,x)else y)).map Prod.snd=(List.find? (fun y=>decide (y.1=k')) l).map Prod.snd:=by
    intro l
    induction l with
    |nil=>rfl
    |cons y l ih=>
     rw[List.map_cons,List.find?_cons,List.find?_cons]
     by_cases ey:y.1=k
     ·have h1:decide (k=k')=false:=by simpa using fun h=>e h.symm
      have h2:decide (y.1=k')=false:=by rw[ey];exact h1
      simp only[if_pos ey,h1,h2]
      exact ih
     ·simp only[if_neg ey]
      cases decide (y.1=k')with
      |true=>rfl
      |false=>exact ih
   exact this m
 ·rw[if_neg hk]
  rw[List.find?_append]
  by_cases e:k'=k
  ·subst e
   have:List.find? (fun y=>decide (y.1=k')) m=none:=by
    rw[List.find?_eq_none];intro y hy;simp;intro h;exact hk (List.mem_map.2 ⟨y,hy,h⟩)
   simp[this]
  ·have:¬k=k':=fun h=>e h.symm
   rw[if_neg e]
   cases List.find? (fun y=>decide (y.1=k')) m<;>simp[this]
theorem yT(nd:(m.map Prod.fst).Nodup){i:Nat}{k:κ}{y:β}(hi:m[i]? =some (k,y)):sK m k=m.eraseIdx i:=by
 unfold sK
 induction m generalizing i with
 |nil=>simp at hi
 |cons z m ih=>
  rw[List.map_cons,List.nodup_cons]at nd
  cases i with
  |zero=>
   simp at hi;subst hi
   rw[List.eraseIdx_cons_zero,List.filter_cons_of_neg (by simp)]
   rw[List.filter_eq_self]
   intro w hw
   simp only[decide_not,Bool.not_eq_true',decide_eq_false_iff_not]
   intro e
   exact nd.1 (List.mem_map.2 ⟨w,hw,e⟩)
  |succ i=>
   simp at hi
   have hz:¬z.1=k:=fun e=>nd.1 (List.mem_map.2 ⟨_,List.mem_of_getElem? hi,e.symm⟩)
   rw[List.eraseIdx_cons_succ,List.filter_cons_of_pos (by simpa using hz),ih nd.2 hi]
omit [DecidableEq κ] in
theorem aX.less(h:aX ke vr es ck m)(i:Nat):aX ke vr (es.eraseIdxIfInBounds i) ck (m.eraseIdx i):=by
 have hl:(es.eraseIdxIfInBounds i).toList=es.toList.eraseIdx i:=by
  unfold Array.eraseIdxIfInBounds
  split
  ·simp
  ·rename_i hh;rw[List.eraseIdx_of_length_le (by simpa using hh)]
 refine⟨?_,fun j e x he hx=>?_,?_,?_,fun e he=>?_⟩
 ·have:=congrArg List.length hl
  rw[Array.length_toList,List.length_eraseIdx]at this
  rw[this,List.length_eraseIdx,Array.length_toList,h.len]
 ·rw[←Array.getElem?_toList,hl,List.getElem?_eraseIdx]at he
  rw[List.getElem?_eraseIdx]at hx
  split at he
  ·rename_i hh;rw[if_pos hh]at hx;exact h.key j e x (by simpa using he) hx
  ·rename_i hh;rw[if_neg hh]at hx;exact h.key (j+1) e x (by simpa using he) hx
 ·rw[←fo];exact h.nd.sublist (List.eraseIdx_sublist _ _)
 ·rw[hl,←fo];exact h.born.sublist (List.eraseIdx_sublist _ _)
 ·rw[hl]at he;exact h.lt e (List.mem_of_mem_eraseIdx he)
theorem aX.Vw{P:Program}{kt:TypeId}{k:κ}{K:Hp→Prop}(hk:∀a b,Ca P kt (ke a) (ke b) (decide (a=b)))(hc:∀a,mh P kt (ke a))(h:aX ke vr es ck m)(hm:(b,Obj.map es ck)∈H)
 (h1:∀es',aX ke vr es' ck (sK m k)→∃H',cA b (.map es ck) (.map es' ck) H H'∧K H'):oq P kt H (.map (some b)) (ke k) K:=by
 refine⟨hc k,.inr ?_⟩
 rcases h.xC hk k with⟨i,y,e,g1,g2,g3,g4⟩|⟨g1,g2⟩
 ·refine⟨b,es,ck,_,rfl,g4,?_⟩
  have:=h.less i
  rw[←yT h.nd g2]at this
  exact h1 _ this
 ·refine⟨b,es,ck,_,rfl,g2,hm,?_⟩
  have e:sK m k=m:=by
   unfold sK
   rw[List.filter_eq_self]
   intro w hw
   simp only[decide_not,Bool.not_eq_true',decide_eq_false_iff_not]
   intro e
   exact g1 (List.mem_map.2 ⟨w,hw,e⟩)
  obtain⟨H',hu,hK⟩:=h1 es (by rw[e];exact h)
  have:∀{H H':Hp},cA b (.map es ck) (.map es ck) H H'→H'=H:=by
   intro H H' hu
   generalize ho:Obj.map es ck=o at hu
   induction hu with
   |head R=>rfl
   |tail _ ih=>rw[ih]
  rw[this hu]at hK;exact hK
end
section
variable {P:Program} {H:Hp}
theorem aO.CI{T:TypeId}{k:Nat}{v:Value}{rs:List (List Value)}{C:Hp}(hs:aO T k v rs C){i:Nat}{kd:IntKind}{r:List Value}(hr:rs[i]? =some r)(hC:∀y∈C,y∈H){K:Value→Prop}(hk:K (.agg r.toArray)):
  aj k v (.int kd (i:Int)) fun p=>av k H p K:=by
 have hi:=(List.getElem?_eq_some_iff.1 hr).1
 obtain⟨b',aD,rfl,rfl,aB⟩:=hs.pos (by omega)
 exact aj.nat hi (av.row (hC _ (List.Mem.head _)) aB (by rw[List.getElem?_append_left hi];exact hr) hk)
theorem aO.yY{T:TypeId}{k:Nat}{v x:Value}{rs:List (List Value)}{C:Hp}(hs:aO T k v rs C){i j:Nat}{kd:IntKind}{r:List Value}(hr:rs[i]? =some r)(hj:r[j]? =some x)(hC:∀y∈C,y∈H){K:Value→Prop}(hk:K x):
  aj k v (.int kd (i:Int)) fun p=>ag j p fun q=>Ld H q K:=by
 have hi:=(List.getElem?_eq_some_iff.1 hr).1
 obtain⟨b',aD,rfl,rfl,aB⟩:=hs.pos (by omega)
 exact aj.nat hi (ag.mk (Ld.row (hC _ (List.Mem.head _)) aB (by rw[List.getElem?_append_left hi];exact hr) hj hk))
theorem aO.Mu{T:TypeId}{v x:Value}{rs:List (List Value)}{C:Hp}(hs:aO T 1 v rs C){i:Nat}{kd:IntKind}(hr:rs[i]? =some [x])(hC:∀y∈C,y∈H){K:Value→Prop}(hk:K x):
  aj 1 v (.int kd (i:Int)) fun p=>Ld H p K:=by
 have hi:=(List.getElem?_eq_some_iff.1 hr).1
 obtain⟨b',aD,rfl,rfl,aB⟩:=hs.pos (by omega)
 exact aj.nat hi (Ld.P3 (l:=rs++aD) (hC _ (List.Mem.head _)) aB (by rw[List.getElem?_append_left hi];exact hr) hk)
theorem aO.HD{T:TypeId}{k n:Nat}{v:Value}{rs:List (List Value)}{C:Hp}(hs:aO T k v rs C){i:Nat}{kd:IntKind}{r:List Value}(hr:rs[i]? =some r)(hn:0<n∧n≤k)(hC:∀y∈C,y∈H){K:Value→Prop}(hk:K (.agg (r.take n).toArray)):
  aj k v (.int kd (i:Int)) fun p=>ag 0 p fun q=>av n H q K:=by
 have hi:=(List.getElem?_eq_some_iff.1 hr).1
 obtain⟨b',aD,rfl,rfl,aB⟩:=hs.pos (by omega)
 have ni:r.length=k:=aB r (List.mem_append_left _ (List.mem_of_getElem? hr))
 refine aj.nat hi (ag.mk ?_)
 have nm:At H (.pointer (some ⟨b',0+i*k+0,none⟩)) (r.take n):=⟨b',_,_,_,_,rfl,hC _ (List.Mem.head _),fun j x hj=>by
  have Pq:j<n:=by have:=(List.getElem?_eq_some_iff.1 hj).1;simp at this;omega
  rw[List.getElem?_take,if_pos Pq]at hj
  rw[Nat.add_zero,Nat.zero_add,fL aB (by omega),List.getElem?_append_left hi,hr];exact hj⟩
 exact av.at nm (by simp;omega) hn.1 (fun _ h=>h) hk
theorem D0{k:Nat}{l:List (List Value)}(h:∀r∈l,r.length=k){i:Nat}{r xs:List Value}(hi:l[i]? =some r)(hx:xs.length≤k):gO (rows l) (i*k) xs=rows (l.set i (xs++r.drop xs.length)):=by
 have hlt:=(List.getElem?_eq_some_iff.1 hi).1
 have hr:=h r (List.mem_of_getElem? hi)
 have key:∀(xs:List Value) (j:Nat) (l:List (List Value)) (r:List Value),(∀r∈l,r.length=k)→l[i]? =some r→j+xs.length≤k→gO (rows l) (i*k+j) xs=rows (l.set i (r.take j++xs++r.drop (j+xs.length))):=by
  intro xs
  induction xs with
  |nil=>
   intro j l r h hi _
   have hlt:=(List.getElem?_eq_some_iff.1 hi).1
   simp only[gO,List.append_nil,List.length_nil,Nat.add_zero,List.take_append_drop]
   congr 1
   apply List.ext_getElem?
   intro m
   rw[List.getElem?_set]
   by_cases e:i=m
   ·subst e;rw[if_pos rfl,hi,if_pos hlt]
   ·rw[if_neg e]
  |cons x xs ih=>
   intro j l r h hi hj
   have hr:=h r (List.mem_of_getElem? hi)
   have hlt:=(List.getElem?_eq_some_iff.1 hi).1
   simp only[List.length_cons]at hj
   rw[gO,mm h hi (by omega),Nat.add_assoc]
   rw[ih (j+1) (l.set i (r.set j x)) (r.set j x) (fun y hy=>by
    rcases List.mem_or_eq_of_mem_set hy with hy|rfl
    ·exact h y hy
    ·simpa using hr) (by simp[hlt]) (by omega)]
   rw[List.set_set]
   congr 2
   have e1:(r.set j x).take (j+1)=r.take j++[x]:=by
    rw[List.set_eq_take_append_cons_drop,if_pos (by omega),List.take_append]
    simp[List.take_take,show min (j+1) j=j by omega,show j+1-min j r.length=1 by omega]
   have e2:(r.set j x).drop (j+1+xs.length)=r.drop (j+(x::xs).length):=by
    rw[List.drop_set,if_pos (by omega)]
    congr 1
    simp;omega
   rw[e1,e2]
   simp
 have:=key xs 0 l r h hi (by omega)
 simpa using this
theorem aO.KA{T:TypeId}{k n:Nat}{v:Value}{rs:List (List Value)}{C A B:Hp}(hs:aO T k v rs C){i:Nat}{kd:IntKind}{r xs:List Value}(hr:rs[i]? =some r)(hx:xs.length=n∧n≤k)(h1:∀x∈xs,x.oneCell'=true){K:Hp→Prop}
 (hk:∀C',aO T k v (rs.set i (xs++r.drop n)) C'→K (A++(C'++B))):aj k v (.int kd (i:Int)) fun p=>ag 0 p fun q=>St n (A++(C++B)) q (.agg xs.toArray) K:=by
 have hi:=(List.getElem?_eq_some_iff.1 hr).1
 obtain⟨b',aD,rfl,rfl,aB⟩:=hs.pos (by omega)
 refine aj.nat hi (ag.mk ?_)
 have hg:(rs++aD)[i]? =some r:=by rw[List.getElem?_append_left hi];exact hr
 have e:(rs++aD).set i (xs++r.drop xs.length)=rs.set i (xs++r.drop n)++aD:=by rw[List.set_append_left _ _ hi,hx.1]
 refine St.mk (c':=rows (rs.set i (xs++r.drop n)++aD)) (H':=A++([(b',.cells (rows (rs.set i (xs++r.drop n)++aD)) T (0,0))]++B)) (((cA.head _).append B).bP A) (by simpa[Value.cells]using hx.1) ?_ (by simpa[Value.cells]using h1) ?_ ?_
 ·rw[bD aB,Nat.zero_add,Nat.add_zero,List.length_append]
  have:=Nat.mul_le_mul_right k (Nat.succ_le_of_lt hi)
  rw[Nat.succ_mul]at this
  have h2:rs.length*k≤(rs.length+aD.length)*k:=Nat.mul_le_mul_right k (by omega)
  omega
 ·simp only[Value.cells,Nat.zero_add,Nat.add_zero]
  rw[D0 aB hg (by omega),e]
 ·have ni:r.length=k:=aB r (List.mem_append_left _ (List.mem_of_getElem? hr))
  refine hk _ (aO.mk' (aD:=aD) (fun y hy=>?_) (by simp) (by simp))
  rcases List.mem_append.1 hy with hy|hy
  ·rcases List.mem_or_eq_of_mem_set hy with hy|rfl
   ·exact aB y (List.mem_append_left _ hy)
   ·simp;omega
  ·exact aB y (List.mem_append_right _ hy)
theorem aO.G4{T:TypeId}{k:Nat}{v:Value}{rs:List (List Value)}{C A B:Hp}(hs:aO T k v rs C){i:Nat}{kd:IntKind}{xs:List Value}(hi:i<rs.length)(hx:xs.length=k)(h1:∀x∈xs,x.oneCell'=true){K:Hp→Prop}
 (hk:∀C',aO T k v (rs.set i xs) C'→K (A++(C'++B))):aj k v (.int kd (i:Int)) fun p=>St k (A++(C++B)) p (.agg xs.toArray) K:=by
 obtain⟨b',aD,rfl,rfl,aB⟩:=hs.pos (by omega)
 refine aj.nat hi (St.row (l:=rs++aD) (((cA.head _).append B).bP A) aB (by simp;omega) hx h1 ?_)
 have e:(rs++aD).set i xs=rs.set i xs++aD:=by rw[List.set_append_left _ _ hi]
 rw[e]
 refine hk [(b',_)] (aO.mk' (aD:=aD) (fun y hy=>?_) (by simp) (by simp))
 rcases List.mem_append.1 hy with hy|hy
 ·rcases List.mem_or_eq_of_mem_set hy with hy|rfl
  ·exact aB y (List.mem_append_left _ hy)
  ·exact hx
 ·exact aB y (List.mem_append_right _ hy)
theorem aK.ld{T:TypeId}{kd qY:IntKind}{v:Value}{l:List Int}{C:Hp}(hs:aK T kd v l C){i:Nat}{x:Int}(hx:l[i]? =some x)(hC:∀y∈C,y∈H){K:Value→Prop}(hk:K (.int kd x)):aj 1 v (.int qY (i:Int)) fun p=>Ld H p K:=
 aO.Mu hs (x:=.int kd x) (by simp[hx]) hC hk
theorem aK.put{T:TypeId}{kd qY:IntKind}{v:Value}{l:List Int}{C A B:Hp}(hs:aK T kd v l C){i:Nat}{x:Int}(hi:i<l.length){K:Hp→Prop}
 (hk:∀C',aK T kd v (l.set i x) C'→K (A++(C'++B))):aj 1 v (.int qY (i:Int)) fun p=>St 1 (A++(C++B)) p (.int kd x) K:=by
 have hi':i<(l.map fun n=>[Value.int kd n]).length:=by simpa using hi
 obtain⟨b',aD,rfl,rfl,aB⟩:=aO.pos hs (by omega)
 refine aj.nat hi' ?_
 refine St.cell (l:=l.map (fun n=>[Value.int kd n])++aD) (i:=i) (k:=1) (j:=0) (r:=[.int kd l[i]]) (((cA.head _).append B).bP A) aB (by rw[List.getElem?_append_left hi'];simp[hi]) (by omega) rfl ?_
 have e:(l.map (fun n=>[Value.int kd n])++aD).set i ([Value.int kd l[i]].set 0 (.int kd x))=(l.set i x).map (fun n=>[Value.int kd n])++aD:=by
  rw[List.set_append_left _ _ hi',List.map_set];rfl
 rw[e]
 refine hk [(b',_)] (aO.mk' (aD:=aD) (fun r hr'=>?_) (by simp) (by simp))
 rcases List.mem_append.1 hr' with hr'|hr'
 ·obtain⟨y,_,rfl⟩:=List.mem_map.1 hr';rfl
 ·exact aB r (List.mem_append_right _ hr')
theorem aJ.nil{H:Hp}:aJ H []:=fun _ _ h=>h.jw
theorem aO.cut{T:TypeId}{k i:Nat}{v:Value}{rs:List (List Value)}{C:Hp}(hs:aO T k v rs C)(hi:i≤rs.length){kd:IntKind}{K:Value→Prop}(hk:∀v',aO T k v' (rs.take i) C→K v'):
  di k v none (some (.int kd (i:Int))) K:=by
 by_cases hp:0<rs.length
 ·obtain⟨b',aD,rfl,rfl,aB⟩:=hs.pos hp
  refine di.upto (by omega) (hk _ ?_)
  have e:rs++aD=rs.take i++(rs.drop i++aD):=by rw[←List.append_assoc,List.take_append_drop]
  rw[e]at aB⊢
  exact aO.mk' aB (by simp;omega) (by simp;omega)
 ·obtain rfl:rs=[]:=List.eq_nil_of_length_eq_zero (by omega)
  obtain rfl:i=0:=by simpa using hi
  obtain⟨a,c,rfl⟩:=hs.len
  exact di.upto (Nat.zero_le _) (hk _ (by simpa using hs))
theorem aK.cut{T:TypeId}{kd qY:IntKind}{i:Nat}{v:Value}{l:List Int}{C:Hp}(hs:aK T kd v l C)(hi:i≤l.length){K:Value→Prop}(hk:∀v',aK T kd v' (l.take i) C→K v'):
  di 1 v none (some (.int qY (i:Int))) K:=
 aO.cut hs (by simpa using hi) fun v' h=>hk v' (by unfold aK;rw[List.map_take];exact h)
end
end Go.Sx
namespace Go.Sx
open Go
section
variable {P:Program} {H C:Hp} {c:Hp→Hp}
theorem bj.split(h:bj C H c):∃A B,∀X,c X=A++(X++B):=by
 induction h with
 |here=>exact⟨[],[],fun X=>by simp⟩
 | @left A=>exact⟨[],A,fun X=>rfl⟩
 | @cons x H c h ih=>
  obtain⟨A,B,e⟩:=ih
  exact⟨x::A,B,fun X=>by show x::c X=_;rw[e];rfl⟩
 | @app A' H c h ih=>
  obtain⟨A,B,e⟩:=ih
  exact⟨A'++A,B,fun X=>by show A'++c X=_;rw[e,List.append_assoc]⟩
theorem bj.sub(h:bj C H c):∀x∈C,x∈H:=fun x hx=>by
 obtain⟨A,B,e⟩:=h.split
 rw[h.spec.1,e]
 exact List.mem_append_right _ (List.mem_append_left _ hx)
theorem aO.oh{elem k bytes:Nat}{zero:Value}{v:Value}{rs:List (List Value)}(h:aO elem k v rs C)(hh:bj C H c){xb:Nat}{r:List Value}{xT:TypeId}{fz:Nat×Nat}{xc:Nat}
 (hx:(xb,Obj.cells r.toArray xT fz)∈H)(hr:r.length=k)(h1:∀u∈r,u.oneCell'=true)(hz:∃z:List Value,zero.cells=z.toArray∧z.length=k)
 (hb:(rs.length+1)*bytes≤140737488355328)(aV:rs.length+1≤9223372036854775807){K:Value→Hp→Prop}
 (hk:∀v' C',aO elem k v' (rs++[r]) C'→K v' (c C')):App P elem k bytes zero H v (.slice (some ⟨xb,0,none⟩) 1 xc) K:=by
 obtain⟨A,B,e⟩:=hh.split
 have e2:=hh.spec.1
 rw[e]at e2
 subst e2
 exact h.zW hx hr h1 hz hb aV fun v' C' ho=>by have:=hk v' C' ho;rwa [e]at this
theorem aK.oh{T:TypeId}{kd:IntKind}{v:Value}{l:List Int}{bytes:Nat}(h:aK T kd v l C)(hh:bj C H c){xb xc:Nat}{x:Int}{xT:TypeId}{fz:Nat×Nat}(hx:(xb,Obj.cells (az kd [x]) xT fz)∈H)
 (hb:(l.length+1)*bytes≤140737488355328)(hm:l.length+1≤9223372036854775807){K:Value→Hp→Prop}(hk:∀v' C',aK T kd v' (l++[x]) C'→K v' (c C')):App P T 1 bytes (.int kd 0) H v (.slice (some ⟨xb,0,none⟩) 1 xc) K:=by
 obtain⟨A,B,e⟩:=hh.split
 have e2:=hh.spec.1
 rw[e]at e2
 subst e2
 exact h.app hx hb hm fun v' C' ho=>by have:=hk v' C' ho;rwa [e]at this
theorem aK.mC{T:TypeId}{kd:IntKind}{v x:Value}{l l2:List Int}{bytes:Nat}(h:aK T kd v l C)(hh:bj C H c)(hx:bW kd H x l2)
 (hb:(l.length+l2.length)*bytes≤140737488355328)(hm:l.length+l2.length≤9223372036854775807){K:Value→Hp→Prop}(hk:∀v' C',aK T kd v' (l++l2) C'→K v' (c C')):App P T 1 bytes (.int kd 0) H v x K:=by
 obtain⟨A,B,e⟩:=hh.split
 have e2:=hh.spec.1
 rw[e]at e2
 subst e2
 exact h.apps hx hb hm fun v' C' ho=>by have:=hk v' C' ho;rwa [e]at this
theorem aK.g8{T:TypeId}{kd qY:IntKind}{v:Value}{l:List Int}(hs:aK T kd v l C)(hh:bj C H c){i:Nat}{x:Int}(hi:i<l.length){K:Hp→Prop}
 (hk:∀C',aK T kd v (l.set i x) C'→K (c C')):aj 1 v (.int qY (i:Int)) fun p=>St 1 H p (.int kd x) K:=by
 obtain⟨A,B,e⟩:=hh.split
 have e2:=hh.spec.1
 rw[e]at e2
 subst e2
 exact hs.put hi fun C' ho=>by have:=hk C' ho;rwa [e]at this
theorem aK.one{T:TypeId}{kd:IntKind}{v:Value}{l:List Int}(h:aK T kd v l C):v.oneCell'=true:=by obtain⟨a,c,e⟩:=aO.len h;rw[e];rfl
theorem eR(l:List Nat)(i x:Nat):(iw l).set i (x:Int)=iw (l.set i x):=by unfold iw;rw[List.map_set]
theorem cm(a b:List Nat):iw (a++b)=iw a++iw b:=by unfold iw;rw[List.map_append]
theorem bB{l:List Nat}{i:Nat}(h:i<l.length):(iw l)[i]? =some ((l.getD i 0:Nat):Int):=by
 rw[bR (List.getElem?_eq_getElem h)];simp[List.getD,List.getElem?_eq_getElem h]
end
end Go.Sx
namespace Go.Sx
open Go
theorem iV{p:Nat→Prop}(h:∃k,p k):∃k,p k∧∀j,p j→k≤j:=by
 obtain⟨k,hk⟩:=h
 induction k using Nat.strongRecOn with
 |_ k ih=>
  by_cases e:∃j,j<k∧p j
  ·obtain⟨j,hj,hp⟩:=e;exact ih j hj hp
  ·exact⟨k,hk,fun j hp=>Nat.le_of_not_lt fun hlt=>e ⟨j,hlt,hp⟩⟩
open Classical in
noncomputable def kC(J:Nat→List Value→Hp→Prop)(vs:List Value)(H:Hp):Nat:=if h:∃k,J k vs H then Classical.choose (iV h)else 0
theorem Ej{J:Nat→List Value→Hp→Prop}{vs:List Value}{H:Hp}{k:Nat}(h:J k vs H):kC J vs H≤k:=by
 unfold kC
 rw[dif_pos ⟨k,h⟩]
 exact(Classical.choose_spec (iV ⟨k,h⟩)).2 k h
theorem wG{J:Nat→List Value→Hp→Prop}{vs:List Value}{H:Hp}(h:∃k,J k vs H):J (kC J vs H) vs H:=by
 unfold kC
 rw[dif_pos h]
 exact(Classical.choose_spec (iV h)).1
def kT(J:Nat→List Value→Hp→Prop):List Value→Hp→Prop:=fun vs H=>∃k,J k vs H
theorem kT.open{J:Nat→List Value→Hp→Prop}{vs:List Value}{H:Hp}(h:kT J vs H):∃k,J k vs H∧k=kC J vs H:=⟨_,wG h,rfl⟩
theorem kT.mk{J:Nat→List Value→Hp→Prop}{vs:List Value}{H:Hp}(k:Nat)(h:J k vs H):JE (kT J) vs H:=JE.mk ⟨k,h⟩
theorem kT.back{J:Nat→List Value→Hp→Prop}{vs vs':List Value}{H H' H0:Hp}{k:Nat}(e:aJ H H')(hk:k=kC J vs H0)(k':Nat)(h:J k' vs' H')(hlt:k'<k):aq (kT J) (kC J) vs' H vs H0:=
 aq.of e ⟨k',h⟩ (Nat.lt_of_le_of_lt (Ej h) (by omega))
theorem Qb{vs:List Value}{H:Hp}{Q:(List Value→Hp→Prop)→(List Value→Hp→Nat)→Prop}(J:Nat→List Value→Hp→Prop)(k:Nat)(h:J k vs H)(hq:Q (kT J) (kC J)):
  ∃(I:List Value→Hp→Prop) (m:List Value→Hp→Nat),JE I vs H∧Q I m:=⟨_,_,kT.mk k h,hq⟩
section
variable {P:Program} {H:Hp}
theorem an.Qm{t e:Nat}{kd:IntKind}{x y:Int}{K:Value→Hp→Prop}(h1:P.underlying t=some (.slice e))(h2:cT P e=some 1)(h3:dR P e=some (.int kd 0))
 (h:∀b,K (.slice (some ⟨b,0,Option.none⟩) 2 2) ((b,.cells (az kd [x,y]) e (0,0))::H)):an P t 2 [(0,.int kd x),(1,.int kd y)] H K:=by
 refine⟨az kd [x,y],e,1,_,h1,h2,h3,by decide,?_,fun b _=>h b⟩
 have e1:Array.range (2*1)=#[0,1]:=rfl
 simp[Instr.fill,Value.cells,az,e1]
theorem D1(kd:IntKind)(l:List Int):rows (l.map fun n=>[Value.int kd n])=az kd l:=by
 unfold rows az
 congr 1
 induction l with
 |nil=>rfl
 |cons x l ih=>rw[List.map_cons,List.flatten_cons,ih];rfl
theorem aK.made{T:TypeId}{kd:IntKind}{b:Nat}(l:List Int):aK T kd (.slice (some ⟨b,0,none⟩) l.length l.length) l [(b,.cells (az kd l) T (0,0))]:=by
 have:=aO.mk' (T:=T) (k:=1) (b:=b) (n:=l.length) (c:=l.length) (rs:=l.map fun n=>[Value.int kd n]) (aD:=[]) (fun r hr=>by
  rw[List.append_nil]at hr
  obtain⟨x,_,rfl⟩:=List.mem_map.1 hr;rfl) (by simp) (by simp)
 rw[List.append_nil,D1]at this
 exact this
end
end Go.Sx
namespace Go.Sx
open Go
section
variable {P:Program} {g:Gh}
structure Gu where
 f:FuncId
 l:List Value
def qi(P:Program)(g:Gh)(f:FuncId)(args:Array Value)(H:Hp)(R:Ending→Hp→Prop):Prop:=
 ∀w,Own g H w→∀u,CallsD P f args u w fun e u' w'=>u'=u∧∃H',Own g H' w'∧R e H'
def O8(P:Program)(g:Gh)(f:FuncId)(args:Array Value)(H:Hp)(K:Hp→Prop):Prop:=qi P g f args H fun e H'=>(∃v,e=.returned v)∧K H'
def GG(P:Program)(g:Gh)(K:Hp→Prop):List Gu→Hp→Prop
 | [],H=>K H
 |x::r,H=>O8 P g x.f x.l.toArray H (GG P g K r)
def O7(P:Program)(o:Oper)(ρ:Operand→Value)(k:Gu→Prop):Prop:=
 match o.op with
 | .defer c=>match c.callee with
  | .value x=>match ρ x with
   | .func (.func f) first cap=>cond (cC P f) (k ⟨f,first.toList++(c.args.toList.map ρ++cap.toList)⟩) False
   |_=>False
  |_=>False
 |_=>False
def HQ:Code→Option (Array Oper×Oper)
 | .region _ ops false=>match ops.toList.getLast? with
  |some o=>match o.op with
   | .defer _=>some (ops,o)
   |_=>none
  |none=>none
 |_=>none
def I8(P:Program)(g:Gh)(fn:Func)(R:Ending→Hp→Prop)(dl:List Gu):Exit→Fr→Hp→Prop
 | .normal,fr,H=>GG P g (fun H'=>qF P fr H' fn.results.toList fun vs=>R (.returned (yH vs)) H') dl H
 | .ret,fr,H=>GG P g (fun H'=>qF P fr H' fn.results.toList fun vs=>R (.returned (yH vs)) H') dl H
 |_,_,_=>False
def zC(P:Program)(g:Gh)(n:Nat)(E:List Gu→Exit→Fr→Hp→Prop):Code→Hn→List Gu→Fr→Hp→Prop
 | .seq x y,hn,dl,fr,H=>
  match HQ x with
  |some (ops,o)=>cond (o.dst.isNone&&o.guard.isNone)
    (dI P g n ops false (ops.toList.length+1) false none [] ops.toList.dropLast fr H (fun _ fr' H'=>O7 P o (ev fr') fun d=>zC P g n E y hn.b (d::dl) fr' H') (fun _ _=>False)) False
  |none=>match hn.m with
   |0=>den P g n x hn.a (vN (zC P g n E y hn.b dl) (E dl)) fr H
   |_=>cond (KN x hn.I)
    (Sn hn.L.length (fun vs H'=>∀gs,zC P g n E y hn.b dl (mix hn.L vs hn.I fr gs) H') fun J=>den P g n x hn.a (vN (fun fr' H'=>JE J (yz fr' hn.L) H') (E dl)) fr H) False
 |c,hn,dl,fr,H=>den P g n c hn (E dl) fr H
def I9(P:Program)(g:Gh)(fn:Func)(hn:Hn)(args:List Value)(H:Hp)(R:Ending→Hp→Prop):Prop:=
 match fn.body with
 |some c=>cond (Nat.ble args.length fn.ntmps) (zC P g fn.ntmps (I8 P g fn R) c hn [] (gR args 0) H) False
 |none=>False
def Xd:List PanicEntry→Hp→Prop:=fun _ _=>∀_:Fr,False
def Xn(P:Program)(x:Gu)(d:Deferred):Prop:=∃cap args,d={target:=.fn (.func x.f) cap,args:=args}∧args++cap=x.l.toArray∧cC P x.f=true
inductive Cb(P:Program):List Gu→List Deferred→Prop
 |nil:Cb P [] []
 |cons {x d l ds} (h:Xn P x d) (hr:Cb P l ds):Cb P (x::l) (d::ds)
theorem qp{fn:Func}{tmps:Array Value}{K:Hp→Prop}{R:Ending→World→Prop}(hK:∀H w,Own g H w→K H→∃v,(results fn tmps).run P w=.ok v w∧R (.returned v) w):
  ∀{dl:List Gu} {ds:List Deferred},Cb P dl ds→∀H w,Own g H w→GG P g K dl H→Leaves P fn tmps R ds .returning w
 |_,_,.nil,H,w,hw,h=>hK H w hw h
 |_,_,.cons ⟨cap,args,hd,ha,hc⟩ hr,H,w,hw,h=>by
  subst hd
  refine leaves_cons (by simp) ?_ ((h w hw .returning).mono ?_)
  ·show(callFunc _ (args++cap)).run P w=_
   rw[ha]
   exact eo hc _ w
  ·rintro e u' w' ⟨rfl,H',ho,⟨v,rfl⟩,hk⟩
   exact qp hK hr H' w' ho hk
theorem m5{fn:Func}{R:Ending→Hp→Prop}{n:Nat}{dl:List Gu}{ds:List Deferred}(hd:Cb P dl ds){e:Exit}{fr:Fr}{H:Hp}{a:Act}{w:World}(ha:ca ds n a fr)(hw:Own g H w)(h:I8 P g fn R dl e fr H):
  bodyPostD P fn (fun e w'=>∃H',Own g H' w'∧R e H') e a w:=by
 have key:∀{H},Own g H w→GG P g (fun H'=>qF P fr H' fn.results.toList fun vs=>R (.returned (yH vs)) H') dl H→Leaves P fn a.tmps (fun e w'=>∃H',Own g H' w'∧R e H') a.defers .returning w:=fun hw h=>by
  rw[ha.defers]
  refine qp (fun H w hw h=>?_) hd _ _ hw h
  obtain⟨vs,hr,hk⟩:=fM ha hw h
  exact⟨_,hr,H,hw,hk⟩
 cases e with
 |normal=>exact key hw h
 |ret=>exact key hw h
 |panic ch=>exact h.elim
 |exit id=>exact h.elim
 |goto l=>exact h.elim
 |outgrown=>exact h.elim
theorem y6{c:Code}{ops:Array Oper}{o:Oper}(h:HQ c=some (ops,o)):∃id d,c=.region id ops false∧ops.toList=ops.toList.dropLast++[o]∧o.op=.defer d:=by
 unfold HQ at h
 split at h
 ·rename_i id ops'
  split at h
  ·rename_i o' ho
   split at h
   ·rename_i d hd
    simp only[Option.some.injEq,Prod.mk.injEq]at h
    obtain⟨rfl,rfl⟩:=h
    refine⟨id,d,rfl,?_,hd⟩
    obtain⟨hne,e⟩:=List.getLast?_eq_some_iff.1 ho
    rw[e];simp
   ·cases h
  ·cases h
 ·cases h
theorem JH{o:Oper}{fr:Fr}{k:Gu→Prop}(h:O7 P o (ev fr) k):∃x d,k x∧Xn P x d∧∀w,(execOp (ev fr) o).run P w=.ok (.defer d) w:=by
 unfold O7 at h
 split at h<;>try exact h.elim
 rename_i c hop
 split at h<;>try exact h.elim
 rename_i x hc
 split at h<;>try exact h.elim
 rename_i f first cap hx
 cases jt:cC P f<;>simp only[jt,cond_true,cond_false]at h
 refine⟨_,{target:=.fn (.func f) cap,args:=first++c.args.map (ev fr)},h,⟨cap,_,rfl,?_,jt⟩,fun w=>?_⟩
 ·apply Array.ext'
  simp
 ·simp only[execOp,hop,resolve,hc,hx,Deferred.ofValue,Sem.run_bind,Sem.run_pure,Result.andThen_ok]
theorem zB{n:Nat}{fn:Func}{R:Ending→Hp→Prop}:∀(c:Code) (hn:Hn) (dl:List Gu) (fr:Fr) (H:Hp),zC P g n (I8 P g fn R) c hn dl fr H→∀(ds:List Deferred),Cb P dl ds→∀(a:Act) (w:World),ca ds n a fr→Own g H w→
  c.wp P (bodyPostD P fn fun e w'=>∃H',Own g H' w'∧R e H') a w:=by
 have plain:∀(c:Code) (hn:Hn) (dl:List Gu) (fr:Fr) (H:Hp),den P g n c hn (I8 P g fn R dl) fr H→∀(ds:List Deferred),Cb P dl ds→∀(a:Act) (w:World),ca ds n a fr→Own g H w→
   c.wp P (bodyPostD P fn fun e w'=>∃H',Own g H' w'∧R e H') a w:=fun c hn dl fr H h ds hd a w ha hw=>
  wp_mono (je c hn _ fr H h a w ha hw) fun e a' w' ⟨fr',H',dy,cR,_,hq⟩=>m5 hd dy cR hq
 intro c
 induction c with
 |seq x y _ ih=>
  intro hn dl fr H h ds hd a w ha hw
  unfold zC at h
  split at h
  ·rename_i ops o hx
   obtain⟨id,d,rfl,hl,hop⟩:=y6 hx
   cases hc:(o.dst.isNone&&o.guard.isNone)<;>simp only[hc,cond_true,cond_false]at h
   simp only[Bool.and_eq_true,Option.isNone_iff_eq_none]at hc
   refine wp_seq (wp_region_list ?_)
   rw[hl]
   refine cq _ _ _ _ _ fr H _ _ h trivial (fX.nil fr) a w ha hw [o] _ ?_ ?_
   ·intro a' w' nh fr' H' dy cR _ _ hk
    refine wpList_plain hc.2 fun K hK=>?_
    obtain⟨x,dd,hx,hok,hrun⟩:=JH hk
    show o.upon P a' K _ ((execOp a'.eval o).run P w')
    rw[dy.eval,hrun]
    refine hK _ _ ?_
    refine ih _ _ fr' H' hx (dd::ds) (.cons hok hd) _ _ ?_ cR
    rw[hc.1]
    exact⟨congrArg _ dy.defers,dy.size,dy.get⟩
   ·intro ch a' w' fr' H' _ _ hk;exact hk.elim
  ·split at h
   ·refine wp_seq (wp_mono (je x _ _ fr H h a w ha hw) ?_)
    rintro e a' w' ⟨fr',H',dy,cR,ho,hq⟩
    cases e with
    |normal=>exact ih _ _ fr' H' hq ds hd a' w' dy cR
    |ret=>exact m5 (e:=.ret) hd dy cR hq
    |exit id=>exact hq.elim
    |goto l=>exact hq.elim
    |panic ch=>exact hq.elim
    |outgrown=>exact hq.elim
   ·cases hno:KN x hn.I<;>simp only[hno,cond_true,cond_false]at h
    have h':=h (fun vs H'=>∀gs,zC P g n (I8 P g fn R) y hn.b dl (mix hn.L vs hn.I fr gs) H') (sB.intro (fun vs H' hh=>hh) _)
    refine wp_seq (wp_mono (je x _ _ fr H h' a w ha hw) ?_)
    rintro e a' w' ⟨fr',H',dy,cR,ho,hq⟩
    cases e with
    |normal=>
     obtain⟨Hj,rA,hq⟩:=hq
     have SK:=hq fr'
     rw[qT fun s hs=>ho rfl s (qQ hno s hs)]at SK
     exact ih _ _ fr' Hj SK ds hd a' w' dy (rA _ _ cR)
    |ret=>exact m5 (e:=.ret) hd dy cR hq
    |exit id=>exact hq.elim
    |goto l=>exact hq.elim
    |panic ch=>exact hq.elim
    |outgrown=>exact hq.elim
 |_=>intro hn dl fr H h;exact plain _ hn dl fr H h
theorem HS{args:List Value}{m:Nat}(hle:args.length≤m):ca [] m {tmps:=args.toArray++Array.replicate (m-args.toArray.size) undef,defers:=[]} (gR args 0):=by
 refine⟨rfl,by simp;omega,fun s=>?_⟩
 rw[jC,Array.getD_eq_getD_getElem?,Array.getElem?_append]
 simp only[List.size_toArray,Nat.not_lt_zero,if_false,Nat.sub_zero]
 by_cases hs:s<args.length
 ·simp[hs,List.getD]
 ·rw[if_neg hs,Array.getElem?_replicate]
  have:args.getD s undef=undef:=by simp[List.getD,List.getElem?_eq_none (Nat.le_of_not_lt hs)]
  rw[this]
  split<;>rfl
theorem xN{f:FuncId}{fn:Func}{hn:Hn}{args:List Value}{H:Hp}{R:Ending→Hp→Prop}(hf:P.funcs[f]? =some fn)(h:I9 P g fn hn args H R):bZ P g f args.toArray H R:=by
 intro w hw
 unfold I9 at h
 split at h<;>try exact h.elim
 rename_i c hc
 cases hl:Nat.ble args.length fn.ntmps<;>simp only[hl,cond_true,cond_false]at h
 exact calls_of_wp_defers hf hc (zB c hn [] _ H h [] .nil _ w (HS (Nat.le_of_ble_eq_true hl)) hw)
theorem xM{f:FuncId}{fn:Func}{hn:Hn}{args:List Value}{H:Hp}{R:Ending→Hp→Prop}(hf:P.funcs[f]? =some fn)(h:zE P g fn hn args H R):qi P g f args.toArray H R:=by
 intro w hw u
 unfold zE at h
 split at h<;>try exact h.elim
 rename_i c hc
 cases hl:Nat.ble args.length fn.ntmps<;>simp only[hl,cond_true,cond_false]at h
 refine callsD_of_wp hf hc (wp_mono (je c hn _ _ H h _ w (HS (Nat.le_of_ble_eq_true hl)) hw) ?_)
 rintro e a' w' ⟨fr',H',dy,cR,_,hq⟩
 cases e with
 |normal=>obtain⟨vs,hr,hk⟩:=fM dy cR hq;exact⟨dy.defers,_,hr,H',cR,hk⟩
 |ret=>obtain⟨vs,hr,hk⟩:=fM dy cR hq;exact⟨dy.defers,_,hr,H',cR,hk⟩
 |panic ch=>exact⟨dy.defers,H',cR,hq⟩
 |exit id=>exact hq.elim
 |goto l=>exact hq.elim
 |outgrown=>exact hq.elim
abbrev Jt:=List Value→Hp→Prop
abbrev Mt:=List Value→Hp→Nat
abbrev Rt:=Ending→Hp→Prop
abbrev Hn.n(a b:Hn):Hn:=.h 0 [] [] a b
theorem Ny{f:FuncId}{fn:Func}{hn:Hn}{args:List Value}{H:Hp}{R:Rt}{L:Prop}(hf:P.funcs[f]? =some fn)(h:L)(e:zE P g fn hn args H R=L):bZ P g f args.toArray H R:=zD hf (e.mpr h)
theorem Nx{f:FuncId}{fn:Func}{hn:Hn}{args:List Value}{H:Hp}{R:Rt}{L:Prop}(hf:P.funcs[f]? =some fn)(h:L)(e:I9 P g fn hn args H R=L):bZ P g f args.toArray H R:=xN hf (e.mpr h)
theorem Nz{f:FuncId}{fn:Func}{hn:Hn}{args:List Value}{H:Hp}{R:Rt}{L:Prop}(hf:P.funcs[f]? =some fn)(h:L)(e:zE P g fn hn args H R=L):qi P g f args.toArray H R:=xM hf (e.mpr h)
end
end Go.Sx
set_option maxRecDepth 100000
namespace Go.Proofs
open Go Go.Sx
variable {g:Gh} {a0 a1 a2 a3 a4 a5 a6 a7 a8 a9 p5 pZ Sb Sa R9 R8:Value} {H:Hp} {R:Rt}
abbrev pt(b:Nat):Value:=.pointer (some ⟨b,0,none⟩)
abbrev CF:=ae Tryz.prog
abbrev iv(n:Int):Value:=.int .i64 n
abbrev ui(n:Int):Value:=.int .u32 n
abbrev wi(n:Int):Value:=.int .u64 n
abbrev bi(n:Int):Value:=.int .u8 n
abbrev vT:Value:=.bool true
abbrev vF:Value:=.bool false
abbrev lE:=aa .num .eql
abbrev lN:=aa .num .neq
abbrev lL:=aa .num .lss
abbrev lG:=aa .num .gtr
abbrev lA:=aa .num .add
abbrev lS:=aa .num .sub
abbrev lD(n:Nat)(p:Value)(H:Hp)(k:Value→Prop):Prop:=ag n p fun v=>Ld H v k
abbrev lM(n:Nat)(p:Value)(H:Hp)(k:Value→Prop):Prop:=Nil p fun q=>ag n q fun v=>Ld H v k
abbrev lI(e:Nat)(p i:Value)(H:Hp)(k:Value→Prop):Prop:=aj e p i fun v=>Ld H v k
abbrev lX(v:Value)(k:Value→Value→Prop):Prop:=Ext 0 v fun x=>Ext 1 v fun y=>k x y
abbrev rt(R:Rt)(v:Value)(H:Hp):Prop:=R (.returned v) H
abbrev tP(a b:Value):Value:=.tuple #[a,b]
abbrev lW(H:Hp)(c:Array Value)(t:Nat)(k:Nat→Hp→Prop):Prop:=dP H (.cells c t (0,0)) k
abbrev lO(a:Value)(i:Bool→Prop)(k:Bool→Prop):Prop:=dO a false i (fun t=>vT=Value.bool t) fun t=>∀_:Fr,k t
abbrev lU(a:Value)(i:Bool→Prop)(k:Bool→Prop):Prop:=dO a true i (fun t=>vF=Value.bool t) fun t=>∀_:Fr,k t
abbrev lV(H:Hp)(v:Value)(t:Bool):Prop:=H=H∧v=Value.bool t
abbrev lC(n:Nat)(p:Value)(k:Value→Prop):Prop:=Nil p fun q=>ag n q k
abbrev lQ(n:Nat)(H:Hp)(c:Array Value)(t:Nat)(v:Value)(k:Nat→Hp→Prop):Prop:=dP H (.cells c t (0,0)) fun b H=>St n H (pt b) v fun H=>k b H
abbrev sc:=bZ Tryz.prog
theorem sd{g:Gh}{f:FuncId}{fn:Func}(hn:Hn){args:List Value}{H:Hp}{R:Rt}{L:Prop}(hf:Tryz.prog.funcs[f]? =some fn)(h:L)(e:zE Tryz.prog g fn hn args H R=L:=by kernel_rfl):sc g f args.toArray H R:=Ny hf h e
abbrev Y0:=Gh→Hp→Rt→Prop
abbrev Y1:=Gh→Value→Hp→Rt→Prop
abbrev Y2:=Gh→Value→Value→Hp→Rt→Prop
abbrev Y3:=Gh→Value→Value→Value→Hp→Rt→Prop
abbrev Y4:=Gh→Value→Value→Value→Value→Hp→Rt→Prop
abbrev Y5:=Gh→Value→Value→Value→Value→Value→Hp→Rt→Prop
abbrev CR(R:Rt)(g:Gh)(f:Nat)(a:Array Value)(H:Hp)(K:Value→Hp→Prop):Prop:=ae Tryz.prog g f a H K (O1 R)
abbrev CN(g:Gh)(f:Nat)(a:Array Value)(H:Hp)(K:Value→Hp→Prop):Prop:=ae Tryz.prog g f a H K JA
def hr(m:Nat)(T:List Nat):Nat→Nat→Hn→Hn
 |_,0,x=>x
 |i,k+1,x=>.h m [i] T (hr m T (i+1) k x) .e
def hN:Nat→Hn→Hn
 |0,x=>x
 |k+1,x=>.n .e (hN k x)
def L5:Y1:=
fun a b c d=>
dP c (.cells (Value.cells b) 62 (0,0)) fun b c=>
CR d a 24 #[] c fun c e=>
Un .not c fun c=>
Br c (
rt d vF e) (
av 4 e (pt b) fun c=>
CR d a 30 #[c] e fun c e=>
Un .not c fun c=>
lO c (fun c=>
lD 0 (pt b) e fun f=>
lG f (iv 7) fun f=>
(lV e f c)) fun c=>
lO (Value.bool c) (fun c=>
lD 2 (pt b) e fun f=>
aA f fun f=>
lG f (iv 12) fun f=>
(lV e f c)) fun c=>
Br (Value.bool c) (
rt d vT e) (
av 4 e (pt b) fun b=>
CR d a 31 #[b] e fun b c=>
lX b fun b e=>
Un .not e fun e=>
Br e (
rt d vF c) (
∃(e:Jt) (f:Mt),JE e [(iv 0)] c∧∀c:Value,∀g:Hp,e [c] g→∀_:Fr,
lL c (iv 2) fun h=>
Br h (
lM 0 b g fun h=>
CR d a 25 #[h] g fun h i=>
lX h fun h j=>
lQ 4 i #[(iv 0),(iv 0),(iv 0),vF] 42 h fun h i=>
lM 1 b i fun k=>
CR d a 32 #[k] i fun i k=>
lX i fun i l=>
lQ 4 k #[(iv 0),(iv 0),(iv 0),vF] 69 i fun i k=>
∀m:Jt,(∀n:Value,∀o:Hp,(∀_:Fr,
Br n (
rt d vF o) (
lA c (iv 1) fun p=>
aq e f [p] o [c] g))→m [n] o)→
DR k fun c=>
lN j l fun e=>
Br e (
JE m [vT] k) (
lD 0 (pt h) c fun e=>
lD 0 (pt i) c fun f=>
lN e f fun e=>
ay vF vT e fun e=>
Br e (
JE m [vT] k) (
lD 1 (pt h) c fun e=>
lD 1 (pt i) c fun f=>
lN e f fun e=>
ay vF vT e fun e=>
Br e (
JE m [vT] k) (
lD 2 (pt h) c fun e=>
lD 2 (pt i) c fun f=>
lN e f fun e=>
ay vF vT e fun e=>
Br e (
JE m [vT] k) (
lD 3 (pt h) c fun e=>
lD 3 (pt i) c fun f=>
aa .bool .neq e f fun e=>
ay vF vT e fun e=>
Br e (
JE m [vT] k) (
∀e:Hp,
CN (a.add e) 33 #[b] k fun e f=>
aJ f c∧
Un .not e fun e=>
ay vF vT e fun e=>
Br e (
JE m [vT] f) (
lM 0 b c fun e=>
lM 1 b c fun b=>
lM 4 b c fun b=>
aA b fun b=>
∀h:Hp,
CN (a.add h) 34 #[e] f fun a e=>
aJ e c∧
lN a b fun a=>
ay vF vT a fun a=>
JE m [a] e))))))) (
rt d vT g))))
theorem JC(h:L5 g a0 H R):sc g 5 #[a0] H R:=
  sd (.n .e (.n .e (.n (.n (.h 0 [] [1] .e .e) .e) (.n .e (.n .e (.n (.n .e (.n (.h 0 [32] [3] (.n .e (.n .e (.n (.n (.n .e (.n .e (.h 1 [101] [3,32] (.h 1 [] [] (hr 0 [1] 0 3 (.h 2 [3] [] (hr 0 [1] 4 5 (hr 3 [1] 9 2 (hr 0 [1] 11 5 (hr 3 [1] 16 2 (hr 0 [1] 18 5 (hr 3 [1] 23 2 (hr 0 [1] 25 5 (hr 3 [1] 30 2 (hr 0 [1] 32 3 (hr 3 [1] 35 2 (hr 0 [1] 37 14 (.h 3 [51] [1] .e .e)))))))))))) (hr 0 [1] 4 6 (.h 2 [10] [] (hr 0 [1] 11 5 (hr 3 [1] 16 2 (hr 0 [1] 18 5 (hr 3 [1] 23 2 (hr 0 [1] 25 5 (hr 3 [1] 30 2 (hr 0 [1] 32 3 (hr 3 [1] 35 2 (hr 0 [1] 37 14 (.h 3 [51] [1] .e .e)))))))))) (hr 0 [1] 11 6 (.h 2 [17] [] (hr 0 [1] 18 5 (hr 3 [1] 23 2 (hr 0 [1] 25 5 (hr 3 [1] 30 2 (hr 0 [1] 32 3 (hr 3 [1] 35 2 (hr 0 [1] 37 14 (.h 3 [51] [1] .e .e)))))))) (hr 0 [1] 18 6 (.h 2 [24] [] (hr 0 [1] 25 5 (hr 3 [1] 30 2 (hr 0 [1] 32 3 (hr 3 [1] 35 2 (hr 0 [1] 37 14 (.h 3 [51] [1] .e .e)))))) (hr 0 [1] 25 6 (.h 2 [31] [] (hr 0 [1] 32 3 (hr 3 [1] 35 2 (hr 0 [1] 37 14 (.h 3 [51] [1] .e .e)))) (hr 0 [1] 32 4 (.h 2 [36] [] (hr 0 [1] 37 14 (.h 3 [51] [1] .e .e)) (hr 0 [1] 37 4 (hr 0 [1] 42 8 (.h 0 [41] [1] (hr 0 [1] 50 2 .e) .e))))))))))))))) .e) .e))) .e) .e))) .e) .e)) .e)))))) Tryz.func5 h
def L13:Y1:=
fun a b c d=>
aa .ptr .eql b (.pointer none) fun e=>
Br e (
rt d (.slice none 0 0) c) (
lM 5 b c fun b=>
CR d a 57 #[b] c fun a b=>
rt d a b)
theorem F8(h:L13 g a0 H R):sc g 13 #[a0] H R:=
  sd .e Tryz.func13 h
def L15:Y1:=
fun a b c d=>
aa .ptr .eql b (.pointer none) fun e=>
Br e (
rt d (iv 0) c) (
lC 0 b fun b=>
ag 0 b fun b=>
Ld c b fun b=>
CR d a 58 #[b] c fun a b=>
lS a (iv 2) fun a=>
rt d a b)
theorem F6(h:L15 g a0 H R):sc g 15 #[a0] H R:=
  sd .e Tryz.func15 h
def L17:Y2:=
fun a b c d e=>
aa .ptr .eql b (.pointer none) fun f=>
Br f (
rt e (iv 10) d) (
lL c (iv 0) fun f=>
lO f (fun f=>
lM 4 b d fun g=>
lS g (iv 2) fun g=>
lG c g fun g=>
(lV d g f)) fun f=>
Br (Value.bool f) (
rt e (iv 1) d) (
CR e a 59 #[b,c] d fun a d=>
Un .not a fun a=>
Br a (
rt e (iv 9) d) (
lM 7 b d fun a=>
an Tryz.prog 25 1 [(0,c)] d fun c d=>
App Tryz.prog 3 1 8 (iv 0) d a c fun a c=>
lC 7 b fun b=>
St 1 c b a fun a=>
rt e (iv 0) a)))
theorem uo(h:L17 g a0 a1 H R):sc g 17 #[a0,a1] H R:=
  sd (.n .e (.n (.n (.n .e (.n .e (.n (.h 0 [] [1] .e .e) .e))) .e) .e)) Tryz.func17 h
def L18:Y1:=
fun a b c d=>
aa .ptr .eql b (.pointer none) fun e=>
lO e (fun e=>
lM 7 b c fun f=>
aA f fun f=>
lE f (iv 0) fun f=>
(lV c f e)) fun e=>
Br (Value.bool e) (
rt d (tP (iv 0) (iv 10)) c) (
lM 7 b c fun e=>
aA e fun e=>
lS e (iv 1) fun e=>
lM 7 b c fun f=>
lI 1 f e c fun f=>
CR d a 59 #[b,f] c fun _ a=>
lM 7 b a fun c=>
di 1 c none (some e) fun c=>
lC 7 b fun b=>
St 1 a b c fun a=>
rt d (tP f (iv 0)) a)
theorem F5(h:L18 g a0 H R):sc g 18 #[a0] H R:=
  sd (.n .e (.n (.n (.h 0 [] [1] .e .e) .e) .e)) Tryz.func18 h
variable {g:Gh} {a0 a1 a2 a3 a4 a5 a6 a7 a8 a9 p5 pZ Sb Sa R9 R8:Value} {H:Hp} {R:Rt}
def L24:Y0:=
fun a b c=>
CR c a 69 #[] b fun b d=>
an Tryz.prog 28 1 [(0,b)] d fun b d=>
CR c a 26 #[b] d fun b d=>
lX b fun e f=>
Ext 2 b fun b=>
CR c a 69 #[] d fun d g=>
an Tryz.prog 28 1 [(0,d)] g fun d g=>
CR c a 27 #[d,(wi 4)] g fun d g=>
lX d fun d h=>
∀i:Jt,(∀j:Value,∀k:Hp,(∀_:Fr,
rt c j k)→i [j] k)→
lE e (iv 3) fun e=>
Split e true (
an Tryz.prog 25 3 [(0,(iv 0)),(1,(iv 1)),(2,(iv 2))] g fun e j=>
CR c a 37 #[f,e] j fun a c=>
ay vT a vF fun a=>
Split a true (
lE b (iv 0) fun a=>
ay vT a vF fun a=>
Split a true (
lE d (iv 4) fun a=>
ay vT a vF fun a=>
Split a true (
lE h (iv 0) fun a=>
ay vT a vF fun a=>
JE i [a] c) (
ay vF undef vF fun a=>
JE i [a] c)) (
ay vF undef vF fun a=>
ay a undef vF fun a=>
JE i [a] c)) (
ay vF undef vF fun a=>
ay a undef vF fun a=>
ay a undef vF fun a=>
JE i [a] c)) (
ay vF undef vF fun a=>
ay a undef vF fun a=>
ay a undef vF fun a=>
ay a undef vF fun a=>
JE i [a] g)
theorem F0(h:L24 g H R):sc g 24 #[] H R:=
  sd (hN 3 (.h 1 [0] [] .e .e)) Tryz.func24 h
def L25:Y1:=
fun a b c d=>
lW c #[(iv 0),(iv 0),(iv 0),vF] 42 fun c e=>
aa .ptr .eql b (.pointer none) fun f=>
Br f (
Build Tryz.prog 42 [] fun f=>
St 4 e (pt c) f fun f=>
av 4 f (pt c) fun g=>
rt d (tP g (iv 10)) f) (
CR d a 61 #[b] e fun e f=>
lG e (iv 12) fun e=>
Br e (
Build Tryz.prog 42 [] fun e=>
St 4 f (pt c) e fun e=>
av 4 e (pt c) fun g=>
rt d (tP g (iv 6)) e) (
CR d a 70 #[b] f fun e f=>
aA e fun g=>
∃(h:Jt) (i:Mt),JE h [(.slice none 0 0),(iv 0)] f∧∀f j:Value,∀k:Hp,h [f,j] k→∀_:Fr,
lL j g fun g=>
Br g (
lI 1 e j k fun e=>
CR d a 71 #[b,e] k fun e g=>
lX e fun e _=>
lQ 2 g #[(iv 0),(.slice none 0 0)] 57 e fun e g=>
av 2 g (pt e) fun e=>
an Tryz.prog 28 1 [(0,e)] g fun e g=>
App Tryz.prog 57 2 32 (.agg #[(iv 0),(.slice none 0 0)]) g f e fun e g=>
lA j (iv 1) fun l=>
aq h i [e,l] g [f,j] k) (
CR d a 15 #[b] k fun e g=>
CR d a 26 #[f] g fun f g=>
lX f fun h i=>
Ext 2 f fun _=>
lE e h fun f=>
Br f (
Build Tryz.prog 42 [(0,e),(1,e),(3,vT)] fun f=>
St 4 g (pt c) f fun f=>
av 4 f (pt c) fun h=>
rt d (tP h (iv 0)) f) (
CR d a 42 #[b,i] g fun f g=>
lX f fun f h=>
CR d a 15 #[b] g fun a b=>
lE h (iv 0) fun g=>
Build Tryz.prog 42 [(0,e),(1,a),(2,f),(3,g)] fun a=>
St 4 b (pt c) a fun a=>
av 4 a (pt c) fun b=>
rt d (tP b (iv 0)) a))))
theorem FZ(h:L25 g a0 H R):sc g 25 #[a0] H R:=
  sd (hN 4 (.n (.n .e (.n (.h 0 [4,25] [0,2,23,24] .e .e) .e)) .e)) Tryz.func25 h
def L26:Y1:=
fun a b c d=>
CR d a 72 #[b] c fun b c=>
lX b fun b e=>
lN e (iv 0) fun f=>
Br f (
rt d (.tuple #[(iv 0),(.slice none 0 0),e]) c) (
lM 1 b c fun e=>
lG e (iv 12) fun e=>
Br e (
rt d (.tuple #[(iv 0),(.slice none 0 0),(iv 6)]) c) (
∃(e:Jt) (f:Mt),JE e [(.slice none 0 0),(iv 0)] c∧∀c g:Value,∀h:Hp,e [c,g] h→∀_:Fr,
aA c fun i=>
lM 1 b h fun j=>
lL i j fun i=>
Br i (
lM 1 b h fun i=>
∃(j:Jt) (k:Mt),JE j [c,g,(iv 0)] h∧∀l m n:Value,∀o:Hp,j [l,m,n] o→∀_:Fr,
lL n i fun i=>
Br i (
∀i:Jt,(∀p:Value,∀q:Hp,(∀_:Fr,
Br p (
an Tryz.prog 25 1 [(0,n)] q fun r s=>
App Tryz.prog 3 1 8 (iv 0) s l r fun r s=>
aa .num .shl (iv 1) n fun t=>
aa .num .or m t fun t=>
aq e f [r,t] s [c,g] h) (
lA n (iv 1) fun r=>
aq j k [l,m,r] q [l,m,n] o))→i [p] q)→
DR o fun _=>
aa .num .shr m n fun j=>
aa .num .and j (iv 1) fun j=>
lE j (iv 0) fun j=>
Br j (
aa .num .shl (iv 1) n fun j=>
aa .num .or m j fun j=>
∀k:Hp,
CN (a.add k) 73 #[b,m,n] o fun k n=>
∀p:Hp,
CN (a.add p) 74 #[b,j] n fun j n=>
lA k j fun j=>
∀k:Hp,
CN (a.add k) 74 #[b,m] n fun k n=>
lE j k fun j=>
ay vT j vF fun j=>
JE i [j] n) (
JE i [vF] o)) (
aq e f [l,m] o [c,g] h)) (
CR d a 74 #[b,(iv 0)] h fun a b=>
rt d (.tuple #[a,c,(iv 0)]) b)))
theorem FY(h:L26 g a0 H R):sc g 26 #[a0] H R:=
  sd (hN 6 (.n (.n (.h 0 [7,8] [5] (.n .e (.n (.n .e (.n (.h 0 [7,8,34] [5,33] (.n .e (.n .e (.n (.n (.n .e (.h 1 [58] [5,7,8,9,33,34] (.h 1 [] [] (hr 0 [] 0 5 (.h 2 [5] [] (hr 0 [] 6 3 (hr 0 [] 10 5 (hr 0 [] 17 2 (.h 0 [9] [] (hr 0 [] 15 2 (hr 0 [] 19 3 .e)) .e)))) (hr 0 [] 6 15 (.h 3 [21] [] .e .e)))) .e) .e)) .e) .e))) .e) .e)) .e)) .e) .e) .e)) Tryz.func26 h
def L27:Y2:=
fun a b c d e=>
CR e a 72 #[b] d fun b d=>
lX b fun b f=>
lN f (iv 0) fun g=>
Br g (
rt e (tP (iv 0) f) d) (
DR d fun f=>
lM 1 b f fun g=>
CN a 75 #[c] d fun d h=>
aJ h f∧
lG d g fun d=>
Br d (
rt e (tP (iv 0) (iv 2)) h) (
lM 1 b h fun d=>
lG d (iv 12) fun d=>
Br d (
rt e (tP (iv 0) (iv 6)) h) (
lM 2 b h fun d=>
bf .u64 d fun d=>
aa .num .and c d fun c=>
CR e a 76 #[] h fun d f=>
CR e a 77 #[d,(iv 0),(iv 0)] f fun _ f=>
mD f fun f g=>
∃(h:Jt) (i:Mt),JE h [] g∧∀g:Hp,h [] g→∀_:Fr,
CR e a 78 #[d] g fun j k=>
lX j fun l m=>
Ext 2 j fun _=>
bf .i64 c fun j=>
lE l j fun j=>
Br j (
CR e a 74 #[b,l] k fun j n=>
lA m j fun j=>
rt e (tP j (iv 0)) n) (
ez (.int .i64) k f l (iv 1) fun j=>
lM 1 b j fun k=>
∃(n:Jt) (o:Mt),JE n [(iv 0)] j∧∀j:Value,∀p:Hp,n [j] p→∀_:Fr,
lL j k fun k=>
Br k (
∀k:Jt,(∀q:Hp,(∀_:Fr,
lA j (iv 1) fun r=>
aq n o [r] q [j] p)→k [] q)→
aa .num .shl (iv 1) j fun n=>
aa .num .or l n fun n=>
lE n l fun o=>
lO o (fun o=>
aa .num .shr c j fun c=>
aa .num .and c (wi 1) fun c=>
lE c (wi 0) fun c=>
(lV p c o)) fun o=>
lO (Value.bool o) (fun c=>
jY (.int .i64) (iv 0) false p f n fun f=>
lG f (iv 0) fun f=>
(lV p f c)) fun c=>
Br (Value.bool c) (
JE k [] p) (
CR e a 73 #[b,l,j] p fun b c=>
lA m b fun b=>
CR e a 79 #[d,n] c fun c f=>
lX c fun c j=>
lN j (iv 0) fun j=>
Br j (
CR e a 77 #[d,n,b] f fun _ j=>
JE k [] j) (
lL b c fun c=>
Br c (
CR e a 80 #[d,n,b] f fun _ a=>
JE k [] a) (
JE k [] f)))) (
aq h i [] p [] g)))))
theorem FX(h:L27 g a0 a1 H R):sc g 27 #[a0,a1] H R:=
  sd (.n .e (.n .e (.n (.n (.n .e (.n .e (.n (.h 0 [0,2,3,4,5,1,6,7] [] .e .e) .e))) .e) (hN 4 (.n (.h 0 [] [1,6,8,9] (.n (hN 4 (.n (.h 0 [73] [1,6,8,9,10,11,72] (.n .e (.n .e (.h 1 [] [1,6,8,9,10,11,72,73] (.n (.n .e (.n .e (.n (.n (.h 0 [] [1] .e .e) .e) .e))) .e) .e))) .e) .e)) .e) .e) .e))))) Tryz.func27 h
def L28:Y1:=
fun a b c d=>
dP c (.cells (Value.cells b) 57 (0,0)) fun b c=>
∀e:Jt,(∀f:Value,∀g:Hp,(∀_:Fr,
Br f (
rt d vF g) (
lD 0 (pt b) g fun h=>
aa .num .geq h (iv 6) fun h=>
lO h (fun h=>
lD 1 (pt b) g fun i=>
lI 1 i (iv 0) g fun i=>
lD 0 (pt b) g fun j=>
aa .num .shl (wi 1) j fun j=>
aa .num .shr i j fun i=>
lE i (wi 0) fun i=>
(lV g i h)) fun h=>
rt d (Value.bool h) g))→e [f] g)→
DR c fun d=>
lD 0 (pt b) d fun f=>
lL f (iv 0) fun f=>
Br f (
JE e [vT] c) (
lD 0 (pt b) d fun f=>
lG f (iv 16) fun f=>
ay vF vT f fun f=>
Br f (
JE e [vT] c) (
lD 1 (pt b) d fun f=>
aA f fun f=>
lD 0 (pt b) d fun b=>
∀g:Hp,
CN (a.add g) 81 #[b] c fun a b=>
aJ b d∧
lN f a fun a=>
ay vF vT a fun a=>
JE e [a] b))
theorem FW(h:L28 g a0 H R):sc g 28 #[a0] H R:=
  sd (.n .e (.n (.h 1 [19] [1] (.h 1 [] [] (hr 0 [] 0 3 (.h 2 [3] [] (hr 0 [] 4 3 (hr 3 [] 7 2 (hr 0 [] 9 7 (.h 3 [16] [] .e .e)))) (hr 0 [] 4 4 (.h 2 [8] [] (hr 0 [] 9 7 (.h 3 [16] [] .e .e)) (hr 0 [] 9 8 .e))))) .e) .e) .e)) Tryz.func28 h
def L30:Y1:=
fun a b c d=>
dP c (.cells (Value.cells b) 62 (0,0)) fun b c=>
lD 0 (pt b) c fun e=>
lL e (iv 1) fun e=>
lO e (fun e=>
lD 0 (pt b) c fun f=>
lG f (iv 8) fun f=>
(lV c f e)) fun e=>
lO (Value.bool e) (fun e=>
lD 1 (pt b) c fun f=>
lL f (iv 2) fun f=>
(lV c f e)) fun e=>
lO (Value.bool e) (fun e=>
lD 1 (pt b) c fun f=>
lG f (iv 1048576) fun f=>
(lV c f e)) fun e=>
lO (Value.bool e) (fun e=>
lD 2 (pt b) c fun f=>
aA f fun f=>
lG f (iv 40) fun f=>
(lV c f e)) fun e=>
lO (Value.bool e) (fun e=>
lD 3 (pt b) c fun f=>
aA f fun f=>
lG f (iv 200) fun f=>
(lV c f e)) fun e=>
Br (Value.bool e) (
rt d vF c) (
lD 2 (pt b) c fun e=>
aA e fun f=>
∃(g:Jt) (h:Mt),JE g [(iv 0)] c∧∀c:Value,∀i:Hp,g [c] i→∀_:Fr,
lL c f fun f=>
Br f (
aj 2 e c fun e=>
av 2 i e fun e=>
lQ 2 i #[(iv 0),(.slice none 0 0)] 57 e fun e f=>
∀j:Jt,(∀k:Value,∀l:Hp,(∀_:Fr,
Br k (
rt d vF l) (
lA c (iv 1) fun m=>
aq g h [m] l [c] i))→j [k] l)→
lD 0 (pt e) f fun c=>
lD 0 (pt b) f fun b=>
lN c b fun b=>
Split b false (
av 2 f (pt e) fun b=>
CR d a 28 #[b] f fun a b=>
Un .not a fun a=>
ay vF vT a fun a=>
JE j [a] b) (
ay vT vT undef fun a=>
JE j [a] f)) (
rt d vT i))
theorem FV(h:L30 g a0 H R):sc g 30 #[a0] H R:=
  sd (.n .e (.n (.n (.h 0 [] [1] .e .e) .e) (.n (.n .e (.n (.h 0 [38] [1,36,37] (.n .e (.n .e (.n (.n (.n .e (.h 1 [51] [1,36,37,38] .e .e)) .e) .e))) .e) .e)) .e))) Tryz.func30 h
def L31:Y1:=
fun a b c d=>
dP c (.cells (Value.cells b) 62 (0,0)) fun b c=>
lD 0 (pt b) c fun e=>
lD 1 (pt b) c fun f=>
CR d a 51 #[e,f] c fun c e=>
lX c fun c f=>
lN f (iv 0) fun f=>
lO f (fun f=>
aa .ptr .eql c (.pointer none) fun g=>
(lV e g f)) fun f=>
Br (Value.bool f) (
rt d (tP (.pointer none) vF) e) (
lD 0 (pt b) e fun f=>
lD 1 (pt b) e fun g=>
CR d a 82 #[f,g] e fun e f=>
Build Tryz.prog 68 [(0,c),(1,e)] fun e=>
dP f (.cells (Value.cells e) 68 (0,0)) fun e f=>
lD 2 (pt b) f fun g=>
aA g fun h=>
∃(i:Jt) (j:Mt),JE i [(iv 0)] f∧∀f:Value,∀k:Hp,i [f] k→∀_:Fr,
lL f h fun h=>
Br h (
aj 2 g f fun g=>
av 2 k g fun g=>
lQ 2 k #[(iv 0),(.slice none 0 0)] 57 g fun g h=>
av 2 h (pt g) fun l=>
CR d a 83 #[c,l,(iv 0)] h fun h l=>
lX h fun h m=>
DR l fun n=>
lM 1 (pt e) n fun o=>
av 2 n (pt g) fun n=>
∀p:Hp,
CN (a.add p) 84 #[o,n] l fun l n=>
lE m (iv 0) fun o=>
lE l (iv 0) fun l=>
aa .bool .neq o l fun l=>
Br l (
rt d (tP (.pointer none) vF) n) (
∀l:Jt,(∀o:Value,∀p:Hp,(∀_:Fr,
Br o (
rt d (tP (.pointer none) vF) p) (
lA f (iv 1) fun q=>
aq i j [q] p [f] k))→l [o] p)→
lE m (iv 0) fun f=>
Split f true (
av 2 n (pt g) fun f=>
CR d a 85 #[(pt e),h,f] n fun f g=>
Un .not f fun f=>
ay vT f vF fun f=>
JE l [f] g) (
ay vF undef vF fun f=>
JE l [f] n))) (
lD 3 (pt b) k fun b=>
aA b fun f=>
∃(g:Jt) (h:Mt),JE g [(iv 0)] k∧∀i:Value,∀j:Hp,g [i] j→∀_:Fr,
lL i f fun f=>
Br f (
lI 1 b i j fun b=>
DR j fun f=>
lM 1 (pt e) f fun k=>
∀l:Hp,
CN (a.add l) 17 #[c,b] j fun c l=>
aJ l f∧
∀f:Hp,
CN (a.add f) 86 #[k,b] l fun a b=>
lN c a fun a=>
Br a (
rt d (tP (.pointer none) vF) b) (
lA i (iv 1) fun a=>
aq g h [a] b [i] j)) (
rt d (tP (pt e) vT) j)))
theorem FU(h:L31 g a0 H R):sc g 31 #[a0] H R:=
  sd (.n .e (.n .e (.n (.n (.h 0 [] [1] .e .e) .e) (.n .e (.n (.n .e (.n (.h 0 [39] [1,4,6,37,38] (.n .e (.n .e (.n (.n (.n .e (.n .e (.n (.h 1 [] [] (hr 0 [1] 0 7 .e) .e) (.n .e (.h 1 [68] [1,4,6,37,38,39] .e .e))))) .e) .e))) .e) .e)) (.n (.n .e (.n (.h 0 [73] [4,6,71,72] (.n .e (.n .e (.n (.n (.n .e (.n (.h 1 [] [] (hr 0 [1] 0 2 (hr 0 [1] 3 5 (.h 0 [2] [1] (hr 0 [1] 8 2 .e) .e))) .e) .e)) .e) .e))) .e) .e)) .e)))))) Tryz.func31 h
def L32:Y1:=
fun a b c d=>
lW c #[(iv 0),(iv 0),(iv 0),vF] 69 fun c e=>
lM 0 b e fun f=>
lG f (iv 12) fun f=>
Br f (
Build Tryz.prog 69 [] fun f=>
St 4 e (pt c) f fun f=>
av 4 f (pt c) fun g=>
rt d (tP g (iv 6)) f) (
CR d a 87 #[b] e fun e f=>
CR d a 88 #[b] f fun f g=>
aA f fun h=>
lE h (iv 0) fun h=>
Br h (
Build Tryz.prog 69 [(0,(iv 0)),(1,(iv 0)),(2,(iv 0)),(3,vT)] fun h=>
St 4 g (pt c) h fun h=>
av 4 h (pt c) fun i=>
rt d (tP i (iv 0)) h) (
CR d a 89 #[f] g fun f g=>
lX f fun h i=>
Ext 2 f fun _=>
lE e h fun f=>
Br f (
Build Tryz.prog 69 [(0,e),(1,e),(2,(iv 0)),(3,vT)] fun f=>
St 4 g (pt c) f fun f=>
av 4 f (pt c) fun j=>
rt d (tP j (iv 0)) f) (
lM 4 b g fun f=>
aA f fun f=>
aA i fun j=>
∃(k:Jt) (l:Mt),JE k [(iv 0),(iv 0)] g∧∀g m:Value,∀n:Hp,k [g,m] n→∀_:Fr,
lL m j fun j=>
Br j (
lI 1 i m n fun i=>
∃(j:Jt) (o:Mt),JE j [g] n∧∀p:Value,∀q:Hp,j [p] q→∀_:Fr,
CR d a 90 #[b,i] q fun r s=>
lG r m fun r=>
Br r (
CR d a 90 #[b,i] s fun i r=>
lS i (iv 1) fun i=>
CR d a 86 #[b,i] r fun i r=>
lN i (iv 0) fun i=>
Br i (
CR d a 91 #[b,f] r fun a b=>
lA p a fun a=>
Build Tryz.prog 69 [(0,e),(1,e),(2,a),(3,vF)] fun a=>
St 4 b (pt c) a fun a=>
av 4 a (pt c) fun b=>
rt d (tP b (iv 0)) a) (
lA p (iv 1) fun a=>
aq j o [a] r [p] q)) (
lA m (iv 1) fun a=>
aq k l [p,a] s [g,m] n)) (
Build Tryz.prog 69 [(0,e),(1,h),(2,g),(3,vT)] fun a=>
St 4 n (pt c) a fun a=>
av 4 a (pt c) fun b=>
rt d (tP b (iv 0)) a))))
theorem FR(h:L32 g a0 H R):sc g 32 #[a0] H R:=
  sd (hN 8 (.n (.n .e (.n (.h 0 [10,46] [0,2,4,6,9,44,45] (.n .e (.n .e (.n (.n (.n .e (.n (.h 0 [10] [0,2,4,6,9,11,12,44,45,46] .e .e) .e)) .e) .e))) .e) .e)) .e)) Tryz.func32 h
def L33:Y1:=
fun a b c d=>
∀e:Jt,(∀f:Value,∀g:Hp,(∀_:Fr,
Br f (
rt d vF g) (
lM 1 b g fun h=>
lM 0 h g fun h=>
∃(i:Jt) (j:Mt),JE i [(iv 0)] g∧∀k:Value,∀l:Hp,i [k] l→∀_:Fr,
lL k h fun h=>
Br h (
lM 0 b l fun h=>
CR d a 93 #[h,k] l fun h m=>
lX h fun h n=>
∀o:Jt,(∀p:Value,∀q:Hp,(∀_:Fr,
Br p (
rt d vF q) (
lA k (iv 1) fun r=>
aq i j [r] q [k] l))→o [p] q)→
lN n (iv 0) fun i=>
Split i false (
lM 1 b m fun i=>
CR d a 94 #[i,k] m fun i j=>
lN h i fun h=>
ay vF vT h fun h=>
JE o [h] j) (
ay vT vT undef fun h=>
JE o [h] m)) (
lM 2 b l fun h=>
aA h fun i=>
∃(j:Jt) (k:Mt),JE j [(iv 0)] l∧∀l:Value,∀m:Hp,j [l] m→∀_:Fr,
lL l i fun i=>
Br i (
lI 1 h l m fun h=>
DR m fun i=>
lM 0 b i fun n=>
lM 1 b i fun o=>
lM 0 o i fun o=>
∀p:Hp,
CN (a.add p) 35 #[n,o,h] m fun n o=>
aJ o i∧
lX n fun n p=>
lW o #[(iv 0),(.slice none 0 0)] 57 fun o q=>
∀_:Hp,
St 2 q (pt o) n fun n=>
aJ n i∧
∀i:Jt,(∀q:Value,∀r:Hp,(∀_:Fr,
Br q (
rt d vF r) (
lA l (iv 1) fun s=>
aq j k [s] r [l] m))→i [q] r)→
DR n fun j=>
Un .not p fun k=>
Br k (
JE i [vT] n) (
av 2 j (pt o) fun k=>
lM 3 b j fun o=>
aj 2 o l fun o=>
av 2 j o fun o=>
∀p:Hp,
CN (a.add p) 36 #[k,o] n fun k n=>
aJ n j∧
Un .not k fun k=>
ay vF vT k fun k=>
Br k (
JE i [vT] n) (
lM 0 b j fun k=>
lM 1 b j fun o=>
lM 3 b j fun p=>
aj 2 p l fun l=>
av 2 j l fun l=>
∀p:Hp,
CN (a.add p) 95 #[k,h] n fun h k=>
aJ k j∧
∀j:Hp,
CN (a.add j) 96 #[o,l] k fun j k=>
lN h j fun h=>
ay vF vT h fun h=>
JE i [h] k))) (
rt d vT m))))→e [f] g)→
DR c fun d=>
lM 0 b d fun f=>
lM 1 b d fun g=>
lM 2 g d fun g=>
∀h:Hp,
CN (a.add h) 13 #[f] c fun c f=>
aJ f d∧
∀h:Hp,
CN (a.add h) 92 #[c,g] f fun c f=>
aJ f d∧
Un .not c fun c=>
Br c (
JE e [vT] f) (
lM 0 b d fun c=>
lM 1 b d fun g=>
∀h:Hp,
CN (a.add h) 15 #[c] f fun c f=>
aJ f d∧
∀h:Hp,
CN (a.add h) 87 #[g] f fun f g=>
aJ g d∧
lN c f fun c=>
ay vF vT c fun c=>
Br c (
JE e [vT] g) (
lM 0 b d fun c=>
lM 1 b d fun b=>
lM 3 b d fun b=>
aA b fun b=>
∀f:Hp,
CN (a.add f) 70 #[c] g fun a c=>
aJ c d∧
aA a fun a=>
lN a b fun a=>
ay vF vT a fun a=>
JE e [a] c))
theorem FQ(h:L33 g a0 H R):sc g 33 #[a0] H R:=
  sd (.n .e (.n (.h 1 [53] [0] (.h 1 [] [] (hr 0 [1] 0 4 (hr 0 [1] 5 7 (.h 0 [4] [1] (hr 0 [1] 12 2 (.h 2 [14] [] (hr 0 [1] 15 11 (hr 3 [1] 26 2 (hr 0 [1] 28 15 (.h 3 [43] [1] .e .e)))) (hr 0 [1] 15 4 (hr 0 [1] 20 4 (.h 0 [19] [1] (hr 0 [1] 24 3 (.h 2 [27] [] (hr 0 [1] 28 15 (.h 3 [43] [1] .e .e)) (hr 0 [1] 28 4 (hr 0 [1] 34 8 (hr 0 [1] 32 2 (hr 0 [1] 42 2 .e)))))) .e))))) .e))) .e) .e) (.n (.n .e (.n (.h 0 [61] [0,60] (.n .e (.n .e (.n (.n (.n .e (.n .e (.h 1 [84] [0,60,61] .e .e))) .e) .e))) .e) .e)) (.n (.n .e (.n (.h 0 [91] [0,89,90] (.n .e (.n .e (.n (.n (.n .e (.n (.h 1 [] [] (hr 0 [1] 0 12 (.h 1 [16] [1] (hr 0 [1] 12 7 .e) .e)) .e) (.h 1 [146] [0,89,90,91] (.h 1 [] [] (hr 0 [1] 0 2 (.h 2 [2] [] (hr 0 [1] 3 10 (hr 3 [1] 13 2 (hr 0 [1] 15 19 (.h 3 [34] [1] .e .e)))) (hr 0 [1] 3 11 (.h 2 [14] [] (hr 0 [1] 15 19 (.h 3 [34] [1] .e .e)) (hr 0 [1] 15 5 (hr 0 [1] 21 11 (.h 0 [20] [1] (hr 0 [1] 32 3 .e) .e))))))) .e) .e))) .e) .e))) .e) .e)) .e)))) Tryz.func33 h
def L34:Y1:=
fun _ a b c=>
aa .ptr .eql a (.pointer none) fun d=>
Br d (
rt c (iv 0) b) (
lM 7 a b fun a=>
aA a fun a=>
rt c a b)
theorem FP(h:L34 g a0 H R):sc g 34 #[a0] H R:=
  sd .e Tryz.func34 h
def L35:Y3:=
fun a b c d e f=>
lW e #[(iv 0),(.slice none 0 0)] 57 fun e g=>
aa .num .shl (iv 1) c fun h=>
br 4 1 1 vF g h h fun g h=>
aA g fun i=>
∃(j:Jt) (k:Mt),JE j [(iv 0)] h∧∀h:Value,∀l:Hp,j [h] l→∀_:Fr,
lL h i fun i=>
Br i (
∃(i:Jt) (m:Mt),JE i [d,(iv 0)] l∧∀d n:Value,∀o:Hp,i [d,n] o→∀_:Fr,
lN d (ui 0) fun p=>
lU p (fun p=>
lN d (ui 1) fun q=>
(lV o q p)) fun p=>
Br (Value.bool p) (
∀p:Jt,(∀q:Value,∀r:Hp,(∀_:Fr,
lA n (iv 1) fun s=>
aq i m [q,s] r [d,n] o)→p [q] r)→
CR f a 97 #[b,d] o fun b i=>
lX b fun b m=>
lQ 3 i #[(iv 0),(ui 0),(ui 0)] 161 b fun b i=>
lN m (iv 0) fun m=>
lO m (fun m=>
lG n c fun n=>
(lV i n m)) fun m=>
lO (Value.bool m) (fun m=>
lD 0 (pt b) i fun n=>
lL n (iv 0) fun n=>
(lV i n m)) fun m=>
lO (Value.bool m) (fun m=>
lD 0 (pt b) i fun n=>
aa .num .geq n c fun n=>
(lV i n m)) fun m=>
Br (Value.bool m) (
Build Tryz.prog 57 [] fun m=>
St 2 i (pt e) m fun m=>
av 2 m (pt e) fun n=>
rt f (tP n vF) m) (
lD 1 (pt b) i fun m=>
lD 0 (pt b) i fun n=>
aa .num .shr h n fun n=>
aa .num .rem n (iv 2) fun n=>
lE n (iv 1) fun n=>
Br n (
lD 2 (pt b) i fun b=>
JE p [b] i) (
JE p [m] i))) (
lE d (ui 1) fun b=>
aj 1 g h fun d=>
St 1 o d b fun b=>
lA h (iv 1) fun d=>
aq j k [d] b [h] l)) (
CR f a 98 #[c,g] l fun a b=>
St 2 b (pt e) a fun a=>
av 2 a (pt e) fun b=>
rt f (tP b vT) a)
theorem FO(h:L35 g a0 a1 a2 H R):sc g 35 #[a0,a1,a2] H R:=
  sd (.n .e (.n .e (.n (.n .e (.n (.h 0 [19] [0,1,2,6,8,18] (.n .e (.n .e (.n (.n (.n .e (.n .e (.n (.n .e (.n (.h 0 [10,11] [0,1,2,6,8,9,18,19] (.n (.n (.h 0 [] [1] .e .e) .e) (.h 1 [10] [0,1,2,6,8,9,11,18,19] (.n (.n .e (.n (.n (.h 0 [] [1] .e .e) .e) .e)) .e) .e)) .e) .e)) .e))) .e) .e))) .e) .e)) .e))) Tryz.func35 h
def L36:Y2:=
fun _ a b c d=>
dP c (.cells (Value.cells a) 57 (0,0)) fun a c=>
dP c (.cells (Value.cells b) 57 (0,0)) fun b c=>
lD 0 (pt a) c fun e=>
lD 0 (pt b) c fun f=>
lN e f fun e=>
lO e (fun e=>
lD 1 (pt a) c fun f=>
aA f fun f=>
lD 1 (pt b) c fun g=>
aA g fun g=>
lN f g fun f=>
(lV c f e)) fun e=>
Br (Value.bool e) (
rt d vF c) (
∃(e:Jt) (f:Mt),JE e [(iv 0)] c∧∀c:Value,∀g:Hp,e [c] g→∀_:Fr,
lD 1 (pt a) g fun h=>
aA h fun h=>
lL c h fun h=>
Br h (
lD 1 (pt a) g fun a=>
lI 1 a c g fun a=>
lD 1 (pt b) g fun b=>
lI 1 b c g fun b=>
lN a b fun a=>
Br a (
rt d vF g) (
lA c (iv 1) fun a=>
aq e f [a] g [c] g)) (
rt d vT g))
theorem FN(h:L36 g a0 a1 H R):sc g 36 #[a0,a1] H R:=
  sd (.n .e (.n (.n (.h 0 [] [1] .e .e) .e) (.n (.n .e (.n (.h 0 [5] [2,3] .e .e) .e)) .e))) Tryz.func36 h
def L37:Y2:=
fun _ a b c d=>
aA a fun e=>
aA b fun f=>
lN e f fun e=>
Br e (
rt d vF c) (
aA a fun e=>
∃(f:Jt) (g:Mt),JE f [(iv 0)] c∧∀c:Value,∀h:Hp,f [c] h→∀_:Fr,
lL c e fun e=>
Br e (
lI 1 a c h fun a=>
lI 1 b c h fun b=>
lN a b fun a=>
Br a (
rt d vF h) (
lA c (iv 1) fun a=>
aq f g [a] h [c] h)) (
rt d vT h))
theorem FM(h:L37 g a0 a1 H R):sc g 37 #[a0,a1] H R:=
  sd (.n .e (.n .e (.n (.n .e (.n (.h 0 [13] [0,1,12] .e .e) .e)) .e))) Tryz.func37 h
def L42:Y2:=
fun a b c d e=>
aa .ptr .eql b (.pointer none) fun f=>
Br f (
rt e (tP (iv 0) (iv 10)) d) (
∀f:Jt,(∀g:Value,∀h:Hp,(∀_:Fr,
Br g (
rt e (tP (iv 0) (iv 4)) h) (
CR e a 13 #[b] h fun i j=>
CR e a 102 #[i,c] j fun i j=>
lX i fun i k=>
lN k (iv 0) fun l=>
Br l (
rt e (tP (iv 0) k) j) (
CR e a 103 #[b,i] j fun i j=>
lX i fun i k=>
rt e (tP i k) j)))→f [g] h)→
CR e a 101 #[c] d fun d g=>
lN d (iv 0) fun d=>
Split d false (
aA c fun c=>
CR e a 61 #[b] g fun a b=>
lN c a fun a=>
ay vF vT a fun a=>
JE f [a] b) (
ay vT vT undef fun a=>
JE f [a] g))
theorem FL(h:L42 g a0 a1 H R):sc g 42 #[a0,a1] H R:=
  sd (.n .e (.n .e (.n (.h 1 [19] [0,1] .e .e) .e))) Tryz.func42 h
def L51:Y2:=
fun a b c d e=>
CR e a 116 #[b] d fun d f=>
lX d fun d g=>
lN g (iv 0) fun g=>
lO g (fun g=>
lL b (iv 1) fun h=>
(lV f h g)) fun g=>
lO (Value.bool g) (fun g=>
lL c (iv 2) fun h=>
(lV f h g)) fun g=>
lO (Value.bool g) (fun g=>
lG c (iv 1048576) fun h=>
(lV f h g)) fun g=>
Br (Value.bool g) (
rt e (tP (.pointer none) (iv 1)) f) (
CR e a 117 #[b] f fun f g=>
lX f fun f h=>
lN h (iv 0) fun i=>
Br i (
rt e (tP (.pointer none) h) g) (
CR e a 118 #[c,f] g fun c f=>
lX c fun c g=>
lQ 4 f #[(.pointer none),(.pointer none),(.slice none 0 0),(.slice none 0 0)] 115 c fun c f=>
lN g (iv 0) fun h=>
Br h (
rt e (tP (.pointer none) g) f) (
DR f fun g=>
av 4 g (pt c) fun c=>
CN a 57 #[d] f fun a f=>
aJ f g∧
Build Tryz.prog 117 [(0,c),(1,b),(2,d),(3,a)] fun a=>
dP f (.cells (Value.cells a) 117 (0,0)) fun a b=>
aJ b g∧
rt e (tP (pt a) (iv 0)) b)))
theorem FK(h:L51 g a0 a1 H R):sc g 51 #[a0,a1] H R:=
  sd (.n .e (.n .e (.n (.n (.h 0 [] [1] .e .e) .e) (hN 4 (.n (.h 0 [0,1,2,3,4,5,6,7,8] [] .e .e) .e))))) Tryz.func51 h
variable {g:Gh} {a0 a1 a2 a3 a4 a5 a6 a7 a8 a9 p5 pZ Sb Sa R9 R8:Value} {H:Hp} {R:Rt}
def L57:Y1:=
fun _ a b c=>
aa .slice .eql a (.slice none 0 0) fun d=>
Br d (
rt c (.slice none 0 0) b) (
an Tryz.prog 25 0 [] b fun b d=>
App Tryz.prog 3 1 8 (iv 0) d b a fun a b=>
rt c a b)
theorem FJ(h:L57 g a0 H R):sc g 57 #[a0] H R:=
  sd .e Tryz.func57 h
def L58:Y1:=
fun _ a b c=>
aa .ptr .eql a (.pointer none) fun d=>
Br d (
rt c (iv 0) b) (
lM 3 a b fun a=>
rt c a b)
theorem FI(h:L58 g a0 H R):sc g 58 #[a0] H R:=
  sd .e Tryz.func58 h
def L59:Y2:=
fun a b c d e=>
lM 5 b d fun f=>
lI 1 f c d fun f=>
lM 5 b d fun g=>
lA c (iv 1) fun h=>
lI 1 g h d fun g=>
CR e a 134 #[b,f,g] d fun d h=>
DR h fun _=>
lC 0 b fun i=>
CN a 136 #[b,f,d] h fun h j=>
CN a 135 #[i,h] j fun h i=>
Un .not h fun h=>
Br h (
rt e vF i) (
aA d fun h=>
∃(j:Jt) (k:Mt),JE j [(iv 0)] i∧∀i:Value,∀l:Hp,j [i] l→∀_:Fr,
lL i h fun h=>
Br h (
aj 8 d i fun h=>
av 8 l h fun h=>
lQ 8 l #[(ui 0),(iv 0),(ui 0),(ui 0),(ui 0),(ui 0),(ui 0),(ui 0)] 203 h fun h m=>
DR m fun n=>
lC 0 b fun o=>
ag 1 o fun o=>
Ld n o fun o=>
ag 1 (pt h) fun h=>
av 3 n h fun h=>
CN a 137 #[o,h] m fun _ h=>
lA i (iv 1) fun m=>
aq j k [m] h [i] l) (
aA d fun h=>
∃(i:Jt) (j:Mt),JE i [(iv 0)] l∧∀k:Value,∀l:Hp,i [k] l→∀_:Fr,
lL k h fun h=>
Br h (
aj 8 d k fun h=>
av 8 l h fun h=>
lQ 8 l #[(ui 0),(iv 0),(ui 0),(ui 0),(ui 0),(ui 0),(ui 0),(ui 0)] 203 h fun h m=>
DR m fun n=>
lC 0 b fun o=>
lD 4 (pt h) n fun p=>
lD 6 (pt h) n fun n=>
CN a 138 #[o,f,p,n] m fun m n=>
lC 0 b fun o=>
CR e a 139 #[o,m] n fun _ n=>
DR n fun o=>
lC 0 b fun p=>
lD 5 (pt h) o fun q=>
lD 7 (pt h) o fun o=>
CN a 138 #[p,f,q,o] n fun n o=>
lC 0 b fun p=>
CR e a 139 #[p,n] o fun _ o=>
Build Tryz.prog 161 [(0,g),(1,m),(2,n)] fun m=>
lQ 3 o #[(iv 0),(ui 0),(ui 0)] 161 m fun m n=>
DR n fun o=>
lC 0 b fun p=>
ag 0 p fun p=>
Ld o p fun p=>
lD 0 (pt h) o fun q=>
av 3 o (pt m) fun o=>
CN a 140 #[p,q,o] n fun _ n=>
DR n fun o=>
lC 0 b fun p=>
ag 1 p fun p=>
Ld o p fun p=>
av 3 o (pt m) fun m=>
lD 0 (pt h) o fun h=>
CN a 141 #[p,m,h] n fun _ h=>
lA k (iv 1) fun m=>
aq i j [m] h [k] l) (
aA d fun h=>
∃(i:Jt) (j:Mt),JE i [(iv 0)] l∧∀k:Value,∀l:Hp,i [k] l→∀_:Fr,
lL k h fun h=>
Br h (
aj 8 d k fun d=>
av 8 l d fun d=>
lQ 8 l #[(ui 0),(iv 0),(ui 0),(ui 0),(ui 0),(ui 0),(ui 0),(ui 0)] 203 d fun d h=>
DR h fun m=>
lC 0 b fun n=>
ag 1 (pt d) fun o=>
ag 1 o fun o=>
Ld m o fun m=>
CN a 142 #[n,m] h fun _ h=>
DR h fun m=>
lC 0 b fun n=>
ag 1 (pt d) fun d=>
ag 2 d fun d=>
Ld m d fun d=>
CN a 142 #[n,d] h fun _ a=>
lA k (iv 1) fun d=>
aq i j [d] a [k] l) (
DR l fun a=>
lM 5 b a fun d=>
lM 5 b a fun a=>
lA c (iv 1) fun h=>
aj 1 d c fun d=>
St 1 l d g fun d=>
aj 1 a h fun a=>
St 1 d a f fun a=>
DR a fun d=>
lM 6 b d fun h=>
lM 6 b d fun b=>
lA c (iv 1) fun d=>
aj 1 h f fun f=>
St 1 a f d fun a=>
aj 1 b g fun b=>
St 1 a b c fun a=>
rt e vT a))))
theorem FH(h:L59 g a0 a1 H R):sc g 59 #[a0,a1] H R:=
  sd (hN 3 (.n (.n (.h 0 [0,1,2,3,4,5,6,7,8] [] .e .e) .e) (.n (.n .e (.n (.h 0 [47] [0,1,5,6,7,45,46] (.n .e (.n .e (.n (.n (.n .e (.h 0 [0,1,2,3,4,5,6,7] [] .e .e)) .e) .e))) .e) .e)) (.n (.n .e (.n (.h 0 [62] [0,1,5,6,7,60,61] (.n .e (.n .e (.n (.n (.n .e (.n (.h 0 [0,1,2,3,4,5,6,7,8,9] [] .e .e) (.n .e (.n (.h 0 [0,1,2,3,4,5,6,7,8,9] [] .e .e) (.n .e (.n .e (.n (.h 0 [0,1,2,3,4,5,6,7,8] [] .e .e) (.h 0 [0,1,2,3,4,5,6,7,8] [] .e .e)))))))) .e) .e))) .e) .e)) (.n (.n .e (.n (.h 0 [119] [0,1,5,6,117,118] (.n .e (.n .e (.n (.n (.n .e (.n (.h 0 [0,1,2,3,4,5,6] [] .e .e) (.h 0 [0,1,2,3,4,5,6] [] .e .e))) .e) .e))) .e) .e)) (.n (.h 0 [0,1,2,3,4,5,6,7,8,9,10,11,12,13,14,15,16] [] .e .e) (.n (.h 0 [0,1,2,3,4,5,6,7,8,9,10,11,12,13,14,15,16] [] .e .e) .e))))))) Tryz.func59 h
def L61:Y1:=
fun _ a b c=>
aa .ptr .eql a (.pointer none) fun d=>
Br d (
rt c (iv 0) b) (
lM 4 a b fun a=>
rt c a b)
theorem FG(h:L61 g a0 H R):sc g 61 #[a0] H R:=
  sd .e Tryz.func61 h
def L69:Y0:=
fun _ a b=>
lW a #[(iv 0),(.slice none 0 0)] 57 fun a c=>
an Tryz.prog 55 1 [(0,(wi 216))] c fun c d=>
Build Tryz.prog 57 [(0,(iv 3)),(1,c)] fun c=>
St 2 d (pt a) c fun c=>
av 2 c (pt a) fun a=>
rt b a c
theorem FE(h:L69 g H R):sc g 69 #[] H R:=
  sd .e Tryz.func69 h
def L70:Y1:=
fun _ a b c=>
aa .ptr .eql a (.pointer none) fun d=>
Br d (
rt c (.slice none 0 0) b) (
lC 0 a fun a=>
ag 3 a fun a=>
Ld b a fun a=>
aA a fun d=>
∃(e:Jt) (f:Mt),JE e [(.slice none 0 0),(iv 0)] b∧∀b g:Value,∀h:Hp,e [b,g] h→∀_:Fr,
lL g d fun d=>
Br d (
∀d:Jt,(∀i:Value,∀j:Hp,(∀_:Fr,
lA g (iv 1) fun k=>
aq e f [i,k] j [b,g] h)→d [i] j)→
lI 1 a g h fun a=>
lG a (Value.int .i32 0) fun a=>
Br a (
bf .u32 g fun a=>
an Tryz.prog 27 1 [(0,a)] h fun a e=>
App Tryz.prog 77 1 4 (ui 0) e b a fun a e=>
JE d [a] e) (
JE d [b] h)) (
rt c b h))
theorem um(h:L70 g a0 H R):sc g 70 #[a0] H R:=
  sd (hN 3 (.n (.n .e (.n (.h 0 [3,14] [12,13] (.n .e (.n .e (.h 1 [3] [12,13,14] .e .e))) .e) .e)) .e)) Tryz.func70 h
def L71:Y2:=
fun a b c d e=>
lW d #[(iv 0),(.slice none 0 0)] 57 fun d f=>
an Tryz.prog 27 1 [(0,c)] f fun f g=>
CR e a 150 #[b,f] g fun f g=>
lN f (iv 0) fun h=>
Br h (
Build Tryz.prog 57 [] fun h=>
St 2 g (pt d) h fun h=>
av 2 h (pt d) fun i=>
rt e (tP i f) h) (
CR e a 61 #[b] g fun f g=>
lQ 1 g #[(iv 0)] 3 f fun f g=>
Ld g (pt f) fun h=>
lG h (iv 16) fun h=>
Br h (
Build Tryz.prog 57 [] fun h=>
St 2 g (pt d) h fun h=>
av 2 h (pt d) fun i=>
rt e (tP i (iv 6)) h) (
Ld g (pt f) fun h=>
CR e a 147 #[h,vF] g fun g h=>
lX g fun g _=>
lQ 2 h #[(iv 0),(.slice none 0 0)] 57 g fun g h=>
Ld h (pt f) fun i=>
CR e a 147 #[i,vT] h fun h i=>
lX h fun h _=>
lQ 2 i #[(iv 0),(.slice none 0 0)] 57 h fun h i=>
av 2 i (pt g) fun g=>
av 2 i (pt h) fun h=>
CR e a 151 #[b,c,g,h,(.func (.func 152) #[] #[(pt f)])] i fun a b=>
St 2 b (pt d) a fun a=>
av 2 a (pt d) fun b=>
rt e (tP b (iv 0)) a))
theorem FD(h:L71 g a0 a1 H R):sc g 71 #[a0,a1] H R:=
  sd .e Tryz.func71 h
def L72:Y1:=
fun a b c d=>
mD c fun c e=>
mD e fun e f=>
Build Tryz.prog 137 [(0,b),(3,c),(4,e)] fun c=>
dP f (.cells (Value.cells c) 137 (0,0)) fun c e=>
aA b fun f=>
lE f (iv 0) fun f=>
Br f (
rt d (tP (pt c) (iv 0)) e) (
CR d a 155 #[b] e fun e f=>
lX e fun _ e=>
lN e (iv 0) fun g=>
Br g (
rt d (tP (.pointer none) e) f) (
aj 2 b (iv 0) fun e=>
ag 0 e fun e=>
Ld f e fun e=>
lC 1 (pt c) fun g=>
St 1 f g e fun e=>
aA b fun f=>
∃(g:Jt) (h:Mt),JE g [(iv 0)] e∧∀e:Value,∀i:Hp,g [e] i→∀_:Fr,
lL e f fun f=>
Br f (
aj 2 b e fun b=>
av 2 i b fun b=>
lQ 2 i #[(iv 0),(.slice none 0 0)] 57 b fun b f=>
av 2 f (pt b) fun b=>
CR d a 156 #[b] f fun a b=>
lX a fun a _=>
lM 2 (pt c) b fun f=>
bf .i64 a fun a=>
aa .num .or f a fun a=>
lC 2 (pt c) fun f=>
St 1 b f a fun a=>
lA e (iv 1) fun b=>
aq g h [b] a [e] i) (
rt d (tP (pt c) (iv 0)) i)))
theorem FC(h:L72 g a0 H R):sc g 72 #[a0] H R:=
  sd (hN 5 (.n (.n .e (.n (.h 0 [37] [4,35,36] .e .e) .e)) .e)) Tryz.func72 h
def L73:Y3:=
fun a b c d e f=>
lM 2 b e fun g=>
aa .num .shr g d fun g=>
aa .num .and g (iv 1) fun g=>
lE g (iv 0) fun g=>
Br g (
rt f (iv 0) e) (
lM 2 b e fun g=>
aa .num .and c g fun c=>
Build Tryz.prog 226 [(0,c),(1,d)] fun c=>
lQ 2 e #[(iv 0),(iv 0)] 226 c fun c e=>
lM 3 b e fun g=>
av 2 e (pt c) fun h=>
jj Tryz.prog 226 (iv 0) true e g h fun g=>
lX g fun g h=>
∀i:Jt,(∀j:Value,∀k:Hp,(∀_:Fr,
rt f j k)→i [j] k)→
Un .not h fun f=>
Br f (
DR e fun f=>
lM 0 b f fun h=>
ye 2 1 (pt c) (iv 0) fun j=>
Ld f j fun j=>
bf .u64 j fun j=>
CN a 157 #[h,j,d] e fun a d=>
aJ d f∧
lX a fun a _=>
DR d fun f=>
lM 3 b f fun b=>
av 2 f (pt c) fun c=>
jN Tryz.prog 226 d b c a fun b=>
JE i [a] b) (
JE i [g] e))
theorem FB(h:L73 g a0 a1 a2 H R):sc g 73 #[a0,a1,a2] H R:=
  sd (hN 4 (.h 1 [8] [] (.n .e (.n (.n (.h 0 [0,1,2,3,4,5,6,7,8,9,10,11,12] [] .e .e) (.h 0 [0,1,2,3,4,5,6] [] .e .e)) .e)) .e)) Tryz.func73 h
def L74:Y2:=
fun a b c d e=>
lM 2 b d fun f=>
aa .num .and c f fun c=>
lM 2 b d fun f=>
lE c f fun f=>
Br f (
rt e (iv 0) d) (
lM 4 b d fun f=>
jY (.int .i64) (iv 0) true d f c fun f=>
lX f fun f g=>
Br g (
rt e f d) (
lM 1 b d fun f=>
∃(g:Jt) (h:Mt),JE g [(iv (-1)),(iv 0)] d∧∀d i:Value,∀j:Hp,g [d,i] j→∀_:Fr,
lL i f fun f=>
Br f (
∀f:Jt,(∀k:Value,∀l:Hp,(∀_:Fr,
lA i (iv 1) fun m=>
aq g h [k,m] l [d,i] j)→f [k] l)→
lM 2 b j fun g=>
Un .xor g fun g=>
aa .num .or c g fun g=>
aa .num .shr g i fun g=>
aa .num .and g (iv 1) fun g=>
lE g (iv 1) fun g=>
Br g (
JE f [d] j) (
DR j fun _=>
aa .num .shl (iv 1) i fun g=>
aa .num .or c g fun g=>
CN a 73 #[b,c,i] j fun h i=>
CN a 74 #[b,g] i fun a g=>
lA h a fun a=>
lL d (iv 0) fun h=>
lO h (fun h=>
lL a d fun i=>
(lV g i h)) fun h=>
Br (Value.bool h) (
JE f [a] g) (
JE f [d] g))) (
lM 4 b j fun a=>
ez (.int .i64) j a c d fun a=>
rt e d a)))
theorem uk(h:L74 g a0 a1 H R):sc g 74 #[a0,a1] H R:=
  sd (hN 5 (.n (.n .e (.n (.h 0 [7,37] [0,1,36] (.n .e (.n .e (.h 1 [7] [0,1,36,37] (.n (.n .e (.n .e (.n (.h 0 [0,1,2,4,5,6,7,8,3,9,10,11] [] .e .e) (.n (.h 0 [] [1] .e .e) .e)))) .e) .e))) .e) .e)) .e)) Tryz.func74 h
def L75:Y1:=
fun _ a b c=>
∀d:Jt,(∀e f:Value,∀g:Hp,(∀_:Fr,
∀h:Jt,(∀i j:Value,∀k:Hp,(∀_:Fr,
∀l:Jt,(∀m n:Value,∀o:Hp,(∀_:Fr,
bf .u8 m fun p=>
Nm (.string (ByteArray.mk #[0,1,2,2,3,3,3,3,4,4,4,4,4,4,4,4,5,5,5,5,5,5,5,5,5,5,5,5,5,5,5,5,6,6,6,6,6,6,6,6,6,6,6,6,6,6,6,6,6,6,6,6,6,6,6,6,6,6,6,6,6,6,6,6,7,7,7,7,7,7,7,7,7,7,7,7,7,7,7,7,7,7,7,7,7,7,7,7,7,7,7,7,7,7,7,7,7,7,7,7,7,7,7,7,7,7,7,7,7,7,7,7,7,7,7,7,7,7,7,7,7,7,7,7,7,7,7,7,8,8,8,8,8,8,8,8,8,8,8,8,8,8,8,8,8,8,8,8,8,8,8,8,8,8,8,8,8,8,8,8,8,8,8,8,8,8,8,8,8,8,8,8,8,8,8,8,8,8,8,8,8,8,8,8,8,8,8,8,8,8,8,8,8,8,8,8,8,8,8,8,8,8,8,8,8,8,8,8,8,8,8,8,8,8,8,8,8,8,8,8,8,8,8,8,8,8,8,8,8,8,8,8,8,8,8,8,8,8,8,8,8,8,8,8,8,8,8,8,8,8,8,8,8,8,8,8])) p fun p=>
bf .i64 p fun p=>
lA n p fun p=>
rt c p o)→l [m,n] o)→
aa .num .geq i (wi 256) fun c=>
Br c (
aa .num .shr i (wi 8) fun c=>
lA j (iv 8) fun m=>
JE l [c,m] k) (
JE l [i,j] k))→h [i,j] k)→
aa .num .geq e (wi 65536) fun c=>
Br c (
aa .num .shr e (wi 16) fun c=>
lA f (iv 16) fun i=>
JE h [c,i] g) (
JE h [e,f] g))→d [e,f] g)→
aa .num .geq a (wi 4294967296) fun c=>
Br c (
aa .num .shr a (wi 32) fun c=>
JE d [c,(iv 32)] b) (
JE d [a,(iv 0)] b)
theorem FA(h:L75 g a0 H R):sc g 75 #[a0] H R:=
  sd (.n .e (.h 1 [0,2] [] .e (.h 1 [0,2] [] .e (.h 1 [0,2] [] .e .e)))) Tryz.func75 h
def L76:Y0:=
fun _ a b=>
Build Tryz.prog 231 [] fun c=>
dP a (.cells (Value.cells c) 231 (0,0)) fun a c=>
rt b (pt a) c
theorem Fz(h:L76 g H R):sc g 76 #[] H R:=
  sd .e Tryz.func76 h
def L77:Y3:=
fun a b c d e f=>
aa .ptr .eql b (.pointer none) fun g=>
Br g (
rt f (iv 10) e) (
lM 1 b e fun g=>
jY (.int .i64) (iv 0) true e g c fun g=>
lX g fun _ g=>
Br g (
rt f (iv 11) e) (
∀g:Jt,(∀h:Hp,(∀_:Fr,
lM 0 b h fun i=>
Build Tryz.prog 233 [(0,c),(1,d)] fun c=>
an Tryz.prog 229 1 [(0,c)] h fun c d=>
App Tryz.prog 233 2 16 (.agg #[(iv 0),(iv 0)]) d i c fun c d=>
lC 0 b fun i=>
St 1 d i c fun c=>
lM 0 b c fun d=>
aA d fun d=>
lS d (iv 1) fun d=>
CR f a 158 #[b,d] c fun _ a=>
rt f (iv 0) a)→g [] h)→
lM 1 b e fun a=>
aa .map .eql a (.map none) fun a=>
Br a (
mD e fun a c=>
lC 1 b fun b=>
St 1 c b a fun a=>
JE g [] a) (
JE g [] e)))
theorem Fy(h:L77 g a0 a1 a2 H R):sc g 77 #[a0,a1,a2] H R:=
  sd (hN 3 (.h 1 [] [0,1,2] .e .e)) Tryz.func77 h
def L78:Y1:=
fun a b c d=>
aa .ptr .eql b (.pointer none) fun e=>
lO e (fun e=>
lM 0 b c fun f=>
aA f fun f=>
lE f (iv 0) fun f=>
(lV c f e)) fun e=>
Br (Value.bool e) (
rt d (.tuple #[(iv 0),(iv 0),(iv 10)]) c) (
lM 0 b c fun e=>
aj 2 e (iv 0) fun e=>
av 2 c e fun e=>
lQ 2 c #[(iv 0),(iv 0)] 233 e fun c e=>
lM 0 b e fun f=>
aA f fun f=>
lS f (iv 1) fun f=>
lM 0 b e fun g=>
aj 2 g f fun g=>
av 2 e g fun g=>
lQ 2 e #[(iv 0),(iv 0)] 233 g fun e g=>
lM 0 b g fun h=>
di 2 h none (some f) fun h=>
lC 0 b fun i=>
St 1 g i h fun g=>
DR g fun h=>
lM 1 b h fun i=>
lD 0 (pt c) h fun h=>
si (.int .i64) g i h fun g=>
∀h:Jt,(∀i:Hp,(∀_:Fr,
lD 0 (pt c) i fun j=>
lD 1 (pt c) i fun c=>
rt d (.tuple #[j,c,(iv 0)]) i)→h [] i)→
lG f (iv 0) fun c=>
Br c (
av 2 g (pt e) fun c=>
CR d a 159 #[b,(iv 0),c] g fun _ c=>
CR d a 160 #[b,(iv 0)] c fun _ a=>
JE h [] a) (
JE h [] g))
theorem uj(h:L78 g a0 H R):sc g 78 #[a0] H R:=
  sd (.n .e (.n .e (.n (.n (.h 0 [] [1] .e .e) .e) (hN 4 (.n (.h 0 [0,1,2,3,4,5,6] [] .e .e) (.h 1 [] [6] .e .e)))))) Tryz.func78 h
def L79:Y2:=
fun _ a b c d=>
aa .ptr .eql a (.pointer none) fun e=>
Br e (
rt d (tP (iv 0) (iv 10)) c) (
lM 1 a c fun e=>
jY (.int .i64) (iv 0) true c e b fun b=>
lX b fun b e=>
Un .not e fun e=>
Br e (
rt d (tP (iv 0) (iv 10)) c) (
lM 0 a c fun a=>
aj 2 a b fun a=>
ag 1 a fun a=>
Ld c a fun a=>
rt d (tP a (iv 0)) c))
theorem Fx(h:L79 g a0 a1 H R):sc g 79 #[a0,a1] H R:=
  sd .e Tryz.func79 h
def L80:Y3:=
fun a b c d e f=>
aa .ptr .eql b (.pointer none) fun g=>
Br g (
rt f (iv 10) e) (
lM 1 b e fun g=>
jY (.int .i64) (iv 0) true e g c fun g=>
lX g fun g h=>
Un .not h fun h=>
Br h (
rt f (iv 10) e) (
lM 0 b e fun h=>
aj 2 h g fun h=>
ag 1 h fun h=>
St 1 e h d fun d=>
CR f a 158 #[b,g] d fun _ d=>
lM 1 b d fun e=>
jY (.int .i64) (iv 0) false d e c fun c=>
CR f a 160 #[b,c] d fun _ a=>
rt f (iv 0) a))
theorem Fw(h:L80 g a0 a1 a2 H R):sc g 80 #[a0,a1,a2] H R:=
  sd .e Tryz.func80 h
def L81:Y1:=
fun _ a b c=>
aa .num .leq a (iv 6) fun d=>
Br d (
rt c (iv 1) b) (
lS a (iv 6) fun a=>
aa .num .shl (iv 1) a fun a=>
rt c a b)
theorem Fv(h:L81 g a0 H R):sc g 81 #[a0] H R:=
  sd .e Tryz.func81 h
def L82:Y2:=
fun _ a b c d=>
Build Tryz.prog 74 [(0,a),(1,b)] fun b=>
dP c (.cells (Value.cells b) 74 (0,0)) fun b c=>
∃(e:Jt) (f:Mt),JE e [(iv 0)] c∧∀c:Value,∀g:Hp,e [c] g→∀_:Fr,
lL c a fun a=>
Br a (
lM 2 (pt b) g fun a=>
an Tryz.prog 25 1 [(0,c)] g fun h i=>
App Tryz.prog 3 1 8 (iv 0) i a h fun a h=>
lC 2 (pt b) fun i=>
St 1 h i a fun a=>
lA c (iv 1) fun h=>
aq e f [h] a [c] g) (
rt d (pt b) g)
theorem Fu(h:L82 g a0 a1 H R):sc g 82 #[a0,a1] H R:=
  sd (.n .e (.n .e (.n (.n .e (.n (.h 0 [6] [0,5] .e .e) .e)) .e))) Tryz.func82 h
def L83:Y3:=
fun a b c d e f=>
dP e (.cells (Value.cells c) 57 (0,0)) fun c e=>
CR f a 13 #[b] e fun e g=>
∃(h:Jt) (i:Mt),JE h [d] g∧∀d:Value,∀g:Hp,h [d] g→∀_:Fr,
∀j:Jt,(∀k:Value,∀l:Hp,(∀_:Fr,
Br k (
lA d (iv 1) fun m=>
aq h i [m] l [d] g) (
aA e fun h=>
aa .num .geq d h fun h=>
Br h (
av 2 l (pt c) fun h=>
CR f a 162 #[h,(iv 0)] l fun h i=>
Br h (
rt f (tP (ui 1) (iv 0)) i) (
rt f (tP (ui 0) (iv 0)) i)) (
lI 1 e d l fun h=>
av 2 l (pt c) fun i=>
CR f a 163 #[i,h,vF] l fun i m=>
lA d (iv 1) fun n=>
CR f a 83 #[b,i,n] m fun i m=>
lX i fun i n=>
lN n (iv 0) fun o=>
Br o (
rt f (tP (ui 0) n) m) (
av 2 m (pt c) fun n=>
CR f a 163 #[n,h,vT] m fun m n=>
lA d (iv 1) fun o=>
CR f a 83 #[b,m,o] n fun m n=>
lX m fun m o=>
lN o (iv 0) fun p=>
Br p (
CR f a 131 #[b,i] n fun _ p=>
rt f (tP (ui 0) o) p) (
CR f a 164 #[b,h,i,m] n fun h n=>
lX h fun h o=>
CR f a 131 #[b,i] n fun _ i=>
CR f a 131 #[b,m] i fun _ b=>
rt f (tP h o) b)))))→j [k] l)→
DR g fun b=>
aA e fun f=>
lL d f fun f=>
Br f (
av 2 b (pt c) fun c=>
lI 1 e d b fun b=>
∀d:Hp,
CN (a.add d) 161 #[c,b] g fun a b=>
Un .not a fun a=>
ay vT a vF fun a=>
JE j [a] b) (
JE j [vF] g)
theorem Ft(h:L83 g a0 a1 a2 H R):sc g 83 #[a0,a1,a2] H R:=
  sd (.n .e (.n .e (.n (.n (.h 0 [2] [0,4,8] (.n (.h 1 [28] [0,2,4,8] (.h 1 [] [] (hr 0 [1] 0 4 (.h 2 [4] [] (hr 0 [1] 5 8 .e) (hr 0 [1] 5 7 (.h 3 [12] [1] .e .e)))) .e) .e) .e) .e) .e) .e))) Tryz.func83 h
def L84:Y2:=
fun a b c d e=>
dP d (.cells (Value.cells c) 57 (0,0)) fun c d=>
av 2 d (pt c) fun f=>
CR e a 96 #[b,f] d fun d f=>
aa .num .geq d (iv 65535) fun d=>
Br d (
rt e (iv 8) f) (
av 2 f (pt c) fun d=>
an Tryz.prog 28 1 [(0,d)] f fun d f=>
CR e a 122 #[b,d] f fun d f=>
Un .not d fun d=>
Br d (
rt e (iv 9) f) (
av 2 f (pt c) fun c=>
CR e a 124 #[b,c] f fun _ a=>
lC 4 b fun b=>
St 1 a b (.slice none 0 0) fun a=>
rt e (iv 0) a))
theorem Fq(h:L84 g a0 a1 H R):sc g 84 #[a0,a1] H R:=
  sd .e Tryz.func84 h
def L85:Y3:=
fun a b c d e f=>
dP e (.cells (Value.cells d) 57 (0,0)) fun d e=>
DR e fun g=>
lM 0 b g fun h=>
lM 1 b g fun i=>
lM 0 i g fun i=>
∀j:Hp,
CN (a.add j) 35 #[h,i,c] e fun e h=>
aJ h g∧
lX e fun e i=>
lW h #[(iv 0),(.slice none 0 0)] 57 fun h j=>
∀_:Hp,
St 2 j (pt h) e fun e=>
aJ e g∧
∀g:Jt,(∀j:Value,∀k:Hp,(∀_:Fr,
Br j (
rt f vF k) (
lM 3 b k fun l=>
aA l fun m=>
∃(n:Jt) (o:Mt),JE n [(iv 0)] k∧∀p:Value,∀q:Hp,n [p] q→∀_:Fr,
lL p m fun m=>
Br m (
aj 2 l p fun l=>
av 2 q l fun l=>
lQ 2 q #[(iv 0),(.slice none 0 0)] 57 l fun l m=>
DR m fun r=>
av 2 r (pt l) fun l=>
av 2 r (pt d) fun s=>
lM 2 b r fun t=>
lI 1 t p r fun t=>
lE t c fun t=>
∀u:Hp,
CN (a.add u) 36 #[l,s] m fun l m=>
aJ m r∧
aa .bool .neq l t fun l=>
Br l (
rt f vF m) (
lA p (iv 1) fun l=>
aq n o [l] m [p] q)) (
DR q fun l=>
lM 2 b l fun m=>
lM 3 b l fun n=>
av 2 l (pt d) fun o=>
jr Tryz.prog 28 1 [(0,o)] fun o=>
∀_:Hp,
an Tryz.prog 27 1 [(0,c)] q fun c p=>
aJ p l∧
∀_:Hp,
App Tryz.prog 77 1 4 (ui 0) p m c fun c m=>
aJ m l∧
dP m o.1 fun l m=>
∀_:Hp,
App Tryz.prog 57 2 32 (.agg #[(iv 0),(.slice none 0 0)]) m n (o.2 l) fun l m=>
lC 2 b fun n=>
∀_:Hp,
St 1 m n c fun c=>
lC 3 b fun b=>
∀_:Hp,
St 1 c b l fun b=>
rt f vT b)))→g [j] k)→
Un .not i fun b=>
Split b false (
av 2 e (pt h) fun b=>
av 2 e (pt d) fun c=>
CR f a 36 #[b,c] e fun a b=>
Un .not a fun a=>
ay vF vT a fun a=>
JE g [a] b) (
ay vT vT undef fun a=>
JE g [a] e)
theorem Fp(h:L85 g a0 a1 a2 H R):sc g 85 #[a0,a1,a2] H R:=
  sd (.n .e (.n (.h 1 [] [] (hr 0 [1] 0 12 (.h 1 [16] [1] (hr 0 [1] 12 7 .e) .e)) .e) (.n (.h 1 [34] [0,1,5] .e .e) (.n (.n .e (.n (.h 0 [40] [0,1,5,38,39] (.n .e (.n .e (.n (.n (.n .e (.n (.h 1 [] [] (hr 0 [1] 0 2 (hr 0 [1] 3 9 (.h 0 [2] [1] (.h 0 [12] [1] .e .e) .e))) .e) .e)) .e) .e))) .e) .e)) (.n (.h 1 [] [] (hr 0 [1] 0 7 (hr 0 [1] 9 5 (.h 1 [14] [1] (hr 0 [1] 7 2 (hr 0 [1] 14 8 .e)) .e))) .e) .e))))) Tryz.func85 h
def L86:Y2:=
fun a b c d e=>
lL c (iv 0) fun f=>
lO f (fun f=>
lM 0 b d fun g=>
lS g (iv 2) fun g=>
lG c g fun g=>
(lV d g f)) fun f=>
Br (Value.bool f) (
rt e (iv 1) d) (
DR d fun f=>
lM 1 b f fun g=>
CN a 165 #[b,c] d fun d h=>
aJ h f∧
lA (iv 2) d fun d=>
lG d g fun d=>
Br d (
rt e (iv 9) h) (
lM 2 b h fun d=>
CR e a 166 #[d,c] h fun a d=>
lC 2 b fun f=>
St 1 d f a fun a=>
lM 4 b a fun d=>
an Tryz.prog 25 1 [(0,c)] a fun a c=>
App Tryz.prog 3 1 8 (iv 0) c d a fun a c=>
lC 4 b fun b=>
St 1 c b a fun a=>
rt e (iv 0) a))
theorem pe(h:L86 g a0 a1 H R):sc g 86 #[a0,a1] H R:=
  sd (.n .e (.n (.n (.n (.h 0 [] [1] .e .e) (.n .e (.n (.h 0 [0,1,4,5,6,7,2,3,8,9] [] .e .e) .e))) .e) .e)) Tryz.func86 h
def L87:Y1:=
fun a b c d=>
CR d a 88 #[b] c fun c e=>
CR d a 167 #[b,c] e fun a b=>
rt d a b
theorem Fo(h:L87 g a0 H R):sc g 87 #[a0] H R:=
  sd .e Tryz.func87 h
def L88:Y1:=
fun _ a b c=>
lM 3 a b fun a=>
aA a fun d=>
∃(e:Jt) (f:Mt),JE e [(.slice none 0 0),(iv 0)] b∧∀b g:Value,∀h:Hp,e [b,g] h→∀_:Fr,
lL g d fun d=>
Br d (
aj 3 a g fun a=>
av 3 h a fun a=>
lQ 3 h #[(iv 0),(.slice none 0 0),(iv 0)] 241 a fun a d=>
ag 0 (pt a) fun a=>
av 2 d a fun a=>
an Tryz.prog 28 1 [(0,a)] d fun a d=>
App Tryz.prog 57 2 32 (.agg #[(iv 0),(.slice none 0 0)]) d b a fun a d=>
lA g (iv 1) fun i=>
aq e f [a,i] d [b,g] h) (
rt c b h)
theorem Fm(h:L88 g a0 H R):sc g 88 #[a0] H R:=
  sd (.n .e (.n .e (.n (.n .e (.n (.h 0 [3,11] [9,10] .e .e) .e)) .e))) Tryz.func88 h
def L89:Y1:=
fun a b c d=>
CR d a 168 #[b] c fun c e=>
lX c fun c f=>
lN f (iv 0) fun g=>
Br g (
rt d (.tuple #[(iv 0),(.slice none 0 0),f]) e) (
lG c (iv 12) fun f=>
Br f (
rt d (.tuple #[(iv 0),(.slice none 0 0),(iv 6)]) e) (
CR d a 169 #[b,c] e fun a b=>
lX a fun a e=>
∃(f:Jt) (g:Mt),JE f [(.slice none 0 0),(iv 0)] b∧∀b h:Value,∀i:Hp,f [b,h] i→∀_:Fr,
aa .num .shl (iv 1) c fun j=>
lS j (iv 1) fun j=>
lL h j fun j=>
Br j (
∃(j:Jt) (k:Mt),JE j [b,h,(iv 0)] i∧∀l m n:Value,∀o:Hp,j [l,m,n] o→∀_:Fr,
lL n c fun c=>
Br c (
aa .num .shr m n fun c=>
aa .num .rem c (iv 2) fun c=>
lE c (iv 0) fun c=>
lU c (fun c=>
lI 1 e m o fun e=>
lI 1 e n o fun e=>
aa .num .shl (iv 1) n fun p=>
lA m p fun p=>
lI 1 a p o fun p=>
lA e p fun e=>
lI 1 a m o fun p=>
lE e p fun e=>
(lV o e c)) fun c=>
Br (Value.bool c) (
an Tryz.prog 25 1 [(0,n)] o fun c e=>
App Tryz.prog 3 1 8 (iv 0) e l c fun c e=>
aa .num .shl (iv 1) n fun p=>
lA m p fun p=>
aq f g [c,p] e [b,h] i) (
lA n (iv 1) fun c=>
aq j k [l,m,c] o [l,m,n] o)) (
aq f g [l,m] o [b,h] i)) (
lI 1 a (iv 0) i fun a=>
rt d (.tuple #[a,b,(iv 0)]) i)))
theorem Fl(h:L89 g a0 H R):sc g 89 #[a0] H R:=
  sd (hN 6 (.n (.n .e (.n (.h 0 [9,10] [5,7,8] (.n .e (.n (.n .e (.n (.h 0 [9,10,11] [5,7,8] .e .e) .e)) .e)) .e) .e)) .e)) Tryz.func89 h
def L90:Y2:=
fun _ a b c d=>
lM 2 a c fun a=>
aA a fun e=>
∃(f:Jt) (g:Mt),JE f [(iv 0)] c∧∀c:Value,∀h:Hp,f [c] h→∀_:Fr,
lL c e fun e=>
Br e (
lI 1 a c h fun a=>
lE a b fun a=>
Br a (
rt d c h) (
lA c (iv 1) fun a=>
aq f g [a] h [c] h)) (
d (.returned (iv (-1))) h)
theorem Fk(h:L90 g a0 a1 H R):sc g 90 #[a0,a1] H R:=
  sd (.n .e (.n (.n .e (.n (.h 0 [12] [1,10,11] .e .e) .e)) .e)) Tryz.func90 h
def L91:Y2:=
fun a b c d e=>
∃(f:Jt) (g:Mt),JE f [(iv 0)] d∧∀d:Value,∀h:Hp,f [d] h→∀_:Fr,
lM 4 b h fun i=>
aA i fun i=>
lG i c fun c=>
Br c (
CR e a 170 #[b] h fun _ a=>
lA d (iv 1) fun b=>
aq f g [b] a [d] h) (
rt e d h)
theorem Fj(h:L91 g a0 a1 H R):sc g 91 #[a0,a1] H R:=
  sd (.n .e (.n .e (.n (.n (.h 0 [5] [0,1] .e .e) .e) .e))) Tryz.func91 h
def L92:Y2:=
fun _ a b c d=>
aA a fun e=>
aA b fun f=>
lN e f fun e=>
Br e (
rt d vF c) (
aA a fun e=>
∃(f:Jt) (g:Mt),JE f [(iv 0)] c∧∀c:Value,∀h:Hp,f [c] h→∀_:Fr,
lL c e fun e=>
Br e (
lI 1 a c h fun a=>
lI 1 b c h fun b=>
lN a b fun a=>
Br a (
rt d vF h) (
lA c (iv 1) fun a=>
aq f g [a] h [c] h)) (
rt d vT h))
theorem Fi(h:L92 g a0 a1 H R):sc g 92 #[a0,a1] H R:=
  sd (.n .e (.n .e (.n (.n .e (.n (.h 0 [13] [0,1,12] .e .e) .e)) .e))) Tryz.func92 h
def L93:Y2:=
fun a b c d e=>
aa .ptr .eql b (.pointer none) fun f=>
Br f (
rt e (tP (iv 0) (iv 10)) d) (
CR e a 113 #[b,c] d fun d f=>
Un .not d fun d=>
Br d (
rt e (tP (iv 0) (iv 2)) f) (
lC 0 b fun b=>
ag 1 b fun b=>
Ld f b fun b=>
CR e a 171 #[b,c] f fun a b=>
lX a fun a c=>
rt e (tP a c) b))
theorem Fh(h:L93 g a0 a1 H R):sc g 93 #[a0,a1] H R:=
  sd .e Tryz.func93 h
def L94:Y2:=
fun a b c d e=>
CR e a 90 #[b,c] d fun c d=>
lL c (iv 0) fun f=>
Br f (
e (.returned (iv (-1))) d) (
CR e a 172 #[b] d fun a b=>
lI 1 a c b fun a=>
aA a fun a=>
rt e a b)
theorem Fg(h:L94 g a0 a1 H R):sc g 94 #[a0,a1] H R:=
  sd .e Tryz.func94 h
def L95:Y2:=
fun _ a b c d=>
aa .ptr .eql a (.pointer none) fun e=>
lO e (fun e=>
bf .i64 b fun f=>
lC 0 a fun g=>
ag 3 g fun g=>
Ld c g fun g=>
aA g fun g=>
aa .num .geq f g fun f=>
(lV c f e)) fun e=>
Br (Value.bool e) (
rt d (iv 0) c) (
lC 0 a fun a=>
ag 3 a fun a=>
Ld c a fun a=>
lI 1 a b c fun a=>
bf .i64 a fun a=>
rt d a c)
theorem Ff(h:L95 g a0 a1 H R):sc g 95 #[a0,a1] H R:=
  sd (.n .e (.n (.n (.h 0 [] [1] .e .e) .e) .e)) Tryz.func95 h
def L96:Y2:=
fun a b c d e=>
dP d (.cells (Value.cells c) 57 (0,0)) fun c d=>
lM 3 b d fun b=>
aA b fun f=>
∃(g:Jt) (h:Mt),JE g [(iv 0)] d∧∀d:Value,∀i:Hp,g [d] i→∀_:Fr,
lL d f fun f=>
Br f (
aj 3 b d fun b=>
av 3 i b fun b=>
lQ 3 i #[(iv 0),(.slice none 0 0),(iv 0)] 241 b fun b f=>
ag 0 (pt b) fun j=>
av 2 f j fun j=>
av 2 f (pt c) fun c=>
CR e a 36 #[j,c] f fun a c=>
Br a (
lD 2 (pt b) c fun a=>
rt e a c) (
lA d (iv 1) fun a=>
aq g h [a] c [d] i)) (
rt e (iv 0) i)
theorem Fe(h:L96 g a0 a1 H R):sc g 96 #[a0,a1] H R:=
  sd (.n .e (.n (.n .e (.n (.h 0 [12] [3,10,11] .e .e) .e)) .e)) Tryz.func96 h
def L97:Y2:=
fun a b c d e=>
lW d #[(iv 0),(ui 0),(ui 0)] 161 fun d f=>
aa .ptr .eql b (.pointer none) fun g=>
Br g (
Build Tryz.prog 161 [] fun g=>
St 3 f (pt d) g fun g=>
av 3 g (pt d) fun h=>
rt e (tP h (iv 10)) g) (
lC 0 b fun g=>
CR e a 173 #[g,c] f fun f g=>
Un .not f fun f=>
Br f (
Build Tryz.prog 161 [] fun f=>
St 3 g (pt d) f fun f=>
av 3 f (pt d) fun h=>
rt e (tP h (iv 3)) f) (
lC 0 b fun b=>
CR e a 174 #[b,c] g fun a b=>
St 3 b (pt d) a fun a=>
av 3 a (pt d) fun b=>
rt e (tP b (iv 0)) a))
theorem Fb(h:L97 g a0 a1 H R):sc g 97 #[a0,a1] H R:=
  sd .e Tryz.func97 h
def L98:Y2:=
fun a b c d e=>
lW d #[(iv 0),(.slice none 0 0)] 57 fun d f=>
CR e a 81 #[b] f fun a f=>
br 50 1 8 (wi 0) f a a fun a f=>
Build Tryz.prog 57 [(0,b),(1,a)] fun a=>
lQ 2 f #[(iv 0),(.slice none 0 0)] 57 a fun a b=>
∃(f:Jt) (g:Mt),JE f [(iv 0)] b∧∀b:Value,∀h:Hp,f [b] h→∀_:Fr,
aA c fun i=>
lL b i fun i=>
Br i (
∀i:Jt,(∀j:Hp,(∀_:Fr,
lA b (iv 1) fun k=>
aq f g [k] j [b] h)→i [] j)→
lI 1 c b h fun c=>
Br c (
DR h fun c=>
lD 1 (pt a) c fun f=>
aa .num .quo b (iv 64) fun g=>
lI 1 f g c fun c=>
aa .num .rem b (iv 64) fun b=>
aa .num .shl (wi 1) b fun b=>
lA c b fun b=>
aj 1 f g fun c=>
St 1 h c b fun b=>
JE i [] b) (
JE i [] h)) (
av 2 h (pt a) fun a=>
St 2 h (pt d) a fun a=>
av 2 a (pt d) fun b=>
rt e b a)
theorem Fa(h:L98 g a0 a1 H R):sc g 98 #[a0,a1] H R:=
  sd (.n .e (.n .e (.n (.n .e (.n (.h 0 [6] [1,4,5] (.n .e (.h 1 [] [1,4,5,6] (.n (.n .e (.n (.h 0 [0,1,2,3,4,5,6,7,8,9,10,11] [] .e .e) .e)) .e) .e)) .e) .e)) .e))) Tryz.func98 h
def L101:Y1:=
fun _ a b c=>
aA a fun d=>
br 4 1 1 vF b d d fun b d=>
aA a fun e=>
∃(f:Jt) (g:Mt),JE f [(iv 0)] d∧∀d:Value,∀h:Hp,f [d] h→∀_:Fr,
lL d e fun e=>
Br e (
lI 1 a d h fun e=>
lL e (iv 0) fun i=>
lO i (fun i=>
aA a fun j=>
aa .num .geq e j fun j=>
(lV h j i)) fun i=>
lO (Value.bool i) (fun i=>
lI 1 b e h fun j=>
(lV h j i)) fun i=>
Br (Value.bool i) (
rt c (iv 4) h) (
aj 1 b e fun b=>
St 1 h b vT fun b=>
lA d (iv 1) fun e=>
aq f g [e] b [d] h)) (
aA a fun a=>
lG a (iv 64) fun a=>
Br a (
rt c (iv 13) h) (
rt c (iv 0) h))
theorem B9(h:L101 g a0 H R):sc g 101 #[a0] H R:=
  sd (.n .e (.n .e (.n (.n .e (.n (.h 0 [11] [0,3,9,10] (.n .e (.n .e (.n (.n (.n .e (.n (.n (.h 0 [] [1] .e .e) .e) .e)) .e) .e))) .e) .e)) .e))) Tryz.func101 h
def L102:Y2:=
fun a b c d e=>
CR e a 178 #[b,c] d fun d f=>
lN d (iv 0) fun g=>
Br g (
rt e (tP (.slice none 0 0) d) f) (
CR e a 57 #[b] f fun b d=>
aA c fun f=>
∃(g:Jt) (h:Mt),JE g [(.slice none 0 0),(iv 0)] d∧∀d i:Value,∀j:Hp,g [d,i] j→∀_:Fr,
lL i f fun f=>
Br f (
lI 1 c i j fun c=>
CR e a 179 #[b,c] j fun a c=>
∃(f:Jt) (k:Mt),JE f [d,a] c∧∀a c:Value,∀l:Hp,f [a,c] l→∀_:Fr,
lG c i fun m=>
Br m (
DR l fun m=>
lS c (iv 1) fun n=>
lI 1 b c m fun o=>
lS c (iv 1) fun p=>
lI 1 b p m fun m=>
aj 1 b n fun n=>
St 1 l n o fun n=>
aj 1 b c fun b=>
St 1 n b m fun b=>
lS c (iv 1) fun m=>
an Tryz.prog 25 1 [(0,m)] b fun b m=>
App Tryz.prog 3 1 8 (iv 0) m a b fun b m=>
lS c (iv 1) fun n=>
aq f k [b,n] m [a,c] l) (
lA i (iv 1) fun b=>
aq g h [a,b] l [d,i] j)) (
rt e (tP d (iv 0)) j))
theorem B8(h:L102 g a0 a1 H R):sc g 102 #[a0,a1] H R:=
  sd (hN 4 (.n (.n .e (.n (.h 0 [8,22] [7,20,21] (.n .e (.n .e (.n (.n (.n .e (.n .e (.n (.h 0 [8,11] [7,9,20,21,22] (.n .e (.n (.n (.n (.h 0 [0,1,2,3,4,5,6,7,8,9,10,11,12,13,14,15,16,17] [] .e .e) .e) .e) .e)) .e) .e))) .e) .e))) .e) .e)) .e)) Tryz.func102 h
def L103:Y2:=
fun a b c d e=>
lW d #[(iv 0)] 3 fun d f=>
CF a 104 #[b] f (fun b f=>
lQ 1 f #[(.pointer none)] 169 b fun b f=>
aA c fun g=>
∃(h:Jt) (i:Mt),JE h [(iv 0)] f∧∀f:Value,∀j:Hp,h [f] j→∀_:Fr,
lL f g fun g=>
Br g (
lI 1 c f j fun c=>
Ld j (pt b) fun g=>
CF a 107 #[g,c] j (fun c g=>
lN c (iv 0) fun k=>
Br k (
St 1 g (pt d) (iv 0) fun k=>
O8 Tryz.prog a 180 #[(pt b),(pt d)] k fun k=>
Ld k (pt d) fun l=>
rt e (tP l c) k) (
lA f (iv 1) fun c=>
aq h i [c] g [f] j)) Xd) (
Ld j (pt b) fun c=>
lC 3 c fun c=>
St 1 j c vT fun c=>
St 1 c (pt d) (iv 0) fun c=>
O8 Tryz.prog a 180 #[(pt b),(pt d)] c fun a=>
Ld a (pt d) fun b=>
rt e (tP b (iv 0)) a)) Xd
theorem B7(h:L103 g a0 a1 H R):sc g 103 #[a0,a1] H R:=
 Nx (hn:=(hN 3 (.n (.n .e (.n (.h 0 [14] [4,6,12,13] .e .e) .e)) .e))) Tryz.func103 h (by kernel_rfl)
def L104:Y1:=
fun a b c d=>
CR d a 34 #[b] c fun a c=>
Build Tryz.prog 260 [(0,b),(1,a)] fun a=>
dP c (.cells (Value.cells a) 260 (0,0)) fun a b=>
rt d (pt a) b
theorem B6(h:L104 g a0 H R):sc g 104 #[a0] H R:=
  sd .e Tryz.func104 h
def L105:Y1:=
fun a b c d=>
lM 3 b c fun e=>
Un .not e fun e=>
Br e (
CR d a 108 #[b] c fun _ a=>
rt d (.tuple #[]) a) (
rt d (.tuple #[]) c)
theorem sA(h:L105 g a0 H R):sc g 105 #[a0] H R:=
  sd .e Tryz.func105 h
def L107:Y2:=
fun a b c d e=>
lM 0 b d fun f=>
CR e a 17 #[f,c] d fun a c=>
∀d:Jt,(∀f:Hp,(∀_:Fr,
rt e a f)→d [] f)→
lE a (iv 0) fun a=>
Br a (
lM 2 b c fun a=>
lA a (iv 1) fun a=>
lC 2 b fun b=>
St 1 c b a fun a=>
JE d [] a) (
JE d [] c)
theorem su(h:L107 g a0 a1 H R):sc g 107 #[a0,a1] H R:=
  sd (.n .e (.n .e (.h 1 [] [5] .e .e))) Tryz.func107 h
def L108:Y1:=
fun a b c d=>
DR c fun e=>
lM 0 b e fun f=>
lM 1 b e fun g=>
CN a 145 #[f,g] c fun a c=>
aJ c e∧
lX a fun a _=>
lM 2 b c fun e=>
lA e a fun a=>
lC 2 b fun b=>
St 1 c b a fun a=>
rt d (.tuple #[]) a
theorem B5(h:L108 g a0 H R):sc g 108 #[a0] H R:=
  sd (.n (.h 0 [0,1,2,3,4,5,6,7,8,9,10,11,12,13] [] .e .e) .e) Tryz.func108 h
def L113:Y2:=
fun _ a b c d=>
aa .num .geq b (iv 0) fun e=>
lU e (fun e=>
lM 4 a c fun a=>
lL b a fun a=>
(lV c a e)) fun e=>
rt d (Value.bool e) c
theorem B4(h:L113 g a0 a1 H R):sc g 113 #[a0,a1] H R:=
  sd (.n .e (.n (.h 0 [] [1] .e .e) .e)) Tryz.func113 h
def L116:Y1:=
fun a b c d=>
lL b (iv 0) fun e=>
lO e (fun e=>
lG b (iv 64) fun f=>
(lV c f e)) fun e=>
Br (Value.bool e) (
rt d (tP (.slice none 0 0) (iv 1)) c) (
CR d a 185 #[b] c fun a b=>
rt d (tP a (iv 0)) b)
theorem B3(h:L116 g a0 H R):sc g 116 #[a0] H R:=
  sd (.n .e (.n (.n (.h 0 [] [1] .e .e) .e) .e)) Tryz.func116 h
def L117:Y1:=
fun _ a b c=>
lL a (iv 1) fun d=>
lO d (fun d=>
lG a (iv 64) fun e=>
(lV b e d)) fun d=>
Br (Value.bool d) (
rt c (tP (.pointer none) (iv 1)) b) (
br 266 1 8 (.map none) b a a fun b d=>
Build Tryz.prog 265 [(0,b)] fun b=>
dP d (.cells (Value.cells b) 265 (0,0)) fun b d=>
∃(e:Jt) (f:Mt),JE e [(iv 0)] d∧∀d:Value,∀g:Hp,e [d] g→∀_:Fr,
lL d a fun a=>
Br a (
lM 0 (pt b) g fun a=>
mD g fun h i=>
aj 1 a d fun a=>
St 1 i a h fun a=>
lA d (iv 1) fun h=>
aq e f [h] a [d] g) (
rt c (tP (pt b) (iv 0)) g))
theorem B2(h:L117 g a0 H R):sc g 117 #[a0] H R:=
  sd (.n .e (.n (.n (.h 0 [] [1] .e .e) .e) (.n .e (.n (.n .e (.n (.h 0 [17] [4,16] .e .e) .e)) .e)))) Tryz.func117 h
def L118:Y2:=
fun a b c d e=>
lW d #[(.pointer none),(.pointer none),(.slice none 0 0),(.slice none 0 0)] 115 fun d f=>
CR e a 186 #[b] f fun a b=>
lX a fun a f=>
Build Tryz.prog 115 [(0,a),(1,c)] fun a=>
St 4 b (pt d) a fun a=>
av 4 a (pt d) fun b=>
rt e (tP b f) a
theorem B1(h:L118 g a0 a1 H R):sc g 118 #[a0,a1] H R:=
  sd .e Tryz.func118 h
variable {g:Gh} {a0 a1 a2 a3 a4 a5 a6 a7 a8 a9 p5 pZ Sb Sa R9 R8:Value} {H:Hp} {R:Rt}
def L121:Y2:=
fun a b c d e=>
aa .ptr .eql b (.pointer none) fun f=>
Br f (
rt e (iv 10) d) (
lC 0 b fun f=>
CR e a 173 #[f,c] d fun a d=>
Un .not a fun a=>
Br a (
rt e (iv 3) d) (
∀a:Jt,(∀f:Hp,(∀_:Fr,
lC 7 b fun g=>
St 1 f g (.slice none 0 0) fun g=>
rt e (iv 0) g)→a [] f)→
lG c (ui 1) fun f=>
Br f (
lC 0 b fun f=>
ag 3 f fun f=>
Ld d f fun f=>
lI 1 f c d fun f=>
lE f (Value.int .i32 65535) fun f=>
Br f (
rt e (iv 8) d) (
lC 0 b fun e=>
ag 3 e fun e=>
Ld d e fun e=>
lI 1 e c d fun f=>
lA f (Value.int .i32 1) fun f=>
aj 1 e c fun e=>
St 1 d e f fun e=>
lC 0 b fun f=>
ag 3 f fun f=>
Ld e f fun f=>
lI 1 f c e fun f=>
lE f (Value.int .i32 1) fun f=>
Br f (
lC 0 b fun b=>
ag 2 b fun b=>
Ld e b fun b=>
lI 1 b c e fun f=>
lA f (Value.int .i32 1) fun f=>
aj 1 b c fun b=>
St 1 e b f fun b=>
JE a [] b) (
JE a [] e))) (
JE a [] d)))
theorem sr(h:L121 g a0 a1 H R):sc g 121 #[a0,a1] H R:=
  sd (.n .e (.n .e (.h 1 [] [0] .e .e))) Tryz.func121 h
def L122:Y2:=
fun a b c d e=>
CR e a 88 #[b] d fun d f=>
App Tryz.prog 57 2 32 (.agg #[(iv 0),(.slice none 0 0)]) f (.slice none 0 0) d fun d f=>
App Tryz.prog 57 2 32 (.agg #[(iv 0),(.slice none 0 0)]) f d c fun c d=>
DR d fun f=>
lM 1 b f fun g=>
CN a 167 #[b,c] d fun a b=>
aJ b f∧
lA (iv 2) a fun a=>
aa .num .leq a g fun a=>
rt e a b
theorem BZ(h:L122 g a0 a1 H R):sc g 122 #[a0,a1] H R:=
  sd (hN 4 (.n (.h 0 [0,1,4,5,6,7,2,3,8,9] [] .e .e) .e)) Tryz.func122 h
def L124:Y2:=
fun a b c d e=>
dP d (.cells (Value.cells c) 57 (0,0)) fun c d=>
av 2 d (pt c) fun f=>
CR e a 190 #[f] d fun d f=>
Br d (
rt e (iv 0) f) (
∃(d:Jt) (g:Mt),JE d [(iv 0)] f∧∀f:Value,∀h:Hp,d [f] h→∀_:Fr,
lM 3 b h fun i=>
aA i fun i=>
lL f i fun i=>
Br i (
DR h fun i=>
lM 3 b i fun j=>
aj 3 j f fun j=>
ag 0 j fun j=>
av 2 i j fun j=>
av 2 i (pt c) fun k=>
CN a 36 #[j,k] h fun a j=>
aJ j i∧
Br a (
lM 3 b j fun a=>
aj 3 a f fun a=>
ag 2 a fun a=>
Ld j a fun a=>
aa .num .geq a (iv 65535) fun a=>
Br a (
rt e (iv 8) j) (
lM 3 b j fun a=>
aj 3 a f fun i=>
ag 2 i fun i=>
Ld j i fun i=>
lA i (iv 1) fun i=>
aj 3 a f fun a=>
ag 2 a fun a=>
St 1 j a i fun a=>
rt e (iv 0) a)) (
lA f (iv 1) fun a=>
aq d g [a] j [f] h)) (
DR h fun a=>
lM 3 b a fun d=>
av 2 a (pt c) fun c=>
Build Tryz.prog 241 [(0,c),(1,(iv 1))] fun c=>
an Tryz.prog 72 1 [(0,c)] h fun c f=>
aJ f a∧
App Tryz.prog 241 3 40 (.agg #[(iv 0),(.slice none 0 0),(iv 0)]) f d c fun c d=>
aJ d a∧
lC 3 b fun a=>
St 1 d a c fun a=>
rt e (iv 0) a))
theorem sq(h:L124 g a0 a1 H R):sc g 124 #[a0,a1] H R:=
  sd (.n .e (.n .e (.n (.n .e (.n (.h 0 [5] [0,3] (.n .e (.n (.n (.n (.h 0 [0,1,2,3,4,5,6,7,8,9] [] .e .e) .e) .e) .e)) .e) .e)) (.n (.h 0 [0,1,2,3,4,5,6,7,8,9,10,11] [] .e .e) .e)))) Tryz.func124 h
def L131:Y2:=
fun a b c d e=>
aa .ptr .eql b (.pointer none) fun f=>
Br f (
rt e (iv 10) d) (
∀f:Jt,(∀g:Hp,(∀_:Fr,
lC 7 b fun h=>
St 1 g h (.slice none 0 0) fun h=>
rt e (iv 0) h)→f [] g)→
lG c (ui 1) fun g=>
Br g (
CR e a 95 #[b,c] d fun g h=>
lE g (iv 0) fun g=>
Br g (
rt e (iv 3) h) (
lC 0 b fun g=>
ag 3 g fun g=>
Ld h g fun g=>
lI 1 g c h fun i=>
lS i (Value.int .i32 1) fun i=>
aj 1 g c fun g=>
St 1 h g i fun g=>
lC 0 b fun h=>
ag 3 h fun h=>
Ld g h fun h=>
lI 1 h c g fun h=>
lE h (Value.int .i32 0) fun h=>
Br h (
lC 0 b fun b=>
CR e a 142 #[b,c] g fun _ a=>
JE f [] a) (
JE f [] g))) (
JE f [] d))
theorem sn(h:L131 g a0 a1 H R):sc g 131 #[a0,a1] H R:=
  sd (.n .e (.n .e (.h 1 [] [0] .e .e))) Tryz.func131 h
def L134:Y3:=
fun a b c d e f=>
lC 0 b fun g=>
ag 1 g fun g=>
Ld e g fun g=>
CR f a 203 #[g,c] e fun c e=>
lX c fun c _=>
aA c fun g=>
∃(h:Jt) (i:Mt),JE h [(.slice none 0 0),(iv 0)] e∧∀e j:Value,∀k:Hp,h [e,j] k→∀_:Fr,
lL j g fun g=>
Br g (
∀g:Jt,(∀l:Value,∀m:Hp,(∀_:Fr,
lA j (iv 1) fun n=>
aq h i [l,n] m [e,j] k)→g [l] m)→
lI 1 c j k fun c=>
lC 0 b fun h=>
CR f a 174 #[h,c] k fun h i=>
lQ 3 i #[(iv 0),(ui 0),(ui 0)] 161 h fun h i=>
∀j:Jt,(∀l:Value,∀m:Hp,(∀_:Fr,
Br l (
JE g [e] m) (
av 3 m (pt h) fun n=>
Build Tryz.prog 203 [(0,c),(1,n)] fun c=>
lQ 8 m #[(ui 0),(iv 0),(ui 0),(ui 0),(ui 0),(ui 0),(ui 0),(ui 0)] 203 c fun c n=>
lD 1 (pt h) n fun o=>
CR f a 204 #[b,o,d] n fun n o=>
lX n fun n p=>
ag 4 (pt c) fun q=>
St 1 o q n fun n=>
ag 5 (pt c) fun o=>
St 1 n o p fun n=>
lD 2 (pt h) n fun o=>
CR f a 204 #[b,o,d] n fun n o=>
lX n fun n p=>
ag 6 (pt c) fun q=>
St 1 o q n fun n=>
ag 7 (pt c) fun o=>
St 1 n o p fun n=>
av 8 n (pt c) fun c=>
an Tryz.prog 199 1 [(0,c)] n fun c n=>
App Tryz.prog 203 8 40 (.agg #[(ui 0),(iv 0),(ui 0),(ui 0),(ui 0),(ui 0),(ui 0),(ui 0)]) n e c fun c n=>
JE g [c] n))→j [l] m)→
DR i fun c=>
lC 0 b fun g=>
lD 1 (pt h) c fun l=>
∀m:Hp,
CN (a.add m) 174 #[g,l] i fun g i=>
aJ i c∧
yA 0 g fun g=>
lN g d fun g=>
Br g (
lC 0 b fun b=>
lD 2 (pt h) c fun g=>
∀h:Hp,
CN (a.add h) 174 #[b,g] i fun a b=>
aJ b c∧
yA 0 a fun a=>
lN a d fun a=>
ay vT a vF fun a=>
JE j [a] b) (
JE j [vF] i)) (
rt f e k)
theorem BY(h:L134 g a0 a1 a2 H R):sc g 134 #[a0,a1,a2] H R:=
  sd (hN 3 (.n (.n .e (.n (.h 0 [7,26] [0,2,24,25] (.n .e (.n .e (.h 1 [7] [0,2,24,25,26] (.n (.n .e (.n .e (.n (.h 1 [54] [0,2,7,11,12,24,25,26] (.h 1 [] [] (hr 0 [] 0 5 (.h 0 [7] [] (hr 0 [] 5 2 (.h 0 [8] [] (.h 2 [9] [] (hr 0 [] 10 5 (.h 0 [17] [] (hr 0 [] 15 2 (hr 0 [] 18 2 .e)) .e)) (hr 0 [] 10 9 (.h 3 [19] [] .e .e))) .e)) .e)) .e) .e) .e))) .e) .e))) .e) .e)) .e)) Tryz.func134 h
def L135:Y2:=
fun a b c d e=>
DR d fun f=>
lM 0 b f fun g=>
lM 0 b f fun b=>
CN a 58 #[g] d fun d g=>
aJ g f∧
lA d c fun c=>
CN a 146 #[b] g fun a b=>
aJ b f∧
aa .num .leq c a fun a=>
rt e a b
theorem BX(h:L135 g a0 a1 H R):sc g 135 #[a0,a1] H R:=
  sd (.n .e (.n (.h 0 [0,1,2,3,5,7,8,9,10,4,6,11,12,13] [] .e .e) .e)) Tryz.func135 h
def L136:Y3:=
fun a b c d e f=>
mD e fun e g=>
aA d fun h=>
∃(i:Jt) (j:Mt),JE i [(iv 0)] g∧∀g:Value,∀k:Hp,i [g] k→∀_:Fr,
lL g h fun h=>
Br h (
aj 8 d g fun d=>
av 8 k d fun d=>
lQ 8 k #[(ui 0),(iv 0),(ui 0),(ui 0),(ui 0),(ui 0),(ui 0),(ui 0)] 203 d fun d h=>
lD 4 (pt d) h fun l=>
lD 6 (pt d) h fun m=>
Build Tryz.prog 161 [(0,c),(1,l),(2,m)] fun l=>
lD 5 (pt d) h fun m=>
lD 7 (pt d) h fun d=>
Build Tryz.prog 161 [(0,c),(1,m),(2,d)] fun c=>
an Tryz.prog 286 2 [(0,l),(1,c)] h fun c d=>
aA c fun h=>
∃(l:Jt) (m:Mt),JE l [(iv 0)] d∧∀d:Value,∀n:Hp,l [d] n→∀_:Fr,
lL d h fun h=>
Br h (
∀h:Jt,(∀o:Hp,(∀_:Fr,
lA d (iv 1) fun p=>
aq l m [p] o [d] n)→h [] o)→
aj 3 c d fun c=>
av 3 n c fun c=>
lQ 3 n #[(iv 0),(ui 0),(ui 0)] 161 c fun c d=>
DR d fun l=>
lC 0 b fun b=>
ag 1 b fun b=>
Ld l b fun b=>
av 3 l (pt c) fun m=>
CN a 205 #[b,m] d fun b d=>
aJ d l∧
lX b fun _ b=>
Un .not b fun b=>
lU b (fun b=>
lD 1 (pt c) d fun l=>
lD 2 (pt c) d fun m=>
lN l m fun l=>
(lV d l b)) fun b=>
Br (Value.bool b) (
O0 Tryz.prog a 10 (lZ Tryz.f136 10) [7,11] [e,(pt c)] d fun a=>∀_:Fr,
JE h [] a) (
JE h [] d)) (
lA g (iv 1) fun a=>
aq i j [a] n [g] k)) (
vy k e fun a=>
rt f a k)
theorem BW(h:L136 g a0 a1 a2 H R):sc g 136 #[a0,a1,a2] H R:=
  sd (.n .e (.n .e (.n (.n .e (.n (.h 0 [17] [0,1,7,15,16] (.n .e (.n .e (.n (.n (.n .e (.n .e (.n (.h 0 [35] [0,1,7,15,16,17,33,34] (.n .e (.n .e (.h 1 [] [0,1,7,15,16,17,33,34,35] (.n (.n .e (.n (.h 0 [0,1,2,3,4,5,6,7,8,9,10,11] [] .e .e) (.n (.h 0 [] [1] .e .e) (.n (.h 9 [7,11] [] .e .e) .e)))) .e) .e))) .e) .e))) .e) .e))) .e) .e)) .e))) Tryz.func136 h
def L137:Y2:=
fun a b c d e=>
dP d (.cells (Value.cells c) 161 (0,0)) fun c d=>
lD 0 (pt c) d fun f=>
CR e a 206 #[b,f] d fun a d=>
lN a (iv 0) fun f=>
Br f (
rt e a d) (
lM 0 b d fun a=>
lD 0 (pt c) d fun f=>
lI 1 a f d fun a=>
av 3 d (pt c) fun f=>
jj Tryz.prog 161 (ui 0) true d a f fun a=>
lX a fun _ a=>
Un .not a fun a=>
Br a (
rt e (iv 10) d) (
DR d fun a=>
lM 0 b a fun b=>
lD 0 (pt c) a fun f=>
lI 1 b f a fun b=>
av 3 a (pt c) fun c=>
oq Tryz.prog 161 d b c fun b=>
aJ b a∧
rt e (iv 0) b))
theorem BV(h:L137 g a0 a1 H R):sc g 137 #[a0,a1] H R:=
  sd (hN 3 (.n (.h 0 [0,1,2,3,4,5,6,7,8,9] [] .e .e) .e)) Tryz.func137 h
def L138:Y4:=
fun a b c d e f g=>
lE d e fun h=>
Br h (
rt g d f) (
Build Tryz.prog 161 [(0,c),(1,d),(2,e)] fun c=>
lQ 3 f #[(iv 0),(ui 0),(ui 0)] 161 c fun c d=>
DR d fun e=>
lM 1 b e fun f=>
av 3 e (pt c) fun h=>
CN a 205 #[f,h] d fun d f=>
aJ f e∧
lX d fun d e=>
Br e (
rt g d f) (
av 3 f (pt c) fun c=>
CR g a 207 #[b,c] f fun a b=>
rt g a b))
theorem m9(h:L138 g a0 a1 a2 a3 H R):sc g 138 #[a0,a1,a2,a3] H R:=
  sd (hN 3 (.n (.n (.h 0 [0,1,2,3,4,5,6,7,8,9,10] [] .e .e) .e) .e)) Tryz.func138 h
def L139:Y2:=
fun _ a b c d=>
lG b (ui 1) fun e=>
Br e (
lM 2 a c fun a=>
lI 1 a b c fun e=>
lA e (Value.int .i32 1) fun e=>
aj 1 a b fun a=>
St 1 c a e fun a=>
rt d (.tuple #[]) a) (
rt d (.tuple #[]) c)
theorem BU(h:L139 g a0 a1 H R):sc g 139 #[a0,a1] H R:=
  sd .e Tryz.func139 h
def L140:Y3:=
fun a b c d e f=>
dP e (.cells (Value.cells d) 161 (0,0)) fun d e=>
aa .ptr .eql b (.pointer none) fun g=>
Br g (
rt f (iv 10) e) (
av 3 e (pt d) fun g=>
CR f a 208 #[b,g] e fun e g=>
lN e (iv 0) fun h=>
Br h (
rt f e g) (
CR f a 209 #[b,c] g fun a e=>
lN a (iv 0) fun g=>
Br g (
rt f a e) (
DR e fun a=>
lM 1 b a fun b=>
av 3 a (pt d) fun a=>
aj 5 b c fun b=>
ag 0 b fun b=>
St 3 e b a fun a=>
rt f (iv 0) a)))
theorem BT(h:L140 g a0 a1 a2 H R):sc g 140 #[a0,a1,a2] H R:=
  sd (hN 4 (.n (.h 0 [0,1,2,3,4,5,6,7,8] [] .e .e) .e)) Tryz.func140 h
def L141:Y3:=
fun a b c d e f=>
dP e (.cells (Value.cells c) 161 (0,0)) fun c e=>
lD 0 (pt c) e fun g=>
CR f a 206 #[b,g] e fun a e=>
lN a (iv 0) fun g=>
Br g (
rt f a e) (
lM 0 b e fun a=>
lD 0 (pt c) e fun g=>
lI 1 a g e fun a=>
av 3 e (pt c) fun g=>
jj Tryz.prog 161 (ui 0) true e a g fun a=>
lX a fun _ a=>
Br a (
rt f (iv 11) e) (
DR e fun a=>
lM 0 b a fun b=>
lD 0 (pt c) a fun g=>
lI 1 b g a fun b=>
av 3 a (pt c) fun a=>
jN Tryz.prog 161 e b a d fun a=>
rt f (iv 0) a))
theorem BS(h:L141 g a0 a1 a2 H R):sc g 141 #[a0,a1,a2] H R:=
  sd (hN 3 (.n (.h 0 [0,1,2,3,4,5,6,7,8,9,10] [] .e .e) .e)) Tryz.func141 h
def L142:Y2:=
fun a b c d e=>
an Tryz.prog 27 1 [(0,c)] d fun c d=>
∃(f:Jt) (g:Mt),JE f [c] d∧∀c:Value,∀d:Hp,f [c] d→∀_:Fr,
aA c fun h=>
lG h (iv 0) fun h=>
Br h (
aA c fun h=>
lS h (iv 1) fun h=>
lI 1 c h d fun i=>
di 1 c none (some h) fun h=>
aa .num .leq i (ui 1) fun j=>
Br j (
aq f g [h] d [c] d) (
lM 2 b d fun j=>
lI 1 j i d fun k=>
lS k (Value.int .i32 1) fun k=>
aj 1 j i fun j=>
St 1 d j k fun j=>
lM 2 b j fun k=>
lI 1 k i j fun k=>
lG k (Value.int .i32 0) fun k=>
Br k (
aq f g [h] j [c] d) (
CR e a 174 #[b,i] j fun j k=>
lQ 3 k #[(iv 0),(ui 0),(ui 0)] 161 j fun j k=>
DR k fun l=>
lM 1 b l fun m=>
av 3 l (pt j) fun l=>
CN a 137 #[m,l] k fun _ k=>
lM 0 b k fun b=>
CR e a 210 #[b,i] k fun _ a=>
lD 1 (pt j) a fun b=>
lD 2 (pt j) a fun i=>
an Tryz.prog 27 2 [(0,b),(1,i)] a fun a b=>
App Tryz.prog 77 1 4 (ui 0) b h a fun a b=>
aq f g [a] b [c] d))) (
rt e (.tuple #[]) d)
theorem BR(h:L142 g a0 a1 H R):sc g 142 #[a0,a1] H R:=
  sd (.n .e (.n (.h 0 [4] [0] (.n .e (.n (hN 6 (.n (.h 0 [0,1,2,3,4,5] [] .e .e) .e)) .e)) .e) .e)) Tryz.func142 h
def L145:Y2:=
fun a b c d e=>
aa .ptr .eql b (.pointer none) fun f=>
Br f (
rt e (tP (iv 0) (iv 10)) d) (
∀f:Jt,(∀g:Value,∀h:Hp,(∀_:Fr,
Br g (
rt e (tP (iv 0) (iv 1)) h) (
∃(i:Jt) (j:Mt),JE i [(iv 0)] h∧∀k:Value,∀l:Hp,i [k] l→∀_:Fr,
CR e a 34 #[b] l fun m n=>
lG m c fun m=>
Br m (
CR e a 18 #[b] n fun _ m=>
lA k (iv 1) fun o=>
aq i j [o] m [k] l) (
rt e (tP k (iv 0)) n)))→f [g] h)→
lL c (iv 0) fun g=>
Split g false (
CR e a 34 #[b] d fun a b=>
lG c a fun a=>
ay vF vT a fun a=>
JE f [a] b) (
ay vT vT undef fun a=>
JE f [a] d))
theorem BQ(h:L145 g a0 a1 H R):sc g 145 #[a0,a1] H R:=
  sd (.n .e (.n .e (.n (.h 1 [16] [0,1] .e .e) (.n .e (.n (.n (.h 0 [6] [0,1] .e .e) .e) .e))))) Tryz.func145 h
def L146:Y1:=
fun _ a b c=>
aa .ptr .eql a (.pointer none) fun d=>
Br d (
rt c (iv 0) b) (
lM 0 a b fun a=>
rt c a b)
theorem BP(h:L146 g a0 H R):sc g 146 #[a0] H R:=
  sd .e Tryz.func146 h
def L147:Y2:=
fun a b c d e=>
dP d (.cells (Value.cells c) 4 (0,0)) fun c d=>
lW d #[(iv 0),(.slice none 0 0)] 57 fun d f=>
CR e a 211 #[b] f fun f g=>
lN f (iv 0) fun h=>
Br h (
Build Tryz.prog 57 [] fun h=>
St 2 g (pt d) h fun h=>
av 2 h (pt d) fun i=>
rt e (tP i f) h) (
CR e a 212 #[b,(.func (.func 213) #[] #[(pt c)])] g fun a b=>
St 2 b (pt d) a fun a=>
av 2 a (pt d) fun b=>
rt e (tP b (iv 0)) a)
theorem BO(h:L147 g a0 a1 H R):sc g 147 #[a0,a1] H R:=
  sd .e Tryz.func147 h
def L148:Y3:=
fun a b c d e f=>
dP e (.cells (Value.cells b) 57 (0,0)) fun b e=>
lW e #[(iv 0),(.slice none 0 0)] 57 fun e g=>
av 2 g (pt b) fun h=>
CR f a 214 #[h,c] g fun g h=>
lN g (iv 0) fun i=>
Br i (
Build Tryz.prog 57 [] fun i=>
St 2 h (pt e) i fun i=>
av 2 i (pt e) fun j=>
rt f (tP j g) i) (
av 2 h (pt b) fun b=>
CR f a 215 #[b,c,d] h fun a b=>
St 2 b (pt e) a fun a=>
av 2 a (pt e) fun b=>
rt f (tP b (iv 0)) a)
theorem BN(h:L148 g a0 a1 a2 H R):sc g 148 #[a0,a1,a2] H R:=
  sd .e Tryz.func148 h
def L150:Y2:=
fun a b c d e=>
aa .ptr .eql b (.pointer none) fun f=>
Br f (
rt e (iv 10) d) (
aA c fun f=>
∃(g:Jt) (h:Mt),JE g [(iv 0)] d∧∀d:Value,∀i:Hp,g [d] i→∀_:Fr,
lL d f fun f=>
Br f (
lI 1 c d i fun c=>
CR e a 97 #[b,c] i fun a b=>
lX a fun a c=>
lQ 3 b #[(iv 0),(ui 0),(ui 0)] 161 a fun _ a=>
lN c (iv 0) fun b=>
Br b (
rt e c a) (
lA d (iv 1) fun b=>
aq g h [b] a [d] i)) (
rt e (iv 0) i))
theorem BM(h:L150 g a0 a1 H R):sc g 150 #[a0,a1] H R:=
  sd (.n .e (.n .e (.n (.n .e (.n (.h 0 [13] [0,11,12] .e .e) .e)) .e))) Tryz.func150 h
def L151:Y5:=
fun a b c d e f g h=>
dP g (.cells (Value.cells b) 26 (0,0)) fun b g=>
dP g (.cells (Value.cells d) 57 (0,0)) fun d g=>
dP g (.cells (Value.cells e) 57 (0,0)) fun e g=>
dP g (.cells (Value.cells f) 221 (0,0)) fun f g=>
lW g #[(iv 0),(.slice none 0 0)] 57 fun g i=>
mD i fun i j=>
av 2 j (pt d) fun d=>
ez (.int .u32) j i (ui 0) d fun d=>
av 2 d (pt e) fun e=>
ez (.int .u32) d i (ui 1) e fun d=>
lQ 1 d #[(.map none)] 295 i fun d e=>
lW e #[.nilFunc] 296 fun e i=>
St 1 i (pt e) (.func (.func 216) #[] #[(pt d),(pt b),(pt f),(pt e)]) fun b=>
Ld b (pt e) fun d=>
gk Tryz.prog a d #[c] b (fun a b=>
St 2 b (pt g) a fun a=>
av 2 a (pt g) fun b=>
rt h b a) (O1 h)
theorem BL(h:L151 g a0 a1 a2 a3 a4 H R):sc g 151 #[a0,a1,a2,a3,a4] H R:=
  sd .e Tryz.func151 h
def L152:Y4:=
fun a b c d e f g=>
dP f (.cells (Value.cells b) 161 (0,0)) fun b f=>
dP f (.cells (Value.cells c) 57 (0,0)) fun c f=>
dP f (.cells (Value.cells d) 57 (0,0)) fun d f=>
lW f #[(iv 0),(.slice none 0 0)] 57 fun f h=>
Ld h e fun e=>
lD 0 (pt b) h fun b=>
CR g a 153 #[e,b] h fun b e=>
lX b fun b _=>
lQ 2 e #[(iv 0),(.slice none 0 0)] 57 b fun b e=>
av 2 e (pt b) fun b=>
av 2 e (pt d) fun d=>
av 2 e (pt c) fun c=>
CR g a 154 #[b,d,c] e fun a b=>
lX a fun a _=>
lQ 2 b #[(iv 0),(.slice none 0 0)] 57 a fun a b=>
av 2 b (pt a) fun a=>
St 2 b (pt f) a fun a=>
av 2 a (pt f) fun b=>
rt g b a
theorem BJ(h:L152 g a0 a1 a2 a3 H R):sc g 152 #[a0,a1,a2,a3] H R:=
  sd .e Tryz.func152 h
def L153:Y2:=
fun a b c d e=>
dP d (.cells (Value.cells c) 3 (0,0)) fun c d=>
lW d #[(iv 0),(.slice none 0 0)] 57 fun d f=>
CR e a 211 #[b] f fun f g=>
lN f (iv 0) fun h=>
Br h (
Build Tryz.prog 57 [] fun h=>
St 2 g (pt d) h fun h=>
av 2 h (pt d) fun i=>
rt e (tP i f) h) (
Ld g (pt c) fun f=>
lL f (iv 0) fun f=>
lO f (fun f=>
Ld g (pt c) fun h=>
aa .num .geq h b fun h=>
(lV g h f)) fun f=>
Br (Value.bool f) (
Build Tryz.prog 57 [] fun f=>
St 2 g (pt d) f fun f=>
av 2 f (pt d) fun h=>
rt e (tP h (iv 2)) f) (
CR e a 212 #[b,(.func (.func 218) #[] #[(pt c)])] g fun a b=>
St 2 b (pt d) a fun a=>
av 2 a (pt d) fun b=>
rt e (tP b (iv 0)) a))
theorem BI(h:L153 g a0 a1 H R):sc g 153 #[a0,a1] H R:=
  sd (.n .e (.n .e (.n (.n (.h 0 [] [1] .e .e) .e) .e))) Tryz.func153 h
def L154:Y3:=
fun a b c d e f=>
dP e (.cells (Value.cells b) 57 (0,0)) fun b e=>
dP e (.cells (Value.cells c) 57 (0,0)) fun c e=>
dP e (.cells (Value.cells d) 57 (0,0)) fun d e=>
lW e #[(iv 0),(.slice none 0 0)] 57 fun e g=>
av 2 g (pt b) fun h=>
av 2 g (pt c) fun i=>
av 2 g (pt d) fun j=>
an Tryz.prog 28 3 [(0,h),(1,i),(2,j)] g fun g h=>
CR f a 220 #[g] h fun g h=>
Un .not g fun g=>
Br g (
Build Tryz.prog 57 [] fun g=>
St 2 h (pt e) g fun g=>
av 2 g (pt e) fun i=>
rt f (tP i (iv 5)) g) (
lD 0 (pt b) h fun g=>
CR f a 212 #[g,(.func (.func 221) #[] #[(pt b),(pt c),(pt d)])] h fun a b=>
St 2 b (pt e) a fun a=>
av 2 a (pt e) fun b=>
rt f (tP b (iv 0)) a)
theorem BH(h:L154 g a0 a1 a2 H R):sc g 154 #[a0,a1,a2] H R:=
  sd .e Tryz.func154 h
def L155:Y1:=
fun a b c d=>
CR d a 175 #[b] c fun c e=>
Un .not c fun c=>
Br c (
rt d (tP (.slice none 0 0) (iv 5)) e) (
aA b fun c=>
lE c (iv 0) fun c=>
Br c (
rt d (tP (.slice none 0 0) (iv 0)) e) (
aj 2 b (iv 0) fun c=>
ag 0 c fun c=>
Ld e c fun c=>
br 50 1 8 (wi 0) e c c fun c e=>
aA b fun f=>
∃(g:Jt) (h:Mt),JE g [(iv 0)] e∧∀e:Value,∀i:Hp,g [e] i→∀_:Fr,
lL e f fun f=>
Br f (
aj 2 b e fun b=>
av 2 i b fun b=>
lQ 2 i #[(iv 0),(.slice none 0 0)] 57 b fun b f=>
av 2 f (pt b) fun b=>
CR d a 156 #[b] f fun a b=>
lX a fun a _=>
aA c fun f=>
∃(j:Jt) (k:Mt),JE j [(iv 0)] b∧∀b:Value,∀l:Hp,j [b] l→∀_:Fr,
lL b f fun f=>
Br f (
∀f:Jt,(∀m:Hp,(∀_:Fr,
lA b (iv 1) fun n=>
aq j k [n] m [b] l)→f [] m)→
aa .num .shr a b fun j=>
aa .num .and j (wi 1) fun j=>
lE j (wi 1) fun j=>
Br j (
DR l fun j=>
lI 1 c b j fun j=>
aa .num .shl (wi 1) b fun k=>
aa .num .andNot a k fun a=>
aa .num .or j a fun a=>
aj 1 c b fun b=>
St 1 l b a fun a=>
JE f [] a) (
JE f [] l)) (
lA e (iv 1) fun a=>
aq g h [a] l [e] i)) (
rt d (tP c (iv 0)) i)))
theorem BG(h:L155 g a0 H R):sc g 155 #[a0] H R:=
  sd (hN 4 (.n (.n .e (.n (.h 0 [23] [4,21,22] (.n .e (.n .e (.n (.n (hN 3 (.n (.h 0 [34] [4,7,21,22,23,33] (.n .e (.n .e (.h 1 [] [4,7,21,22,23,33,34] (.n (.n .e (.n .e (.n (.h 0 [0,1,2,3,4,5,6,7,8,9,10] [] .e .e) .e))) .e) .e))) .e) .e)) .e) .e))) .e) .e)) .e)) Tryz.func155 h
def L156:Y1:=
fun a b c d=>
dP c (.cells (Value.cells b) 57 (0,0)) fun b c=>
av 2 c (pt b) fun e=>
an Tryz.prog 28 1 [(0,e)] c fun c e=>
CR d a 220 #[c] e fun c e=>
Un .not c fun c=>
Br c (
rt d (tP (wi 0) (iv 5)) e) (
lD 0 (pt b) e fun c=>
∃(f:Jt) (g:Mt),JE f [(wi 0),(iv 0)] e∧∀e h:Value,∀i:Hp,f [e,h] i→∀_:Fr,
lL h c fun c=>
Br c (
∀c:Jt,(∀j:Value,∀k:Hp,(∀_:Fr,
lA h (iv 1) fun l=>
aq f g [j,l] k [e,h] i)→c [j] k)→
DR i fun f=>
av 2 f (pt b) fun g=>
av 2 f (pt b) fun b=>
CN a 215 #[g,h,vF] i fun g j=>
aJ j f∧
yA 1 g fun g=>
CN a 215 #[b,h,vT] j fun b j=>
aJ j f∧
yA 1 b fun b=>
CN a 222 #[g,b] j fun a b=>
aJ b f∧
Un .not a fun a=>
Br a (
aa .num .shl (wi 1) h fun a=>
aa .num .or e a fun a=>
JE c [a] b) (
JE c [e] b)) (
rt d (tP e (iv 0)) i))
theorem BF(h:L156 g a0 H R):sc g 156 #[a0] H R:=
  sd (hN 3 (.n (.n .e (.n (.h 0 [4,12] [1,11] (.n .e (.n .e (.h 1 [4] [1,11,12] (.n (.n .e (.n (.h 0 [0,1,4,5,2,3,6,7,8,9] [] .e .e) .e)) .e) .e))) .e) .e)) .e)) Tryz.func156 h
def L157:Y3:=
fun a b c d e f=>
CR f a 175 #[b] e fun e g=>
Un .not e fun e=>
Br e (
rt f (tP (iv 0) (iv 5)) g) (
∀e:Jt,(∀h:Value,∀i:Hp,(∀_:Fr,
lL d (iv 0) fun j=>
lO j (fun j=>
aa .num .geq d h fun k=>
(lV i k j)) fun j=>
lO (Value.bool j) (fun j=>
aa .num .shr c h fun k=>
lN k (wi 0) fun k=>
(lV i k j)) fun j=>
Br (Value.bool j) (
rt f (tP (iv 0) (iv 2)) i) (
aa .num .shr c d fun j=>
aa .num .and j (wi 1) fun j=>
lE j (wi 1) fun j=>
Br j (
rt f (tP (iv 0) (iv 4)) i) (
CR f a 176 #[b] i fun j k=>
∃(l:Jt) (m:Mt),JE l [j,(iv 0)] k∧∀j k:Value,∀n:Hp,l [j,k] n→∀_:Fr,
lL k h fun o=>
Br o (
∀o:Jt,(∀p:Value,∀q:Hp,(∀_:Fr,
lA k (iv 1) fun r=>
aq l m [p,r] q [j,k] n)→o [p] q)→
aa .num .shr c k fun c=>
aa .num .and c (wi 1) fun c=>
lE c (wi 1) fun c=>
Br c (
CR f a 177 #[j,k] n fun c k=>
lX c fun c _=>
JE o [c] k) (
JE o [j] n)) (
CR f a 177 #[j,d] n fun a c=>
lX a fun _ a=>
rt f (tP a (iv 0)) c))))→e [h] i)→
aA b fun a=>
lG a (iv 0) fun a=>
Br a (
aj 2 b (iv 0) fun a=>
ag 0 a fun a=>
Ld g a fun a=>
JE e [a] g) (
JE e [(iv 16)] g))
theorem BE(h:L157 g a0 a1 a2 H R):sc g 157 #[a0,a1,a2] H R:=
  sd (hN 3 (.h 1 [8] [0,1,2] .e (.n (.n (.h 0 [] [1] .e .e) .e) (.n .e (.n .e (.n (.n .e (.n (.h 0 [9,44] [1,2,43] (.n .e (.n .e (.h 1 [9] [1,2,43,44] .e .e))) .e) .e)) .e)))))) Tryz.func157 h
def L158:Y2:=
fun a b c d e=>
lM 0 b d fun f=>
aj 2 f c fun f=>
av 2 d f fun f=>
lQ 2 d #[(iv 0),(iv 0)] 233 f fun d f=>
∃(g:Jt) (h:Mt),JE g [c] f∧∀c:Value,∀f:Hp,g [c] f→∀_:Fr,
∀i:Jt,(∀j:Value,∀k:Hp,(∀_:Fr,
Br j (
lM 0 b k fun l=>
lS c (iv 1) fun m=>
aa .num .quo m (iv 2) fun m=>
aj 2 l m fun l=>
av 2 k l fun l=>
CR e a 159 #[b,c,l] k fun _ l=>
lS c (iv 1) fun m=>
aa .num .quo m (iv 2) fun m=>
aq g h [m] l [c] f) (
av 2 k (pt d) fun g=>
CR e a 159 #[b,c,g] k fun _ g=>
rt e (.tuple #[]) g))→i [j] k)→
DR f fun e=>
lG c (iv 0) fun g=>
Br g (
av 2 e (pt d) fun d=>
lM 0 b e fun b=>
lS c (iv 1) fun c=>
aa .num .quo c (iv 2) fun c=>
aj 2 b c fun b=>
av 2 e b fun b=>
∀c:Hp,
CN (a.add c) 223 #[d,b] f fun a b=>
aJ b e∧
ay vT a vF fun a=>
JE i [a] b) (
JE i [vF] f)
theorem BD(h:L158 g a0 a1 H R):sc g 158 #[a0,a1] H R:=
  sd (.n .e (.n (.n (.h 0 [1] [0,4] (.n (.h 1 [26] [0,1,4] (.h 1 [] [] (hr 0 [] 0 2 (.h 2 [2] [] (hr 0 [] 3 12 .e) (hr 0 [] 3 11 (.h 3 [14] [] .e .e)))) .e) .e) .e) .e) .e) .e)) Tryz.func158 h
def L159:Y3:=
fun _ a b c d e=>
dP d (.cells (Value.cells c) 233 (0,0)) fun c d=>
DR d fun f=>
lM 0 a f fun g=>
av 2 f (pt c) fun f=>
aj 2 g b fun g=>
St 2 d g f fun d=>
DR d fun f=>
lM 1 a f fun a=>
lD 0 (pt c) f fun c=>
ez (.int .i64) d a c b fun a=>
rt e (.tuple #[]) a
theorem BC(h:L159 g a0 a1 a2 H R):sc g 159 #[a0,a1,a2] H R:=
  sd (.n .e (.n (.h 0 [0,1,2,3,4,5,6,7] [] .e .e) (.h 0 [0,1,2,3,4,5,6,7] [] .e .e))) Tryz.func159 h
def L160:Y2:=
fun a b c d e=>
lM 0 b d fun f=>
aj 2 f c fun f=>
av 2 d f fun f=>
lQ 2 d #[(iv 0),(iv 0)] 233 f fun d f=>
∃(g:Jt) (h:Mt),JE g [c] f∧∀c:Value,∀f:Hp,g [c] f→∀_:Fr,
aa .num .mul (iv 2) c fun i=>
lA i (iv 1) fun i=>
∀j:Jt,(∀k:Value,∀l:Hp,(∀_:Fr,
∀m:Jt,(∀n:Value,∀o:Hp,(∀_:Fr,
Br n (
av 2 o (pt d) fun p=>
CR e a 159 #[b,c,p] o fun _ p=>
rt e (.tuple #[]) p) (
lM 0 b o fun p=>
aj 2 p k fun p=>
av 2 o p fun p=>
CR e a 159 #[b,c,p] o fun _ e=>
aq g h [k] e [c] f))→m [n] o)→
DR l fun c=>
lM 0 b c fun e=>
aA e fun e=>
aa .num .geq k e fun e=>
Br e (
JE m [vT] l) (
lM 0 b c fun e=>
aj 2 e k fun e=>
av 2 c e fun e=>
av 2 c (pt d) fun d=>
∀g:Hp,
CN (a.add g) 223 #[e,d] l fun d e=>
aJ e c∧
Un .not d fun c=>
ay vF vT c fun c=>
JE m [c] e))→j [k] l)→
∀c:Jt,(∀d:Value,∀e:Hp,(∀_:Fr,
Br d (
lA i (iv 1) fun g=>
JE j [g] e) (
JE j [i] e))→c [d] e)→
DR f fun d=>
lA i (iv 1) fun e=>
lM 0 b d fun g=>
aA g fun g=>
lL e g fun e=>
Br e (
lM 0 b d fun e=>
lA i (iv 1) fun g=>
aj 2 e g fun e=>
av 2 d e fun e=>
lM 0 b d fun b=>
aj 2 b i fun b=>
av 2 d b fun b=>
∀g:Hp,
CN (a.add g) 223 #[e,b] f fun a b=>
aJ b d∧
ay vT a vF fun a=>
JE c [a] b) (
JE c [vF] f)
theorem BB(h:L160 g a0 a1 H R):sc g 160 #[a0,a1] H R:=
  sd (.n .e (.n (.n (.h 0 [1] [0,4] (.n (.n .e (.h 1 [5] [0,1,4] (.h 1 [41] [0,1,4,5] (.h 1 [] [] (hr 0 [] 0 8 (.h 2 [8] [] (hr 0 [] 9 17 .e) (hr 0 [] 9 16 (.h 3 [25] [] .e .e)))) .e) .e) (.n (.h 1 [62] [0,1,4,5] (.h 1 [] [] (hr 0 [] 0 7 (.h 2 [7] [] (hr 0 [] 8 10 (.h 3 [18] [] .e .e)) (hr 0 [] 8 11 .e))) .e) .e) .e))) .e) .e) .e) .e)) Tryz.func160 h
def L161:Y2:=
fun a b c d e=>
dP d (.cells (Value.cells b) 57 (0,0)) fun b d=>
DR d fun f=>
av 2 f (pt b) fun g=>
av 2 f (pt b) fun b=>
CN a 163 #[g,c,vF] d fun d g=>
aJ g f∧
CN a 163 #[b,c,vT] g fun b c=>
aJ c f∧
CN a 36 #[d,b] c fun a b=>
aJ b f∧
Un .not a fun a=>
rt e a b
theorem BA(h:L161 g a0 a1 H R):sc g 161 #[a0,a1] H R:=
  sd (.n .e (.n (.h 0 [0,1,3,4,2,5,6,7,8] [] .e .e) .e)) Tryz.func161 h
def L162:Y2:=
fun _ a b c d=>
dP c (.cells (Value.cells a) 57 (0,0)) fun a c=>
lD 1 (pt a) c fun a=>
aa .num .quo b (iv 64) fun e=>
lI 1 a e c fun a=>
aa .num .rem b (iv 64) fun b=>
aa .num .shr a b fun a=>
aa .num .rem a (wi 2) fun a=>
lE a (wi 1) fun a=>
rt d a c
theorem Bz(h:L162 g a0 a1 H R):sc g 162 #[a0,a1] H R:=
  sd .e Tryz.func162 h
def L163:Y3:=
fun a b c d e f=>
dP e (.cells (Value.cells b) 57 (0,0)) fun b e=>
lW e #[(iv 0),(.slice none 0 0)] 57 fun e g=>
DR g fun h=>
lD 0 (pt b) h fun i=>
lD 1 (pt b) h fun j=>
aA j fun j=>
∀_:Hp,
br 50 1 8 (wi 0) g j j fun g j=>
aJ j h∧
Build Tryz.prog 57 [(0,i),(1,g)] fun g=>
lW j #[(iv 0),(.slice none 0 0)] 57 fun h i=>
∀_:Hp,
St 2 i (pt h) g fun g=>
aa .num .geq c (iv 6) fun i=>
Br i (
lS c (iv 6) fun i=>
aa .num .shl (iv 1) i fun i=>
∃(j:Jt) (k:Mt),JE j [(iv 0)] g∧∀l:Value,∀m:Hp,j [l] m→∀_:Fr,
lD 1 (pt b) m fun n=>
aA n fun n=>
lL l n fun n=>
Br n (
aa .num .quo l i fun n=>
aa .num .rem n (iv 2) fun n=>
aa .num .mul n i fun n=>
lS l n fun n=>
∀o:Jt,(∀p:Value,∀q:Hp,(∀_:Fr,
DR q fun r=>
lD 1 (pt h) r fun s=>
lD 1 (pt b) r fun t=>
lI 1 t p r fun r=>
aj 1 s l fun s=>
St 1 q s r fun r=>
lA l (iv 1) fun s=>
aq j k [s] r [l] m)→o [p] q)→
Br d (
lA n i fun i=>
JE o [i] m) (
JE o [n] m)) (
av 2 m (pt h) fun i=>
St 2 m (pt e) i fun i=>
av 2 i (pt e) fun j=>
rt f j i)) (
CR f a 224 #[(iv 6),c] g fun a g=>
yA 1 a fun a=>
lI 1 a (iv 0) g fun a=>
∃(i:Jt) (j:Mt),JE i [(iv 0)] g∧∀g:Value,∀k:Hp,i [g] k→∀_:Fr,
lD 1 (pt b) k fun l=>
aA l fun l=>
lL g l fun l=>
Br l (
∀l:Jt,(∀m:Hp,(∀_:Fr,
lA g (iv 1) fun n=>
aq i j [n] m [g] k)→l [] m)→
Br d (
lD 1 (pt b) k fun d=>
lI 1 d g k fun d=>
aa .num .and d a fun d=>
DR k fun i=>
lD 1 (pt h) i fun i=>
aa .num .shl (wi 1) c fun j=>
aa .num .shr d j fun j=>
aa .num .or d j fun d=>
aj 1 i g fun i=>
St 1 k i d fun d=>
JE l [] d) (
lD 1 (pt b) k fun b=>
lI 1 b g k fun b=>
aa .num .andNot b a fun a=>
DR k fun b=>
lD 1 (pt h) b fun b=>
aa .num .shl (wi 1) c fun c=>
aa .num .shl a c fun c=>
aa .num .or a c fun a=>
aj 1 b g fun b=>
St 1 k b a fun a=>
JE l [] a)) (
av 2 k (pt h) fun a=>
St 2 k (pt e) a fun a=>
av 2 a (pt e) fun b=>
rt f b a))
theorem By(h:L163 g a0 a1 a2 H R):sc g 163 #[a0,a1,a2] H R:=
  sd (.n .e (.n (.h 1 [] [] (hr 0 [] 0 5 (.h 1 [7] [] (hr 0 [] 5 4 .e) .e)) .e) (.n (.n .e (.n (.n .e (.n (.n .e (.n (.h 0 [9] [2,3,6,7,8] (.n .e (.n (.n (.n .e (.h 1 [10] [2,3,6,7,8,9] .e (.h 0 [0,1,2,3,4,5,6,7,8,9] [] .e .e))) .e) .e)) .e) .e)) .e)) .e)) (.n .e (.n (.n .e (.n (.h 0 [12] [1,2,3,6,7,11] (.n .e (.h 1 [] [1,2,3,6,7,11,12] (.n (.n .e (.n (.n .e (.h 0 [0,1,2,3,4,5,6,7,8,9,10] [] .e .e)) (.n .e (.h 0 [0,1,2,3,4,5,6,7,8,9,10] [] .e .e)))) .e) .e)) .e) .e)) .e))))) Tryz.func163 h
variable {g:Gh} {a0 a1 a2 a3 a4 a5 a6 a7 a8 a9 p5 pZ Sb Sa R9 R8:Value} {H:Hp} {R:Rt}
def L164:Y4:=
fun a b c d e f g=>
aa .ptr .eql b (.pointer none) fun h=>
Br h (
rt g (tP (ui 0) (iv 10)) f) (
CR g a 225 #[b,c,d,e] f fun f h=>
lN f (iv 0) fun i=>
Br i (
rt g (tP (ui 0) f) h) (
CR g a 226 #[b,c,d,e] h fun f h=>
lX f fun f i=>
∀j:Jt,(∀k:Value,∀l:Hp,(∀_:Fr,
CR g a 121 #[b,k] l fun m n=>
lN m (iv 0) fun o=>
Br o (
rt g (tP (ui 0) m) n) (
rt g (tP k (iv 0)) n))→j [k] l)→
Un .not i fun i=>
Br i (
lC 0 b fun i=>
CR g a 135 #[i,(iv 1)] h fun i k=>
Un .not i fun i=>
Br i (
rt g (tP (ui 0) (iv 9)) k) (
lC 0 b fun b=>
Build Tryz.prog 161 [(0,c),(1,d),(2,e)] fun c=>
CR g a 207 #[b,c] k fun a b=>
JE j [a] b)) (
JE j [f] h)))
theorem Bx(h:L164 g a0 a1 a2 a3 H R):sc g 164 #[a0,a1,a2,a3] H R:=
  sd (hN 4 (.h 1 [11] [0] .e .e)) Tryz.func164 h
def L165:Y2:=
fun a b c d e=>
CR e a 172 #[b] d fun d f=>
aA d fun g=>
∃(h:Jt) (i:Mt),JE h [(.slice none 0 0),(iv 0)] f∧∀f j:Value,∀k:Hp,h [f,j] k→∀_:Fr,
lL j g fun g=>
Br g (
lI 1 d j k fun d=>
App Tryz.prog 57 2 32 (.agg #[(iv 0),(.slice none 0 0)]) k f d fun d g=>
lA j (iv 1) fun l=>
aq h i [d,l] g [f,j] k) (
DR k fun d=>
lM 2 b d fun g=>
CN a 88 #[b] k fun b h=>
aJ h d∧
CN a 166 #[g,c] h fun c g=>
aJ g d∧
CN a 227 #[b,c] g fun b c=>
aJ c d∧
aA b fun d=>
∃(g:Jt) (h:Mt),JE g [f,(iv 0)] c∧∀c f:Value,∀i:Hp,g [c,f] i→∀_:Fr,
lL f d fun d=>
Br d (
lI 1 b f i fun b=>
App Tryz.prog 57 2 32 (.agg #[(iv 0),(.slice none 0 0)]) i c b fun b d=>
lA f (iv 1) fun j=>
aq g h [b,j] d [c,f] i) (
CR e a 228 #[c] i fun a b=>
aA a fun a=>
rt e a b))
theorem Bw(h:L165 g a0 a1 H R):sc g 165 #[a0,a1] H R:=
  sd (.n .e (.n .e (.n (.n .e (.n (.h 0 [5,13] [0,1,11,12] .e .e) .e)) (.n (.n (.h 0 [0,2,3,4,5,6,10,1,7,8,9] [] .e .e) (.n (.h 0 [5,31] [29,30] .e .e) .e)) .e)))) Tryz.func165 h
def L166:Y2:=
fun _ a b c d=>
App Tryz.prog 3 1 8 (iv 0) c (.slice none 0 0) a fun a c=>
DR c fun e=>
lA b (iv 1) fun f=>
lA b (iv 1) fun g=>
lI 1 a g e fun g=>
lI 1 a b e fun e=>
aj 1 a b fun b=>
St 1 c b g fun b=>
aj 1 a f fun c=>
St 1 b c e fun b=>
rt d a b
theorem Bv(h:L166 g a0 a1 H R):sc g 166 #[a0,a1] H R:=
  sd (hN 3 (.n (.h 0 [0,1,2,3,4,5,6,7,8,9,10,11,12,13,14,15,16,17] [] .e .e) .e)) Tryz.func166 h
def L167:Y2:=
fun a b c d e=>
lM 2 b d fun b=>
CR e a 229 #[c,b] d fun a b=>
rt e a b
theorem Bu(h:L167 g a0 a1 H R):sc g 167 #[a0,a1] H R:=
  sd .e Tryz.func167 h
def L168:Y1:=
fun a b c d=>
aA b fun e=>
∃(f:Jt) (g:Mt),JE f [(iv 0),(iv 0)] c∧∀c h:Value,∀i:Hp,f [c,h] i→∀_:Fr,
lL h e fun e=>
Br e (
aj 2 b h fun e=>
av 2 i e fun e=>
lQ 2 i #[(iv 0),(.slice none 0 0)] 57 e fun e j=>
∀k:Jt,(∀l:Value,∀m:Hp,(∀_:Fr,
Br l (
rt d (tP (iv 0) (iv 5)) m) (
lD 0 (pt e) m fun n=>
lA h (iv 1) fun o=>
aq f g [n,o] m [c,h] i))→k [l] m)→
DR j fun f=>
av 2 f (pt e) fun g=>
∀h:Hp,
CN (a.add h) 28 #[g] j fun a g=>
aJ g f∧
Un .not a fun a=>
Br a (
JE k [vT] g) (
lD 0 (pt e) f fun a=>
aj 2 b (iv 0) fun b=>
ag 0 b fun b=>
Ld f b fun b=>
lN a b fun a=>
ay vF vT a fun a=>
JE k [a] g)) (
rt d (tP c (iv 0)) i)
theorem Bt(h:L168 g a0 H R):sc g 168 #[a0] H R:=
  sd (.n .e (.n .e (.n (.n .e (.n (.h 0 [4,9] [0,7,8] (.n .e (.n .e (.n (.n (.n .e (.n (.h 1 [24] [0,6,7,8,9] (.h 1 [] [] (hr 0 [1] 0 3 (.h 2 [3] [] (hr 0 [1] 4 7 (.h 3 [11] [1] .e .e)) (hr 0 [1] 4 8 .e))) .e) .e) .e)) .e) .e))) .e) .e)) .e))) Tryz.func168 h
def L169:Y2:=
fun a b c d e=>
DR d fun _=>
aa .num .shl (iv 1) c fun f=>
aa .num .shl (iv 1) c fun g=>
kV 25 1 24 (.slice none 0 0) g g fun g=>
∀_:Hp,
br 3 1 8 (iv 0) d f f fun d f=>
dP f g.1 fun f h=>
aa .num .shl (iv 1) c fun i=>
lS i (iv 2) fun i=>
∃(j:Jt) (k:Mt),JE j [i] h∧∀h:Value,∀i:Hp,j [h] i→∀_:Fr,
aa .num .geq h (iv 0) fun l=>
Br l (
br 3 1 8 (iv 0) i c c fun l m=>
aj 1 (g.2 f) h fun n=>
St 1 m n l fun l=>
∃(m:Jt) (n:Mt),JE m [(iv (-1)),(iv 0)] l∧∀l o:Value,∀p:Hp,m [l,o] p→∀_:Fr,
lL o c fun c=>
Br c (
∀c:Jt,(∀q:Value,∀r:Hp,(∀_:Fr,
lA o (iv 1) fun s=>
aq m n [q,s] r [l,o] p)→c [q] r)→
aa .num .shr h o fun m=>
aa .num .rem m (iv 2) fun m=>
lE m (iv 1) fun m=>
Br m (
JE c [l] p) (
bf .u64 h fun m=>
CR e a 230 #[b,m,o] p fun a b=>
lX a fun a _=>
lI 1 (g.2 f) h b fun m=>
aj 1 m o fun m=>
St 1 b m a fun b=>
lL l (iv 0) fun m=>
lO m (fun m=>
aa .num .shl (iv 1) o fun n=>
lA h n fun n=>
lI 1 d n b fun n=>
lA a n fun n=>
lL n l fun n=>
(lV b n m)) fun m=>
Br (Value.bool m) (
aa .num .shl (iv 1) o fun m=>
lA h m fun m=>
lI 1 d m b fun m=>
lA a m fun a=>
JE c [a] b) (
JE c [l] b))) (
aj 1 d h fun a=>
St 1 p a l fun a=>
lS h (iv 1) fun b=>
aq j k [b] a [h] i)) (
rt e (tP d (g.2 f)) i)
theorem Bs(h:L169 g a0 a1 H R):sc g 169 #[a0,a1] H R:=
  sd (.n .e (.n (.h 1 [] [] (hr 0 [1] 0 2 (hr 0 [1] 3 2 (.h 1 [5] [1] (.h 0 [2] [1] (.h 0 [6] [1] (.h 0 [5] [1] (.h 0 [7] [1] .e .e) .e) .e) .e) .e))) .e) (.n (.n .e (.n (.h 0 [8] [0,1,6,7] (.n .e (.n (.n (.n .e (.n .e (.n (.n .e (.n (.h 0 [9,10] [0,1,6,7,8] (.n .e (.h 1 [9] [0,1,6,7,8,10] (.n (hN 3 (.n (.h 0 [] [1] .e .e) .e)) .e) .e)) .e) .e)) .e))) .e) .e)) .e) .e)) .e))) Tryz.func169 h
def L170:Y1:=
fun a b c d=>
lM 4 b c fun e=>
aA e fun e=>
lE e (iv 0) fun e=>
Br e (
rt d (tP (iv 0) (iv 10)) c) (
lM 4 b c fun e=>
lM 4 b c fun f=>
aA f fun f=>
lS f (iv 1) fun f=>
lI 1 e f c fun e=>
lM 2 b c fun f=>
CR d a 166 #[f,e] c fun a c=>
lC 2 b fun f=>
St 1 c f a fun a=>
DR a fun c=>
lM 4 b c fun f=>
lM 4 b c fun g=>
aA g fun g=>
lS g (iv 1) fun g=>
di 1 f none (some g) fun f=>
App Tryz.prog 3 1 8 (iv 0) a (.slice none 0 0) f fun a f=>
aJ f c∧
lC 4 b fun b=>
St 1 f b a fun a=>
rt d (tP e (iv 0)) a)
theorem Bq(h:L170 g a0 H R):sc g 170 #[a0] H R:=
  sd (hN 5 (.n (.h 0 [0,1,2,3,4,5,6,7,8,9,10,11,12,13,14,15,16] [] .e .e) .e)) Tryz.func170 h
def L171:Y2:=
fun a b c d e=>
CR e a 206 #[b,c] d fun a d=>
lN a (iv 0) fun f=>
Br f (
rt e (tP (iv 0) a) d) (
lM 0 b d fun a=>
lI 1 a c d fun a=>
vy d a fun a=>
rt e (tP a (iv 0)) d)
theorem Bp(h:L171 g a0 a1 H R):sc g 171 #[a0,a1] H R:=
  sd .e Tryz.func171 h
def L172:Y1:=
fun a b c d=>
DR c fun e=>
lM 2 b e fun f=>
CN a 88 #[b] c fun b c=>
aJ c e∧
CN a 227 #[b,f] c fun a b=>
rt d a b
theorem Bo(h:L172 g a0 H R):sc g 172 #[a0] H R:=
  sd (.n .e (.n (.h 0 [0,2,3,4,5,1,6,7] [] .e .e) .e)) Tryz.func172 h
def L173:Y2:=
fun a b c d e=>
lM 0 b d fun b=>
CR e a 231 #[b,c] d fun a b=>
lX a fun a c=>
lQ 3 b #[(iv 0),(ui 0),(ui 0)] 161 a fun _ a=>
lE c (iv 0) fun b=>
rt e b a
theorem Bn(h:L173 g a0 a1 H R):sc g 173 #[a0,a1] H R:=
  sd .e Tryz.func173 h
def L174:Y2:=
fun a b c d e=>
lW d #[(iv 0),(ui 0),(ui 0)] 161 fun d f=>
lM 0 b f fun b=>
CR e a 231 #[b,c] f fun a b=>
lX a fun a _=>
lQ 3 b #[(iv 0),(ui 0),(ui 0)] 161 a fun a b=>
av 3 b (pt a) fun a=>
St 3 b (pt d) a fun a=>
av 3 a (pt d) fun b=>
rt e b a
theorem Bl(h:L174 g a0 a1 H R):sc g 174 #[a0,a1] H R:=
  sd .e Tryz.func174 h
def L175:Y1:=
fun a b c d=>
aA b fun e=>
∃(f:Jt) (g:Mt),JE f [(iv 0)] c∧∀c:Value,∀h:Hp,f [c] h→∀_:Fr,
lL c e fun e=>
Br e (
aj 2 b c fun e=>
av 2 h e fun e=>
lQ 2 h #[(iv 0),(.slice none 0 0)] 57 e fun e i=>
∀j:Jt,(∀k:Value,∀l:Hp,(∀_:Fr,
Br k (
rt d vF l) (
lA c (iv 1) fun m=>
aq f g [m] l [c] h))→j [k] l)→
DR i fun c=>
av 2 c (pt e) fun f=>
∀g:Hp,
CN (a.add g) 232 #[f] i fun a f=>
aJ f c∧
Un .not a fun a=>
Br a (
JE j [vT] f) (
lD 0 (pt e) c fun a=>
aj 2 b (iv 0) fun b=>
ag 0 b fun b=>
Ld c b fun b=>
lN a b fun a=>
ay vF vT a fun a=>
JE j [a] f)) (
rt d vT h)
theorem Bk(h:L175 g a0 H R):sc g 175 #[a0] H R:=
  sd (.n .e (.n (.n .e (.n (.h 0 [7] [0,5,6] (.n .e (.n .e (.n (.n (.n .e (.h 1 [22] [0,5,6,7] (.h 1 [] [] (hr 0 [] 0 3 (.h 2 [3] [] (hr 0 [] 4 7 (.h 3 [11] [] .e .e)) (hr 0 [] 4 8 .e))) .e) .e)) .e) .e))) .e) .e)) .e)) Tryz.func175 h
def L176:Y1:=
fun a b c d=>
mD c fun c e=>
aA b fun f=>
∃(g:Jt) (h:Mt),JE g [(iv 0)] e∧∀e:Value,∀i:Hp,g [e] i→∀_:Fr,
lL e f fun f=>
Br f (
aj 2 b e fun b=>
av 2 i b fun b=>
lQ 2 i #[(iv 0),(.slice none 0 0)] 57 b fun b f=>
av 2 f (pt b) fun b=>
CR d a 233 #[c,b] f fun _ a=>
lA e (iv 1) fun b=>
aq g h [b] a [e] i) (
rt d c i)
theorem Bj(h:L176 g a0 H R):sc g 176 #[a0] H R:=
  sd (.n .e (.n .e (.n (.n .e (.n (.h 0 [9] [3,7,8] .e .e) .e)) .e))) Tryz.func176 h
def L177:Y2:=
fun a b c d e=>
mD d fun d f=>
Sf f b fun b f=>
∃(g:Jt) (h:Mt),JE g [(iv 0)] f∧∀f:Value,∀i:Hp,g [f] i→∀_:Fr,
PF i b fun j k=>
Ext 0 j fun j=>
Br j (
JG k b fun b=>
Ext 1 b fun b=>
lQ 2 k #[(iv 0),(.slice none 0 0)] 57 b fun b j=>
av 2 j (pt b) fun l=>
CR e a 148 #[l,c,vF] j fun j l=>
lX j fun j _=>
lQ 2 l #[(iv 0),(.slice none 0 0)] 57 j fun j l=>
av 2 l (pt b) fun b=>
CR e a 148 #[b,c,vT] l fun b c=>
lX b fun b _=>
lQ 2 c #[(iv 0),(.slice none 0 0)] 57 b fun b c=>
DR c fun l=>
av 2 l (pt j) fun m=>
av 2 l (pt b) fun n=>
CN a 234 #[m] c fun c m=>
aJ m l∧
CN a 234 #[n] m fun a m=>
aJ m l∧
∀l:Jt,(∀n:Value,∀o:Hp,(∀_:Fr,
DR o fun p=>
av 2 p (pt j) fun j=>
av 2 p (pt b) fun b=>
ez (.string) o d c j fun j=>
aJ j p∧
ez (.string) j d a b fun b=>
aq g h [n] b [f] i)→l [n] o)→
aa .str .neq c a fun a=>
Br a (
lA f (iv 1) fun a=>
JE l [a] m) (
JE l [f] m)) (
rt e (tP d f) k)
theorem Bi(h:L177 g a0 a1 H R):sc g 177 #[a0,a1] H R:=
  sd (.n .e (.n .e (.n (.n .e (.n (.h 0 [7] [1,6,18] (.n .e (.n .e (.n (hN 3 (.n (.h 0 [0,2,1,3,4,5] [] .e .e) (.h 1 [7] [1,6,10,12,14,15,18] .e (.h 0 [0,1,2,3,4,5,6,7] [] .e .e)))) .e))) .e) .e)) .e))) Tryz.func177 h
def L178:Y2:=
fun a b c d e=>
CR e a 101 #[b] d fun d f=>
CR e a 101 #[c] f fun a f=>
lE d (iv 4) fun g=>
lO g (fun g=>
lE a (iv 4) fun h=>
(lV f h g)) fun g=>
lO (Value.bool g) (fun g=>
aA b fun b=>
aA c fun c=>
lN b c fun b=>
(lV f b g)) fun g=>
Br (Value.bool g) (
rt e (iv 4) f) (
O3 d a fun a=>
rt e a f)
theorem Bh(h:L178 g a0 a1 H R):sc g 178 #[a0,a1] H R:=
  sd (.n .e (.n .e (.n (.n (.h 0 [] [1] .e .e) .e) .e))) Tryz.func178 h
def L179:Y2:=
fun _ a b c d=>
aA a fun e=>
∃(f:Jt) (g:Mt),JE f [(iv 0)] c∧∀c:Value,∀h:Hp,f [c] h→∀_:Fr,
lL c e fun e=>
Br e (
lI 1 a c h fun a=>
lE b a fun a=>
Br a (
rt d c h) (
lA c (iv 1) fun a=>
aq f g [a] h [c] h)) (
d (.returned (iv (-1))) h)
theorem Bg(h:L179 g a0 a1 H R):sc g 179 #[a0,a1] H R:=
  sd (.n .e (.n (.n .e (.n (.h 0 [8] [0,1,7] .e .e) .e)) .e)) Tryz.func179 h
def L180:Y2:=
fun a b c d e=>
Ld d b fun f=>
CR e a 105 #[f] d fun _ a=>
Ld a b fun b=>
lM 2 b a fun b=>
St 1 a c b fun a=>
rt e (.tuple #[]) a
theorem pR(h:L180 g a0 a1 H R):qi Tryz.prog g 180 #[a0,a1] H R:=
 Nz (hn:=.e) Tryz.func180 h (by kernel_rfl)
def L185:Y1:=
fun _ a b c=>
br 3 1 8 (iv 0) b a a fun b d=>
∃(e:Jt) (f:Mt),JE e [(iv 0)] d∧∀d:Value,∀g:Hp,e [d] g→∀_:Fr,
lL d a fun a=>
Br a (
aj 1 b d fun a=>
St 1 g a d fun a=>
lA d (iv 1) fun h=>
aq e f [h] a [d] g) (
rt c b g)
theorem Bf(h:L185 g a0 H R):sc g 185 #[a0] H R:=
  sd (.n .e (.n .e (.n (.n .e (.n (.h 0 [8] [3,7] .e .e) .e)) .e))) Tryz.func185 h
def L186:Y1:=
fun _ a b c=>
lL a (iv 2) fun d=>
lO d (fun d=>
lG a (iv 1048576) fun e=>
(lV b e d)) fun d=>
Br (Value.bool d) (
rt c (tP (.pointer none) (iv 1)) b) (
Build Tryz.prog 198 [(0,a),(3,(iv 2))] fun a=>
dP b (.cells (Value.cells a) 198 (0,0)) fun a b=>
∃(d:Jt) (e:Mt),JE d [(ui 0)] b∧∀b:Value,∀f:Hp,d [b] f→∀_:Fr,
lL b (ui 2) fun g=>
Br g (
lM 1 (pt a) f fun g=>
Build Tryz.prog 161 [(0,(iv (-1))),(1,b),(2,b)] fun h=>
Build Tryz.prog 291 [(0,h),(1,vT),(2,(bi 255))] fun h=>
an Tryz.prog 196 1 [(0,h)] f fun h i=>
App Tryz.prog 291 5 24 (.agg #[(iv 0),(ui 0),(ui 0),vF,(bi 0)]) i g h fun g h=>
lC 1 (pt a) fun i=>
St 1 h i g fun g=>
lA b (ui 1) fun h=>
aq d e [h] g [b] f) (
rt c (tP (pt a) (iv 0)) f))
theorem Be(h:L186 g a0 H R):sc g 186 #[a0] H R:=
  sd (.n .e (.n (.n (.h 0 [] [1] .e .e) .e) (.n .e (.n (.n .e (.n (.h 0 [15] [4] .e .e) .e)) .e)))) Tryz.func186 h
def L189:Y2:=
fun _ a b c d=>
App Tryz.prog 3 1 8 (iv 0) c (.slice none 0 0) a fun a c=>
DR c fun e=>
lA b (iv 1) fun f=>
lA b (iv 1) fun g=>
lI 1 a g e fun g=>
lI 1 a b e fun e=>
aj 1 a b fun b=>
St 1 c b g fun b=>
aj 1 a f fun c=>
St 1 b c e fun b=>
rt d a b
theorem Bd(h:L189 g a0 a1 H R):sc g 189 #[a0,a1] H R:=
  sd (hN 3 (.n (.h 0 [0,1,2,3,4,5,6,7,8,9,10,11,12,13,14,15,16,17] [] .e .e) .e)) Tryz.func189 h
def L190:Y1:=
fun a b c d=>
dP c (.cells (Value.cells b) 57 (0,0)) fun b c=>
∀e:Jt,(∀f:Value,∀g:Hp,(∀_:Fr,
rt d f g)→e [f] g)→
DR c fun d=>
av 2 d (pt b) fun f=>
lD 0 (pt b) d fun g=>
∀h:Hp,
CN (a.add h) 236 #[g,vF] c fun c g=>
aJ g d∧
∀h:Hp,
CN (a.add h) 36 #[f,c] g fun c f=>
aJ f d∧
Br c (
JE e [vT] f) (
av 2 d (pt b) fun c=>
lD 0 (pt b) d fun b=>
∀g:Hp,
CN (a.add g) 236 #[b,vT] f fun b f=>
aJ f d∧
∀g:Hp,
CN (a.add g) 36 #[c,b] f fun a b=>
aJ b d∧
ay vF vT a fun a=>
JE e [a] b)
theorem Bc(h:L190 g a0 H R):sc g 190 #[a0] H R:=
  sd (.n .e (.h 1 [2] [] (.h 1 [] [] (hr 0 [] 0 5 (.h 2 [5] [] (hr 0 [] 6 5 (hr 3 [] 11 2 .e)) (hr 0 [] 6 7 .e))) .e) .e)) Tryz.func190 h
def L194:Y3:=
fun a b c d e f=>
dP e (.cells (Value.cells b) 5 (0,0)) fun b e=>
dP e (.cells (Value.cells c) 57 (0,0)) fun c e=>
dP e (.cells (Value.cells d) 57 (0,0)) fun d e=>
lW e #[(iv 0),(.slice none 0 0)] 57 fun e g=>
Ld g (pt b) fun h=>
lG h (bi 15) fun h=>
Br h (
Build Tryz.prog 57 [] fun h=>
St 2 g (pt e) h fun h=>
av 2 h (pt e) fun i=>
rt f (tP i (iv 1)) h) (
av 2 g (pt c) fun h=>
av 2 g (pt d) fun i=>
an Tryz.prog 28 2 [(0,h),(1,i)] g fun g h=>
CR f a 220 #[g] h fun g h=>
Un .not g fun g=>
Br g (
Build Tryz.prog 57 [] fun g=>
St 2 h (pt e) g fun g=>
av 2 g (pt e) fun i=>
rt f (tP i (iv 5)) g) (
lD 0 (pt c) h fun g=>
CR f a 212 #[g,(.func (.func 239) #[] #[(pt c),(pt d),(pt b)])] h fun a b=>
St 2 b (pt e) a fun a=>
av 2 a (pt e) fun b=>
rt f (tP b (iv 0)) a))
theorem Bb(h:L194 g a0 a1 a2 H R):sc g 194 #[a0,a1,a2] H R:=
  sd .e Tryz.func194 h
def L203:Y2:=
fun a b c d e=>
CR e a 206 #[b,c] d fun d f=>
lN d (iv 0) fun g=>
Br g (
rt e (tP (.slice none 0 0) d) f) (
lM 0 b f fun b=>
lI 1 b c f fun b=>
CR e a 251 #[b] f fun b c=>
CR e a 250 #[b] c fun a b=>
rt e (tP a (iv 0)) b)
theorem Ba(h:L203 g a0 a1 H R):sc g 203 #[a0,a1] H R:=
  sd .e Tryz.func203 h
def L204:Y3:=
fun a b c d e f=>
lC 0 b fun b=>
CR f a 174 #[b,c] e fun a b=>
lQ 3 b #[(iv 0),(ui 0),(ui 0)] 161 a fun a b=>
lD 0 (pt a) b fun e=>
lE e d fun d=>
Br d (
lD 1 (pt a) b fun d=>
lD 2 (pt a) b fun a=>
rt f (tP d a) b) (
rt f (tP c c) b)
theorem A9(h:L204 g a0 a1 a2 H R):sc g 204 #[a0,a1,a2] H R:=
  sd .e Tryz.func204 h
def L205:Y2:=
fun a b c d e=>
dP d (.cells (Value.cells c) 161 (0,0)) fun c d=>
lD 0 (pt c) d fun f=>
CR e a 206 #[b,f] d fun a d=>
lN a (iv 0) fun a=>
Br a (
rt e (tP (ui 0) vF) d) (
lM 0 b d fun a=>
lD 0 (pt c) d fun b=>
lI 1 a b d fun a=>
av 3 d (pt c) fun b=>
jj Tryz.prog 161 (ui 0) true d a b fun a=>
lX a fun a b=>
rt e (tP a b) d)
theorem A8(h:L205 g a0 a1 H R):sc g 205 #[a0,a1] H R:=
  sd .e Tryz.func205 h
def L206:Y2:=
fun _ a b c d=>
aa .ptr .eql a (.pointer none) fun e=>
Br e (
rt d (iv 10) c) (
lL b (iv 0) fun e=>
lO e (fun e=>
lM 0 a c fun a=>
aA a fun a=>
aa .num .geq b a fun a=>
(lV c a e)) fun e=>
Br (Value.bool e) (
rt d (iv 2) c) (
rt d (iv 0) c))
theorem A7(h:L206 g a0 a1 H R):sc g 206 #[a0,a1] H R:=
  sd (.n .e (.n (.n (.n .e (.n .e (.n (.h 0 [] [1] .e .e) .e))) .e) .e)) Tryz.func206 h
def L207:Y2:=
fun a b c d e=>
dP d (.cells (Value.cells c) 161 (0,0)) fun c d=>
DR d fun f=>
lM 0 b f fun g=>
av 3 f (pt c) fun h=>
CN a 252 #[g,h] d fun d g=>
aJ g f∧
lX d fun d _=>
∃(f:Jt) (h:Mt),JE f [] g∧∀g:Hp,f [] g→∀_:Fr,
bf .i64 d fun i=>
lM 2 b g fun j=>
aA j fun j=>
aa .num .geq i j fun i=>
Br i (
lM 2 b g fun i=>
an Tryz.prog 113 1 [(0,(Value.int .i32 0))] g fun j k=>
App Tryz.prog 21 1 4 (Value.int .i32 0) k i j fun i j=>
lC 2 b fun k=>
St 1 j k i fun i=>
lM 3 b i fun j=>
an Tryz.prog 113 1 [(0,(Value.int .i32 0))] i fun i k=>
App Tryz.prog 21 1 4 (Value.int .i32 0) k j i fun i j=>
lC 3 b fun k=>
St 1 j k i fun i=>
aq f h [] i [] g) (
DR g fun f=>
lM 2 b f fun h=>
lM 3 b f fun f=>
aj 1 h d fun h=>
St 1 g h (Value.int .i32 0) fun g=>
aj 1 f d fun f=>
St 1 g f (Value.int .i32 0) fun f=>
lD 1 (pt c) f fun g=>
CR e a 139 #[b,g] f fun _ f=>
lD 2 (pt c) f fun g=>
CR e a 139 #[b,g] f fun _ f=>
DR f fun g=>
lM 1 b g fun b=>
av 3 g (pt c) fun c=>
CN a 141 #[b,c,d] f fun _ a=>
rt e d a)
theorem A6(h:L207 g a0 a1 H R):sc g 207 #[a0,a1] H R:=
  sd (.n .e (.n (.h 0 [0,1,2,3,4,5,6,7,8,9,10] [] .e .e) (.n (.n (.h 0 [] [0,3,5] .e .e) .e) (.n (.h 0 [0,1,2,3,4,5,6,7,8,9,10,11,12,13] [] .e .e) (.n .e (.n .e (.n (.h 0 [0,1,2,3,4,5,6] [] .e .e) .e))))))) Tryz.func207 h
def L208:Y2:=
fun a b c d e=>
dP d (.cells (Value.cells c) 161 (0,0)) fun c d=>
lD 0 (pt c) d fun f=>
lL f (iv 0) fun f=>
lO f (fun f=>
lD 0 (pt c) d fun g=>
aa .num .geq g (iv 64) fun g=>
(lV d g f)) fun f=>
Br (Value.bool f) (
rt e (iv 2) d) (
∀f:Jt,(∀g:Value,∀h:Hp,(∀_:Fr,
Br g (
rt e (iv 3) h) (
rt e (iv 0) h))→f [g] h)→
lD 1 (pt c) d fun g=>
CR e a 253 #[b,g] d fun d g=>
Un .not d fun d=>
Split d false (
lD 2 (pt c) g fun c=>
CR e a 253 #[b,c] g fun a b=>
Un .not a fun a=>
ay vF vT a fun a=>
JE f [a] b) (
ay vT vT undef fun a=>
JE f [a] g))
theorem A5(h:L208 g a0 a1 H R):sc g 208 #[a0,a1] H R:=
  sd (.n .e (.n (.n (.n (.h 0 [] [1] .e .e) (.n .e (.h 1 [14] [] .e .e))) .e) .e)) Tryz.func208 h
def L209:Y2:=
fun a b c d e=>
∀f:Jt,(∀g:Value,∀h:Hp,(∀_:Fr,
Br g (
rt e (iv 3) h) (
rt e (iv 0) h))→f [g] h)→
aa .num .leq c (ui 1) fun g=>
Split g false (
CR e a 253 #[b,c] d fun a b=>
Un .not a fun a=>
ay vF vT a fun a=>
JE f [a] b) (
ay vT vT undef fun a=>
JE f [a] d)
theorem A4(h:L209 g a0 a1 H R):sc g 209 #[a0,a1] H R:=
  sd (.n .e (.n (.h 1 [12] [] .e .e) .e)) Tryz.func209 h
def L210:Y2:=
fun a b c d e=>
aa .ptr .eql b (.pointer none) fun f=>
Br f (
rt e (iv 10) d) (
CR e a 209 #[b,c] d fun a d=>
lN a (iv 0) fun f=>
Br f (
rt e a d) (
lM 1 b d fun a=>
Build Tryz.prog 291 [] fun f=>
aj 5 a c fun a=>
St 5 d a f fun a=>
lM 2 b a fun d=>
an Tryz.prog 27 1 [(0,c)] a fun a c=>
App Tryz.prog 77 1 4 (ui 0) c d a fun a c=>
lC 2 b fun d=>
St 1 c d a fun a=>
lM 3 b a fun c=>
lS c (iv 1) fun c=>
lC 3 b fun b=>
St 1 a b c fun a=>
rt e (iv 0) a))
theorem A3(h:L210 g a0 a1 H R):sc g 210 #[a0,a1] H R:=
  sd .e Tryz.func210 h
def L211:Y1:=
fun _ a b c=>
lL a (iv 0) fun d=>
Br d (
rt c (iv 1) b) (
lG a (iv 16) fun a=>
Br a (
rt c (iv 6) b) (
rt c (iv 0) b))
theorem A2(h:L211 g a0 H R):sc g 211 #[a0] H R:=
  sd .e Tryz.func211 h
def L212:Y2:=
fun a b c d e=>
lW d #[(iv 0),(.slice none 0 0)] 57 fun d f=>
CR e a 254 #[b] f fun f g=>
br 50 1 8 (wi 0) g f f fun f g=>
Build Tryz.prog 57 [(0,b),(1,f)] fun f=>
lQ 2 g #[(iv 0),(.slice none 0 0)] 57 f fun f g=>
lD 1 (pt f) g fun h=>
aA h fun h=>
∃(i:Jt) (j:Mt),JE i [(iv 0)] g∧∀g:Value,∀k:Hp,i [g] k→∀_:Fr,
lL g h fun h=>
Br h (
DR k fun h=>
lD 1 (pt f) h fun l=>
gk Tryz.prog a c #[g] k (fun c m=>
aJ m h∧
CN a 255 #[b] m fun a b=>
aJ b h∧
aa .num .and c a fun a=>
aj 1 l g fun c=>
St 1 b c a fun a=>
lA g (iv 1) fun b=>
aq i j [b] a [g] k) JA) (
av 2 k (pt f) fun a=>
St 2 k (pt d) a fun a=>
av 2 a (pt d) fun b=>
rt e b a)
theorem A1(h:L212 g a0 a1 H R):sc g 212 #[a0,a1] H R:=
  sd (.n .e (.n .e (.n (.n .e (.n (.h 0 [15] [0,1,4,5,14] (.n .e (.n .e (.n (.n (.n .e (.h 0 [0,1,2,3,4,6,5,7,8,9,10] [] .e .e)) .e) .e))) .e) .e)) .e))) Tryz.func212 h
def L213:Y2:=
fun _ _ a b c=>
Ld b a fun a=>
Br a (
rt c (wi 18446744073709551615) b) (
rt c (wi 0) b)
theorem AZ(h:L213 g a0 a1 H R):sc g 213 #[a0,a1] H R:=
  sd .e Tryz.func213 h
def L214:Y2:=
fun a b c d e=>
dP d (.cells (Value.cells b) 57 (0,0)) fun b d=>
av 2 d (pt b) fun f=>
an Tryz.prog 28 1 [(0,f)] d fun d f=>
CR e a 220 #[d] f fun a d=>
Un .not a fun a=>
Br a (
rt e (iv 5) d) (
lL c (iv 0) fun a=>
lO a (fun a=>
lD 0 (pt b) d fun b=>
aa .num .geq c b fun b=>
(lV d b a)) fun a=>
Br (Value.bool a) (
rt e (iv 2) d) (
rt e (iv 0) d))
theorem AY(h:L214 g a0 a1 H R):sc g 214 #[a0,a1] H R:=
  sd (.n .e (.n (.n (.n .e (.n .e (.n (.h 0 [] [1] .e .e) .e))) .e) .e)) Tryz.func214 h
def L215:Y3:=
fun a b c d e f=>
dP e (.cells (Value.cells b) 57 (0,0)) fun b e=>
dP e (.cells (Value.cells c) 3 (0,0)) fun c e=>
dP e (.cells (Value.cells d) 4 (0,0)) fun d e=>
lW e #[(iv 0),(.slice none 0 0)] 57 fun e g=>
lD 0 (pt b) g fun h=>
CR f a 212 #[h,(.func (.func 256) #[] #[(pt c),(pt d),(pt b)])] g fun a b=>
St 2 b (pt e) a fun a=>
av 2 a (pt e) fun b=>
rt f b a
theorem AX(h:L215 g a0 a1 a2 H R):sc g 215 #[a0,a1,a2] H R:=
  sd .e Tryz.func215 h
def L216:Y5:=
fun a b c d e f g h=>
lW g #[(iv 0),(.slice none 0 0)] 57 fun g i=>
Ld i c fun j=>
jY (.int .u32) (.agg #[(iv 0),(.slice none 0 0)]) true i j b fun j=>
lX j fun j k=>
lQ 2 i #[(iv 0),(.slice none 0 0)] 57 j fun i j=>
Br k (
av 2 j (pt i) fun i=>
St 2 j (pt g) i fun i=>
av 2 i (pt g) fun k=>
rt h k i) (
Ld j d fun d=>
CR h a 217 #[d,b] j fun d i=>
lQ 3 i #[(iv 0),(ui 0),(ui 0)] 161 d fun d i=>
DR i fun j=>
Ld j e fun e=>
av 3 j (pt d) fun k=>
Ld j f fun l=>
lD 1 (pt d) j fun m=>
Ld j f fun f=>
lD 2 (pt d) j fun d=>
∀n:Hp,
gk Tryz.prog (a.add n) l #[m] i (fun i l=>
aJ l j∧
∀m:Hp,
gk Tryz.prog (a.add m) f #[d] l (fun d f=>
aJ f j∧
∀l:Hp,
gk Tryz.prog (a.add l) e #[k,i,d] f (fun a d=>
aJ d j∧
lW d #[(iv 0),(.slice none 0 0)] 57 fun d e=>
∀_:Hp,
St 2 e (pt d) a fun a=>
Ld a c fun c=>
av 2 a (pt d) fun e=>
ez (.int .u32) a c b e fun a=>
av 2 a (pt d) fun b=>
St 2 a (pt g) b fun a=>
av 2 a (pt g) fun b=>
rt h b a) JA) JA) JA)
theorem sk(h:L216 g a0 a1 a2 a3 a4 H R):sc g 216 #[a0,a1,a2,a3,a4] H R:=
  sd (hN 3 (.n (.h 1 [] [] (hr 0 [] 0 5 (hr 0 [] 6 3 (.h 1 [11] [] (.h 0 [5] [] (hr 0 [] 9 4 .e) .e) .e))) .e) .e)) Tryz.func216 h
def L217:Y2:=
fun a b c d e=>
lW d #[(iv 0),(ui 0),(ui 0)] 161 fun d f=>
CR e a 97 #[b,c] f fun a b=>
lX a fun a _=>
lQ 3 b #[(iv 0),(ui 0),(ui 0)] 161 a fun a b=>
av 3 b (pt a) fun a=>
St 3 b (pt d) a fun a=>
av 3 a (pt d) fun b=>
rt e b a
theorem AW(h:L217 g a0 a1 H R):sc g 217 #[a0,a1] H R:=
  sd .e Tryz.func217 h
def L218:Y2:=
fun a b c d e=>
Ld d c fun c=>
CR e a 219 #[c,b] d fun a b=>
rt e a b
theorem AV(h:L218 g a0 a1 H R):sc g 218 #[a0,a1] H R:=
  sd .e Tryz.func218 h
def L219:Y2:=
fun _ a b c d=>
aa .num .geq a (iv 6) fun e=>
Br e (
bf .u64 b fun b=>
lS a (iv 6) fun e=>
aa .num .shr b e fun b=>
aa .num .and b (wi 1) fun b=>
Un .neg b fun b=>
rt d b c) (
∃(b:Jt) (e:Mt),JE b [(wi 0),(iv 0)] c∧∀c f:Value,∀g:Hp,b [c,f] g→∀_:Fr,
lL f (iv 64) fun h=>
Br h (
aa .num .shr f a fun a=>
aa .num .and a (iv 1) fun a=>
bf .u64 a fun a=>
aa .num .shl a f fun a=>
aa .num .or c a fun a=>
lA f (iv 1) fun h=>
aq b e [a,h] g [c,f] g) (
rt d c g))
theorem AU(h:L219 g a0 a1 H R):sc g 219 #[a0,a1] H R:=
  sd (hN 3 (.n (.n .e (.n (.h 0 [5,16] [0] .e .e) .e)) .e)) Tryz.func219 h
def L220:Y1:=
fun a b c d=>
aA b fun e=>
∃(f:Jt) (g:Mt),JE f [(iv 0)] c∧∀c:Value,∀h:Hp,f [c] h→∀_:Fr,
lL c e fun e=>
Br e (
aj 2 b c fun e=>
av 2 h e fun e=>
lQ 2 h #[(iv 0),(.slice none 0 0)] 57 e fun e i=>
∀j:Jt,(∀k:Value,∀l:Hp,(∀_:Fr,
Br k (
rt d vF l) (
lA c (iv 1) fun m=>
aq f g [m] l [c] h))→j [k] l)→
DR i fun c=>
av 2 c (pt e) fun f=>
∀g:Hp,
CN (a.add g) 232 #[f] i fun a f=>
aJ f c∧
Un .not a fun a=>
Br a (
JE j [vT] f) (
lD 0 (pt e) c fun a=>
aj 2 b (iv 0) fun b=>
ag 0 b fun b=>
Ld c b fun b=>
lN a b fun a=>
ay vF vT a fun a=>
JE j [a] f)) (
rt d vT h)
theorem AT(h:L220 g a0 H R):sc g 220 #[a0] H R:=
  sd (.n .e (.n (.n .e (.n (.h 0 [7] [0,5,6] (.n .e (.n .e (.n (.n (.n .e (.h 1 [22] [0,5,6,7] (.h 1 [] [] (hr 0 [] 0 3 (.h 2 [3] [] (hr 0 [] 4 7 (.h 3 [11] [] .e .e)) (hr 0 [] 4 8 .e))) .e) .e)) .e) .e))) .e) .e)) .e)) Tryz.func220 h
def L221:Y4:=
fun _ a b c d e f=>
ag 1 b fun g=>
Ld e g fun g=>
lI 1 g a e fun g=>
ag 1 c fun c=>
Ld e c fun c=>
lI 1 c a e fun c=>
aa .num .and g c fun c=>
ag 1 b fun b=>
Ld e b fun b=>
lI 1 b a e fun b=>
Un .xor b fun b=>
ag 1 d fun d=>
Ld e d fun d=>
lI 1 d a e fun a=>
aa .num .and b a fun a=>
aa .num .or c a fun a=>
rt f a e
theorem AS(h:L221 g a0 a1 a2 a3 H R):sc g 221 #[a0,a1,a2,a3] H R:=
  sd .e Tryz.func221 h
def L222:Y2:=
fun _ a b c d=>
aA a fun e=>
aA b fun f=>
lN e f fun e=>
Br e (
rt d vF c) (
aA a fun e=>
∃(f:Jt) (g:Mt),JE f [(iv 0)] c∧∀c:Value,∀h:Hp,f [c] h→∀_:Fr,
lL c e fun e=>
Br e (
lI 1 a c h fun a=>
lI 1 b c h fun b=>
lN a b fun a=>
Br a (
rt d vF h) (
lA c (iv 1) fun a=>
aq f g [a] h [c] h)) (
rt d vT h))
theorem AR(h:L222 g a0 a1 H R):sc g 222 #[a0,a1] H R:=
  sd (.n .e (.n .e (.n (.n .e (.n (.h 0 [13] [0,1,12] .e .e) .e)) .e))) Tryz.func222 h
def L223:Y2:=
fun _ a b c d=>
dP c (.cells (Value.cells a) 233 (0,0)) fun a c=>
dP c (.cells (Value.cells b) 233 (0,0)) fun b c=>
lD 1 (pt a) c fun e=>
lD 1 (pt b) c fun f=>
lL e f fun e=>
lO e (fun e=>
lD 1 (pt a) c fun f=>
lD 1 (pt b) c fun g=>
lE f g fun f=>
dO f true (fun f=>
lD 0 (pt a) c fun a=>
lD 0 (pt b) c fun b=>
lL a b fun a=>
(lV c a f)) (fun f=>vF=Value.bool f) fun f=>∀_:Fr,
(lV c (Value.bool f) e)) fun e=>
rt d (Value.bool e) c
theorem AQ(h:L223 g a0 a1 H R):sc g 223 #[a0,a1] H R:=
  sd (.n .e (.n (.h 0 [] [1] .e .e) .e)) Tryz.func223 h
def L224:Y2:=
fun a b c d e=>
lW d #[(iv 0),(.slice none 0 0)] 57 fun d f=>
aa .num .shl (iv 1) b fun g=>
br 4 1 1 vF f g g fun f g=>
∃(h:Jt) (i:Mt),JE h [(iv 0)] g∧∀g:Value,∀j:Hp,h [g] j→∀_:Fr,
aA f fun k=>
lL g k fun k=>
Br k (
aa .num .shr g c fun c=>
aa .num .rem c (iv 2) fun c=>
lE c (iv 1) fun c=>
aj 1 f g fun k=>
St 1 j k c fun c=>
lA g (iv 1) fun k=>
aq h i [k] c [g] j) (
CR e a 98 #[b,f] j fun a b=>
St 2 b (pt d) a fun a=>
av 2 a (pt d) fun b=>
rt e b a)
theorem AP(h:L224 g a0 a1 H R):sc g 224 #[a0,a1] H R:=
  sd (.n .e (.n .e (.n (.n .e (.n (.h 0 [6] [0,1,4,5] .e .e) .e)) .e))) Tryz.func224 h
def L225:Y4:=
fun a b c d e f g=>
CR g a 113 #[b,c] f fun f h=>
Un .not f fun f=>
Br f (
rt g (iv 2) h) (
∀f:Jt,(∀i:Value,∀j:Hp,(∀_:Fr,
Br i (
rt g (iv 3) j) (
∀k:Jt,(∀l:Value,∀m:Hp,(∀_:Fr,
Br l (
rt g (iv 4) m) (
rt g (iv 0) m))→k [l] m)→
DR j fun l=>
lN d e fun m=>
Br m (
lM 6 b l fun m=>
lI 1 m c l fun c=>
∀m:Hp,
CN (a.add m) 257 #[b,d] j fun m n=>
aJ n l∧
∀o:Hp,
CN (a.add o) 257 #[b,e] n fun n o=>
aJ o l∧
Si m n fun l=>
aa .num .geq c l fun c=>
ay vT c vF fun c=>
JE k [c] o) (
JE k [vF] j)))→f [i] j)→
lC 0 b fun c=>
CR g a 173 #[c,d] h fun c d=>
Un .not c fun c=>
Split c false (
lC 0 b fun b=>
CR g a 173 #[b,e] d fun a b=>
Un .not a fun a=>
ay vF vT a fun a=>
JE f [a] b) (
ay vT vT undef fun a=>
JE f [a] d))
theorem AO(h:L225 g a0 a1 a2 a3 H R):sc g 225 #[a0,a1,a2,a3] H R:=
  sd (.n .e (.n (.n (.n .e (.n .e (.h 1 [14] [0,1,2,3] .e (.n .e (.h 1 [29] [] (.h 1 [] [] (hr 0 [] 0 3 (.h 2 [3] [] (hr 0 [] 4 9 (hr 0 [] 14 2 (.h 0 [13] [] (hr 0 [] 16 5 .e) .e))) (hr 0 [] 4 15 (hr 3 [] 19 2 .e)))) .e) .e))))) .e) .e)) Tryz.func225 h
def L226:Y4:=
fun a b c d e f g=>
lE d e fun h=>
Br h (
rt g (tP d vT) f) (
lC 0 b fun b=>
ag 1 b fun b=>
Ld f b fun b=>
Build Tryz.prog 161 [(0,c),(1,d),(2,e)] fun c=>
CR g a 205 #[b,c] f fun a b=>
lX a fun a c=>
rt g (tP a c) b)
theorem AN(h:L226 g a0 a1 a2 a3 H R):sc g 226 #[a0,a1,a2,a3] H R:=
  sd .e Tryz.func226 h
def L227:Y2:=
fun a b c d e=>
CR e a 228 #[b] d fun b d=>
aA c fun f=>
∃(g:Jt) (h:Mt),JE g [(.slice none 0 0),b,(iv 0)] d∧∀b d i:Value,∀j:Hp,g [b,d,i] j→∀_:Fr,
lL i f fun f=>
Br f (
lI 1 c i j fun c=>
CR e a 258 #[d,c] j fun f k=>
an Tryz.prog 247 1 [(0,f)] k fun f k=>
App Tryz.prog 28 1 24 (.slice none 0 0) k b f fun f k=>
CR e a 259 #[d,c] k fun a c=>
lA i (iv 1) fun k=>
aq g h [f,a,k] c [b,d,i] j) (
rt e b j)
theorem AM(h:L227 g a0 a1 H R):sc g 227 #[a0,a1] H R:=
  sd (hN 3 (.n (.n .e (.n (.h 0 [5,6,13] [11,12] .e .e) .e)) .e)) Tryz.func227 h
def L228:Y1:=
fun a b c d=>
aA b fun e=>
∃(f:Jt) (g:Mt),JE f [(.slice none 0 0),(iv 0)] c∧∀c h:Value,∀i:Hp,f [c,h] i→∀_:Fr,
lL h e fun e=>
Br e (
∀e:Jt,(∀j:Value,∀k:Hp,(∀_:Fr,
lA h (iv 1) fun l=>
aq f g [j,l] k [c,h] i)→e [j] k)→
aj 2 b h fun b=>
av 2 i b fun b=>
lQ 2 i #[(iv 0),(.slice none 0 0)] 57 b fun b f=>
av 2 f (pt b) fun g=>
CR d a 260 #[c,g] f fun a f=>
Un .not a fun a=>
Br a (
av 2 f (pt b) fun a=>
an Tryz.prog 28 1 [(0,a)] f fun a b=>
App Tryz.prog 57 2 32 (.agg #[(iv 0),(.slice none 0 0)]) b c a fun a b=>
JE e [a] b) (
JE e [c] f)) (
rt d c i)
theorem AL(h:L228 g a0 H R):sc g 228 #[a0] H R:=
  sd (.n .e (.n .e (.n (.n .e (.n (.h 0 [3,8] [6,7] (.n .e (.n .e (.h 1 [3] [6,7,8] .e .e))) .e) .e)) .e))) Tryz.func228 h
def L229:Y2:=
fun a b c d e=>
CR e a 227 #[b,c] d fun a b=>
aA a fun c=>
∃(d:Jt) (f:Mt),JE d [(iv 0),(iv 0)] b∧∀b g:Value,∀h:Hp,d [b,g] h→∀_:Fr,
lL g c fun c=>
Br c (
lI 1 a g h fun a=>
aA a fun a=>
lA b a fun a=>
lA g (iv 1) fun c=>
aq d f [a,c] h [b,g] h) (
rt e b h)
theorem AK(h:L229 g a0 a1 H R):sc g 229 #[a0,a1] H R:=
  sd (.n .e (.n .e (.n (.n .e (.n (.h 0 [5,12] [10,11] .e .e) .e)) .e))) Tryz.func229 h
def L230:Y3:=
fun a b c d e f=>
CR f a 261 #[b,(iv 16)] e fun e g=>
lX e fun e h=>
lN h (iv 0) fun i=>
Br i (
rt f (tP (iv 0) h) g) (
lL d (iv 0) fun h=>
lO h (fun h=>
aa .num .geq d e fun i=>
(lV g i h)) fun h=>
lO (Value.bool h) (fun h=>
aa .num .shr c e fun i=>
lG i (wi 0) fun i=>
(lV g i h)) fun h=>
Br (Value.bool h) (
rt f (tP (iv 0) (iv 2)) g) (
aa .num .shr c d fun h=>
aa .num .rem h (wi 2) fun h=>
lE h (wi 1) fun h=>
Br h (
rt f (tP (iv 0) (iv 4)) g) (
CR f a 228 #[b] g fun b g=>
∃(h:Jt) (i:Mt),JE h [b,(iv 0)] g∧∀b g:Value,∀j:Hp,h [b,g] j→∀_:Fr,
lL g e fun e=>
Br e (
∀e:Jt,(∀k:Value,∀l:Hp,(∀_:Fr,
lA g (iv 1) fun m=>
aq h i [k,m] l [b,g] j)→e [k] l)→
aa .num .shr c g fun c=>
aa .num .rem c (wi 2) fun c=>
lE c (wi 1) fun c=>
Br c (
CR f a 259 #[b,g] j fun c g=>
JE e [c] g) (
JE e [b] j)) (
CR f a 258 #[b,d] j fun a b=>
aA a fun a=>
rt f (tP a (iv 0)) b))))
theorem AJ(h:L230 g a0 a1 a2 H R):sc g 230 #[a0,a1,a2] H R:=
  sd (.n .e (.n .e (.n (.n (.n .e (.n .e (.n (.h 0 [] [1] .e .e) .e))) .e) (.n .e (.n (.n .e (.n (.h 0 [10,11] [1,2,8] (.n .e (.h 1 [10] [1,2,8,11] .e .e)) .e) .e)) .e))))) Tryz.func230 h
def L231:Y2:=
fun a b c d e=>
lW d #[(iv 0),(ui 0),(ui 0)] 161 fun d f=>
aa .ptr .eql b (.pointer none) fun g=>
Br g (
Build Tryz.prog 161 [] fun g=>
St 3 f (pt d) g fun g=>
av 3 g (pt d) fun h=>
rt e (tP h (iv 10)) g) (
CR e a 253 #[b,c] f fun a f=>
Un .not a fun a=>
Br a (
Build Tryz.prog 161 [] fun a=>
St 3 f (pt d) a fun a=>
av 3 a (pt d) fun g=>
rt e (tP g (iv 3)) a) (
lM 1 b f fun a=>
aj 5 a c fun a=>
ag 0 a fun a=>
av 3 f a fun a=>
St 3 f (pt d) a fun a=>
av 3 a (pt d) fun b=>
rt e (tP b (iv 0)) a))
theorem AI(h:L231 g a0 a1 H R):sc g 231 #[a0,a1] H R:=
  sd .e Tryz.func231 h
def L232:Y1:=
fun a b c d=>
dP c (.cells (Value.cells b) 57 (0,0)) fun b c=>
∀e:Jt,(∀f:Value,∀g:Hp,(∀_:Fr,
Br f (
rt d vF g) (
DR g fun h=>
lD 1 (pt b) h fun i=>
lD 1 (pt b) h fun j=>
aA j fun j=>
lS j (iv 1) fun j=>
lI 1 i j h fun i=>
lD 0 (pt b) h fun j=>
CN a 255 #[j] g fun j k=>
aJ k h∧
aa .num .andNot i j fun h=>
lE h (wi 0) fun h=>
rt d h k))→e [f] g)→
DR c fun d=>
lD 0 (pt b) d fun f=>
lL f (iv 0) fun f=>
Br f (
JE e [vT] c) (
lD 0 (pt b) d fun f=>
lG f (iv 16) fun f=>
ay vF vT f fun f=>
Br f (
JE e [vT] c) (
lD 1 (pt b) d fun f=>
aA f fun f=>
lD 0 (pt b) d fun b=>
∀g:Hp,
CN (a.add g) 254 #[b] c fun a b=>
aJ b d∧
lN f a fun a=>
ay vF vT a fun a=>
JE e [a] b))
theorem AH(h:L232 g a0 H R):sc g 232 #[a0] H R:=
  sd (.n .e (.n (.h 1 [19] [1] (.h 1 [] [] (hr 0 [] 0 3 (.h 2 [3] [] (hr 0 [] 4 3 (hr 3 [] 7 2 (hr 0 [] 9 7 (.h 3 [16] [] .e .e)))) (hr 0 [] 4 4 (.h 2 [8] [] (hr 0 [] 9 7 (.h 3 [16] [] .e .e)) (hr 0 [] 9 8 .e))))) .e) .e) (.n (.h 0 [0,1,2,3,4,5,6,7,8,9,10,11,12,13] [] .e .e) .e))) Tryz.func232 h
def L233:Y2:=
fun a b c d e=>
dP d (.cells (Value.cells c) 57 (0,0)) fun c d=>
DR d fun f=>
av 2 f (pt c) fun g=>
av 2 f (pt c) fun c=>
CN a 234 #[g] d fun a d=>
aJ d f∧
ez (.string) d b a c fun a=>
rt e (.tuple #[]) a
theorem AG(h:L233 g a0 a1 H R):sc g 233 #[a0,a1] H R:=
  sd (.n .e (.h 0 [0,1,3,2,4] [] .e .e)) Tryz.func233 h
def L234:Y1:=
fun _ a b c=>
dP b (.cells (Value.cells a) 57 (0,0)) fun a b=>
lD 1 (pt a) b fun a=>
aA a fun d=>
∃(e:Jt) (f:Mt),JE e [(.slice none 0 0),(iv 0)] b∧∀b g:Value,∀h:Hp,e [b,g] h→∀_:Fr,
lL g d fun d=>
Br d (
lI 1 a g h fun a=>
∃(d:Jt) (i:Mt),JE d [b,(iv 0)] h∧∀j k:Value,∀l:Hp,d [j,k] l→∀_:Fr,
lL k (iv 8) fun m=>
Br m (
aa .num .mul (iv 8) k fun m=>
aa .num .shr a m fun a=>
bf .u8 a fun a=>
an Tryz.prog 87 1 [(0,a)] l fun a m=>
App Tryz.prog 5 1 1 (bi 0) m j a fun a m=>
lA k (iv 1) fun n=>
aq d i [a,n] m [j,k] l) (
lA g (iv 1) fun a=>
aq e f [j,a] l [b,g] h)) (
iI h b fun a=>
rt c a h)
theorem AE(h:L234 g a0 H R):sc g 234 #[a0] H R:=
  sd (.n .e (.n .e (.n (.n .e (.n (.h 0 [3,10] [8,9] (.n .e (.n .e (.n (.n (.n .e (.n .e (.n (.h 0 [3,14] [5,8,9,10] .e .e) .e))) .e) .e))) .e) .e)) .e))) Tryz.func234 h
def L236:Y2:=
fun a b c d e=>
lW d #[(iv 0),(.slice none 0 0)] 57 fun d f=>
aa .num .shl (iv 1) b fun g=>
br 4 1 1 vF f g g fun f g=>
∃(h:Jt) (i:Mt),JE h [(iv 0)] g∧∀g:Value,∀j:Hp,h [g] j→∀_:Fr,
aA f fun k=>
lL g k fun k=>
Br k (
aj 1 f g fun k=>
St 1 j k c fun c=>
lA g (iv 1) fun k=>
aq h i [k] c [g] j) (
CR e a 98 #[b,f] j fun a b=>
St 2 b (pt d) a fun a=>
av 2 a (pt d) fun b=>
rt e b a)
theorem AD(h:L236 g a0 a1 H R):sc g 236 #[a0,a1] H R:=
  sd (.n .e (.n .e (.n (.n .e (.n (.h 0 [6] [0,1,4,5] .e .e) .e)) .e))) Tryz.func236 h
def L239:Y4:=
fun _ a b c d e f=>
ag 1 b fun b=>
Ld e b fun b=>
lI 1 b a e fun b=>
ag 1 c fun c=>
Ld e c fun c=>
lI 1 c a e fun a=>
Un .xor b fun c=>
Un .xor a fun g=>
aa .num .and c g fun c=>
Un .xor b fun g=>
aa .num .and g a fun g=>
Un .xor a fun h=>
aa .num .and b h fun h=>
aa .num .and b a fun a=>
an Tryz.prog 55 4 [(0,c),(1,g),(2,h),(3,a)] e fun a b=>
aA a fun c=>
∃(e:Jt) (g:Mt),JE e [(wi 0),(iv 0)] b∧∀b h:Value,∀i:Hp,e [b,h] i→∀_:Fr,
lL h c fun c=>
Br c (
∀c:Jt,(∀j:Value,∀k:Hp,(∀_:Fr,
lA h (iv 1) fun l=>
aq e g [j,l] k [b,h] i)→c [j] k)→
lI 1 a h i fun a=>
Ld i d fun d=>
aa .num .shr d h fun d=>
aa .num .and d (bi 1) fun d=>
lE d (bi 1) fun d=>
Br d (
aa .num .or b a fun a=>
JE c [a] i) (
JE c [b] i)) (
rt f b i)
theorem AB(h:L239 g a0 a1 a2 a3 H R):sc g 239 #[a0,a1,a2,a3] H R:=
  sd (hN 3 (.n (.n .e (.n (.h 0 [8,39] [3,37,38] (.n .e (.n .e (.h 1 [8] [3,37,38,39] .e .e))) .e) .e)) .e)) Tryz.func239 h
variable {g:Gh} {a0 a1 a2 a3 a4 a5 a6 a7 a8 a9 p5 pZ Sb Sa R9 R8:Value} {H:Hp} {R:Rt}
def L250:Y1:=
fun a b c d=>
CR d a 273 #[b] c fun b c=>
CR d a 274 #[b] c fun _ a=>
rt d b a
theorem AA(h:L250 g a0 H R):sc g 250 #[a0] H R:=
  sd .e Tryz.func250 h
def L251:Y1:=
fun _ a b c=>
dP b (.cells (Value.cells a) 266 (0,0)) fun a b=>
c (.returned (.func (.func 275) #[] #[(pt a)])) b
theorem Az(h:L251 g a0 H R):sc g 251 #[a0] H R:=
  sd .e Tryz.func251 h
def L252:Y2:=
fun a b c d e=>
dP d (.cells (Value.cells c) 161 (0,0)) fun c d=>
aa .ptr .eql b (.pointer none) fun f=>
Br f (
rt e (tP (ui 0) (iv 10)) d) (
av 3 d (pt c) fun f=>
CR e a 208 #[b,f] d fun a d=>
lN a (iv 0) fun f=>
Br f (
rt e (tP (ui 0) a) d) (
lM 2 b d fun a=>
aA a fun a=>
lG a (iv 0) fun f=>
Br f (
lM 2 b d fun f=>
lS a (iv 1) fun g=>
lI 1 f g d fun f=>
lM 2 b d fun g=>
lS a (iv 1) fun a=>
di 1 g none (some a) fun a=>
lC 2 b fun g=>
St 1 d g a fun a=>
DR a fun g=>
lM 1 b g fun h=>
av 3 g (pt c) fun g=>
Build Tryz.prog 291 [(0,g),(1,vT)] fun g=>
aj 5 h f fun h=>
St 5 a h g fun a=>
lM 3 b a fun g=>
lA g (iv 1) fun g=>
lC 3 b fun h=>
St 1 a h g fun a=>
rt e (tP f (iv 0)) a) (
lM 1 b d fun a=>
aA a fun a=>
lM 0 b d fun f=>
aa .num .geq a f fun a=>
Br a (
rt e (tP (ui 0) (iv 9)) d) (
DR d fun a=>
lM 1 b a fun f=>
av 3 a (pt c) fun c=>
Build Tryz.prog 291 [(0,c),(1,vT)] fun c=>
an Tryz.prog 196 1 [(0,c)] d fun c d=>
aJ d a∧
App Tryz.prog 291 5 24 (.agg #[(iv 0),(ui 0),(ui 0),vF,(bi 0)]) d f c fun c d=>
aJ d a∧
lC 1 b fun a=>
St 1 d a c fun a=>
lM 3 b a fun c=>
lA c (iv 1) fun c=>
lC 3 b fun d=>
St 1 a d c fun a=>
lM 1 b a fun b=>
aA b fun b=>
lS b (iv 1) fun b=>
bf .u32 b fun b=>
rt e (tP b (iv 0)) a))))
theorem Ay(h:L252 g a0 a1 H R):sc g 252 #[a0,a1] H R:=
  sd (hN 3 (.n (.n .e (.n .e (.n (.n .e (.n .e (.n (.h 0 [0,1,2,3,4,5,6,7,8] [] .e .e) .e))) .e))) (.n .e (.n (.h 0 [0,1,2,3,4,5,6,7,8,9,10,11] [] .e .e) .e)))) Tryz.func252 h
def L253:Y2:=
fun _ a b c d=>
bf .i64 b fun e=>
lM 1 a c fun f=>
aA f fun f=>
lL e f fun e=>
lU e (fun e=>
lM 1 a c fun a=>
aj 5 a b fun a=>
ag 3 a fun a=>
Ld c a fun a=>
(lV c a e)) fun e=>
rt d (Value.bool e) c
theorem Ax(h:L253 g a0 a1 H R):sc g 253 #[a0,a1] H R:=
  sd (.n .e (.n (.h 0 [] [1] .e .e) .e)) Tryz.func253 h
def L254:Y1:=
fun _ a b c=>
aa .num .shl (iv 1) a fun a=>
aa .num .shr a (wi 6) fun a=>
O3 (iv 1) a fun a=>
rt c a b
theorem Aw(h:L254 g a0 H R):sc g 254 #[a0] H R:=
  sd .e Tryz.func254 h
def L255:Y1:=
fun _ a b c=>
aa .num .geq a (iv 6) fun d=>
Br d (
rt c (wi 18446744073709551615) b) (
aa .num .shl (wi 1) a fun a=>
aa .num .shl (wi 1) a fun a=>
lS a (wi 1) fun a=>
rt c a b)
theorem Av(h:L255 g a0 H R):sc g 255 #[a0] H R:=
  sd .e Tryz.func255 h
def L256:Y4:=
fun a b c d e f g=>
Ld f c fun h=>
aa .num .geq h (iv 6) fun h=>
Br h (
Ld f c fun h=>
lS h (iv 6) fun h=>
aa .num .shl (iv 1) h fun h=>
aa .num .andNot b h fun h=>
∀i:Jt,(∀j:Value,∀k:Hp,(∀_:Fr,
ag 1 e fun l=>
Ld k l fun l=>
lI 1 l j k fun l=>
rt g l k)→i [j] k)→
Ld f d fun j=>
Br j (
Ld f c fun j=>
lS j (iv 6) fun j=>
aa .num .shl (iv 1) j fun j=>
aa .num .or h j fun j=>
JE i [j] f) (
JE i [h] f)) (
DR f fun h=>
Ld h c fun i=>
Ld h c fun c=>
aa .num .shl (iv 1) c fun c=>
CN a 219 #[i,(iv 0)] f fun a f=>
aJ f h∧
Ld f d fun d=>
Br d (
ag 1 e fun d=>
Ld f d fun d=>
lI 1 d b f fun d=>
aa .num .and d a fun d=>
aa .num .shr d c fun h=>
aa .num .or d h fun d=>
rt g d f) (
ag 1 e fun d=>
Ld f d fun d=>
lI 1 d b f fun b=>
aa .num .andNot b a fun a=>
aa .num .shl a c fun b=>
aa .num .or a b fun a=>
rt g a f))
theorem Au(h:L256 g a0 a1 a2 a3 H R):sc g 256 #[a0,a1,a2,a3] H R:=
  sd (.n .e (.n (.n .e (.n (.n .e (.h 1 [6] [3] .e .e)) .e)) (.n (.h 0 [0,2,3,1,4,5] [] .e .e) .e))) Tryz.func256 h
def L257:Y2:=
fun a b c d e=>
lC 0 b fun f=>
CR e a 174 #[f,c] d fun a c=>
lQ 3 c #[(iv 0),(ui 0),(ui 0)] 161 a fun a c=>
lD 0 (pt a) c fun d=>
aa .num .geq d (iv 0) fun d=>
Br d (
lM 6 b c fun d=>
lD 0 (pt a) c fun a=>
lI 1 d a c fun a=>
rt e a c) (
lM 4 b c fun a=>
rt e a c)
theorem As(h:L257 g a0 a1 H R):sc g 257 #[a0,a1] H R:=
  sd .e Tryz.func257 h
def L258:Y2:=
fun a b c d e=>
aA b fun f=>
∃(g:Jt) (h:Mt),JE g [(.slice none 0 0),(iv 0)] d∧∀d i:Value,∀j:Hp,g [d,i] j→∀_:Fr,
lL i f fun f=>
Br f (
∀f:Jt,(∀k:Value,∀l:Hp,(∀_:Fr,
lA i (iv 1) fun m=>
aq g h [k,m] l [d,i] j)→f [k] l)→
aj 2 b i fun b=>
av 2 j b fun b=>
lQ 2 j #[(iv 0),(.slice none 0 0)] 57 b fun b g=>
av 2 g (pt b) fun h=>
CR e a 161 #[h,c] g fun a c=>
Br a (
av 2 c (pt b) fun a=>
an Tryz.prog 28 1 [(0,a)] c fun a b=>
App Tryz.prog 57 2 32 (.agg #[(iv 0),(.slice none 0 0)]) b d a fun a b=>
JE f [a] b) (
JE f [d] c)) (
rt e d j)
theorem Ar(h:L258 g a0 a1 H R):sc g 258 #[a0,a1] H R:=
  sd (.n .e (.n .e (.n (.n .e (.n (.h 0 [5,10] [1,8,9] (.n .e (.n .e (.h 1 [5] [1,8,9,10] .e .e))) .e) .e)) .e))) Tryz.func258 h
def L259:Y2:=
fun a b c d e=>
aA b fun f=>
∃(g:Jt) (h:Mt),JE g [(.slice none 0 0),(iv 0)] d∧∀d i:Value,∀j:Hp,g [d,i] j→∀_:Fr,
lL i f fun f=>
Br f (
∀f:Jt,(∀k:Value,∀l:Hp,(∀_:Fr,
lA i (iv 1) fun m=>
aq g h [k,m] l [d,i] j)→f [k] l)→
aj 2 b i fun b=>
av 2 j b fun b=>
lQ 2 j #[(iv 0),(.slice none 0 0)] 57 b fun b g=>
DR g fun h=>
av 2 h (pt b) fun i=>
av 2 h (pt b) fun b=>
∀k:Hp,
CN (a.add k) 163 #[i,c,vF] g fun g i=>
aJ i h∧
∀k:Hp,
CN (a.add k) 163 #[b,c,vT] i fun b c=>
aJ c h∧
lW c #[(iv 0),(.slice none 0 0)] 57 fun c i=>
lW i #[(iv 0),(.slice none 0 0)] 57 fun i k=>
∀_:Hp,
St 2 k (pt c) g fun g=>
aJ g h∧
∀_:Hp,
St 2 g (pt i) b fun b=>
∀g:Jt,(∀h:Value,∀k:Hp,(∀_:Fr,
av 2 k (pt i) fun l=>
CR e a 260 #[h,l] k fun l m=>
Un .not l fun l=>
Br l (
av 2 m (pt i) fun i=>
an Tryz.prog 28 1 [(0,i)] m fun i l=>
App Tryz.prog 57 2 32 (.agg #[(iv 0),(.slice none 0 0)]) l h i fun i l=>
JE f [i] l) (
JE f [h] m))→g [h] k)→
av 2 b (pt c) fun f=>
CR e a 260 #[d,f] b fun a b=>
Un .not a fun a=>
Br a (
av 2 b (pt c) fun a=>
an Tryz.prog 28 1 [(0,a)] b fun a c=>
App Tryz.prog 57 2 32 (.agg #[(iv 0),(.slice none 0 0)]) c d a fun a c=>
JE g [a] c) (
JE g [d] b)) (
rt e d j)
theorem Aq(h:L259 g a0 a1 H R):sc g 259 #[a0,a1] H R:=
  sd (.n .e (.n .e (.n (.n .e (.n (.h 0 [5,12] [1,10,11] (.n .e (.n .e (.h 1 [5] [1,10,11,12] (.n (.n .e (.n (.h 1 [] [] (hr 0 [] 0 2 (hr 0 [] 3 2 (hr 1 [] 6 2 (.h 0 [2] [] (hr 0 [] 5 5 .e) .e)))) .e) (.h 1 [5] [1,9,10,11,12] .e .e))) .e) .e))) .e) .e)) .e))) Tryz.func259 h
def L260:Y2:=
fun a b c d e=>
dP d (.cells (Value.cells c) 57 (0,0)) fun c d=>
aA b fun f=>
∃(g:Jt) (h:Mt),JE g [(iv 0)] d∧∀d:Value,∀i:Hp,g [d] i→∀_:Fr,
lL d f fun f=>
Br f (
aj 2 b d fun b=>
av 2 i b fun b=>
lQ 2 i #[(iv 0),(.slice none 0 0)] 57 b fun b f=>
av 2 f (pt c) fun c=>
av 2 f (pt b) fun b=>
CR e a 36 #[c,b] f fun a b=>
Br a (
rt e vT b) (
lA d (iv 1) fun a=>
aq g h [a] b [d] i)) (
rt e vF i)
theorem Ap(h:L260 g a0 a1 H R):sc g 260 #[a0,a1] H R:=
  sd (.n .e (.n (.n .e (.n (.h 0 [9] [3,7,8] .e .e) .e)) .e)) Tryz.func260 h
def L261:Y2:=
fun a b c d e=>
aA b fun f=>
∃(g:Jt) (h:Mt),JE g [c,(iv 0)] d∧∀c d:Value,∀i:Hp,g [c,d] i→∀_:Fr,
lL d f fun f=>
Br f (
aj 2 b d fun f=>
av 2 i f fun f=>
lQ 2 i #[(iv 0),(.slice none 0 0)] 57 f fun f j=>
∀k:Jt,(∀l:Value,∀m:Hp,(∀_:Fr,
Br l (
rt e (tP (iv 0) (iv 5)) m) (
lD 0 (pt f) m fun n=>
lA d (iv 1) fun o=>
aq g h [n,o] m [c,d] i))→k [l] m)→
DR j fun d=>
av 2 d (pt f) fun g=>
∀h:Hp,
CN (a.add h) 28 #[g] j fun a g=>
aJ g d∧
Un .not a fun a=>
Br a (
JE k [vT] g) (
lD 0 (pt f) d fun a=>
aj 2 b (iv 0) fun b=>
ag 0 b fun b=>
Ld d b fun b=>
lN a b fun a=>
ay vF vT a fun a=>
JE k [a] g)) (
rt e (tP c (iv 0)) i)
theorem Ao(h:L261 g a0 a1 H R):sc g 261 #[a0,a1] H R:=
  sd (.n .e (.n (.n .e (.n (.h 0 [1,10] [0,8,9] (.n .e (.n .e (.n (.n (.n .e (.n (.h 1 [25] [0,7,8,9,10] (.h 1 [] [] (hr 0 [] 0 3 (.h 2 [3] [] (hr 0 [] 4 7 (.h 3 [11] [] .e .e)) (hr 0 [] 4 8 .e))) .e) .e) .e)) .e) .e))) .e) .e)) .e)) Tryz.func261 h
def L273:Y1:=
fun a b c d=>
CR d a 284 #[(.slice none 0 0),b] c fun a b=>
rt d a b
theorem An(h:L273 g a0 H R):sc g 273 #[a0] H R:=
  sd .e Tryz.func273 h
def L274:Y1:=
fun a b c d=>
aA b fun e=>
bf .u64 e fun f=>
CR d a 286 #[f] c fun c f=>
CR d a 285 #[b,(iv 0),e,c] f fun _ a=>
rt d (.tuple #[]) a
theorem Am(h:L274 g a0 H R):sc g 274 #[a0] H R:=
  sd .e Tryz.func274 h
def L285:Y4:=
fun a b c d e f g=>
∃(h:Jt) (i:Mt),JE h [c,d,e,vT,vT] f∧∀c d e f j:Value,∀k:Hp,h [c,d,e,f,j] k→∀_:Fr,
lS d c fun l=>
aa .num .leq l (iv 12) fun m=>
Br m (
CR g a 289 #[b,c,d] k fun _ m=>
rt g (.tuple #[]) m) (
lE e (iv 0) fun m=>
Br m (
CR g a 290 #[b,c,d] k fun _ m=>
rt g (.tuple #[]) m) (
∀m:Jt,(∀n:Value,∀o:Hp,(∀_:Fr,
CR g a 292 #[b,c,d] o fun p q=>
lX p fun p r=>
∀s:Jt,(∀t u:Value,∀v:Hp,(∀_:Fr,
∀w:Jt,(∀x:Hp,(∀_:Fr,
∀y:Jt,(∀z:Value,∀A:Hp,(∀_:Fr,
Br z (
CR g a 296 #[b,c,d,t] A fun B C=>
aq h i [B,d,n,f,j] C [c,d,e,f,j] k) (
CR g a 297 #[b,c,d,t] A fun B C=>
lX B fun B D=>
lS B c fun E=>
lS d B fun F=>
aa .num .quo l (iv 8) fun l=>
lL E F fun G=>
Br G (
aa .num .geq E l fun E=>
CR g a 285 #[b,c,B,n] C fun _ G=>
lA B (iv 1) fun H=>
aq h i [H,d,n,E,D] G [c,d,e,f,j] k) (
aa .num .geq F l fun l=>
lA B (iv 1) fun E=>
CR g a 285 #[b,E,d,n] C fun _ C=>
aq h i [c,B,n,l,D] C [c,d,e,f,j] k)))→y [z] A)→
DR x fun h=>
lG c (iv 0) fun i=>
Br i (
lS c (iv 1) fun i=>
lI 1 b i h fun i=>
lI 1 b t h fun h=>
∀l:Hp,
CN (a.add l) 295 #[i,h] x fun h i=>
Un .not h fun h=>
ay vT h vF fun h=>
JE y [h] i) (
JE y [vF] x))→w [] x)→
lU f (fun h=>
(lV v j h)) fun h=>
lU (Value.bool h) (fun h=>
lE u (iv 1) fun i=>
(lV v i h)) fun h=>
Br (Value.bool h) (
CR g a 294 #[b,c,d] v fun h i=>
Br h (
rt g (.tuple #[]) i) (
JE w [] i)) (
JE w [] v))→s [t,u] v)→
lE r (iv 2) fun h=>
Br h (
CR g a 293 #[b,c,d] q fun _ h=>
lS d (iv 1) fun i=>
lS p c fun j=>
lS i j fun i=>
JE s [i,(iv 1)] h) (
JE s [p,r] q))→m [n] o)→
Un .not f fun f=>
Br f (
CR g a 291 #[b,c,d] k fun _ a=>
lS e (iv 1) fun b=>
JE m [b] a) (
JE m [e] k)))
theorem sj(h:L285 g a0 a1 a2 a3 H R):sc g 285 #[a0,a1,a2,a3] H R:=
  sd (.n .e (.n .e (.n (.h 0 [1,2,3,8,9] [0] (.n (hN 3 (.h 1 [3] [0,1,2,8,9,10] .e (.n .e (.h 1 [11,12] [0,1,2,3,8,9,10] .e (.h 1 [] [0,1,2,3,8,9,10,11] (.n (.h 0 [] [1] .e .e) .e) (.n (.h 1 [87] [0,1,2,3,8,9,10,11] (.h 1 [] [] (hr 0 [] 0 2 (.h 2 [2] [] (hr 0 [] 3 12 .e) (hr 0 [] 3 11 (.h 3 [14] [] .e .e)))) .e) .e) .e)))))) .e) .e) .e))) Tryz.func285 h
def L286:Y1:=
fun a b c d=>
Br vF (
bf .u32 b fun e=>
CR d a 298 #[e] c fun e f=>
rt d e f) (
CR d a 75 #[b] c fun a b=>
rt d a b)
theorem Al(h:L286 g a0 H R):sc g 286 #[a0] H R:=
  sd .e Tryz.func286 h
def L289:Y3:=
fun a b c d e f=>
lA c (iv 1) fun g=>
∃(h:Jt) (i:Mt),JE h [g] e∧∀e:Value,∀g:Hp,h [e] g→∀_:Fr,
lL e d fun d=>
Br d (
∃(d:Jt) (j:Mt),JE d [e] g∧∀k:Value,∀l:Hp,d [k] l→∀_:Fr,
∀m:Jt,(∀n:Value,∀o:Hp,(∀_:Fr,
Br n (
DR o fun p=>
lS k (iv 1) fun q=>
lS k (iv 1) fun r=>
lI 1 b r p fun r=>
lI 1 b k p fun p=>
aj 1 b k fun s=>
St 1 o s r fun r=>
aj 1 b q fun q=>
St 1 r q p fun p=>
lS k (iv 1) fun q=>
aq d j [q] p [k] l) (
lA e (iv 1) fun d=>
aq h i [d] o [e] g))→m [n] o)→
DR l fun d=>
lG k c fun c=>
Br c (
lI 1 b k d fun c=>
lS k (iv 1) fun e=>
lI 1 b e d fun b=>
∀d:Hp,
CN (a.add d) 295 #[c,b] l fun a b=>
ay vT a vF fun a=>
JE m [a] b) (
JE m [vF] l)) (
rt f (.tuple #[]) g)
theorem Ak(h:L289 g a0 a1 a2 H R):sc g 289 #[a0,a1,a2] H R:=
  sd (.n .e (.n (.h 0 [6] [0,1,2] (.n .e (.n (.n (.n .e (.n (.h 0 [7] [0,1,2,6] (.n (.h 1 [30] [0,1,2,6,7] (.h 1 [] [] (hr 0 [] 0 3 (.h 2 [3] [] (hr 0 [] 4 11 .e) (hr 0 [] 4 10 (.h 3 [14] [] .e .e)))) .e) .e) (.n (.n (.h 0 [0,1,2,3,4,5,6,7,8,9,10,11,12,13,14,15,16,17] [] .e .e) .e) .e)) .e) .e)) .e) .e)) .e) .e)) Tryz.func289 h
def L290:Y3:=
fun a b c d e f=>
lS d c fun d=>
lS d (iv 1) fun g=>
aa .num .quo g (iv 2) fun g=>
∃(h:Jt) (i:Mt),JE h [g] e∧∀e:Value,∀g:Hp,h [e] g→∀_:Fr,
aa .num .geq e (iv 0) fun j=>
Br j (
CR f a 299 #[b,e,d,c] g fun _ j=>
lS e (iv 1) fun k=>
aq h i [k] j [e] g) (
lS d (iv 1) fun d=>
∃(e:Jt) (h:Mt),JE e [d] g∧∀d:Value,∀g:Hp,e [d] g→∀_:Fr,
aa .num .geq d (iv 0) fun i=>
Br i (
DR g fun i=>
lA c d fun j=>
lA c d fun k=>
lI 1 b k i fun k=>
lI 1 b c i fun i=>
aj 1 b c fun l=>
St 1 g l k fun k=>
aj 1 b j fun j=>
St 1 k j i fun i=>
CR f a 299 #[b,(iv 0),d,c] i fun _ a=>
lS d (iv 1) fun b=>
aq e h [b] a [d] g) (
rt f (.tuple #[]) g))
theorem Aj(h:L290 g a0 a1 a2 H R):sc g 290 #[a0,a1,a2] H R:=
  sd (hN 3 (.n (.n .e (.n (.h 0 [9] [0,6,7,8] .e .e) .e)) (.n .e (.n (.h 0 [10] [0,6,7] (.n .e (.n (.n (.n (.h 0 [0,1,2,3,4,5,6,7,8,9,10,11,12,13,14,15,16,17,18,19] [] .e .e) .e) .e) .e)) .e) .e)))) Tryz.func290 h
def L291:Y3:=
fun a b c d e f=>
lS d c fun d=>
aa .num .geq d (iv 8) fun g=>
Br g (
bf .u64 d fun g=>
lQ 1 e #[(wi 0)] 373 g fun g h=>
CR f a 300 #[d] h fun h i=>
aa .num .quo d (iv 4) fun j=>
aa .num .mul j (iv 2) fun j=>
lA c j fun j=>
lS j (iv 1) fun j=>
∃(k:Jt) (l:Mt),JE k [j] i∧∀i:Value,∀j:Hp,k [i] j→∀_:Fr,
aa .num .quo d (iv 4) fun m=>
aa .num .mul m (iv 2) fun m=>
lA c m fun m=>
lA m (iv 1) fun m=>
aa .num .leq i m fun m=>
Br m (
CR f a 301 #[(pt g)] j fun a g=>
lS h (wi 1) fun h=>
aa .num .and a h fun a=>
bf .i64 a fun a=>
∀h:Jt,(∀m:Value,∀n:Hp,(∀_:Fr,
DR n fun o=>
lA c m fun p=>
lA c m fun c=>
lI 1 b c o fun c=>
lI 1 b i o fun o=>
aj 1 b i fun q=>
St 1 n q c fun c=>
aj 1 b p fun b=>
St 1 c b o fun b=>
lA i (iv 1) fun c=>
aq k l [c] b [i] j)→h [m] n)→
aa .num .geq a d fun b=>
Br b (
lS a d fun b=>
JE h [b] g) (
JE h [a] g)) (
rt f (.tuple #[]) j)) (
rt f (.tuple #[]) e)
theorem Ai(h:L291 g a0 a1 a2 H R):sc g 291 #[a0,a1,a2] H R:=
  sd (.n .e (.n .e (.n (hN 3 (.n (.h 0 [9] [0,1,6,7,8] (.n .e (.n (.n (.n .e (.h 1 [10] [0,1,6,7,8,9] .e (.h 0 [0,1,2,3,4,5,6,7,8,9,10,11,12,13,14,15,16,17,18,19] [] .e .e))) .e) .e)) .e) .e)) .e))) Tryz.func291 h
def L292:Y3:=
fun a b c d e f=>
lS d c fun d=>
lW e #[(iv 0)] 3 fun e g=>
aa .num .quo d (iv 4) fun h=>
aa .num .mul h (iv 1) fun h=>
lA c h fun h=>
aa .num .quo d (iv 4) fun i=>
aa .num .mul i (iv 2) fun i=>
lA c i fun i=>
aa .num .quo d (iv 4) fun j=>
aa .num .mul j (iv 3) fun j=>
lA c j fun c=>
∀j:Jt,(∀k:Value,∀l:Hp,(∀_:Fr,
Ld l (pt e) fun m=>
lE m (iv 0) fun n=>
Br n (
rt f (tP k (iv 1)) l) (
lE m (iv 12) fun m=>
Br m (
rt f (tP k (iv 2)) l) (
rt f (tP k (iv 0)) l)))→j [k] l)→
aa .num .geq d (iv 8) fun k=>
Br k (
∀k:Jt,(∀l m n:Value,∀o:Hp,(∀_:Fr,
CR f a 303 #[b,l,m,n,(pt e)] o fun p q=>
JE j [p] q)→k [l,m,n] o)→
aa .num .geq d (iv 50) fun d=>
Br d (
CR f a 302 #[b,h,(pt e)] g fun d l=>
CR f a 302 #[b,i,(pt e)] l fun l m=>
CR f a 302 #[b,c,(pt e)] m fun a b=>
JE k [d,l,a] b) (
JE k [h,i,c] g)) (
JE j [i] g)
theorem Ah(h:L292 g a0 a1 a2 H R):sc g 292 #[a0,a1,a2] H R:=
  sd (hN 6 (.h 1 [11] [9] (.n .e (.n (.h 1 [10,11,12] [0,9] .e .e) .e)) .e)) Tryz.func292 h
def L293:Y3:=
fun _ a b c d e=>
lS c (iv 1) fun c=>
∃(f:Jt) (g:Mt),JE f [b,c] d∧∀b c:Value,∀d:Hp,f [b,c] d→∀_:Fr,
lL b c fun h=>
Br h (
DR d fun h=>
lI 1 a c h fun i=>
lI 1 a b h fun h=>
aj 1 a b fun j=>
St 1 d j i fun i=>
aj 1 a c fun a=>
St 1 i a h fun a=>
lA b (iv 1) fun h=>
lS c (iv 1) fun i=>
aq f g [h,i] a [b,c] d) (
rt e (.tuple #[]) d)
theorem Ag(h:L293 g a0 a1 a2 H R):sc g 293 #[a0,a1,a2] H R:=
  sd (.n .e (.n .e (.n (.h 0 [6,7] [0] (.n .e (.n (.n (.h 0 [0,1,2,3,4,5,6,7,8,9,10,11,12,13,14,15] [] .e .e) .e) .e)) .e) .e))) Tryz.func293 h
def L294:Y3:=
fun a b c d e f=>
lA c (iv 1) fun g=>
∃(h:Jt) (i:Mt),JE h [g,(iv 0)] e∧∀e g:Value,∀j:Hp,h [e,g] j→∀_:Fr,
lL g (iv 5) fun k=>
Br k (
∀k:Jt,(∀l:Value,∀m:Hp,(∀_:Fr,
lA g (iv 1) fun n=>
aq h i [l,n] m [e,g] j)→k [l] m)→
∃(g:Jt) (h:Mt),JE g [e] j∧∀e:Value,∀i:Hp,g [e] i→∀_:Fr,
∀l:Jt,(∀m:Value,∀n:Hp,(∀_:Fr,
Br m (
lA e (iv 1) fun o=>
aq g h [o] n [e] i) (
lE e d fun g=>
Br g (
rt f vT n) (
lS d c fun g=>
lL g (iv 50) fun g=>
Br g (
rt f vF n) (
DR n fun g=>
lS e (iv 1) fun h=>
lS e (iv 1) fun o=>
lI 1 b o g fun o=>
lI 1 b e g fun g=>
aj 1 b e fun p=>
St 1 n p o fun o=>
aj 1 b h fun h=>
St 1 o h g fun g=>
∀h:Jt,(∀o:Hp,(∀_:Fr,
lS d e fun p=>
aa .num .geq p (iv 2) fun p=>
Br p (
lA e (iv 1) fun p=>
∃(q:Jt) (r:Mt),JE q [p] o∧∀p:Value,∀s:Hp,q [p] s→∀_:Fr,
lL p d fun t=>
Br t (
DR s fun t=>
lI 1 b p t fun u=>
lS p (iv 1) fun v=>
lI 1 b v t fun t=>
CN a 295 #[u,t] s fun t u=>
Un .not t fun t=>
Br t (
JE k [e] u) (
DR u fun t=>
lS p (iv 1) fun v=>
lS p (iv 1) fun w=>
lI 1 b w t fun w=>
lI 1 b p t fun t=>
aj 1 b p fun x=>
St 1 u x w fun u=>
aj 1 b v fun v=>
St 1 u v t fun t=>
lA p (iv 1) fun u=>
aq q r [u] t [p] s)) (
JE k [e] s)) (
JE k [e] o))→h [] o)→
lS e c fun c=>
aa .num .geq c (iv 2) fun c=>
Br c (
lS e (iv 1) fun c=>
∃(k:Jt) (o:Mt),JE k [c] g∧∀c:Value,∀p:Hp,k [c] p→∀_:Fr,
aa .num .geq c (iv 1) fun q=>
Br q (
DR p fun q=>
lI 1 b c q fun r=>
lS c (iv 1) fun s=>
lI 1 b s q fun q=>
CN a 295 #[r,q] p fun q r=>
Un .not q fun q=>
Br q (
JE h [] r) (
DR r fun q=>
lS c (iv 1) fun s=>
lS c (iv 1) fun t=>
lI 1 b t q fun t=>
lI 1 b c q fun q=>
aj 1 b c fun u=>
St 1 r u t fun r=>
aj 1 b s fun s=>
St 1 r s q fun q=>
lS c (iv 1) fun r=>
aq k o [r] q [c] p)) (
JE h [] p)) (
JE h [] g)))))→l [m] n)→
DR i fun c=>
lL e d fun d=>
Br d (
lI 1 b e c fun d=>
lS e (iv 1) fun e=>
lI 1 b e c fun b=>
∀c:Hp,
CN (a.add c) 295 #[d,b] i fun a b=>
Un .not a fun a=>
ay vT a vF fun a=>
JE l [a] b) (
JE l [vF] i)) (
rt f vF j)
theorem Af(h:L294 g a0 a1 a2 H R):sc g 294 #[a0,a1,a2] H R:=
  sd (.n .e (.n .e (.n (.n .e (.n (.h 0 [7,8] [0,1,2] (.n .e (.h 1 [7] [0,1,2,8] (.n (.n (.n (.h 0 [7] [0,1,2,8] (.n (.h 1 [32] [0,1,2,7,8] (.h 1 [] [] (hr 0 [] 0 3 (.h 2 [3] [] (hr 0 [] 4 12 .e) (hr 0 [] 4 11 (.h 3 [15] [] .e .e)))) .e) .e) .e) .e) .e) (.n .e (.n .e (.n (.h 0 [0,1,2,3,4,5,6,7,8,9,10,11,12,13,14,15,16,17] [] .e .e) (.h 1 [] [0,1,2,7,8] (.n .e (.n (.n .e (.n (.h 0 [9] [0,1,2,7,8] (.n .e (.n (.n (.n (.n (.h 0 [0,1,2,3,4,5,6,7,8,9,10] [] .e .e) .e) (.h 0 [0,1,2,3,4,5,6,7,8,9,10,11,12,13,14,15,16,17] [] .e .e)) .e) .e)) .e) .e)) .e)) (.n .e (.n (.n .e (.n (.h 0 [10] [0,1,2,7,8] (.n .e (.n (.n (.n (.n (.h 0 [0,1,2,3,4,5,6,7,8,9,10] [] .e .e) .e) (.h 0 [0,1,2,3,4,5,6,7,8,9,10,11,12,13,14,15,16,17] [] .e .e)) .e) .e)) .e) .e)) .e))))))) .e) .e)) .e) .e)) .e))) Tryz.func294 h
def L295:Y2:=
fun a b c d e=>
∀f:Jt,(∀g:Value,∀h:Hp,(∀_:Fr,
rt e g h)→f [g] h)→
CR e a 304 #[b] d fun d g=>
Split d true (
CR e a 304 #[c] g fun a d=>
Un .not a fun a=>
ay vT a vF fun a=>
Split a false (
lL b c fun a=>
ay vF vT a fun a=>
JE f [a] d) (
ay vT vT undef fun a=>
JE f [a] d)) (
ay vF undef vF fun a=>
lL b c fun b=>
ay a vT b fun a=>
JE f [a] g)
theorem Ae(h:L295 g a0 a1 H R):sc g 295 #[a0,a1] H R:=
  sd (.n .e (.h 1 [4] [] .e .e)) Tryz.func295 h
def L296:Y4:=
fun a b c d e f g=>
DR f fun h=>
lI 1 b e h fun i=>
lI 1 b c h fun h=>
aj 1 b c fun j=>
St 1 f j i fun f=>
aj 1 b e fun e=>
St 1 f e h fun e=>
lA c (iv 1) fun f=>
lS d (iv 1) fun d=>
∃(h:Jt) (i:Mt),JE h [f,d] e∧∀d e:Value,∀f:Hp,h [d,e] f→∀_:Fr,
∃(j:Jt) (k:Mt),JE j [d] f∧∀l:Value,∀m:Hp,j [l] m→∀_:Fr,
∀n:Jt,(∀o:Value,∀p:Hp,(∀_:Fr,
Br o (
lA l (iv 1) fun q=>
aq j k [q] p [l] m) (
∃(j:Jt) (k:Mt),JE j [e] p∧∀q:Value,∀r:Hp,j [q] r→∀_:Fr,
∀s:Jt,(∀t:Value,∀u:Hp,(∀_:Fr,
Br t (
lS q (iv 1) fun v=>
aq j k [v] u [q] r) (
lG l q fun j=>
Br j (
rt g l u) (
DR u fun g=>
lI 1 b q g fun j=>
lI 1 b l g fun g=>
aj 1 b l fun k=>
St 1 u k j fun j=>
aj 1 b q fun k=>
St 1 j k g fun g=>
lA l (iv 1) fun j=>
lS q (iv 1) fun k=>
aq h i [j,k] g [d,e] f)))→s [t] u)→
DR r fun d=>
aa .num .leq l q fun f=>
Br f (
lI 1 b c d fun f=>
lI 1 b q d fun d=>
∀g:Hp,
CN (a.add g) 295 #[f,d] r fun d f=>
ay vT d vF fun d=>
JE s [d] f) (
JE s [vF] r)))→n [o] p)→
DR m fun d=>
aa .num .leq l e fun e=>
Br e (
lI 1 b c d fun c=>
lI 1 b l d fun b=>
∀d:Hp,
CN (a.add d) 295 #[c,b] m fun a b=>
Un .not a fun a=>
ay vT a vF fun a=>
JE n [a] b) (
JE n [vF] m)
theorem Ad(h:L296 g a0 a1 a2 a3 H R):sc g 296 #[a0,a1,a2,a3] H R:=
  sd (.n .e (.n (.h 0 [0,1,2,3,4,5,6,7,8,9,10,11,12,13,14,15] [] .e .e) (.n .e (.n (.n (.h 0 [9,10] [0,1] (.n (.n (.n (.h 0 [9] [0,1,10] (.n (.h 1 [43] [0,1,9,10] (.h 1 [] [] (hr 0 [] 0 3 (.h 2 [3] [] (hr 0 [] 4 11 .e) (hr 0 [] 4 10 (.h 3 [14] [] .e .e)))) .e) .e) .e) .e) .e) (.n (.n (.h 0 [10] [0,1,9] (.n (.h 1 [59] [0,1,9,10] (.h 1 [] [] (hr 0 [] 0 3 (.h 2 [3] [] (hr 0 [] 4 10 .e) (hr 0 [] 4 9 (.h 3 [13] [] .e .e)))) .e) .e) .e) .e) .e) (.n .e (.n (.h 0 [0,1,2,3,4,5,6,7,8,9,10,11,12,13,14,15] [] .e .e) .e)))) .e) .e) .e) .e)))) Tryz.func296 h
def L297:Y4:=
fun a b c d e f g=>
DR f fun h=>
lI 1 b e h fun i=>
lI 1 b c h fun h=>
aj 1 b c fun j=>
St 1 f j i fun f=>
aj 1 b e fun e=>
St 1 f e h fun e=>
lA c (iv 1) fun f=>
lS d (iv 1) fun d=>
∃(h:Jt) (i:Mt),JE h [f] e∧∀e:Value,∀f:Hp,h [e] f→∀_:Fr,
∀j:Jt,(∀k:Value,∀l:Hp,(∀_:Fr,
Br k (
lA e (iv 1) fun m=>
aq h i [m] l [e] f) (
∃(h:Jt) (i:Mt),JE h [d] l∧∀m:Value,∀n:Hp,h [m] n→∀_:Fr,
∀o:Jt,(∀p:Value,∀q:Hp,(∀_:Fr,
Br p (
lS m (iv 1) fun r=>
aq h i [r] q [m] n) (
lG e m fun h=>
Br h (
DR q fun h=>
lI 1 b c h fun i=>
lI 1 b m h fun h=>
aj 1 b m fun r=>
St 1 q r i fun i=>
aj 1 b c fun r=>
St 1 i r h fun h=>
rt g (tP m vT) h) (
DR q fun h=>
lI 1 b m h fun i=>
lI 1 b e h fun h=>
aj 1 b e fun r=>
St 1 q r i fun i=>
aj 1 b m fun r=>
St 1 i r h fun h=>
lA e (iv 1) fun i=>
lS m (iv 1) fun r=>
∃(s:Jt) (t:Mt),JE s [i,r] h∧∀h i:Value,∀r:Hp,s [h,i] r→∀_:Fr,
∃(u:Jt) (v:Mt),JE u [h] r∧∀w:Value,∀x:Hp,u [w] x→∀_:Fr,
∀y:Jt,(∀z:Value,∀A:Hp,(∀_:Fr,
Br z (
lA w (iv 1) fun B=>
aq u v [B] A [w] x) (
∃(u:Jt) (v:Mt),JE u [i] A∧∀B:Value,∀C:Hp,u [B] C→∀_:Fr,
∀D:Jt,(∀E:Value,∀F:Hp,(∀_:Fr,
Br E (
lS B (iv 1) fun G=>
aq u v [G] F [B] C) (
lG w B fun u=>
Br u (
DR F fun u=>
lI 1 b c u fun v=>
lI 1 b B u fun u=>
aj 1 b B fun G=>
St 1 F G v fun v=>
aj 1 b c fun G=>
St 1 v G u fun u=>
rt g (tP B vF) u) (
DR F fun g=>
lI 1 b B g fun u=>
lI 1 b w g fun g=>
aj 1 b w fun v=>
St 1 F v u fun u=>
aj 1 b B fun v=>
St 1 u v g fun g=>
lA w (iv 1) fun u=>
lS B (iv 1) fun v=>
aq s t [u,v] g [h,i] r)))→D [E] F)→
DR C fun g=>
aa .num .leq w B fun h=>
Br h (
lI 1 b B g fun h=>
lI 1 b c g fun g=>
∀r:Hp,
CN (a.add r) 295 #[h,g] C fun g h=>
Un .not g fun g=>
ay vT g vF fun g=>
JE D [g] h) (
JE D [vF] C)))→y [z] A)→
DR x fun g=>
aa .num .leq w i fun h=>
Br h (
lI 1 b w g fun h=>
lI 1 b c g fun g=>
∀i:Hp,
CN (a.add i) 295 #[h,g] x fun g h=>
ay vT g vF fun g=>
JE y [g] h) (
JE y [vF] x))))→o [p] q)→
DR n fun g=>
aa .num .leq e m fun h=>
Br h (
lI 1 b m g fun h=>
lI 1 b c g fun g=>
∀i:Hp,
CN (a.add i) 295 #[h,g] n fun g h=>
Un .not g fun g=>
ay vT g vF fun g=>
JE o [g] h) (
JE o [vF] n)))→j [k] l)→
DR f fun g=>
aa .num .leq e d fun d=>
Br d (
lI 1 b e g fun d=>
lI 1 b c g fun b=>
∀c:Hp,
CN (a.add c) 295 #[d,b] f fun a b=>
ay vT a vF fun a=>
JE j [a] b) (
JE j [vF] f)
theorem Ac(h:L297 g a0 a1 a2 a3 H R):sc g 297 #[a0,a1,a2,a3] H R:=
  sd (.n .e (.n (.h 0 [0,1,2,3,4,5,6,7,8,9,10,11,12,13,14,15] [] .e .e) (.n .e (.n (.n (.h 0 [10] [0,1,11] (.n (.h 1 [43] [0,1,10,11] (.h 1 [] [] (hr 0 [] 0 3 (.h 2 [3] [] (hr 0 [] 4 10 .e) (hr 0 [] 4 9 (.h 3 [13] [] .e .e)))) .e) .e) .e) .e) .e) (.n (.n (.h 0 [11] [0,1,10] (.n (.h 1 [60] [0,1,10,11] (.h 1 [] [] (hr 0 [] 0 3 (.h 2 [3] [] (hr 0 [] 4 11 .e) (hr 0 [] 4 10 (.h 3 [14] [] .e .e)))) .e) .e) .e) .e) .e) (.n (.n .e (.n (.n (.h 0 [0,1,2,3,4,5,6,7,8,9,10,11,12,13,14,15] [] .e .e) .e) .e)) (.n (.h 0 [0,1,2,3,4,5,6,7,8,9,10,11,12,13,14,15] [] .e .e) (.n .e (.n .e (.n (.n (.h 0 [10,11] [0,1] (.n (.n (.n (.h 0 [10] [0,1,11] (.n (.h 1 [112] [0,1,10,11] (.h 1 [] [] (hr 0 [] 0 3 (.h 2 [3] [] (hr 0 [] 4 10 .e) (hr 0 [] 4 9 (.h 3 [13] [] .e .e)))) .e) .e) .e) .e) .e) (.n (.n (.h 0 [11] [0,1,10] (.n (.h 1 [129] [0,1,10,11] (.h 1 [] [] (hr 0 [] 0 3 (.h 2 [3] [] (hr 0 [] 4 11 .e) (hr 0 [] 4 10 (.h 3 [14] [] .e .e)))) .e) .e) .e) .e) .e) (.n .e (.n (.h 0 [0,1,2,3,4,5,6,7,8,9,10,11,12,13,14,15] [] .e .e) .e)))) .e) .e) .e) (.n (.h 0 [0,1,2,3,4,5,6,7,8,9,10,11,12,13,14,15] [] .e .e) .e))))))))))) Tryz.func297 h
def L299:Y4:=
fun a b c d e f g=>
∃(h:Jt) (i:Mt),JE h [c] f∧∀c:Value,∀f:Hp,h [c] f→∀_:Fr,
aa .num .mul (iv 2) c fun j=>
lA j (iv 1) fun j=>
aa .num .geq j d fun k=>
Br k (
rt g (.tuple #[]) f) (
∀k:Jt,(∀l:Value,∀m:Hp,(∀_:Fr,
DR m fun n=>
lA e c fun o=>
lI 1 b o n fun o=>
lA e l fun p=>
lI 1 b p n fun n=>
CN a 295 #[o,n] m fun n o=>
Un .not n fun n=>
Br n (
rt g (.tuple #[]) o) (
DR o fun g=>
lA e c fun n=>
lA e l fun p=>
lA e l fun q=>
lI 1 b q g fun q=>
lA e c fun r=>
lI 1 b r g fun g=>
aj 1 b n fun n=>
St 1 o n q fun n=>
aj 1 b p fun o=>
St 1 n o g fun g=>
aq h i [l] g [c] f))→k [l] m)→
∀c:Jt,(∀g:Value,∀h:Hp,(∀_:Fr,
Br g (
lA j (iv 1) fun i=>
JE k [i] h) (
JE k [j] h))→c [g] h)→
DR f fun g=>
lA j (iv 1) fun h=>
lL h d fun d=>
Br d (
lA e j fun d=>
lI 1 b d g fun d=>
lA e j fun e=>
lA e (iv 1) fun e=>
lI 1 b e g fun b=>
∀e:Hp,
CN (a.add e) 295 #[d,b] f fun a b=>
ay vT a vF fun a=>
JE c [a] b) (
JE c [vF] f))
theorem Ab(h:L299 g a0 a1 a2 a3 H R):sc g 299 #[a0,a1,a2,a3] H R:=
  sd (.n .e (.n (.h 0 [8] [0,2,3] (.n (.n .e (.n .e (.h 1 [9] [0,2,3,8] (.h 1 [36] [0,2,3,8,9] (.h 1 [] [] (hr 0 [] 0 4 (.h 2 [4] [] (hr 0 [] 5 15 .e) (hr 0 [] 5 14 (.h 3 [19] [] .e .e)))) .e) .e) (.n (.n (.h 0 [0,1,2,3,4,5,6,7,8,9,10,11,12,13] [] .e .e) .e) (.n (.h 0 [0,1,2,3,4,5,6,7,8,9,10,11,12,13,14,15,16,17,18,19,20,21,22,23] [] .e .e) .e))))) .e) .e) .e)) Tryz.func299 h
def L300:Y1:=
fun a b c d=>
bf .u64 b fun b=>
CR d a 286 #[b] c fun a b=>
aa .num .shl (wi 1) a fun a=>
rt d a b
theorem Aa(h:L300 g a0 H R):sc g 300 #[a0] H R:=
  sd .e Tryz.func300 h
def L301:Y1:=
fun _ a b c=>
DR b fun d=>
Nil a fun e=>
Ld d e fun e=>
Nil a fun f=>
Ld d f fun d=>
aa .num .shl d (wi 13) fun d=>
aa .num .xor e d fun d=>
Nil a fun e=>
St 1 b e d fun b=>
DR b fun d=>
Nil a fun e=>
Ld d e fun e=>
Nil a fun f=>
Ld d f fun d=>
aa .num .shr d (wi 7) fun d=>
aa .num .xor e d fun d=>
Nil a fun e=>
St 1 b e d fun b=>
DR b fun d=>
Nil a fun e=>
Ld d e fun e=>
Nil a fun f=>
Ld d f fun d=>
aa .num .shl d (wi 17) fun d=>
aa .num .xor e d fun d=>
Nil a fun e=>
St 1 b e d fun b=>
Nil a fun a=>
Ld b a fun a=>
rt c a b
theorem z9(h:L301 g a0 H R):sc g 301 #[a0] H R:=
  sd (.n .e (.n (.h 0 [0,1,2,3,4,5,6,7,8,9] [] .e .e) (.n (.h 0 [0,1,2,3,4,5,6,7,8,9] [] .e .e) (.n (.h 0 [0,1,2,3,4,5,6,7,8,9] [] .e .e) .e)))) Tryz.func301 h
def L302:Y3:=
fun a b c d e f=>
lS c (iv 1) fun g=>
lA c (iv 1) fun h=>
CR f a 303 #[b,g,c,h,d] e fun a b=>
rt f a b
theorem z8(h:L302 g a0 a1 a2 H R):sc g 302 #[a0,a1,a2] H R:=
  sd .e Tryz.func302 h
def L303:Y5:=
fun a b c d e f g h=>
CR h a 305 #[b,c,d,f] g fun c d=>
lX c fun c g=>
CR h a 305 #[b,g,e,f] d fun d e=>
lX d fun d _=>
CR h a 305 #[b,c,d,f] e fun a b=>
lX a fun _ a=>
rt h a b
theorem z7(h:L303 g a0 a1 a2 a3 a4 H R):sc g 303 #[a0,a1,a2,a3,a4] H R:=
  sd .e Tryz.func303 h
def L304:Y1:=
fun _ a b c=>
lN a a fun a=>
rt c a b
theorem z6(h:L304 g a0 H R):sc g 304 #[a0] H R:=
  sd .e Tryz.func304 h
def L305:Y4:=
fun a b c d e f g=>
DR f fun h=>
lI 1 b d h fun i=>
lI 1 b c h fun b=>
CN a 295 #[i,b] f fun a b=>
Br a (
Nil e fun a=>
Ld b a fun a=>
lA a (iv 1) fun a=>
Nil e fun e=>
St 1 b e a fun a=>
rt g (tP d c) a) (
rt g (tP c d) b)
theorem z5(h:L305 g a0 a1 a2 a3 H R):sc g 305 #[a0,a1,a2,a3] H R:=
  sd (.n .e (.n (.n (.h 0 [0,1,2,3,4,5,6,7,8] [] .e .e) .e) .e)) Tryz.func305 h
end Go.Proofs
namespace Go.Sx
open Go
section
variable {P:Program} {g:Gh} {H:Hp}
theorem aW{f:FuncId}{args:Array Value}{C:Hp}{Q:Value→Hp→Prop}(h:∀g,bZ P g f args C (bN Q)):Fc P f args C Q:=h
theorem Ld.q{b off:Nat}{c:Array Value}{T:TypeId}{fz:Nat×Nat}{v:Value}{k:Value→Prop}(h:k v)(hm:(b,Obj.cells c T fz)∈H:=by repeat (first|exact List.Mem.head _|apply List.Mem.tail|apply List.mem_append_right))(hc:c[off]? =some v:=by rfl):Ld H (.pointer (some ⟨b,off,none⟩)) k:=.mk hm hc h
theorem Ld.f{b o off:Nat}{c:Array Value}{T:TypeId}{fz:Nat×Nat}{v:Value}{k:Value→Prop}(h:k v)(hm:(b,Obj.cells c T fz)∈H:=by repeat (first|exact List.Mem.head _|apply List.Mem.tail|apply List.mem_append_right))(hc:c[o+off]? =some v:=by rfl):ag off (.pointer (some ⟨b,o,none⟩)) fun p=>Ld H p k:=.mk (.mk hm hc h)
theorem Ld.n{b o off:Nat}{c:Array Value}{T:TypeId}{fz:Nat×Nat}{v:Value}{k:Value→Prop}(h:k v)(hm:(b,Obj.cells c T fz)∈H:=by repeat (first|exact List.Mem.head _|apply List.Mem.tail|apply List.mem_append_right))(hc:c[o+off]? =some v:=by rfl):Nil (.pointer (some ⟨b,o,none⟩)) fun q=>ag off q fun p=>Ld H p k:=.ptr (.mk (.mk hm hc h))
theorem Ld.u{b o off:Nat}{c:Array Value}{T:TypeId}{fz:Nat×Nat}{v:Value}{k:Value→Prop}(hm:(b,Obj.cells c T fz)∈H)(h:k v)(hc:c[o+off]? =some v:=by rfl):ag off (.pointer (some ⟨b,o,none⟩)) fun p=>Ld H p k:=.mk (.mk hm hc h)
theorem Ld.v{b o off:Nat}{c:Array Value}{T:TypeId}{fz:Nat×Nat}{v:Value}{k:Value→Prop}(hm:(b,Obj.cells c T fz)∈H)(h:k v)(hc:c[o+off]? =some v:=by rfl):Nil (.pointer (some ⟨b,o,none⟩)) fun q=>ag off q fun p=>Ld H p k:=.ptr (.mk (.mk hm hc h))
theorem av.q{b n:Nat}{r:List Value}{T:TypeId}{fz:Nat×Nat}{K:Value→Prop}(h:K (.agg r.toArray))(hm:(b,Obj.cells r.toArray T fz)∈H:=by repeat (first|exact List.Mem.head _|apply List.Mem.tail|apply List.mem_append_right))(hr:r.length=n:=by rfl):av n H (.pointer (some ⟨b,0,none⟩)) K:=.whole hm hr h
theorem St.q{b n:Nat}{c:Array Value}{T:TypeId}{r:List Value}{H':Hp}{K:Hp→Prop}(h:K H')(hu:cA b (.cells c T (0,0)) (.cells r.toArray T (0,0)) H H':=by repeat (first|exact cA.head _|apply cA.tail|apply cA.bP))(hs:c.size=n:=by rfl)(hr:r.length=n:=by rfl)(h1:∀v∈r,v.oneCell'=true:=by simp[Value.oneCell']):
  St n H (.pointer (some ⟨b,0,none⟩)) (.agg r.toArray) K:=.whole hu hs hr h1 h
theorem St.p{b n:Nat}{c:Array Value}{T:TypeId}{r:List Value}{H':Hp}{K:Hp→Prop}(h1:∀v∈r,v.oneCell'=true)(h:K H')(hu:cA b (.cells c T (0,0)) (.cells r.toArray T (0,0)) H H':=by repeat (first|exact cA.head _|apply cA.tail|apply cA.bP))(hs:c.size=n:=by rfl)(hr:r.length=n:=by rfl):
  St n H (.pointer (some ⟨b,0,none⟩)) (.agg r.toArray) K:=.whole hu hs hr h1 h
section
variable {kd qY:IntKind} {a b:Nat} {k:Value→Prop}
theorem aa.dx(h:k (.int kd ((a+b:Nat):Int)))(hr:a+b<aY kd:=by first|(simp[aY];omega)|(simp only[aY];omega)|simp[aY]):aa .num .add (.int kd a) (.int kd b) k:=.Ma hr h
theorem aa.inc(h:k (.int kd ((a+1:Nat):Int)))(hr:a+1<aY kd:=by first|(simp[aY];omega)|(simp only[aY];omega)|simp[aY]):aa .num .add (.int kd a) (.int kd 1) k:=.Ma hr h
theorem aa.bX(h:k (.int kd ((a-b:Nat):Int)))(ha:a<aY kd:=by first|(simp[aY];omega)|(simp only[aY];omega)|simp[aY])(hb:b≤a:=by omega):aa .num .sub (.int kd a) (.int kd b) k:=.qv ha hb h
theorem aa.wq(h:k (.int kd ((a*b:Nat):Int)))(hr:a*b<aY kd:=by first|(simp[aY];omega)|(simp only[aY];omega)|simp[aY]):aa .num .mul (.int kd a) (.int kd b) k:=.TK hr h
theorem bf.q(h:k (.int kd (a:Int)))(ha:a<aY kd:=by first|(simp[aY];omega)|(simp only[aY];omega)|simp[aY]):bf kd (.int qY a) k:=.nat ha h
end
theorem Br.T{p:Prop}[Decidable p]{t f:Prop}(h:t)(hp:p:=by first|omega|decide|simp):Br (.bool (decide p)) t f:=.zF hp h
theorem Br.F{p:Prop}[Decidable p]{t f:Prop}(h:f)(hp:¬p:=by first|omega|decide|simp):Br (.bool (decide p)) t f:=.xO hp h
theorem ae.fq{f:FuncId}{args:Array Value}{C H:Hp}{c:Hp→Hp}{Q:Value→Hp→Prop}{K:Value→Hp→Prop}{KP:List PanicEntry→Hp→Prop}(hc:Fc P f args C Q)
 (hk:∀v C',Q v C'→K v (c C'))(hh:bj C H c:=by repeat (first|exact bj.here|exact bj.left|apply bj.cons|apply bj.app)):ae P g f args H K KP:=.fn hh hc hk
theorem ae.rq{f:FuncId}{args:Array Value}{B H:Hp}{c:Hp→Hp}{Q:Value→Prop}{K:Value→Hp→Prop}{KP:List PanicEntry→Hp→Prop}(hc:Rd P f args B Q)
 (hk:∀v,Q v→K v H)(hh:bj B H c:=by repeat (first|exact bj.here|exact bj.left|apply bj.cons|apply bj.app)):ae P g f args H K KP:=.rd hh hc hk
theorem ae.eq{f:FuncId}{args:Array Value}{B H:Hp}{c:Hp→Hp}{v:Value}{K:Value→Hp→Prop}{KP:List PanicEntry→Hp→Prop}(hc:Rd P f args B (· =v))
 (hk:K v H)(hh:bj B H c:=by repeat (first|exact bj.here|exact bj.left|apply bj.cons|apply bj.app)):ae P g f args H K KP:=.rd hh hc fun _ h=>by subst h;exact hk
theorem ae.eh{f:FuncId}{args:Array Value}{B H:Hp}{c:Hp→Hp}{v:Value}{K:Value→Hp→Prop}{KP:List PanicEntry→Hp→Prop}(hh:bj B H c)(hc:Rd P f args B (· =v))
 (hk:K v H):ae P g f args H K KP:=.rd hh hc fun _ h=>by subst h;exact hk
theorem ae.pq{f:FuncId}{args:Array Value}{B H:Hp}{c:Hp→Hp}{Q:Value→Hp→Prop}{K:Value→Hp→Prop}{KP:List PanicEntry→Hp→Prop}(hc:Px P f args B Q)
 (hk:∀v N,Q v (N++B)→K v (c (N++B)))(hh:bj B H c:=by repeat (first|exact bj.here|exact bj.left|apply bj.cons|apply bj.app)):ae P g f args H K KP:=.px hh hc hk
theorem Ext.two{x y:Value}{k:Value→Value→Prop}(h:k x y):Ext 0 (.tuple #[x,y]) fun a=>Ext 1 (.tuple #[x,y]) fun b=>k a b:=.mk rfl (.mk rfl h)
end
end Go.Sx
set_option maxRecDepth 100000
namespace Go.Proofs
open Go Go.Sx
theorem dW{B:Hp}{s:Value}{n:Int}{K:Value→Hp→Prop}(h:∀b,K (.slice (some ⟨b,0,none⟩) 1 1) ((b,.cells #[.int .i64 n,s] 57 (0,0))::B)):
  an Tryz.prog 28 1 [(0,.agg #[.int .i64 n,s])] B K:=
 an.one (r:=[.int .i64 n,s]) (e:=57) (k:=2) (z:=.agg #[.int .i64 0,.slice none 0 0]) (by kernel_rfl) (by kernel_rfl) (by kernel_rfl) (by decide) rfl h
theorem qH{G:Nat→Nat}{W:Nat}:((List.range W).map fun k=>if k<W then G k else 0)=(List.range W).map G:=by
 apply List.map_congr_left
 intro k hk
 rw[if_pos (List.mem_range.1 hk)]
theorem dM{n:Nat}{ws:List Nat}(h:af.bO n ws):ws.length≤4294967296:=by have:=h.len;have:=af.pn h.jz;omega
theorem ax{B:Hp}{s:Value}{ws:List Nat}(h:Words B s ws):s.oneCell'=true:=by obtain⟨a,c,rfl,_⟩:=h.1.shape;rfl
theorem tq{G:Nat→Nat}{W i:Nat}(hi:i<W):(iw ((List.range W).map fun k=>if k<i then G k else 0)).set i ((G i:Nat):Int)=iw ((List.range W).map fun k=>if k<i+1 then G k else 0):=by
 apply List.ext_getElem?
 intro j
 unfold iw
 by_cases e:i=j
 ·subst e;simp[hi]
 ·rw[List.getElem?_set_ne e]
  by_cases hj:j<W
  ·simp only[List.getElem?_map,List.getElem?_range hj,Option.map_some]
   by_cases h2:j<i
   ·rw[if_pos h2,if_pos (by omega)]
   ·rw[if_neg h2,if_neg (by omega)]
  ·rw[List.getElem?_eq_none (by simp;omega),List.getElem?_eq_none (by simp;omega)]
theorem range_zero{G:Nat→Nat}{W:Nat}:List.replicate W (0:Int)=iw ((List.range W).map fun k=>if k<0 then G k else 0):=by
 apply List.ext_getElem?
 intro j
 unfold iw
 by_cases hj:j<W
 ·simp[hj]
 ·rw[List.getElem?_eq_none (by simp;omega),List.getElem?_eq_none (by simp;omega)]
theorem fu{n:Nat}(hn:n≤16):af.wN n≤9223372036854775807∧af.wN n*8≤281474976710656:=by have:=af.pn hn;omega
end Go.Proofs
set_option maxRecDepth 100000
namespace Go.Proofs
open Go Go.Sx
theorem th{n:Nat}(hn:n≤16)(B:Hp):Rd Tryz.prog 81 #[.int .i64 (n:Int)] B (· =.int .i64 ((af.wN n:Nat):Int)):=by
 refine aW fun g=>Fv ?_
 refine aa.CG (b:=6) (Br.dec (fun h=>?_) (fun h=>?_))
 ·exact bK.mk (.refl _) (by rw[af.qk (by omega)];rfl)
 ·refine aa.bX (b:=6) ?_
  have hp:2^(n-6)≤1024:=Nat.pow_le_pow_right (n:=2) (by decide) (by omega:n-6≤10)
  refine aa.kf (a:=1) (by simp[IntKind.bits];omega) (by rw[Nat.one_shiftLeft];simp[aY];omega) ?_
  exact bK.mk (.refl _) (by rw[Nat.one_shiftLeft,af.ql (by omega)])
theorem qE{B:Hp}{v:Value}{t:Tb}(ht:iL B v t):Rd Tryz.prog 28 #[v] B (· =.bool (decide (TF t))):=by
 obtain⟨tn,ws⟩:=t
 obtain⟨s,rfl,hs,hw⟩:=ht
 simp only at hs hw⊢
 refine aW fun g=>FW ?_
 intro b1 _ J hJ
 have hno:¬TF ⟨tn,ws⟩→JE J [.bool true] ((b1,.cells (Value.cells (.agg #[.int .i64 tn,s])) 57 (0,0))::B):=fun h=>
  JE.mk (hJ _ _ fun gs=>Br.yes (bK.mk .tail (by rw[decide_eq_false h])))
 refine DR.self ?_
 refine ag.mk (Ld.mk zM rfl ?_)
 refine aa.lss (Br.dec (fun h0=>hno fun h=>by have:=h.1;simp only at this;omega) (fun h0=>?_))
 obtain⟨n,rfl⟩:∃n:Nat,tn=n:=⟨tn.toNat,by omega⟩
 have OK:TF ⟨(n:Int),ws⟩↔af.bO n ws:=by unfold TF;simp
 refine ag.mk (Ld.mk zM rfl ?_)
 refine aa.jb (b:=16) (ay.mk (Br.dec (fun h1=>hno fun h=>by have:=(OK.1 h).jz;omega) (fun h1=>?_)))
 refine ag.mk (Ld.mk zM rfl ?_)
 refine hs.aL ?_
 refine ag.mk (Ld.mk zM rfl ?_)
 intro F
 refine ae.eq (th (by omega) B) ?_
 refine⟨(by repeat (first|exact aJ.refl _|apply aJ.cons|apply aJ.skip|apply aJ.cv|apply aJ.bJ)),?_⟩
 rw[ah]
 refine aa.l6 (ay.mk ?_)
 simp only[cond_false]
 by_cases hl:ws.length=af.wN n
 case neg=>rw[show decide (ws.length≠af.wN n)=true by simp[hl]];exact hno fun h=>hl (OK.1 h).len
 rw[show decide (ws.length≠af.wN n)=false by simp[hl]]
 refine JE.mk (hJ _ _ fun gs=>Br.no ?_)
 refine ag.mk (Ld.mk zM rfl ?_)
 refine aa.m0 (b:=6) ?_
 have hpos:=af.yC n
 obtain⟨w,hg⟩:∃w,ws[0]? =some w:=⟨_,List.getElem?_eq_getElem (by omega)⟩
 have NX:=hw w (List.mem_of_getElem? hg)
 refine dO.or (decide (w>>>(2^n)=0)) (fun h6=>?_) rfl fun gs=>?_
 ·have WU:¬6≤n:=by simpa using h6
  have h1:2^n≤32:=Nat.pow_le_pow_right (n:=2) (by decide) (by omega:n≤5)
  refine ag.mk (Ld.mk zM rfl ?_)
  refine hs.ld (bR hg) zS ?_
  refine ag.mk (Ld.mk zM rfl ?_)
  refine aa.nF (a:=1) ?_
  rw[Nat.one_shiftLeft,Nat.mod_eq_of_lt (by omega)]
  refine aa.fD (by simpa[aY]using NX) ?_
  exact aa.iK (b:=0) ⟨rfl,rfl⟩
 ·refine bK.mk .tail ?_
  congr 1
  rw[←Bool.decide_or]
  refine decide_eq_decide.2 (OK.trans ?_).symm
  constructor
  ·intro h
   by_cases h6:6≤n
   ·exact .inl h6
   ·refine .inr ?_
    have:=h.full w (List.mem_of_getElem? hg)
    unfold af.bQ at this
    rw[if_neg h6]at this
    have hp:=Nat.two_pow_pos (2^n)
    rw[Nat.shiftRight_eq_div_pow];exact Nat.div_eq_of_lt (by omega)
  ·intro h
   refine⟨by omega,hl,fun u hu=>?_⟩
   by_cases h6:6≤n
   ·unfold af.bQ;rw[if_pos h6];have:=hw u hu;omega
   ·have h1:ws.length=1:=by rw[hl,af.qk (by omega)]
    obtain⟨x,rfl⟩:=List.length_eq_one_iff.1 h1
    simp at hg hu
    subst hg;subst hu
    rcases h with h|h
    ·exact absurd h h6
    ·rw[Nat.shiftRight_eq_div_pow]at h
     unfold af.bQ;rw[if_neg h6]
     have hp:=Nat.two_pow_pos (2^n)
     have:=(Nat.div_eq_zero_iff_lt hp).1 h
     omega
theorem gu{B:Hp}{v1 v2:Value}{a b:Tb}(h1:iL B v1 a)(h2:iL B v2 b)(aV:a.ws.length<2^62):Rd Tryz.prog 36 #[v1,v2] B (· =.bool (decide (a=b))):=by
 obtain⟨na,wa⟩:=a
 obtain⟨nb,wb⟩:=b
 obtain⟨s1,rfl,tN,gS⟩:=h1
 obtain⟨s2,rfl,rj,lF⟩:=h2
 simp only at tN rj gS lF aV⊢
 refine aW fun g=>FN ?_
 intro b1 _ b3 _
 refine ag.mk (Ld.mk zM rfl ?_)
 refine ag.mk (Ld.mk zM rfl ?_)
 refine aa.fZ ?_
 refine dO.or (decide (wa.length≠wb.length)) (fun _=>?_) rfl fun gs=>?_
 ·refine ag.mk (Ld.mk zM rfl ?_)
  refine tN.aL ?_
  refine ag.mk (Ld.mk zM rfl ?_)
  refine rj.aL ?_
  rw[ah,ah]
  exact aa.l6 ⟨rfl,rfl⟩
 rw[←Bool.decide_or]
 refine Br.dec (fun h=>?_) (fun h=>?_)
 ·refine bK.mk (by repeat (first|exact aJ.refl _|apply aJ.cons|apply aJ.skip|apply aJ.cv|apply aJ.bJ)) ?_
  rw[decide_eq_false]
  rintro e
  simp only[Tb.mk.injEq]at e
  rcases h with h|h
  ·exact h e.1
  ·exact h (by rw[e.2])
 ·have hn:na=nb:=Classical.byContradiction fun e=>h (.inl e)
  have hl:wa.length=wb.length:=Classical.byContradiction fun e=>h (.inr e)
  refine⟨fun vs H=>∃j:Nat,vs=[.int .i64 (j:Int)]∧H=(b3,.cells (Value.cells (.agg #[.int .i64 nb,s2])) 57 (0,0))::(b1,.cells (Value.cells (.agg #[.int .i64 na,s1])) 57 (0,0))::B∧j≤wa.length∧∀i,i<j→wa[i]? =wb[i]?,
   fun vs _=>wa.length-aT vs 0,JE.mk ⟨0,rfl,rfl,by omega,by omega⟩,?_⟩
  rintro w H ⟨j,⟨⟩,rfl,hj,aB⟩ gs
  refine ag.mk (Ld.mk zM rfl ?_)
  refine tN.aL ?_
  rw[ah]
  refine aa.cZ (Br.dec (fun hlt=>?_) (fun hlt=>?_))
  ·have ga:wa[j]? =some wa[j]:=List.getElem?_eq_getElem hlt
   have gb:wb[j]? =some wb[j]:=List.getElem?_eq_getElem (by omega)
   refine ag.mk (Ld.mk zM rfl ?_)
   refine tN.ld (bR ga) zS ?_
   refine ag.mk (Ld.mk zM rfl ?_)
   refine rj.ld (bR gb) zS ?_
   refine aa.l6 (Br.dec (fun hne=>?_) (fun hne=>?_))
   ·refine bK.mk (by repeat (first|exact aJ.refl _|apply aJ.cons|apply aJ.skip|apply aJ.cv|apply aJ.bJ)) ?_
    rw[decide_eq_false]
    rintro e
    simp only[Tb.mk.injEq]at e
    obtain⟨_,rfl⟩:=e
    exact hne rfl
   ·refine aa.inc ?_
    refine aq.mk ⟨j+1,rfl,rfl,by omega,fun i hi=>?_⟩ (by simp[aT];omega)
    by_cases e:i=j
    ·subst e;rw[ga,gb];simp;omega
    ·exact aB i (by omega)
  ·refine bK.mk (by repeat (first|exact aJ.refl _|apply aJ.cons|apply aJ.skip|apply aJ.cv|apply aJ.bJ)) ?_
   rw[decide_eq_true]
   simp only[Tb.mk.injEq]
   refine⟨hn,List.ext_getElem? fun i=>?_⟩
   by_cases hi:i<wa.length
   ·exact aB i (by omega)
   ·rw[List.getElem?_eq_none (by omega),List.getElem?_eq_none (by omega)]
def cz(l:List Bool):Array Value:=(l.map Value.bool).toArray
theorem zO(l:List Bool)(i:Nat)(b:Bool):(cz l).setIfInBounds i (.bool b)=cz (l.set i b):=by simp[cz,List.map_set]
theorem yV(n:Nat):madeCells (Value.cells (.bool false)) (n*1)=cz (List.replicate n false):=by
 apply Array.ext
 ·simp[madeCells,cz]
 ·intro i h1 h2
  simp[madeCells,cz,Value.cells,Nat.mod_one]
def kW(B:Hp)(v:Value)(l:List Bool):Prop:=Sl 1 B v (l.map fun b=>[Value.bool b])
theorem kW.block{B:Hp}{b cap:Nat}{l:List Bool}{T:TypeId}{fz:Nat×Nat}(hm:(b,Obj.cells (cz l) T fz)∈B)(hc:l.length≤cap):kW B (.slice (some ⟨b,0,none⟩) l.length cap) l:=by
 refine⟨fun r hr=>by obtain⟨b,_,rfl⟩:=List.mem_map.1 hr;rfl,.inr ⟨b,0,cap,_,T,fz,by simp,by simpa using hc,hm,by simp[cz],fun i r hi j v hj=>?_⟩⟩
 rw[List.getElem?_map]at hi
 cases hl:l[i]? with
 |none=>rw[hl]at hi;simp at hi
 |some n=>
  rw[hl]at hi
  simp only[Option.map_some,Option.some.injEq]at hi
  subst hi
  cases j with
  |zero=>
   simp only[List.getElem?_cons_zero,Option.some.injEq]at hj
   subst hj
   simp[cz,hl]
  |succ j=>simp at hj
theorem kW.aL{B:Hp}{v:Value}{l:List Bool}(h:kW B v l){K:Value→Prop}(hk:K (.int .i64 l.length)):aA v K:=Sl.aL h (by simpa using hk)
theorem kW.ld{kd:IntKind}{B H:Hp}{v:Value}{l:List Bool}(h:kW B v l){i:Nat}{b:Bool}(hi:l[i]? =some b)(hs:∀x∈B,x∈H){K:Value→Prop}(hk:K (.bool b)):aj 1 v (.int kd (i:Int)) (fun p=>Ld H p K):=
 aj.sl h (by rw[List.getElem?_map,hi];rfl) fun p hp=>Ld.at hp hs hk
theorem br.oe{H:Hp}{T:TypeId}{kl:IntKind}{n:Nat}{K:Value→Hp→Prop}(aV:n≤281474976710656)
 (h:∀b,K (.slice (some ⟨b,0,none⟩) n n) ((b,.cells (cz (List.replicate n false)) T (0,0))::H)):br T 1 1 (.bool false) H (.int kl n) (.int kl n) K:=
 ⟨kl,kl,n,n,rfl,rfl,Nat.le_refl _,by omega,by omega,fun b _=>by rw[yV];exact h b⟩
theorem St.oe{H:Hp}{b i:Nat}{l:List Bool}{x:Bool}{T:TypeId}{H':Hp}{K:Hp→Prop}(hu:cA b (.cells (cz l) T (0,0)) (.cells (cz (l.set i x)) T (0,0)) H H')(hi:i<l.length)(h:K H'):
  St 1 H (.pointer (some ⟨b,0+i*1,none⟩)) (.bool x) K:=
 St.one (c:=cz l) (c':=cz (l.set i x)) hu rfl (by simpa[cz]using hi) (by rw[Nat.zero_add,Nat.mul_one];exact zO l i x) h
def c6(n:Nat)(bs:List Bool)(k:Nat):List Nat:=(List.range (af.wN n)).map fun i=>af.dS bs i (min 64 (k-64*i))
theorem EM{n:Nat}{bs:List Bool}{k:Nat}:∀w∈c6 n bs k,w<18446744073709551616:=fun w hw=>by
 obtain⟨i,_,rfl⟩:=List.mem_map.1 hw
 exact Nat.lt_of_lt_of_le (af.nv bs i _) (Nat.pow_le_pow_right (n:=2) (by decide) (by omega:min 64 (k-64*i)≤64))
theorem xG{n k:Nat}{bs:List Bool}(h:bs.getD k false=false):c6 n bs (k+1)=c6 n bs k:=by
 apply List.map_congr_left
 intro i _
 by_cases hi:64*i≤k∧k<64*i+64
 ·rw[show min 64 (k+1-64*i)=(k-64*i)+1 by omega,show min 64 (k-64*i)=k-64*i by omega,af.dS,show 64*i+(k-64*i)=k by omega,h];simp
 ·rw[show min 64 (k+1-64*i)=min 64 (k-64*i)by omega]
theorem zy{n k:Nat}{bs:List Bool}(h:bs.getD k false=true)(hk:k/64<af.wN n):(c6 n bs k)[k/64]? =some (af.dS bs (k/64) (k%64))∧(c6 n bs k).set (k/64) (af.dS bs (k/64) (k%64)+2^(k%64))=c6 n bs (k+1):=by
 have e:min 64 (k-64*(k/64))=k%64:=by omega
 refine⟨by simp[c6,hk,e],?_⟩
 apply List.ext_getElem?
 intro j
 by_cases hj:j=k/64
 ·subst hj
  rw[List.getElem?_set_self (by simp[c6,hk])]
  simp only[c6,List.getElem?_map,List.getElem?_range hk,Option.map_some,Option.some.injEq]
  rw[show min 64 (k+1-64*(k/64))=k%64+1 by omega]
  exact af.s7 (by rw[show 64*(k/64)+k%64=k by omega];exact h)
 ·rw[List.getElem?_set_ne (Ne.symm hj)]
  by_cases hlt:j<af.wN n
  ·simp only[c6,List.getElem?_map,List.getElem?_range hlt,Option.map_some,Option.some.injEq]
   rw[show min 64 (k+1-64*j)=min 64 (k-64*j)by omega]
  ·rw[List.getElem?_eq_none (by simp[c6];omega),List.getElem?_eq_none (by simp[c6];omega)]
theorem ve{n:Nat}(hn:n≤16){B:Hp}{v:Value}{bs:List Bool}(hb:kW B v bs)(hl:bs.length≤64*af.wN n)(hn':bs.length≤64*af.wN n):
  Px Tryz.prog 98 #[.int .i64 (n:Int),v] B (fun v H=>iL H v ⟨n,af.gU n (bs)⟩):=by
 intro g
 have NX:=af.pn hn
 refine Fa (R:=bN _) ?_
 unfold L98
 intro b1 _
 refine ae.eq (th hn B) ?_
 refine br.ints (fu hn).1 (fu hn).2 fun bw=>?_
 refine Build.mk (cs:=[.int .i64 (n:Int),.slice (some ⟨bw,0,none⟩) (af.wN n) (af.wN n)]) (by kernel_rfl) ?_
 intro b8 _
 refine St.q ?_
 refine⟨fun vs H=>∃k:Nat,vs=[.int .i64 (k:Int)]∧k≤bs.length∧H=(b8,.cells (List.toArray [.int .i64 (n:Int),.slice (some ⟨bw,0,none⟩) (af.wN n) (af.wN n)]) 57 (0,0))::
   (bw,.cells (az .u64 (iw (c6 n bs k))) 50 (0,0))::(b1,.cells #[.int .i64 0,.slice none 0 0] 57 (0,0))::B,
  fun vs _=>bs.length-aT vs 0,JE.mk ⟨0,rfl,by omega,?_⟩,?_⟩
 ·have:List.replicate (af.wN n) (0:Int)=iw (c6 n bs 0):=by
   apply List.ext_getElem?
   intro j
   unfold iw c6
   by_cases hj:j<af.wN n
   ·simp[hj,af.dS]
   ·rw[List.getElem?_eq_none (by simp;omega),List.getElem?_eq_none (by simp;omega)]
  rw[this]
 rintro w H ⟨k,⟨⟩,hk,rfl⟩ gs
 refine hb.aL (aa.cZ (Br.dec (fun hlt=>?_) (fun hlt=>?_)))
 ·intro J hJ
  have hg:bs[k]? =some bs[k]:=List.getElem?_eq_getElem hlt
  have hgd:bs.getD k false=bs[k]:=by rw[List.getD_eq_getElem?_getD,hg];rfl
  refine hb.ld hg zS ?_
  cases Py:bs[k]
  ·refine Br.no (JE.mk (hJ _ fun gs=>?_))
   refine aa.inc ?_
   exact aq.mk ⟨k+1,rfl,by omega,by rw[xG (by rw[hgd,Py])]⟩ (by simp[aT];omega)
  ·obtain⟨f1,f2⟩:=zy (n:=n) (k:=k) (bs:=bs) (by rw[hgd,Py]) (by omega)
   refine Br.yes (DR.self ?_)
   refine ag.mk (Ld.mk zM rfl ?_)
   refine aa.sS (b:=64) (by simp[aY];omega) (by decide) ?_
   have hlen:(c6 n bs k).length=af.wN n:=by simp[c6]
   refine aj.nat (by omega) ?_
   refine Ld.mk (v:=.int .u64 ((af.dS bs (k/64) (k%64):Nat):Int)) (by exact .tail _ (.head _)) ?_ ?_
   ·simp only[az,Nat.zero_add,Nat.mul_one,List.getElem?_toArray,List.getElem?_map,bR f1,Option.map_some]
   refine aa.wx (b:=64) (by decide) ?_
   refine aa.nF (a:=1) ?_
   have h2:2^(k%64)<18446744073709551616:=Nat.pow_lt_pow_right (a:=2) (n:=64) (by decide) (Nat.mod_lt _ (by decide))
   rw[Nat.one_shiftLeft,Nat.mod_eq_of_lt h2]
   have h3:=af.nv bs (k/64) (k%64+1)
   have h4:2^(k%64+1)≤18446744073709551616:=Nat.pow_le_pow_right (n:=2) (by decide) (by have:=Nat.mod_lt k (by decide:64>0);omega:k%64+1≤64)
   rw[←af.s7 (by rw[show 64*(k/64)+k%64=k by omega,hgd,Py])]at h3
   refine aa.dx ?_
   refine aj.nat (by omega) ?_
   refine St.ints (l:=iw (c6 n bs k)) (by exact .tail (.head _)) (by simp;omega) ?_
   have e:(iw (c6 n bs k)).set (k/64) ((af.dS bs (k/64) (k%64)+2^(k%64):Nat):Int)=iw (c6 n bs (k+1)):=by rw[←f2];simp[iw,List.map_set]
   rw[e]
   refine JE.mk (hJ _ fun gs=>?_)
   refine aa.inc ?_
   exact aq.mk ⟨k+1,rfl,by omega,rfl⟩ (by simp[aT];omega)
 ·have:k=bs.length:=by omega
  subst this
  have dH:c6 n bs bs.length=af.gU n bs:=by
   apply List.map_congr_left
   intro i _
   apply Nat.eq_of_testBit_eq;intro j
   rw[af.cG,af.cG]
   by_cases h1:64*i+j<bs.length
   ·by_cases h2:j<64
    ·rw[show decide (j<min 64 (bs.length-64*i))=true by simp;omega,show decide (j<64)=true by simpa using h2]
    ·rw[show decide (j<min 64 (bs.length-64*i))=false by simp;omega,show decide (j<64)=false by simpa using h2]
   ·have:bs.getD (64*i+j) false=false:=by rw[List.getD_eq_getElem?_getD,List.getElem?_eq_none (by omega)];rfl
    rw[this];simp
  rw[dH]
  refine av.q ?_
  refine St.q ?_
  refine av.q ?_
  refine jS.mk (by repeat (first|exact aG.refl _|apply aG.cons|apply aG.app)) ⟨_,rfl,?_⟩
  have hlt:∀w∈af.gU n bs,w<18446744073709551616:=by rw[←dH];exact EM
  have:=Words.block (b:=bw) (cap:=af.wN n) (ws:=af.gU n bs) (T:=50) (fz:=(0,0)) (B:=(b8,.cells (List.toArray [.int .i64 (n:Int),.slice (some ⟨bw,0,none⟩) (af.wN n) (af.wN n)]) 57 (0,0))::
   (bw,.cells (az .u64 (iw (af.gU n bs))) 50 (0,0))::(b1,.cells (List.toArray [.int .i64 (n:Int),.slice (some ⟨bw,0,none⟩) (af.wN n) (af.wN n)]) 57 (0,0))::B) (by exact .tail _ (.head _)) (by simp[af.gU]) hlt
  simpa[af.gU]using this
def yD(n v:Nat):List Bool:=(List.range (2^n)).map fun x=>x.testBit v
theorem Nq{W v i:Nat}(hi:i<W):((List.range W).map fun k=>if k<i then k.testBit v else false).set i (i.testBit v)=(List.range W).map fun k=>if k<i+1 then k.testBit v else false:=by
 apply List.ext_getElem?
 intro j
 by_cases e:i=j
 ·subst e;simp[hi]
 ·rw[List.getElem?_set_ne e]
  by_cases hj:j<W
  ·simp only[List.getElem?_map,List.getElem?_range hj,Option.map_some]
   by_cases h2:j<i
   ·rw[if_pos h2,if_pos (by omega)]
   ·rw[if_neg h2,if_neg (by omega)]
  ·rw[List.getElem?_eq_none (by simp;omega),List.getElem?_eq_none (by simp;omega)]
theorem gD{n:Nat}:2^n≤64*af.wN n:=by
 by_cases h:6≤n
 ·rw[af.ql h]
  have:2^n=64*2^(n-6):=by rw[show(64:Nat)=2^6 by rfl,←Nat.pow_add];congr 1;omega
  omega
 ·have h1:2^n≤32:=Nat.pow_le_pow_right (n:=2) (by decide) (by omega:n≤5)
  have:=af.yC n;omega
theorem Ns{n v:Nat}(hn:n≤16)(hv:v<64)(B:Hp):Px Tryz.prog 224 #[.int .i64 (n:Int),.int .i64 (v:Int)] B (fun r H=>iL H r ⟨n,af.gU n (yD n v)⟩):=by
 intro g
 have hp:2^n≤65536:=Nat.pow_le_pow_right (n:=2) (by decide) hn
 refine AP (R:=bN _) ?_
 unfold L224
 intro b1 _
 refine aa.kf (a:=1) (by simp[IntKind.bits];omega) (by rw[Nat.one_shiftLeft];simp[aY];omega) ?_
 rw[Nat.one_shiftLeft]
 refine br.oe (by omega) fun b2=>?_
 have e0:List.replicate (2^n) false=(List.range (2^n)).map fun k=>if k<0 then k.testBit v else false:=by
  apply List.ext_getElem?
  intro j
  by_cases hj:j<2^n
  ·simp[hj]
  ·rw[List.getElem?_eq_none (by simp;omega),List.getElem?_eq_none (by simp;omega)]
 rw[e0]
 refine⟨fun vs H=>∃k:Nat,vs=[.int .i64 (k:Int)]∧k≤2^n∧H=(b1,.cells #[.int .i64 0,.slice none 0 0] 57 (0,0))::(b2,.cells (cz ((List.range (2^n)).map fun j=>if j<k then j.testBit v else false)) 4 (0,0))::B,
  fun vs _=>2^n-aT vs 0,JE.of .swap ⟨0,rfl,Nat.zero_le _,rfl⟩,?_⟩
 rintro w H ⟨k,⟨⟩,hk,rfl⟩ gs
 refine aA.mk (aa.cZ (Br.dec (fun hlt=>?_) (fun hlt=>?_)))
 ·refine aa.fD (by simp[aY];omega) (aa.wx (b:=2) (by decide) (aa.iK (b:=1) ?_))
  have e1:decide ((k>>>v)%2=1)=k.testBit v:=by
   cases hb:k.testBit v
   ·rw[decide_eq_false];rw[af.jK,hb];simp
   ·rw[decide_eq_true];rw[af.jK,hb]
  rw[e1]
  refine aj.nat hlt ?_
  refine St.oe (l:=(List.range (2^n)).map fun j=>if j<k then j.testBit v else false) (by exact .tail (.head _)) (by simpa using hlt) ?_
  rw[Nq hlt]
  refine aa.inc ?_
  exact aq.mk ⟨k+1,rfl,by omega,rfl⟩ (by simp[aT];omega)
 ·have:k=2^n:=by omega
  subst this
  have e2:((List.range (2^n)).map fun j=>if j<2^n then j.testBit v else false)=yD n v:=List.map_congr_left fun k hk=>by rw[if_pos (List.mem_range.1 hk)]
  rw[e2]
  have hlen:(yD n v).length=2^n:=by simp[yD]
  have hB:=kW.block (b:=b2) (cap:=2^n) (l:=yD n v) (T:=4) (fz:=(0,0)) (B:=(b2,.cells (cz (yD n v)) 4 (0,0))::B) (.head _) (by omega)
  rw[hlen]at hB
  refine ae.pq (ve hn hB (by rw[hlen];exact gD) (by rw[hlen];exact gD)) ?_
  rintro r N ⟨s,rfl,hw⟩
  have hone:=ax hw
  refine St.p (by simpa[Value.oneCell']using hone) ?_
  refine av.q ?_
  exact jS.mk (by repeat (first|exact aG.refl _|apply aG.cons|apply aG.app)) ⟨s,rfl,hw.mono zS⟩
theorem J8{v:Nat}(hv:v<6)(B:Hp):Px Tryz.prog 224 #[.int .i64 6,.int .i64 (v:Int)] B (fun r H=>iL H r ⟨6,[af.mask v]⟩):=
 (Ns (n:=6) (by decide) (by omega) B).mono fun r H ⟨h1,h2⟩=>⟨h1,by
  have e:af.gU 6 (yD 6 v)=[af.mask v]:=by
   have:af.wN 6=1:=rfl
   simp only[af.gU,this,List.range_one,List.map_cons,List.map_nil,List.cons.injEq,and_true]
   exact af.Ef v
  rw[e]at h2;exact h2⟩
theorem Jc{n u i:Nat}{ws:List Nat}{c:Bool}(hf:af.bO n ws)(hu:u<n)(hi:i<af.wN n):
  (iw ((List.range (af.wN n)).map fun k=>if k<i then af.cV ws u c k&&&af.bQ n else 0)).set i ((af.cV ws u c i:Nat):Int)=iw ((List.range (af.wN n)).map fun k=>if k<i+1 then af.cV ws u c k&&&af.bQ n else 0):=by
 have:=tq (G:=fun k=>af.cV ws u c k&&&af.bQ n) hi
 rw[af.zk hf hu hi]at this
 exact this
def oZ(Gq bw b3 b1 n u i:Nat)(s:Value)(ws:List Nat)(c:Bool)(B:Hp):Hp:=
 (Gq,.cells (List.toArray [.int .i64 (n:Int),.slice (some ⟨bw,0,none⟩) (af.wN n) (af.wN n)]) 57 (0,0))::
    (bw,.cells (az .u64 (iw ((List.range (af.wN n)).map fun k=>if k<i then af.cV ws u c k&&&af.bQ n else 0))) 50 (0,0))::(b3,.cells #[.int .i64 0,.slice none 0 0] 57 (0,0))::(b1,.cells (Value.cells (.agg #[.int .i64 (n:Int),s])) 57 (0,0))::B
theorem k7{B:Hp}{v:Value}{n u:Nat}{ws:List Nat}{c:Bool}(ht:iL B v ⟨n,ws⟩)(hf:af.bO n ws)(hu:u<n):
  Px Tryz.prog 163 #[v,.int .i64 (u:Int),.bool c] B (fun v H=>iL H v ⟨n,af.dj n ws u c⟩):=by
 obtain⟨s,rfl,hs,hw⟩:=ht
 simp only at hs hw
 have hn:=hf.jz
 have NX:=af.pn hn
 have Yc:=hf.len
 have Pt:∀j,j<af.wN n→ws[j]? =some (ws.getD j 0):=fun j hj=>by rw[List.getElem?_eq_getElem (by omega),List.getD_eq_getElem?_getD,List.getElem?_eq_getElem (by omega)];rfl
 have Uw:∀j,j<af.wN n→ws.getD j 0<18446744073709551616:=fun j hj=>hw _ (List.mem_of_getElem? (Pt j hj))
 refine aW fun g=>By ?_
 intro b1 _ b3 _
 refine DR.self ?_
 refine ag.mk (Ld.mk zM rfl ?_)
 refine ag.mk (Ld.mk zM rfl ?_)
 refine hs.aL ?_
 rw[ah,hf.len]
 intro F
 refine br.ints (fu hn).1 (fu hn).2 fun bw=>⟨.tail,?_⟩
 refine Build.mk (cs:=[.int .i64 (n:Int),.slice (some ⟨bw,0,none⟩) (af.wN n) (af.wN n)]) (by kernel_rfl) ?_
 intro Gq _ F
 refine St.q ?_
 rw[range_zero (G:=fun k=>af.cV ws u c k&&&af.bQ n)]
 have hend:∀N:Hp,bN (fun v H=>aG B H∧iL H v ⟨n,af.dj n ws u c⟩) (.returned (.agg (List.toArray [.int .i64 (n:Int),.slice (some ⟨bw,0,none⟩) (af.wN n) (af.wN n)])))
   (N++(bw,.cells (az .u64 (iw (af.dj n ws u c))) 50 (0,0))::B):=fun N=>by
  refine jS.mk (by repeat (first|exact aG.refl _|apply aG.cons|apply aG.app)) ⟨_,rfl,?_⟩
  have:=Words.block (b:=bw) (cap:=af.wN n) (ws:=af.dj n ws u c) (T:=50) (fz:=(0,0)) (B:=N++(bw,.cells (az .u64 (iw (af.dj n ws u c))) 50 (0,0))::B) (by exact List.mem_append_right _ (.head _)) (by simp[af.dj]) (fun w hw=>(af.cg hn).lt hw)
  simpa[af.dj]using this
 have CX:∀N:Hp,av 2 (oZ Gq bw b3 b1 n u (af.wN n) s ws c (N++B)) (.pointer (some ⟨Gq,0,none⟩)) fun Tt=>St 2 (oZ Gq bw b3 b1 n u (af.wN n) s ws c (N++B)) (.pointer (some ⟨b3,0,none⟩)) Tt fun Xj=>
   av 2 Xj (.pointer (some ⟨b3,0,none⟩)) fun Xz=>bN (fun v H=>aG B H∧iL H v ⟨n,af.dj n ws u c⟩) (.returned Xz) Xj:=fun N=>by
  unfold oZ
  rw[qH]
  refine av.q ?_
  refine St.q ?_
  refine av.q ?_
  obtain⟨v,H,h1,h2,h3⟩:=hend []
  exact⟨v,H,h1,.skip (aJ.trans (.cons (.skip (.skip .right))) h2),h3⟩
 refine aa.m0 (a:=u) (b:=6) (Br.dec (fun h6=>?_) (fun h6=>?_))
 ·have hp:2^(u-6)≤1024:=Nat.pow_le_pow_right (n:=2) (by decide) (by omega:u-6≤10)
  have p9:=Nat.two_pow_pos (u-6)
  refine aa.qv (b:=6) (by simp[aY];omega) h6 ?_
  refine aa.kf (a:=1) (by simp[IntKind.bits];omega) (by rw[Nat.one_shiftLeft];simp[aY];omega) ?_
  rw[Nat.one_shiftLeft]
  refine⟨fun vs H=>∃i:Nat,vs=[.int .i64 (i:Int)]∧i≤af.wN n∧H=oZ Gq bw b3 b1 n u i s ws c ([]++B),fun vs _=>af.wN n-aT vs 0,JE.mk ⟨0,rfl,Nat.zero_le _,rfl⟩,?_⟩
  rintro w H ⟨i,⟨⟩,hi,rfl⟩ gs
  by_cases hlt:i<af.wN n
  ·unfold oZ
   refine ag.mk (Ld.mk zM rfl ?_)
   refine hs.aL ?_
   rw[ah,hf.len]
   refine aa.cZ (Br.zF hlt ?_)
   obtain⟨XN,XM⟩:=af.qz i (u-6)
   have hq:i/2^(u-6)≤i:=Nat.div_le_self _ _
   have hm:i/2^(u-6)%2*2^(u-6)≤i:=by
    have h1:=Nat.div_add_mod i (2^(u-6))
    have h2:i/2^(u-6)%2*2^(u-6)≤2^(u-6)*(i/2^(u-6)):=by rw[Nat.mul_comm];exact Nat.mul_le_mul_left _ (Nat.mod_le _ _)
    omega
   refine aa.sS (by simp[aY];omega) (by omega) (aa.wx (b:=2) (by decide) ?_)
   refine aa.wq (aa.qv (by simp[aY];omega) hm ?_)
   have rh:af.au i (u-6) c<af.wN n:=by
    rw[af.ql (by omega)]at hlt⊢
    exact af.dc hlt (by omega)
   intro J hJ
   have dH:JE J [.int .i64 ((af.au i (u-6) c:Nat):Int)] (oZ Gq bw b3 b1 n u i s ws c ([]++B)):=by
    refine JE.mk (hJ _ _ fun gs=>?_)
    unfold oZ
    refine DR.self ?_
    refine ag.mk (Ld.mk zM rfl ?_)
    refine ag.mk (Ld.mk zM rfl ?_)
    refine hs.ld (bR (Pt _ rh)) zS ?_
    refine aj.nat hlt ?_
    refine St.ints (l:=iw _) (by exact .tail (.head _)) (by simpa using hlt) ?_
    have e:af.cV ws u c i=ws.getD (af.au i (u-6) c) 0:=by unfold af.cV;rw[if_pos h6]
    rw[←e,Jc hf hu hlt]
    refine aa.inc ?_
    exact aq.mk ⟨i+1,rfl,by omega,rfl⟩ (by simp[aT];omega)
   unfold oZ at dH
   cases c
   ·refine Br.no ?_
    rw[XN];exact dH
   ·refine Br.yes ?_
    refine aa.dx ?_
    rw[XM];exact dH
  ·have:i=af.wN n:=by omega
   subst this
   have:=CX []
   unfold oZ at this⊢
   refine ag.mk (Ld.mk zM rfl ?_)
   refine hs.aL ?_
   rw[ah,hf.len]
   exact aa.cZ (Br.xO hlt this)
 ·have hp:2^u≤32:=Nat.pow_le_pow_right (n:=2) (by decide) (by omega:u≤5)
  have hm:=af.p8 u
  refine ae.pq (B:=B) (J8 (by omega) B) ?_
  rintro r N ⟨sm,rfl,Yo,_⟩
  refine yA.mk rfl ?_
  refine Yo.ld (i:=0) (n:=(af.mask u:Int)) rfl zS ?_
  refine⟨fun vs H=>∃i:Nat,vs=[.int .i64 (i:Int)]∧i≤af.wN n∧H=oZ Gq bw b3 b1 n u i s ws c (N++B),fun vs _=>af.wN n-aT vs 0,JE.mk ⟨0,rfl,Nat.zero_le _,rfl⟩,?_⟩
  rintro w H ⟨i,⟨⟩,hi,rfl⟩ gs
  by_cases hlt:i<af.wN n
  ·have xh:∀J:List Value→Hp→Prop,J [] (oZ Gq bw b3 b1 n u (i+1) s ws c (N++B))→JE J [] ((Gq,.cells (List.toArray [.int .i64 (n:Int),.slice (some ⟨bw,0,none⟩) (af.wN n) (af.wN n)]) 57 (0,0))::
    (bw,.cells (az .u64 ((iw ((List.range (af.wN n)).map fun k=>if k<i then af.cV ws u c k&&&af.bQ n else 0)).set i ((af.cV ws u c i:Nat):Int))) 50 (0,0))::(b3,.cells #[.int .i64 0,.slice none 0 0] 57 (0,0))::(b1,.cells (Value.cells (.agg #[.int .i64 (n:Int),s])) 57 (0,0))::(N++B)):=fun J hJ=>by
    rw[Jc hf hu hlt];exact JE.mk hJ
   unfold oZ
   refine ag.mk (Ld.mk zM rfl ?_)
   refine hs.aL ?_
   rw[ah,hf.len]
   refine aa.cZ (Br.zF hlt ?_)
   intro J hJ
   have JN:=Uw i hlt
   have dH:=xh J (hJ _ fun gs=>by
    refine aa.inc ?_
    exact aq.mk ⟨i+1,rfl,by omega,rfl⟩ (by simp[aT];omega))
   cases c
   ·refine Br.no ?_
    refine ag.mk (Ld.mk zM rfl ?_)
    refine hs.ld (bR (Pt i hlt)) zS ?_
    refine aa.x7 (by simpa[aY]using JN) (by simpa[aY]using hm) ?_
    refine DR.self ?_
    refine ag.mk (Ld.mk zM rfl ?_)
    refine aa.nF (a:=1) ?_
    rw[Nat.one_shiftLeft,Nat.mod_eq_of_lt (by omega)]
    refine aa.nF ?_
    have:=iB (ws.getD i 0) (af.mask u)
    refine aa.yP (by simp only[aY];omega) (by simp only[aY];omega) ?_
    refine aj.nat hlt ?_
    refine St.ints (l:=iw _) (by exact .tail (.head _)) (by simpa using hlt) ?_
    have e:af.cV ws u false i=jL (ws.getD i 0) (af.mask u)|||(jL (ws.getD i 0) (af.mask u)<<<2^u)%18446744073709551616:=by unfold af.cV;rw[if_neg h6];rfl
    rw[←e];exact dH
   ·refine Br.yes ?_
    refine ag.mk (Ld.mk zM rfl ?_)
    refine hs.ld (bR (Pt i hlt)) zS ?_
    refine aa.gY (by simpa[aY]using JN) (by simpa[aY]using hm) ?_
    have h1:ws.getD i 0&&&af.mask u≤ws.getD i 0:=Nat.and_le_left
    refine DR.self ?_
    refine ag.mk (Ld.mk zM rfl ?_)
    refine aa.nF (a:=1) ?_
    rw[Nat.one_shiftLeft,Nat.mod_eq_of_lt (by omega)]
    refine aa.fD (by simp only[aY];omega) ?_
    have h2:=Nat.shiftRight_le (ws.getD i 0&&&af.mask u) (2^u)
    refine aa.yP (by simp only[aY];omega) (by simp only[aY];omega) ?_
    refine aj.nat hlt ?_
    refine St.ints (l:=iw _) (by exact .tail (.head _)) (by simpa using hlt) ?_
    have e:af.cV ws u true i=(ws.getD i 0&&&af.mask u)|||(ws.getD i 0&&&af.mask u)>>>2^u:=by unfold af.cV;rw[if_neg h6];rfl
    rw[←e];exact dH
  ·have:i=af.wN n:=by omega
   subst this
   have:=CX N
   unfold oZ at this⊢
   refine ag.mk (Ld.mk zM rfl ?_)
   refine hs.aL ?_
   rw[ah,hf.len]
   exact aa.cZ (Br.xO hlt this)
theorem rP{B:Hp}{v:Value}{n u:Nat}{ws:List Nat}(ht:iL B v ⟨n,ws⟩)(hf:af.bO n ws)(hu:u<n):
  Rd Tryz.prog 161 #[v,.int .i64 (u:Int)] B (· =.bool (af.dep n ws u)):=by
 obtain⟨s,rfl,hw⟩:=ht
 refine aW fun g=>BA ?_
 intro b1 _
 refine DR.self ?_
 refine av.q (av.q ?_)
 refine ae.pq (k7 (v:=.agg (List.toArray [.int .i64 (n:Int),s])) (n:=n) (ws:=ws) ⟨s,rfl,hw⟩ hf hu) ?_
 rintro v N h1
 refine⟨.cons .right,?_⟩
 refine ae.pq (B:=N++B) (k7 (v:=.agg (List.toArray [.int .i64 (n:Int),s])) (n:=n) (ws:=ws) ⟨s,rfl,hw.mono zS⟩ hf hu) ?_
 rintro v N' h2
 refine⟨.cons (.bJ .right),?_⟩
 have f1:=dM (af.cg (v:=u) (ws:=ws) (b:=false) hf.jz)
 refine ae.eq (B:=N'++(N++B)) (gu (h1.mono zS) h2 (by simp only;omega)) ?_
 refine⟨.cons (.bJ .right),Un.not ?_⟩
 refine bK.mk (.skip (.bJ .right)) ?_
 congr 1
 simp[af.dep]
def cY(n:Nat)(L:List (List Nat)):List Tb:=L.map fun ws=>⟨n,ws⟩
theorem aF(n:Nat)(L:List (List Nat)):(cY n L).length=L.length:=by simp[cY]
theorem ig{n:Nat}{L:List (List Nat)}{i:Nat}{ws:List Nat}(h:L[i]? =some ws):(cY n L)[i]? =some ⟨n,ws⟩:=by simp[cY,h]
theorem j6(n:Nat)(L:List (List Nat))(ws:List Nat):cY n L++[⟨n,ws⟩]=cY n (L++[ws]):=by simp[cY]
theorem HT{B:Hp}{v1 v2:Value}{n:Nat}{L:List (List Nat)}{ws:List Nat}(hL:bV B v1 (cY n L))(hf:∀t∈L,af.bO n t)(ht:iL B v2 ⟨n,ws⟩)(MA:ws.length≤4294967296)(aV:L.length<4611686018427387904):
  Rd Tryz.prog 260 #[v1,v2] B (· =.bool (decide (ws∈L))):=by
 obtain⟨s,rfl,hw⟩:=ht
 refine aW fun g=>Ap ?_
 intro b1 _
 refine hL.aL ?_
 rw[aF]
 refine⟨fun vs H=>∃(k:Nat) (N:Hp),vs=[.int .i64 (k:Int)]∧k≤L.length∧H=N++((b1,.cells (Value.cells (.agg #[.int .i64 (n:Int),s])) 57 (0,0))::B)∧ws∉L.take k,fun vs _=>L.length-aT vs 0,JE.mk ⟨0,[],rfl,by omega,rfl,by simp⟩,?_⟩
 rintro w H ⟨k,N,⟨⟩,hk,rfl,hno⟩ gs
 refine aa.cZ (Br.dec (fun hlt=>?_) (fun hlt=>?_))
 ·have hg:L[k]? =some L[k]:=List.getElem?_eq_getElem hlt
  have gH:=hf L[k] (List.getElem_mem hlt)
  refine hL.ld (ig hg) zS fun s' cR=>?_
  have hone:=ax cR
  intro b2 _
  refine St.p (by simpa[Value.oneCell']using hone) ?_
  refine av.q ?_
  refine av.q ?_
  refine ae.rq (gu (v1:=.agg (List.toArray [.int .i64 (n:Int),s])) (v2:=.agg (List.toArray [.int .i64 (n:Int),s'])) (a:=⟨n,ws⟩) (b:=⟨n,L[k]⟩) ⟨s,rfl,hw.mono zS⟩ ⟨s',rfl,cR.mono zS⟩ ?_) ?_
  ·simp only;omega
  rintro v rfl
  simp only[Tb.mk.injEq,true_and]
  refine Br.dec (fun h=>?_) (fun h=>?_)
  ·exact bK.mk (.skip (.bJ .tail)) (by rw[decide_eq_true];rw[h];exact List.getElem_mem hlt)
  ·refine aa.inc ?_
   refine aq.mk ⟨k+1,_::N,rfl,by omega,rfl,?_⟩ (by simp[aT];omega)
   rw[List.take_succ_eq_append_getElem hlt,List.mem_append,List.mem_singleton]
   rintro(h1|h1)
   ·exact hno h1
   ·exact h h1
 ·have:k=L.length:=by omega
  subst this
  rw[List.take_length]at hno
  exact bK.mk (.bJ .tail) (by rw[decide_eq_false hno])
def E9(n:Nat)(B:Hp)(v:Value)(l:List (List Nat))(H:Hp):Prop:=∃C N,H=C++(N++B)∧dJ 57 v (cY n l) C (N++B)
theorem E9.nil(n:Nat)(B:Hp):E9 n B (.slice none 0 0) [] B:=⟨[],[],rfl,dJ.nil⟩
theorem E9.done{n:Nat}{B:Hp}{v:Value}{l:List (List Nat)}{H:Hp}(h:E9 n B v l H):aG B H∧bV H v (cY n l):=by
 obtain⟨C,N,rfl,ho⟩:=h
 exact⟨.app (.app (.refl _)),ho.sF (fun x hx=>List.mem_append_left _ hx) (fun x hx=>List.mem_append_right _ hx)⟩
theorem af.vO{L:List (List Nat)}{k:Nat}(hlt:k<L.length):af.df (L.take (k+1))=af.add (af.df (L.take k)) L[k]:=by
 rw[List.take_succ_eq_append_getElem hlt,af.df,List.foldl_append];rfl
theorem oB(L:List (List Nat)):(af.df L).length≤L.length:=by
 have:=af.dh (fun a l=>af.add l a) 1 (fun a l=>af.eT l a) L []
 simpa[af.df]using this
theorem mO{B:Hp}{v:Value}{n:Nat}{L:List (List Nat)}(hL:bV B v (cY n L))(hf:∀t∈L,af.bO n t)(aV:L.length<4398046511103):
  Px Tryz.prog 228 #[v] B (fun r H=>bV H r (cY n (af.df L))):=by
 refine aW fun g=>AL ?_
 refine hL.aL ?_
 rw[aF]
 refine⟨fun vs H=>∃(k:Nat) (v:Value),vs=[v,.int .i64 (k:Int)]∧k≤L.length∧E9 n B v (af.df (L.take k)) H,fun vs _=>L.length-aT vs 1,JE.mk ⟨0,_,rfl,by omega,E9.nil n B⟩,?_⟩
 rintro w6 w7 H ⟨k,v,⟨⟩,hk,hst⟩ gs
 refine aa.cZ (Br.dec (fun hlt=>?_) (fun hlt=>?_))
 ·intro J hJ
  have vE:∀v H,E9 n B v (af.df (L.take (k+1))) H→J [v] H:=fun v H h=>hJ _ _ fun gs=>by
   refine aa.inc ?_
   exact aq.mk ⟨k+1,v,rfl,by omega,h⟩ (by simp[aT];omega)
  obtain⟨C,N,rfl,ho⟩:=hst
  have hg:L[k]? =some L[k]:=List.getElem?_eq_getElem hlt
  have gH:=hf L[k] (List.getElem_mem hlt)
  have vC:=oB (L.take k)
  simp only[List.length_take]at vC
  refine hL.ld (ig hg) (fun x hx=>List.mem_append_right _ (List.mem_append_right _ hx)) fun s' cR=>?_
  have hone:=ax cR
  intro b2 _
  refine St.p (by simpa[Value.oneCell']using hone) ?_
  refine av.q ?_
  refine ae.eq (B:=C++(N++B)) (HT (v2:=.agg (List.toArray [.int .i64 (n:Int),s'])) (n:=n) (L:=af.df (L.take k)) (ws:=L[k]) (ho.sF (fun x hx=>List.mem_append_left _ hx) (fun x hx=>List.mem_append_right _ hx)) (fun t ht=>hf t (List.mem_of_mem_take (af.bY.1 ht))) ⟨s',rfl,cR.mono zS⟩ (dM gH) (by omega)) ?_
  refine Un.not ?_
  rw[af.vO hlt,af.add]at vE
  by_cases hin:L[k]∈af.df (L.take k)
  ·rw[decide_eq_true hin]
   rw[if_pos hin]at vE
   exact Br.no (JE.of .tail (vE _ _ ⟨C,N,rfl,ho⟩))
  ·rw[decide_eq_false hin]
   rw[if_neg hin]at vE
   refine Br.yes ?_
   refine av.q ?_
   refine dW fun xb=>?_
   refine ho.app (A:=[_,_]) (t:=⟨n,L[k]⟩) (s:=s') (by exact .head _) (cR.mono zS) (by rw[aF];omega) fun v' C' bE=>?_
   rw[j6]at bE
   exact JE.of (.skip .tail) (vE _ _ ⟨C',N,rfl,bE⟩)
 ·have:k=L.length:=by omega
  subst this
  rw[List.take_length]at hst
  obtain⟨h1,h2⟩:=hst.done
  exact jS.mk h1 h2
theorem yQ{n u k:Nat}{L:List (List Nat)}(hlt:k<L.length):af.nodes n (L.take (k+1)) u=if af.dep n L[k] u then af.nodes n (L.take k) u++[L[k]]else af.nodes n (L.take k) u:=by
 rw[List.take_succ_eq_append_getElem hlt,af.nodes,List.filter_append]
 cases h:af.dep n L[k] u<;>simp[af.nodes,h]
theorem ti{B:Hp}{v:Value}{n u:Nat}{L:List (List Nat)}(hL:bV B v (cY n L))(hf:∀t∈L,af.bO n t)(hu:u<n)(aV:L.length<4398046511103):
  Px Tryz.prog 258 #[v,.int .i64 (u:Int)] B (fun r H=>bV H r (cY n (af.nodes n L u))):=by
 refine aW fun g=>Ar ?_
 refine hL.aL ?_
 rw[aF]
 refine⟨fun vs H=>∃(k:Nat) (v:Value),vs=[v,.int .i64 (k:Int)]∧k≤L.length∧E9 n B v (af.nodes n (L.take k) u) H,fun vs _=>L.length-aT vs 1,JE.mk ⟨0,_,rfl,by omega,E9.nil n B⟩,?_⟩
 rintro w6 w7 H ⟨k,v,⟨⟩,hk,hst⟩ gs
 refine aa.cZ (Br.dec (fun hlt=>?_) (fun hlt=>?_))
 ·intro J hJ
  have vE:∀v H,E9 n B v (af.nodes n (L.take (k+1)) u) H→J [v] H:=fun v H h=>hJ _ _ fun gs=>by
   refine aa.inc ?_
   exact aq.mk ⟨k+1,v,rfl,by omega,h⟩ (by simp[aT];omega)
  obtain⟨C,N,rfl,ho⟩:=hst
  have hg:L[k]? =some L[k]:=List.getElem?_eq_getElem hlt
  have gH:=hf L[k] (List.getElem_mem hlt)
  have vC:(af.nodes n (L.take k) u).length≤(L.take k).length:=List.length_filter_le _ _
  simp only[List.length_take]at vC
  refine hL.ld (ig hg) (fun x hx=>List.mem_append_right _ (List.mem_append_right _ hx)) fun s' cR=>?_
  have hone:=ax cR
  intro b2 _
  refine St.p (by simpa[Value.oneCell']using hone) ?_
  refine av.q ?_
  refine ae.eq (B:=C++(N++B)) (rP (v:=.agg (List.toArray [.int .i64 (n:Int),s'])) (n:=n) (ws:=L[k]) ⟨s',rfl,cR.mono zS⟩ gH hu) ?_
  rw[yQ hlt]at vE
  cases hd:af.dep n L[k] u<;>rw[hd]at vE<;>simp only[Bool.false_eq_true,if_false,if_true]at vE
  ·exact Br.no (JE.of .tail (vE _ _ ⟨C,N,rfl,ho⟩))
  ·refine Br.yes ?_
   refine av.q ?_
   refine dW fun xb=>?_
   refine ho.app (A:=[_,_]) (t:=⟨n,L[k]⟩) (s:=s') (by exact .head _) (cR.mono zS) (by rw[aF];omega) fun v' C' bE=>?_
   rw[j6]at bE
   exact JE.of (.skip .tail) (vE _ _ ⟨C',N,rfl,bE⟩)
 ·have:k=L.length:=by omega
  subst this
  rw[List.take_length]at hst
  obtain⟨h1,h2⟩:=hst.done
  exact jS.mk h1 h2
theorem zu{n u k:Nat}{L:List (List Nat)}(hlt:k<L.length):af.given n (L.take (k+1)) u=af.add (af.add (af.given n (L.take k) u) (af.dj n L[k] u false)) (af.dj n L[k] u true):=by
 rw[List.take_succ_eq_append_getElem hlt,af.given,List.foldl_append];rfl
theorem xy(n u:Nat)(L:List (List Nat)):(af.given n L u).length≤2*L.length:=by
 have h:=af.dh (fun t acc=>af.add (af.add acc (af.dj n t u false)) (af.dj n t u true)) 2 (fun a l=>by have h1:=af.eT (af.add l (af.dj n a u false)) (af.dj n a u true);have h2:=af.eT l (af.dj n a u false);omega) L []
 simpa[af.given]using h
theorem tj{B:Hp}{v:Value}{n u:Nat}{L:List (List Nat)}(hL:bV B v (cY n L))(hf:∀t∈L,af.bO n t)(hn:n≤16)(hu:u<n)(aV:L.length<2199023255551):
  Px Tryz.prog 259 #[v,.int .i64 (u:Int)] B (fun r H=>bV H r (cY n (af.given n L u))):=by
 refine aW fun g=>Aq ?_
 refine hL.aL ?_
 rw[aF]
 refine⟨fun vs H=>∃(k:Nat) (v:Value),vs=[v,.int .i64 (k:Int)]∧k≤L.length∧E9 n B v (af.given n (L.take k) u) H,fun vs _=>L.length-aT vs 1,JE.mk ⟨0,_,rfl,by omega,E9.nil n B⟩,?_⟩
 rintro w6 w7 H ⟨k,v,⟨⟩,hk,hst⟩ gs
 refine aa.cZ (Br.dec (fun hlt=>?_) (fun hlt=>?_))
 ·intro J hJ
  have vE:∀v H,E9 n B v (af.given n (L.take (k+1)) u) H→J [v] H:=fun v H h=>hJ _ _ fun gs=>by
   refine aa.inc ?_
   exact aq.mk ⟨k+1,v,rfl,by omega,h⟩ (by simp[aT];omega)
  obtain⟨C,N,rfl,ho⟩:=hst
  have hg:L[k]? =some L[k]:=List.getElem?_eq_getElem hlt
  have gH:=hf L[k] (List.getElem_mem hlt)
  have vC:=xy n u (L.take k)
  simp only[List.length_take]at vC
  have fg:∀t∈af.given n (L.take k) u,af.bO n t:=fun t ht=>by obtain⟨_,_,_,rfl⟩:=af.bt.1 ht;exact af.cg hn
  have f1:=af.cg (v:=u) (ws:=L[k]) (b:=false) hn
  have f2:=af.cg (v:=u) (ws:=L[k]) (b:=true) hn
  rw[zu hlt]at vE
  refine hL.ld (ig hg) (fun x hx=>List.mem_append_right _ (List.mem_append_right _ hx)) fun s' cR=>?_
  have hone:=ax cR
  intro b2 _
  refine St.p (by simpa[Value.oneCell']using hone) ?_
  refine DR.self ?_
  refine av.q (av.q ?_)
  intro F
  refine ae.pq (B:=N++B) (k7 (v:=.agg (List.toArray [.int .i64 (n:Int),s'])) (n:=n) (ws:=L[k]) ⟨s',rfl,cR.mono zS⟩ gH hu) ?_
  rintro v N1 ⟨s1,rfl,gS⟩
  refine⟨.cons (.cv .right _),?_⟩
  intro F
  refine ae.pq (B:=N1++(N++B)) (k7 (v:=.agg (List.toArray [.int .i64 (n:Int),s'])) (n:=n) (ws:=L[k]) ⟨s',rfl,cR.mono zS⟩ gH hu) ?_
  rintro v N2 ⟨s2,rfl,lF⟩
  refine⟨.cons (.cv (.bJ .right) _),?_⟩
  have wV:=ax gS
  have wU:=ax lF
  intro R5 _ ZR _ F
  refine St.p (by simpa[Value.oneCell']using wV) ?_
  refine⟨.skip (.skip (.cons (.cv (.bJ .right) _))),?_⟩
  intro F
  refine St.p (by simpa[Value.oneCell']using wU) ?_
  have jQ:=ho.mono (B':=N2++(N1++(N++B))) zS
  intro J2 yx
  have RR:∀v C l,dJ 57 v (cY n l) C (N2++(N1++(N++B)))→l=af.add (af.given n (L.take k) u) (af.dj n L[k] u false)→
    J2 [v] ((ZR,.cells (List.toArray [.int .i64 (n:Int),s2]) 57 (0,0))::(C++(N2++(N1++(N++B))))):=fun v C l ho hl=>yx _ _ fun gs=>by
   have sC:=af.eT (af.given n (L.take k) u) (af.dj n L[k] u false)
   rw[←hl]at sC
   have fl:∀t∈l,af.bO n t:=fun t ht=>by rw[hl]at ht;rcases af.p7.1 ht with h|rfl;exact fg t h;exact f1
   refine av.q ?_
   refine ae.eq (B:=C++(N2++(N1++(N++B)))) (HT (v2:=.agg (List.toArray [.int .i64 (n:Int),s2])) (n:=n) (L:=l) (ws:=af.dj n L[k] u true) (ho.sF (fun x hx=>List.mem_append_left _ hx) (fun x hx=>List.mem_append_right _ hx)) fl ⟨s2,rfl,lF.mono zS⟩ (dM f2) (by omega)) ?_
   refine Un.not ?_
   rw[←hl,af.add]at vE
   by_cases hin:af.dj n L[k] u true∈l
   ·rw[decide_eq_true hin]
    rw[if_pos hin]at vE
    refine Br.no (JE.of .tail (vE _ _ ⟨C,N2++(N1++N),?_,?_⟩))
    ·rw[List.append_assoc,List.append_assoc]
    ·rw[List.append_assoc,List.append_assoc];exact ho
   ·rw[decide_eq_false hin]
    rw[if_neg hin]at vE
    refine Br.yes ?_
    refine av.q ?_
    refine dW fun xb=>?_
    refine ho.app (A:=[_,_]) (t:=⟨n,af.dj n L[k] u true⟩) (s:=s2) (by exact .head _) lF (by rw[aF];omega) fun v' C' bE=>?_
    rw[j6]at bE
    refine JE.of (.skip .tail) (vE _ _ ⟨C',N2++(N1++N),?_,?_⟩)
    ·rw[List.append_assoc,List.append_assoc];rfl
    ·rw[List.append_assoc,List.append_assoc];exact bE
  refine av.q ?_
  refine ae.eq (B:=C++(N2++(N1++(N++B)))) (HT (v2:=.agg (List.toArray [.int .i64 (n:Int),s1])) (n:=n) (L:=af.given n (L.take k) u) (ws:=af.dj n L[k] u false) (jQ.sF (fun x hx=>List.mem_append_left _ hx) (fun x hx=>List.mem_append_right _ hx)) fg ⟨s1,rfl,gS.mono zS⟩ (dM f1) (by omega)) ?_
  refine Un.not ?_
  by_cases hin:af.dj n L[k] u false∈af.given n (L.take k) u
  ·rw[decide_eq_true hin]
   exact Br.no (JE.of (.cons (.skip .tail)) (RR _ C _ jQ (by rw[af.add,if_pos hin])))
  ·rw[decide_eq_false hin]
   refine Br.yes ?_
   refine av.q ?_
   refine dW fun xb=>?_
   refine jQ.app (A:=[_,_,_,_]) (t:=⟨n,af.dj n L[k] u false⟩) (s:=s1) (by exact .head _) (gS.mono zS) (by rw[aF];omega) fun v' C' bE=>?_
   rw[j6]at bE
   exact JE.of (.skip (.cons (.skip .tail))) (RR _ C' _ bE (by rw[af.add,if_neg hin]))
 ·have:k=L.length:=by omega
  subst this
  rw[List.take_length]at hst
  obtain⟨h1,h2⟩:=hst.done
  exact jS.mk h1 h2
end Go.Proofs
namespace aU
open af
theorem dF{x u v:Nat}{b c:Bool}(h:u≠v):au (au x u b) v c=au (au x v c) u b:=by
 apply Nat.eq_of_testBit_eq;intro k
 rw[ai,ai,ai,ai]
 by_cases e1:k=u<;>by_cases e2:k=v
 ·exact absurd (e1.symm.trans e2) h
 ·simp[e1,h]
 ·simp[e2,Ne.symm h]
 ·simp[e1,e2]
structure Nd where
 v:Nat
 lo:Nat
 hi:Nat
deriving DecidableEq
abbrev fb:=Nat→Option Nd
abbrev Fn:=Nat→Bool
def live(N:fb)(r:Nat):Prop:=r<2∨∃d,N r=some d
def dep(n:Nat)(ak:Nat→Nat)(N:fb)(r:Nat):Nat:=match N r with|some d=>ak d.v|none=>n
structure WF(n:Nat)(ak:Nat→Nat)(N:fb):Prop where
 two:∀{r d},N r=some d→2≤r
 var:∀{r d},N r=some d→d.v<n
 ne:∀{r d},N r=some d→d.lo≠d.hi
 lo:∀{r d},N r=some d→live N d.lo∧ak d.v<dep n ak N d.lo
 hi:∀{r d},N r=some d→live N d.hi∧ak d.v<dep n ak N d.hi
 uq:∀{r r' d},N r=some d→N r'=some d→r=r'
structure qj(n:Nat)(ak:Nat→Nat):Prop where
 lt:∀v,v<n→ak v<n
 inj:∀u v,u<n→v<n→ak u=ak v→u=v
structure Interp(N:fb)(S:Nat→Fn):Prop where
 zero:∀x,S 0 x=false
 one:∀x,S 1 x=true
 node:∀{r d},N r=some d→∀x,S r x=if x.testBit d.v then S d.hi x else S d.lo x
variable {n:Nat} {ak:Nat→Nat} {N:fb} {S:Nat→Fn}
theorem cj{r:Nat}(h:N r=none):dep n ak N r=n:=by unfold dep;rw[h]
theorem aE{r:Nat}{d:Nd}(h:N r=some d):dep n ak N r=ak d.v:=by unfold dep;rw[h]
theorem WF.gX(h:WF n ak N)(hl:qj n ak)(r:Nat):dep n ak N r≤n:=by
 cases e:N r with
 |none=>rw[cj e];exact Nat.le_refl _
 |some d=>rw[aE e];exact Nat.le_of_lt (hl.lt _ (h.var e))
theorem WF.const(h:WF n ak N){r:Nat}(hr:r<2):N r=none:=by
 cases e:N r with
 |none=>rfl
 |some d=>have:=h.two e;omega
theorem WF.indep(h:WF n ak N)(hl:qj n ak)(hi:Interp N S):∀(k r:Nat),n-dep n ak N r≤k→live N r→∀v,v<n→ak v<dep n ak N r→∀x b,S r (au x v b)=S r x:=by
 intro k
 induction k with
 |zero=>
  intro r hk hr v hv hlt x b
  rcases hr with hr|⟨d,hd⟩
  ·have:r=0∨r=1:=by omega
   rcases this with rfl|rfl
   ·rw[hi.zero,hi.zero]
   ·rw[hi.one,hi.one]
  ·have h1:=hl.lt _ (h.var hd)
   rw[aE hd]at hk;omega
 |succ k ih=>
  intro r hk hr v hv hlt x b
  rcases hr with hr|⟨d,hd⟩
  ·have:r=0∨r=1:=by omega
   rcases this with rfl|rfl
   ·rw[hi.zero,hi.zero]
   ·rw[hi.one,hi.one]
  ·rw[aE hd]at hk hlt
   have h1:=hl.lt _ (h.var hd)
   obtain⟨l1,l2⟩:=h.lo hd
   obtain⟨m1,m2⟩:=h.hi hd
   have hne:d.v≠v:=fun e=>by rw[e]at hlt;omega
   rw[hi.node hd,hi.node hd,ai,if_neg hne,ih d.lo (by omega) l1 v hv (by omega),ih d.hi (by omega) m1 v hv (by omega)]
theorem WF.cy(h:WF n ak N)(hl:qj n ak)(hi:Interp N S){r:Nat}(hr:live N r){v:Nat}(hv:v<n)(hlt:ak v<dep n ak N r)(x:Nat)(b:Bool):S r (au x v b)=S r x:=
 h.indep hl hi _ r (Nat.le_refl _) hr v hv hlt x b
theorem WF.child(h:WF n ak N)(hl:qj n ak)(hi:Interp N S){r:Nat}{d:Nd}(hd:N r=some d)(x:Nat)(b:Bool):S r (au x d.v b)=S (if b then d.hi else d.lo) x:=by
 obtain⟨l1,l2⟩:=h.lo hd
 obtain⟨m1,m2⟩:=h.hi hd
 rw[hi.node hd,ai,if_pos rfl]
 cases b
 ·simp only[Bool.false_eq_true,if_false];exact h.cy hl hi l1 (h.var hd) l2 x false
 ·simp only[if_true];exact h.cy hl hi m1 (h.var hd) m2 x true
theorem WF.canon(h:WF n ak N)(hl:qj n ak)(hi:Interp N S):∀(k r r':Nat),(n-dep n ak N r)+(n-dep n ak N r')≤k→live N r→live N r'→(∀x,S r x=S r' x)→r=r':=by
 intro k
 induction k with
 |zero=>
  intro r r' hk hr hr' he
  have hc:∀{r},n-dep n ak N r=0→live N r→r<2:=by
   intro r hk hr
   rcases hr with hr|⟨d,hd⟩
   ·exact hr
   ·have h1:=hl.lt _ (h.var hd)
    rw[aE hd]at hk;omega
  have h1:=hc (by omega) hr
  have h2:=hc (by omega) hr'
  have e0:=he 0
  have:r=0∨r=1:=by omega
  have h3:r'=0∨r'=1:=by omega
  rcases this with rfl|rfl<;>rcases h3 with rfl|rfl<;>simp[hi.zero,hi.one]at e0<;>rfl
 |succ k ih=>
  have Jx:∀r r',(n-dep n ak N r)+(n-dep n ak N r')≤k+1→live N r'→(∀x,S r x=S r' x)→∀d,N r=some d→ak d.v<dep n ak N r'→False:=by
   intro r r' hk hr' he d hd hlt
   obtain⟨l1,l2⟩:=h.lo hd
   obtain⟨m1,m2⟩:=h.hi hd
   have hv:=h.var hd
   have h1:=hl.lt _ hv
   have d1:=h.gX hl d.lo
   have d2:=h.gX hl d.hi
   have d3:=h.gX hl r'
   rw[aE hd]at hk
   have a1:d.lo=r':=ih d.lo r' (by omega) l1 hr' fun x=>by
    have:=h.child hl hi hd x false
    simp only[Bool.false_eq_true,if_false]at this
    rw[←this,he,h.cy hl hi hr' hv hlt]
   have a2:d.hi=r':=ih d.hi r' (by omega) m1 hr' fun x=>by
    have:=h.child hl hi hd x true
    simp only[if_true]at this
    rw[←this,he,h.cy hl hi hr' hv hlt]
   exact h.ne hd (a1.trans a2.symm)
  intro r r' hk hr hr' he
  rcases hr with hr|⟨d,hd⟩
  ·rcases hr' with hr'|⟨d',dm⟩
   ·have e0:=he 0
    have:r=0∨r=1:=by omega
    have h3:r'=0∨r'=1:=by omega
    rcases this with rfl|rfl<;>rcases h3 with rfl|rfl<;>simp[hi.zero,hi.one]at e0<;>rfl
   ·refine(Jx r' r (by omega) (.inl hr) (fun x=>(he x).symm) d' dm ?_).elim
    rw[cj (h.const hr)];exact hl.lt _ (h.var dm)
  ·rcases Nat.lt_trichotomy (ak d.v) (dep n ak N r')with hlt|heq|hgt
   ·exact(Jx r r' hk hr' he d hd hlt).elim
   ·rcases hr' with hr'|⟨d',dm⟩
    ·rw[cj (h.const hr')]at heq
     have:=hl.lt _ (h.var hd);omega
    ·rw[aE dm]at heq
     have hv:=hl.inj _ _ (h.var hd) (h.var dm) heq
     obtain⟨l1,l2⟩:=h.lo hd
     obtain⟨m1,m2⟩:=h.hi hd
     obtain⟨XT,l2'⟩:=h.lo dm
     obtain⟨XQ,m2'⟩:=h.hi dm
     have h1:=hl.lt _ (h.var hd)
     have d1:=h.gX hl d.lo
     have d2:=h.gX hl d.hi
     have d1':=h.gX hl d'.lo
     have d2':=h.gX hl d'.hi
     rw[aE hd,aE dm]at hk
     have c1:=fun x=>h.child hl hi hd x false
     have c2:=fun x=>h.child hl hi hd x true
     have W5:=fun x=>h.child hl hi dm x false
     have W4:=fun x=>h.child hl hi dm x true
     simp only[Bool.false_eq_true,if_false,if_true]at c1 c2 W5 W4
     have a1:d.lo=d'.lo:=ih d.lo d'.lo (by omega) l1 XT fun x=>by rw[←c1,←W5,he,hv]
     have a2:d.hi=d'.hi:=ih d.hi d'.hi (by omega) m1 XQ fun x=>by rw[←c2,←W4,he,hv]
     have:d=d':=by cases d;cases d';simp_all
     subst this
     exact h.uq hd dm
   ·rcases hr' with hr'|⟨d',dm⟩
    ·rw[cj (h.const hr')]at hgt
     have:=hl.lt _ (h.var hd);omega
    ·rw[aE dm]at hgt
     refine(Jx r' r (by omega) (.inr ⟨d,hd⟩) (fun x=>(he x).symm) d' dm ?_).elim
     rw[aE hd];exact hgt
theorem WF.same(h:WF n ak N)(hl:qj n ak)(hi:Interp N S){r r':Nat}(hr:live N r)(hr':live N r')(he:∀x,S r x=S r' x):r=r':=h.canon hl hi _ r r' (Nat.le_refl _) hr hr' he
end aU
namespace aU
open af
variable {n:Nat} {ak:Nat→Nat} {N:fb} {S:Nat→Fn} {ord:List Nat}
def eE(g:Fn)(v:Nat):Prop:=∃x,g (au x v false)≠g (au x v true)
def fs(ord:List Nat)(F:Fn→Prop):Nat→Fn→Prop
 |0,g=>F g
 |l+1,g=>∃f,fs ord F l f∧∃b,g=fun x=>f (au x (ord.getD l 0) b)
def bC(n:Nat)(ord:List Nat)(F:Fn→Prop)(g:Fn):Prop:=∃l,l<n∧fs ord F l g∧eE g (ord.getD l 0)
structure Ord(n:Nat)(ak:Nat→Nat)(ord:List Nat):Prop where
 len:ord.length=n
 aZ:∀l,l<n→ord.getD l 0<n∧ak (ord.getD l 0)=l
theorem Ord.of(h:Ord n ak ord)(hl:qj n ak){v:Nat}(hv:v<n):ord.getD (ak v) 0=v:=by
 obtain⟨h1,h2⟩:=h.aZ _ (hl.lt v hv)
 exact hl.inj _ _ h1 hv h2
def Fs(S:Nat→Fn)(R:Nat→Prop)(g:Fn):Prop:=∃r,R r∧g=S r
def A(N:fb)(ak:Nat→Nat)(n:Nat)(R:Nat→Prop):Nat→Nat→Prop
 |0,r=>R r
 |l+1,r=>(A N ak n R l r∧dep n ak N r≠l)∨∃p d,A N ak n R l p∧N p=some d∧ak d.v=l∧(r=d.lo∨r=d.hi)
variable {R:Nat→Prop}
theorem nf(h:WF n ak N)(hR:∀r,R r→live N r):∀l r,A N ak n R l r→live N r∧l≤dep n ak N r
 |0,r,ha=>⟨hR r ha,Nat.zero_le _⟩
 |l+1,r,ha=>by
  rcases ha with⟨h1,h2⟩|⟨p,d,h1,h2,h3,h4⟩
  ·have:=nf h hR l r h1
   exact⟨this.1,by omega⟩
  ·rcases h4 with rfl|rfl
   ·have:=h.lo h2;exact⟨this.1,by omega⟩
   ·have:=h.hi h2;exact⟨this.1,by omega⟩
theorem Ch{r:Nat}:∀k l,A N ak n R l r→l+k≤dep n ak N r→A N ak n R (l+k) r
 |0,l,ha,_=>ha
 |k+1,l,ha,hk=>by
  have h1:=Ch k l ha (by omega)
  have h2:dep n ak N r≠l+k:=by omega
  exact .inl ⟨h1,h2⟩
def Reach(N:fb)(R:Nat→Prop):Prop:=∀r d,N r=some d→R r∨∃p e,N p=some e∧(e.lo=r∨e.hi=r)
theorem JK(h:WF n ak N)(hr:Reach N R):∀k r d,N r=some d→ak d.v≤k→A N ak n R (ak d.v) r:=by
 intro k
 induction k with
 |zero=>
  intro r d hd hk
  rcases hr r d hd with h1|⟨p,e,h1,h2⟩
  ·rw[show ak d.v=0 by omega];exact h1
  ·have:=h.lo h1
   have h3:=h.hi h1
   rcases h2 with rfl|rfl
   ·rw[aE hd]at this;omega
   ·rw[aE hd]at h3;omega
 |succ k ih=>
  intro r d hd hk
  rcases hr r d hd with h1|⟨p,e,h1,h2⟩
  ·have:=Ch (N:=N) (ak:=ak) (n:=n) (R:=R) (r:=r) (ak d.v) 0 h1 (by rw[aE hd];omega)
   rwa [Nat.zero_add]at this
  ·have hlt:ak e.v<ak d.v:=by
    have:=h.lo h1
    have h3:=h.hi h1
    rcases h2 with rfl|rfl
    ·rw[aE hd]at this;omega
    ·rw[aE hd]at h3;omega
   have ha:=ih p e h1 (by omega)
   have hb:A N ak n R (ak e.v+1) r:=.inr ⟨p,e,ha,h1,rfl,by rcases h2 with rfl|rfl;exact .inl rfl;exact .inr rfl⟩
   have:=Ch (ak d.v-(ak e.v+1)) _ hb (by rw[aE hd];omega)
   rwa [show ak e.v+1+(ak d.v-(ak e.v+1))=ak d.v by omega]at this
theorem EK(h:WF n ak N)(hl:qj n ak)(ho:Ord n ak ord)(hi:Interp N S)(hR:∀r,R r→live N r):∀l,l≤n→∀g,fs ord (Fs S R) l g↔∃r,A N ak n R l r∧g=S r
 |0,_,g=>Iff.rfl
 |l+1,Ey,g=>by
  obtain⟨v1,v2⟩:=ho.aZ l Ey
  have ih:=EK h hl ho hi hR l (by omega)
  constructor
  ·rintro⟨f,hf,b,rfl⟩
   obtain⟨r,ha,rfl⟩:=(ih f).1 hf
   obtain⟨hlv,hle⟩:=nf h hR l r ha
   by_cases e:dep n ak N r=l
   ·rcases hlv with hc|⟨d,hd⟩
    ·rw[cj (h.const hc)]at e;omega
    ·rw[aE hd]at e
     have hv:d.v=ord.getD l 0:=hl.inj _ _ (h.var hd) v1 (by omega)
     refine⟨if b then d.hi else d.lo,.inr ⟨r,d,ha,hd,e,by cases b<;>simp⟩,?_⟩
     funext x
     rw[←hv];exact h.child hl hi hd x b
   ·refine⟨r,.inl ⟨ha,e⟩,?_⟩
    funext x
    exact h.cy hl hi hlv v1 (by omega) x b
  ·rintro⟨r,ha,rfl⟩
   rcases ha with⟨h1,h2⟩|⟨p,d,h1,h2,h3,h4⟩
   ·obtain⟨hlv,hle⟩:=nf h hR l r h1
    refine⟨S r,(ih _).2 ⟨r,h1,rfl⟩,false,?_⟩
    funext x
    exact(h.cy hl hi hlv v1 (by omega) x false).symm
   ·have hv:d.v=ord.getD l 0:=hl.inj _ _ (h.var h2) v1 (by omega)
    rcases h4 with rfl|rfl
    ·refine⟨S p,(ih _).2 ⟨p,h1,rfl⟩,false,?_⟩
     funext x
     rw[←hv];exact(h.child hl hi h2 x false).symm
    ·refine⟨S p,(ih _).2 ⟨p,h1,rfl⟩,true,?_⟩
     funext x
     rw[←hv];exact(h.child hl hi h2 x true).symm
theorem kz(h:WF n ak N)(hl:qj n ak)(ho:Ord n ak ord)(hi:Interp N S)(hR:∀r,R r→live N r)(hr:Reach N R)(g:Fn):bC n ord (Fs S R) g↔∃r d,N r=some d∧g=S r:=by
 constructor
 ·rintro⟨l,Ey,hf,x,hx⟩
  obtain⟨v1,v2⟩:=ho.aZ l Ey
  obtain⟨r,ha,rfl⟩:=(EK h hl ho hi hR l (by omega) g).1 hf
  obtain⟨hlv,hle⟩:=nf h hR l r ha
  by_cases e:dep n ak N r=l
  ·rcases hlv with hc|⟨d,hd⟩
   ·rw[cj (h.const hc)]at e;omega
   ·exact⟨r,d,hd,rfl⟩
  ·exact absurd (by rw[h.cy hl hi hlv v1 (by omega),h.cy hl hi hlv v1 (by omega)]) hx
 ·rintro⟨r,d,hd,rfl⟩
  have hv:=h.var hd
  have hlt:=hl.lt _ hv
  refine⟨ak d.v,hlt,(EK h hl ho hi hR _ (by omega) _).2 ⟨r,JK h hr _ r d hd (Nat.le_refl _),rfl⟩,?_⟩
  rw[ho.of hl hv]
  refine Classical.byContradiction fun hno=>h.ne hd (h.same hl hi (h.lo hd).1 (h.hi hd).1 fun x=>?_)
  have c1:=h.child hl hi hd x false
  have c2:=h.child hl hi hd x true
  simp only[Bool.false_eq_true,if_false,if_true]at c1 c2
  rw[←c1,←c2]
  exact Classical.byContradiction fun hne=>hno ⟨x,hne⟩
def ou(P:Fn→Prop)(k:Nat):Prop:=∃l:List Fn,l.Nodup∧l.length=k∧∀g,P g↔g∈l
theorem ou.congr{P Q:Fn→Prop}{k:Nat}(h:ou P k)(e:∀g,P g↔Q g):ou Q k:=let ⟨l,h1,h2,h3⟩:=h;⟨l,h1,h2,fun g=>(e g).symm.trans (h3 g)⟩
theorem bH{α:Type}:∀{l l':List α},l.Nodup→(∀x∈l,x∈l')→l.length≤l'.length
 | [],l',_,_=>Nat.zero_le _
 |x::l,l',hn,hs=>by
  obtain⟨h1,h2⟩:=List.nodup_cons.1 hn
  obtain⟨a,b,rfl⟩:=List.append_of_mem (hs x (by simp))
  have:=bH (l':=a++b) h2 fun y hy=>by
   have:=hs y (by simp[hy])
   rcases List.mem_append.1 this with h|h
   ·exact List.mem_append_left _ h
   ·rcases List.mem_cons.1 h with rfl|h
    ·exact absurd hy h1
    ·exact List.mem_append_right _ h
  simp at this⊢;omega
theorem ou.le{P Q:Fn→Prop}{k k':Nat}(h:ou P k)(h':ou Q k')(e:∀g,P g→Q g):k≤k':=by
 obtain⟨l,h1,h2,h3⟩:=h
 obtain⟨l',u4,nq,vG⟩:=h'
 rw[←h2,←nq]
 exact bH h1 fun x hx=>(vG x).1 (e x ((h3 x).2 hx))
theorem ou.uniq{P:Fn→Prop}{k k':Nat}(h:ou P k)(h':ou P k'):k=k':=Nat.le_antisymm (h.le h' fun _=>id) (h'.le h fun _=>id)
theorem ou.or{P Q:Fn→Prop}{k k':Nat}(h:ou P k)(h':ou Q k')(e:∀g,P g→¬Q g):ou (fun g=>P g∨Q g) (k+k'):=by
 obtain⟨l,h1,h2,h3⟩:=h
 obtain⟨l',u4,nq,vG⟩:=h'
 refine⟨l++l',List.nodup_append.2 ⟨h1,u4,fun a ha b hb e'=>?_⟩,by rw[List.length_append,h2,nq],fun g=>by rw[List.mem_append,←h3,←vG]⟩
 subst e'
 exact e a ((h3 a).2 ha) ((vG a).2 hb)
theorem uc(h:WF n ak N)(hl:qj n ak)(hi:Interp N S){dom:List Nat}(hd:dom.Nodup)(hm:∀r,r∈dom↔∃d,N r=some d):ou (fun g=>∃r d,N r=some d∧g=S r) dom.length:=by
 refine⟨dom.map S,?_,by simp,fun g=>?_⟩
 ·refine List.pairwise_map.2 (hd.imp_of_mem fun{a b} ha hb hne heq=>hne ?_)
  exact h.same hl hi (.inr ((hm a).1 ha)) (.inr ((hm b).1 hb)) fun x=>by rw[heq]
 ·rw[List.mem_map]
  constructor
  ·rintro⟨r,d,h1,rfl⟩;exact⟨r,(hm r).2 ⟨d,h1⟩,rfl⟩
  ·rintro⟨r,h1,rfl⟩;obtain⟨d,h2⟩:=(hm r).1 h1;exact⟨r,d,h2,rfl⟩
end aU
namespace aU
open af
def up{α:Type}(N:Nat→α)(r:Nat)(o:α):Nat→α:=fun s=>if s=r then o else N s
@[simp] theorem aH{α:Type}{N:Nat→α}{r:Nat}{o:α}:up N r o r=o:=if_pos rfl
theorem aI{α:Type}{N:Nat→α}{r s:Nat}{o:α}(h:s≠r):up N r o s=N s:=if_neg h
def ng(T:Nd→Option Nat)(d:Nd)(o:Option Nat):Nd→Option Nat:=fun e=>if e=d then o else T e
@[simp] theorem gJ{T:Nd→Option Nat}{d:Nd}{o:Option Nat}:ng T d o d=o:=if_pos rfl
theorem mH{T:Nd→Option Nat}{d e:Nd}{o:Option Nat}(h:e≠d):ng T d o e=T e:=if_neg h
def e1:Option Nd→Nat→Nat
 |none,_=>0
 |some d,r=>(if d.lo=r then 1 else 0)+(if d.hi=r then 1 else 0)
theorem dr(d:Nd)(r:Nat):e1 (some d) r=(if d.lo=r then 1 else 0)+(if d.hi=r then 1 else 0):=rfl
def cM(N:fb)(r:Nat):Nat→Nat
 |0=>0
 |k+1=>cM N r k+e1 (N k) r
def jX(N:fb):Nat→Nat
 |0=>0
 |k+1=>jX N k+(if(N k).isSome then 1 else 0)
theorem tW{N:fb}{s r:Nat}{o:Option Nd}:∀{k},(s<k→cM (up N s o) r k+e1 (N s) r=cM N r k+e1 o r)∧(k≤s→cM (up N s o) r k=cM N r k)
 |0=>⟨fun h=>by omega,fun _=>rfl⟩
 |k+1=>by
  obtain⟨i1,i2⟩:=tW (N:=N) (s:=s) (r:=r) (o:=o) (k:=k)
  refine⟨fun h=>?_,fun h=>?_⟩
  ·rw[cM,cM]
   by_cases e:s=k
   ·subst e;rw[aH,i2 (Nat.le_refl _)];omega
   ·have:=i1 (by omega);rw[aI (fun h=>e h.symm)];omega
  ·rw[cM,cM,i2 (by omega),aI (by omega)]
theorem rO{N:fb}{s r k:Nat}{o:Option Nd}(h:s<k):cM (up N s o) r k+e1 (N s) r=cM N r k+e1 o r:=tW.1 h
theorem ob{N:fb}{s:Nat}{o:Option Nd}:∀{k},(s<k→jX (up N s o) k+(if(N s).isSome then 1 else 0)=jX N k+(if o.isSome then 1 else 0))∧(k≤s→jX (up N s o) k=jX N k)
 |0=>⟨fun h=>by omega,fun _=>rfl⟩
 |k+1=>by
  obtain⟨i1,i2⟩:=ob (N:=N) (s:=s) (o:=o) (k:=k)
  refine⟨fun h=>?_,fun h=>?_⟩
  ·rw[jX,jX]
   by_cases e:s=k
   ·subst e;rw[aH,i2 (Nat.le_refl _)];omega
   ·have:=i1 (by omega);rw[aI (fun h=>e h.symm)];omega
  ·rw[jX,jX,i2 (by omega),aI (by omega)]
theorem gW{N:fb}{r:Nat}:∀{k},cM N r k=0→∀s,s<k→∀d,N s=some d→d.lo≠r∧d.hi≠r
 |0,_,s,hs,_,_=>by omega
 |k+1,h,s,hs,d,hd=>by
  rw[cM]at h
  by_cases e:s=k
  ·subst e
   rw[hd,dr]at h
   constructor
   ·intro h1;rw[if_pos h1]at h;omega
   ·intro h1;rw[if_pos h1]at h;omega
  ·exact gW (k:=k) (by omega) s (by omega) d hd
theorem oX{N:fb}{r:Nat}:∀{k},0<cM N r k→∃s d,s<k∧N s=some d∧(d.lo=r∨d.hi=r)
 |0,h=>by simp[cM]at h
 |k+1,h=>by
  rw[cM]at h
  by_cases hk:0<cM N r k
  ·obtain⟨s,d,h1,h2,h3⟩:=oX hk;exact⟨s,d,by omega,h2,h3⟩
  ·cases hd:N k with
   |none=>rw[hd]at h;simp[e1]at h;omega
   |some d=>
    refine⟨k,d,by omega,hd,?_⟩
    rw[hd,dr]at h
    by_cases h1:d.lo=r
    ·exact .inl h1
    ·by_cases h2:d.hi=r
     ·exact .inr h2
     ·rw[if_neg h1,if_neg h2]at h;omega
theorem xL{N:fb}{r:Nat}:∀k,cM N r k≤2*k
 |0=>Nat.le_refl _
 |k+1=>by
  have:=xL (N:=N) (r:=r) k
  rw[cM]
  have:e1 (N k) r≤2:=by
   cases N k with
   |none=>simp[e1]
   |some d=>rw[dr];split<;>split<;>omega
  omega
theorem xV(N:fb):∀k,((List.range k).filter fun r=>(N r).isSome).length=jX N k
 |0=>rfl
 |k+1=>by
  rw[List.range_succ,List.filter_append,List.length_append,xV N k,jX]
  congr 1
  cases h:N k<;>simp[h]
structure Kd where
 n:Nat
 cap:Nat
 used:Nat
 N:fb
 T:Nd→Option Nat
 us:List Nat
 ho:List Nat
def Kd.hold(K:Kd)(r:Nat):Nat:=K.ho.getD r 0
def Kd.use(K:Kd)(r:Nat):Nat:=K.us.getD r 0
structure g6(K:Kd)(S:Nat→Fn)(E:Nat→Prop)(P:Nat→Nat):Prop where
 two:∀{r d},K.N r=some d→2≤r∧r<K.cap
 var:∀{r d},K.N r=some d→d.v<K.n
 ne:∀{r d},K.N r=some d→d.lo≠d.hi
 lo:∀{r d},K.N r=some d→live K.N d.lo
 hi:∀{r d},K.N r=some d→live K.N d.hi
 int:Interp K.N S
 gn:∀d r,K.T d=some r↔K.N r=some d∧¬E r
 use:∀{r d},K.N r=some d→K.use r=cM K.N r K.cap+(if K.hold r=0 then 0 else 1)+P r
 len:K.us.length=K.ho.length
 fit:∀{r d},K.N r=some d→r<K.us.length
 held:∀r,K.hold r≠0→∃d,K.N r=some d
 mx:∀r,K.hold r≤65535
 room:K.used=2+jX K.N K.cap
 cap:K.used≤K.cap∧K.cap≤1048576
variable {K:Kd} {S:Nat→Fn} {E:Nat→Prop} {P:Nat→Nat}
theorem ik{N:fb}{r s:Nat}{d:Nd}(h:live N s):live (up N r (some d)) s:=by
 rcases h with h|⟨e,h⟩
 ·exact .inl h
 ·by_cases e2:s=r
  ·subst e2;exact .inr ⟨d,aH⟩
  ·exact .inr ⟨e,by rw[aI e2];exact h⟩
theorem tE{N:fb}{r s:Nat}(h:live N s)(hne:s≠r):live (up N r none) s:=by
 rcases h with h|⟨e,h⟩
 ·exact .inl h
 ·exact .inr ⟨e,by rw[aI hne];exact h⟩
def Pos(K:Kd):Prop:=∀r d,K.N r=some d→0<K.use r
theorem g6.less(h:g6 K S E P){r:Nat}{cP:List Nat}(hP:0<P r)(hl:cP.length=K.us.length)(h1:cP.getD r 0+1=K.use r)(h2:∀s,s≠r→cP.getD s 0=K.use s):
  g6 {K with us:=cP} S E (up P r (P r-1)) where
 two:=h.two
 var:=h.var
 ne:=h.ne
 lo:=h.lo
 hi:=h.hi
 int:=h.int
 gn:=h.gn
 use:=fun{s d} hd=>by
  have:=h.use hd
  show cP.getD s 0=cM K.N s K.cap+(if K.hold s=0 then 0 else 1)+up P r (P r-1) s
  by_cases e:s=r
  ·subst e
   rw[aH]
   omega
  ·rw[h2 s e,aI e];exact this
 len:=by show cP.length=_;rw[hl];exact h.len
 fit:=fun{s d} hd=>by show s<cP.length;rw[hl];exact h.fit hd
 held:=h.held
 mx:=h.mx
 room:=h.room
 cap:=h.cap
theorem g6.free(h:g6 K S E P){r:Nat}{d:Nd}(hd:K.N r=some d)(hE:¬E r)(h0:K.use r=0):
  g6 {K with N:=up K.N r none,T:=ng K.T d none,used:=K.used-1} S E (fun s=>P s+e1 (some d) s) where
 two:=fun{s e} hs=>by
  have hs':up K.N r none s=some e:=hs
  by_cases e2:s=r
  ·subst e2;rw[aH]at hs';cases hs'
  ·rw[aI e2]at hs';exact h.two hs'
 var:=fun{s e} hs=>by
  have hs':up K.N r none s=some e:=hs
  by_cases e2:s=r
  ·subst e2;rw[aH]at hs';cases hs'
  ·rw[aI e2]at hs';exact h.var hs'
 ne:=fun{s e} hs=>by
  have hs':up K.N r none s=some e:=hs
  by_cases e2:s=r
  ·subst e2;rw[aH]at hs';cases hs'
  ·rw[aI e2]at hs';exact h.ne hs'
 lo:=fun{s e} hs=>by
  have hs':up K.N r none s=some e:=hs
  by_cases e2:s=r
  ·subst e2;rw[aH]at hs';cases hs'
  ·rw[aI e2]at hs'
   have hu:=h.use hd
   exact tE (h.lo hs') (gW (by omega) s (h.two hs').2 e hs').1
 hi:=fun{s e} hs=>by
  have hs':up K.N r none s=some e:=hs
  by_cases e2:s=r
  ·subst e2;rw[aH]at hs';cases hs'
  ·rw[aI e2]at hs'
   have hu:=h.use hd
   exact tE (h.hi hs') (gW (by omega) s (h.two hs').2 e hs').2
 int:=⟨h.int.zero,h.int.one,fun{s e} hs x=>by
  have hs':up K.N r none s=some e:=hs
  by_cases e2:s=r
  ·subst e2;rw[aH]at hs';cases hs'
  ·rw[aI e2]at hs';exact h.int.node hs' x⟩
 gn:=fun e s=>by
  show ng K.T d none e=some s↔up K.N r none s=some e∧_
  by_cases e2:e=d
  ·subst e2
   rw[gJ]
   constructor
   ·intro h;cases h
   ·rintro⟨h1,h2⟩
    by_cases e3:s=r
    ·subst e3;rw[aH]at h1;cases h1
    ·rw[aI e3]at h1
     have a:=(h.gn e s).2 ⟨h1,h2⟩
     have b:=(h.gn e r).2 ⟨hd,hE⟩
     rw[a]at b;cases b;exact absurd rfl e3
  ·rw[mH e2,h.gn]
   by_cases e3:s=r
   ·subst e3
    rw[aH]
    constructor
    ·rintro⟨h1,_⟩;rw[hd]at h1;cases h1;exact absurd rfl e2
    ·rintro⟨h1,_⟩;cases h1
   ·rw[aI e3]
 use:=fun{s e} hs=>by
  have hs':up K.N r none s=some e:=hs
  by_cases e2:s=r
  ·subst e2;rw[aH]at hs';cases hs'
  ·rw[aI e2]at hs'
   have hu:=h.use hs'
   have he:=rO (N:=K.N) (s:=r) (r:=s) (k:=K.cap) (o:=none) (h.two hd).2
   show K.use s=cM (up K.N r none) s K.cap+(if K.hold s=0 then 0 else 1)+(P s+e1 (some d) s)
   rw[hd]at he
   have:e1 none s=0:=rfl
   omega
 len:=h.len
 fit:=fun{s e} hs=>by
  have hs':up K.N r none s=some e:=hs
  by_cases e2:s=r
  ·subst e2;rw[aH]at hs';cases hs'
  ·rw[aI e2]at hs';exact h.fit hs'
 held:=fun s hs=>by
  obtain⟨e,he⟩:=h.held s hs
  have hne:s≠r:=fun e2=>by
   subst e2
   have hu:=h.use hd
   have hs':K.hold s≠0:=hs
   rw[if_neg hs']at hu;omega
  exact⟨e,by show up K.N r none s=_;rw[aI hne];exact he⟩
 mx:=h.mx
 room:=by
  have:=(ob (N:=K.N) (s:=r) (o:=none) (k:=K.cap)).1 (h.two hd).2
  have hr:=h.room
  rw[hd]at this
  show K.used-1=2+jX (up K.N r none) K.cap
  simp at this;omega
 cap:=⟨by have:=h.cap.1;show K.used-1≤K.cap;omega,h.cap.2⟩
theorem g6.more(h:g6 K S E P){r:Nat}{cP:List Nat}(hl:cP.length=K.us.length)(h1:cP.getD r 0=K.use r+1)(h2:∀s,s≠r→cP.getD s 0=K.use s):
  g6 {K with us:=cP} S E (up P r (P r+1)) where
 two:=h.two
 var:=h.var
 ne:=h.ne
 lo:=h.lo
 hi:=h.hi
 int:=h.int
 gn:=h.gn
 use:=fun{s d} hd=>by
  have:=h.use hd
  show cP.getD s 0=cM K.N s K.cap+(if K.hold s=0 then 0 else 1)+up P r (P r+1) s
  by_cases e:s=r
  ·subst e
   rw[aH]
   omega
  ·rw[h2 s e,aI e];exact this
 len:=by show cP.length=_;rw[hl];exact h.len
 fit:=fun{s d} hd=>by show s<cP.length;rw[hl];exact h.fit hd
 held:=h.held
 mx:=h.mx
 room:=h.room
 cap:=h.cap
end aU
namespace aU
open af
variable {K:Kd} {S:Nat→Fn} {E:Nat→Prop} {P:Nat→Nat}
def ite(S:Nat→Fn)(d:Nd):Fn:=fun x=>if x.testBit d.v then S d.hi x else S d.lo x
theorem eJ{N:fb}{r s:Nat}(h:live N s)(h2:2≤r)(hr:N r=none):s≠r:=fun e=>by
 subst e
 rcases h with h|⟨d,h⟩
 ·omega
 ·rw[hr]at h;cases h
theorem g6.lay(h:g6 K S E P){r:Nat}{d:Nd}{cP bE:List Nat}(hr:K.N r=none)(h2:2≤r∧r<K.cap)(hv:d.v<K.n)(hne:d.lo≠d.hi)(hlo:live K.N d.lo)(hhi:live K.N d.hi)(hT:K.T d=none)(hE:¬E r)
 (hP:P r=0)(hro:K.used<K.cap)(hl:cP.length=bE.length)(hf:r<cP.length∧K.us.length≤cP.length)(u0:cP.getD r 0=0)(u1:∀s,2≤s→s≠r→cP.getD s 0=K.use s+e1 (some d) s)(o0:bE.getD r 0=0)(o1:∀s,s≠r→bE.getD s 0=K.hold s):
  g6 {K with N:=up K.N r (some d),T:=ng K.T d (some r),used:=K.used+1,us:=cP,ho:=bE} (up S r (ite S d)) E P where
 two:=fun{s e} hs=>by
  have hs':up K.N r (some d) s=some e:=hs
  by_cases e2:s=r
  ·subst e2;exact h2
  ·rw[aI e2]at hs';exact h.two hs'
 var:=fun{s e} hs=>by
  have hs':up K.N r (some d) s=some e:=hs
  by_cases e2:s=r
  ·subst e2;rw[aH]at hs';cases hs';exact hv
  ·rw[aI e2]at hs';exact h.var hs'
 ne:=fun{s e} hs=>by
  have hs':up K.N r (some d) s=some e:=hs
  by_cases e2:s=r
  ·subst e2;rw[aH]at hs';cases hs';exact hne
  ·rw[aI e2]at hs';exact h.ne hs'
 lo:=fun{s e} hs=>by
  have hs':up K.N r (some d) s=some e:=hs
  by_cases e2:s=r
  ·subst e2;rw[aH]at hs';cases hs';exact ik hlo
  ·rw[aI e2]at hs';exact ik (h.lo hs')
 hi:=fun{s e} hs=>by
  have hs':up K.N r (some d) s=some e:=hs
  by_cases e2:s=r
  ·subst e2;rw[aH]at hs';cases hs';exact ik hhi
  ·rw[aI e2]at hs';exact ik (h.hi hs')
 int:=⟨fun x=>by rw[aI (by omega)];exact h.int.zero x,fun x=>by rw[aI (by omega)];exact h.int.one x,fun{s e} hs x=>by
  have hs':up K.N r (some d) s=some e:=hs
  by_cases e2:s=r
  ·subst e2;rw[aH]at hs';cases hs'
   rw[aH,aI (eJ hlo h2.1 hr),aI (eJ hhi h2.1 hr)];rfl
  ·rw[aI e2]at hs'
   rw[aI e2,aI (eJ (h.lo hs') h2.1 hr),aI (eJ (h.hi hs') h2.1 hr)]
   exact h.int.node hs' x⟩
 gn:=fun e s=>by
  show ng K.T d (some r) e=some s↔up K.N r (some d) s=some e∧_
  by_cases e2:e=d
  ·subst e2
   rw[gJ]
   constructor
   ·intro h;cases h;exact⟨aH,hE⟩
   ·rintro⟨h1,nq⟩
    by_cases e3:s=r
    ·rw[e3]
    ·rw[aI e3]at h1
     have a:=(h.gn e s).2 ⟨h1,nq⟩
     rw[hT]at a;cases a
  ·rw[mH e2,h.gn]
   by_cases e3:s=r
   ·subst e3
    rw[aH,hr]
    constructor
    ·rintro⟨h1,_⟩;cases h1
    ·rintro⟨h1,_⟩;cases h1;exact absurd rfl e2
   ·rw[aI e3]
 use:=fun{s e} hs=>by
  have hs':up K.N r (some d) s=some e:=hs
  have he:=rO (N:=K.N) (s:=r) (r:=s) (k:=K.cap) (o:=some d) h2.2
  rw[hr]at he
  have h0:e1 none s=0:=rfl
  show cP.getD s 0=cM (up K.N r (some d)) s K.cap+(if bE.getD s 0=0 then 0 else 1)+P s
  by_cases e2:s=r
  ·subst e2
   have hz:cM K.N s K.cap=0:=by
    refine Nat.eq_zero_of_not_pos fun hp=>?_
    obtain⟨t,e',_,ht,hc⟩:=oX hp
    have zc:=eJ (h.lo ht) h2.1 hr
    have vD:=eJ (h.hi ht) h2.1 hr
    rcases hc with hc|hc
    ·exact zc hc
    ·exact vD hc
   have hd0:e1 (some d) s=0:=by
    rw[dr,if_neg (eJ hlo h2.1 hr),if_neg (eJ hhi h2.1 hr)]
   rw[u0,o0,if_pos rfl];omega
  ·rw[aI e2]at hs'
   have hu:=h.use hs'
   have h3:bE.getD s 0=K.hold s:=o1 s e2
   rw[u1 s (h.two hs').1 e2,h3];omega
 len:=hl
 fit:=fun{s e} hs=>by
  have hs':up K.N r (some d) s=some e:=hs
  show s<cP.length
  by_cases e2:s=r
  ·subst e2;exact hf.1
  ·rw[aI e2]at hs';exact Nat.lt_of_lt_of_le (h.fit hs') hf.2
 held:=fun s hs=>by
  have hs':bE.getD s 0≠0:=hs
  by_cases e2:s=r
  ·subst e2;exact⟨d,aH⟩
  ·rw[o1 s e2]at hs'
   obtain⟨e,he⟩:=h.held s hs'
   exact⟨e,by show up K.N r (some d) s=_;rw[aI e2];exact he⟩
 mx:=fun s=>by
  show bE.getD s 0≤65535
  by_cases e2:s=r
  ·subst e2;rw[o0];decide
  ·rw[o1 s e2];exact h.mx s
 room:=by
  have:=(ob (N:=K.N) (s:=r) (o:=some d) (k:=K.cap)).1 h2.2
  have hr':=h.room
  rw[hr]at this
  show K.used+1=2+jX (up K.N r (some d)) K.cap
  simp at this;omega
 cap:=⟨by show K.used+1≤K.cap;omega,h.cap.2⟩
theorem g6.Uq(h:g6 K S E P){r:Nat}{d:Nd}(hd:K.N r=some d)(hE:¬E r):g6 {K with T:=ng K.T d none} S (fun s=>E s∨s=r) P where
 two:=h.two
 var:=h.var
 ne:=h.ne
 lo:=h.lo
 hi:=h.hi
 int:=h.int
 gn:=fun e s=>by
  show ng K.T d none e=some s↔_
  by_cases e2:e=d
  ·subst e2
   rw[gJ]
   constructor
   ·intro h;cases h
   ·rintro⟨h1,h2⟩
    have a:=(h.gn e s).2 ⟨h1,fun x=>h2 (.inl x)⟩
    have b:=(h.gn e r).2 ⟨hd,hE⟩
    rw[a]at b;cases b;exact absurd (.inr rfl) h2
  ·rw[mH e2,h.gn]
   constructor
   ·rintro⟨h1,h2⟩
    refine⟨h1,fun x=>?_⟩
    rcases x with x|rfl
    ·exact h2 x
    ·have u4:K.N s=some e:=h1
     rw[hd]at u4;cases u4;exact e2 rfl
   ·rintro⟨h1,h2⟩;exact⟨h1,fun x=>h2 (.inl x)⟩
 use:=h.use
 len:=h.len
 fit:=h.fit
 held:=h.held
 mx:=h.mx
 room:=h.room
 cap:=h.cap
theorem g6.pT(h:g6 K S E P){r:Nat}{d d':Nd}{P':Nat→Nat}(hd:K.N r=some d)(hE:E r)(hv:d'.v<K.n)(hne:d'.lo≠d'.hi)(hlo:live K.N d'.lo)(hhi:live K.N d'.hi)(hT:K.T d'=none)(hS:∀x,S r x=ite S d' x)
 (hP:∀s,2≤s→P' s+e1 (some d') s=P s+e1 (some d) s):g6 {K with N:=up K.N r (some d'),T:=ng K.T d' (some r)} S (fun s=>E s∧s≠r) P' where
 two:=fun{s e} hs=>by
  have hs':up K.N r (some d') s=some e:=hs
  by_cases e2:s=r
  ·subst e2;exact h.two hd
  ·rw[aI e2]at hs';exact h.two hs'
 var:=fun{s e} hs=>by
  have hs':up K.N r (some d') s=some e:=hs
  by_cases e2:s=r
  ·subst e2;rw[aH]at hs';cases hs';exact hv
  ·rw[aI e2]at hs';exact h.var hs'
 ne:=fun{s e} hs=>by
  have hs':up K.N r (some d') s=some e:=hs
  by_cases e2:s=r
  ·subst e2;rw[aH]at hs';cases hs';exact hne
  ·rw[aI e2]at hs';exact h.ne hs'
 lo:=fun{s e} hs=>by
  have hs':up K.N r (some d') s=some e:=hs
  by_cases e2:s=r
  ·subst e2;rw[aH]at hs';cases hs';exact ik hlo
  ·rw[aI e2]at hs';exact ik (h.lo hs')
 hi:=fun{s e} hs=>by
  have hs':up K.N r (some d') s=some e:=hs
  by_cases e2:s=r
  ·subst e2;rw[aH]at hs';cases hs';exact ik hhi
  ·rw[aI e2]at hs';exact ik (h.hi hs')
 int:=⟨h.int.zero,h.int.one,fun{s e} hs x=>by
  have hs':up K.N r (some d') s=some e:=hs
  by_cases e2:s=r
  ·subst e2;rw[aH]at hs';cases hs';exact hS x
  ·rw[aI e2]at hs';exact h.int.node hs' x⟩
 gn:=fun e s=>by
  show ng K.T d' (some r) e=some s↔up K.N r (some d') s=some e∧¬(E s∧s≠r)
  by_cases e2:e=d'
  ·subst e2
   rw[gJ]
   constructor
   ·intro h;cases h;exact⟨aH,fun x=>x.2 rfl⟩
   ·rintro⟨h1,nq⟩
    by_cases e3:s=r
    ·rw[e3]
    ·rw[aI e3]at h1
     have a:=(h.gn e s).2 ⟨h1,fun x=>nq ⟨x,e3⟩⟩
     rw[hT]at a;cases a
  ·rw[mH e2,h.gn]
   by_cases e3:s=r
   ·subst e3
    rw[aH]
    constructor
    ·rintro⟨_,h1⟩;exact absurd hE h1
    ·rintro⟨h1,_⟩;cases h1;exact absurd rfl e2
   ·rw[aI e3]
    constructor
    ·rintro⟨h1,h2⟩;exact⟨h1,fun x=>h2 x.1⟩
    ·rintro⟨h1,h2⟩;exact⟨h1,fun x=>h2 ⟨x,e3⟩⟩
 use:=fun{s e} hs=>by
  have hs':up K.N r (some d') s=some e:=hs
  have he:=rO (N:=K.N) (s:=r) (r:=s) (k:=K.cap) (o:=some d') (h.two hd).2
  rw[hd]at he
  show K.use s=cM (up K.N r (some d')) s K.cap+(if K.hold s=0 then 0 else 1)+P' s
  by_cases e2:s=r
  ·subst e2
   have hu:=h.use hd
   have:=hP s (h.two hd).1
   omega
  ·rw[aI e2]at hs'
   have hu:=h.use hs'
   have:=hP s (h.two hs').1
   omega
 len:=h.len
 fit:=fun{s e} hs=>by
  have hs':up K.N r (some d') s=some e:=hs
  by_cases e2:s=r
  ·subst e2;exact h.fit hd
  ·rw[aI e2]at hs';exact h.fit hs'
 held:=fun s hs=>by
  obtain⟨e,he⟩:=h.held s hs
  by_cases e2:s=r
  ·subst e2;exact⟨d',aH⟩
  ·exact⟨e,by show up K.N r (some d') s=_;rw[aI e2];exact he⟩
 mx:=h.mx
 room:=by
  have:=(ob (N:=K.N) (s:=r) (o:=some d') (k:=K.cap)).1 (h.two hd).2
  have hr':=h.room
  rw[hd]at this
  show K.used=2+jX (up K.N r (some d')) K.cap
  simp at this;omega
 cap:=h.cap
theorem g6.keep(h:g6 K S E P){r:Nat}{cP bE:List Nat}(hr:∃d,K.N r=some d)(hm:K.hold r<65535)(hl:cP.length=K.us.length∧bE.length=K.ho.length)(o0:bE.getD r 0=K.hold r+1)(o1:∀s,s≠r→bE.getD s 0=K.hold s)
 (u0:cP.getD r 0=K.use r+(if K.hold r=0 then 1 else 0))(u1:∀s,s≠r→cP.getD s 0=K.use s):g6 {K with us:=cP,ho:=bE} S E P where
 two:=h.two
 var:=h.var
 ne:=h.ne
 lo:=h.lo
 hi:=h.hi
 int:=h.int
 gn:=h.gn
 use:=fun{s e} hs=>by
  have hu:=h.use hs
  show cP.getD s 0=cM K.N s K.cap+(if bE.getD s 0=0 then 0 else 1)+P s
  by_cases e2:s=r
  ·subst e2
   rw[u0,o0,if_neg (by omega:¬K.hold s+1=0)]
   by_cases e3:K.hold s=0
   ·rw[if_pos e3]at hu⊢;omega
   ·rw[if_neg e3]at hu⊢;omega
  ·rw[u1 s e2,o1 s e2];exact hu
 len:=by show cP.length=bE.length;rw[hl.1,hl.2];exact h.len
 fit:=fun{s e} hs=>by show s<cP.length;rw[hl.1];exact h.fit hs
 held:=fun s hs=>by
  have hs':bE.getD s 0≠0:=hs
  by_cases e2:s=r
  ·subst e2;exact hr
  ·rw[o1 s e2]at hs';exact h.held s hs'
 mx:=fun s=>by
  show bE.getD s 0≤65535
  by_cases e2:s=r
  ·subst e2;rw[o0];omega
  ·rw[o1 s e2];exact h.mx s
 room:=h.room
 cap:=h.cap
theorem g6.drop(h:g6 K S E P){r:Nat}{bE:List Nat}(hr:0<K.hold r)(hl:bE.length=K.ho.length)(o0:bE.getD r 0+1=K.hold r)(o1:∀s,s≠r→bE.getD s 0=K.hold s):
  g6 {K with ho:=bE} S E (if K.hold r=1 then up P r (P r+1)else P) where
 two:=h.two
 var:=h.var
 ne:=h.ne
 lo:=h.lo
 hi:=h.hi
 int:=h.int
 gn:=h.gn
 use:=fun{s e} hs=>by
  have hu:=h.use hs
  show K.use s=cM K.N s K.cap+(if bE.getD s 0=0 then 0 else 1)+(if K.hold r=1 then up P r (P r+1)else P) s
  by_cases e2:s=r
  ·subst e2
   rw[if_neg (by omega:¬K.hold s=0)]at hu
   by_cases e3:K.hold s=1
   ·rw[if_pos e3,aH,if_pos (by omega)];omega
   ·rw[if_neg e3,if_neg (by omega)];omega
  ·rw[o1 s e2]
   by_cases e3:K.hold r=1
   ·rw[if_pos e3,aI e2];exact hu
   ·rw[if_neg e3];exact hu
 len:=by show K.us.length=bE.length;rw[hl];exact h.len
 fit:=h.fit
 held:=fun s hs=>by
  have hs':bE.getD s 0≠0:=hs
  by_cases e2:s=r
  ·subst e2;exact h.held s (by omega)
  ·rw[o1 s e2]at hs';exact h.held s hs'
 mx:=fun s=>by
  show bE.getD s 0≤65535
  have:=h.mx r
  by_cases e2:s=r
  ·subst e2;omega
  ·rw[o1 s e2];exact h.mx s
 room:=h.room
 cap:=h.cap
theorem g6.congr(h:g6 K S E P){E':Nat→Prop}{P':Nat→Nat}(hE:∀s,E s↔E' s)(hP:∀s,2≤s→P s=P' s):g6 K S E' P' where
 two:=h.two
 var:=h.var
 ne:=h.ne
 lo:=h.lo
 hi:=h.hi
 int:=h.int
 gn:=fun d r=>by rw[h.gn,hE]
 use:=fun{s e} hs=>by rw[←hP s (h.two hs).1];exact h.use hs
 len:=h.len
 fit:=h.fit
 held:=h.held
 mx:=h.mx
 room:=h.room
 cap:=h.cap
def fY:Nat→Prop:=fun _=>False
def zero':Nat→Nat:=fun _=>0
structure Ok(K:Kd)(S:Nat→Fn)(ak:Nat→Nat):Prop where
 mid:g6 K S fY zero'
 pos:Pos K
 lv:qj K.n ak
 wf:WF K.n ak K.N
theorem g6.uq(h:g6 K S fY P){r r':Nat}{d:Nd}(h1:K.N r=some d)(h2:K.N r'=some d):r=r':=by
 have a:=(h.gn d r).2 ⟨h1,fun x=>x⟩
 have b:=(h.gn d r').2 ⟨h2,fun x=>x⟩
 rw[a]at b;cases b;rfl
theorem g6.wf(h:g6 K S fY P){ak:Nat→Nat}(hl:∀{r d},K.N r=some d→ak d.v<dep K.n ak K.N d.lo∧ak d.v<dep K.n ak K.N d.hi):WF K.n ak K.N:=
 ⟨fun hd=>(h.two hd).1,h.var,h.ne,fun hd=>⟨h.lo hd,(hl hd).1⟩,fun hd=>⟨h.hi hd,(hl hd).2⟩,h.uq⟩
theorem Ok.reach{ak:Nat→Nat}(h:Ok K S ak):Reach K.N (fun r=>K.hold r≠0):=fun r d hd=>by
 have hu:=h.mid.use hd
 have hp:=h.pos r d hd
 by_cases e:K.hold r=0
 ·rw[if_pos e]at hu
  have:zero' r=0:=rfl
  obtain⟨s,e',_,h1,h2⟩:=oX (N:=K.N) (r:=r) (k:=K.cap) (by omega)
  exact .inr ⟨s,e',h1,h2⟩
 ·exact .inl e
theorem Ok.dom{ak:Nat→Nat}(h:Ok K S ak):∃dom:List Nat,dom.Nodup∧dom.length+2=K.used∧∀r,r∈dom↔∃d,K.N r=some d:=by
 refine⟨(List.range K.cap).filter fun r=>(K.N r).isSome,List.nodup_range.filter _,by rw[xV,h.mid.room];omega,fun r=>?_⟩
 rw[List.mem_filter,List.mem_range,Option.isSome_iff_exists]
 exact⟨fun h=>h.2,fun⟨d,hd⟩=>⟨(h.mid.two hd).2,d,hd⟩⟩
def Kd.held(K:Kd)(S:Nat→Fn):Fn→Prop:=Fs S fun r=>K.hold r≠0
theorem Ok.size{ak:Nat→Nat}{ord:List Nat}(h:Ok K S ak)(ho:Ord K.n ak ord):ou (bC K.n ord (K.held S)) (K.used-2):=by
 obtain⟨dom,h1,h2,h3⟩:=h.dom
 have hc:=uc h.wf h.lv h.mid.int h1 h3
 rw[show dom.length=K.used-2 by omega]at hc
 refine hc.congr fun g=>?_
 exact(kz h.wf h.lv ho h.mid.int (fun r hr=>.inr (h.mid.held r hr)) h.reach g).symm
end aU
