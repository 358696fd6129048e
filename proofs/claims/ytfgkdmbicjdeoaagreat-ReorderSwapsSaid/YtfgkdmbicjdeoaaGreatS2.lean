import Derived.Test.YtfgkdmbicjdeoaaGreatS1
import Derived.ChangeKeysEq
import Derived.Laws.StructEq
import Derived.Defers
import Derived.Test.YtfgkdmbicjdeoaaGreatProg
set_option linter.unusedVariables false
set_option linter.unusedSimpArgs false
set_option linter.unusedSectionVars false
namespace aj
def gA(w:Nat):List UInt8:=(List.range 8).map fun i=>UInt8.ofNat (w>>>(8*i))
def gG(ws:List Nat):List UInt8:=ws.flatMap gA
theorem fE(w:Nat):(gA w).length=8:=by simp[gA]
theorem qZ:∀l:List Nat,(gG l).length=8*l.length
 | []=>rfl
 |x::l=>by rw[gG,List.flatMap_cons,List.length_append,fE];have:=qZ l;unfold gG at this;rw[this,List.length_cons];omega
theorem Cb{a b:Nat}(ha:a<18446744073709551616)(hb:b<18446744073709551616)(h:gA a=gA b):a=b:=by
 apply Nat.eq_of_testBit_eq
 intro j
 by_cases hj:j<64
 ·have hi:j/8<8:=by omega
  have h1:=congrArg (fun l=>l[j/8]?) h
  simp only[gA,List.getElem?_map,List.getElem?_range hi,Option.map_some,Option.some.injEq]at h1
  have h2:=congrArg UInt8.toNat h1
  simp only[UInt8.toNat_ofNat']at h2
  have h3:=congrArg (fun x=>x.testBit (j%8)) h2
  simp only[Nat.testBit_mod_two_pow,Nat.testBit_shiftRight]at h3
  rw[show 8*(j/8)+j%8=j by omega]at h3
  have:decide (j%8<8)=true:=by simp;omega
  simpa[this]using h3
 ·rw[Nat.testBit_lt_two_pow (Nat.lt_of_lt_of_le ha (Nat.pow_le_pow_right (n:=2) (by decide) (by omega:64≤j))),Nat.testBit_lt_two_pow (Nat.lt_of_lt_of_le hb (Nat.pow_le_pow_right (n:=2) (by decide) (by omega:64≤j)))]
theorem y8:∀{a b:List Nat},(∀w∈a,w<18446744073709551616)→(∀w∈b,w<18446744073709551616)→gG a=gG b→a=b
 | [],[],_,_,_=>rfl
 | [],y::b,_,_,h=>by have:=congrArg List.length h;simp[gG,fE]at this;omega
 |x::a,[],_,_,h=>by have:=congrArg List.length h;simp[gG,fE]at this
 |x::a,y::b,ha,hb,h=>by
  simp only[gG,List.flatMap_cons]at h
  obtain⟨h1,h2⟩:=List.append_inj h (by rw[fE,fE])
  rw[Cb (ha x (by simp)) (hb y (by simp)) h1,y8 (fun w hw=>ha w (by simp[hw])) (fun w hw=>hb w (by simp[hw])) h2]
theorem cw.key_inj{n:Nat}{a b:List Nat}(ha:cw n a)(hb:cw n b)(h:gG a=gG b):a=b:=y8 (fun w hw=>ha.lt hw) (fun w hw=>hb.lt hw) h
abbrev Fs:=List (List Nat)
def add(l:Fs)(t:List Nat):Fs:=if t∈l then l else l++[t]
def dO(L:Fs):Fs:=L.foldl add []
def given(n:Nat)(l:Fs)(v:Nat):Fs:=l.foldl (fun acc t=>add (add acc (dV n t v false)) (dV n t v true)) []
def nodes(n:Nat)(l:Fs)(v:Nat):Fs:=l.filter fun t=>dep n t v
def st(n:Nat)(L:Fs)(A:Nat):Nat→Fs
 |0=>dO L
 |k+1=>if A.testBit k then given n (st n L A k) k else st n L A k
def lvl(n:Nat)(L:Fs)(A v:Nat):Nat:=(nodes n (st n L A n) v).length
theorem rY{l:Fs}{t x:List Nat}:x∈add l t↔x∈l∨x=t:=by
 unfold add
 split
 ·constructor
  ·exact .inl
  ·rintro(h|rfl)<;>assumption
 ·simp
theorem qK{l:Fs}{t:List Nat}(h:l.Nodup):(add l t).Nodup:=by
 unfold add
 split
 ·exact h
 ·rename_i hn
  rw[List.nodup_append]
  exact⟨h,by simp,fun a ha b hb=>by simp at hb;subst hb;rintro rfl;exact hn ha⟩
theorem jM{α:Type}(f:α→Fs→Fs)(g:α→List Nat→Prop)(hf:∀a l x,x∈f a l↔x∈l∨g a x):∀(L:List α) (acc:Fs) (x:List Nat),x∈L.foldl (fun acc a=>f a acc) acc↔x∈acc∨∃a∈L,g a x
 | [],acc,x=>by simp
 |a::L,acc,x=>by
  rw[List.foldl_cons,jM f g hf L,hf]
  simp only[List.mem_cons,exists_eq_or_imp,or_assoc]
theorem ik{α:Type}(f:α→Fs→Fs)(hf:∀a l,l.Nodup→(f a l).Nodup):∀(L:List α) (acc:Fs),acc.Nodup→(L.foldl (fun acc a=>f a acc) acc).Nodup
 | [],acc,h=>h
 |a::L,acc,h=>ik f hf L _ (hf a acc h)
theorem cU{L:Fs}{x:List Nat}:x∈dO L↔x∈L:=by
 unfold dO
 have:=jM (fun a l=>add l a) (fun a x=>x=a) (fun a l x=>rY) L [] x
 rw[this];simp
theorem iI(L:Fs):(dO L).Nodup:=ik (fun a l=>add l a) (fun a l h=>qK h) L [] (by simp)
theorem bU{n v:Nat}{l:Fs}{x:List Nat}:x∈given n l v↔∃t∈l,∃b,x=dV n t v b:=by
 unfold given
 have:=jM (fun t acc=>add (add acc (dV n t v false)) (dV n t v true)) (fun t x=>∃b,x=dV n t v b) (fun t l x=>by
  rw[rY,rY]
  constructor
  ·rintro((h|h)|h)
   ·exact .inl h
   ·exact .inr ⟨false,h⟩
   ·exact .inr ⟨true,h⟩
  ·rintro(h|⟨b,h⟩)
   ·exact .inl (.inl h)
   ·cases b
    ·exact .inl (.inr h)
    ·exact .inr h) l [] x
 rw[this];simp
theorem mz(n:Nat)(l:Fs)(v:Nat):(given n l v).Nodup:=ik (fun t acc=>add (add acc (dV n t v false)) (dV n t v true)) (fun a l h=>qK (qK h)) l [] (by simp)
theorem lZ(n:Nat)(L:Fs)(A:Nat):∀k,(st n L A k).Nodup
 |0=>iI L
 |k+1=>by
  rw[st];split
  ·exact mz _ _ _
  ·exact lZ n L A k
theorem iL{a b:Fs}(ha:a.Nodup)(hb:b.Nodup)(h:∀x,x∈a↔x∈b):a.Perm b:=(List.perm_ext_iff_of_nodup ha hb).2 h
theorem kS{n v:Nat}{a b:Fs}(h:a.Perm b):(nodes n a v).length=(nodes n b v).length:=(h.filter _).length_eq
theorem A2{n:Nat}{L:Fs}{A:Nat}(hL:∀t∈L,cw n t)(hn:n≤16):∀k,∀t∈st n L A k,cw n t
 |0,t,h=>hL t (cU.1 h)
 |k+1,t,h=>by
  rw[st]at h
  split at h
  ·obtain⟨u,_,b,rfl⟩:=bU.1 h;exact cF hn
  ·exact A2 hL hn k t h
theorem fT(l:Fs)(t:List Nat):(add l t).length≤l.length+1:=by unfold add;split<;>simp
theorem dS{α:Type}(f:α→Fs→Fs)(c:Nat)(hf:∀a l,(f a l).length≤l.length+c):∀(L:List α) (acc:Fs),(L.foldl (fun acc a=>f a acc) acc).length≤acc.length+c*L.length
 | [],acc=>by simp
 |a::L,acc=>by
  have h1:=dS f c hf L (f a acc)
  have h2:=hf a acc
  rw[List.foldl_cons,List.length_cons,Nat.mul_succ];omega
theorem qd(n:Nat)(L:Fs)(A:Nat):∀k,(st n L A k).length≤2^k*L.length
 |0=>by have:=dS (fun a l=>add l a) 1 (fun a l=>fT l a) L [];simpa[st,dO]using this
 |k+1=>by
  have ih:=qd n L A k
  rw[st,Nat.pow_succ]
  split
  ·have h:=dS (fun t acc=>add (add acc (dV n t k false)) (dV n t k true)) 2 (fun a l=>by have h1:=fT (add l (dV n a k false)) (dV n a k true);have h2:=fT l (dV n a k false);omega) (st n L A k) []
   have h':(given n (st n L A k) k).length≤2*(st n L A k).length:=by simpa[given]using h
   have:2*(st n L A k).length≤2*(2^k*L.length):=Nat.mul_le_mul_left _ ih
   rw[Nat.mul_comm (2^k) 2,Nat.mul_assoc];omega
  ·have:2^k*L.length≤2^k*2*L.length:=Nat.mul_le_mul_right _ (by omega)
   omega
def jY(n:Nat)(ws:List Nat):Nat→Nat
 |0=>0
 |v+1=>if dep n ws v then jY n ws v|||2^v else jY n ws v
def n5(n:Nat)(ws:List Nat):Nat:=jY n ws n
theorem gV(n:Nat)(ws:List Nat)(u:Nat):∀k,(jY n ws k).testBit u=(decide (u<k) &&dep n ws u)
 |0=>by simp[jY]
 |v+1=>by
  rw[jY]
  by_cases e:u=v
  ·subst e
   split
   ·rename_i h;rw[Nat.testBit_or,Nat.testBit_two_pow_self];simp[h]
   ·rename_i h;rw[gV n ws u u];simp[h]
  ·have h1:decide (u<v+1)=decide (u<v):=by simp;omega
   rw[h1]
   split
   ·rw[Nat.testBit_or,Nat.testBit_two_pow,gV n ws u v];simp[Ne.symm e]
   ·exact gV n ws u v
theorem lY(n:Nat)(ws:List Nat):∀k,jY n ws k<2^k
 |0=>by simp[jY]
 |v+1=>by
  have h1:=lY n ws v
  have h2:2^v<2^(v+1):=Nat.pow_lt_pow_right (by decide) (by omega)
  rw[jY];split
  ·exact Nat.or_lt_two_pow (by omega) h2
  ·omega
theorem r7(A u:Nat):(A>>>u&&&1=1)↔A.testBit u=true:=by
 rw[eW,Nat.testBit_shiftRight,Nat.add_zero];cases A.testBit u<;>simp
theorem r8(A u:Nat):((A>>>u)%2=1)↔A.testBit u=true:=by
 rw[←r7,Nat.and_one_is_mod]
def eR(bs:List Bool)(i:Nat):Nat→Nat
 |0=>0
 |j+1=>if bs.getD (64*i+j) false then eR bs i j|||2^j else eR bs i j
theorem c4(bs:List Bool)(i k:Nat):∀J,(eR bs i J).testBit k=(decide (k<J) &&bs.getD (64*i+k) false)
 |0=>by simp[eR]
 |j+1=>by
  rw[eR]
  by_cases e:k=j
  ·subst e
   split
   ·rename_i h;rw[Nat.testBit_or,Nat.testBit_two_pow_self,h];simp
   ·rename_i h;rw[c4 bs i k k];simp at h⊢;exact h
  ·have h1:decide (k<j+1)=decide (k<j):=by simp;omega
   rw[h1]
   split
   ·rw[Nat.testBit_or,Nat.testBit_two_pow,c4 bs i k j];simp[Ne.symm e]
   ·exact c4 bs i k j
theorem oS(bs:List Bool)(i:Nat):∀J,eR bs i J<2^J
 |0=>by simp[eR]
 |j+1=>by
  have h1:=oS bs i j
  have h2:2^j<2^(j+1):=Nat.pow_lt_pow_right (by decide) (by omega)
  rw[eR];split
  ·exact Nat.or_lt_two_pow (by omega) h2
  ·omega
theorem vk{bs:List Bool}{i j:Nat}(h:bs.getD (64*i+j) false=true):eR bs i j+2^j=eR bs i (j+1):=by
 rw[eR,if_pos h]
 have:=Nat.two_pow_add_eq_or_of_lt (oS bs i j) 1
 rw[Nat.mul_one]at this
 rw[Nat.or_comm,←this,Nat.add_comm]
def g9(n:Nat)(bs:List Bool):List Nat:=(List.range (wN n)).map fun i=>eR bs i 64
theorem Ht(v:Nat):eR ((List.range 64).map fun x=>x.testBit v) 0 64=mask v:=by
 apply Nat.eq_of_testBit_eq;intro k
 rw[c4,dy]
 by_cases hk:k<64
 ·simp[hk]
 ·simp[hk]
theorem BP{n v i:Nat}{ws:List Nat}{b:Bool}(hf:cw n ws)(hv:v<n)(hi:i<wN n):dA ws v b i&&&cj n=dA ws v b i:=by
 have JB:∀k,ws.getD k 0<2^64:=fun k=>by
  rw[List.getD_eq_getElem?_getD]
  rcases Nat.lt_or_ge k ws.length with h|h
  ·rw[List.getElem?_eq_getElem h];exact hf.lt (List.getElem_mem h)
  ·rw[List.getElem?_eq_none h];decide
 have hlt:dA ws v b i<2^64:=by
  unfold dA
  split
  ·exact JB _
  ·split
   ·exact Nat.or_lt_two_pow (Nat.lt_of_le_of_lt Nat.and_le_left (JB i)) (Nat.lt_of_le_of_lt (Nat.shiftRight_le _ _) (Nat.lt_of_le_of_lt Nat.and_le_left (JB i)))
   ·exact Nat.or_lt_two_pow (Nat.lt_of_le_of_lt (Go.Sx.jI _ _) (JB i)) (Nat.mod_lt _ (by decide))
 by_cases h6:6≤n
 ·exact mM (by unfold cj;rw[if_pos h6];have:(2:Nat)^64=18446744073709551616:=rfl;omega)
 ·have hv6:¬6≤v:=by omega
  apply Nat.eq_of_testBit_eq;intro j
  rw[Nat.testBit_and,e9,if_neg h6]
  by_cases hj:j<2^n
  ·simp[hj]
  ·have hz:(dA ws v b i).testBit j=false:=by
    have oz:ws.getD i 0≤cj n:=by
     rw[List.getD_eq_getElem?_getD,List.getElem?_eq_getElem (by rw[hf.len];exact hi)];exact hf.full _ (List.getElem_mem _)
    have tA:∀k,2^n≤k→(ws.getD i 0).testBit k=false:=fun k hk=>by
     have:=congrArg (fun x=>x.testBit k) (mM oz)
     simp only[Nat.testBit_and,e9,if_neg h6]at this
     rw[←this];simp;omega
    unfold dA
    rw[if_neg hv6]
    cases b
    ·simp only[Bool.false_eq_true,if_false]
     rw[show(18446744073709551616:Nat)=2^64 by rfl,Nat.testBit_or,Nat.testBit_mod_two_pow,Nat.testBit_shiftLeft,Go.Sx.cW,Go.Sx.cW,tA j (by omega),dy,dy]
     by_cases hle:2^v≤j
     ·by_cases FV:j<64
      ·obtain⟨s1,s2⟩:=A3 ⟨v,by omega⟩ ⟨j,FV⟩
       simp only at s1 s2
       cases hb:j.testBit v
       ·have:=(s2 hb).2.2.2.2 hle
        have h3:j-2^v<64:=Nat.lt_of_le_of_lt (Nat.sub_le _ _) FV
        simp[this,h3]
       ·have h5:=s1 hb
        have:¬(j-2^v<2^n):=fun hlt=>by
         have h6':=fc (b:=true) hlt hv
         have h7:=(A3 ⟨v,by omega⟩ ⟨j-2^v,Nat.lt_of_le_of_lt (Nat.sub_le _ _) FV⟩).2 h5.2.2.2.2
         simp only at h7
         rw[h7.1]at h6';omega
        rw[tA (j-2^v) (by omega)];simp
      ·simp[FV]
     ·simp[hle]
    ·simp only[if_true]
     rw[Nat.testBit_or,Nat.testBit_and,Nat.testBit_shiftRight,Nat.testBit_and,tA j (Nat.le_of_not_lt hj),tA (2^v+j) (Nat.le_trans (Nat.le_of_not_lt hj) (Nat.le_add_left _ _))];simp
   rw[hz];rfl
theorem KI(i k:Nat):i-i/2^k%2*2^k=aI i k false∧(i-i/2^k%2*2^k)+2^k=aI i k true:=by
 have hp:=Nat.two_pow_pos k
 have hdm:=Nat.div_add_mod i (2^k)
 have hm:=Nat.mod_lt i hp
 generalize hq:i/2^k=q at*
 generalize hr:i%2^k=r at*
 have hle:q%2*2^k≤2^k*q:=by rw[Nat.mul_comm];exact Nat.mul_le_mul_left _ (Nat.mod_le _ _)
 have e1:i-q%2*2^k=2^k*(2*(q/2))+r:=by
  have:2^k*q=2^k*(2*(q/2))+q%2*2^k:=by
   rw[Nat.mul_comm (q%2),←Nat.mul_add];congr 1;omega
  omega
 have tb:∀j,i.testBit j=if j<k then r.testBit j else q.testBit (j-k):=fun j=>by rw[←hdm];exact Nat.testBit_two_pow_mul_add q hm j
 have e2:(2^k*(2*(q/2))+r)+2^k=2^k*(2*(q/2)+1)+r:=by rw[Nat.mul_succ];omega
 rw[e1]
 refine⟨?_,?_⟩
 ·apply Nat.eq_of_testBit_eq;intro j
  rw[Nat.testBit_two_pow_mul_add _ hm,aq,tb]
  by_cases hj:j<k
  ·rw[if_pos hj,if_neg (by omega),if_pos hj]
  ·rw[if_neg hj,if_neg hj]
   by_cases e:j=k
   ·subst e;simp
   ·rw[if_neg e]
    obtain⟨d,hd⟩:∃d,j-k=d+1:=⟨j-k-1,by omega⟩
    rw[hd,Nat.testBit_succ,Nat.testBit_succ];congr 1;omega
 ·rw[e2]
  apply Nat.eq_of_testBit_eq;intro j
  rw[Nat.testBit_two_pow_mul_add _ hm,aq,tb]
  by_cases hj:j<k
  ·rw[if_pos hj,if_neg (by omega),if_pos hj]
  ·rw[if_neg hj,if_neg hj]
   by_cases e:j=k
   ·subst e;simp
   ·rw[if_neg e]
    obtain⟨d,hd⟩:∃d,j-k=d+1:=⟨j-k-1,by omega⟩
    rw[hd,Nat.testBit_succ,Nat.testBit_succ];congr 1;omega
end aj
namespace Go.Sx
open Go
section
variable {P:Program} {H:Hp}
theorem ax.int{t e:Nat}{kd:IntKind}{x:Int}{K:Value→Hp→Prop}(h1:P.underlying t=some (.slice e))(h2:dK P e=some 1)(h3:fj P e=some (.int kd 0))
 (h:∀b,K (.slice (some ⟨b,0,none⟩) 1 1) ((b,.cells (aF kd [x]) e (0,0))::H)):ax P t 1 [(0,.int kd x)] H K:=by
 refine⟨aF kd [x],e,1,_,h1,h2,h3,by decide,?_,fun b _=>h b⟩
 have e1:Array.range 1=#[0]:=rfl
 simp[Instr.fill,Value.cells,aF,e1]
theorem ax.none{t e k:Nat}{z:Value}{K:Value→Hp→Prop}(h1:P.underlying t=some (.slice e))(h2:dK P e=some k)(h3:fj P e=some z)
 (h:∀b,K (.slice (some ⟨b,0,none⟩) 0 0) ((b,.cells #[] e (0,0))::H)):ax P t 0 [] H K:=by
 refine⟨_,e,k,z,h1,h2,h3,by simp,rfl,fun b _=>?_⟩
 have:((Array.range (0*k)).map fun i=>z.cells[i%z.cells.size]!)=#[]:=by simp
 rw[this];exact h b
def fG(T:TypeId)(v:Value)(ts:List Tb)(C B:Hp):Prop:=∃rs,aR T 2 v rs C∧ia (Ny B) rs ts
theorem fG.nil{T:TypeId}{B:Hp}:fG T (.slice none 0 0) [] [] B:=⟨[],aR.nil _ _,ia.nil⟩
theorem fG.mono{T:TypeId}{v:Value}{ts:List Tb}{C B B':Hp}(h:fG T v ts C B)(hs:∀x∈B,x∈B'):fG T v ts C B':=let ⟨rs,h1,h2⟩:=h;⟨rs,h1,h2.mono fun _ _ h=>h.mono hs⟩
theorem fG.wM{T:TypeId}{v:Value}{ts:List Tb}{C B B':Hp}(h:fG T v ts C B)(hc:∀x∈C,x∈B')(hb:∀x∈B,x∈B'):cV B' v ts:=by
 obtain⟨rs,h1,h2⟩:=h;exact⟨rs,(Sl.qV h1 (by decide)).mono hc,h2.mono fun _ _ h=>h.mono hb⟩
theorem fG.app{T:TypeId}{v:Value}{ts:List Tb}{C B0 A B:Hp}(h:fG T v ts C B0){xb xc:Nat}{t:Tb}{s:Value}{xT:TypeId}{fz:Nat×Nat}(hx:(xb,Obj.cells #[.int .i64 t.n,s] xT fz)∈A++(C++B))(hw:Words B0 s t.ws)
 (hl:ts.length<4398046511103){K:Value→Hp→Prop}(hk:∀v' C',fG T v' (ts++[t]) C' B0→K v' (A++(C'++B))):App P T 2 32 (.agg #[.int .i64 0,.slice none 0 0]) (A++(C++B)) v (.slice (some ⟨xb,0,none⟩) 1 xc) K:=by
 obtain⟨rs,h1,h2⟩:=h
 have hs:s.oneCell'=true:=by obtain⟨a,c,rfl,_⟩:=hw.1.shape;rfl
 have uL:=h2.1
 refine h1.Ci (r:=[.int .i64 t.n,s]) hx rfl (fun u hu=>by simp only[List.mem_cons,List.not_mem_nil,or_false]at hu;rcases hu with rfl|rfl;rfl;exact hs) ⟨[.int .i64 0,.slice none 0 0],rfl,rfl⟩ (by omega) (by omega) fun v' C' ho=>hk v' C' ⟨_,ho,h2.snoc ⟨s,rfl,hw⟩⟩
def qF(l:List UInt8):List (List Value):=l.map fun b=>[Value.int .u8 b.toNat]
theorem G2(l:List UInt8):rows (qF l)=(l.map fun b=>Value.int .u8 b.toNat).toArray:=by
 unfold rows qF
 congr 1
 induction l with
 |nil=>rfl
 |cons b r ih=>simp[ih]
theorem jR.own{T:TypeId}{v:Value}{l:List UInt8}{C:Hp}(h:aR T 1 v (qF l) C)(hs:∀x∈C,x∈H){K:Value→Prop}(hk:K (.string ⟨l.toArray⟩)):jR H v K:=by
 obtain⟨a,cap,h1,h2⟩:=((Sl.qV h (by decide)).mono hs).cells
 refine⟨a,_,cap,l,h1,?_,by simp[qF],hk⟩
 rw[G2,Nat.mul_one]at h2;exact h2
def wO(l:List UInt8):Value:=.string ⟨l.toArray⟩
theorem sJ(a b:List UInt8):((⟨a.toArray⟩:ByteArray)==⟨b.toArray⟩)=decide (a=b):=by
 rw[beq_toListBytes,ByteArray.toList_eq,ByteArray.toList_eq]
 simp only[List.toList_toArray]
 rw[Bool.eq_iff_iff];simp
theorem KE(a b:List UInt8):Instr.sameNow .string (wO a) (wO b)=some (decide (a=b)):=by
 show some _=some _
 rw[sJ]
theorem GO(a:List UInt8):Instr.sameBits 10000 (wO a) (wO a)=true:=by
 show((⟨a.toArray⟩:ByteArray)==⟨a.toArray⟩)=true
 rw[sJ];simp
theorem ae.VC{a b:List UInt8}{k:Value→Prop}(h:k (.bool (decide (a≠b)))):ae .str .neq (wO a) (wO b) k:=by
 refine⟨_,rfl,?_⟩
 have:(!((⟨a.toArray⟩:ByteArray).toList==(⟨b.toArray⟩:ByteArray).toList))=decide (a≠b):=by
  rw[←beq_toListBytes,sJ];simp
 rw[this];exact h
def gh(n:Nat)(B:Hp)(es:Array MapEntry)(ck:Nat)(m:List (List UInt8×List Nat)):Prop:=
 bq wO (fun v ws=>jS B v ⟨n,ws⟩) es ck m∧∀x∈m,x.1=aj.gG x.2∧aj.cw n x.2
theorem gh.mono{n:Nat}{B B':Hp}{es:Array MapEntry}{ck:Nat}{m:List (List UInt8×List Nat)}(h:gh n B es ck m)(hs:∀x∈B,x∈B'):gh n B' es ck m:=⟨h.1.mono fun _ _ h=>h.mono hs,h.2⟩
theorem gh.empty(n:Nat)(B:Hp):gh n B #[] 0 []:=⟨bq.empty,by simp⟩
def wK(m:List (List UInt8×List Nat))(ws:List Nat):List (List UInt8×List Nat):=gP m (aj.gG ws) ws
theorem gh.nodup{n:Nat}{B:Hp}{es:Array MapEntry}{ck:Nat}{m:List (List UInt8×List Nat)}(h:gh n B es ck m):(m.map Prod.snd).Nodup:=by
 have h1:=h.1.nd
 have e:m.map Prod.fst=(m.map Prod.snd).map aj.gG:=by
  rw[List.map_map];apply List.map_congr_left;intro x hx;exact(h.2 x hx).1
 rw[e]at h1
 exact List.Pairwise.of_map aj.gG (fun a b hne e=>hne (by rw[e])) h1
theorem qb{n:Nat}{m:List (List UInt8×List Nat)}{ws:List Nat}(hm:∀x∈m,x.1=aj.gG x.2∧aj.cw n x.2)(hf:aj.cw n ws):∀x,x∈(wK m ws).map Prod.snd↔x∈m.map Prod.snd∨x=ws:=by
 intro x
 unfold wK gP
 split
 ·rename_i hk
  obtain⟨y,hy,hky⟩:=List.mem_map.1 hk
  have hyw:y.2=ws:=(hm y hy).2.key_inj hf (by rw[←(hm y hy).1,hky])
  have:(m.map fun y=>if y.1=aj.gG ws then(aj.gG ws,ws)else y)=m:=by
   conv=>rhs;rw[←List.map_id m]
   apply List.map_congr_left
   intro z hz
   split
   ·rename_i hzk
    have:z.2=ws:=(hm z hz).2.key_inj hf (by rw[←(hm z hz).1,hzk])
    simp only[id];rw[←hzk,←this]
   ·rfl
  rw[this]
  constructor
  ·exact .inl
  ·rintro(h|rfl)
   ·exact h
   ·exact List.mem_map.2 ⟨y,hy,hyw⟩
 ·simp
theorem OP{n:Nat}{m:List (List UInt8×List Nat)}{ws:List Nat}(hm:∀x∈m,x.1=aj.gG x.2∧aj.cw n x.2)(hf:aj.cw n ws):∀x∈wK m ws,x.1=aj.gG x.2∧aj.cw n x.2:=by
 intro x hx
 unfold wK gP at hx
 split at hx
 ·obtain⟨y,hy,rfl⟩:=List.mem_map.1 hx
  split
  ·exact⟨rfl,hf⟩
  ·exact hm y hy
 ·rcases List.mem_append.1 hx with hx|hx
  ·exact hm x hx
  ·simp at hx;subst hx;exact⟨rfl,hf⟩
theorem gh.ct{n:Nat}{B:Hp}{es:Array MapEntry}{ck b:Nat}{m:List (List UInt8×List Nat)}{ws:List Nat}{val:Value}{K:Hp→Prop}(h:gh n B es ck m)(hv:jS B val ⟨n,ws⟩)(hf:aj.cw n ws)
 (h1:∀es' eN,gh n B es' eN (wK m ws)→∃H',cK b (.map es ck) (.map es' eN) H H'∧K H'):fV .string H (.map (some b)) (wO (aj.gG ws)) val K:=
 bq.ct KE GO h.1 hv fun es' eN he=>h1 es' eN ⟨he,OP h.2 hf⟩
end
end Go.Sx
namespace Go.Sx
open Go
section
variable {P:Program} {g:Gh} {H:Hp}
theorem aR.apps{elem k bytes:Nat}{zero:Value}{v:Value}{rs:List (List Value)}{C A B:Hp}(h:aR elem k v rs C){xa:Option Addr}{xc:Nat}{r2:List (List Value)}
 (hx:Cells (A++(C++B)) xa (r2.length*k) (rows r2))(hr:∀r∈r2,r.length=k)(h1:∀r∈r2,∀u∈r,u.oneCell'=true)(hz:∃z:List Value,zero.cells=z.toArray∧z.length=k)
 (hb:(rs.length+r2.length)*bytes≤140737488355328)(bD:rs.length+r2.length≤9223372036854775807){K:Value→Hp→Prop}
 (hk:∀v' C',aR elem k v' (rs++r2) C'→K v' (A++(C'++B))):App P elem k bytes zero (A++(C++B)) v (.slice xa r2.length xc) K:=by
 obtain⟨z,VZ,PB⟩:=hz
 have hnone:∀u∈(rows r2).toList,u.oneCell'=true:=by
  intro u hu
  simp only[rows,List.mem_flatten]at hu
  obtain⟨r,h2,h3⟩:=hu
  exact h1 r h2 u h3
 rcases h with⟨rfl,rfl,rfl⟩|⟨b,aL,rfl,rfl,aK⟩
 ·refine⟨none,0,0,xa,r2.length,xc,#[],rows r2,rfl,rfl,rfl,hx,bN hr,by simp,hnone,fun h=>?_,fun _=>⟨by simpa using hb,by simpa using bD,fun fR hn b hbf=>?_⟩⟩
  ·have:r2=[]:=List.eq_nil_of_length_eq_zero (by omega)
   subst this
   exact hk _ [] (.inl ⟨rfl,rfl,rfl⟩)
  ·rw[show(#[]:Array Value)++rows r2++Builtin.zeroCells zero.cells (fR-(0+r2.length))=rows ([]++r2++List.replicate (fR-r2.length) z)by rw[VZ,oR z PB];simp only[Nat.zero_add,Array.empty_append,List.nil_append];rw[dY]]
   refine⟨_,aO.Q1 [(b,_)] A B,hk _ [(b,_)] (.inr ⟨b,List.replicate (fR-r2.length) z,?_,rfl,?_⟩)⟩
   ·simp;omega
   ·intro x hx
    rcases List.mem_append.1 hx with hx|hx
    ·exact hr x hx
    ·rw[List.eq_of_mem_replicate hx,PB]
 ·have hsz:=bN aK
  have nR:∀x∈rs,x.length=k:=fun x hx=>aK x (by simp[hx])
  have hold:rows rs=(rows (rs++aL)).extract 0 (0+rs.length*k):=by
   rw[←dY]
   apply Array.ext'
   have:=bN nR
   have h2:(rows rs).toList.length=rs.length*k:=by rw[Array.length_toList];exact this
   rw[Array.toList_extract,Array.toList_append,List.extract_eq_take_drop,List.drop_zero,Nat.zero_add,Nat.sub_zero,←h2,List.take_left]
  refine⟨some ⟨b,0,none⟩,rs.length,rs.length+aL.length,xa,r2.length,xc,rows rs,rows r2,rfl,rfl,.inr ⟨rfl,_,elem,(0,0),by simp,?_,hold⟩,hx,bN hr,bN nR,hnone,fun hfit=>?_,fun hgrow=>⟨hb,by omega,fun fR hn b' hbf=>?_⟩⟩
  ·rw[hsz];simp only[List.length_append,Nat.zero_add];exact Nat.mul_le_mul_right _ (by omega)
  ·obtain⟨j1,j2,rfl,hj⟩:∃j1 j2,aL=j1++j2∧j1.length=r2.length:=⟨aL.take r2.length,aL.drop r2.length,(List.take_append_drop _ _).symm,by rw[List.length_take];omega⟩
   have WV:∀x∈j1,x.length=k:=fun x hx=>aK x (by simp[hx])
   refine⟨_,elem,_,rfl,?_,((cK.head _).append B).bP A,hk _ [(b,_)] (.inr ⟨b,j2,?_,?_,?_⟩)⟩
   ·rw[hsz,List.length_append,List.length_append,hj,Nat.add_mul,Nat.add_mul]
    show 0+rs.length*k+r2.length*k≤_
    omega
   ·simp;omega
   ·have e:(⟨b,0,none⟩:Addr).off+rs.length*k=rs.length*k:=by simp
    have l1:=dg rs nR
    have l2:=dg j1 WV
    have l3:=dg r2 hr
    have e2:ja (rows (rs++(j1++j2))) (rs.length*k) (rows r2).toList=rows (rs++r2++j2):=by
     unfold rows
     rw[List.flatten_append,List.flatten_append,List.toList_toArray,pc _ _ _ (by rw[List.length_append,List.length_append,l1,l2,l3,hj];omega)]
     congr 1
     rw[List.flatten_append,List.flatten_append,←l1,List.take_left,l3,←hj,←l2,List.drop_append,←List.append_assoc]
     simp[List.drop_append]
    rw[e,e2]
   ·intro x hx
    simp only[List.append_assoc,List.mem_append]at hx
    rcases hx with hx|hx|hx
    ·exact nR x hx
    ·exact hr x hx
    ·exact aK x (by simp[hx])
  ·refine⟨A++([(b',_)]++B),?_,hk _ [(b',_)] (.inr ⟨b',List.replicate (fR-(rs.length+r2.length)) z,?_,rfl,?_⟩)⟩
   ·rw[VZ,oR z PB,dY,dY]
    exact fun g w h=>(aO.VE [[_],A,[_],B] [[_],A,[_],B] ((List.perm_append_comm (l₁:=[_,A]) (l₂:=[_])).append_right [B]|>.trans (.cons _ (.swap _ _ _))) g w h).tail
   ·simp;omega
   ·intro x hx
    rcases List.mem_append.1 hx with hx|hx
    ·rcases List.mem_append.1 hx with hx|hx
     ·exact nR x hx
     ·exact hr x hx
    ·rw[List.eq_of_mem_replicate hx,PB]
def aQ(T:TypeId)(kd:IntKind)(v:Value)(l:List Int)(C:Hp):Prop:=aR T 1 v (l.map fun n=>[Value.int kd n]) C
theorem aQ.nil{T:TypeId}{kd:IntKind}:aQ T kd (.slice none 0 0) [] []:=aR.nil _ _
theorem aQ.aS{T:TypeId}{kd:IntKind}{v:Value}{l:List Int}{C:Hp}(h:aQ T kd v l C){K:Value→Prop}(hk:K (.int .i64 l.length)):aG v K:=aR.aS h (by simpa using hk)
theorem aQ.ints{T:TypeId}{kd:IntKind}{v:Value}{l:List Int}{C:Hp}(h:aQ T kd v l C):cE kd C v l:=Sl.qV h (by decide)
theorem aQ.app{T:TypeId}{kd:IntKind}{v:Value}{l:List Int}{C A B:Hp}{bytes:Nat}(h:aQ T kd v l C){xb xc:Nat}{x:Int}{xT:TypeId}{fz:Nat×Nat}(hx:(xb,Obj.cells (aF kd [x]) xT fz)∈A++(C++B))
 (hb:(l.length+1)*bytes≤140737488355328)(hm:l.length+1≤9223372036854775807){K:Value→Hp→Prop}(hk:∀v' C',aQ T kd v' (l++[x]) C'→K v' (A++(C'++B))):App P T 1 bytes (.int kd 0) (A++(C++B)) v (.slice (some ⟨xb,0,none⟩) 1 xc) K:=
 aR.Ci (r:=[.int kd x]) h hx rfl (by simp[Value.oneCell']) ⟨[.int kd 0],rfl,rfl⟩ (by simpa using hb) (by simpa using hm) fun v' C' ho=>hk v' C' (by unfold aQ;simpa using ho)
theorem aQ.apps{T:TypeId}{kd:IntKind}{v x:Value}{l l2:List Int}{C A B:Hp}{bytes:Nat}(h:aQ T kd v l C)(hx:cE kd (A++(C++B)) x l2)
 (hb:(l.length+l2.length)*bytes≤140737488355328)(hm:l.length+l2.length≤9223372036854775807){K:Value→Hp→Prop}(hk:∀v' C',aQ T kd v' (l++l2) C'→K v' (A++(C'++B))):App P T 1 bytes (.int kd 0) (A++(C++B)) v x K:=by
 obtain⟨a,cap,rfl,hc⟩:=Sl.cells hx
 exact aR.apps h hc (by simp) (by simp[Value.oneCell']) ⟨[.int kd 0],rfl,rfl⟩ (by simpa using hb) (by simpa using hm) fun v' C' ho=>hk v' C' (by unfold aQ;rw[List.map_append];exact ho)
theorem ax.VU{t e:Nat}{kd:IntKind}{x y z:Int}{K:Value→Hp→Prop}(h1:P.underlying t=some (.slice e))(h2:dK P e=some 1)(h3:fj P e=some (.int kd 0))
 (h:∀b,K (.slice (some ⟨b,0,Option.none⟩) 3 3) ((b,.cells (aF kd [x,y,z]) e (0,0))::H)):ax P t 3 [(0,.int kd x),(1,.int kd y),(2,.int kd z)] H K:=by
 refine⟨aF kd [x,y,z],e,1,_,h1,h2,h3,by decide,?_,fun b _=>h b⟩
 have e1:Array.range (3*1)=#[0,1,2]:=rfl
 simp[Instr.fill,Value.cells,aF,e1]
end
end Go.Sx
namespace Go.Sx
open Go
section
variable {P:Program}
theorem z4{e:TypeId}{i:TypeInfo}(hi:P.info? e=some i)(hs:i.size=1):P.cellsOf e=1:=by simp[Program.cellsOf,hi,hs]
theorem sY{e:TypeId}{q:IntKind}(hu:P.underlying e=some (.int q)){l:List Int}{j:Nat}{x:Int}(h:l[j]? =some x)(w:World):(part e (aF q l) j).run P w=.ok (.int q x) w:=by
 simp[part,isAgg,run_underlying hu,aF,h]
theorem pM{e:TypeId}{q:IntKind}(hu:P.underlying e=some (.int q))(hc:P.cellsOf e=1)(d:Nat)(l l':List Int)(w:World):∀is:List Nat,(∀i∈is,i<l.length∧i<l'.length)→
  (Op.eqItems (d+1) e (P.cellsOf e) (aF q l) (aF q l') is).run P w=.ok (is.all fun i=>l[i]? ==l'[i]?) w
 | [],_=>by simp[Op.eqItems]
 |i::is,h=>by
  obtain⟨h1,h2⟩:=h i (by simp)
  have g1:l[i]? =some l[i]:=List.getElem?_eq_getElem h1
  have g2:l'[i]? =some l'[i]:=List.getElem?_eq_getElem h2
  have p1:=sY (P:=P) hu g1 w
  have p2:=sY (P:=P) hu g2 w
  have p3:(Op.equalIn (d+1) e (.int q l[i]) (.int q l'[i])).run P w=.ok (l[i]==l'[i]) w:=by
   simp only[Op.equalIn,Sem.run_bind,run_underlying hu,Result.andThen_ok,if_true,Sem.run_pure]
  have ih:=pM hu hc d l l' w is fun j hj=>h j (by simp[hj])
  simp only[Op.eqItems,hc,Nat.mul_one,Sem.run_bind,p1,p2,p3,Result.andThen_ok]at ih⊢
  rw[List.all_cons,g1,g2]
  cases hb:(l[i]==l'[i])
  ·simp[hb]
  ·simp[hb,ih]
theorem E7.array{t e:TypeId}{q:IntKind}{n:Nat}(ht:P.underlying t=some (.array n e))(hu:P.underlying e=some (.int q))(hz:dK P e=some 1)(l l':List Int)(h1:l.length=n)(h2:l'.length=n):
  E7 P t (.agg (aF q l)) (.agg (aF q l')) (decide (l=l')):=by
 obtain⟨i,hi,hs⟩:=bR hz
 have hc:=z4 hi hs
 intro w
 show(Op.equalIn (9998+1+1) t _ _).run P w=_
 rw[run_equalIn_array w (9998+1) _ _ ht hi,pM hu hc 9998 l l' w _ (fun j hj=>by have:=List.mem_range.1 hj;omega)]
 congr 1
 rw[Bool.eq_iff_iff]
 simp only[List.all_eq_true,List.mem_range,decide_eq_true_eq,beq_iff_eq]
 constructor
 ·intro h
  apply List.ext_getElem?
  intro j
  by_cases hj:j<n
  ·exact h j hj
  ·rw[List.getElem?_eq_none (by omega),List.getElem?_eq_none (by omega)]
 ·rintro rfl j _;rfl
theorem nI.array{t e:TypeId}{q:IntKind}{n:Nat}(ht:P.underlying t=some (.array n e))(hu:P.underlying e=some (.int q))(hz:dK P e=some 1)(l:List Int)(h1:l.length=n):nI P t (.agg (aF q l)):=by
 obtain⟨i,hi,hs⟩:=bR hz
 intro b w
 have gen:∀d,(Instr.checkKey b (d+1+1) t (.agg (aF q l))).run P w=.ok () w:=by
  intro d
  have p2:∀x:Int,(Instr.checkKey b (d+1) e (.int q x)).run P w=.ok () w:=fun x=>by
   simp only[Instr.checkKey,Sem.run_bind,run_underlying hu,Result.andThen_ok,Sem.run_pure]
  unfold Instr.checkKey
  simp only[Sem.run_bind,run_underlying ht,Result.andThen_ok]
  simp only[Std.Legacy.Range.forIn_eq_forIn_range',Std.Legacy.Range.size,Nat.sub_zero,Nat.add_one_sub_one,Nat.div_one]
  have key:∀is:List Nat,(∀j∈is,j<l.length)→(forIn is PUnit.unit fun j (_:PUnit)=>(do
     Instr.checkKey b (d+1) e (←part e (aF q l) (j*(←sizeOf e)))
     pure (ForInStep.yield PUnit.unit):Sem (ForInStep PUnit))).run P w=.ok PUnit.unit w:=by
   intro is
   induction is with
   |nil=>intro _;simp
   |cons j is ih=>
    intro h
    have p1:=sY (P:=P) hu (List.getElem?_eq_getElem (h j (by simp))) w
    simp only[List.forIn_cons,Sem.run_bind,run_sizeOf hi,Result.andThen_ok,hs,Nat.mul_one,p1,p2,Sem.run_pure]
    exact ih fun k hk=>h k (by simp[hk])
  have:=key (List.range' 0 n) (fun j hj=>by have:=List.mem_range'_1.1 hj;omega)
  rw[this];rfl
 exact gen 9998
theorem Build.two{t e:TypeId}{q:IntKind}{x y:Int}{K:Value→Prop}(ht:P.underlying t=some (.array 2 e))(hz:dK P e=some 1)(h0:fj P t=some (.agg (aF q [0,0])))(h:K (.agg (aF q [x,y]))):
  Build P t [(0,.int q x),(1,.int q y)] K:=by
 refine⟨_,fun w=>?_,h⟩
 obtain⟨i,hi,hs⟩:=bR hz
 obtain⟨i0,Mb,YH⟩:=c9 h0
 simp only[Instr.build,Sem.run_bind,eS Mb YH,Result.andThen_ok,run_underlying ht,run_sizeOf hi,hs]
 simp[Instr.fill,Value.cells,aF]
end
end Go.Sx
namespace Go.Sx
open Go
section
variable {P:Program} {g:Gh} {H:Hp}
def uf(P:Program)(t:TypeId)(x y:Value):Prop:=
 (∃q a b,P.underlying t=some (.int q)∧x=.int q a∧y=.int q b)∨(∃a b,P.underlying t=some .bool∧x=.bool a∧y=.bool b)
theorem uf.eq{t:TypeId}{x y:Value}(h:uf P t x y)(d:Nat)(w:World):∃b,(Op.equalIn (d+1) t x y).run P w=.ok b w∧(b=true↔x=y):=by
 rcases h with⟨q,a,b,hu,rfl,rfl⟩|⟨a,b,hu,rfl,rfl⟩
 ·exact⟨a==b,by simp[Op.equalIn,run_underlying hu],by simp⟩
 ·exact⟨a==b,by simp[Op.equalIn,run_underlying hu],by simp⟩
theorem oo{t:TypeId}{xs:Array Value}{o:Nat}{x:Value}(hu:(∃q,P.underlying t=some (.int q))∨P.underlying t=some .bool)(h:xs[o]? =some x)(w:World):(part t xs o).run P w=.ok x w:=by
 rcases hu with⟨q,hu⟩|hu<;>simp[part,isAgg,run_underlying hu,h]
theorem nU(d:Nat)(xs ys:Array Value)(w:World):∀fs:List Field,(∀f∈fs,f.name≠ "_" ∧∃x y,xs[f.offset]? =some x∧ys[f.offset]? =some y∧uf P f.type x y)→
  ∃b,(Op.eqFields (d+1) xs ys fs).run P w=.ok b w∧(b=true↔∀f∈fs,xs[f.offset]? =ys[f.offset]?)
 | [],_=>⟨true,by simp[Op.eqFields],by simp⟩
 |f::fs,h=>by
  obtain⟨hn,x,y,hx,hy,hp⟩:=h f (by simp)
  obtain⟨b',ih,hb'⟩:=nU d xs ys w fs fun g hg=>h g (by simp[hg])
  have hu:(∃q,P.underlying f.type=some (.int q))∨P.underlying f.type=some .bool:=by
   rcases hp with⟨q,_,_,hu,_⟩|⟨_,_,hu,_⟩
   ·exact .inl ⟨q,hu⟩
   ·exact .inr hu
  obtain⟨b,hr,hb⟩:=hp.eq d w
  have p1:=oo hu hx w
  have p2:=oo hu hy w
  cases b with
  |false=>
   refine⟨false,by simp[Op.eqFields,hn,p1,p2,hr],?_⟩
   simp only[Bool.false_eq_true,List.mem_cons,forall_eq_or_imp,false_iff,hx,hy,Option.some.injEq]
   exact fun hh=>absurd (hb.2 hh.1) (by decide)
  |true=>
   refine⟨b',by simp[Op.eqFields,hn,p1,p2,hr,ih],?_⟩
   rw[hb']
   simp only[List.mem_cons,forall_eq_or_imp,hx,hy,Option.some.injEq,hb.1 rfl,true_and]
theorem E7.flat{t:TypeId}{fs:Array Field}(ht:P.underlying t=some (.struct fs))(hp:P.stoodInHeld t=false){xs ys:Array Value}{p:Prop}[Decidable p]
 (h:∀f∈fs.toList,f.name≠ "_" ∧∃x y,xs[f.offset]? =some x∧ys[f.offset]? =some y∧uf P f.type x y)(he:(∀f∈fs.toList,xs[f.offset]? =ys[f.offset]?)↔p):E7 P t (.agg xs) (.agg ys) (decide p):=by
 have e:P.fieldsOf t=fs:=by simp[Program.fieldsOf,ht]
 intro w
 show(Op.equalIn (9998+1+1) t _ _).run P w=_
 rw[run_equalIn_struct w (9998+1) t xs ys (by rw[e];exact ht) hp,e]
 obtain⟨b,hr,hb⟩:=nU (P:=P) 9998 xs ys w fs.toList h
 rw[hr]
 congr 1
 rw[Bool.eq_iff_iff,hb,he,decide_eq_true_eq]
theorem nI.flat{t:TypeId}{fs:Array Field}(ht:P.underlying t=some (.struct fs)){xs:Array Value}
 (h:∀f∈fs.toList,f.name≠ "_" ∧∃x,xs[f.offset]? =some x∧uf P f.type x x):nI P t (.agg xs):=by
 intro b w
 have gen:∀d,(Instr.checkKey b (d+1+1) t (.agg xs)).run P w=.ok () w:=by
  intro d
  unfold Instr.checkKey
  simp only[Sem.run_bind,run_underlying ht,Result.andThen_ok]
  rw[←Array.forIn_toList]
  clear ht
  generalize fs.toList=l at h
  induction l with
  |nil=>simp
  |cons f l ih=>
   obtain⟨hn,x,hx,hp⟩:=h f (by simp)
   have hu:(∃q,P.underlying f.type=some (.int q))∨P.underlying f.type=some .bool:=by
    rcases hp with⟨q,_,_,hu,_⟩|⟨_,_,hu,_⟩
    ·exact .inl ⟨q,hu⟩
    ·exact .inr hu
   have p1:=oo hu hx w
   have p2:(Instr.checkKey b (d+1) f.type x).run P w=.ok () w:=by
    rcases hp with⟨q,a,_,hu,rfl,_⟩|⟨a,_,hu,rfl,_⟩
    ·simp only[Instr.checkKey,Sem.run_bind,run_underlying hu,Result.andThen_ok,Sem.run_pure]
    ·simp only[Instr.checkKey,Sem.run_bind,run_underlying hu,Result.andThen_ok,Sem.run_pure]
   have:=ih fun g hg=>h g (by simp[hg])
   simp only[List.forIn_cons,Sem.run_bind]
   simp[hn,p1,p2]
   simpa using this
 exact gen 9998
theorem uT(n:Nat){xs:Array Value}(h:∀x∈xs.toList,(∃q a,x=.int q a)∨∃a,x=.bool a):Instr.sameBits (n+1+1) (.agg xs) (.agg xs)=true:=by
 simp only[Instr.sameBits,beq_self_eq_true,Bool.true_and,List.all_eq_true]
 intro x hx
 obtain⟨a,b⟩:=x
 have h1:=List.of_mem_zip hx
 have e:a=b:=by
  obtain⟨i,hi,he⟩:=List.mem_iff_getElem.1 hx
  simp at he
  exact he.1.symm.trans he.2
 subst e
 rcases h a h1.1 with⟨q,z,rfl⟩|⟨z,rfl⟩<;>simp[Instr.sameBits]
end
section
variable {κ:Type} [DecidableEq κ] {β:Type} {ke:κ→Value} {vr:Value→β→Prop} {es:Array MapEntry} {ck b:Nat} {m:List (κ×β)} {P:Program} {H:Hp}
def uW(m:List (κ×β))(k:κ):List (κ×β):=m.filter fun y=>¬y.1=k
theorem vF{k k':κ}:ed (uW m k) k'=if k'=k then none else ed m k':=by
 unfold ed uW
 rw[List.find?_filter]
 by_cases e:k'=k
 ·rw[if_pos e]
  rw[List.find?_eq_none.2]
  ·rfl
  ·intro x _;simp;intro h1 h2;exact h1 (h2.trans e)
 ·rw[if_neg e]
  congr 1
  congr 1
  funext y
  by_cases e2:y.1=k'
  ·have:¬y.1=k:=fun e3=>e (e2.symm.trans e3)
   simp[e2,this,e]
  ·simp[e2]
theorem fZ{k k':κ}{x:β}:ed (gP m k x) k'=if k'=k then some x else ed m k':=by
 unfold ed gP
 by_cases hk:k∈m.map Prod.fst
 ·rw[if_pos hk]
  by_cases e:k'=k
  ·subst e
   rw[if_pos rfl]
   induction m with
   |nil=>simp at hk
   |cons y m ih=>
    rw[List.map_cons,List.find?_cons]
    by_cases ey:y.1=k'
    ·simp[ey]
    ·rw[if_neg ey]
     simp only[ey,decide_false]
     rw[ih]
     rw[List.map_cons]at hk
     rcases List.mem_cons.1 hk with h|h
     ·exact absurd h.symm ey
     ·simpa using h
  ·rw[if_neg e]
   have:∀l:List (κ×β),(List.find? (fun y=>decide (y.1=k')) (l.map fun y=>if y.1=k then(k,x)else y)).map Prod.snd=(List.find? (fun y=>decide (y.1=k')) l).map Prod.snd:=by
    intro l
    induction l with
    |nil=>rfl
    |cons y l ih=>
     rw[List.map_cons,List.find?_cons,List.find?_cons]
     by_cases ey:y.1=k
     ·have h1:decide (k=k')=false:=by simpa using fun h=>e h.symm
      have h2:decide (y.1=k')=false:=by rw[ey];exact h1
      simp only[if_pos ey,h1,h2]
      exact ih
     ·simp only[if_neg ey]
      cases decide (y.1=k')with
      |true=>rfl
      |false=>exact ih
   exact this m
 ·rw[if_neg hk]
  rw[List.find?_append]
  by_cases e:k'=k
  ·subst e
   have:List.find? (fun y=>decide (y.1=k')) m=none:=by
    rw[List.find?_eq_none];intro y hy;simp;intro h;exact hk (List.mem_map.2 ⟨y,hy,h⟩)
   simp[this]
  ·have:¬k=k':=fun h=>e h.symm
   rw[if_neg e]
   cases List.find? (fun y=>decide (y.1=k')) m<;>simp[this]
theorem Bg(nd:(m.map Prod.fst).Nodup){i:Nat}{k:κ}{y:β}(hi:m[i]? =some (k,y)):uW m k=m.eraseIdx i:=by
 unfold uW
 induction m generalizing i with
 |nil=>simp at hi
 |cons z m ih=>
  rw[List.map_cons,List.nodup_cons]at nd
  cases i with
  |zero=>
   simp at hi;subst hi
   rw[List.eraseIdx_cons_zero,List.filter_cons_of_neg (by simp)]
   rw[List.filter_eq_self]
   intro w hw
   simp only[decide_not,Bool.not_eq_true',decide_eq_false_iff_not]
   intro e
   exact nd.1 (List.mem_map.2 ⟨w,hw,e⟩)
  |succ i=>
   simp at hi
   have hz:¬z.1=k:=fun e=>nd.1 (List.mem_map.2 ⟨_,List.mem_of_getElem? hi,e.symm⟩)
   rw[List.eraseIdx_cons_succ,List.filter_cons_of_pos (by simpa using hz),ih nd.2 hi]
omit [DecidableEq κ] in
theorem bq.less(h:bq ke vr es ck m)(i:Nat):bq ke vr (es.eraseIdxIfInBounds i) ck (m.eraseIdx i):=by
 have hl:(es.eraseIdxIfInBounds i).toList=es.toList.eraseIdx i:=by
  unfold Array.eraseIdxIfInBounds
  split
  ·simp
  ·rename_i hh;rw[List.eraseIdx_of_length_le (by simpa using hh)]
 refine⟨?_,fun j e x he hx=>?_,?_,?_,fun e he=>?_⟩
 ·have:=congrArg List.length hl
  rw[Array.length_toList,List.length_eraseIdx]at this
  rw[this,List.length_eraseIdx,Array.length_toList,h.len]
 ·rw[←Array.getElem?_toList,hl,List.getElem?_eraseIdx]at he
  rw[List.getElem?_eraseIdx]at hx
  split at he
  ·rename_i hh;rw[if_pos hh]at hx;exact h.key j e x (by simpa using he) hx
  ·rename_i hh;rw[if_neg hh]at hx;exact h.key (j+1) e x (by simpa using he) hx
 ·rw[←gy];exact h.nd.sublist (List.eraseIdx_sublist _ _)
 ·rw[hl,←gy];exact h.born.sublist (List.eraseIdx_sublist _ _)
 ·rw[hl]at he;exact h.lt e (List.mem_of_mem_eraseIdx he)
theorem bq.acG{P:Program}{kt:TypeId}{k:κ}{K:Hp→Prop}(hk:∀a b,E7 P kt (ke a) (ke b) (decide (a=b)))(hc:∀a,nI P kt (ke a))(h:bq ke vr es ck m)(hm:(b,Obj.map es ck)∈H)
 (h1:∀es',bq ke vr es' ck (uW m k)→∃H',cK b (.map es ck) (.map es' ck) H H'∧K H'):pX P kt H (.map (some b)) (ke k) K:=by
 refine⟨hc k,.inr ?_⟩
 rcases h.zE hk k with⟨i,y,e,g1,g2,g3,g4⟩|⟨g1,g2⟩
 ·refine⟨b,es,ck,_,rfl,g4,?_⟩
  have:=h.less i
  rw[←Bg h.nd g2]at this
  exact h1 _ this
 ·refine⟨b,es,ck,_,rfl,g2,hm,?_⟩
  have e:uW m k=m:=by
   unfold uW
   rw[List.filter_eq_self]
   intro w hw
   simp only[decide_not,Bool.not_eq_true',decide_eq_false_iff_not]
   intro e
   exact g1 (List.mem_map.2 ⟨w,hw,e⟩)
  obtain⟨H',hu,hK⟩:=h1 es (by rw[e];exact h)
  have:∀{H H':Hp},cK b (.map es ck) (.map es ck) H H'→H'=H:=by
   intro H H' hu
   generalize ho:Obj.map es ck=o at hu
   induction hu with
   |head R=>rfl
   |tail _ ih=>rw[ih]
  rw[this hu]at hK;exact hK
end
section
variable {P:Program} {H:Hp}
theorem aR.FJ{T:TypeId}{k:Nat}{v:Value}{rs:List (List Value)}{C:Hp}(hs:aR T k v rs C){i:Nat}{kd:IntKind}{r:List Value}(hr:rs[i]? =some r)(hC:∀y∈C,y∈H){K:Value→Prop}(hk:K (.agg r.toArray)):
  ah k v (.int kd (i:Int)) fun p=>aA k H p K:=by
 have hi:=(List.getElem?_eq_some_iff.1 hr).1
 obtain⟨b',aL,rfl,rfl,aK⟩:=hs.pos (by omega)
 exact ah.nat hi (aA.row (hC _ (List.Mem.head _)) aK (by rw[List.getElem?_append_left hi];exact hr) hk)
theorem aR.Bm{T:TypeId}{k:Nat}{v x:Value}{rs:List (List Value)}{C:Hp}(hs:aR T k v rs C){i j:Nat}{kd:IntKind}{r:List Value}(hr:rs[i]? =some r)(hj:r[j]? =some x)(hC:∀y∈C,y∈H){K:Value→Prop}(hk:K x):
  ah k v (.int kd (i:Int)) fun p=>aa j p fun q=>Ld H q K:=by
 have hi:=(List.getElem?_eq_some_iff.1 hr).1
 obtain⟨b',aL,rfl,rfl,aK⟩:=hs.pos (by omega)
 exact ah.nat hi (aa.mk (Ld.row (hC _ (List.Mem.head _)) aK (by rw[List.getElem?_append_left hi];exact hr) hj hk))
theorem aR.Q7{T:TypeId}{v x:Value}{rs:List (List Value)}{C:Hp}(hs:aR T 1 v rs C){i:Nat}{kd:IntKind}(hr:rs[i]? =some [x])(hC:∀y∈C,y∈H){K:Value→Prop}(hk:K x):
  ah 1 v (.int kd (i:Int)) fun p=>Ld H p K:=by
 have hi:=(List.getElem?_eq_some_iff.1 hr).1
 obtain⟨b',aL,rfl,rfl,aK⟩:=hs.pos (by omega)
 exact ah.nat hi (Ld.VH (l:=rs++aL) (hC _ (List.Mem.head _)) aK (by rw[List.getElem?_append_left hi];exact hr) hk)
theorem aR.Ls{T:TypeId}{k n:Nat}{v:Value}{rs:List (List Value)}{C:Hp}(hs:aR T k v rs C){i:Nat}{kd:IntKind}{r:List Value}(hr:rs[i]? =some r)(hn:0<n∧n≤k)(hC:∀y∈C,y∈H){K:Value→Prop}(hk:K (.agg (r.take n).toArray)):
  ah k v (.int kd (i:Int)) fun p=>aa 0 p fun q=>aA n H q K:=by
 have hi:=(List.getElem?_eq_some_iff.1 hr).1
 obtain⟨b',aL,rfl,rfl,aK⟩:=hs.pos (by omega)
 have uL:r.length=k:=aK r (List.mem_append_left _ (List.mem_of_getElem? hr))
 refine ah.nat hi (aa.mk ?_)
 have x7:At H (.pointer (some ⟨b',0+i*k+0,none⟩)) (r.take n):=⟨b',_,_,_,_,rfl,hC _ (List.Mem.head _),fun j x hj=>by
  have PT:j<n:=by have:=(List.getElem?_eq_some_iff.1 hj).1;simp at this;omega
  rw[List.getElem?_take,if_pos PT]at hj
  rw[Nat.add_zero,Nat.zero_add,gX aK (by omega),List.getElem?_append_left hi,hr];exact hj⟩
 exact aA.at x7 (by simp;omega) hn.1 (fun _ h=>h) hk
theorem G0{k:Nat}{l:List (List Value)}(h:∀r∈l,r.length=k){i:Nat}{r xs:List Value}(hi:l[i]? =some r)(hx:xs.length≤k):ja (rows l) (i*k) xs=rows (l.set i (xs++r.drop xs.length)):=by
 have hlt:=(List.getElem?_eq_some_iff.1 hi).1
 have hr:=h r (List.mem_of_getElem? hi)
 have key:∀(xs:List Value) (j:Nat) (l:List (List Value)) (r:List Value),(∀r∈l,r.length=k)→l[i]? =some r→j+xs.length≤k→ja (rows l) (i*k+j) xs=rows (l.set i (r.take j++xs++r.drop (j+xs.length))):=by
  intro xs
  induction xs with
  |nil=>
   intro j l r h hi _
   have hlt:=(List.getElem?_eq_some_iff.1 hi).1
   simp only[ja,List.append_nil,List.length_nil,Nat.add_zero,List.take_append_drop]
   congr 1
   apply List.ext_getElem?
   intro m
   rw[List.getElem?_set]
   by_cases e:i=m
   ·subst e;rw[if_pos rfl,hi,if_pos hlt]
   ·rw[if_neg e]
  |cons x xs ih=>
   intro j l r h hi hj
   have hr:=h r (List.mem_of_getElem? hi)
   have hlt:=(List.getElem?_eq_some_iff.1 hi).1
   simp only[List.length_cons]at hj
   rw[ja,nN h hi (by omega),Nat.add_assoc]
   rw[ih (j+1) (l.set i (r.set j x)) (r.set j x) (fun y hy=>by
    rcases List.mem_or_eq_of_mem_set hy with hy|rfl
    ·exact h y hy
    ·simpa using hr) (by simp[hlt]) (by omega)]
   rw[List.set_set]
   congr 2
   have e1:(r.set j x).take (j+1)=r.take j++[x]:=by
    rw[List.set_eq_take_append_cons_drop,if_pos (by omega),List.take_append]
    simp[List.take_take,show min (j+1) j=j by omega,show j+1-min j r.length=1 by omega]
   have e2:(r.set j x).drop (j+1+xs.length)=r.drop (j+(x::xs).length):=by
    rw[List.drop_set,if_pos (by omega)]
    congr 1
    simp;omega
   rw[e1,e2]
   simp
 have:=key xs 0 l r h hi (by omega)
 simpa using this
theorem aR.O2{T:TypeId}{k n:Nat}{v:Value}{rs:List (List Value)}{C A B:Hp}(hs:aR T k v rs C){i:Nat}{kd:IntKind}{r xs:List Value}(hr:rs[i]? =some r)(hx:xs.length=n∧n≤k)(h1:∀x∈xs,x.oneCell'=true){K:Hp→Prop}
 (hk:∀C',aR T k v (rs.set i (xs++r.drop n)) C'→K (A++(C'++B))):ah k v (.int kd (i:Int)) fun p=>aa 0 p fun q=>St n (A++(C++B)) q (.agg xs.toArray) K:=by
 have hi:=(List.getElem?_eq_some_iff.1 hr).1
 obtain⟨b',aL,rfl,rfl,aK⟩:=hs.pos (by omega)
 refine ah.nat hi (aa.mk ?_)
 have hg:(rs++aL)[i]? =some r:=by rw[List.getElem?_append_left hi];exact hr
 have e:(rs++aL).set i (xs++r.drop xs.length)=rs.set i (xs++r.drop n)++aL:=by rw[List.set_append_left _ _ hi,hx.1]
 refine St.mk (c':=rows (rs.set i (xs++r.drop n)++aL)) (H':=A++([(b',.cells (rows (rs.set i (xs++r.drop n)++aL)) T (0,0))]++B)) (((cK.head _).append B).bP A) (by simpa[Value.cells]using hx.1) ?_ (by simpa[Value.cells]using h1) ?_ ?_
 ·rw[bN aK,Nat.zero_add,Nat.add_zero,List.length_append]
  have:=Nat.mul_le_mul_right k (Nat.succ_le_of_lt hi)
  rw[Nat.succ_mul]at this
  have h2:rs.length*k≤(rs.length+aL.length)*k:=Nat.mul_le_mul_right k (by omega)
  omega
 ·simp only[Value.cells,Nat.zero_add,Nat.add_zero]
  rw[G0 aK hg (by omega),e]
 ·have uL:r.length=k:=aK r (List.mem_append_left _ (List.mem_of_getElem? hr))
  refine hk _ (aR.mk' (aL:=aL) (fun y hy=>?_) (by simp) (by simp))
  rcases List.mem_append.1 hy with hy|hy
  ·rcases List.mem_or_eq_of_mem_set hy with hy|rfl
   ·exact aK y (List.mem_append_left _ hy)
   ·simp;omega
  ·exact aK y (List.mem_append_right _ hy)
theorem aR.KW{T:TypeId}{k:Nat}{v:Value}{rs:List (List Value)}{C A B:Hp}(hs:aR T k v rs C){i:Nat}{kd:IntKind}{xs:List Value}(hi:i<rs.length)(hx:xs.length=k)(h1:∀x∈xs,x.oneCell'=true){K:Hp→Prop}
 (hk:∀C',aR T k v (rs.set i xs) C'→K (A++(C'++B))):ah k v (.int kd (i:Int)) fun p=>St k (A++(C++B)) p (.agg xs.toArray) K:=by
 obtain⟨b',aL,rfl,rfl,aK⟩:=hs.pos (by omega)
 refine ah.nat hi (St.row (l:=rs++aL) (((cK.head _).append B).bP A) aK (by simp;omega) hx h1 ?_)
 have e:(rs++aL).set i xs=rs.set i xs++aL:=by rw[List.set_append_left _ _ hi]
 rw[e]
 refine hk [(b',_)] (aR.mk' (aL:=aL) (fun y hy=>?_) (by simp) (by simp))
 rcases List.mem_append.1 hy with hy|hy
 ·rcases List.mem_or_eq_of_mem_set hy with hy|rfl
  ·exact aK y (List.mem_append_left _ hy)
  ·exact hx
 ·exact aK y (List.mem_append_right _ hy)
theorem aQ.ld{T:TypeId}{kd xh:IntKind}{v:Value}{l:List Int}{C:Hp}(hs:aQ T kd v l C){i:Nat}{x:Int}(hx:l[i]? =some x)(hC:∀y∈C,y∈H){K:Value→Prop}(hk:K (.int kd x)):ah 1 v (.int xh (i:Int)) fun p=>Ld H p K:=
 aR.Q7 hs (x:=.int kd x) (by simp[hx]) hC hk
theorem aQ.put{T:TypeId}{kd xh:IntKind}{v:Value}{l:List Int}{C A B:Hp}(hs:aQ T kd v l C){i:Nat}{x:Int}(hi:i<l.length){K:Hp→Prop}
 (hk:∀C',aQ T kd v (l.set i x) C'→K (A++(C'++B))):ah 1 v (.int xh (i:Int)) fun p=>St 1 (A++(C++B)) p (.int kd x) K:=by
 have hi':i<(l.map fun n=>[Value.int kd n]).length:=by simpa using hi
 obtain⟨b',aL,rfl,rfl,aK⟩:=aR.pos hs (by omega)
 refine ah.nat hi' ?_
 refine St.cell (l:=l.map (fun n=>[Value.int kd n])++aL) (i:=i) (k:=1) (j:=0) (r:=[.int kd l[i]]) (((cK.head _).append B).bP A) aK (by rw[List.getElem?_append_left hi'];simp[hi]) (by omega) rfl ?_
 have e:(l.map (fun n=>[Value.int kd n])++aL).set i ([Value.int kd l[i]].set 0 (.int kd x))=(l.set i x).map (fun n=>[Value.int kd n])++aL:=by
  rw[List.set_append_left _ _ hi',List.map_set];rfl
 rw[e]
 refine hk [(b',_)] (aR.mk' (aL:=aL) (fun r hr'=>?_) (by simp) (by simp))
 rcases List.mem_append.1 hr' with hr'|hr'
 ·obtain⟨y,_,rfl⟩:=List.mem_map.1 hr';rfl
 ·exact aK r (List.mem_append_right _ hr')
theorem aO.nil{H:Hp}:aO H []:=fun _ _ h=>h.kO
theorem aR.cut{T:TypeId}{k i:Nat}{v:Value}{rs:List (List Value)}{C:Hp}(hs:aR T k v rs C)(hi:i≤rs.length){kd:IntKind}{K:Value→Prop}(hk:∀v',aR T k v' (rs.take i) C→K v'):
  fU k v none (some (.int kd (i:Int))) K:=by
 by_cases hp:0<rs.length
 ·obtain⟨b',aL,rfl,rfl,aK⟩:=hs.pos hp
  refine fU.upto (by omega) (hk _ ?_)
  have e:rs++aL=rs.take i++(rs.drop i++aL):=by rw[←List.append_assoc,List.take_append_drop]
  rw[e]at aK⊢
  exact aR.mk' aK (by simp;omega) (by simp;omega)
 ·obtain rfl:rs=[]:=List.eq_nil_of_length_eq_zero (by omega)
  obtain rfl:i=0:=by simpa using hi
  obtain⟨a,c,rfl⟩:=hs.len
  exact fU.upto (Nat.zero_le _) (hk _ (by simpa using hs))
theorem aQ.cut{T:TypeId}{kd xh:IntKind}{i:Nat}{v:Value}{l:List Int}{C:Hp}(hs:aQ T kd v l C)(hi:i≤l.length){K:Value→Prop}(hk:∀v',aQ T kd v' (l.take i) C→K v'):
  fU 1 v none (some (.int xh (i:Int))) K:=
 aR.cut hs (by simpa using hi) fun v' h=>hk v' (by unfold aQ;rw[List.map_take];exact h)
end
end Go.Sx
namespace Go.Sx
open Go
section
variable {P:Program} {H C:Hp} {c:Hp→Hp}
theorem cz.split(h:cz C H c):∃A B,∀X,c X=A++(X++B):=by
 induction h with
 |here=>exact⟨[],[],fun X=>by simp⟩
 | @left A=>exact⟨[],A,fun X=>rfl⟩
 | @cons x H c h ih=>
  obtain⟨A,B,e⟩:=ih
  exact⟨x::A,B,fun X=>by show x::c X=_;rw[e];rfl⟩
 | @app A' H c h ih=>
  obtain⟨A,B,e⟩:=ih
  exact⟨A'++A,B,fun X=>by show A'++c X=_;rw[e,List.append_assoc]⟩
theorem cz.sub(h:cz C H c):∀x∈C,x∈H:=fun x hx=>by
 obtain⟨A,B,e⟩:=h.split
 rw[h.spec.1,e]
 exact List.mem_append_right _ (List.mem_append_left _ hx)
theorem aR.mK{elem k bytes:Nat}{zero:Value}{v:Value}{rs:List (List Value)}(h:aR elem k v rs C)(hh:cz C H c){xb:Nat}{r:List Value}{xT:TypeId}{fz:Nat×Nat}{xc:Nat}
 (hx:(xb,Obj.cells r.toArray xT fz)∈H)(hr:r.length=k)(h1:∀u∈r,u.oneCell'=true)(hz:∃z:List Value,zero.cells=z.toArray∧z.length=k)
 (hb:(rs.length+1)*bytes≤140737488355328)(bD:rs.length+1≤9223372036854775807){K:Value→Hp→Prop}
 (hk:∀v' C',aR elem k v' (rs++[r]) C'→K v' (c C')):App P elem k bytes zero H v (.slice (some ⟨xb,0,none⟩) 1 xc) K:=by
 obtain⟨A,B,e⟩:=hh.split
 have e2:=hh.spec.1
 rw[e]at e2
 subst e2
 exact h.Ci hx hr h1 hz hb bD fun v' C' ho=>by have:=hk v' C' ho;rwa [e]at this
theorem aQ.mK{T:TypeId}{kd:IntKind}{v:Value}{l:List Int}{bytes:Nat}(h:aQ T kd v l C)(hh:cz C H c){xb xc:Nat}{x:Int}{xT:TypeId}{fz:Nat×Nat}(hx:(xb,Obj.cells (aF kd [x]) xT fz)∈H)
 (hb:(l.length+1)*bytes≤140737488355328)(hm:l.length+1≤9223372036854775807){K:Value→Hp→Prop}(hk:∀v' C',aQ T kd v' (l++[x]) C'→K v' (c C')):App P T 1 bytes (.int kd 0) H v (.slice (some ⟨xb,0,none⟩) 1 xc) K:=by
 obtain⟨A,B,e⟩:=hh.split
 have e2:=hh.spec.1
 rw[e]at e2
 subst e2
 exact h.app hx hb hm fun v' C' ho=>by have:=hk v' C' ho;rwa [e]at this
theorem aQ.pS{T:TypeId}{kd:IntKind}{v x:Value}{l l2:List Int}{bytes:Nat}(h:aQ T kd v l C)(hh:cz C H c)(hx:cE kd H x l2)
 (hb:(l.length+l2.length)*bytes≤140737488355328)(hm:l.length+l2.length≤9223372036854775807){K:Value→Hp→Prop}(hk:∀v' C',aQ T kd v' (l++l2) C'→K v' (c C')):App P T 1 bytes (.int kd 0) H v x K:=by
 obtain⟨A,B,e⟩:=hh.split
 have e2:=hh.spec.1
 rw[e]at e2
 subst e2
 exact h.apps hx hb hm fun v' C' ho=>by have:=hk v' C' ho;rwa [e]at this
theorem aQ.ju{T:TypeId}{kd xh:IntKind}{v:Value}{l:List Int}(hs:aQ T kd v l C)(hh:cz C H c){i:Nat}{x:Int}(hi:i<l.length){K:Hp→Prop}
 (hk:∀C',aQ T kd v (l.set i x) C'→K (c C')):ah 1 v (.int xh (i:Int)) fun p=>St 1 H p (.int kd x) K:=by
 obtain⟨A,B,e⟩:=hh.split
 have e2:=hh.spec.1
 rw[e]at e2
 subst e2
 exact hs.put hi fun C' ho=>by have:=hk C' ho;rwa [e]at this
theorem aQ.one{T:TypeId}{kd:IntKind}{v:Value}{l:List Int}(h:aQ T kd v l C):v.oneCell'=true:=by obtain⟨a,c,e⟩:=aR.len h;rw[e];rfl
theorem fS(l:List Nat)(i x:Nat):(iw l).set i (x:Int)=iw (l.set i x):=by unfold iw;rw[List.map_set]
theorem bO(a b:List Nat):iw (a++b)=iw a++iw b:=by unfold iw;rw[List.map_append]
theorem bE{l:List Nat}{i:Nat}(h:i<l.length):(iw l)[i]? =some ((l.getD i 0:Nat):Int):=by
 rw[cy (List.getElem?_eq_getElem h)];simp[List.getD,List.getElem?_eq_getElem h]
end
end Go.Sx
namespace Go.Sx
open Go
theorem j7{p:Nat→Prop}(h:∃k,p k):∃k,p k∧∀j,p j→k≤j:=by
 obtain⟨k,hk⟩:=h
 induction k using Nat.strongRecOn with
 |_ k ih=>
  by_cases e:∃j,j<k∧p j
  ·obtain⟨j,hj,hp⟩:=e;exact ih j hj hp
  ·exact⟨k,hk,fun j hp=>Nat.le_of_not_lt fun hlt=>e ⟨j,hlt,hp⟩⟩
open Classical in
noncomputable def mj(J:Nat→List Value→Hp→Prop)(vs:List Value)(H:Hp):Nat:=if h:∃k,J k vs H then Classical.choose (j7 h)else 0
theorem Hx{J:Nat→List Value→Hp→Prop}{vs:List Value}{H:Hp}{k:Nat}(h:J k vs H):mj J vs H≤k:=by
 unfold mj
 rw[dif_pos ⟨k,h⟩]
 exact(Classical.choose_spec (j7 ⟨k,h⟩)).2 k h
theorem y3{J:Nat→List Value→Hp→Prop}{vs:List Value}{H:Hp}(h:∃k,J k vs H):J (mj J vs H) vs H:=by
 unfold mj
 rw[dif_pos h]
 exact(Classical.choose_spec (j7 h)).1
def mT(J:Nat→List Value→Hp→Prop):List Value→Hp→Prop:=fun vs H=>∃k,J k vs H
theorem mT.open{J:Nat→List Value→Hp→Prop}{vs:List Value}{H:Hp}(h:mT J vs H):∃k,J k vs H∧k=mj J vs H:=⟨_,y3 h,rfl⟩
theorem mT.mk{J:Nat→List Value→Hp→Prop}{vs:List Value}{H:Hp}(k:Nat)(h:J k vs H):JE (mT J) vs H:=JE.mk ⟨k,h⟩
theorem mT.back{J:Nat→List Value→Hp→Prop}{vs vs':List Value}{H H' H0:Hp}{k:Nat}(e:aO H H')(hk:k=mj J vs H0)(k':Nat)(h:J k' vs' H')(hlt:k'<k):ay (mT J) (mj J) vs' H vs H0:=
 ay.of e ⟨k',h⟩ (Nat.lt_of_le_of_lt (Hx h) (by omega))
theorem VO{vs:List Value}{H:Hp}{Q:(List Value→Hp→Prop)→(List Value→Hp→Nat)→Prop}(J:Nat→List Value→Hp→Prop)(k:Nat)(h:J k vs H)(hq:Q (mT J) (mj J)):
  ∃(I:List Value→Hp→Prop) (m:List Value→Hp→Nat),JE I vs H∧Q I m:=⟨_,_,mT.mk k h,hq⟩
section
variable {P:Program} {H:Hp}
theorem ax.VV{t e:Nat}{kd:IntKind}{x y:Int}{K:Value→Hp→Prop}(h1:P.underlying t=some (.slice e))(h2:dK P e=some 1)(h3:fj P e=some (.int kd 0))
 (h:∀b,K (.slice (some ⟨b,0,Option.none⟩) 2 2) ((b,.cells (aF kd [x,y]) e (0,0))::H)):ax P t 2 [(0,.int kd x),(1,.int kd y)] H K:=by
 refine⟨aF kd [x,y],e,1,_,h1,h2,h3,by decide,?_,fun b _=>h b⟩
 have e1:Array.range (2*1)=#[0,1]:=rfl
 simp[Instr.fill,Value.cells,aF,e1]
theorem G1(kd:IntKind)(l:List Int):rows (l.map fun n=>[Value.int kd n])=aF kd l:=by
 unfold rows aF
 congr 1
 induction l with
 |nil=>rfl
 |cons x l ih=>rw[List.map_cons,List.flatten_cons,ih];rfl
theorem aQ.made{T:TypeId}{kd:IntKind}{b:Nat}(l:List Int):aQ T kd (.slice (some ⟨b,0,none⟩) l.length l.length) l [(b,.cells (aF kd l) T (0,0))]:=by
 have:=aR.mk' (T:=T) (k:=1) (b:=b) (n:=l.length) (c:=l.length) (rs:=l.map fun n=>[Value.int kd n]) (aL:=[]) (fun r hr=>by
  rw[List.append_nil]at hr
  obtain⟨x,_,rfl⟩:=List.mem_map.1 hr;rfl) (by simp) (by simp)
 rw[List.append_nil,G1]at this
 exact this
end
end Go.Sx
namespace Go.Sx
open Go
section
variable {P:Program} {g:Gh}
structure JO where
 f:FuncId
 l:List Value
def si(P:Program)(g:Gh)(f:FuncId)(args:Array Value)(H:Hp)(R:Ending→Hp→Prop):Prop:=
 ∀w,Own g H w→∀u,CallsD P f args u w fun e u' w'=>u'=u∧∃H',Own g H' w'∧R e H'
def UD(P:Program)(g:Gh)(f:FuncId)(args:Array Value)(H:Hp)(K:Hp→Prop):Prop:=si P g f args H fun e H'=>(∃v,e=.returned v)∧K H'
def Ks(P:Program)(g:Gh)(K:Hp→Prop):List JO→Hp→Prop
 | [],H=>K H
 |x::r,H=>UD P g x.f x.l.toArray H (Ks P g K r)
def UC(P:Program)(o:Oper)(ρ:Operand→Value)(k:JO→Prop):Prop:=
 match o.op with
 | .defer c=>match c.callee with
  | .value x=>match ρ x with
   | .func (.func f) first cap=>cond (cP P f) (k ⟨f,first.toList++(c.args.toList.map ρ++cap.toList)⟩) False
   |_=>False
  |_=>False
 |_=>False
def LA:Code→Option (Array Oper×Oper)
 | .region _ ops false=>match ops.toList.getLast? with
  |some o=>match o.op with
   | .defer _=>some (ops,o)
   |_=>none
  |none=>none
 |_=>none
def MT(P:Program)(g:Gh)(fn:Func)(R:Ending→Hp→Prop)(dl:List JO):Exit→Fr→Hp→Prop
 | .normal,fr,H=>Ks P g (fun H'=>sR P fr H' fn.results.toList fun vs=>R (.returned (AZ vs)) H') dl H
 | .ret,fr,H=>Ks P g (fun H'=>sR P fr H' fn.results.toList fun vs=>R (.returned (AZ vs)) H') dl H
 |_,_,_=>False
def B6(P:Program)(g:Gh)(n:Nat)(E:List JO→Exit→Fr→Hp→Prop):Code→Hn→List JO→Fr→Hp→Prop
 | .seq x y,hn,dl,fr,H=>
  match LA x with
  |some (ops,o)=>cond (o.dst.isNone&&o.guard.isNone)
    (eI P g n ops false (ops.toList.length+1) false none [] ops.toList.dropLast fr H (fun _ fr' H'=>UC P o (ev fr') fun d=>B6 P g n E y hn.b (d::dl) fr' H') (fun _ _=>False)) False
  |none=>match hn.m with
   |0=>den P g n x hn.a (yp (B6 P g n E y hn.b dl) (E dl)) fr H
   |_=>cond (Pc x hn.I)
    (X8 hn.L.length (fun vs H'=>∀gs,B6 P g n E y hn.b dl (mix hn.L vs hn.I fr gs) H') fun J=>den P g n x hn.a (yp (fun fr' H'=>JE J (Av fr' hn.L) H') (E dl)) fr H) False
 |c,hn,dl,fr,H=>den P g n c hn (E dl) fr H
def MV(P:Program)(g:Gh)(fn:Func)(hn:Hn)(args:List Value)(H:Hp)(R:Ending→Hp→Prop):Prop:=
 match fn.body with
 |some c=>cond (Nat.ble args.length fn.ntmps) (B6 P g fn.ntmps (MT P g fn R) c hn [] (jc args 0) H) False
 |none=>False
def NoP:List PanicEntry→Hp→Prop:=fun _ _=>∀_:Fr,False
def DOK(P:Program)(x:JO)(d:Deferred):Prop:=∃cap args,d={target:=.fn (.func x.f) cap,args:=args}∧args++cap=x.l.toArray∧cP P x.f=true
inductive E8(P:Program):List JO→List Deferred→Prop
 |nil:E8 P [] []
 |cons {x d l ds} (h:DOK P x d) (hr:E8 P l ds):E8 P (x::l) (d::ds)
theorem sD{fn:Func}{tmps:Array Value}{K:Hp→Prop}{R:Ending→World→Prop}(hK:∀H w,Own g H w→K H→∃v,(results fn tmps).run P w=.ok v w∧R (.returned v) w):
  ∀{dl:List JO} {ds:List Deferred},E8 P dl ds→∀H w,Own g H w→Ks P g K dl H→Leaves P fn tmps R ds .returning w
 |_,_,.nil,H,w,hw,h=>hK H w hw h
 |_,_,.cons ⟨cap,args,hd,ha,hc⟩ hr,H,w,hw,h=>by
  subst hd
  refine leaves_cons (by simp) ?_ ((h w hw .returning).mono ?_)
  ·show(callFunc _ (args++cap)).run P w=_
   rw[ha]
   exact fi hc _ w
  ·rintro e u' w' ⟨rfl,H',ho,⟨v,rfl⟩,hk⟩
   exact sD hK hr H' w' ho hk
theorem oB{fn:Func}{R:Ending→Hp→Prop}{n:Nat}{dl:List JO}{ds:List Deferred}(hd:E8 P dl ds){e:Exit}{fr:Fr}{H:Hp}{a:Act}{w:World}(ha:cA ds n a fr)(hw:Own g H w)(h:MT P g fn R dl e fr H):
  bodyPostD P fn (fun e w'=>∃H',Own g H' w'∧R e H') e a w:=by
 have key:∀{H},Own g H w→Ks P g (fun H'=>sR P fr H' fn.results.toList fun vs=>R (.returned (AZ vs)) H') dl H→Leaves P fn a.tmps (fun e w'=>∃H',Own g H' w'∧R e H') a.defers .returning w:=fun hw h=>by
  rw[ha.defers]
  refine sD (fun H w hw h=>?_) hd _ _ hw h
  obtain⟨vs,hr,hk⟩:=gY ha hw h
  exact⟨_,hr,H,hw,hk⟩
 cases e with
 |normal=>exact key hw h
 |ret=>exact key hw h
 |panic ch=>exact h.elim
 |exit id=>exact h.elim
 |goto l=>exact h.elim
 |outgrown=>exact h.elim
theorem Bv{c:Code}{ops:Array Oper}{o:Oper}(h:LA c=some (ops,o)):∃id d,c=.region id ops false∧ops.toList=ops.toList.dropLast++[o]∧o.op=.defer d:=by
 unfold LA at h
 split at h
 ·rename_i id ops'
  split at h
  ·rename_i o' ho
   split at h
   ·rename_i d hd
    simp only[Option.some.injEq,Prod.mk.injEq]at h
    obtain⟨rfl,rfl⟩:=h
    refine⟨id,d,rfl,?_,hd⟩
    obtain⟨hne,e⟩:=List.getLast?_eq_some_iff.1 ho
    rw[e];simp
   ·cases h
  ·cases h
 ·cases h
theorem NN{o:Oper}{fr:Fr}{k:JO→Prop}(h:UC P o (ev fr) k):∃x d,k x∧DOK P x d∧∀w,(execOp (ev fr) o).run P w=.ok (.defer d) w:=by
 unfold UC at h
 split at h<;>try exact h.elim
 rename_i c hop
 split at h<;>try exact h.elim
 rename_i x hc
 split at h<;>try exact h.elim
 rename_i f first cap hx
 cases jL:cP P f<;>simp only[jL,cond_true,cond_false]at h
 refine⟨_,{target:=.fn (.func f) cap,args:=first++c.args.map (ev fr)},h,⟨cap,_,rfl,?_,jL⟩,fun w=>?_⟩
 ·apply Array.ext'
  simp
 ·simp only[execOp,hop,resolve,hc,hx,Deferred.ofValue,Sem.run_bind,Sem.run_pure,Result.andThen_ok]
theorem B5{n:Nat}{fn:Func}{R:Ending→Hp→Prop}:∀(c:Code) (hn:Hn) (dl:List JO) (fr:Fr) (H:Hp),B6 P g n (MT P g fn R) c hn dl fr H→∀(ds:List Deferred),E8 P dl ds→∀(a:Act) (w:World),cA ds n a fr→Own g H w→
  c.wp P (bodyPostD P fn fun e w'=>∃H',Own g H' w'∧R e H') a w:=by
 have plain:∀(c:Code) (hn:Hn) (dl:List JO) (fr:Fr) (H:Hp),den P g n c hn (MT P g fn R dl) fr H→∀(ds:List Deferred),E8 P dl ds→∀(a:Act) (w:World),cA ds n a fr→Own g H w→
   c.wp P (bodyPostD P fn fun e w'=>∃H',Own g H' w'∧R e H') a w:=fun c hn dl fr H h ds hd a w ha hw=>
  wp_mono (kx c hn _ fr H h a w ha hw) fun e a' w' ⟨fr',H',ej,dr,_,hq⟩=>oB hd ej dr hq
 intro c
 induction c with
 |seq x y _ ih=>
  intro hn dl fr H h ds hd a w ha hw
  unfold B6 at h
  split at h
  ·rename_i ops o hx
   obtain⟨id,d,rfl,hl,hop⟩:=Bv hx
   cases hc:(o.dst.isNone&&o.guard.isNone)<;>simp only[hc,cond_true,cond_false]at h
   simp only[Bool.and_eq_true,Option.isNone_iff_eq_none]at hc
   refine wp_seq (wp_region_list ?_)
   rw[hl]
   refine cI _ _ _ _ _ fr H _ _ h trivial (iu.nil fr) a w ha hw [o] _ ?_ ?_
   ·intro a' w' oN fr' H' ej dr _ _ hk
    refine wpList_plain hc.2 fun K hK=>?_
    obtain⟨x,dd,hx,hok,hrun⟩:=NN hk
    show o.upon P a' K _ ((execOp a'.eval o).run P w')
    rw[ej.eval,hrun]
    refine hK _ _ ?_
    refine ih _ _ fr' H' hx (dd::ds) (.cons hok hd) _ _ ?_ dr
    rw[hc.1]
    exact⟨congrArg _ ej.defers,ej.size,ej.get⟩
   ·intro ch a' w' fr' H' _ _ hk;exact hk.elim
  ·split at h
   ·refine wp_seq (wp_mono (kx x _ _ fr H h a w ha hw) ?_)
    rintro e a' w' ⟨fr',H',ej,dr,ho,hq⟩
    cases e with
    |normal=>exact ih _ _ fr' H' hq ds hd a' w' ej dr
    |ret=>exact oB (e:=.ret) hd ej dr hq
    |exit id=>exact hq.elim
    |goto l=>exact hq.elim
    |panic ch=>exact hq.elim
    |outgrown=>exact hq.elim
   ·cases hno:Pc x hn.I<;>simp only[hno,cond_true,cond_false]at h
    have h':=h (fun vs H'=>∀gs,B6 P g n (MT P g fn R) y hn.b dl (mix hn.L vs hn.I fr gs) H') (uG.intro (fun vs H' hh=>hh) _)
    refine wp_seq (wp_mono (kx x _ _ fr H h' a w ha hw) ?_)
    rintro e a' w' ⟨fr',H',ej,dr,ho,hq⟩
    cases e with
    |normal=>
     obtain⟨Hj,tx,hq⟩:=hq
     have PI:=hq fr'
     rw[ta fun s hs=>ho rfl s (s8 hno s hs)]at PI
     exact ih _ _ fr' Hj PI ds hd a' w' ej (tx _ _ dr)
    |ret=>exact oB (e:=.ret) hd ej dr hq
    |exit id=>exact hq.elim
    |goto l=>exact hq.elim
    |panic ch=>exact hq.elim
    |outgrown=>exact hq.elim
 |_=>intro hn dl fr H h;exact plain _ hn dl fr H h
theorem LC{args:List Value}{m:Nat}(hle:args.length≤m):cA [] m {tmps:=args.toArray++Array.replicate (m-args.toArray.size) undef,defers:=[]} (jc args 0):=by
 refine⟨rfl,by simp;omega,fun s=>?_⟩
 rw[kX,Array.getD_eq_getD_getElem?,Array.getElem?_append]
 simp only[List.size_toArray,Nat.not_lt_zero,if_false,Nat.sub_zero]
 by_cases hs:s<args.length
 ·simp[hs,List.getD]
 ·rw[if_neg hs,Array.getElem?_replicate]
  have:args.getD s undef=undef:=by simp[List.getD,List.getElem?_eq_none (Nat.le_of_not_lt hs)]
  rw[this]
  split<;>rfl
theorem zQ{f:FuncId}{fn:Func}{hn:Hn}{args:List Value}{H:Hp}{R:Ending→Hp→Prop}(hf:P.funcs[f]? =some fn)(h:MV P g fn hn args H R):ai P g f args.toArray H R:=by
 intro w hw
 unfold MV at h
 split at h<;>try exact h.elim
 rename_i c hc
 cases hl:Nat.ble args.length fn.ntmps<;>simp only[hl,cond_true,cond_false]at h
 exact calls_of_wp_defers hf hc (B5 c hn [] _ H h [] .nil _ w (LC (Nat.le_of_ble_eq_true hl)) hw)
theorem zP{f:FuncId}{fn:Func}{hn:Hn}{args:List Value}{H:Hp}{R:Ending→Hp→Prop}(hf:P.funcs[f]? =some fn)(h:Ii P g fn hn args H R):si P g f args.toArray H R:=by
 intro w hw u
 unfold Ii at h
 split at h<;>try exact h.elim
 rename_i c hc
 cases hl:Nat.ble args.length fn.ntmps<;>simp only[hl,cond_true,cond_false]at h
 refine callsD_of_wp hf hc (wp_mono (kx c hn _ _ H h _ w (LC (Nat.le_of_ble_eq_true hl)) hw) ?_)
 rintro e a' w' ⟨fr',H',ej,dr,_,hq⟩
 cases e with
 |normal=>obtain⟨vs,hr,hk⟩:=gY ej dr hq;exact⟨ej.defers,_,hr,H',dr,hk⟩
 |ret=>obtain⟨vs,hr,hk⟩:=gY ej dr hq;exact⟨ej.defers,_,hr,H',dr,hk⟩
 |panic ch=>exact⟨ej.defers,H',dr,hq⟩
 |exit id=>exact hq.elim
 |goto l=>exact hq.elim
 |outgrown=>exact hq.elim
abbrev Jt:=List Value→Hp→Prop
abbrev Mt:=List Value→Hp→Nat
abbrev Rt:=Ending→Hp→Prop
abbrev Hn.n(a b:Hn):Hn:=.h 0 [] [] a b
theorem ak{f:FuncId}{fn:Func}{hn:Hn}{args:List Value}{H:Hp}{R:Rt}{L:Prop}(hf:P.funcs[f]? =some fn)(h:L)(e:Ii P g fn hn args H R=L):ai P g f args.toArray H R:=B7 hf (e.mpr h)
theorem SO{f:FuncId}{fn:Func}{hn:Hn}{args:List Value}{H:Hp}{R:Rt}{L:Prop}(hf:P.funcs[f]? =some fn)(h:L)(e:MV P g fn hn args H R=L):ai P g f args.toArray H R:=zQ hf (e.mpr h)
theorem SP{f:FuncId}{fn:Func}{hn:Hn}{args:List Value}{H:Hp}{R:Rt}{L:Prop}(hf:P.funcs[f]? =some fn)(h:L)(e:Ii P g fn hn args H R=L):si P g f args.toArray H R:=zP hf (e.mpr h)
end
end Go.Sx
set_option maxRecDepth 100000
namespace Go.Proofs
open Go Go.Sx
variable {g:Gh} {a0 a1 a2 a3 a4 a5 a6 a7 a8 a9 rR rQ XN XM XL XK:Value} {H:Hp} {R:Rt}
abbrev pt(b:Nat):Value:=.pointer (some ⟨b,0,none⟩)
abbrev CF:=ag Tryz.prog
def hr(m:Nat)(T:List Nat):Nat→Nat→Hn→Hn
 |_,0,x=>x
 |i,k+1,x=>.h m [i] T (hr m T (i+1) k x) .e
def hN:Nat→Hn→Hn
 |0,x=>x
 |k+1,x=>.n .e (hN k x)
abbrev iv(n:Int):Value:=.int .i64 n
def L7(g:Gh)(a0 a1 a2:Value)(H:Hp)(R:Rt):Prop:=
CF g 39 #[] H (fun v1 H2=>
Un .not v1 fun v3=>
Br v3 (
R (.returned (Value.bool false)) H2) (
CF g 40 #[a0,a1,a2] H2 (fun v4 H5=>
Ext 0 v4 fun v6=>
Ext 1 v4 fun v7=>
CF g 41 #[a0,a1,a2] H5 (fun v8 H9=>
Ext 0 v8 fun v10=>
Ext 1 v8 fun v11=>
ae .num .eql v6 v10 fun aZ=>
cv aZ true (fun t13=>
ae .num .eql v7 v11 fun br=>
(H9=H9∧br=Value.bool t13)) (fun t13=>(Value.bool false)=Value.bool t13) fun t13=>∀BV:Fr,
R (.returned (Value.bool t13)) H9) (au R)) (au R))) (au R)
theorem NA(h:L7 g a0 a1 a2 H R):ai Tryz.prog g 7 #[a0,a1,a2] H R:=
 ak (hn:=(hN 4 (.n (.h 0 [] [1] .e .e) .e))) Tryz.func7 h (by kernel_rfl)
def L13(g:Gh)(a0:Value)(H:Hp)(R:Rt):Prop:=
ae .ptr .eql a0 (.pointer none) fun v1=>
Br v1 (
R (.returned (.slice none 0 0)) H) (
Nil a0 fun v2=>
aa 5 v2 fun v3=>
Ld H v3 fun v4=>
CF g 57 #[v4] H (fun v5 H6=>
R (.returned v5) H6) (au R))
theorem Jq(h:L13 g a0 H R):ai Tryz.prog g 13 #[a0] H R:=
 ak (hn:=.e) Tryz.func13 h (by kernel_rfl)
def L14(g:Gh)(a0:Value)(H:Hp)(R:Rt):Prop:=
ae .num .eql a0 (iv 2) fun v1=>
Br v1 (
ax Tryz.prog 25 1 [(0,(iv 0))] H fun v2 H3=>
R (.returned (.tuple #[v2,(iv 0)])) H3) (
ae .num .eql a0 (iv 3) fun v4=>
Br v4 (
ax Tryz.prog 25 5 [(0,(iv 1)),(1,(iv 0)),(2,(iv 1)),(3,(iv 0)),(4,(iv 1))] H fun v5 H6=>
R (.returned (.tuple #[v5,(iv 0)])) H6) (
ae .num .eql a0 (iv 4) fun v7=>
Br v7 (
ax Tryz.prog 25 23 [(0,(iv 2)),(1,(iv 1)),(2,(iv 0)),(3,(iv 2)),(4,(iv 0)),(5,(iv 1)),(6,(iv 2)),(7,(iv 0)),(8,(iv 2)),(9,(iv 1)),(10,(iv 0)),(11,(iv 2)),(12,(iv 0)),(13,(iv 1)),(14,(iv 2)),(15,(iv 0)),(16,(iv 2)),(17,(iv 1)),(18,(iv 0)),(19,(iv 2)),(20,(iv 0)),(21,(iv 1)),(22,(iv 2))] H fun v8 H9=>
R (.returned (.tuple #[v8,(iv 0)])) H9) (
R (.returned (.tuple #[(.slice none 0 0),(iv 1)])) H)))
theorem Jp(h:L14 g a0 H R):ai Tryz.prog g 14 #[a0] H R:=
 ak (hn:=.e) Tryz.func14 h (by kernel_rfl)
def L15(g:Gh)(a0:Value)(H:Hp)(R:Rt):Prop:=
ae .ptr .eql a0 (.pointer none) fun v1=>
Br v1 (
R (.returned (iv 0)) H) (
Nil a0 fun v2=>
aa 0 v2 fun v3=>
aa 0 v3 fun v4=>
Ld H v4 fun v5=>
CF g 58 #[v5] H (fun v6 H7=>
ae .num .sub v6 (iv 2) fun v8=>
R (.returned v8) H7) (au R))
theorem Jo(h:L15 g a0 H R):ai Tryz.prog g 15 #[a0] H R:=
 ak (hn:=.e) Tryz.func15 h (by kernel_rfl)
def L17(g:Gh)(a0 a1:Value)(H:Hp)(R:Rt):Prop:=
ae .ptr .eql a0 (.pointer none) fun v1=>
Br v1 (
R (.returned (iv 10)) H) (
ae .num .lss a1 (iv 0) fun v2=>
cv v2 false (fun t3=>
Nil a0 fun v4=>
aa 4 v4 fun v5=>
Ld H v5 fun v6=>
ae .num .sub v6 (iv 2) fun v7=>
ae .num .gtr a1 v7 fun v8=>
(H=H∧v8=Value.bool t3)) (fun t3=>(Value.bool true)=Value.bool t3) fun t3=>∀RS:Fr,
Br (Value.bool t3) (
R (.returned (iv 1)) H) (
CF g 59 #[a0,a1] H (fun v10 dX=>
Un .not v10 fun aZ=>
Br aZ (
R (.returned (iv 9)) dX) (
Nil a0 fun bj=>
aa 7 bj fun br=>
Ld dX br fun bB=>
ax Tryz.prog 25 1 [(0,a1)] dX fun bM fN=>
App Tryz.prog 3 1 8 (iv 0) fN bB bM fun v20 dZ=>
Nil a0 fun cB=>
aa 7 cB fun cf=>
St 1 dZ cf v20 fun iy=>
R (.returned (iv 0)) iy)) (au R)))
theorem Jn(h:L17 g a0 a1 H R):ai Tryz.prog g 17 #[a0,a1] H R:=
 ak (hn:=(.n .e (.n (.n (.n .e (.n .e (.n (.h 0 [] [1] .e .e) .e))) .e) .e))) Tryz.func17 h (by kernel_rfl)
def L18(g:Gh)(a0:Value)(H:Hp)(R:Rt):Prop:=
ae .ptr .eql a0 (.pointer none) fun v1=>
cv v1 false (fun t2=>
Nil a0 fun v3=>
aa 7 v3 fun v4=>
Ld H v4 fun v5=>
aG v5 fun v6=>
ae .num .eql v6 (iv 0) fun v7=>
(H=H∧v7=Value.bool t2)) (fun t2=>(Value.bool true)=Value.bool t2) fun t2=>∀FW:Fr,
Br (Value.bool t2) (
R (.returned (.tuple #[(iv 0),(iv 10)])) H) (
Nil a0 fun v9=>
aa 7 v9 fun v10=>
Ld H v10 fun v11=>
aG v11 fun aZ=>
ae .num .sub aZ (iv 1) fun bj=>
Nil a0 fun br=>
aa 7 br fun bB=>
Ld H bB fun bM=>
ah 1 bM bj fun bH=>
Ld H bH fun bY=>
CF g 59 #[a0,bY] H (fun bK jk=>
Nil a0 fun bX=>
aa 7 bX fun cB=>
Ld jk cB fun cf=>
fU 1 cf none (some bj) fun cm=>
Nil a0 fun cD=>
aa 7 cD fun cG=>
St 1 jk cG cm fun iP=>
R (.returned (.tuple #[bY,(iv 0)])) iP) (au R))
theorem Jm(h:L18 g a0 H R):ai Tryz.prog g 18 #[a0] H R:=
 ak (hn:=(.n .e (.n (.n (.h 0 [] [1] .e .e) .e) .e))) Tryz.func18 h (by kernel_rfl)
variable {g:Gh} {a0 a1 a2 a3 a4 a5 a6 a7 a8 a9 rR rQ XN XM XL XK:Value} {H:Hp} {R:Rt}
def L22(g:Gh)(a0 a1:Value)(H:Hp)(R:Rt):Prop:=
bA H (.cells #[(iv 0),(iv 0),(iv 0),(Value.bool false)] 42 (0,0)) fun b1 H2=>
CF g 60 #[a0,a1] H2 (fun v3 H4=>
ae .num .neq v3 (iv 0) fun v5=>
Br v5 (
Build Tryz.prog 42 [] fun v6=>
St 4 H4 (pt b1) v6 fun H7=>
aA 4 H7 (pt b1) fun v8=>
R (.returned (.tuple #[v8,v3])) H7) (
CF g 62 #[a0,a1] H4 (fun v9 dG=>
CF g 68 #[v9,a0,a1] dG (fun v11 fA=>
Nil v9 fun bj=>
aa 1 bj fun br=>
aA 4 fA br fun bB=>
St 4 fA (pt b1) bB fun eo=>
aA 4 eo (pt b1) fun bH=>
R (.returned (.tuple #[bH,(iv 0)])) eo) (au R)) (au R))) (au R)
theorem Jl(h:L22 g a0 a1 H R):ai Tryz.prog g 22 #[a0,a1] H R:=
 ak (hn:=.e) Tryz.func22 h (by kernel_rfl)
def L25(g:Gh)(a0:Value)(H:Hp)(R:Rt):Prop:=
bA H (.cells #[(iv 0),(iv 0),(iv 0),(Value.bool false)] 42 (0,0)) fun b1 H2=>
ae .ptr .eql a0 (.pointer none) fun v3=>
Br v3 (
Build Tryz.prog 42 [] fun v4=>
St 4 H2 (pt b1) v4 fun H5=>
aA 4 H5 (pt b1) fun v6=>
R (.returned (.tuple #[v6,(iv 10)])) H5) (
CF g 61 #[a0] H2 (fun v7 H8=>
ae .num .gtr v7 (iv 12) fun v9=>
Br v9 (
Build Tryz.prog 42 [] fun v10=>
St 4 H8 (pt b1) v10 fun dX=>
aA 4 dX (pt b1) fun aZ=>
R (.returned (.tuple #[aZ,(iv 6)])) dX) (
CF g 70 #[a0] H8 (fun bj fk=>
aG bj fun bB=>
∃(I16:Jt) (m17:Mt),JE I16 [(.slice none 0 0),(iv 0)] fk∧∀oT Al:Value,∀iz:Hp,I16 [oT,Al] iz→∀MB:Fr,
ae .num .lss Al bB fun cB=>
Br cB (
ah 1 bj Al fun cf=>
Ld iz cf fun cm=>
CF g 71 #[a0,cm] iz (fun cD jP=>
Ext 0 cD fun cQ=>
Ext 1 cD fun dx=>
bA jP (.cells #[(iv 0),(.slice none 0 0)] 57 (0,0)) fun Zh jj=>
St 2 jj (pt Zh) cQ fun lA=>
aA 2 lA (pt Zh) fun dU=>
ax Tryz.prog 28 1 [(0,dU)] lA fun e8 nX=>
App Tryz.prog 57 2 32 (.agg #[(iv 0),(.slice none 0 0)]) nX oT e8 fun eE lU=>
ae .num .add Al (iv 1) fun fO=>
ay I16 m17 [eE,fO] lU [oT,Al] iz) (au R)) (
CF g 15 #[a0] iz (fun eZ xW=>
CF g 26 #[oT] xW (fun gE E6=>
Ext 0 gE fun gi=>
Ext 1 gE fun ig=>
Ext 2 gE fun iT=>
ae .num .eql eZ gi fun jU=>
Br jU (
Build Tryz.prog 42 [(0,eZ),(1,eZ),(3,(Value.bool true))] fun jT=>
St 4 E6 (pt b1) jT fun xV=>
aA 4 xV (pt b1) fun jA=>
R (.returned (.tuple #[jA,(iv 0)])) xV) (
CF g 42 #[a0,ig] E6 (fun jt RZ=>
Ext 0 jt fun oL=>
Ext 1 jt fun nZ=>
CF g 15 #[a0] RZ (fun lO Ae=>
ae .num .eql nZ (iv 0) fun rG=>
Build Tryz.prog 42 [(0,eZ),(1,lO),(2,oL),(3,rG)] fun rU=>
St 4 Ae (pt b1) rU fun NJ=>
aA 4 NJ (pt b1) fun sr=>
R (.returned (.tuple #[sr,(iv 0)])) NJ) (au R)) (au R))) (au R)) (au R))) (au R))) (au R))
theorem Jk(h:L25 g a0 H R):ai Tryz.prog g 25 #[a0] H R:=
 ak (hn:=(hN 4 (.n (.n .e (.n (.h 0 [4,25] [0,2,23,24] .e .e) .e)) .e))) Tryz.func25 h (by kernel_rfl)
def L26(g:Gh)(a0:Value)(H:Hp)(R:Rt):Prop:=
CF g 72 #[a0] H (fun v1 H2=>
Ext 0 v1 fun v3=>
Ext 1 v1 fun v4=>
ae .num .neq v4 (iv 0) fun v5=>
Br v5 (
R (.returned (.tuple #[(iv 0),(.slice none 0 0),v4])) H2) (
Nil v3 fun v6=>
aa 1 v6 fun v7=>
Ld H2 v7 fun v8=>
ae .num .gtr v8 (iv 12) fun v9=>
Br v9 (
R (.returned (.tuple #[(iv 0),(.slice none 0 0),(iv 6)])) H2) (
∃(wD:Jt) (NZ:Mt),JE wD [(.slice none 0 0),(iv 0)] H2∧∀kG lW:Value,∀cZ:Hp,wD [kG,lW] cZ→∀HV:Fr,
aG kG fun bM=>
Nil v3 fun bH=>
aa 1 bH fun bY=>
Ld cZ bY fun bK=>
ae .num .lss bM bK fun v20=>
Br v20 (
Nil v3 fun bX=>
aa 1 bX fun cB=>
Ld cZ cB fun cf=>
∃(I24:Jt) (m25:Mt),JE I24 [kG,lW,(iv 0)] cZ∧∀uQ vm Ak:Value,∀iP:Hp,I24 [uQ,vm,Ak] iP→∀Xs:Fr,
ae .num .lss Ak cf fun eJ=>
Br eJ (
∀J32:Jt,(∀Jx:Value,∀nX:Hp,(∀aic:Fr,
Br Jx (
ax Tryz.prog 25 1 [(0,Ak)] nX fun ew rE=>
App Tryz.prog 3 1 8 (iv 0) rE uQ ew fun eZ xW=>
ae .num .shl (iv 1) Ak fun gE=>
ae .num .or vm gE fun fW=>
ay wD NZ [eZ,fW] xW [kG,lW] cZ) (
ae .num .add Ak (iv 1) fun gi=>
ay I24 m25 [uQ,vm,gi] nX [uQ,vm,Ak] iP))→J32 [Jx] nX)→
DR iP fun Zk=>
ae .num .shr vm Ak fun iT=>
ae .num .and iT (iv 1) fun jU=>
ae .num .eql jU (iv 0) fun jT=>
Br jT (
ae .num .shl (iv 1) Ak fun jo=>
ae .num .or vm jo fun jA=>
∀F51:Hp,
CF (g.add F51) 73 #[v3,vm,Ak] iP (fun jm xS=>
∀F54:Hp,
CF (g.add F54) 74 #[v3,jA] xS (fun lO Ae=>
ae .num .add jm lO fun rG=>
∀F58:Hp,
CF (g.add F58) 74 #[v3,vm] Ae (fun AO Zt=>
ae .num .eql rG AO fun wG=>
aD (Value.bool true) wG (Value.bool false) fun yh=>
JE J32 [yh] Zt) aU) aU) aU) (
JE J32 [(Value.bool false)] iP)) (
ay wD NZ [uQ,vm] iP [kG,lW] cZ)) (
CF g 74 #[v3,(iv 0)] cZ (fun p8 wE=>
R (.returned (.tuple #[p8,kG,(iv 0)])) wE) (au R))))) (au R)
theorem Jj(h:L26 g a0 H R):ai Tryz.prog g 26 #[a0] H R:=
 ak (hn:=(hN 6 (.n (.n (.h 0 [7,8] [5] (.n .e (.n (.n .e (.n (.h 0 [7,8,34] [5,33] (.n .e (.n .e (.n (.n (.n .e (.h 1 [58] [5,7,8,9,33,34] (.h 1 [] [] (hr 0 [] 0 5 (.h 2 [5] [] (hr 0 [] 6 3 (hr 0 [] 10 5 (hr 0 [] 17 2 (.h 0 [9] [] (hr 0 [] 15 2 (hr 0 [] 19 3 .e)) .e)))) (hr 0 [] 6 15 (.h 3 [21] [] .e .e)))) .e) .e)) .e) .e))) .e) .e)) .e)) .e) .e) .e))) Tryz.func26 h (by kernel_rfl)
def L28(g:Gh)(a0:Value)(H:Hp)(R:Rt):Prop:=
bA H (.cells (Value.cells a0) 57 (0,0)) fun b1 H2=>
∀J3:Jt,(∀w6:Value,∀H5:Hp,(∀ya:Fr,
Br w6 (
R (.returned (Value.bool false)) H5) (
aa 0 (pt b1) fun v7=>
Ld H5 v7 fun v8=>
ae .num .geq v8 (iv 6) fun v9=>
cv v9 false (fun t10=>
aa 1 (pt b1) fun v11=>
Ld H5 v11 fun aZ=>
ah 1 aZ (iv 0) fun bj=>
Ld H5 bj fun br=>
aa 0 (pt b1) fun bB=>
Ld H5 bB fun bM=>
ae .num .shl (Value.int .u64 1) bM fun bH=>
ae .num .shr br bH fun bY=>
ae .num .eql bY (Value.int .u64 0) fun bK=>
(H5=H5∧bK=Value.bool t10)) (fun t10=>(Value.bool true)=Value.bool t10) fun t10=>∀HU:Fr,
R (.returned (Value.bool t10)) H5))→J3 [w6] H5)→
DR H2 fun XS=>
aa 0 (pt b1) fun cB=>
Ld XS cB fun cf=>
ae .num .lss cf (iv 0) fun cm=>
Br cm (
JE J3 [(Value.bool true)] H2) (
aa 0 (pt b1) fun cD=>
Ld XS cD fun cG=>
ae .num .gtr cG (iv 16) fun cQ=>
aD (Value.bool false) (Value.bool true) cQ fun dx=>
Br dx (
JE J3 [(Value.bool true)] H2) (
aa 1 (pt b1) fun dw=>
Ld XS dw fun v30=>
aG v30 fun eJ=>
aa 0 (pt b1) fun dU=>
Ld XS dU fun e8=>
∀Zu:Hp,
CF (g.add Zu) 81 #[e8] H2 (fun fp rF=>
aO rF XS∧
ae .num .neq eJ fp fun eE=>
aD (Value.bool false) (Value.bool true) eE fun fB=>
JE J3 [fB] rF) aU))
theorem Ji(h:L28 g a0 H R):ai Tryz.prog g 28 #[a0] H R:=
 ak (hn:=(.n .e (.n (.h 1 [19] [1] (.h 1 [] [] (hr 0 [] 0 3 (.h 2 [3] [] (hr 0 [] 4 3 (hr 3 [] 7 2 (hr 0 [] 9 7 (.h 3 [16] [] .e .e)))) (hr 0 [] 4 4 (.h 2 [8] [] (hr 0 [] 9 7 (.h 3 [16] [] .e .e)) (hr 0 [] 9 8 .e))))) .e) .e) .e))) Tryz.func28 h (by kernel_rfl)
def L34(g:Gh)(a0:Value)(H:Hp)(R:Rt):Prop:=
ae .ptr .eql a0 (.pointer none) fun v1=>
Br v1 (
R (.returned (iv 0)) H) (
Nil a0 fun v2=>
aa 7 v2 fun v3=>
Ld H v3 fun v4=>
aG v4 fun v5=>
R (.returned v5) H)
theorem Jh(h:L34 g a0 H R):ai Tryz.prog g 34 #[a0] H R:=
 ak (hn:=.e) Tryz.func34 h (by kernel_rfl)
def L36(g:Gh)(a0 a1:Value)(H:Hp)(R:Rt):Prop:=
bA H (.cells (Value.cells a0) 57 (0,0)) fun b1 H2=>
bA H2 (.cells (Value.cells a1) 57 (0,0)) fun b3 H4=>
aa 0 (pt b1) fun v5=>
Ld H4 v5 fun v6=>
aa 0 (pt b3) fun v7=>
Ld H4 v7 fun v8=>
ae .num .neq v6 v8 fun v9=>
cv v9 false (fun t10=>
aa 1 (pt b1) fun v11=>
Ld H4 v11 fun aZ=>
aG aZ fun bj=>
aa 1 (pt b3) fun br=>
Ld H4 br fun bB=>
aG bB fun bM=>
ae .num .neq bj bM fun bH=>
(H4=H4∧bH=Value.bool t10)) (fun t10=>(Value.bool true)=Value.bool t10) fun t10=>∀MB:Fr,
Br (Value.bool t10) (
R (.returned (Value.bool false)) H4) (
∃(I19:Jt) (m20:Mt),JE I19 [(iv 0)] H4∧∀lN:Value,∀fy:Hp,I19 [lN] fy→∀Xt:Fr,
aa 1 (pt b1) fun cm=>
Ld fy cm fun cD=>
aG cD fun cG=>
ae .num .lss lN cG fun cQ=>
Br cQ (
aa 1 (pt b1) fun dx=>
Ld fy dx fun dw=>
ah 1 dw lN fun v30=>
Ld fy v30 fun eJ=>
aa 1 (pt b3) fun dU=>
Ld fy dU fun e8=>
ah 1 e8 lN fun e7=>
Ld fy e7 fun fp=>
ae .num .neq eJ fp fun ew=>
Br ew (
R (.returned (Value.bool false)) fy) (
ae .num .add lN (iv 1) fun eE=>
ay I19 m20 [eE] fy [lN] fy)) (
R (.returned (Value.bool true)) fy))
theorem Jg(h:L36 g a0 a1 H R):ai Tryz.prog g 36 #[a0,a1] H R:=
 ak (hn:=(.n .e (.n (.n (.h 0 [] [1] .e .e) .e) (.n (.n .e (.n (.h 0 [5] [2,3] .e .e) .e)) .e)))) Tryz.func36 h (by kernel_rfl)
def L39(g:Gh)(H:Hp)(R:Rt):Prop:=
ax Tryz.prog 87 3 [(0,(Value.int .u8 1)),(1,(Value.int .u8 3)),(2,(Value.int .u8 6))] H fun v1 H2=>
aG v1 fun v3=>
∃(I4:Jt) (m5:Mt),JE I4 [(iv 0)] H2∧∀w8:Value,∀H7:Hp,I4 [w8] H7→∀JH:Fr,
ae .num .lss w8 v3 fun v9=>
Br v9 (
ah 1 v1 w8 fun v10=>
Ld H7 v10 fun v11=>
ax Tryz.prog 25 4 [(0,(iv 0)),(1,(iv 2)),(2,(iv 1)),(3,(iv 3))] H7 fun aZ cZ=>
CF g 53 #[] cZ (fun br c6=>
ax Tryz.prog 28 1 [(0,br)] c6 fun bM fN=>
CF g 52 #[(iv 100),aZ,bM] fN (fun bY iz=>
Ext 0 bY fun v20=>
Ext 1 bY fun bX=>
Ext 2 bY fun cB=>
bA iz (.cells #[(.pointer none),(.pointer none),(.slice none 0 0),(.slice none 0 0)] 98 (0,0)) fun Ue iy=>
St 4 iy (pt Ue) v20 fun dW=>
Un .not cB fun cG=>
Br cG (
R (.returned (Value.bool false)) dW) (
aa 0 (pt Ue) fun cQ=>
Ld dW cQ fun dx=>
CF g 49 #[dx,v11,(iv 200)] dW (fun dw jj=>
Ext 0 dw fun eJ=>
Ext 1 dw fun dU=>
bA jj (.cells #[(iv 0),(iv 0),(iv 0),(Value.bool false)] 42 (0,0)) fun JK nX=>
St 4 nX (pt JK) eJ fun jO=>
∀yd:Jt,(∀NU:Value,∀lU:Hp,(∀Xp:Fr,
Br NU (
R (.returned (Value.bool false)) lU) (
ae .num .add w8 (iv 1) fun eZ=>
ay I4 m5 [eZ] lU [w8] H7))→yd [NU] lU)→
ae .num .neq dU (iv 0) fun fo=>
Split fo false (
aa 0 (pt JK) fun gE=>
Ld jO gE fun fW=>
ae .num .neq fW (iv 6) fun gi=>
aD (Value.bool false) (Value.bool true) gi fun ig=>
Split ig false (
aa 1 (pt JK) fun iT=>
Ld jO iT fun jU=>
ae .num .neq jU (iv 4) fun jT=>
aD (Value.bool false) (Value.bool true) jT fun jo=>
Split jo false (
aa 0 (pt Ue) fun jA=>
Ld jO jA fun jt=>
CF g 15 #[jt] jO (fun jm xS=>
ae .num .neq jm (iv 4) fun nZ=>
aD (Value.bool false) (Value.bool true) nZ fun lO=>
Split lO false (
aa 3 (pt JK) fun p9=>
Ld xS p9 fun rG=>
ae .num .eql v11 (Value.int .u8 6) fun rU=>
ae .bool .neq rG rU fun AO=>
aD (Value.bool false) (Value.bool true) AO fun sr=>
JE yd [sr] xS) (
aD (Value.bool true) (Value.bool true) undef fun wG=>
JE yd [wG] xS)) (au R)) (
aD (Value.bool true) (Value.bool true) undef fun yh=>
aD yh (Value.bool true) undef fun p8=>
JE yd [p8] jO)) (
aD (Value.bool true) (Value.bool true) undef fun AN=>
aD AN (Value.bool true) undef fun uR=>
aD uR (Value.bool true) undef fun sq=>
JE yd [sq] jO)) (
aD (Value.bool true) (Value.bool true) undef fun x4=>
aD x4 (Value.bool true) undef fun vq=>
aD vq (Value.bool true) undef fun AM=>
aD AM (Value.bool true) undef fun rT=>
JE yd [rT] jO)) (au R))) (au R)) (au R)) (
CF g 40 #[(iv 4),(iv 10),(Value.int .u8 2)] H7 (fun Ap QK=>
Ext 0 Ap fun Ao=>
Ext 1 Ap fun Ka=>
ae .num .eql Ka (iv 0) fun An=>
cv An true (fun t76=>
ae .num .eql Ao (iv 396) fun Am=>
(QK=QK∧Am=Value.bool t76)) (fun t76=>(Value.bool false)=Value.bool t76) fun t76=>∀ahW:Fr,
R (.returned (Value.bool t76)) QK) (au R))
theorem Jf(h:L39 g H R):ai Tryz.prog g 39 #[] H R:=
 ak (hn:=(.n .e (.n (.n .e (.n (.h 0 [12] [10,11] (.n .e (.n .e (.n (.n (hN 4 (.h 1 [57] [10,11,12] .e .e)) .e) .e))) .e) .e)) (.n .e (.n (.h 0 [] [1] .e .e) .e))))) Tryz.func39 h (by kernel_rfl)
def L40(g:Gh)(a0 a1 a2:Value)(H:Hp)(R:Rt):Prop:=
ae .num .lss a0 (iv 1) fun v1=>
cv v1 false (fun t2=>
ae .num .gtr a0 (iv 64) fun v3=>
(H=H∧v3=Value.bool t2)) (fun t2=>(Value.bool true)=Value.bool t2) fun t2=>∀ya:Fr,
cv (Value.bool t2) false (fun t5=>
ae .num .lss a1 (iv 0) fun v6=>
(H=H∧v6=Value.bool t5)) (fun t5=>(Value.bool true)=Value.bool t5) fun t5=>∀Qb:Fr,
cv (Value.bool t5) false (fun t8=>
ae .num .gtr a1 (iv 1048576) fun v9=>
(H=H∧v9=Value.bool t8)) (fun t8=>(Value.bool true)=Value.bool t8) fun t8=>∀qw:Fr,
cv (Value.bool t8) false (fun t11=>
ae .num .gtr a2 (Value.int .u8 6) fun aZ=>
(H=H∧aZ=Value.bool t11)) (fun t11=>(Value.bool true)=Value.bool t11) fun t11=>∀MC:Fr,
Br (Value.bool t11) (
R (.returned (.tuple #[(iv 0),(iv 1)])) H) (
ae .num .eql a2 (Value.int .u8 1) fun br=>
Br br (
ae .num .mul (iv 3) a0 fun bB=>
ae .num .sub a0 (iv 1) fun bM=>
ae .num .mul bB bM fun bH=>
R (.returned (.tuple #[bH,(iv 0)])) H) (
ae .num .eql a2 (Value.int .u8 2) fun bY=>
Br bY (
ae .num .mul (iv 3) a0 fun bK=>
ae .num .sub a0 (iv 1) fun v20=>
ae .num .mul bK v20 fun bX=>
ae .num .add a1 (iv 1) fun cB=>
ae .num .mul bX cB fun cf=>
R (.returned (.tuple #[cf,(iv 0)])) H) (
∀Up:Jt,(∀AH:Value,∀jP:Hp,(∀acy:Fr,
Br AH (
CF g 100 #[a2] jP (fun dx kD=>
∃(I30:Jt) (m31:Mt),JE I30 [(iv 1),(iv 2)] kD∧∀xY Jx:Value,∀ie:Hp,I30 [xY,Jx] ie→∀T6:Fr,
ae .num .leq Jx dx fun ew=>
Br ew (
ae .num .mul xY Jx fun eE=>
ae .num .add Jx (iv 1) fun fB=>
ay I30 m31 [eE,fB] ie [xY,Jx] ie) (
ae .num .sub a0 dx fun fO=>
ae .num .add fO (iv 1) fun eZ=>
xQ (iv 0) eZ fun fo=>
ae .num .mul fo (iv 2) fun gE=>
ae .num .sub xY (iv 1) fun fW=>
ae .num .mul gE fW fun gi=>
R (.returned (.tuple #[gi,(iv 0)])) ie)) (au R)) (
ae .num .eql a2 (Value.int .u8 6) fun ig=>
Br ig (
ae .num .sub a0 (iv 1) fun iT=>
ae .num .mul a0 iT fun jU=>
R (.returned (.tuple #[jU,(iv 0)])) jP) (
R (.returned (.tuple #[(iv 0),(iv 0)])) jP)))→Up [AH] jP)→
ae .num .eql a2 (Value.int .u8 3) fun jT=>
Br jT (
JE Up [jT] H) (
ae .num .eql a2 (Value.int .u8 4) fun jo=>
Br jo (
JE Up [jo] H) (
ae .num .eql a2 (Value.int .u8 5) fun jA=>
JE Up [jA] H)))))
theorem Je(h:L40 g a0 a1 a2 H R):ai Tryz.prog g 40 #[a0,a1,a2] H R:=
 ak (hn:=(.n .e (.n (.n (.h 0 [] [1] .e .e) .e) (.n .e (.n (.n .e (.n (hN 4 (.h 1 [49] [2,8,31] .e (.n (.n .e (.n .e (.n (.n .e (.n (.h 0 [10,11] [8,9] .e .e) .e)) .e))) .e))) .e)) .e))))) Tryz.func40 h (by kernel_rfl)
def L41(g:Gh)(a0 a1 a2:Value)(H:Hp)(R:Rt):Prop:=
ae .num .lss a0 (iv 1) fun v1=>
cv v1 false (fun t2=>
ae .num .gtr a0 (iv 64) fun v3=>
(H=H∧v3=Value.bool t2)) (fun t2=>(Value.bool true)=Value.bool t2) fun t2=>∀ya:Fr,
cv (Value.bool t2) false (fun t5=>
ae .num .lss a1 (iv 0) fun v6=>
(H=H∧v6=Value.bool t5)) (fun t5=>(Value.bool true)=Value.bool t5) fun t5=>∀Qb:Fr,
cv (Value.bool t5) false (fun t8=>
ae .num .gtr a1 (iv 1048576) fun v9=>
(H=H∧v9=Value.bool t8)) (fun t8=>(Value.bool true)=Value.bool t8) fun t8=>∀qw:Fr,
cv (Value.bool t8) false (fun t11=>
ae .num .gtr a2 (Value.int .u8 6) fun aZ=>
(H=H∧aZ=Value.bool t11)) (fun t11=>(Value.bool true)=Value.bool t11) fun t11=>∀MC:Fr,
Br (Value.bool t11) (
R (.returned (.tuple #[(iv 0),(iv 1)])) H) (
∀rS:Jt,(∀vn:Value,∀eo:Hp,(∀BV:Fr,
xQ vn (iv 0) fun bY=>
R (.returned (.tuple #[bY,(iv 0)])) eo)→rS [vn] eo)→
ae .num .eql a2 (Value.int .u8 1) fun bK=>
Br bK (
ae .num .mul (iv 3) a0 fun v20=>
ae .num .sub a0 (iv 1) fun bX=>
ae .num .mul v20 bX fun cB=>
JE rS [cB] H) (
ae .num .eql a2 (Value.int .u8 2) fun cf=>
Br cf (
ae .num .mul (iv 3) a0 fun cm=>
ae .num .sub a0 (iv 1) fun cD=>
ae .num .mul cm cD fun cG=>
ae .num .add a1 (iv 1) fun cQ=>
ae .num .mul cG cQ fun dx=>
JE rS [dx] H) (
ae .num .eql a2 (Value.int .u8 3) fun dw=>
Br dw (
ae .num .sub a0 (iv 1) fun v30=>
ae .num .mul v30 (iv 2) fun eJ=>
JE rS [eJ] H) (
ae .num .eql a2 (Value.int .u8 4) fun dU=>
Br dU (
ae .num .sub a0 (iv 2) fun e8=>
ae .num .mul e8 (iv 10) fun e7=>
JE rS [e7] H) (
ae .num .eql a2 (Value.int .u8 5) fun fp=>
Br fp (
ae .num .sub a0 (iv 3) fun ew=>
ae .num .mul ew (iv 46) fun eE=>
JE rS [eE] H) (
ae .num .eql a2 (Value.int .u8 6) fun fB=>
Br fB (
ae .num .sub a0 (iv 1) fun fO=>
ae .num .mul a0 fO fun eZ=>
JE rS [eZ] H) (
JE rS [(iv 0)] H)))))))
theorem Jd(h:L41 g a0 a1 a2 H R):ai Tryz.prog g 41 #[a0,a1,a2] H R:=
 ak (hn:=(.n .e (.n (.n (.h 0 [] [1] .e .e) .e) (.n .e (.h 1 [8] [] .e .e))))) Tryz.func41 h (by kernel_rfl)
def L42(g:Gh)(a0 a1:Value)(H:Hp)(R:Rt):Prop:=
ae .ptr .eql a0 (.pointer none) fun v1=>
Br v1 (
R (.returned (.tuple #[(iv 0),(iv 10)])) H) (
∀J2:Jt,(∀w5:Value,∀H4:Hp,(∀RT:Fr,
Br w5 (
R (.returned (.tuple #[(iv 0),(iv 4)])) H4) (
CF g 13 #[a0] H4 (fun v6 H7=>
CF g 102 #[v6,a1] H7 (fun v8 H9=>
Ext 0 v8 fun v10=>
Ext 1 v8 fun v11=>
ae .num .neq v11 (iv 0) fun aZ=>
Br aZ (
R (.returned (.tuple #[(iv 0),v11])) H9) (
CF g 103 #[a0,v10] H9 (fun bj fk=>
Ext 0 bj fun bB=>
Ext 1 bj fun bM=>
R (.returned (.tuple #[bB,bM])) fk) (au R))) (au R)) (au R)))→J2 [w5] H4)→
CF g 101 #[a1] H (fun bH dN=>
ae .num .neq bH (iv 0) fun bK=>
Split bK false (
aG a1 fun v20=>
CF g 61 #[a0] dN (fun bX fy=>
ae .num .neq v20 bX fun cf=>
aD (Value.bool false) (Value.bool true) cf fun cm=>
JE J2 [cm] fy) (au R)) (
aD (Value.bool true) (Value.bool true) undef fun cD=>
JE J2 [cD] dN)) (au R))
theorem Jc(h:L42 g a0 a1 H R):ai Tryz.prog g 42 #[a0,a1] H R:=
 ak (hn:=(.n .e (.n .e (.n (.h 1 [19] [0,1] .e .e) .e)))) Tryz.func42 h (by kernel_rfl)
def L45(g:Gh)(a0 a1 a2:Value)(H:Hp)(R:Rt):Prop:=
bA H (.cells #[(iv 0),(iv 0),(iv 0),(Value.bool false)] 42 (0,0)) fun b1 H2=>
CF g 109 #[a0,a2] H2 (fun v3 H4=>
ae .num .neq v3 (iv 0) fun v5=>
Br v5 (
Build Tryz.prog 42 [] fun v6=>
St 4 H4 (pt b1) v6 fun H7=>
aA 4 H7 (pt b1) fun v8=>
R (.returned (.tuple #[v8,v3])) H7) (
CF g 46 #[a0,a1] H4 (fun v9 dG=>
Ext 0 v9 fun v11=>
Ext 1 v9 fun aZ=>
ae .num .neq aZ (iv 0) fun bj=>
Br bj (
Build Tryz.prog 42 [] fun br=>
St 4 dG (pt b1) br fun c6=>
aA 4 c6 (pt b1) fun bM=>
R (.returned (.tuple #[bM,aZ])) c6) (
CF g 15 #[a0] dG (fun bH dN=>
Build Tryz.prog 42 [(0,bH)] fun bK=>
bA dN (.cells #[(iv 0),(iv 0),(iv 0),(Value.bool false)] 42 (0,0)) fun wi dZ=>
St 4 dZ (pt wi) bK fun fy=>
aa 0 (pt wi) fun cf=>
Ld fy cf fun cm=>
Build Tryz.prog 175 [(0,a0),(1,v11),(2,cm),(3,v11),(4,a2)] fun cD=>
bA fy (.cells (Value.cells cD) 175 (0,0)) fun sb iP=>
CF g 61 #[a0] iP (fun dx kD=>
ae .num .sub dx (iv 1) fun v30=>
ae .num .sub v30 v11 fun eJ=>
ae .num .leq eJ v11 fun dU=>
CF g 110 #[(pt sb),dU] kD (fun e8 nX=>
CF g 111 #[(pt sb)] nX (fun fp rF=>
CF g 112 #[(pt sb),v11] rF (fun eE lU=>
Nil (pt sb) fun fO=>
aa 3 fO fun eZ=>
Ld lU eZ fun fo=>
Un .not dU fun gE=>
CF g 110 #[(pt sb),gE] lU (fun fW AA=>
CF g 111 #[(pt sb)] AA (fun ig Js=>
∀Ya:Jt,(∀xV:Hp,(∀ah6:Fr,
DR xV fun Gl=>
Nil (pt sb) fun jt=>
aa 5 jt fun jm=>
Ld Gl jm fun oL=>
∀F54:Hp,
CF (g.add F54) 15 #[a0] xV (fun lO Ae=>
aO Ae Gl∧
aa 1 (pt wi) fun rG=>
∀F58:Hp,
St 1 Ae rG lO fun NJ=>
aO NJ Gl∧
aa 2 (pt wi) fun sr=>
∀F61:Hp,
St 1 NJ sr oL fun E3=>
aA 4 E3 (pt wi) fun p8=>
St 4 E3 (pt b1) p8 fun wE=>
aA 4 wE (pt b1) fun uR=>
R (.returned (.tuple #[uR,(iv 0)])) wE) aU)→Ya [] xV)→
Nil (pt sb) fun sq=>
aa 3 sq fun x4=>
Ld Js x4 fun vq=>
ae .num .neq vq fo fun AM=>
Br AM (
Nil (pt sb) fun rT=>
aa 3 rT fun Ap=>
Ld Js Ap fun AL=>
CF g 112 #[(pt sb),AL] Js (fun Ao RY=>
JE Ya [] RY) (au R)) (
CF g 112 #[(pt sb),v11] Js (fun An Jr=>
CF g 110 #[(pt sb),dU] Jr (fun Am QJ=>
∃(I79:Jt) (m80:Mt),JE I79 [] QJ∧∀Ux:Hp,I79 [] Ux→∀ahV:Fr,
∀Zq:Jt,(∀w86:Value,∀Vj:Hp,(∀ahU:Fr,
Br w86 (
ay I79 m80 [] Vj [] Ux) (
JE Ya [] Vj))→Zq [w86] Vj)→
DR Ux fun R87=>
Nil (pt sb) fun QW=>
aa 1 QW fun Sh=>
Ld R87 Sh fun JY=>
Nil (pt sb) fun JX=>
aa 3 JX fun GI=>
Ld R87 GI fun GH=>
ae .num .neq JY GH fun Jy=>
Br Jy (
Nil (pt sb) fun OD=>
aa 7 OD fun OC=>
Ld R87 OC fun Vq=>
∀F98:Hp,
fm Tryz.prog (g.add F98) Vq #[] Ux (fun Sg adG=>
ae .num .eql Sg (iv 0) fun AU=>
aD (Value.bool true) AU (Value.bool false) fun AT=>
JE Zq [AT] adG) aU) (
JE Zq [(Value.bool false)] Ux)) (au R)) (au R))) (au R)) (au R)) (au R)) (au R)) (au R)) (au R)) (au R))) (au R))) (au R)
theorem Jb(h:L45 g a0 a1 a2 H R):ai Tryz.prog g 45 #[a0,a1,a2] H R:=
 ak (hn:=(hN 13 (.h 1 [] [0,6,11,12] (hN 4 (.n (.h 0 [] [0,6,11,12] (.n (.h 1 [102] [0,6,11,12] (.h 1 [] [] (hr 0 [1] 0 9 (.h 2 [9] [] (hr 0 [1] 10 7 .e) (hr 0 [1] 10 6 (.h 3 [16] [1] .e .e)))) .e) .e) .e) .e) .e)) (.n (.h 1 [] [] (.h 0 [0] [1] (hr 0 [1] 2 4 (.h 0 [1] [1] (hr 0 [1] 6 4 .e) .e)) .e) .e) .e)))) Tryz.func45 h (by kernel_rfl)
def L46(g:Gh)(a0 a1:Value)(H:Hp)(R:Rt):Prop:=
ae .ptr .eql a0 (.pointer none) fun v1=>
Br v1 (
R (.returned (.tuple #[(iv 0),(iv 10)])) H) (
CF g 113 #[a0,a1] H (fun v2 H3=>
Un .not v2 fun v4=>
Br v4 (
R (.returned (.tuple #[(iv 0),(iv 2)])) H3) (
Nil a0 fun v5=>
aa 6 v5 fun v6=>
Ld H3 v6 fun v7=>
ah 1 v7 a1 fun v8=>
Ld H3 v8 fun v9=>
R (.returned (.tuple #[v9,(iv 0)])) H3)) (au R))
theorem Ja(h:L46 g a0 a1 H R):ai Tryz.prog g 46 #[a0,a1] H R:=
 ak (hn:=.e) Tryz.func46 h (by kernel_rfl)
def L47(g:Gh)(a0 a1:Value)(H:Hp)(R:Rt):Prop:=
bA H (.cells #[(iv 0),(iv 0),(iv 0),(Value.bool false)] 42 (0,0)) fun b1 H2=>
CF g 109 #[a0,a1] H2 (fun v3 H4=>
ae .num .neq v3 (iv 0) fun v5=>
Br v5 (
Build Tryz.prog 42 [] fun v6=>
St 4 H4 (pt b1) v6 fun H7=>
aA 4 H7 (pt b1) fun v8=>
R (.returned (.tuple #[v8,v3])) H7) (
CF g 15 #[a0] H4 (fun v9 dG=>
Build Tryz.prog 42 [(0,v9)] fun v11=>
bA dG (.cells #[(iv 0),(iv 0),(iv 0),(Value.bool false)] 42 (0,0)) fun mI cZ=>
St 4 cZ (pt mI) v11 fun fk=>
CF g 114 #[a0] fk (fun bB eo=>
aG bB fun bH=>
∃(E0:Jt) (Td:Mt),JE E0 [(iv 0)] eo∧∀jz:Value,∀dZ:Hp,E0 [jz] dZ→∀HU:Fr,
ae .num .lss jz bH fun cf=>
Br cf (
ah 1 bB jz fun cm=>
Ld dZ cm fun cD=>
CF g 45 #[a0,cD,a1] dZ (fun cG iP=>
Ext 0 cG fun dx=>
Ext 1 cG fun dw=>
bA iP (.cells #[(iv 0),(iv 0),(iv 0),(Value.bool false)] 42 (0,0)) fun JL lA=>
St 4 lA (pt JL) dx fun mV=>
aa 2 (pt mI) fun e8=>
Ld mV e8 fun e7=>
aa 2 (pt JL) fun fp=>
Ld mV fp fun ew=>
ae .num .add e7 ew fun eE=>
aa 2 (pt mI) fun fB=>
St 1 mV fB eE fun JN=>
ae .num .add jz (iv 1) fun eZ=>
ay E0 Td [eZ] JN [jz] dZ) (au R)) (
CF g 15 #[a0] dZ (fun fo qL=>
aa 1 (pt mI) fun fW=>
St 1 qL fW fo fun AA=>
aA 4 AA (pt mI) fun ig=>
St 4 AA (pt b1) ig fun Js=>
aA 4 Js (pt b1) fun jU=>
R (.returned (.tuple #[jU,(iv 0)])) Js) (au R))) (au R)) (au R))) (au R)
theorem I0(h:L47 g a0 a1 H R):ai Tryz.prog g 47 #[a0,a1] H R:=
 ak (hn:=(hN 3 (.n (.n .e (.n (.h 0 [25] [0,1,4,7,23,24] .e .e) .e)) .e))) Tryz.func47 h (by kernel_rfl)
def L49(g:Gh)(a0 a1 a2:Value)(H:Hp)(R:Rt):Prop:=
bA H (.cells #[(iv 0),(iv 0),(iv 0),(Value.bool false)] 42 (0,0)) fun b1 H2=>
CF g 115 #[a0,a1,a2] H2 (fun v3 H4=>
ae .num .neq v3 (iv 0) fun v5=>
Br v5 (
Build Tryz.prog 42 [] fun v6=>
St 4 H4 (pt b1) v6 fun H7=>
aA 4 H7 (pt b1) fun v8=>
R (.returned (.tuple #[v8,v3])) H7) (
ae .num .eql a1 (Value.int .u8 1) fun v9=>
Br v9 (
CF g 47 #[a0,a2] H4 (fun v10 dX=>
Ext 0 v10 fun aZ=>
Ext 1 v10 fun bj=>
St 4 dX (pt b1) aZ fun fk=>
aA 4 fk (pt b1) fun bB=>
R (.returned (.tuple #[bB,bj])) fk) (au R)) (
ae .num .eql a1 (Value.int .u8 2) fun bM=>
Br bM (
CF g 48 #[a0,a2] H4 (fun bH dN=>
Ext 0 bH fun bK=>
Ext 1 bH fun v20=>
Ext 2 bH fun bX=>
bA dN (.cells #[(iv 0),(iv 0),(iv 0),(Value.bool false)] 42 (0,0)) fun xN jQ=>
St 4 jQ (pt xN) bK fun iy=>
aA 4 iy (pt xN) fun cD=>
St 4 iy (pt b1) cD fun jP=>
aA 4 jP (pt b1) fun cQ=>
R (.returned (.tuple #[cQ,bX])) jP) (au R)) (
∀Ac:Jt,(∀Oz:Value,∀jj:Hp,(∀Xr:Fr,
Br Oz (
CF g 100 #[a1] jj (fun dU ie=>
CF g 22 #[a0,dU] ie (fun e7 jO=>
Ext 0 e7 fun ew=>
Ext 1 e7 fun eE=>
St 4 jO (pt b1) ew fun lU=>
aA 4 lU (pt b1) fun fO=>
R (.returned (.tuple #[fO,eE])) lU) (au R)) (au R)) (
ae .num .eql a1 (Value.int .u8 6) fun eZ=>
Br eZ (
CF g 25 #[a0] jj (fun fo qL=>
Ext 0 fo fun fW=>
Ext 1 fo fun gi=>
St 4 qL (pt b1) fW fun uF=>
aA 4 uF (pt b1) fun iT=>
R (.returned (.tuple #[iT,gi])) uF) (au R)) (
CF g 15 #[a0] jj (fun jU p6=>
CF g 15 #[a0] p6 (fun jo xU=>
Build Tryz.prog 42 [(0,jU),(1,jo)] fun jt=>
St 4 xU (pt b1) jt fun RZ=>
aA 4 RZ (pt b1) fun oL=>
R (.returned (.tuple #[oL,(iv 0)])) RZ) (au R)) (au R))))→Ac [Oz] jj)→
ae .num .eql a1 (Value.int .u8 3) fun nZ=>
Br nZ (
JE Ac [nZ] H4) (
ae .num .eql a1 (Value.int .u8 4) fun lO=>
Br lO (
JE Ac [lO] H4) (
ae .num .eql a1 (Value.int .u8 5) fun p9=>
JE Ac [p9] H4)))))) (au R)
theorem ny(h:L49 g a0 a1 a2 H R):ai Tryz.prog g 49 #[a0,a1,a2] H R:=
 ak (hn:=(.n .e (.n .e (.n (.n .e (.n (hN 4 (.h 1 [39] [0,1,6,20] .e .e)) .e)) .e)))) Tryz.func49 h (by kernel_rfl)
def L51(g:Gh)(a0 a1:Value)(H:Hp)(R:Rt):Prop:=
CF g 116 #[a0] H (fun v1 H2=>
Ext 0 v1 fun v3=>
Ext 1 v1 fun v4=>
ae .num .neq v4 (iv 0) fun v5=>
cv v5 false (fun t6=>
ae .num .lss a0 (iv 1) fun v7=>
(H2=H2∧v7=Value.bool t6)) (fun t6=>(Value.bool true)=Value.bool t6) fun t6=>∀FW:Fr,
cv (Value.bool t6) false (fun t9=>
ae .num .lss a1 (iv 2) fun v10=>
(H2=H2∧v10=Value.bool t9)) (fun t9=>(Value.bool true)=Value.bool t9) fun t9=>∀MD:Fr,
cv (Value.bool t9) false (fun t12=>
ae .num .gtr a1 (iv 1048576) fun bj=>
(H2=H2∧bj=Value.bool t12)) (fun t12=>(Value.bool true)=Value.bool t12) fun t12=>∀rO:Fr,
Br (Value.bool t12) (
R (.returned (.tuple #[(.pointer none),(iv 1)])) H2) (
CF g 117 #[a0] H2 (fun bB eo=>
Ext 0 bB fun bH=>
Ext 1 bB fun bY=>
ae .num .neq bY (iv 0) fun bK=>
Br bK (
R (.returned (.tuple #[(.pointer none),bY])) eo) (
CF g 118 #[a1,bH] eo (fun v20 dZ=>
Ext 0 v20 fun cB=>
Ext 1 v20 fun cf=>
bA dZ (.cells #[(.pointer none),(.pointer none),(.slice none 0 0),(.slice none 0 0)] 115 (0,0)) fun b24 dW=>
St 4 dW (pt b24) cB fun jP=>
ae .num .neq cf (iv 0) fun cQ=>
Br cQ (
R (.returned (.tuple #[(.pointer none),cf])) jP) (
DR jP fun R28=>
aA 4 R28 (pt b24) fun dw=>
CF g 57 #[v3] jP (fun v30 lA=>
aO lA R28∧
Build Tryz.prog 117 [(0,dw),(1,a0),(2,v3),(3,v30)] fun dU=>
bA lA (.cells (Value.cells dU) 117 (0,0)) fun JK nX=>
aO nX R28∧
R (.returned (.tuple #[(pt JK),(iv 0)])) nX) aU)) (au R))) (au R))) (au R)
theorem IZ(h:L51 g a0 a1 H R):ai Tryz.prog g 51 #[a0,a1] H R:=
 ak (hn:=(.n .e (.n .e (.n (.n (.h 0 [] [1] .e .e) .e) (hN 4 (.n (.h 0 [0,1,2,3,4,5,6,7,8] [] .e .e) .e)))))) Tryz.func51 h (by kernel_rfl)
def L52(g:Gh)(a0 a1 a2:Value)(H:Hp)(R:Rt):Prop:=
bA H (.cells #[(.pointer none),(.pointer none),(.slice none 0 0),(.slice none 0 0)] 98 (0,0)) fun b1 H2=>
aG a1 fun v3=>
∀J4:Jt,(∀w7:Value,∀H6:Hp,(∀Og:Fr,
Br w7 (
aA 4 H6 (pt b1) fun v8=>
St 4 H6 (pt b1) v8 fun H9=>
aA 4 H9 (pt b1) fun v10=>
R (.returned (.tuple #[v10,(Value.bool false),(Value.bool true)])) H9) (
aG a2 fun v11=>
∃(uE:Jt) (Ln:Mt),JE uE [(iv 0)] H6∧∀gm:Value,∀c6:Hp,uE [gm] c6→∀rO:Fr,
ae .num .lss gm v11 fun bH=>
Br bH (
ah 2 a2 gm fun bY=>
aA 2 c6 bY fun bK=>
bA c6 (.cells #[(iv 0),(.slice none 0 0)] 57 (0,0)) fun wi dZ=>
St 2 dZ (pt wi) bK fun fy=>
aA 2 fy (pt wi) fun cf=>
CF g 28 #[cf] fy (fun cm dW=>
Un .not cm fun cG=>
cv cG false (fun t27=>
aa 0 (pt wi) fun dx=>
Ld dW dx fun dw=>
ae .num .neq dw v3 fun v30=>
(dW=dW∧v30=Value.bool t27)) (fun t27=>(Value.bool true)=Value.bool t27) fun t27=>∀T7:Fr,
Br (Value.bool t27) (
aA 4 dW (pt b1) fun dU=>
St 4 dW (pt b1) dU fun ie=>
aA 4 ie (pt b1) fun e7=>
R (.returned (.tuple #[e7,(Value.bool false),(Value.bool true)])) ie) (
ae .num .add gm (iv 1) fun fp=>
ay uE Ln [fp] dW [gm] c6)) (au R)) (
CF g 51 #[v3,a0] c6 (fun ew rE=>
Ext 0 ew fun fB=>
Ext 1 ew fun fO=>
ae .num .neq fO (iv 0) fun eZ=>
cv eZ false (fun t41=>
ae .ptr .eql fB (.pointer none) fun gE=>
(rE=rE∧gE=Value.bool t41)) (fun t41=>(Value.bool true)=Value.bool t41) fun t41=>∀ah8:Fr,
Br (Value.bool t41) (
aA 4 rE (pt b1) fun gi=>
St 4 rE (pt b1) gi fun uF=>
aA 4 uF (pt b1) fun iT=>
R (.returned (.tuple #[iT,(Value.bool true),(Value.bool false)])) uF) (
CF g 82 #[v3,a0] rE (fun jU p6=>
Build Tryz.prog 98 [(0,fB),(1,jU)] fun jo=>
St 4 p6 (pt b1) jo fun xU=>
aa 1 (pt b1) fun jt=>
Ld xU jt fun jm=>
Nil jm fun oL=>
aa 2 oL fun nZ=>
Ld xU nZ fun lO=>
CF g 120 #[lO,a1] xU (fun p9 Gs=>
Ext 0 p9 fun rU=>
Ext 1 p9 fun AO=>
aG rU fun sr=>
∃(I61:Jt) (m62:Mt),JE I61 [(iv 0)] Gs∧∀UF:Value,∀wE:Hp,I61 [UF] wE→∀ah1:Fr,
ae .num .lss UF sr fun sq=>
Br sq (
ah 1 rU UF fun x4=>
Ld wE x4 fun vq=>
∀X9:Jt,(∀w72:Value,∀QL:Hp,(∀ahZ:Fr,
Br w72 (
aA 4 QL (pt b1) fun Ao=>
St 4 QL (pt b1) Ao fun RY=>
aA 4 RY (pt b1) fun An=>
R (.returned (.tuple #[An,(Value.bool true),(Value.bool false)])) RY) (
ae .num .add UF (iv 1) fun QX=>
ay I61 m62 [QX] QL [UF] wE))→X9 [w72] QL)→
CF g 17 #[fB,vq] wE (fun Am QJ=>
ae .num .neq Am (iv 0) fun AK=>
Split AK false (
aa 1 (pt b1) fun NX=>
Ld QJ NX fun NW=>
CF g 86 #[NW,vq] QJ (fun GJ Vk=>
ae .num .neq GJ (iv 0) fun J0=>
aD (Value.bool false) (Value.bool true) J0 fun JZ=>
JE X9 [JZ] Vk) (au R)) (
aD (Value.bool true) (Value.bool true) undef fun OF=>
JE X9 [OF] QJ)) (au R)) (
CF g 121 #[fB,(Value.int .u32 1)] wE (fun OE Vi=>
ae .num .neq OE (iv 0) fun Sh=>
Br Sh (
aA 4 Vi (pt b1) fun JY=>
St 4 Vi (pt b1) JY fun H91=>
aA 4 H91 (pt b1) fun GI=>
R (.returned (.tuple #[GI,(Value.bool true),(Value.bool false)])) H91) (
aa 1 (pt b1) fun GH=>
Ld Vi GH fun Jy=>
Nil Jy fun OD=>
aa 4 OD fun OC=>
St 1 Vi OC (.slice none 0 0) fun Ye=>
aG a2 fun OB=>
∃(I99:Jt) (aaE:Mt),JE I99 [(iv 0)] Ye∧∀GD:Value,∀vi:Hp,I99 [GD] vi→∀ae6:Fr,
ae .num .lss GD OB fun yj=>
Br yj (
∀NF:Jt,(∀Yn:Hp,(∀ae5:Fr,
ae .num .add GD (iv 1) fun SI=>
ay I99 aaE [SI] Yn [GD] vi)→NF [] Yn)→
ah 2 a2 GD fun AQ=>
aA 2 vi AQ fun Kk=>
bA vi (.cells #[(iv 0),(.slice none 0 0)] 57 (0,0)) fun Cg adC=>
St 2 adC (pt Cg) Kk fun UB=>
aa 1 (pt b1) fun AP=>
Ld UB AP fun Ki=>
aA 2 UB (pt Cg) fun Kh=>
ax Tryz.prog 28 1 [(0,Kh)] UB fun SF QO=>
CF g 122 #[Ki,SF] QO (fun aai UA=>
Un .not aai fun SC=>
Br SC (
JE NF [] UA) (
aA 2 UA (pt Cg) fun Kg=>
CF g 123 #[fB,a1,Kg,(iv 0)] UA (fun GK NL=>
Ext 0 GK fun OI=>
Ext 1 GK fun SA=>
ae .num .neq SA (iv 0) fun aah=>
Br aah (
aA 4 NL (pt b1) fun Kf=>
St 4 NL (pt b1) Kf fun QN=>
aA 4 QN (pt b1) fun Ke=>
R (.returned (.tuple #[Ke,(Value.bool true),(Value.bool false)])) QN) (
aa 1 (pt b1) fun Kc=>
Ld NL Kc fun Sz=>
aA 2 NL (pt Cg) fun OH=>
CF g 124 #[Sz,OH] NL (fun Vr Yk=>
aa 2 (pt b1) fun Sw=>
Ld Yk Sw fun Kb=>
ax Tryz.prog 27 1 [(0,OI)] Yk fun Sv ady=>
App Tryz.prog 77 1 4 (Value.int .u32 0) ady Kb Sv fun Sr adw=>
aa 2 (pt b1) fun Sq=>
St 1 adw Sq Sr fun NK=>
aa 3 (pt b1) fun Sp=>
Ld NK Sp fun aad=>
aA 2 NK (pt Cg) fun aac=>
ax Tryz.prog 28 1 [(0,aac)] NK fun So adv=>
App Tryz.prog 57 2 32 (.agg #[(iv 0),(.slice none 0 0)]) adv aad So fun Sn adu=>
aa 3 (pt b1) fun Sk=>
St 1 adu Sk Sn fun adt=>
JE NF [] adt) (au R))) (au R))) (au R)) (
DR vi fun Uk=>
aA 4 Uk (pt b1) fun Sj=>
aA 4 Uk (pt b1) fun Z6=>
CF g 125 #[Z6] vi (fun Z5 Yi=>
aO Yi Uk∧
St 4 Yi (pt b1) Sj fun Yh=>
aA 4 Yh (pt b1) fun Z4=>
R (.returned (.tuple #[Z4,(Value.bool true),Z5])) Yh) aU))) (au R))) (au R)) (au R))) (au R))))→J4 [w7] H6)→
ae .num .lss v3 (iv 1) fun Z3=>
Split Z3 false (
ae .num .gtr v3 (iv 8) fun Z2=>
aD (Value.bool false) (Value.bool true) Z2 fun ZZ=>
Split ZZ false (
CF g 119 #[a1,v3] H2 (fun ZY QM=>
Un .not ZY fun ZX=>
aD (Value.bool false) (Value.bool true) ZX fun ZW=>
Split ZW false (
ae .num .lss a0 (iv 2) fun ZV=>
aD (Value.bool false) (Value.bool true) ZV fun ZU=>
Split ZU false (
ae .num .gtr a0 (iv 1048576) fun ZT=>
aD (Value.bool false) (Value.bool true) ZT fun ZS=>
Split ZS false (
aG a2 fun ZR=>
ae .num .gtr ZR (iv 60000) fun ZQ=>
aD (Value.bool false) (Value.bool true) ZQ fun ZP=>
JE J4 [ZP] QM) (
aD (Value.bool true) (Value.bool true) undef fun ZO=>
JE J4 [ZO] QM)) (
aD (Value.bool true) (Value.bool true) undef fun ZN=>
aD ZN (Value.bool true) undef fun ZM=>
JE J4 [ZM] QM)) (
aD (Value.bool true) (Value.bool true) undef fun ZL=>
aD ZL (Value.bool true) undef fun ZK=>
aD ZK (Value.bool true) undef fun ZJ=>
JE J4 [ZJ] QM)) (au R)) (
aD (Value.bool true) (Value.bool true) undef fun ZI=>
aD ZI (Value.bool true) undef fun ZH=>
aD ZH (Value.bool true) undef fun ZG=>
aD ZG (Value.bool true) undef fun ZF=>
JE J4 [ZF] H2)) (
aD (Value.bool true) (Value.bool true) undef fun ZE=>
aD ZE (Value.bool true) undef fun ZD=>
aD ZD (Value.bool true) undef fun ZC=>
aD ZC (Value.bool true) undef fun ZB=>
aD ZB (Value.bool true) undef fun ZA=>
JE J4 [ZA] H2)
theorem IY(h:L52 g a0 a1 a2 H R):ai Tryz.prog g 52 #[a0,a1,a2] H R:=
 ak (hn:=(.n .e (.n .e (.n (.h 1 [48] [0,1,2,6,9] .e .e) (.n (.n .e (.n (.h 0 [52] [0,1,2,6,9,50,51] (.n .e (.n .e (.n (.n (.n .e (.n (.h 0 [] [1] .e .e) .e)) .e) .e))) .e) .e)) (.n .e (.n (.n (.h 0 [] [1] .e .e) .e) (.n .e (.n .e (.n (.n .e (.n (.h 0 [97] [1,2,6,12,95,96] (.n .e (.n .e (.n (.n (.n .e (.h 1 [111] [1,2,6,12,95,96,97] .e .e)) .e) .e))) .e) .e)) (.n .e (.n .e (.n (.n .e (.n (.h 0 [124] [1,6,12,122,123] (.n .e (.n .e (.h 1 [] [1,6,12,122,123,124] .e .e))) .e) .e)) (.n (.h 0 [0,1,2,3,4,5] [] .e .e) .e)))))))))))))) Tryz.func52 h (by kernel_rfl)
def L53(g:Gh)(H:Hp)(R:Rt):Prop:=
bA H (.cells #[(iv 0),(.slice none 0 0)] 57 (0,0)) fun b1 H2=>
∃(I3:Jt) (m4:Mt),JE I3 [(.slice none 0 0),(iv 0)] H2∧∀w7 w8:Value,∀H6:Hp,I3 [w7,w8] H6→∀Og:Fr,
ae .num .lss w8 (iv 16) fun v9=>
Br v9 (
ae .num .and w8 (iv 3) fun v10=>
ae .num .eql v10 (iv 3) fun v11=>
cv v11 false (fun t12=>
ae .num .and w8 (iv 12) fun bj=>
ae .num .eql bj (iv 12) fun br=>
(H6=H6∧br=Value.bool t12)) (fun t12=>(Value.bool true)=Value.bool t12) fun t12=>∀BV:Fr,
ax Tryz.prog 159 1 [(0,(Value.bool t12))] H6 fun bM fN=>
App Tryz.prog 4 1 1 (Value.bool false) fN w7 bM fun v20 dZ=>
ae .num .add w8 (iv 1) fun cB=>
ay I3 m4 [v20,cB] dZ [w7,w8] H6) (
CF g 98 #[(iv 4),w7] H6 (fun cf iy=>
St 2 iy (pt b1) cf fun dW=>
aA 2 dW (pt b1) fun cG=>
R (.returned cG) dW) (au R))
theorem IX(h:L53 g H R):ai Tryz.prog g 53 #[] H R:=
 ak (hn:=(.n .e (.n .e (.n (.n .e (.n (.h 0 [1,2] [0] (.n .e (.n (.n (.h 0 [] [1] .e .e) .e) .e)) .e) .e)) .e)))) Tryz.func53 h (by kernel_rfl)
variable {g:Gh} {a0 a1 a2 a3 a4 a5 a6 a7 a8 a9 rR rQ XN XM XL XK:Value} {H:Hp} {R:Rt}
def L57(g:Gh)(a0:Value)(H:Hp)(R:Rt):Prop:=
ae .slice .eql a0 (.slice none 0 0) fun v1=>
Br v1 (
R (.returned (.slice none 0 0)) H) (
ax Tryz.prog 25 0 [] H fun v2 H3=>
App Tryz.prog 3 1 8 (iv 0) H3 v2 a0 fun v6 H7=>
R (.returned v6) H7)
theorem IW(h:L57 g a0 H R):ai Tryz.prog g 57 #[a0] H R:=
 ak (hn:=.e) Tryz.func57 h (by kernel_rfl)
def L58(g:Gh)(a0:Value)(H:Hp)(R:Rt):Prop:=
ae .ptr .eql a0 (.pointer none) fun v1=>
Br v1 (
R (.returned (iv 0)) H) (
Nil a0 fun v2=>
aa 3 v2 fun v3=>
Ld H v3 fun v4=>
R (.returned v4) H)
theorem IV(h:L58 g a0 H R):ai Tryz.prog g 58 #[a0] H R:=
 ak (hn:=.e) Tryz.func58 h (by kernel_rfl)
def L59(g:Gh)(a0 a1:Value)(H:Hp)(R:Rt):Prop:=
Nil a0 fun v1=>
aa 5 v1 fun v2=>
Ld H v2 fun v3=>
ah 1 v3 a1 fun v4=>
Ld H v4 fun v5=>
Nil a0 fun v6=>
aa 5 v6 fun v7=>
Ld H v7 fun v8=>
ae .num .add a1 (iv 1) fun v9=>
ah 1 v8 v9 fun v10=>
Ld H v10 fun v11=>
CF g 134 #[a0,v5,v11] H (fun aZ cZ=>
DR cZ fun R14=>
Nil a0 fun bB=>
aa 0 bB fun bM=>
CF g 136 #[a0,v5,aZ] cZ (fun bH dN=>
CF g 135 #[bM,bH] dN (fun bK jk=>
Un .not bK fun bX=>
Br bX (
R (.returned (Value.bool false)) jk) (
aG aZ fun cB=>
∃(I23:Jt) (m24:Mt),JE I23 [(iv 0)] jk∧∀AH:Value,∀jP:Hp,I23 [AH] jP→∀acy:Fr,
ae .num .lss AH cB fun dx=>
Br dx (
ah 8 aZ AH fun dw=>
aA 8 jP dw fun v30=>
bA jP (.cells #[(Value.int .u32 0),(iv 0),(Value.int .u32 0),(Value.int .u32 0),(Value.int .u32 0),(Value.int .u32 0),(Value.int .u32 0),(Value.int .u32 0)] 203 (0,0)) fun Is mV=>
St 8 mV (pt Is) v30 fun ie=>
DR ie fun yc=>
Nil a0 fun fp=>
aa 0 fp fun ew=>
aa 1 ew fun eE=>
Ld yc eE fun fB=>
aa 1 (pt Is) fun fO=>
aA 3 yc fO fun eZ=>
CF g 137 #[fB,eZ] ie (fun fo qL=>
ae .num .add AH (iv 1) fun fW=>
ay I23 m24 [fW] qL [AH] jP) aU) (
aG aZ fun gi=>
∃(I45:Jt) (m46:Mt),JE I45 [(iv 0)] jP∧∀Vn:Value,∀p6:Hp,I45 [Vn] p6→∀acs:Fr,
ae .num .lss Vn gi fun jA=>
Br jA (
ah 8 aZ Vn fun jt=>
aA 8 p6 jt fun jm=>
bA p6 (.cells #[(Value.int .u32 0),(iv 0),(Value.int .u32 0),(Value.int .u32 0),(Value.int .u32 0),(Value.int .u32 0),(Value.int .u32 0),(Value.int .u32 0)] 203 (0,0)) fun JJ Ot=>
St 8 Ot (pt JJ) jm fun E4=>
DR E4 fun QE=>
Nil a0 fun rG=>
aa 0 rG fun rU=>
aa 4 (pt JJ) fun AO=>
Ld QE AO fun sr=>
aa 6 (pt JJ) fun wG=>
Ld QE wG fun yh=>
CF g 138 #[rU,v5,sr,yh] E4 (fun p8 wE=>
Nil a0 fun uR=>
aa 0 uR fun sq=>
CF g 139 #[sq,p8] wE (fun x4 Vl=>
DR Vl fun R69=>
Nil a0 fun rT=>
aa 0 rT fun Ap=>
aa 5 (pt JJ) fun AL=>
Ld R69 AL fun Ao=>
aa 7 (pt JJ) fun Ka=>
Ld R69 Ka fun An=>
CF g 138 #[Ap,v5,Ao,An] Vl (fun QX Uy=>
Nil a0 fun OG=>
aa 0 OG fun AK=>
CF g 139 #[AK,QX] Uy (fun NX H81=>
Build Tryz.prog 161 [(0,v11),(1,p8),(2,QX)] fun GJ=>
bA H81 (.cells #[(iv 0),(Value.int .u32 0),(Value.int .u32 0)] 161 (0,0)) fun Zg H84=>
St 3 H84 (pt Zg) GJ fun Vj=>
DR Vj fun R86=>
Nil a0 fun OE=>
aa 0 OE fun QW=>
aa 0 QW fun Sh=>
Ld R86 Sh fun JY=>
aa 0 (pt JJ) fun JX=>
Ld R86 JX fun GI=>
aA 3 R86 (pt Zg) fun GH=>
CF g 140 #[JY,GI,GH] Vj (fun Jy Zs=>
DR Zs fun R96=>
Nil a0 fun Vq=>
aa 0 Vq fun OB=>
aa 1 OB fun Sg=>
Ld R96 Sg fun SJ=>
aA 3 R96 (pt Zg) fun AU=>
aa 0 (pt JJ) fun AT=>
Ld R96 AT fun AS=>
CF g 141 #[SJ,AU,AS] Zs (fun yj adF=>
ae .num .add Vn (iv 1) fun Kl=>
ay I45 m46 [Kl] adF [Vn] p6) aU) aU) (au R)) aU) (au R)) aU) (
aG aZ fun AR=>
∃(Uw:Jt) (aaD:Mt),JE Uw [(iv 0)] p6∧∀JV:Value,∀Ju:Hp,Uw [JV] Ju→∀ae4:Fr,
ae .num .lss JV AR fun SG=>
Br SG (
ah 8 aZ JV fun AP=>
aA 8 Ju AP fun Ki=>
bA Ju (.cells #[(Value.int .u32 0),(iv 0),(Value.int .u32 0),(Value.int .u32 0),(Value.int .u32 0),(Value.int .u32 0),(Value.int .u32 0),(Value.int .u32 0)] 203 (0,0)) fun Qy adB=>
St 8 adB (pt Qy) Ki fun QO=>
DR QO fun acV=>
Nil a0 fun SD=>
aa 0 SD fun SC=>
aa 1 (pt Qy) fun Kg=>
aa 1 Kg fun GK=>
Ld acV GK fun SB=>
CF g 142 #[SC,SB] QO (fun OI Yl=>
DR Yl fun acU=>
Nil a0 fun Kf=>
aa 0 Kf fun aag=>
aa 1 (pt Qy) fun Ke=>
aa 2 Ke fun Kc=>
Ld acU Kc fun Sz=>
CF g 142 #[aag,Sz] Yl (fun OH adz=>
ae .num .add JV (iv 1) fun Sy=>
ay Uw aaD [Sy] adz [JV] Ju) aU) aU) (
DR Ju fun XU=>
Nil a0 fun Kb=>
aa 5 Kb fun Sv=>
Ld XU Sv fun Su=>
Nil a0 fun aaf=>
aa 5 aaf fun Ss=>
Ld XU Ss fun Sr=>
ae .num .add a1 (iv 1) fun aae=>
ah 1 Su a1 fun Sq=>
St 1 Ju Sq v11 fun NK=>
ah 1 Sr aae fun Sp=>
St 1 NK Sp v5 fun Yj=>
DR Yj fun XT=>
Nil a0 fun So=>
aa 6 So fun aab=>
Ld XT aab fun aaa=>
Nil a0 fun Z9=>
aa 6 Z9 fun Sn=>
Ld XT Sn fun Z8=>
ae .num .add a1 (iv 1) fun Sk=>
ah 1 aaa v5 fun Z7=>
St 1 Yj Z7 Sk fun ads=>
ah 1 Z8 v11 fun Sj=>
St 1 ads Sj a1 fun adr=>
R (.returned (Value.bool true)) adr))))) aU) aU) (au R)
theorem IU(h:L59 g a0 a1 H R):ai Tryz.prog g 59 #[a0,a1] H R:=
 ak (hn:=(hN 3 (.n (.n (.h 0 [0,1,2,3,4,5,6,7,8] [] .e .e) .e) (.n (.n .e (.n (.h 0 [47] [0,1,5,6,7,45,46] (.n .e (.n .e (.n (.n (.n .e (.h 0 [0,1,2,3,4,5,6,7] [] .e .e)) .e) .e))) .e) .e)) (.n (.n .e (.n (.h 0 [62] [0,1,5,6,7,60,61] (.n .e (.n .e (.n (.n (.n .e (.n (.h 0 [0,1,2,3,4,5,6,7,8,9] [] .e .e) (.n .e (.n (.h 0 [0,1,2,3,4,5,6,7,8,9] [] .e .e) (.n .e (.n .e (.n (.h 0 [0,1,2,3,4,5,6,7,8] [] .e .e) (.h 0 [0,1,2,3,4,5,6,7,8] [] .e .e)))))))) .e) .e))) .e) .e)) (.n (.n .e (.n (.h 0 [119] [0,1,5,6,117,118] (.n .e (.n .e (.n (.n (.n .e (.n (.h 0 [0,1,2,3,4,5,6] [] .e .e) (.h 0 [0,1,2,3,4,5,6] [] .e .e))) .e) .e))) .e) .e)) (.n (.h 0 [0,1,2,3,4,5,6,7,8,9,10,11,12,13,14,15,16] [] .e .e) (.n (.h 0 [0,1,2,3,4,5,6,7,8,9,10,11,12,13,14,15,16] [] .e .e) .e)))))))) Tryz.func59 h (by kernel_rfl)
def L60(g:Gh)(a0 a1:Value)(H:Hp)(R:Rt):Prop:=
ae .ptr .eql a0 (.pointer none) fun v1=>
Br v1 (
R (.returned (iv 10)) H) (
ae .num .lss a1 (iv 2) fun v2=>
cv v2 false (fun t3=>
ae .num .gtr a1 (iv 4) fun v4=>
(H=H∧v4=Value.bool t3)) (fun t3=>(Value.bool true)=Value.bool t3) fun t3=>∀Og:Fr,
Br (Value.bool t3) (
R (.returned (iv 1)) H) (
R (.returned (iv 0)) H))
theorem IT(h:L60 g a0 a1 H R):ai Tryz.prog g 60 #[a0,a1] H R:=
 ak (hn:=(.n .e (.n (.n (.n .e (.n .e (.n (.h 0 [] [1] .e .e) .e))) .e) .e))) Tryz.func60 h (by kernel_rfl)
def L61(g:Gh)(a0:Value)(H:Hp)(R:Rt):Prop:=
ae .ptr .eql a0 (.pointer none) fun v1=>
Br v1 (
R (.returned (iv 0)) H) (
Nil a0 fun v2=>
aa 4 v2 fun v3=>
Ld H v3 fun v4=>
R (.returned v4) H)
theorem IS(h:L61 g a0 H R):ai Tryz.prog g 61 #[a0] H R:=
 ak (hn:=.e) Tryz.func61 h (by kernel_rfl)
def L62(g:Gh)(a0 a1:Value)(H:Hp)(R:Rt):Prop:=
bA H (.cells (Value.cells a0) 26 (0,0)) fun b1 H2=>
DR H2 fun R3=>
Ld R3 (pt b1) fun v4=>
Ld R3 (pt b1) fun v5=>
CF g 15 #[v4] H2 (fun v6 H7=>
aO H7 R3∧
CF g 15 #[v5] H7 (fun v8 H9=>
aO H9 R3∧
Build Tryz.prog 42 [(0,v6),(1,v8)] fun v10=>
Build Tryz.prog 125 [(1,v10)] fun v11=>
bA H9 (.cells (Value.cells v11) 125 (0,0)) fun mI cZ=>
aO cZ R3∧
CF g 14 #[a1] cZ (fun br c6=>
Ext 0 br fun bM=>
Ext 1 br fun bH=>
bA c6 (.cells #[(.slice none 0 0)] 25 (0,0)) fun rP iz=>
St 1 iz (pt rP) bM fun jk=>
Nil (pt mI) fun bX=>
aa 0 bX fun cB=>
St 1 jk cB (.func (.func 143) #[] #[(pt b1),(pt rP)]) fun jQ=>
R (.returned (pt mI)) jQ) (au R)) aU) aU
theorem IQ(h:L62 g a0 a1 H R):ai Tryz.prog g 62 #[a0,a1] H R:=
 ak (hn:=(.n .e (.n (.h 0 [0,2,1,3,4,5,6,7] [] .e .e) .e))) Tryz.func62 h (by kernel_rfl)
def L63(g:Gh)(a0 a1 a2:Value)(H:Hp)(R:Rt):Prop:=
DR H fun R1=>
Nil a0 fun v2=>
aa 1 v2 fun v3=>
aa 2 v3 fun v4=>
Ld R1 v4 fun v5=>
Nil a0 fun v6=>
aa 0 v6 fun v7=>
Ld R1 v7 fun v8=>
fm Tryz.prog g v8 #[a2] H (fun v9 dG=>
aO dG R1∧
ae .num .add v5 v9 fun v11=>
Nil a0 fun aZ=>
aa 1 aZ fun bj=>
aa 2 bj fun br=>
St 1 dG br v11 fun c6=>
CF g 15 #[a1] c6 (fun bM fN=>
Nil a0 fun bY=>
aa 1 bY fun bK=>
aa 1 bK fun v20=>
St 1 fN v20 bM fun dZ=>
R (.returned (.tuple #[])) dZ) (au R)) aU
theorem IP(h:L63 g a0 a1 a2 H R):ai Tryz.prog g 63 #[a0,a1,a2] H R:=
 ak (hn:=(.n (.h 0 [0,1,2,3,4,5,6,7,8,9,10,11,12,13,14,15] [] .e .e) .e)) Tryz.func63 h (by kernel_rfl)
def L68(g:Gh)(a0 a1 a2:Value)(H:Hp)(R:Rt):Prop:=
∃(I1:Jt) (m2:Mt),JE I1 [(iv 0)] H∧∀w5:Value,∀H4:Hp,I1 [w5] H4→∀RT:Fr,
ae .num .add w5 a2 fun v6=>
CF g 61 #[a1] H4 (fun v7 H8=>
ae .num .leq v6 v7 fun v9=>
Br v9 (
CF g 63 #[a0,a1,w5] H8 (fun v10 dX=>
ae .num .add w5 (iv 1) fun aZ=>
ay I1 m2 [aZ] dX [w5] H4) (au R)) (
R (.returned (.tuple #[])) H8)) (au R)
theorem IN(h:L68 g a0 a1 a2 H R):ai Tryz.prog g 68 #[a0,a1,a2] H R:=
 ak (hn:=(.n .e (.n (.h 0 [6] [0,1,2] .e .e) .e))) Tryz.func68 h (by kernel_rfl)
def L70(g:Gh)(a0:Value)(H:Hp)(R:Rt):Prop:=
ae .ptr .eql a0 (.pointer none) fun v1=>
Br v1 (
R (.returned (.slice none 0 0)) H) (
Nil a0 fun v2=>
aa 0 v2 fun v3=>
aa 3 v3 fun v4=>
Ld H v4 fun v5=>
aG v5 fun v6=>
∃(I7:Jt) (m8:Mt),JE I7 [(.slice none 0 0),(iv 0)] H∧∀lB eP:Value,∀dG:Hp,I7 [lB,eP] dG→∀RS:Fr,
ae .num .lss eP v6 fun bj=>
Br bj (
∀rS:Jt,(∀vn:Value,∀eo:Hp,(∀BV:Fr,
ae .num .add eP (iv 1) fun bY=>
ay I7 m8 [vn,bY] eo [lB,eP] dG)→rS [vn] eo)→
ah 1 v5 eP fun bK=>
Ld dG bK fun v20=>
ae .num .gtr v20 (Value.int .i32 0) fun bX=>
Br bX (
bI .u32 eP fun cB=>
ax Tryz.prog 27 1 [(0,cB)] dG fun cf iy=>
App Tryz.prog 77 1 4 (Value.int .u32 0) iy lB cf fun cQ nA=>
JE rS [cQ] nA) (
JE rS [lB] dG)) (
R (.returned lB) dG))
theorem wB(h:L70 g a0 H R):ai Tryz.prog g 70 #[a0] H R:=
 ak (hn:=(hN 3 (.n (.n .e (.n (.h 0 [3,14] [12,13] (.n .e (.n .e (.h 1 [3] [12,13,14] .e .e))) .e) .e)) .e))) Tryz.func70 h (by kernel_rfl)
def L71(g:Gh)(a0 a1:Value)(H:Hp)(R:Rt):Prop:=
bA H (.cells #[(iv 0),(.slice none 0 0)] 57 (0,0)) fun b1 H2=>
ax Tryz.prog 27 1 [(0,a1)] H2 fun v3 H4=>
CF g 150 #[a0,v3] H4 (fun v5 H6=>
ae .num .neq v5 (iv 0) fun v7=>
Br v7 (
Build Tryz.prog 57 [] fun v8=>
St 2 H6 (pt b1) v8 fun H9=>
aA 2 H9 (pt b1) fun v10=>
R (.returned (.tuple #[v10,v5])) H9) (
CF g 61 #[a0] H6 (fun v11 fA=>
bA fA (.cells #[(iv 0)] 3 (0,0)) fun Qx fk=>
St 1 fk (pt Qx) v11 fun c6=>
Ld c6 (pt Qx) fun bM=>
ae .num .gtr bM (iv 16) fun bH=>
Br bH (
Build Tryz.prog 57 [] fun bY=>
St 2 c6 (pt b1) bY fun iz=>
aA 2 iz (pt b1) fun v20=>
R (.returned (.tuple #[v20,(iv 6)])) iz) (
Ld c6 (pt Qx) fun bX=>
CF g 147 #[bX,(Value.bool false)] c6 (fun cB jQ=>
Ext 0 cB fun cm=>
Ext 1 cB fun cD=>
bA jQ (.cells #[(iv 0),(.slice none 0 0)] 57 (0,0)) fun sb iP=>
St 2 iP (pt sb) cm fun nA=>
Ld nA (pt Qx) fun dw=>
CF g 147 #[dw,(Value.bool true)] nA (fun v30 lA=>
Ext 0 v30 fun dU=>
Ext 1 v30 fun e8=>
bA lA (.cells #[(iv 0),(.slice none 0 0)] 57 (0,0)) fun XF jO=>
St 2 jO (pt XF) dU fun rF=>
aA 2 rF (pt sb) fun eE=>
aA 2 rF (pt XF) fun fB=>
CF g 151 #[a0,a1,eE,fB,(.func (.func 152) #[] #[(pt Qx)])] rF (fun fO rD=>
St 2 rD (pt b1) fO fun xW=>
aA 2 xW (pt b1) fun gE=>
R (.returned (.tuple #[gE,(iv 0)])) xW) (au R)) (au R)) (au R))) (au R))) (au R)
theorem IM(h:L71 g a0 a1 H R):ai Tryz.prog g 71 #[a0,a1] H R:=
 ak (hn:=.e) Tryz.func71 h (by kernel_rfl)
def L72(g:Gh)(a0:Value)(H:Hp)(R:Rt):Prop:=
pW H fun v1 H2=>
pW H2 fun v3 H4=>
Build Tryz.prog 137 [(0,a0),(3,v1),(4,v3)] fun v5=>
bA H4 (.cells (Value.cells v5) 137 (0,0)) fun b6 H7=>
aG a0 fun v8=>
ae .num .eql v8 (iv 0) fun v9=>
Br v9 (
R (.returned (.tuple #[(pt b6),(iv 0)])) H7) (
CF g 155 #[a0] H7 (fun v10 dX=>
Ext 0 v10 fun aZ=>
Ext 1 v10 fun bj=>
ae .num .neq bj (iv 0) fun br=>
Br br (
R (.returned (.tuple #[(.pointer none),bj])) dX) (
ah 2 a0 (iv 0) fun bB=>
aa 0 bB fun bM=>
Ld dX bM fun bH=>
Nil (pt b6) fun bY=>
aa 1 bY fun bK=>
St 1 dX bK bH fun jk=>
aG a0 fun bX=>
∃(EZ:Jt) (Tc:Mt),JE EZ [(iv 0)] jk∧∀jl:Value,∀dW:Hp,EZ [jl] dW→∀Qc:Fr,
ae .num .lss jl bX fun cQ=>
Br cQ (
ah 2 a0 jl fun dx=>
aA 2 dW dx fun dw=>
bA dW (.cells #[(iv 0),(.slice none 0 0)] 57 (0,0)) fun JL lA=>
St 2 lA (pt JL) dw fun mV=>
aA 2 mV (pt JL) fun e8=>
CF g 156 #[e8] mV (fun e7 jO=>
Ext 0 e7 fun ew=>
Ext 1 e7 fun eE=>
Nil (pt b6) fun fB=>
aa 2 fB fun fO=>
Ld jO fO fun eZ=>
bI .i64 ew fun fo=>
ae .num .or eZ fo fun gE=>
Nil (pt b6) fun fW=>
aa 2 fW fun gi=>
St 1 jO gi gE fun uF=>
ae .num .add jl (iv 1) fun iT=>
ay EZ Tc [iT] uF [jl] dW) (au R)) (
R (.returned (.tuple #[(pt b6),(iv 0)])) dW))) (au R))
theorem IL(h:L72 g a0 H R):ai Tryz.prog g 72 #[a0] H R:=
 ak (hn:=(hN 5 (.n (.n .e (.n (.h 0 [37] [4,35,36] .e .e) .e)) .e))) Tryz.func72 h (by kernel_rfl)
def L73(g:Gh)(a0 a1 a2:Value)(H:Hp)(R:Rt):Prop:=
Nil a0 fun v1=>
aa 2 v1 fun v2=>
Ld H v2 fun v3=>
ae .num .shr v3 a2 fun v4=>
ae .num .and v4 (iv 1) fun v5=>
ae .num .eql v5 (iv 0) fun v6=>
Br v6 (
R (.returned (iv 0)) H) (
Nil a0 fun v7=>
aa 2 v7 fun v8=>
Ld H v8 fun v9=>
ae .num .and a1 v9 fun v10=>
Build Tryz.prog 226 [(0,v10),(1,a2)] fun v11=>
bA H (.cells #[(iv 0),(iv 0)] 226 (0,0)) fun mI cZ=>
St 2 cZ (pt mI) v11 fun fk=>
Nil a0 fun bB=>
aa 3 bB fun bM=>
Ld fk bM fun bH=>
aA 2 fk (pt mI) fun bY=>
kC Tryz.prog 226 (iv 0) true fk bH bY fun bK=>
Ext 0 bK fun v20=>
Ext 1 bK fun bX=>
∀J22:Jt,(∀sn:Value,∀iy:Hp,(∀T8:Fr,
R (.returned sn) iy)→J22 [sn] iy)→
Un .not bX fun cG=>
Br cG (
DR fk fun QG=>
Nil a0 fun dx=>
aa 0 dx fun dw=>
Ld QG dw fun v30=>
Ai 2 1 (pt mI) (iv 0) fun eJ=>
Ld QG eJ fun dU=>
bI .u64 dU fun e8=>
CF g 157 #[v30,e8,a2] fk (fun e7 jO=>
aO jO QG∧
Ext 0 e7 fun ew=>
Ext 1 e7 fun eE=>
DR jO fun R38=>
Nil a0 fun fO=>
aa 3 fO fun eZ=>
Ld R38 eZ fun fo=>
aA 2 R38 (pt mI) fun gE=>
lz Tryz.prog 226 jO fo gE ew fun E6=>
JE J22 [ew] E6) aU) (
JE J22 [v20] fk))
theorem IK(h:L73 g a0 a1 a2 H R):ai Tryz.prog g 73 #[a0,a1,a2] H R:=
 ak (hn:=(hN 4 (.h 1 [8] [] (.n .e (.n (.n (.h 0 [0,1,2,3,4,5,6,7,8,9,10,11,12] [] .e .e) (.h 0 [0,1,2,3,4,5,6] [] .e .e)) .e)) .e))) Tryz.func73 h (by kernel_rfl)
def L74(g:Gh)(a0 a1:Value)(H:Hp)(R:Rt):Prop:=
Nil a0 fun v1=>
aa 2 v1 fun v2=>
Ld H v2 fun v3=>
ae .num .and a1 v3 fun v4=>
Nil a0 fun v5=>
aa 2 v5 fun v6=>
Ld H v6 fun v7=>
ae .num .eql v4 v7 fun v8=>
Br v8 (
R (.returned (iv 0)) H) (
Nil a0 fun v9=>
aa 4 v9 fun v10=>
Ld H v10 fun v11=>
pY (.int .i64) (iv 0) true H v11 v4 fun aZ=>
Ext 0 aZ fun bj=>
Ext 1 aZ fun br=>
Br br (
R (.returned bj) H) (
Nil a0 fun bB=>
aa 1 bB fun bM=>
Ld H bM fun bH=>
∃(E0:Jt) (Td:Mt),JE E0 [(iv (-1)),(iv 0)] H∧∀jz lN:Value,∀dZ:Hp,E0 [jz,lN] dZ→∀HU:Fr,
ae .num .lss lN bH fun cm=>
Br cm (
∀On:Jt,(∀uQ:Value,∀iP:Hp,(∀Xs:Fr,
ae .num .add lN (iv 1) fun dw=>
ay E0 Td [uQ,dw] iP [jz,lN] dZ)→On [uQ] iP)→
Nil a0 fun v30=>
aa 2 v30 fun eJ=>
Ld dZ eJ fun dU=>
Un .xor dU fun e8=>
ae .num .or v4 e8 fun e7=>
ae .num .shr e7 lN fun fp=>
ae .num .and fp (iv 1) fun ew=>
ae .num .eql ew (iv 1) fun eE=>
Br eE (
JE On [jz] dZ) (
DR dZ fun R38=>
ae .num .shl (iv 1) lN fun fO=>
ae .num .or v4 fO fun eZ=>
CF g 73 #[a0,v4,lN] dZ (fun fo qL=>
CF g 74 #[a0,eZ] qL (fun fW AA=>
ae .num .add fo fW fun ig=>
ae .num .lss jz (iv 0) fun iT=>
cv iT false (fun t47=>
ae .num .lss ig jz fun jT=>
(AA=AA∧jT=Value.bool t47)) (fun t47=>(Value.bool true)=Value.bool t47) fun t47=>∀ah5:Fr,
Br (Value.bool t47) (
JE On [ig] AA) (
JE On [jz] AA)) aU) aU)) (
Nil a0 fun jA=>
aa 4 jA fun jt=>
Ld dZ jt fun jm=>
fV (.int .i64) dZ jm v4 jz fun xS=>
R (.returned jz) xS)))
theorem wA(h:L74 g a0 a1 H R):ai Tryz.prog g 74 #[a0,a1] H R:=
 ak (hn:=(hN 5 (.n (.n .e (.n (.h 0 [7,37] [0,1,36] (.n .e (.n .e (.h 1 [7] [0,1,36,37] (.n (.n .e (.n .e (.n (.h 0 [0,1,2,4,5,6,7,8,3,9,10,11] [] .e .e) (.n (.h 0 [] [1] .e .e) .e)))) .e) .e))) .e) .e)) .e))) Tryz.func74 h (by kernel_rfl)
def L75(g:Gh)(a0:Value)(H:Hp)(R:Rt):Prop:=
∀J1:Jt,(∀w4 w5:Value,∀H3:Hp,(∀gs2:Fr,
∀J6:Jt,(∀w9 eY:Value,∀H8:Hp,(∀Qb:Fr,
∀Ur:Jt,(∀kG lW:Value,∀cZ:Hp,(∀HV:Fr,
bI .u8 kG fun bM=>
RW (.string (ByteArray.mk #[0,1,2,2,3,3,3,3,4,4,4,4,4,4,4,4,5,5,5,5,5,5,5,5,5,5,5,5,5,5,5,5,6,6,6,6,6,6,6,6,6,6,6,6,6,6,6,6,6,6,6,6,6,6,6,6,6,6,6,6,6,6,6,6,7,7,7,7,7,7,7,7,7,7,7,7,7,7,7,7,7,7,7,7,7,7,7,7,7,7,7,7,7,7,7,7,7,7,7,7,7,7,7,7,7,7,7,7,7,7,7,7,7,7,7,7,7,7,7,7,7,7,7,7,7,7,7,7,8,8,8,8,8,8,8,8,8,8,8,8,8,8,8,8,8,8,8,8,8,8,8,8,8,8,8,8,8,8,8,8,8,8,8,8,8,8,8,8,8,8,8,8,8,8,8,8,8,8,8,8,8,8,8,8,8,8,8,8,8,8,8,8,8,8,8,8,8,8,8,8,8,8,8,8,8,8,8,8,8,8,8,8,8,8,8,8,8,8,8,8,8,8,8,8,8,8,8,8,8,8,8,8,8,8,8,8,8,8,8,8,8,8,8,8,8,8,8,8,8,8,8,8,8,8,8,8])) bM fun bH=>
bI .i64 bH fun bY=>
ae .num .add lW bY fun bK=>
R (.returned bK) cZ)→Ur [kG,lW] cZ)→
ae .num .geq w9 (Value.int .u64 256) fun v20=>
Br v20 (
ae .num .shr w9 (Value.int .u64 8) fun bX=>
ae .num .add eY (iv 8) fun cB=>
JE Ur [bX,cB] H8) (
JE Ur [w9,eY] H8))→J6 [w9,eY] H8)→
ae .num .geq w4 (Value.int .u64 65536) fun cf=>
Br cf (
ae .num .shr w4 (Value.int .u64 16) fun cm=>
ae .num .add w5 (iv 16) fun cD=>
JE J6 [cm,cD] H3) (
JE J6 [w4,w5] H3))→J1 [w4,w5] H3)→
ae .num .geq a0 (Value.int .u64 4294967296) fun cG=>
Br cG (
ae .num .shr a0 (Value.int .u64 32) fun cQ=>
JE J1 [cQ,(iv 32)] H) (
JE J1 [a0,(iv 0)] H)
theorem IJ(h:L75 g a0 H R):ai Tryz.prog g 75 #[a0] H R:=
 ak (hn:=(.n .e (.h 1 [0,2] [] .e (.h 1 [0,2] [] .e (.h 1 [0,2] [] .e .e))))) Tryz.func75 h (by kernel_rfl)
def L76(g:Gh)(H:Hp)(R:Rt):Prop:=
Build Tryz.prog 231 [] fun v1=>
bA H (.cells (Value.cells v1) 231 (0,0)) fun b2 H3=>
R (.returned (pt b2)) H3
theorem II(h:L76 g H R):ai Tryz.prog g 76 #[] H R:=
 ak (hn:=.e) Tryz.func76 h (by kernel_rfl)
def L77(g:Gh)(a0 a1 a2:Value)(H:Hp)(R:Rt):Prop:=
ae .ptr .eql a0 (.pointer none) fun v1=>
Br v1 (
R (.returned (iv 10)) H) (
Nil a0 fun v2=>
aa 1 v2 fun v3=>
Ld H v3 fun v4=>
pY (.int .i64) (iv 0) true H v4 a1 fun v5=>
Ext 0 v5 fun v6=>
Ext 1 v5 fun v7=>
Br v7 (
R (.returned (iv 11)) H) (
∀J8:Jt,(∀dG:Hp,(∀RS:Fr,
Nil a0 fun v11=>
aa 0 v11 fun aZ=>
Ld dG aZ fun bj=>
Build Tryz.prog 233 [(0,a1),(1,a2)] fun br=>
ax Tryz.prog 229 1 [(0,br)] dG fun bB eo=>
App Tryz.prog 233 2 16 (.agg #[(iv 0),(iv 0)]) eo bj bB fun bK jk=>
Nil a0 fun bX=>
aa 0 bX fun cB=>
St 1 jk cB bK fun jQ=>
Nil a0 fun cm=>
aa 0 cm fun cD=>
Ld jQ cD fun cG=>
aG cG fun cQ=>
ae .num .sub cQ (iv 1) fun dx=>
CF g 158 #[a0,dx] jQ (fun dw jj=>
R (.returned (iv 0)) jj) (au R))→J8 [] dG)→
Nil a0 fun eJ=>
aa 1 eJ fun dU=>
Ld H dU fun e8=>
ae .map .eql e8 (.map none) fun e7=>
Br e7 (
pW H fun fp rF=>
Nil a0 fun eE=>
aa 1 eE fun fB=>
St 1 rF fB fp fun JN=>
JE J8 [] JN) (
JE J8 [] H)))
theorem IG(h:L77 g a0 a1 a2 H R):ai Tryz.prog g 77 #[a0,a1,a2] H R:=
 ak (hn:=(hN 3 (.h 1 [] [0,1,2] .e .e))) Tryz.func77 h (by kernel_rfl)
def L78(g:Gh)(a0:Value)(H:Hp)(R:Rt):Prop:=
ae .ptr .eql a0 (.pointer none) fun v1=>
cv v1 false (fun t2=>
Nil a0 fun v3=>
aa 0 v3 fun v4=>
Ld H v4 fun v5=>
aG v5 fun v6=>
ae .num .eql v6 (iv 0) fun v7=>
(H=H∧v7=Value.bool t2)) (fun t2=>(Value.bool true)=Value.bool t2) fun t2=>∀FW:Fr,
Br (Value.bool t2) (
R (.returned (.tuple #[(iv 0),(iv 0),(iv 10)])) H) (
Nil a0 fun v9=>
aa 0 v9 fun v10=>
Ld H v10 fun v11=>
ah 2 v11 (iv 0) fun aZ=>
aA 2 H aZ fun bj=>
bA H (.cells #[(iv 0),(iv 0)] 233 (0,0)) fun Oi c6=>
St 2 c6 (pt Oi) bj fun eo=>
Nil a0 fun bH=>
aa 0 bH fun bY=>
Ld eo bY fun bK=>
aG bK fun v20=>
ae .num .sub v20 (iv 1) fun bX=>
Nil a0 fun cB=>
aa 0 cB fun cf=>
Ld eo cf fun cm=>
ah 2 cm bX fun cD=>
aA 2 eo cD fun cG=>
bA eo (.cells #[(iv 0),(iv 0)] 233 (0,0)) fun Zi nA=>
St 2 nA (pt Zi) cG fun kD=>
Nil a0 fun v30=>
aa 0 v30 fun eJ=>
Ld kD eJ fun dU=>
fU 2 dU none (some bX) fun e8=>
Nil a0 fun e7=>
aa 0 e7 fun fp=>
St 1 kD fp e8 fun rF=>
DR rF fun R37=>
Nil a0 fun fB=>
aa 1 fB fun fO=>
Ld R37 fO fun eZ=>
aa 0 (pt Oi) fun fo=>
Ld R37 fo fun gE=>
uj (.int .i64) rF eZ gE fun uF=>
∀J46:Jt,(∀p6:Hp,(∀acs:Fr,
aa 0 (pt Oi) fun jo=>
Ld p6 jo fun jA=>
aa 1 (pt Oi) fun jt=>
Ld p6 jt fun jm=>
R (.returned (.tuple #[jA,jm,(iv 0)])) p6)→J46 [] p6)→
ae .num .gtr bX (iv 0) fun oL=>
Br oL (
aA 2 uF (pt Zi) fun nZ=>
CF g 159 #[a0,(iv 0),nZ] uF (fun lO Ae=>
CF g 160 #[a0,(iv 0)] Ae (fun rG Yg=>
JE J46 [] Yg) (au R)) (au R)) (
JE J46 [] uF))
theorem wz(h:L78 g a0 H R):ai Tryz.prog g 78 #[a0] H R:=
 ak (hn:=(.n .e (.n .e (.n (.n (.h 0 [] [1] .e .e) .e) (hN 4 (.n (.h 0 [0,1,2,3,4,5,6] [] .e .e) (.h 1 [] [6] .e .e))))))) Tryz.func78 h (by kernel_rfl)
def L81(g:Gh)(a0:Value)(H:Hp)(R:Rt):Prop:=
ae .num .leq a0 (iv 6) fun v1=>
Br v1 (
R (.returned (iv 1)) H) (
ae .num .sub a0 (iv 6) fun v2=>
ae .num .shl (iv 1) v2 fun v3=>
R (.returned v3) H)
theorem IF(h:L81 g a0 H R):ai Tryz.prog g 81 #[a0] H R:=
 ak (hn:=.e) Tryz.func81 h (by kernel_rfl)
def L82(g:Gh)(a0 a1:Value)(H:Hp)(R:Rt):Prop:=
Build Tryz.prog 74 [(0,a0),(1,a1)] fun v1=>
bA H (.cells (Value.cells v1) 74 (0,0)) fun b2 H3=>
∃(I4:Jt) (m5:Mt),JE I4 [(iv 0)] H3∧∀w8:Value,∀H7:Hp,I4 [w8] H7→∀JH:Fr,
ae .num .lss w8 a0 fun v9=>
Br v9 (
Nil (pt b2) fun v10=>
aa 2 v10 fun v11=>
Ld H7 v11 fun aZ=>
ax Tryz.prog 25 1 [(0,w8)] H7 fun bj fk=>
App Tryz.prog 3 1 8 (iv 0) fk aZ bj fun bH dN=>
Nil (pt b2) fun bK=>
aa 2 bK fun v20=>
St 1 dN v20 bH fun dZ=>
ae .num .add w8 (iv 1) fun cB=>
ay I4 m5 [cB] dZ [w8] H7) (
R (.returned (pt b2)) H7)
theorem IE(h:L82 g a0 a1 H R):ai Tryz.prog g 82 #[a0,a1] H R:=
 ak (hn:=(.n .e (.n .e (.n (.n .e (.n (.h 0 [6] [0,5] .e .e) .e)) .e)))) Tryz.func82 h (by kernel_rfl)
def L86(g:Gh)(a0 a1:Value)(H:Hp)(R:Rt):Prop:=
ae .num .lss a1 (iv 0) fun v1=>
cv v1 false (fun t2=>
Nil a0 fun v3=>
aa 0 v3 fun v4=>
Ld H v4 fun v5=>
ae .num .sub v5 (iv 2) fun v6=>
ae .num .gtr a1 v6 fun v7=>
(H=H∧v7=Value.bool t2)) (fun t2=>(Value.bool true)=Value.bool t2) fun t2=>∀FW:Fr,
Br (Value.bool t2) (
R (.returned (iv 1)) H) (
DR H fun R9=>
Nil a0 fun v10=>
aa 1 v10 fun v11=>
Ld R9 v11 fun aZ=>
CF g 165 #[a0,a1] H (fun bj fk=>
aO fk R9∧
ae .num .add (iv 2) bj fun bB=>
ae .num .gtr bB aZ fun bM=>
Br bM (
R (.returned (iv 9)) fk) (
Nil a0 fun bH=>
aa 2 bH fun bY=>
Ld fk bY fun bK=>
CF g 166 #[bK,a1] fk (fun v20 dZ=>
Nil a0 fun cB=>
aa 2 cB fun cf=>
St 1 dZ cf v20 fun iy=>
Nil a0 fun cD=>
aa 4 cD fun cG=>
Ld iy cG fun cQ=>
ax Tryz.prog 25 1 [(0,a1)] iy fun dx kD=>
App Tryz.prog 3 1 8 (iv 0) kD cQ dx fun dU ie=>
Nil a0 fun e7=>
aa 4 e7 fun fp=>
St 1 ie fp dU fun rF=>
R (.returned (iv 0)) rF) (au R))) aU)
theorem wy(h:L86 g a0 a1 H R):ai Tryz.prog g 86 #[a0,a1] H R:=
 ak (hn:=(.n .e (.n (.n (.n (.h 0 [] [1] .e .e) (.n .e (.n (.h 0 [0,1,4,5,6,7,2,3,8,9] [] .e .e) .e))) .e) .e))) Tryz.func86 h (by kernel_rfl)
def L87(g:Gh)(a0:Value)(H:Hp)(R:Rt):Prop:=
CF g 88 #[a0] H (fun v1 H2=>
CF g 167 #[a0,v1] H2 (fun v3 H4=>
R (.returned v3) H4) (au R)) (au R)
theorem ID(h:L87 g a0 H R):ai Tryz.prog g 87 #[a0] H R:=
 ak (hn:=.e) Tryz.func87 h (by kernel_rfl)
def L88(g:Gh)(a0:Value)(H:Hp)(R:Rt):Prop:=
Nil a0 fun v1=>
aa 3 v1 fun v2=>
Ld H v2 fun v3=>
aG v3 fun v4=>
∃(I5:Jt) (m6:Mt),JE I5 [(.slice none 0 0),(iv 0)] H∧∀w9 eY:Value,∀H8:Hp,I5 [w9,eY] H8→∀Qb:Fr,
ae .num .lss eY v4 fun v11=>
Br v11 (
ah 3 v3 eY fun aZ=>
aA 3 H8 aZ fun bj=>
bA H8 (.cells #[(iv 0),(.slice none 0 0),(iv 0)] 241 (0,0)) fun Oi c6=>
St 3 c6 (pt Oi) bj fun eo=>
aa 0 (pt Oi) fun bH=>
aA 2 eo bH fun bY=>
ax Tryz.prog 28 1 [(0,bY)] eo fun bK jk=>
App Tryz.prog 57 2 32 (.agg #[(iv 0),(.slice none 0 0)]) jk w9 bK fun cf iy=>
ae .num .add eY (iv 1) fun cD=>
ay I5 m6 [cf,cD] iy [w9,eY] H8) (
R (.returned w9) H8)
theorem IC(h:L88 g a0 H R):ai Tryz.prog g 88 #[a0] H R:=
 ak (hn:=(.n .e (.n .e (.n (.n .e (.n (.h 0 [3,11] [9,10] .e .e) .e)) .e)))) Tryz.func88 h (by kernel_rfl)
def L93(g:Gh)(a0 a1:Value)(H:Hp)(R:Rt):Prop:=
ae .ptr .eql a0 (.pointer none) fun v1=>
Br v1 (
R (.returned (.tuple #[(iv 0),(iv 10)])) H) (
CF g 113 #[a0,a1] H (fun v2 H3=>
Un .not v2 fun v4=>
Br v4 (
R (.returned (.tuple #[(iv 0),(iv 2)])) H3) (
Nil a0 fun v5=>
aa 0 v5 fun v6=>
aa 1 v6 fun v7=>
Ld H3 v7 fun v8=>
CF g 171 #[v8,a1] H3 (fun v9 dG=>
Ext 0 v9 fun v11=>
Ext 1 v9 fun aZ=>
R (.returned (.tuple #[v11,aZ])) dG) (au R))) (au R))
theorem IB(h:L93 g a0 a1 H R):ai Tryz.prog g 93 #[a0,a1] H R:=
 ak (hn:=.e) Tryz.func93 h (by kernel_rfl)
def L95(g:Gh)(a0 a1:Value)(H:Hp)(R:Rt):Prop:=
ae .ptr .eql a0 (.pointer none) fun v1=>
cv v1 false (fun t2=>
bI .i64 a1 fun v3=>
Nil a0 fun v4=>
aa 0 v4 fun v5=>
aa 3 v5 fun v6=>
Ld H v6 fun v7=>
aG v7 fun v8=>
ae .num .geq v3 v8 fun v9=>
(H=H∧v9=Value.bool t2)) (fun t2=>(Value.bool true)=Value.bool t2) fun t2=>∀qw:Fr,
Br (Value.bool t2) (
R (.returned (iv 0)) H) (
Nil a0 fun v11=>
aa 0 v11 fun aZ=>
aa 3 aZ fun bj=>
Ld H bj fun br=>
ah 1 br a1 fun bB=>
Ld H bB fun bM=>
bI .i64 bM fun bH=>
R (.returned bH) H)
theorem IA(h:L95 g a0 a1 H R):ai Tryz.prog g 95 #[a0,a1] H R:=
 ak (hn:=(.n .e (.n (.n (.h 0 [] [1] .e .e) .e) .e))) Tryz.func95 h (by kernel_rfl)
def L96(g:Gh)(a0 a1:Value)(H:Hp)(R:Rt):Prop:=
bA H (.cells (Value.cells a1) 57 (0,0)) fun b1 H2=>
Nil a0 fun v3=>
aa 3 v3 fun v4=>
Ld H2 v4 fun v5=>
aG v5 fun v6=>
∃(I7:Jt) (m8:Mt),JE I7 [(iv 0)] H2∧∀lB:Value,∀dG:Hp,I7 [lB] dG→∀RS:Fr,
ae .num .lss lB v6 fun aZ=>
Br aZ (
ah 3 v5 lB fun bj=>
aA 3 dG bj fun br=>
bA dG (.cells #[(iv 0),(.slice none 0 0),(iv 0)] 241 (0,0)) fun pR eo=>
St 3 eo (pt pR) br fun fN=>
aa 0 (pt pR) fun bY=>
aA 2 fN bY fun bK=>
aA 2 fN (pt b1) fun v20=>
CF g 36 #[bK,v20] fN (fun bX fy=>
Br bX (
aa 2 (pt pR) fun cf=>
Ld fy cf fun cm=>
R (.returned cm) fy) (
ae .num .add lB (iv 1) fun cD=>
ay I7 m8 [cD] fy [lB] dG)) (au R)) (
R (.returned (iv 0)) dG)
theorem Iz(h:L96 g a0 a1 H R):ai Tryz.prog g 96 #[a0,a1] H R:=
 ak (hn:=(.n .e (.n (.n .e (.n (.h 0 [12] [3,10,11] .e .e) .e)) .e))) Tryz.func96 h (by kernel_rfl)
def L97(g:Gh)(a0 a1:Value)(H:Hp)(R:Rt):Prop:=
bA H (.cells #[(iv 0),(Value.int .u32 0),(Value.int .u32 0)] 161 (0,0)) fun b1 H2=>
ae .ptr .eql a0 (.pointer none) fun v3=>
Br v3 (
Build Tryz.prog 161 [] fun v4=>
St 3 H2 (pt b1) v4 fun H5=>
aA 3 H5 (pt b1) fun v6=>
R (.returned (.tuple #[v6,(iv 10)])) H5) (
Nil a0 fun v7=>
aa 0 v7 fun v8=>
CF g 173 #[v8,a1] H2 (fun v9 dG=>
Un .not v9 fun v11=>
Br v11 (
Build Tryz.prog 161 [] fun aZ=>
St 3 dG (pt b1) aZ fun cZ=>
aA 3 cZ (pt b1) fun br=>
R (.returned (.tuple #[br,(iv 3)])) cZ) (
Nil a0 fun bB=>
aa 0 bB fun bM=>
CF g 174 #[bM,a1] dG (fun bH dN=>
St 3 dN (pt b1) bH fun iz=>
aA 3 iz (pt b1) fun v20=>
R (.returned (.tuple #[v20,(iv 0)])) iz) (au R))) (au R))
theorem Iy(h:L97 g a0 a1 H R):ai Tryz.prog g 97 #[a0,a1] H R:=
 ak (hn:=.e) Tryz.func97 h (by kernel_rfl)
def L98(g:Gh)(a0 a1:Value)(H:Hp)(R:Rt):Prop:=
bA H (.cells #[(iv 0),(.slice none 0 0)] 57 (0,0)) fun b1 H2=>
CF g 81 #[a0] H2 (fun v3 H4=>
bZ 50 1 8 (Value.int .u64 0) H4 v3 v3 fun v5 H6=>
Build Tryz.prog 57 [(0,a0),(1,v5)] fun v7=>
bA H6 (.cells #[(iv 0),(.slice none 0 0)] 57 (0,0)) fun b8 H9=>
St 2 H9 (pt b8) v7 fun dG=>
∃(Uv:Jt) (m12:Mt),JE Uv [(iv 0)] dG∧∀lW:Value,∀fk:Hp,Uv [lW] fk→∀MC:Fr,
aG a1 fun bM=>
ae .num .lss lW bM fun bH=>
Br bH (
∀Uq:Jt,(∀jk:Hp,(∀Xu:Fr,
ae .num .add lW (iv 1) fun bX=>
ay Uv m12 [bX] jk [lW] fk)→Uq [] jk)→
ah 1 a1 lW fun cB=>
Ld fk cB fun cf=>
Br cf (
DR fk fun R24=>
aa 1 (pt b8) fun cD=>
Ld R24 cD fun cG=>
ae .num .quo lW (iv 64) fun cQ=>
ah 1 cG cQ fun dx=>
Ld R24 dx fun dw=>
ae .num .rem lW (iv 64) fun v30=>
ae .num .shl (Value.int .u64 1) v30 fun eJ=>
ae .num .add dw eJ fun dU=>
ah 1 cG cQ fun e8=>
St 1 fk e8 dU fun nX=>
JE Uq [] nX) (
JE Uq [] fk)) (
aA 2 fk (pt b8) fun fp=>
St 2 fk (pt b1) fp fun rF=>
aA 2 rF (pt b1) fun eE=>
R (.returned eE) rF)) (au R)
theorem Ix(h:L98 g a0 a1 H R):ai Tryz.prog g 98 #[a0,a1] H R:=
 ak (hn:=(.n .e (.n .e (.n (.n .e (.n (.h 0 [6] [1,4,5] (.n .e (.h 1 [] [1,4,5,6] (.n (.n .e (.n (.h 0 [0,1,2,3,4,5,6,7,8,9,10,11] [] .e .e) .e)) .e) .e)) .e) .e)) .e)))) Tryz.func98 h (by kernel_rfl)
def L100(g:Gh)(a0:Value)(H:Hp)(R:Rt):Prop:=
ae .num .sub a0 (Value.int .u8 3) fun v1=>
bI .i64 v1 fun v2=>
ae .num .add v2 (iv 2) fun v3=>
R (.returned v3) H
theorem EY(h:L100 g a0 H R):ai Tryz.prog g 100 #[a0] H R:=
 ak (hn:=.e) Tryz.func100 h (by kernel_rfl)
def L101(g:Gh)(a0:Value)(H:Hp)(R:Rt):Prop:=
aG a0 fun v1=>
bZ 4 1 1 (Value.bool false) H v1 v1 fun v2 H3=>
aG a0 fun v4=>
∃(I5:Jt) (m6:Mt),JE I5 [(iv 0)] H3∧∀w9:Value,∀H8:Hp,I5 [w9] H8→∀Qb:Fr,
ae .num .lss w9 v4 fun v10=>
Br v10 (
ah 1 a0 w9 fun v11=>
Ld H8 v11 fun aZ=>
ae .num .lss aZ (iv 0) fun bj=>
cv bj false (fun t14=>
aG a0 fun bB=>
ae .num .geq aZ bB fun bM=>
(H8=H8∧bM=Value.bool t14)) (fun t14=>(Value.bool true)=Value.bool t14) fun t14=>∀Xv:Fr,
cv (Value.bool t14) false (fun t18=>
ah 1 v2 aZ fun bK=>
Ld H8 bK fun v20=>
(H8=H8∧v20=Value.bool t18)) (fun t18=>(Value.bool true)=Value.bool t18) fun t18=>∀Xt:Fr,
Br (Value.bool t18) (
R (.returned (iv 4)) H8) (
ah 1 v2 aZ fun cB=>
St 1 H8 cB (Value.bool true) fun jQ=>
ae .num .add w9 (iv 1) fun cm=>
ay I5 m6 [cm] jQ [w9] H8)) (
aG a0 fun cD=>
ae .num .gtr cD (iv 64) fun cG=>
Br cG (
R (.returned (iv 13)) H8) (
R (.returned (iv 0)) H8))
theorem EX(h:L101 g a0 H R):ai Tryz.prog g 101 #[a0] H R:=
 ak (hn:=(.n .e (.n .e (.n (.n .e (.n (.h 0 [11] [0,3,9,10] (.n .e (.n .e (.n (.n (.n .e (.n (.n (.h 0 [] [1] .e .e) .e) .e)) .e) .e))) .e) .e)) .e)))) Tryz.func101 h (by kernel_rfl)
def L102(g:Gh)(a0 a1:Value)(H:Hp)(R:Rt):Prop:=
CF g 178 #[a0,a1] H (fun v1 H2=>
ae .num .neq v1 (iv 0) fun v3=>
Br v3 (
R (.returned (.tuple #[(.slice none 0 0),v1])) H2) (
CF g 57 #[a0] H2 (fun v4 H5=>
aG a1 fun v6=>
∃(I7:Jt) (m8:Mt),JE I7 [(.slice none 0 0),(iv 0)] H5∧∀lB eP:Value,∀dG:Hp,I7 [lB,eP] dG→∀RS:Fr,
ae .num .lss eP v6 fun bj=>
Br bj (
ah 1 a1 eP fun br=>
Ld dG br fun bB=>
CF g 179 #[v4,bB] dG (fun bM fN=>
∃(E0:Jt) (Td:Mt),JE E0 [lB,bM] fN∧∀jz lN:Value,∀dZ:Hp,E0 [jz,lN] dZ→∀HU:Fr,
ae .num .gtr lN eP fun cm=>
Br cm (
DR dZ fun R25=>
ae .num .sub lN (iv 1) fun cG=>
ah 1 v4 lN fun cQ=>
Ld R25 cQ fun dx=>
ae .num .sub lN (iv 1) fun dw=>
ah 1 v4 dw fun v30=>
Ld R25 v30 fun eJ=>
ah 1 v4 cG fun dU=>
St 1 dZ dU dx fun ie=>
ah 1 v4 lN fun e7=>
St 1 ie e7 eJ fun jO=>
ae .num .sub lN (iv 1) fun ew=>
ax Tryz.prog 25 1 [(0,ew)] jO fun eE lU=>
App Tryz.prog 3 1 8 (iv 0) lU jz eE fun fo qL=>
ae .num .sub lN (iv 1) fun fW=>
ay E0 Td [fo,fW] qL [jz,lN] dZ) (
ae .num .add eP (iv 1) fun gi=>
ay I7 m8 [jz,gi] dZ [lB,eP] dG)) (au R)) (
R (.returned (.tuple #[lB,(iv 0)])) dG)) (au R))) (au R)
theorem EW(h:L102 g a0 a1 H R):ai Tryz.prog g 102 #[a0,a1] H R:=
 ak (hn:=(hN 4 (.n (.n .e (.n (.h 0 [8,22] [7,20,21] (.n .e (.n .e (.n (.n (.n .e (.n .e (.n (.h 0 [8,11] [7,9,20,21,22] (.n .e (.n (.n (.n (.h 0 [0,1,2,3,4,5,6,7,8,9,10,11,12,13,14,15,16,17] [] .e .e) .e) .e) .e)) .e) .e))) .e) .e))) .e) .e)) .e))) Tryz.func102 h (by kernel_rfl)
def L103(g:Gh)(a0 a1:Value)(H:Hp)(R:Rt):Prop:=
bA H (.cells #[(iv 0)] 3 (0,0)) fun b1 H2=>
CF g 104 #[a0] H2 (fun v3 H4=>
bA H4 (.cells #[(.pointer none)] 169 (0,0)) fun b5 H6=>
St 1 H6 (pt b5) v3 fun H7=>
aG a1 fun v8=>
∃(I9:Jt) (Te:Mt),JE I9 [(iv 0)] H7∧∀nJ:Value,∀fA:Hp,I9 [nJ] fA→∀MD:Fr,
ae .num .lss nJ v8 fun br=>
Br br (
ah 1 a1 nJ fun bB=>
Ld fA bB fun bM=>
Ld fA (pt b5) fun bH=>
CF g 107 #[bH,bM] fA (fun bY iz=>
ae .num .neq bY (iv 0) fun v20=>
Br v20 (
St 1 iz (pt b1) (iv 0) fun dZ=>
UD Tryz.prog g 180 #[(pt b5),(pt b1)] dZ fun fy=>
Ld fy (pt b1) fun cf=>
R (.returned (.tuple #[cf,bY])) fy) (
ae .num .add nJ (iv 1) fun cm=>
ay I9 Te [cm] iz [nJ] fA)) NoP) (
Ld fA (pt b5) fun cD=>
Nil cD fun cG=>
aa 3 cG fun cQ=>
St 1 fA cQ (Value.bool true) fun nA=>
St 1 nA (pt b1) (iv 0) fun kD=>
UD Tryz.prog g 180 #[(pt b5),(pt b1)] kD fun jj=>
Ld jj (pt b1) fun eJ=>
R (.returned (.tuple #[eJ,(iv 0)])) jj)) NoP
theorem EV(h:L103 g a0 a1 H R):ai Tryz.prog g 103 #[a0,a1] H R:=
 SO (hn:=(hN 3 (.n (.n .e (.n (.h 0 [14] [4,6,12,13] .e .e) .e)) .e))) Tryz.func103 h (by kernel_rfl)
def L104(g:Gh)(a0:Value)(H:Hp)(R:Rt):Prop:=
CF g 34 #[a0] H (fun v1 H2=>
Build Tryz.prog 260 [(0,a0),(1,v1)] fun v3=>
bA H2 (.cells (Value.cells v3) 260 (0,0)) fun b4 H5=>
R (.returned (pt b4)) H5) (au R)
theorem EU(h:L104 g a0 H R):ai Tryz.prog g 104 #[a0] H R:=
 ak (hn:=.e) Tryz.func104 h (by kernel_rfl)
def L105(g:Gh)(a0:Value)(H:Hp)(R:Rt):Prop:=
Nil a0 fun v1=>
aa 3 v1 fun v2=>
Ld H v2 fun v3=>
Un .not v3 fun v4=>
Br v4 (
CF g 108 #[a0] H (fun v5 H6=>
R (.returned (.tuple #[])) H6) (au R)) (
R (.returned (.tuple #[])) H)
theorem uC(h:L105 g a0 H R):ai Tryz.prog g 105 #[a0] H R:=
 ak (hn:=.e) Tryz.func105 h (by kernel_rfl)
def L107(g:Gh)(a0 a1:Value)(H:Hp)(R:Rt):Prop:=
Nil a0 fun v1=>
aa 0 v1 fun v2=>
Ld H v2 fun v3=>
CF g 17 #[v3,a1] H (fun v4 H5=>
∀J6:Jt,(∀H8:Hp,(∀Qb:Fr,
R (.returned v4) H8)→J6 [] H8)→
ae .num .eql v4 (iv 0) fun v9=>
Br v9 (
Nil a0 fun v10=>
aa 2 v10 fun v11=>
Ld H5 v11 fun aZ=>
ae .num .add aZ (iv 1) fun bj=>
Nil a0 fun br=>
aa 2 br fun bB=>
St 1 H5 bB bj fun eo=>
JE J6 [] eo) (
JE J6 [] H5)) (au R)
theorem uB(h:L107 g a0 a1 H R):ai Tryz.prog g 107 #[a0,a1] H R:=
 ak (hn:=(.n .e (.n .e (.h 1 [] [5] .e .e)))) Tryz.func107 h (by kernel_rfl)
def L108(g:Gh)(a0:Value)(H:Hp)(R:Rt):Prop:=
DR H fun R1=>
Nil a0 fun v2=>
aa 0 v2 fun v3=>
Ld R1 v3 fun v4=>
Nil a0 fun v5=>
aa 1 v5 fun v6=>
Ld R1 v6 fun v7=>
CF g 145 #[v4,v7] H (fun v8 H9=>
aO H9 R1∧
Ext 0 v8 fun v10=>
Ext 1 v8 fun v11=>
Nil a0 fun aZ=>
aa 2 aZ fun bj=>
Ld H9 bj fun br=>
ae .num .add br v10 fun bB=>
Nil a0 fun bM=>
aa 2 bM fun bH=>
St 1 H9 bH bB fun dN=>
R (.returned (.tuple #[])) dN) aU
theorem ET(h:L108 g a0 H R):ai Tryz.prog g 108 #[a0] H R:=
 ak (hn:=(.n (.h 0 [0,1,2,3,4,5,6,7,8,9,10,11,12,13] [] .e .e) .e)) Tryz.func108 h (by kernel_rfl)
def L109(g:Gh)(a0 a1:Value)(H:Hp)(R:Rt):Prop:=
ae .ptr .eql a0 (.pointer none) fun v1=>
Br v1 (
R (.returned (iv 10)) H) (
ae .num .lss a1 (iv 100) fun v2=>
cv v2 false (fun t3=>
ae .num .gtr a1 (iv 1000) fun v4=>
(H=H∧v4=Value.bool t3)) (fun t3=>(Value.bool true)=Value.bool t3) fun t3=>∀Og:Fr,
Br (Value.bool t3) (
R (.returned (iv 1)) H) (
R (.returned (iv 0)) H))
theorem ES(h:L109 g a0 a1 H R):ai Tryz.prog g 109 #[a0,a1] H R:=
 ak (hn:=(.n .e (.n (.n (.n .e (.n .e (.n (.h 0 [] [1] .e .e) .e))) .e) .e))) Tryz.func109 h (by kernel_rfl)
def L110(g:Gh)(a0 a1:Value)(H:Hp)(R:Rt):Prop:=
bA H (.cells (Value.cells a0) 172 (0,0)) fun b1 H2=>
Br a1 (
DR H2 fun R3=>
Ld R3 (pt b1) fun v4=>
Ld R3 (pt b1) fun v5=>
Nil v5 fun v6=>
aa 0 v6 fun v7=>
Ld R3 v7 fun v8=>
∀F9:Hp,
CF (g.add F9) 61 #[v8] H2 (fun v10 dX=>
aO dX R3∧
ae .num .sub v10 (iv 1) fun aZ=>
Nil v4 fun bj=>
aa 6 bj fun br=>
∀F15:Hp,
St 1 dX br aZ fun eo=>
Ld eo (pt b1) fun bH=>
Nil bH fun bY=>
aa 7 bY fun bK=>
St 1 eo bK (.func (.func 181) #[] #[(pt b1)]) fun jk=>
R (.returned (.tuple #[])) jk) aU) (
Ld H2 (pt b1) fun bX=>
Nil bX fun cB=>
aa 6 cB fun cf=>
St 1 H2 cf (iv 0) fun iy=>
Ld iy (pt b1) fun cD=>
Nil cD fun cG=>
aa 7 cG fun cQ=>
St 1 iy cQ (.func (.func 183) #[] #[(pt b1)]) fun nA=>
R (.returned (.tuple #[])) nA)
theorem ER(h:L110 g a0 a1 H R):ai Tryz.prog g 110 #[a0,a1] H R:=
 ak (hn:=(.n .e (.n .e (.n (.n (.h 1 [] [] (hr 0 [1] 0 10 .e) .e) .e) .e)))) Tryz.func110 h (by kernel_rfl)
def L111(g:Gh)(a0:Value)(H:Hp)(R:Rt):Prop:=
∃(I1:Jt) (m2:Mt),JE I1 [] H∧∀H4:Hp,I1 [] H4→∀RT:Fr,
∀J5:Jt,(∀w8:Value,∀H7:Hp,(∀JH:Fr,
Br w8 (
Nil a0 fun v9=>
aa 0 v9 fun v10=>
Ld H7 v10 fun v11=>
CF g 15 #[v11] H7 (fun aZ cZ=>
∀rS:Jt,(∀eo:Hp,(∀BV:Fr,
ae .num .mul aZ (iv 100) fun bH=>
Nil a0 fun bY=>
aa 2 bY fun bK=>
Ld eo bK fun v20=>
Nil a0 fun bX=>
aa 4 bX fun cB=>
Ld eo cB fun cf=>
ae .num .mul v20 cf fun cm=>
ae .num .gtr bH cm fun cD=>
Br cD (
R (.returned (.tuple #[])) eo) (
ay I1 m2 [] eo [] H4))→rS [] eo)→
Nil a0 fun cG=>
aa 2 cG fun cQ=>
Ld cZ cQ fun dx=>
ae .num .lss aZ dx fun dw=>
Br dw (
Nil a0 fun v30=>
aa 1 v30 fun eJ=>
Ld cZ eJ fun dU=>
Nil a0 fun e8=>
aa 2 e8 fun e7=>
St 1 cZ e7 aZ fun jO=>
Nil a0 fun ew=>
aa 3 ew fun eE=>
St 1 jO eE dU fun lU=>
JE rS [] lU) (
JE rS [] cZ)) (au R)) (
R (.returned (.tuple #[])) H7))→J5 [w8] H7)→
DR H4 fun Ol=>
Nil a0 fun eZ=>
aa 1 eZ fun fo=>
Ld Ol fo fun gE=>
Nil a0 fun fW=>
aa 6 fW fun gi=>
Ld Ol gi fun ig=>
ae .num .neq gE ig fun iT=>
Br iT (
Nil a0 fun jU=>
aa 7 jU fun jT=>
Ld Ol jT fun jo=>
∀F50:Hp,
fm Tryz.prog (g.add F50) jo #[] H4 (fun jt RZ=>
ae .num .eql jt (iv 0) fun oL=>
aD (Value.bool true) oL (Value.bool false) fun nZ=>
JE J5 [nZ] RZ) aU) (
JE J5 [(Value.bool false)] H4)
theorem EP(h:L111 g a0 H R):ai Tryz.prog g 111 #[a0] H R:=
 ak (hn:=(.n (.h 0 [] [0] (.n (.h 1 [19] [0] (.h 1 [] [] (hr 0 [1] 0 9 (.h 2 [9] [] (hr 0 [1] 10 7 .e) (hr 0 [1] 10 6 (.h 3 [16] [1] .e .e)))) .e) .e) (.n (.n .e (.h 1 [] [0,2] .e .e)) .e)) .e) .e)) Tryz.func111 h (by kernel_rfl)
def L112(g:Gh)(a0 a1:Value)(H:Hp)(R:Rt):Prop:=
∃(I1:Jt) (m2:Mt),JE I1 [] H∧∀H4:Hp,I1 [] H4→∀RT:Fr,
Nil a0 fun v5=>
aa 1 v5 fun v6=>
Ld H4 v6 fun v7=>
ae .num .neq v7 a1 fun v8=>
Br v8 (
Nil a0 fun v9=>
aa 0 v9 fun v10=>
Ld H4 v10 fun v11=>
CF g 18 #[v11] H4 (fun aZ cZ=>
Ext 0 aZ fun br=>
Ext 1 aZ fun bB=>
Nil a0 fun bM=>
aa 5 bM fun bH=>
Ld cZ bH fun bY=>
ae .num .add bY (iv 1) fun bK=>
Nil a0 fun v20=>
aa 5 v20 fun bX=>
St 1 cZ bX bK fun fy=>
Nil a0 fun cf=>
aa 1 cf fun cm=>
Ld fy cm fun cD=>
ae .num .lss br cD fun cG=>
Br cG (
Nil a0 fun cQ=>
aa 1 cQ fun dx=>
St 1 fy dx br fun kD=>
ay I1 m2 [] kD [] H4) (
ae .num .add br (iv 1) fun v30=>
Nil a0 fun eJ=>
aa 1 eJ fun dU=>
St 1 fy dU v30 fun ie=>
ay I1 m2 [] ie [] H4)) (au R)) (
R (.returned (.tuple #[])) H4)
theorem EO(h:L112 g a0 a1 H R):ai Tryz.prog g 112 #[a0,a1] H R:=
 ak (hn:=(.n (.h 0 [] [0,1] .e .e) .e)) Tryz.func112 h (by kernel_rfl)
def L113(g:Gh)(a0 a1:Value)(H:Hp)(R:Rt):Prop:=
ae .num .geq a1 (iv 0) fun v1=>
cv v1 true (fun t2=>
Nil a0 fun v3=>
aa 4 v3 fun v4=>
Ld H v4 fun v5=>
ae .num .lss a1 v5 fun v6=>
(H=H∧v6=Value.bool t2)) (fun t2=>(Value.bool false)=Value.bool t2) fun t2=>∀Qb:Fr,
R (.returned (Value.bool t2)) H
theorem EN(h:L113 g a0 a1 H R):ai Tryz.prog g 113 #[a0,a1] H R:=
 ak (hn:=(.n .e (.n (.h 0 [] [1] .e .e) .e))) Tryz.func113 h (by kernel_rfl)
def L114(g:Gh)(a0:Value)(H:Hp)(R:Rt):Prop:=
ae .ptr .eql a0 (.pointer none) fun v1=>
Br v1 (
R (.returned (.slice none 0 0)) H) (
CF g 76 #[] H (fun v2 H3=>
CF g 61 #[a0] H3 (fun v4 H5=>
∃(I6:Jt) (m7:Mt),JE I6 [(iv 0)] H5∧∀eY:Value,∀H9:Hp,I6 [eY] H9→∀FW:Fr,
ae .num .lss eY v4 fun v11=>
Br v11 (
CF g 93 #[a0,eY] H9 (fun aZ cZ=>
Ext 0 aZ fun br=>
Ext 1 aZ fun bB=>
Un .neg br fun bM=>
CF g 77 #[v2,eY,bM] cZ (fun bH dN=>
ae .num .add eY (iv 1) fun bK=>
ay I6 m7 [bK] dN [eY] H9) (au R)) (au R)) (
∃(Uu:Jt) (m21:Mt),JE Uu [(.slice none 0 0)] H9∧∀Fh:Value,∀jQ:Hp,Uu [Fh] jQ→∀Qd:Fr,
CF g 184 #[v2] jQ (fun cD jP=>
ae .num .gtr cD (iv 0) fun cQ=>
Br cQ (
CF g 78 #[v2] jP (fun dx kD=>
Ext 0 dx fun v30=>
Ext 1 dx fun eJ=>
Ext 2 dx fun dU=>
ax Tryz.prog 25 1 [(0,v30)] kD fun e8 nX=>
App Tryz.prog 3 1 8 (iv 0) nX Fh e8 fun eE lU=>
ay Uu m21 [eE] lU [Fh] jQ) (au R)) (
R (.returned Fh) jP)) (au R))) (au R)) (au R))
theorem EM(h:L114 g a0 H R):ai Tryz.prog g 114 #[a0] H R:=
 ak (hn:=(hN 3 (.n (.n .e (.n (.h 0 [16] [0,3,15] .e .e) .e)) (.n .e (.n (.n (.h 0 [7] [3] .e .e) .e) .e))))) Tryz.func114 h (by kernel_rfl)
def L115(g:Gh)(a0 a1 a2:Value)(H:Hp)(R:Rt):Prop:=
ae .ptr .eql a0 (.pointer none) fun v1=>
Br v1 (
R (.returned (iv 10)) H) (
ae .num .gtr a1 (Value.int .u8 6) fun v2=>
cv v2 false (fun t3=>
ae .num .lss a2 (iv 100) fun v4=>
(H=H∧v4=Value.bool t3)) (fun t3=>(Value.bool true)=Value.bool t3) fun t3=>∀Og:Fr,
cv (Value.bool t3) false (fun t6=>
ae .num .gtr a2 (iv 1000) fun v7=>
(H=H∧v7=Value.bool t6)) (fun t6=>(Value.bool true)=Value.bool t6) fun t6=>∀FW:Fr,
Br (Value.bool t6) (
R (.returned (iv 1)) H) (
∀J9:Jt,(∀eP:Value,∀dX:Hp,(∀qw:Fr,
Br eP (
R (.returned (iv 6)) dX) (
R (.returned (iv 0)) dX))→J9 [eP] dX)→
ae .num .eql a1 (Value.int .u8 6) fun bj=>
Split bj true (
CF g 61 #[a0] H (fun br c6=>
ae .num .gtr br (iv 12) fun bM=>
aD (Value.bool true) bM (Value.bool false) fun bH=>
JE J9 [bH] c6) (au R)) (
aD (Value.bool false) undef (Value.bool false) fun bY=>
JE J9 [bY] H)))
theorem EL(h:L115 g a0 a1 a2 H R):ai Tryz.prog g 115 #[a0,a1,a2] H R:=
 ak (hn:=(.n .e (.n (.n (.n .e (.n .e (.n (.h 0 [] [1] .e .e) (.n .e (.h 1 [21] [] .e .e))))) .e) .e))) Tryz.func115 h (by kernel_rfl)
def L116(g:Gh)(a0:Value)(H:Hp)(R:Rt):Prop:=
ae .num .lss a0 (iv 0) fun v1=>
cv v1 false (fun t2=>
ae .num .gtr a0 (iv 64) fun v3=>
(H=H∧v3=Value.bool t2)) (fun t2=>(Value.bool true)=Value.bool t2) fun t2=>∀ya:Fr,
Br (Value.bool t2) (
R (.returned (.tuple #[(.slice none 0 0),(iv 1)])) H) (
CF g 185 #[a0] H (fun v5 H6=>
R (.returned (.tuple #[v5,(iv 0)])) H6) (au R))
theorem EK(h:L116 g a0 H R):ai Tryz.prog g 116 #[a0] H R:=
 ak (hn:=(.n .e (.n (.n (.h 0 [] [1] .e .e) .e) .e))) Tryz.func116 h (by kernel_rfl)
def L117(g:Gh)(a0:Value)(H:Hp)(R:Rt):Prop:=
ae .num .lss a0 (iv 1) fun v1=>
cv v1 false (fun t2=>
ae .num .gtr a0 (iv 64) fun v3=>
(H=H∧v3=Value.bool t2)) (fun t2=>(Value.bool true)=Value.bool t2) fun t2=>∀ya:Fr,
Br (Value.bool t2) (
R (.returned (.tuple #[(.pointer none),(iv 1)])) H) (
bZ 266 1 8 (.map none) H a0 a0 fun v5 H6=>
Build Tryz.prog 265 [(0,v5)] fun v7=>
bA H6 (.cells (Value.cells v7) 265 (0,0)) fun b8 H9=>
∃(wD:Jt) (NZ:Mt),JE wD [(iv 0)] H9∧∀kG:Value,∀cZ:Hp,wD [kG] cZ→∀HV:Fr,
ae .num .lss kG a0 fun bB=>
Br bB (
Nil (pt b8) fun bM=>
aa 0 bM fun bH=>
Ld cZ bH fun bY=>
pW cZ fun bK jk=>
ah 1 bY kG fun bX=>
St 1 jk bX bK fun fy=>
ae .num .add kG (iv 1) fun cf=>
ay wD NZ [cf] fy [kG] cZ) (
R (.returned (.tuple #[(pt b8),(iv 0)])) cZ))
theorem EJ(h:L117 g a0 H R):ai Tryz.prog g 117 #[a0] H R:=
 ak (hn:=(.n .e (.n (.n (.h 0 [] [1] .e .e) .e) (.n .e (.n (.n .e (.n (.h 0 [17] [4,16] .e .e) .e)) .e))))) Tryz.func117 h (by kernel_rfl)
def L118(g:Gh)(a0 a1:Value)(H:Hp)(R:Rt):Prop:=
bA H (.cells #[(.pointer none),(.pointer none),(.slice none 0 0),(.slice none 0 0)] 115 (0,0)) fun b1 H2=>
CF g 186 #[a0] H2 (fun v3 H4=>
Ext 0 v3 fun v5=>
Ext 1 v3 fun v6=>
Build Tryz.prog 115 [(0,v5),(1,a1)] fun v7=>
St 4 H4 (pt b1) v7 fun H8=>
aA 4 H8 (pt b1) fun v9=>
R (.returned (.tuple #[v9,v6])) H8) (au R)
theorem EI(h:L118 g a0 a1 H R):ai Tryz.prog g 118 #[a0,a1] H R:=
 ak (hn:=.e) Tryz.func118 h (by kernel_rfl)
def L119(g:Gh)(a0 a1:Value)(H:Hp)(R:Rt):Prop:=
aG a0 fun v1=>
ae .num .neq v1 a1 fun v2=>
Br v2 (
R (.returned (Value.bool false)) H) (
∃(I3:Jt) (m4:Mt),JE I3 [(iv 0)] H∧∀w7:Value,∀H6:Hp,I3 [w7] H6→∀Og:Fr,
ae .num .lss w7 a1 fun v8=>
Br v8 (
aG a0 fun v9=>
∃(wD:Jt) (NZ:Mt),JE wD [(iv 0),(iv 0)] H6∧∀kG lW:Value,∀cZ:Hp,wD [kG,lW] cZ→∀HV:Fr,
ae .num .lss lW v9 fun bM=>
Br bM (
∀uD:Jt,(∀oT:Value,∀iz:Hp,(∀MB:Fr,
ae .num .add lW (iv 1) fun bX=>
ay wD NZ [oT,bX] iz [kG,lW] cZ)→uD [oT] iz)→
ah 1 a0 lW fun cB=>
Ld cZ cB fun cf=>
ae .num .eql cf w7 fun cm=>
Br cm (
ae .num .add kG (iv 1) fun cD=>
JE uD [cD] cZ) (
JE uD [kG] cZ)) (
ae .num .neq kG (iv 1) fun cG=>
Br cG (
R (.returned (Value.bool false)) cZ) (
ae .num .add w7 (iv 1) fun cQ=>
ay I3 m4 [cQ] cZ [w7] H6))) (
R (.returned (Value.bool true)) H6))
theorem EH(h:L119 g a0 a1 H R):ai Tryz.prog g 119 #[a0,a1] H R:=
 ak (hn:=(.n .e (.n .e (.n (.n .e (.n (.h 0 [5] [0,1] (.n .e (.n (.n (.n .e (.n (.n .e (.n (.h 0 [6,20] [0,1,5,18,19] (.n .e (.n .e (.h 1 [6] [0,1,5,18,19,20] .e .e))) .e) .e)) .e)) .e) .e)) .e) .e)) .e)))) Tryz.func119 h (by kernel_rfl)
variable {g:Gh} {a0 a1 a2 a3 a4 a5 a6 a7 a8 a9 rR rQ XN XM XL XK:Value} {H:Hp} {R:Rt}
def L120(g:Gh)(a0 a1:Value)(H:Hp)(R:Rt):Prop:=
CF g 187 #[a0,a1] H (fun v1 H2=>
ae .num .neq v1 (iv 0) fun v3=>
Br v3 (
R (.returned (.tuple #[(.slice none 0 0),v1])) H2) (
∃(I4:Jt) (m5:Mt),JE I4 [a0,(.slice none 0 0),(iv 0)] H2∧∀w8 w9 eY:Value,∀H7:Hp,I4 [w8,w9,eY] H7→∀JH:Fr,
aG a1 fun v11=>
ae .num .lss eY v11 fun aZ=>
Br aZ (
ah 1 a1 eY fun bj=>
Ld H7 bj fun br=>
CF g 188 #[w8,br] H7 (fun bB eo=>
∃(I17:Jt) (m18:Mt),JE I17 [w8,w9,bB] eo∧∀Al jz lN:Value,∀jk:Hp,I17 [Al,jz,lN] jk→∀Xu:Fr,
ae .num .gtr lN eY fun cm=>
Br cm (
ae .num .sub lN (iv 1) fun cD=>
CF g 189 #[Al,cD] jk (fun cG iP=>
ae .num .sub lN (iv 1) fun dx=>
ax Tryz.prog 25 1 [(0,dx)] iP fun dw jj=>
App Tryz.prog 3 1 8 (iv 0) jj jz dw fun e8 nX=>
ae .num .sub lN (iv 1) fun fp=>
ay I17 m18 [cG,e8,fp] nX [Al,jz,lN] jk) (au R)) (
ae .num .add eY (iv 1) fun ew=>
ay I4 m5 [Al,jz,ew] jk [w8,w9,eY] H7)) (au R)) (
R (.returned (.tuple #[w9,(iv 0)])) H7))) (au R)
theorem EG(h:L120 g a0 a1 H R):ai Tryz.prog g 120 #[a0,a1] H R:=
 ak (hn:=(hN 4 (.n (.n .e (.n (.h 0 [0,7,8] [1] (.n .e (.n (.n (.n .e (.n (.h 0 [0,7,9] [1,8] .e .e) .e)) .e) .e)) .e) .e)) .e))) Tryz.func120 h (by kernel_rfl)
def L121(g:Gh)(a0 a1:Value)(H:Hp)(R:Rt):Prop:=
ae .ptr .eql a0 (.pointer none) fun v1=>
Br v1 (
R (.returned (iv 10)) H) (
Nil a0 fun v2=>
aa 0 v2 fun v3=>
CF g 173 #[v3,a1] H (fun v4 H5=>
Un .not v4 fun v6=>
Br v6 (
R (.returned (iv 3)) H5) (
∀J7:Jt,(∀H9:Hp,(∀FW:Fr,
Nil a0 fun v10=>
aa 7 v10 fun v11=>
St 1 H9 v11 (.slice none 0 0) fun fA=>
R (.returned (iv 0)) fA)→J7 [] H9)→
ae .num .gtr a1 (Value.int .u32 1) fun bj=>
Br bj (
Nil a0 fun br=>
aa 0 br fun bB=>
aa 3 bB fun bM=>
Ld H5 bM fun bH=>
ah 1 bH a1 fun bY=>
Ld H5 bY fun bK=>
ae .num .eql bK (Value.int .i32 65535) fun v20=>
Br v20 (
R (.returned (iv 8)) H5) (
Nil a0 fun bX=>
aa 0 bX fun cB=>
aa 3 cB fun cf=>
Ld H5 cf fun cm=>
ah 1 cm a1 fun cD=>
Ld H5 cD fun cG=>
ae .num .add cG (Value.int .i32 1) fun cQ=>
ah 1 cm a1 fun dx=>
St 1 H5 dx cQ fun kD=>
Nil a0 fun v30=>
aa 0 v30 fun eJ=>
aa 3 eJ fun dU=>
Ld kD dU fun e8=>
ah 1 e8 a1 fun e7=>
Ld kD e7 fun fp=>
ae .num .eql fp (Value.int .i32 1) fun ew=>
Br ew (
Nil a0 fun eE=>
aa 0 eE fun fB=>
aa 2 fB fun fO=>
Ld kD fO fun eZ=>
ah 1 eZ a1 fun fo=>
Ld kD fo fun gE=>
ae .num .add gE (Value.int .i32 1) fun fW=>
ah 1 eZ a1 fun gi=>
St 1 kD gi fW fun uF=>
JE J7 [] uF) (
JE J7 [] kD))) (
JE J7 [] H5))) (au R))
theorem uA(h:L121 g a0 a1 H R):ai Tryz.prog g 121 #[a0,a1] H R:=
 ak (hn:=(.n .e (.n .e (.h 1 [] [0] .e .e)))) Tryz.func121 h (by kernel_rfl)
def L122(g:Gh)(a0 a1:Value)(H:Hp)(R:Rt):Prop:=
CF g 88 #[a0] H (fun v1 H2=>
App Tryz.prog 57 2 32 (.agg #[(iv 0),(.slice none 0 0)]) H2 (.slice none 0 0) v1 fun v5 H6=>
App Tryz.prog 57 2 32 (.agg #[(iv 0),(.slice none 0 0)]) H6 v5 a1 fun v9 dG=>
DR dG fun XY=>
Nil a0 fun aZ=>
aa 1 aZ fun bj=>
Ld XY bj fun br=>
CF g 167 #[a0,v9] dG (fun bB eo=>
aO eo XY∧
ae .num .add (iv 2) bB fun bH=>
ae .num .leq bH br fun bY=>
R (.returned bY) eo) aU) (au R)
theorem EF(h:L122 g a0 a1 H R):ai Tryz.prog g 122 #[a0,a1] H R:=
 ak (hn:=(hN 4 (.n (.h 0 [0,1,4,5,6,7,2,3,8,9] [] .e .e) .e))) Tryz.func122 h (by kernel_rfl)
def L123(g:Gh)(a0 a1 a2 a3:Value)(H:Hp)(R:Rt):Prop:=
bA H (.cells (Value.cells a2) 57 (0,0)) fun b1 H2=>
aA 2 H2 (pt b1) fun v3=>
CF g 190 #[v3] H2 (fun v4 H5=>
Br v4 (
aA 2 H5 (pt b1) fun v6=>
CF g 162 #[v6,(iv 0)] H5 (fun v7 H8=>
Br v7 (
R (.returned (.tuple #[(Value.int .u32 1),(iv 0)])) H8) (
R (.returned (.tuple #[(Value.int .u32 0),(iv 0)])) H8)) (au R)) (
∃(I9:Jt) (Te:Mt),JE I9 [a3] H5∧∀nJ:Value,∀fA:Hp,I9 [nJ] fA→∀MD:Fr,
DR fA fun R14=>
aA 2 R14 (pt b1) fun bB=>
ah 1 a1 nJ fun bM=>
Ld R14 bM fun bH=>
CF g 161 #[bB,bH] fA (fun bY iz=>
Un .not bY fun v20=>
Br v20 (
ae .num .add nJ (iv 1) fun bX=>
ay I9 Te [bX] iz [nJ] fA) (
DR iz fun Om=>
aA 2 Om (pt b1) fun cf=>
ah 1 a1 nJ fun cm=>
Ld Om cm fun cD=>
ae .num .add nJ (iv 1) fun cG=>
CF g 163 #[cf,cD,(Value.bool false)] iz (fun cQ nA=>
aO nA Om∧
CF g 123 #[a0,a1,cQ,cG] nA (fun dw jj=>
aO jj Om∧
Ext 0 dw fun eJ=>
Ext 1 dw fun dU=>
ae .num .neq dU (iv 0) fun e8=>
Br e8 (
R (.returned (.tuple #[(Value.int .u32 0),dU])) jj) (
DR jj fun yc=>
aA 2 yc (pt b1) fun fp=>
ah 1 a1 nJ fun ew=>
Ld yc ew fun eE=>
ae .num .add nJ (iv 1) fun fB=>
CF g 163 #[fp,eE,(Value.bool true)] jj (fun fO rD=>
aO rD yc∧
CF g 123 #[a0,a1,fO,fB] rD (fun fo qL=>
aO qL yc∧
Ext 0 fo fun fW=>
Ext 1 fo fun gi=>
ae .num .neq gi (iv 0) fun ig=>
Br ig (
CF g 131 #[a0,eJ] qL (fun iT E5=>
R (.returned (.tuple #[(Value.int .u32 0),gi])) E5) (au R)) (
ah 1 a1 nJ fun jT=>
Ld qL jT fun jo=>
CF g 164 #[a0,jo,eJ,fW] qL (fun jA Ou=>
Ext 0 jA fun jm=>
Ext 1 jA fun oL=>
CF g 131 #[a0,eJ] Ou (fun nZ E4=>
CF g 131 #[a0,fW] E4 (fun p9 Gs=>
R (.returned (.tuple #[jm,oL])) Gs) (au R)) (au R)) (au R))) aU) aU)) aU) aU)) aU)) (au R)
theorem uz(h:L123 g a0 a1 a2 a3 H R):ai Tryz.prog g 123 #[a0,a1,a2,a3] H R:=
 ak (hn:=(.n .e (.n .e (.n (.n (.h 0 [3] [0,1,6] (.n (.n (.h 0 [0,1,2,3,4,5,6] [] .e .e) .e) .e) .e) .e) (.n (.h 0 [0,1,2,3,4,5,6,8,9,7,10,11,12,13,14,15] [] .e .e) (.n .e (.n (.h 0 [0,1,2,3,4,5,6,8,9,7,10,11,12,13,14,15] [] .e .e) .e))))))) Tryz.func123 h (by kernel_rfl)
def L124(g:Gh)(a0 a1:Value)(H:Hp)(R:Rt):Prop:=
bA H (.cells (Value.cells a1) 57 (0,0)) fun b1 H2=>
aA 2 H2 (pt b1) fun v3=>
CF g 190 #[v3] H2 (fun v4 H5=>
Br v4 (
R (.returned (iv 0)) H5) (
∃(I6:Jt) (m7:Mt),JE I6 [(iv 0)] H5∧∀eY:Value,∀H9:Hp,I6 [eY] H9→∀FW:Fr,
Nil a0 fun v11=>
aa 3 v11 fun aZ=>
Ld H9 aZ fun bj=>
aG bj fun br=>
ae .num .lss eY br fun bB=>
Br bB (
DR H9 fun Zn=>
Nil a0 fun bH=>
aa 3 bH fun bY=>
Ld Zn bY fun bK=>
ah 3 bK eY fun v20=>
aa 0 v20 fun bX=>
aA 2 Zn bX fun cB=>
aA 2 Zn (pt b1) fun cf=>
CF g 36 #[cB,cf] H9 (fun cm dW=>
aO dW Zn∧
Br cm (
Nil a0 fun cG=>
aa 3 cG fun cQ=>
Ld dW cQ fun dx=>
ah 3 dx eY fun dw=>
aa 2 dw fun v30=>
Ld dW v30 fun eJ=>
ae .num .geq eJ (iv 65535) fun dU=>
Br dU (
R (.returned (iv 8)) dW) (
Nil a0 fun e8=>
aa 3 e8 fun e7=>
Ld dW e7 fun fp=>
ah 3 fp eY fun ew=>
aa 2 ew fun eE=>
Ld dW eE fun fB=>
ae .num .add fB (iv 1) fun fO=>
ah 3 fp eY fun eZ=>
aa 2 eZ fun fo=>
St 1 dW fo fO fun qL=>
R (.returned (iv 0)) qL)) (
ae .num .add eY (iv 1) fun fW=>
ay I6 m7 [fW] dW [eY] H9)) aU) (
DR H9 fun Zl=>
Nil a0 fun ig=>
aa 3 ig fun iT=>
Ld Zl iT fun jU=>
aA 2 Zl (pt b1) fun jT=>
Build Tryz.prog 241 [(0,jT),(1,(iv 1))] fun jo=>
ax Tryz.prog 72 1 [(0,jo)] H9 fun jA Ou=>
aO Ou Zl∧
App Tryz.prog 241 3 40 (.agg #[(iv 0),(.slice none 0 0),(iv 0)]) Ou jU jA fun nZ E4=>
aO E4 Zl∧
Nil a0 fun p9=>
aa 3 p9 fun rG=>
St 1 E4 rG nZ fun Yg=>
R (.returned (iv 0)) Yg))) (au R)
theorem uy(h:L124 g a0 a1 H R):ai Tryz.prog g 124 #[a0,a1] H R:=
 ak (hn:=(.n .e (.n .e (.n (.n .e (.n (.h 0 [5] [0,3] (.n .e (.n (.n (.n (.h 0 [0,1,2,3,4,5,6,7,8,9] [] .e .e) .e) .e) .e)) .e) .e)) (.n (.h 0 [0,1,2,3,4,5,6,7,8,9,10,11] [] .e .e) .e))))) Tryz.func124 h (by kernel_rfl)
def L125(g:Gh)(a0:Value)(H:Hp)(R:Rt):Prop:=
bA H (.cells (Value.cells a0) 98 (0,0)) fun b1 H2=>
∀J3:Jt,(∀w6:Value,∀H5:Hp,(∀ya:Fr,
Br w6 (
R (.returned (Value.bool false)) H5) (
aa 2 (pt b1) fun v7=>
Ld H5 v7 fun v8=>
aG v8 fun v9=>
∃(wD:Jt) (NZ:Mt),JE wD [(iv 0)] H5∧∀kG:Value,∀cZ:Hp,wD [kG] cZ→∀HV:Fr,
ae .num .lss kG v9 fun bB=>
Br bB (
ah 1 v8 kG fun bM=>
Ld cZ bM fun bH=>
DR cZ fun wv=>
aa 0 (pt b1) fun bK=>
Ld wv bK fun v20=>
aa 1 (pt b1) fun bX=>
Ld wv bX fun cB=>
Nil cB fun cf=>
aa 0 cf fun cm=>
Ld wv cm fun cD=>
∀F26:Hp,
CF (g.add F26) 192 #[v20,bH,cD,(iv 0)] cZ (fun cQ nA=>
aO nA wv∧
Ext 0 cQ fun dw=>
Ext 1 cQ fun v30=>
bA nA (.cells #[(iv 0),(.slice none 0 0)] 57 (0,0)) fun Is mV=>
∀F33:Hp,
St 2 mV (pt Is) dw fun nX=>
aO nX wv∧
∀Gr:Jt,(∀Vo:Value,∀rE:Hp,(∀Xq:Fr,
Br Vo (
R (.returned (Value.bool false)) rE) (
ae .num .add kG (iv 1) fun fO=>
ay wD NZ [fO] rE [kG] cZ))→Gr [Vo] rE)→
DR nX fun QF=>
Un .not v30 fun fo=>
Br fo (
JE Gr [(Value.bool true)] nX) (
aA 2 QF (pt Is) fun gE=>
aa 3 (pt b1) fun fW=>
Ld QF fW fun gi=>
ah 2 gi kG fun ig=>
aA 2 QF ig fun iT=>
∀F47:Hp,
CF (g.add F47) 36 #[gE,iT] nX (fun jT xV=>
aO xV QF∧
Un .not jT fun jA=>
aD (Value.bool false) (Value.bool true) jA fun jt=>
Br jt (
JE Gr [(Value.bool true)] xV) (
aa 0 (pt b1) fun jm=>
Ld QF jm fun oL=>
aa 1 (pt b1) fun nZ=>
Ld QF nZ fun lO=>
aA 2 QF (pt Is) fun p9=>
∀F57:Hp,
CF (g.add F57) 95 #[oL,bH] xV (fun rU NJ=>
aO NJ QF∧
∀F60:Hp,
CF (g.add F60) 96 #[lO,p9] NJ (fun wG E3=>
aO E3 QF∧
ae .num .neq rU wG fun p8=>
aD (Value.bool false) (Value.bool true) p8 fun AN=>
JE Gr [AN] E3) aU) aU)) aU)) aU) (
R (.returned (Value.bool true)) cZ)))→J3 [w6] H5)→
DR H2 fun wu=>
aa 0 (pt b1) fun sq=>
Ld wu sq fun x4=>
aa 1 (pt b1) fun vq=>
Ld wu vq fun AM=>
Nil AM fun rT=>
aa 2 rT fun Ap=>
Ld wu Ap fun AL=>
∀F73:Hp,
CF (g.add F73) 13 #[x4] H2 (fun Ka H75=>
aO H75 wu∧
∀F76:Hp,
CF (g.add F76) 191 #[Ka,AL] H75 (fun Am QJ=>
aO QJ wu∧
Un .not Am fun AK=>
Br AK (
JE J3 [(Value.bool true)] QJ) (
aa 0 (pt b1) fun NX=>
Ld wu NX fun NW=>
aa 1 (pt b1) fun GJ=>
Ld wu GJ fun Si=>
Nil Si fun J0=>
aa 4 J0 fun JZ=>
Ld wu JZ fun OF=>
aG OF fun OE=>
∀F88:Hp,
CF (g.add F88) 34 #[NW] QJ (fun Sh H90=>
aO H90 wu∧
ae .num .neq Sh OE fun JX=>
aD (Value.bool false) (Value.bool true) JX fun GI=>
Br GI (
JE J3 [(Value.bool true)] H90) (
aa 0 (pt b1) fun GH=>
Ld wu GH fun Jy=>
aa 1 (pt b1) fun OD=>
Ld wu OD fun OC=>
∀F97:Hp,
CF (g.add F97) 15 #[Jy] H90 (fun OB Zr=>
aO Zr wu∧
∀Yq:Hp,
CF (g.add Yq) 87 #[OC] Zr (fun AU vi=>
aO vi wu∧
ae .num .neq OB AU fun AS=>
aD (Value.bool false) (Value.bool true) AS fun yj=>
Br yj (
JE J3 [(Value.bool true)] vi) (
aa 0 (pt b1) fun Km=>
Ld wu Km fun Kl=>
aa 1 (pt b1) fun AR=>
Ld wu AR fun SI=>
Nil SI fun AQ=>
aa 3 AQ fun Kk=>
Ld wu Kk fun SH=>
aG SH fun Kj=>
∀Yp:Hp,
CF (g.add Yp) 70 #[Kl] vi (fun AP Ym=>
aO Ym wu∧
aG AP fun Kh=>
ae .num .neq Kh Kj fun SF=>
aD (Value.bool false) (Value.bool true) SF fun SE=>
JE J3 [SE] Ym) aU)) aU) aU)) aU)) aU) aU
theorem EE(h:L125 g a0 H R):ai Tryz.prog g 125 #[a0] H R:=
 ak (hn:=(.n .e (.n (.h 1 [50] [1] (.h 1 [] [] (hr 0 [] 0 2 (hr 0 [] 3 5 (.h 0 [2] [] (hr 0 [] 8 2 (.h 2 [10] [] (hr 0 [] 11 10 (hr 3 [] 21 2 (hr 0 [] 23 7 (hr 3 [] 30 2 (hr 0 [] 32 11 (.h 3 [43] [] .e .e)))))) (hr 0 [] 11 2 (hr 0 [] 14 6 (.h 0 [13] [] (hr 0 [] 20 2 (.h 2 [22] [] (hr 0 [] 23 7 (hr 3 [] 30 2 (hr 0 [] 32 11 (.h 3 [43] [] .e .e)))) (hr 0 [] 23 2 (hr 0 [] 26 2 (.h 0 [25] [] (hr 0 [] 28 3 (.h 2 [31] [] (hr 0 [] 32 11 (.h 3 [43] [] .e .e)) (hr 0 [] 32 2 (hr 0 [] 36 6 (hr 0 [] 34 2 (hr 0 [] 42 2 .e)))))) .e))))) .e))))) .e))) .e) .e) (.n (.n .e (.n (.h 0 [54] [1,52,53] (.n .e (.n .e (.n (.n (.n .e (.n (.h 1 [] [] (hr 0 [] 0 8 (.h 1 [12] [] (hr 0 [] 8 7 .e) .e)) .e) (.h 1 [93] [1,52,53,54] (.h 1 [] [] (hr 0 [] 0 2 (.h 2 [2] [] (hr 0 [] 3 8 (hr 3 [] 11 2 (hr 0 [] 13 9 (.h 3 [22] [] .e .e)))) (hr 0 [] 3 9 (.h 2 [12] [] (hr 0 [] 13 9 (.h 3 [22] [] .e .e)) (hr 0 [] 13 3 (hr 0 [] 17 3 (.h 0 [16] [] (hr 0 [] 20 3 .e) .e))))))) .e) .e))) .e) .e))) .e) .e)) .e)))) Tryz.func125 h (by kernel_rfl)
def L131(g:Gh)(a0 a1:Value)(H:Hp)(R:Rt):Prop:=
ae .ptr .eql a0 (.pointer none) fun v1=>
Br v1 (
R (.returned (iv 10)) H) (
∀J2:Jt,(∀H4:Hp,(∀RT:Fr,
Nil a0 fun v5=>
aa 7 v5 fun v6=>
St 1 H4 v6 (.slice none 0 0) fun H7=>
R (.returned (iv 0)) H7)→J2 [] H4)→
ae .num .gtr a1 (Value.int .u32 1) fun v8=>
Br v8 (
CF g 95 #[a0,a1] H (fun v9 dG=>
ae .num .eql v9 (iv 0) fun v11=>
Br v11 (
R (.returned (iv 3)) dG) (
Nil a0 fun aZ=>
aa 0 aZ fun bj=>
aa 3 bj fun br=>
Ld dG br fun bB=>
ah 1 bB a1 fun bM=>
Ld dG bM fun bH=>
ae .num .sub bH (Value.int .i32 1) fun bY=>
ah 1 bB a1 fun bK=>
St 1 dG bK bY fun jk=>
Nil a0 fun bX=>
aa 0 bX fun cB=>
aa 3 cB fun cf=>
Ld jk cf fun cm=>
ah 1 cm a1 fun cD=>
Ld jk cD fun cG=>
ae .num .eql cG (Value.int .i32 0) fun cQ=>
Br cQ (
Nil a0 fun dx=>
aa 0 dx fun dw=>
CF g 142 #[dw,a1] jk (fun v30 lA=>
JE J2 [] lA) (au R)) (
JE J2 [] jk))) (au R)) (
JE J2 [] H))
theorem ux(h:L131 g a0 a1 H R):ai Tryz.prog g 131 #[a0,a1] H R:=
 ak (hn:=(.n .e (.n .e (.h 1 [] [0] .e .e)))) Tryz.func131 h (by kernel_rfl)
def L134(g:Gh)(a0 a1 a2:Value)(H:Hp)(R:Rt):Prop:=
Nil a0 fun v1=>
aa 0 v1 fun v2=>
aa 1 v2 fun v3=>
Ld H v3 fun v4=>
CF g 203 #[v4,a1] H (fun v5 H6=>
Ext 0 v5 fun v7=>
Ext 1 v5 fun v8=>
aG v7 fun v9=>
∃(wD:Jt) (NZ:Mt),JE wD [(.slice none 0 0),(iv 0)] H6∧∀kG lW:Value,∀cZ:Hp,wD [kG,lW] cZ→∀HV:Fr,
ae .num .lss lW v9 fun bM=>
Br bM (
∀uD:Jt,(∀oT:Value,∀iz:Hp,(∀MB:Fr,
ae .num .add lW (iv 1) fun bX=>
ay wD NZ [oT,bX] iz [kG,lW] cZ)→uD [oT] iz)→
ah 1 v7 lW fun cB=>
Ld cZ cB fun cf=>
Nil a0 fun cm=>
aa 0 cm fun cD=>
CF g 174 #[cD,cf] cZ (fun cG iP=>
bA iP (.cells #[(iv 0),(Value.int .u32 0),(Value.int .u32 0)] 161 (0,0)) fun Ax kD=>
St 3 kD (pt Ax) cG fun jj=>
∀NC:Jt,(∀xY:Value,∀ie:Hp,(∀T6:Fr,
Br xY (
JE uD [kG] ie) (
aA 3 ie (pt Ax) fun fp=>
Build Tryz.prog 203 [(0,cf),(1,fp)] fun ew=>
bA ie (.cells #[(Value.int .u32 0),(iv 0),(Value.int .u32 0),(Value.int .u32 0),(Value.int .u32 0),(Value.int .u32 0),(Value.int .u32 0),(Value.int .u32 0)] 203 (0,0)) fun Ni lU=>
St 8 lU (pt Ni) ew fun JN=>
aa 1 (pt Ax) fun eZ=>
Ld JN eZ fun fo=>
CF g 204 #[a0,fo,a2] JN (fun gE E6=>
Ext 0 gE fun gi=>
Ext 1 gE fun ig=>
aa 4 (pt Ni) fun iT=>
St 1 E6 iT gi fun E5=>
aa 5 (pt Ni) fun jT=>
St 1 E5 jT ig fun xV=>
aa 2 (pt Ax) fun jA=>
Ld xV jA fun jt=>
CF g 204 #[a0,jt,a2] xV (fun jm xS=>
Ext 0 jm fun nZ=>
Ext 1 jm fun lO=>
aa 6 (pt Ni) fun p9=>
St 1 xS p9 nZ fun Gs=>
aa 7 (pt Ni) fun rU=>
St 1 Gs rU lO fun NJ=>
aA 8 NJ (pt Ni) fun sr=>
ax Tryz.prog 199 1 [(0,sr)] NJ fun wG E3=>
App Tryz.prog 203 8 40 (.agg #[(Value.int .u32 0),(iv 0),(Value.int .u32 0),(Value.int .u32 0),(Value.int .u32 0),(Value.int .u32 0),(Value.int .u32 0),(Value.int .u32 0)]) E3 kG wG fun uR Yf=>
JE uD [uR] Yf) (au R)) (au R)))→NC [xY] ie)→
DR jj fun Zj=>
Nil a0 fun vq=>
aa 0 vq fun AM=>
aa 1 (pt Ax) fun rT=>
Ld Zj rT fun Ap=>
∀F72:Hp,
CF (g.add F72) 174 #[AM,Ap] jj (fun Ao RY=>
aO RY Zj∧
AB 0 Ao fun An=>
ae .num .neq An a2 fun QX=>
Br QX (
Nil a0 fun Am=>
aa 0 Am fun OG=>
aa 2 (pt Ax) fun AK=>
Ld Zj AK fun NX=>
∀F81:Hp,
CF (g.add F81) 174 #[OG,NX] RY (fun GJ Vk=>
aO Vk Zj∧
AB 0 GJ fun J0=>
ae .num .neq J0 a2 fun JZ=>
aD (Value.bool true) JZ (Value.bool false) fun OF=>
JE NC [OF] Vk) aU) (
JE NC [(Value.bool false)] RY)) aU) (au R)) (
R (.returned kG) cZ)) (au R)
theorem ED(h:L134 g a0 a1 a2 H R):ai Tryz.prog g 134 #[a0,a1,a2] H R:=
 ak (hn:=(hN 3 (.n (.n .e (.n (.h 0 [7,26] [0,2,24,25] (.n .e (.n .e (.h 1 [7] [0,2,24,25,26] (.n (.n .e (.n .e (.n (.h 1 [54] [0,2,7,11,12,24,25,26] (.h 1 [] [] (hr 0 [] 0 5 (.h 0 [7] [] (hr 0 [] 5 2 (.h 0 [8] [] (.h 2 [9] [] (hr 0 [] 10 5 (.h 0 [17] [] (hr 0 [] 15 2 (hr 0 [] 18 2 .e)) .e)) (hr 0 [] 10 9 (.h 3 [19] [] .e .e))) .e)) .e)) .e) .e) .e))) .e) .e))) .e) .e)) .e))) Tryz.func134 h (by kernel_rfl)
def L135(g:Gh)(a0 a1:Value)(H:Hp)(R:Rt):Prop:=
DR H fun R1=>
Nil a0 fun v2=>
aa 0 v2 fun v3=>
Ld R1 v3 fun v4=>
Nil a0 fun v5=>
aa 0 v5 fun v6=>
Ld R1 v6 fun v7=>
CF g 58 #[v4] H (fun v8 H9=>
aO H9 R1∧
ae .num .add v8 a1 fun v10=>
CF g 146 #[v7] H9 (fun v11 fA=>
aO fA R1∧
ae .num .leq v10 v11 fun bj=>
R (.returned bj) fA) aU) aU
theorem EC(h:L135 g a0 a1 H R):ai Tryz.prog g 135 #[a0,a1] H R:=
 ak (hn:=(.n .e (.n (.h 0 [0,1,2,3,5,7,8,9,10,4,6,11,12,13] [] .e .e) .e))) Tryz.func135 h (by kernel_rfl)
def L136(g:Gh)(a0 a1 a2:Value)(H:Hp)(R:Rt):Prop:=
pW H fun v1 H2=>
aG a2 fun v3=>
∃(I4:Jt) (m5:Mt),JE I4 [(iv 0)] H2∧∀w8:Value,∀H7:Hp,I4 [w8] H7→∀JH:Fr,
ae .num .lss w8 v3 fun v9=>
Br v9 (
ah 8 a2 w8 fun v10=>
aA 8 H7 v10 fun v11=>
bA H7 (.cells #[(Value.int .u32 0),(iv 0),(Value.int .u32 0),(Value.int .u32 0),(Value.int .u32 0),(Value.int .u32 0),(Value.int .u32 0),(Value.int .u32 0)] 203 (0,0)) fun mI cZ=>
St 8 cZ (pt mI) v11 fun fk=>
aa 4 (pt mI) fun bB=>
Ld fk bB fun bM=>
aa 6 (pt mI) fun bH=>
Ld fk bH fun bY=>
Build Tryz.prog 161 [(0,a1),(1,bM),(2,bY)] fun bK=>
aa 5 (pt mI) fun v20=>
Ld fk v20 fun bX=>
aa 7 (pt mI) fun cB=>
Ld fk cB fun cf=>
Build Tryz.prog 161 [(0,a1),(1,bX),(2,cf)] fun cm=>
ax Tryz.prog 286 2 [(0,bK),(1,cm)] fk fun cD jP=>
aG cD fun cQ=>
∃(Ut:Jt) (m29:Mt),JE Ut [(iv 0)] jP∧∀AG:Value,∀lA:Hp,Ut [AG] lA→∀acv:Fr,
ae .num .lss AG cQ fun e8=>
Br e8 (
∀Yb:Jt,(∀rF:Hp,(∀aib:Fr,
ae .num .add AG (iv 1) fun eE=>
ay Ut m29 [eE] rF [AG] lA)→Yb [] rF)→
ah 3 cD AG fun fB=>
aA 3 lA fB fun fO=>
bA lA (.cells #[(iv 0),(Value.int .u32 0),(Value.int .u32 0)] 161 (0,0)) fun Ud xW=>
St 3 xW (pt Ud) fO fun qL=>
DR qL fun R43=>
Nil a0 fun gi=>
aa 0 gi fun ig=>
aa 1 ig fun iT=>
Ld R43 iT fun jU=>
aA 3 R43 (pt Ud) fun jT=>
CF g 205 #[jU,jT] qL (fun jo xU=>
aO xU R43∧
Ext 0 jo fun jt=>
Ext 1 jo fun jm=>
Un .not jm fun oL=>
cv oL true (fun t54=>
aa 1 (pt Ud) fun lO=>
Ld xU lO fun p9=>
aa 2 (pt Ud) fun rG=>
Ld xU rG fun rU=>
ae .num .neq p9 rU fun AO=>
(xU=xU∧AO=Value.bool t54)) (fun t54=>(Value.bool false)=Value.bool t54) fun t54=>∀acr:Fr,
Br (Value.bool t54) (
Uh Tryz.prog g 10 (nD Tryz.f136 10) [7,11] [v1,(pt Ud)] xU fun E3=>∀acq:Fr,
JE Yb [] E3) (
JE Yb [] xU)) aU) (
ae .num .add w8 (iv 1) fun p8=>
ay I4 m5 [p8] lA [w8] H7)) (
xR H7 v1 fun AN=>
R (.returned AN) H7)
theorem EB(h:L136 g a0 a1 a2 H R):ai Tryz.prog g 136 #[a0,a1,a2] H R:=
 ak (hn:=(.n .e (.n .e (.n (.n .e (.n (.h 0 [17] [0,1,7,15,16] (.n .e (.n .e (.n (.n (.n .e (.n .e (.n (.h 0 [35] [0,1,7,15,16,17,33,34] (.n .e (.n .e (.h 1 [] [0,1,7,15,16,17,33,34,35] (.n (.n .e (.n (.h 0 [0,1,2,3,4,5,6,7,8,9,10,11] [] .e .e) (.n (.h 0 [] [1] .e .e) (.n (.h 9 [7,11] [] .e .e) .e)))) .e) .e))) .e) .e))) .e) .e))) .e) .e)) .e)))) Tryz.func136 h (by kernel_rfl)
def L137(g:Gh)(a0 a1:Value)(H:Hp)(R:Rt):Prop:=
bA H (.cells (Value.cells a1) 161 (0,0)) fun b1 H2=>
aa 0 (pt b1) fun v3=>
Ld H2 v3 fun v4=>
CF g 206 #[a0,v4] H2 (fun v5 H6=>
ae .num .neq v5 (iv 0) fun v7=>
Br v7 (
R (.returned v5) H6) (
Nil a0 fun v8=>
aa 0 v8 fun v9=>
Ld H6 v9 fun v10=>
aa 0 (pt b1) fun v11=>
Ld H6 v11 fun aZ=>
ah 1 v10 aZ fun bj=>
Ld H6 bj fun br=>
aA 3 H6 (pt b1) fun bB=>
kC Tryz.prog 161 (Value.int .u32 0) true H6 br bB fun bM=>
Ext 0 bM fun bH=>
Ext 1 bM fun bY=>
Un .not bY fun bK=>
Br bK (
R (.returned (iv 10)) H6) (
DR H6 fun Az=>
Nil a0 fun bX=>
aa 0 bX fun cB=>
Ld Az cB fun cf=>
aa 0 (pt b1) fun cm=>
Ld Az cm fun cD=>
ah 1 cf cD fun cG=>
Ld Az cG fun cQ=>
aA 3 Az (pt b1) fun dx=>
pX Tryz.prog 161 H6 cQ dx fun lA=>
aO lA Az∧
R (.returned (iv 0)) lA))) (au R)
theorem EA(h:L137 g a0 a1 H R):ai Tryz.prog g 137 #[a0,a1] H R:=
 ak (hn:=(hN 3 (.n (.h 0 [0,1,2,3,4,5,6,7,8,9] [] .e .e) .e))) Tryz.func137 h (by kernel_rfl)
def L138(g:Gh)(a0 a1 a2 a3:Value)(H:Hp)(R:Rt):Prop:=
ae .num .eql a2 a3 fun v1=>
Br v1 (
R (.returned a2) H) (
Build Tryz.prog 161 [(0,a1),(1,a2),(2,a3)] fun v2=>
bA H (.cells #[(iv 0),(Value.int .u32 0),(Value.int .u32 0)] 161 (0,0)) fun b3 H4=>
St 3 H4 (pt b3) v2 fun H5=>
DR H5 fun R6=>
Nil a0 fun v7=>
aa 1 v7 fun v8=>
Ld R6 v8 fun v9=>
aA 3 R6 (pt b3) fun v10=>
CF g 205 #[v9,v10] H5 (fun v11 fA=>
aO fA R6∧
Ext 0 v11 fun bj=>
Ext 1 v11 fun br=>
Br br (
R (.returned bj) fA) (
aA 3 fA (pt b3) fun bB=>
CF g 207 #[a0,bB] fA (fun bM fN=>
R (.returned bM) fN) (au R))) aU)
theorem oJ(h:L138 g a0 a1 a2 a3 H R):ai Tryz.prog g 138 #[a0,a1,a2,a3] H R:=
 ak (hn:=(hN 3 (.n (.n (.h 0 [0,1,2,3,4,5,6,7,8,9,10] [] .e .e) .e) .e))) Tryz.func138 h (by kernel_rfl)
def L139(g:Gh)(a0 a1:Value)(H:Hp)(R:Rt):Prop:=
ae .num .gtr a1 (Value.int .u32 1) fun v1=>
Br v1 (
Nil a0 fun v2=>
aa 2 v2 fun v3=>
Ld H v3 fun v4=>
ah 1 v4 a1 fun v5=>
Ld H v5 fun v6=>
ae .num .add v6 (Value.int .i32 1) fun v7=>
ah 1 v4 a1 fun v8=>
St 1 H v8 v7 fun H9=>
R (.returned (.tuple #[])) H9) (
R (.returned (.tuple #[])) H)
theorem Ez(h:L139 g a0 a1 H R):ai Tryz.prog g 139 #[a0,a1] H R:=
 ak (hn:=.e) Tryz.func139 h (by kernel_rfl)
def L140(g:Gh)(a0 a1 a2:Value)(H:Hp)(R:Rt):Prop:=
bA H (.cells (Value.cells a2) 161 (0,0)) fun b1 H2=>
ae .ptr .eql a0 (.pointer none) fun v3=>
Br v3 (
R (.returned (iv 10)) H2) (
aA 3 H2 (pt b1) fun v4=>
CF g 208 #[a0,v4] H2 (fun v5 H6=>
ae .num .neq v5 (iv 0) fun v7=>
Br v7 (
R (.returned v5) H6) (
CF g 209 #[a0,a1] H6 (fun v8 H9=>
ae .num .neq v8 (iv 0) fun v10=>
Br v10 (
R (.returned v8) H9) (
DR H9 fun XY=>
Nil a0 fun aZ=>
aa 1 aZ fun bj=>
Ld XY bj fun br=>
aA 3 XY (pt b1) fun bB=>
ah 5 br a1 fun bM=>
aa 0 bM fun bH=>
St 3 H9 bH bB fun dN=>
R (.returned (iv 0)) dN)) (au R))) (au R))
theorem Ey(h:L140 g a0 a1 a2 H R):ai Tryz.prog g 140 #[a0,a1,a2] H R:=
 ak (hn:=(hN 4 (.n (.h 0 [0,1,2,3,4,5,6,7,8] [] .e .e) .e))) Tryz.func140 h (by kernel_rfl)
def L141(g:Gh)(a0 a1 a2:Value)(H:Hp)(R:Rt):Prop:=
bA H (.cells (Value.cells a1) 161 (0,0)) fun b1 H2=>
aa 0 (pt b1) fun v3=>
Ld H2 v3 fun v4=>
CF g 206 #[a0,v4] H2 (fun v5 H6=>
ae .num .neq v5 (iv 0) fun v7=>
Br v7 (
R (.returned v5) H6) (
Nil a0 fun v8=>
aa 0 v8 fun v9=>
Ld H6 v9 fun v10=>
aa 0 (pt b1) fun v11=>
Ld H6 v11 fun aZ=>
ah 1 v10 aZ fun bj=>
Ld H6 bj fun br=>
aA 3 H6 (pt b1) fun bB=>
kC Tryz.prog 161 (Value.int .u32 0) true H6 br bB fun bM=>
Ext 0 bM fun bH=>
Ext 1 bM fun bY=>
Br bY (
R (.returned (iv 11)) H6) (
DR H6 fun ud=>
Nil a0 fun v20=>
aa 0 v20 fun bX=>
Ld ud bX fun cB=>
aa 0 (pt b1) fun cf=>
Ld ud cf fun cm=>
ah 1 cB cm fun cD=>
Ld ud cD fun cG=>
aA 3 ud (pt b1) fun cQ=>
lz Tryz.prog 161 H6 cG cQ a2 fun nA=>
R (.returned (iv 0)) nA))) (au R)
theorem Ex(h:L141 g a0 a1 a2 H R):ai Tryz.prog g 141 #[a0,a1,a2] H R:=
 ak (hn:=(hN 3 (.n (.h 0 [0,1,2,3,4,5,6,7,8,9,10] [] .e .e) .e))) Tryz.func141 h (by kernel_rfl)
def L142(g:Gh)(a0 a1:Value)(H:Hp)(R:Rt):Prop:=
ax Tryz.prog 27 1 [(0,a1)] H fun v1 H2=>
∃(I3:Jt) (m4:Mt),JE I3 [v1] H2∧∀w7:Value,∀H6:Hp,I3 [w7] H6→∀Og:Fr,
aG w7 fun v8=>
ae .num .gtr v8 (iv 0) fun v9=>
Br v9 (
aG w7 fun v10=>
ae .num .sub v10 (iv 1) fun v11=>
ah 1 w7 v11 fun aZ=>
Ld H6 aZ fun bj=>
fU 1 w7 none (some v11) fun br=>
ae .num .leq bj (Value.int .u32 1) fun bB=>
Br bB (
ay I3 m4 [br] H6 [w7] H6) (
Nil a0 fun bM=>
aa 2 bM fun bH=>
Ld H6 bH fun bY=>
ah 1 bY bj fun bK=>
Ld H6 bK fun v20=>
ae .num .sub v20 (Value.int .i32 1) fun bX=>
ah 1 bY bj fun cB=>
St 1 H6 cB bX fun jQ=>
Nil a0 fun cm=>
aa 2 cm fun cD=>
Ld jQ cD fun cG=>
ah 1 cG bj fun cQ=>
Ld jQ cQ fun dx=>
ae .num .gtr dx (Value.int .i32 0) fun dw=>
Br dw (
ay I3 m4 [br] jQ [w7] H6) (
CF g 174 #[a0,bj] jQ (fun v30 lA=>
bA lA (.cells #[(iv 0),(Value.int .u32 0),(Value.int .u32 0)] 161 (0,0)) fun XG ie=>
St 3 ie (pt XG) v30 fun nX=>
DR nX fun R35=>
Nil a0 fun ew=>
aa 1 ew fun eE=>
Ld R35 eE fun fB=>
aA 3 R35 (pt XG) fun fO=>
CF g 137 #[fB,fO] nX (fun eZ xW=>
Nil a0 fun gE=>
aa 0 gE fun fW=>
Ld xW fW fun gi=>
CF g 210 #[gi,bj] xW (fun ig Js=>
aa 1 (pt XG) fun jU=>
Ld Js jU fun jT=>
aa 2 (pt XG) fun jo=>
Ld Js jo fun jA=>
ax Tryz.prog 27 2 [(0,jT),(1,jA)] Js fun jt RZ=>
App Tryz.prog 77 1 4 (Value.int .u32 0) RZ br jt fun lO Ae=>
ay I3 m4 [lO] Ae [w7] H6) (au R)) aU) (au R)))) (
R (.returned (.tuple #[])) H6)
theorem Ew(h:L142 g a0 a1 H R):ai Tryz.prog g 142 #[a0,a1] H R:=
 ak (hn:=(.n .e (.n (.h 0 [4] [0] (.n .e (.n (hN 6 (.n (.h 0 [0,1,2,3,4,5] [] .e .e) .e)) .e)) .e) .e))) Tryz.func142 h (by kernel_rfl)
def L143(g:Gh)(a0 a1 a2:Value)(H:Hp)(R:Rt):Prop:=
DR H fun R1=>
Ld R1 a1 fun v2=>
Ld R1 a1 fun v3=>
CF g 34 #[v2] H (fun v4 H5=>
aO H5 R1∧
CF g 15 #[v3] H5 (fun v6 H7=>
aO H7 R1∧
∀J8:Jt,(∀lB eP:Value,∀dG:Hp,(∀RS:Fr,
Ld dG a1 fun bj=>
ae .num .add v4 lB fun br=>
CF g 145 #[bj,br] dG (fun bB eo=>
Ext 0 bB fun bH=>
Ext 1 bB fun bY=>
ae .num .add eP bH fun bK=>
R (.returned bK) eo) (au R))→J8 [lB,eP] dG)→
Ld H7 a2 fun v20=>
aG v20 fun bX=>
∃(EZ:Jt) (Tc:Mt),JE EZ [v6,(iv 0),(iv 0),(iv 0)] H7∧∀jl AH uQ vm:Value,∀dW:Hp,EZ [jl,AH,uQ,vm] dW→∀Qc:Fr,
ae .num .lss vm bX fun v30=>
Br v30 (
∀NC:Jt,(∀xY Jx QV:Value,∀ie:Hp,(∀T6:Fr,
ae .num .add vm (iv 1) fun eE=>
ay EZ Tc [xY,Jx,QV,eE] ie [jl,AH,uQ,vm] dW)→NC [xY,Jx,QV] ie)→
ah 1 v20 vm fun fB=>
Ld dW fB fun fO=>
Ld dW a1 fun eZ=>
ae .num .add a0 fO fun fo=>
CF g 144 #[eZ,fo] dW (fun gE E6=>
Ext 0 gE fun gi=>
Ext 1 gE fun ig=>
bA E6 (.cells #[(iv 0),(iv 0),(iv 0)] 210 (0,0)) fun XE E5=>
St 3 E5 (pt XE) gi fun p6=>
ae .num .neq ig (iv 0) fun jo=>
Br jo (
JE J8 [AH,uQ] p6) (
ae .num .add uQ (iv 1) fun jA=>
aa 2 (pt XE) fun jt=>
Ld p6 jt fun jm=>
ae .num .lss jm jl fun oL=>
Br oL (
aa 2 (pt XE) fun nZ=>
Ld p6 nZ fun lO=>
JE NC [lO,jA,jA] p6) (
JE NC [jl,AH,jA] p6))) (au R)) (
JE J8 [AH,uQ] dW)) aU) aU
theorem Ev(h:L143 g a0 a1 a2 H R):ai Tryz.prog g 143 #[a0,a1,a2] H R:=
 ak (hn:=(.n .e (.n (.h 0 [0,2,1,3,4,5,6,7] [] .e .e) (.h 1 [7,8] [1,5] (.n .e (.n (.h 0 [6,7,8,21] [0,1,5,19,20] (.n .e (.n .e (.h 1 [6,7,8] [0,1,5,19,20,21] .e .e))) .e) .e)) .e)))) Tryz.func143 h (by kernel_rfl)
def L144(g:Gh)(a0 a1:Value)(H:Hp)(R:Rt):Prop:=
bA H (.cells #[(iv 0),(iv 0),(iv 0)] 210 (0,0)) fun b1 H2=>
CF g 15 #[a0] H2 (fun v3 H4=>
Build Tryz.prog 210 [(0,a1),(1,v3)] fun v5=>
bA H4 (.cells #[(iv 0),(iv 0),(iv 0)] 210 (0,0)) fun b6 H7=>
St 3 H7 (pt b6) v5 fun H8=>
CF g 17 #[a0,a1] H8 (fun v9 dG=>
ae .num .neq v9 (iv 0) fun v11=>
Br v11 (
Build Tryz.prog 210 [] fun aZ=>
St 3 dG (pt b1) aZ fun cZ=>
aA 3 cZ (pt b1) fun br=>
R (.returned (.tuple #[br,v9])) cZ) (
CF g 15 #[a0] dG (fun bB eo=>
aa 2 (pt b6) fun bH=>
St 1 eo bH bB fun dN=>
aA 3 dN (pt b6) fun bK=>
St 3 dN (pt b1) bK fun jk=>
aA 3 jk (pt b1) fun bX=>
R (.returned (.tuple #[bX,(iv 0)])) jk) (au R))) (au R)) (au R)
theorem uv(h:L144 g a0 a1 H R):ai Tryz.prog g 144 #[a0,a1] H R:=
 ak (hn:=.e) Tryz.func144 h (by kernel_rfl)
def L145(g:Gh)(a0 a1:Value)(H:Hp)(R:Rt):Prop:=
ae .ptr .eql a0 (.pointer none) fun v1=>
Br v1 (
R (.returned (.tuple #[(iv 0),(iv 10)])) H) (
∀J2:Jt,(∀w5:Value,∀H4:Hp,(∀RT:Fr,
Br w5 (
R (.returned (.tuple #[(iv 0),(iv 1)])) H4) (
∃(I6:Jt) (m7:Mt),JE I6 [(iv 0)] H4∧∀eY:Value,∀H9:Hp,I6 [eY] H9→∀FW:Fr,
CF g 34 #[a0] H9 (fun v11 fA=>
ae .num .gtr v11 a1 fun bj=>
Br bj (
CF g 18 #[a0] fA (fun br c6=>
ae .num .add eY (iv 1) fun bM=>
ay I6 m7 [bM] c6 [eY] H9) (au R)) (
R (.returned (.tuple #[eY,(iv 0)])) fA)) (au R)))→J2 [w5] H4)→
ae .num .lss a1 (iv 0) fun bH=>
Split bH false (
CF g 34 #[a0] H (fun bY iz=>
ae .num .gtr a1 bY fun v20=>
aD (Value.bool false) (Value.bool true) v20 fun bX=>
JE J2 [bX] iz) (au R)) (
aD (Value.bool true) (Value.bool true) undef fun cB=>
JE J2 [cB] H))
theorem Eu(h:L145 g a0 a1 H R):ai Tryz.prog g 145 #[a0,a1] H R:=
 ak (hn:=(.n .e (.n .e (.n (.h 1 [16] [0,1] .e .e) (.n .e (.n (.n (.h 0 [6] [0,1] .e .e) .e) .e)))))) Tryz.func145 h (by kernel_rfl)
def L146(g:Gh)(a0:Value)(H:Hp)(R:Rt):Prop:=
ae .ptr .eql a0 (.pointer none) fun v1=>
Br v1 (
R (.returned (iv 0)) H) (
Nil a0 fun v2=>
aa 0 v2 fun v3=>
Ld H v3 fun v4=>
R (.returned v4) H)
theorem Et(h:L146 g a0 H R):ai Tryz.prog g 146 #[a0] H R:=
 ak (hn:=.e) Tryz.func146 h (by kernel_rfl)
def L147(g:Gh)(a0 a1:Value)(H:Hp)(R:Rt):Prop:=
bA H (.cells (Value.cells a1) 4 (0,0)) fun b1 H2=>
bA H2 (.cells #[(iv 0),(.slice none 0 0)] 57 (0,0)) fun b3 H4=>
CF g 211 #[a0] H4 (fun v5 H6=>
ae .num .neq v5 (iv 0) fun v7=>
Br v7 (
Build Tryz.prog 57 [] fun v8=>
St 2 H6 (pt b3) v8 fun H9=>
aA 2 H9 (pt b3) fun v10=>
R (.returned (.tuple #[v10,v5])) H9) (
CF g 212 #[a0,(.func (.func 213) #[] #[(pt b1)])] H6 (fun v11 fA=>
St 2 fA (pt b3) v11 fun cZ=>
aA 2 cZ (pt b3) fun br=>
R (.returned (.tuple #[br,(iv 0)])) cZ) (au R))) (au R)
theorem Es(h:L147 g a0 a1 H R):ai Tryz.prog g 147 #[a0,a1] H R:=
 ak (hn:=.e) Tryz.func147 h (by kernel_rfl)
def L148(g:Gh)(a0 a1 a2:Value)(H:Hp)(R:Rt):Prop:=
bA H (.cells (Value.cells a0) 57 (0,0)) fun b1 H2=>
bA H2 (.cells #[(iv 0),(.slice none 0 0)] 57 (0,0)) fun b3 H4=>
aA 2 H4 (pt b1) fun v5=>
CF g 214 #[v5,a1] H4 (fun v6 H7=>
ae .num .neq v6 (iv 0) fun v8=>
Br v8 (
Build Tryz.prog 57 [] fun v9=>
St 2 H7 (pt b3) v9 fun dG=>
aA 2 dG (pt b3) fun v11=>
R (.returned (.tuple #[v11,v6])) dG) (
aA 2 H7 (pt b1) fun aZ=>
CF g 215 #[aZ,a1,a2] H7 (fun bj fk=>
St 2 fk (pt b3) bj fun c6=>
aA 2 c6 (pt b3) fun bM=>
R (.returned (.tuple #[bM,(iv 0)])) c6) (au R))) (au R)
theorem Er(h:L148 g a0 a1 a2 H R):ai Tryz.prog g 148 #[a0,a1,a2] H R:=
 ak (hn:=.e) Tryz.func148 h (by kernel_rfl)
def L150(g:Gh)(a0 a1:Value)(H:Hp)(R:Rt):Prop:=
ae .ptr .eql a0 (.pointer none) fun v1=>
Br v1 (
R (.returned (iv 10)) H) (
aG a1 fun v2=>
∃(I3:Jt) (m4:Mt),JE I3 [(iv 0)] H∧∀w7:Value,∀H6:Hp,I3 [w7] H6→∀Og:Fr,
ae .num .lss w7 v2 fun v8=>
Br v8 (
ah 1 a1 w7 fun v9=>
Ld H6 v9 fun v10=>
CF g 97 #[a0,v10] H6 (fun v11 fA=>
Ext 0 v11 fun bj=>
Ext 1 v11 fun br=>
bA fA (.cells #[(iv 0),(Value.int .u32 0),(Value.int .u32 0)] 161 (0,0)) fun pR eo=>
St 3 eo (pt pR) bj fun fN=>
ae .num .neq br (iv 0) fun bY=>
Br bY (
R (.returned br) fN) (
ae .num .add w7 (iv 1) fun bK=>
ay I3 m4 [bK] fN [w7] H6)) (au R)) (
R (.returned (iv 0)) H6))
theorem Ep(h:L150 g a0 a1 H R):ai Tryz.prog g 150 #[a0,a1] H R:=
 ak (hn:=(.n .e (.n .e (.n (.n .e (.n (.h 0 [13] [0,11,12] .e .e) .e)) .e)))) Tryz.func150 h (by kernel_rfl)
def L151(g:Gh)(a0 a1 a2 a3 a4:Value)(H:Hp)(R:Rt):Prop:=
bA H (.cells (Value.cells a0) 26 (0,0)) fun b1 H2=>
bA H2 (.cells (Value.cells a2) 57 (0,0)) fun b3 H4=>
bA H4 (.cells (Value.cells a3) 57 (0,0)) fun b5 H6=>
bA H6 (.cells (Value.cells a4) 221 (0,0)) fun b7 H8=>
bA H8 (.cells #[(iv 0),(.slice none 0 0)] 57 (0,0)) fun b9 dG=>
pW dG fun v11 fA=>
aA 2 fA (pt b3) fun bj=>
fV (.int .u32) fA v11 (Value.int .u32 0) bj fun fk=>
aA 2 fk (pt b5) fun bB=>
fV (.int .u32) fk v11 (Value.int .u32 1) bB fun eo=>
bA eo (.cells #[(.map none)] 295 (0,0)) fun b17 dN=>
St 1 dN (pt b17) v11 fun iz=>
bA iz (.cells #[.nilFunc] 296 (0,0)) fun wi dZ=>
St 1 dZ (pt wi) (.func (.func 216) #[] #[(pt b17),(pt b1),(pt b7),(pt wi)]) fun fy=>
Ld fy (pt wi) fun cf=>
fm Tryz.prog g cf #[a1] fy (fun cm dW=>
St 2 dW (pt b9) cm fun jP=>
aA 2 jP (pt b9) fun cQ=>
R (.returned cQ) jP) (au R)
theorem Eo(h:L151 g a0 a1 a2 a3 a4 H R):ai Tryz.prog g 151 #[a0,a1,a2,a3,a4] H R:=
 ak (hn:=.e) Tryz.func151 h (by kernel_rfl)
def L152(g:Gh)(a0 a1 a2 a3:Value)(H:Hp)(R:Rt):Prop:=
bA H (.cells (Value.cells a0) 161 (0,0)) fun b1 H2=>
bA H2 (.cells (Value.cells a1) 57 (0,0)) fun b3 H4=>
bA H4 (.cells (Value.cells a2) 57 (0,0)) fun b5 H6=>
bA H6 (.cells #[(iv 0),(.slice none 0 0)] 57 (0,0)) fun b7 H8=>
Ld H8 a3 fun v9=>
aa 0 (pt b1) fun v10=>
Ld H8 v10 fun v11=>
CF g 153 #[v9,v11] H8 (fun aZ cZ=>
Ext 0 aZ fun br=>
Ext 1 aZ fun bB=>
bA cZ (.cells #[(iv 0),(.slice none 0 0)] 57 (0,0)) fun qI fN=>
St 2 fN (pt qI) br fun dN=>
aA 2 dN (pt qI) fun bK=>
aA 2 dN (pt b5) fun v20=>
aA 2 dN (pt b3) fun bX=>
CF g 154 #[bK,v20,bX] dN (fun cB jQ=>
Ext 0 cB fun cm=>
Ext 1 cB fun cD=>
bA jQ (.cells #[(iv 0),(.slice none 0 0)] 57 (0,0)) fun sb iP=>
St 2 iP (pt sb) cm fun nA=>
aA 2 nA (pt sb) fun dw=>
St 2 nA (pt b7) dw fun jj=>
aA 2 jj (pt b7) fun eJ=>
R (.returned eJ) jj) (au R)) (au R)
theorem En(h:L152 g a0 a1 a2 a3 H R):ai Tryz.prog g 152 #[a0,a1,a2,a3] H R:=
 ak (hn:=.e) Tryz.func152 h (by kernel_rfl)
def L153(g:Gh)(a0 a1:Value)(H:Hp)(R:Rt):Prop:=
bA H (.cells (Value.cells a1) 3 (0,0)) fun b1 H2=>
bA H2 (.cells #[(iv 0),(.slice none 0 0)] 57 (0,0)) fun b3 H4=>
CF g 211 #[a0] H4 (fun v5 H6=>
ae .num .neq v5 (iv 0) fun v7=>
Br v7 (
Build Tryz.prog 57 [] fun v8=>
St 2 H6 (pt b3) v8 fun H9=>
aA 2 H9 (pt b3) fun v10=>
R (.returned (.tuple #[v10,v5])) H9) (
Ld H6 (pt b1) fun v11=>
ae .num .lss v11 (iv 0) fun aZ=>
cv aZ false (fun t13=>
Ld H6 (pt b1) fun br=>
ae .num .geq br a0 fun bB=>
(H6=H6∧bB=Value.bool t13)) (fun t13=>(Value.bool true)=Value.bool t13) fun t13=>∀T9:Fr,
Br (Value.bool t13) (
Build Tryz.prog 57 [] fun bH=>
St 2 H6 (pt b3) bH fun dN=>
aA 2 dN (pt b3) fun bK=>
R (.returned (.tuple #[bK,(iv 2)])) dN) (
CF g 212 #[a0,(.func (.func 218) #[] #[(pt b1)])] H6 (fun v20 dZ=>
St 2 dZ (pt b3) v20 fun fy=>
aA 2 fy (pt b3) fun cf=>
R (.returned (.tuple #[cf,(iv 0)])) fy) (au R)))) (au R)
theorem Em(h:L153 g a0 a1 H R):ai Tryz.prog g 153 #[a0,a1] H R:=
 ak (hn:=(.n .e (.n .e (.n (.n (.h 0 [] [1] .e .e) .e) .e)))) Tryz.func153 h (by kernel_rfl)
def L154(g:Gh)(a0 a1 a2:Value)(H:Hp)(R:Rt):Prop:=
bA H (.cells (Value.cells a0) 57 (0,0)) fun b1 H2=>
bA H2 (.cells (Value.cells a1) 57 (0,0)) fun b3 H4=>
bA H4 (.cells (Value.cells a2) 57 (0,0)) fun b5 H6=>
bA H6 (.cells #[(iv 0),(.slice none 0 0)] 57 (0,0)) fun b7 H8=>
aA 2 H8 (pt b1) fun v9=>
aA 2 H8 (pt b3) fun v10=>
aA 2 H8 (pt b5) fun v11=>
ax Tryz.prog 28 3 [(0,v9),(1,v10),(2,v11)] H8 fun aZ cZ=>
CF g 220 #[aZ] cZ (fun br c6=>
Un .not br fun bM=>
Br bM (
Build Tryz.prog 57 [] fun bH=>
St 2 c6 (pt b7) bH fun dN=>
aA 2 dN (pt b7) fun bK=>
R (.returned (.tuple #[bK,(iv 5)])) dN) (
aa 0 (pt b1) fun v20=>
Ld c6 v20 fun bX=>
CF g 212 #[bX,(.func (.func 221) #[] #[(pt b1),(pt b3),(pt b5)])] c6 (fun cB jQ=>
St 2 jQ (pt b7) cB fun iy=>
aA 2 iy (pt b7) fun cD=>
R (.returned (.tuple #[cD,(iv 0)])) iy) (au R))) (au R)
theorem El(h:L154 g a0 a1 a2 H R):ai Tryz.prog g 154 #[a0,a1,a2] H R:=
 ak (hn:=.e) Tryz.func154 h (by kernel_rfl)
def L155(g:Gh)(a0:Value)(H:Hp)(R:Rt):Prop:=
CF g 175 #[a0] H (fun v1 H2=>
Un .not v1 fun v3=>
Br v3 (
R (.returned (.tuple #[(.slice none 0 0),(iv 5)])) H2) (
aG a0 fun v4=>
ae .num .eql v4 (iv 0) fun v5=>
Br v5 (
R (.returned (.tuple #[(.slice none 0 0),(iv 0)])) H2) (
ah 2 a0 (iv 0) fun v6=>
aa 0 v6 fun v7=>
Ld H2 v7 fun v8=>
bZ 50 1 8 (Value.int .u64 0) H2 v8 v8 fun v9 dG=>
aG a0 fun v11=>
∃(uE:Jt) (Ln:Mt),JE uE [(iv 0)] dG∧∀gm:Value,∀c6:Hp,uE [gm] c6→∀rO:Fr,
ae .num .lss gm v11 fun bH=>
Br bH (
ah 2 a0 gm fun bY=>
aA 2 c6 bY fun bK=>
bA c6 (.cells #[(iv 0),(.slice none 0 0)] 57 (0,0)) fun wi dZ=>
St 2 dZ (pt wi) bK fun fy=>
aA 2 fy (pt wi) fun cf=>
CF g 156 #[cf] fy (fun cm dW=>
Ext 0 cm fun cG=>
Ext 1 cm fun cQ=>
aG v9 fun dx=>
∃(Us:Jt) (m30:Mt),JE Us [(iv 0)] dW∧∀Fg:Value,∀mV:Hp,Us [Fg] mV→∀T7:Fr,
ae .num .lss Fg dx fun e7=>
Br e7 (
∀Gr:Jt,(∀rE:Hp,(∀Xq:Fr,
ae .num .add Fg (iv 1) fun fB=>
ay Us m30 [fB] rE [Fg] mV)→Gr [] rE)→
ae .num .shr cG Fg fun fO=>
ae .num .and fO (Value.int .u64 1) fun eZ=>
ae .num .eql eZ (Value.int .u64 1) fun fo=>
Br fo (
DR mV fun Zm=>
ah 1 v9 Fg fun fW=>
Ld Zm fW fun gi=>
ae .num .shl (Value.int .u64 1) Fg fun ig=>
ae .num .andNot cG ig fun iT=>
ae .num .or gi iT fun jU=>
ah 1 v9 Fg fun jT=>
St 1 mV jT jU fun xV=>
JE Gr [] xV) (
JE Gr [] mV)) (
ae .num .add gm (iv 1) fun jA=>
ay uE Ln [jA] mV [gm] c6)) (au R)) (
R (.returned (.tuple #[v9,(iv 0)])) c6)))) (au R)
theorem Ek(h:L155 g a0 H R):ai Tryz.prog g 155 #[a0] H R:=
 ak (hn:=(hN 4 (.n (.n .e (.n (.h 0 [23] [4,21,22] (.n .e (.n .e (.n (.n (hN 3 (.n (.h 0 [34] [4,7,21,22,23,33] (.n .e (.n .e (.h 1 [] [4,7,21,22,23,33,34] (.n (.n .e (.n .e (.n (.h 0 [0,1,2,3,4,5,6,7,8,9,10] [] .e .e) .e))) .e) .e))) .e) .e)) .e) .e))) .e) .e)) .e))) Tryz.func155 h (by kernel_rfl)
def L156(g:Gh)(a0:Value)(H:Hp)(R:Rt):Prop:=
bA H (.cells (Value.cells a0) 57 (0,0)) fun b1 H2=>
aA 2 H2 (pt b1) fun v3=>
ax Tryz.prog 28 1 [(0,v3)] H2 fun v4 H5=>
CF g 220 #[v4] H5 (fun v6 H7=>
Un .not v6 fun v8=>
Br v8 (
R (.returned (.tuple #[(Value.int .u64 0),(iv 5)])) H7) (
aa 0 (pt b1) fun v9=>
Ld H7 v9 fun v10=>
∃(Uv:Jt) (m12:Mt),JE Uv [(Value.int .u64 0),(iv 0)] H7∧∀lW gm:Value,∀fk:Hp,Uv [lW,gm] fk→∀MC:Fr,
ae .num .lss gm v10 fun bH=>
Br bH (
∀Uq:Jt,(∀Al:Value,∀jk:Hp,(∀Xu:Fr,
ae .num .add gm (iv 1) fun cB=>
ay Uv m12 [Al,cB] jk [lW,gm] fk)→Uq [Al] jk)→
DR fk fun RX=>
aA 2 RX (pt b1) fun cm=>
aA 2 RX (pt b1) fun cD=>
CF g 215 #[cm,gm,(Value.bool false)] fk (fun cG iP=>
aO iP RX∧
AB 1 cG fun dx=>
CF g 215 #[cD,gm,(Value.bool true)] iP (fun dw jj=>
aO jj RX∧
AB 1 dw fun eJ=>
CF g 222 #[dx,eJ] jj (fun dU ie=>
aO ie RX∧
Un .not dU fun e7=>
Br e7 (
ae .num .shl (Value.int .u64 1) gm fun fp=>
ae .num .or lW fp fun ew=>
JE Uq [ew] ie) (
JE Uq [lW] ie)) aU) aU) aU) (
R (.returned (.tuple #[lW,(iv 0)])) fk))) (au R)
theorem Ej(h:L156 g a0 H R):ai Tryz.prog g 156 #[a0] H R:=
 ak (hn:=(hN 3 (.n (.n .e (.n (.h 0 [4,12] [1,11] (.n .e (.n .e (.h 1 [4] [1,11,12] (.n (.n .e (.n (.h 0 [0,1,4,5,2,3,6,7,8,9] [] .e .e) .e)) .e) .e))) .e) .e)) .e))) Tryz.func156 h (by kernel_rfl)
def L157(g:Gh)(a0 a1 a2:Value)(H:Hp)(R:Rt):Prop:=
CF g 175 #[a0] H (fun v1 H2=>
Un .not v1 fun v3=>
Br v3 (
R (.returned (.tuple #[(iv 0),(iv 5)])) H2) (
∀J4:Jt,(∀w7:Value,∀H6:Hp,(∀Og:Fr,
ae .num .lss a2 (iv 0) fun v8=>
cv v8 false (fun t9=>
ae .num .geq a2 w7 fun v10=>
(H6=H6∧v10=Value.bool t9)) (fun t9=>(Value.bool true)=Value.bool t9) fun t9=>∀MD:Fr,
cv (Value.bool t9) false (fun t12=>
ae .num .shr a1 w7 fun bj=>
ae .num .neq bj (Value.int .u64 0) fun br=>
(H6=H6∧br=Value.bool t12)) (fun t12=>(Value.bool true)=Value.bool t12) fun t12=>∀BV:Fr,
Br (Value.bool t12) (
R (.returned (.tuple #[(iv 0),(iv 2)])) H6) (
ae .num .shr a1 a2 fun bM=>
ae .num .and bM (Value.int .u64 1) fun bH=>
ae .num .eql bH (Value.int .u64 1) fun bY=>
Br bY (
R (.returned (.tuple #[(iv 0),(iv 4)])) H6) (
CF g 176 #[a0] H6 (fun bK jk=>
∃(I21:Jt) (m22:Mt),JE I21 [bK,(iv 0)] jk∧∀sn jl:Value,∀iy:Hp,I21 [sn,jl] iy→∀T8:Fr,
ae .num .lss jl w7 fun cQ=>
Br cQ (
∀Ac:Jt,(∀Oz:Value,∀jj:Hp,(∀Xr:Fr,
ae .num .add jl (iv 1) fun dU=>
ay I21 m22 [Oz,dU] jj [sn,jl] iy)→Ac [Oz] jj)→
ae .num .shr a1 jl fun e8=>
ae .num .and e8 (Value.int .u64 1) fun e7=>
ae .num .eql e7 (Value.int .u64 1) fun fp=>
Br fp (
CF g 177 #[sn,jl] iy (fun ew rE=>
Ext 0 ew fun fB=>
Ext 1 ew fun fO=>
JE Ac [fB] rE) (au R)) (
JE Ac [sn] iy)) (
CF g 177 #[sn,a2] iy (fun eZ xW=>
Ext 0 eZ fun gE=>
Ext 1 eZ fun fW=>
R (.returned (.tuple #[fW,(iv 0)])) xW) (au R))) (au R))))→J4 [w7] H6)→
aG a0 fun gi=>
ae .num .gtr gi (iv 0) fun ig=>
Br ig (
ah 2 a0 (iv 0) fun iT=>
aa 0 iT fun jU=>
Ld H2 jU fun jT=>
JE J4 [jT] H2) (
JE J4 [(iv 16)] H2))) (au R)
theorem Ei(h:L157 g a0 a1 a2 H R):ai Tryz.prog g 157 #[a0,a1,a2] H R:=
 ak (hn:=(hN 3 (.h 1 [8] [0,1,2] .e (.n (.n (.h 0 [] [1] .e .e) .e) (.n .e (.n .e (.n (.n .e (.n (.h 0 [9,44] [1,2,43] (.n .e (.n .e (.h 1 [9] [1,2,43,44] .e .e))) .e) .e)) .e))))))) Tryz.func157 h (by kernel_rfl)
def L158(g:Gh)(a0 a1:Value)(H:Hp)(R:Rt):Prop:=
Nil a0 fun v1=>
aa 0 v1 fun v2=>
Ld H v2 fun v3=>
ah 2 v3 a1 fun v4=>
aA 2 H v4 fun v5=>
bA H (.cells #[(iv 0),(iv 0)] 233 (0,0)) fun b6 H7=>
St 2 H7 (pt b6) v5 fun H8=>
∃(I9:Jt) (Te:Mt),JE I9 [a1] H8∧∀nJ:Value,∀fA:Hp,I9 [nJ] fA→∀MD:Fr,
∀rS:Jt,(∀vn:Value,∀eo:Hp,(∀BV:Fr,
Br vn (
Nil a0 fun bY=>
aa 0 bY fun bK=>
Ld eo bK fun v20=>
ae .num .sub nJ (iv 1) fun bX=>
ae .num .quo bX (iv 2) fun cB=>
ah 2 v20 cB fun cf=>
aA 2 eo cf fun cm=>
CF g 159 #[a0,nJ,cm] eo (fun cD jP=>
ae .num .sub nJ (iv 1) fun cQ=>
ae .num .quo cQ (iv 2) fun dx=>
ay I9 Te [dx] jP [nJ] fA) (au R)) (
aA 2 eo (pt b6) fun dw=>
CF g 159 #[a0,nJ,dw] eo (fun v30 lA=>
R (.returned (.tuple #[])) lA) (au R)))→rS [vn] eo)→
DR fA fun Uj=>
ae .num .gtr nJ (iv 0) fun e8=>
Br e8 (
aA 2 Uj (pt b6) fun e7=>
Nil a0 fun fp=>
aa 0 fp fun ew=>
Ld Uj ew fun eE=>
ae .num .sub nJ (iv 1) fun fB=>
ae .num .quo fB (iv 2) fun fO=>
ah 2 eE fO fun eZ=>
aA 2 Uj eZ fun fo=>
∀F42:Hp,
CF (g.add F42) 223 #[e7,fo] fA (fun fW AA=>
aO AA Uj∧
aD (Value.bool true) fW (Value.bool false) fun ig=>
JE rS [ig] AA) aU) (
JE rS [(Value.bool false)] fA)
theorem Eh(h:L158 g a0 a1 H R):ai Tryz.prog g 158 #[a0,a1] H R:=
 ak (hn:=(.n .e (.n (.n (.h 0 [1] [0,4] (.n (.h 1 [26] [0,1,4] (.h 1 [] [] (hr 0 [] 0 2 (.h 2 [2] [] (hr 0 [] 3 12 .e) (hr 0 [] 3 11 (.h 3 [14] [] .e .e)))) .e) .e) .e) .e) .e) .e))) Tryz.func158 h (by kernel_rfl)
def L159(g:Gh)(a0 a1 a2:Value)(H:Hp)(R:Rt):Prop:=
bA H (.cells (Value.cells a2) 233 (0,0)) fun b1 H2=>
DR H2 fun R3=>
Nil a0 fun v4=>
aa 0 v4 fun v5=>
Ld R3 v5 fun v6=>
aA 2 R3 (pt b1) fun v7=>
ah 2 v6 a1 fun v8=>
St 2 H2 v8 v7 fun H9=>
DR H9 fun X1=>
Nil a0 fun v11=>
aa 1 v11 fun aZ=>
Ld X1 aZ fun bj=>
aa 0 (pt b1) fun br=>
Ld X1 br fun bB=>
fV (.int .i64) H9 bj bB a1 fun eo=>
R (.returned (.tuple #[])) eo
theorem Eg(h:L159 g a0 a1 a2 H R):ai Tryz.prog g 159 #[a0,a1,a2] H R:=
 ak (hn:=(.n .e (.n (.h 0 [0,1,2,3,4,5,6,7] [] .e .e) (.h 0 [0,1,2,3,4,5,6,7] [] .e .e)))) Tryz.func159 h (by kernel_rfl)
def L160(g:Gh)(a0 a1:Value)(H:Hp)(R:Rt):Prop:=
Nil a0 fun v1=>
aa 0 v1 fun v2=>
Ld H v2 fun v3=>
ah 2 v3 a1 fun v4=>
aA 2 H v4 fun v5=>
bA H (.cells #[(iv 0),(iv 0)] 233 (0,0)) fun b6 H7=>
St 2 H7 (pt b6) v5 fun H8=>
∃(I9:Jt) (Te:Mt),JE I9 [a1] H8∧∀nJ:Value,∀fA:Hp,I9 [nJ] fA→∀MD:Fr,
ae .num .mul (iv 2) nJ fun br=>
ae .num .add br (iv 1) fun bB=>
∀J16:Jt,(∀NV:Value,∀dN:Hp,(∀Xv:Fr,
∀J20:Jt,(∀lN:Value,∀fy:Hp,(∀Xt:Fr,
Br lN (
aA 2 fy (pt b6) fun cm=>
CF g 159 #[a0,nJ,cm] fy (fun cD jP=>
R (.returned (.tuple #[])) jP) (au R)) (
Nil a0 fun cQ=>
aa 0 cQ fun dx=>
Ld fy dx fun dw=>
ah 2 dw NV fun v30=>
aA 2 fy v30 fun eJ=>
CF g 159 #[a0,nJ,eJ] fy (fun dU ie=>
ay I9 Te [NV] ie [nJ] fA) (au R)))→J20 [lN] fy)→
DR dN fun yc=>
Nil a0 fun fp=>
aa 0 fp fun ew=>
Ld yc ew fun eE=>
aG eE fun fB=>
ae .num .geq NV fB fun fO=>
Br fO (
JE J20 [(Value.bool true)] dN) (
Nil a0 fun eZ=>
aa 0 eZ fun fo=>
Ld yc fo fun gE=>
ah 2 gE NV fun fW=>
aA 2 yc fW fun gi=>
aA 2 yc (pt b6) fun ig=>
∀F46:Hp,
CF (g.add F46) 223 #[gi,ig] dN (fun jU p6=>
aO p6 yc∧
Un .not jU fun jo=>
aD (Value.bool false) (Value.bool true) jo fun jA=>
JE J20 [jA] p6) aU))→J16 [NV] dN)→
∀J51:Jt,(∀w54:Value,∀xS:Hp,(∀ah4:Fr,
Br w54 (
ae .num .add bB (iv 1) fun lO=>
JE J16 [lO] xS) (
JE J16 [bB] xS))→J51 [w54] xS)→
DR fA fun QE=>
ae .num .add bB (iv 1) fun rG=>
Nil a0 fun rU=>
aa 0 rU fun AO=>
Ld QE AO fun sr=>
aG sr fun wG=>
ae .num .lss rG wG fun yh=>
Br yh (
Nil a0 fun p8=>
aa 0 p8 fun AN=>
Ld QE AN fun uR=>
ae .num .add bB (iv 1) fun sq=>
ah 2 uR sq fun x4=>
aA 2 QE x4 fun vq=>
Nil a0 fun AM=>
aa 0 AM fun rT=>
Ld QE rT fun Ap=>
ah 2 Ap bB fun AL=>
aA 2 QE AL fun Ao=>
∀F74:Hp,
CF (g.add F74) 223 #[vq,Ao] fA (fun An Jr=>
aO Jr QE∧
aD (Value.bool true) An (Value.bool false) fun Am=>
JE J51 [Am] Jr) aU) (
JE J51 [(Value.bool false)] fA)
theorem Ef(h:L160 g a0 a1 H R):ai Tryz.prog g 160 #[a0,a1] H R:=
 ak (hn:=(.n .e (.n (.n (.h 0 [1] [0,4] (.n (.n .e (.h 1 [5] [0,1,4] (.h 1 [41] [0,1,4,5] (.h 1 [] [] (hr 0 [] 0 8 (.h 2 [8] [] (hr 0 [] 9 17 .e) (hr 0 [] 9 16 (.h 3 [25] [] .e .e)))) .e) .e) (.n (.h 1 [62] [0,1,4,5] (.h 1 [] [] (hr 0 [] 0 7 (.h 2 [7] [] (hr 0 [] 8 10 (.h 3 [18] [] .e .e)) (hr 0 [] 8 11 .e))) .e) .e) .e))) .e) .e) .e) .e))) Tryz.func160 h (by kernel_rfl)
def L161(g:Gh)(a0 a1:Value)(H:Hp)(R:Rt):Prop:=
bA H (.cells (Value.cells a0) 57 (0,0)) fun b1 H2=>
DR H2 fun R3=>
aA 2 R3 (pt b1) fun v4=>
aA 2 R3 (pt b1) fun v5=>
CF g 163 #[v4,a1,(Value.bool false)] H2 (fun v6 H7=>
aO H7 R3∧
CF g 163 #[v5,a1,(Value.bool true)] H7 (fun v8 H9=>
aO H9 R3∧
CF g 36 #[v6,v8] H9 (fun v10 dX=>
aO dX R3∧
Un .not v10 fun aZ=>
R (.returned aZ) dX) aU) aU) aU
theorem Ee(h:L161 g a0 a1 H R):ai Tryz.prog g 161 #[a0,a1] H R:=
 ak (hn:=(.n .e (.n (.h 0 [0,1,3,4,2,5,6,7,8] [] .e .e) .e))) Tryz.func161 h (by kernel_rfl)
def L162(g:Gh)(a0 a1:Value)(H:Hp)(R:Rt):Prop:=
bA H (.cells (Value.cells a0) 57 (0,0)) fun b1 H2=>
aa 1 (pt b1) fun v3=>
Ld H2 v3 fun v4=>
ae .num .quo a1 (iv 64) fun v5=>
ah 1 v4 v5 fun v6=>
Ld H2 v6 fun v7=>
ae .num .rem a1 (iv 64) fun v8=>
ae .num .shr v7 v8 fun v9=>
ae .num .rem v9 (Value.int .u64 2) fun v10=>
ae .num .eql v10 (Value.int .u64 1) fun v11=>
R (.returned v11) H2
theorem Ed(h:L162 g a0 a1 H R):ai Tryz.prog g 162 #[a0,a1] H R:=
 ak (hn:=.e) Tryz.func162 h (by kernel_rfl)
def L163(g:Gh)(a0 a1 a2:Value)(H:Hp)(R:Rt):Prop:=
bA H (.cells (Value.cells a0) 57 (0,0)) fun b1 H2=>
bA H2 (.cells #[(iv 0),(.slice none 0 0)] 57 (0,0)) fun b3 H4=>
DR H4 fun R5=>
aa 0 (pt b1) fun v6=>
Ld R5 v6 fun v7=>
aa 1 (pt b1) fun v8=>
Ld R5 v8 fun v9=>
aG v9 fun v10=>
∀F11:Hp,
bZ 50 1 8 (Value.int .u64 0) H4 v10 v10 fun aZ cZ=>
aO cZ R5∧
Build Tryz.prog 57 [(0,v7),(1,aZ)] fun br=>
bA cZ (.cells #[(iv 0),(.slice none 0 0)] 57 (0,0)) fun pR eo=>
∀F17:Hp,
St 2 eo (pt pR) br fun dN=>
ae .num .geq a1 (iv 6) fun bK=>
Br bK (
ae .num .sub a1 (iv 6) fun v20=>
ae .num .shl (iv 1) v20 fun bX=>
∃(EZ:Jt) (Tc:Mt),JE EZ [(iv 0)] dN∧∀jl:Value,∀dW:Hp,EZ [jl] dW→∀Qc:Fr,
aa 1 (pt b1) fun cQ=>
Ld dW cQ fun dx=>
aG dx fun dw=>
ae .num .lss jl dw fun v30=>
Br v30 (
ae .num .quo jl bX fun eJ=>
ae .num .rem eJ (iv 2) fun dU=>
ae .num .mul dU bX fun e8=>
ae .num .sub jl e8 fun e7=>
∀Gr:Jt,(∀Vo:Value,∀rE:Hp,(∀Xq:Fr,
DR rE fun Ol=>
aa 1 (pt pR) fun eZ=>
Ld Ol eZ fun fo=>
aa 1 (pt b1) fun gE=>
Ld Ol gE fun fW=>
ah 1 fW Vo fun gi=>
Ld Ol gi fun ig=>
ah 1 fo jl fun iT=>
St 1 rE iT ig fun E5=>
ae .num .add jl (iv 1) fun jT=>
ay EZ Tc [jT] E5 [jl] dW)→Gr [Vo] rE)→
Br a2 (
ae .num .add e7 bX fun jo=>
JE Gr [jo] dW) (
JE Gr [e7] dW)) (
aA 2 dW (pt pR) fun jA=>
St 2 dW (pt b3) jA fun Ou=>
aA 2 Ou (pt b3) fun jm=>
R (.returned jm) Ou)) (
CF g 224 #[(iv 6),a1] dN (fun oL Ot=>
AB 1 oL fun lO=>
ah 1 lO (iv 0) fun p9=>
Ld Ot p9 fun rG=>
∃(I58:Jt) (m59:Mt),JE I58 [(iv 0)] Ot∧∀QU:Value,∀vg:Hp,I58 [QU] vg→∀acr:Fr,
aa 1 (pt b1) fun p8=>
Ld vg p8 fun AN=>
aG AN fun uR=>
ae .num .lss QU uR fun sq=>
Br sq (
∀J67:Jt,(∀Uz:Hp,(∀acp:Fr,
ae .num .add QU (iv 1) fun rT=>
ay I58 m59 [rT] Uz [QU] vg)→J67 [] Uz)→
Br a2 (
aa 1 (pt b1) fun Ap=>
Ld vg Ap fun AL=>
ah 1 AL QU fun Ao=>
Ld vg Ao fun Ka=>
ae .num .and Ka rG fun An=>
DR vg fun R76=>
aa 1 (pt pR) fun Am=>
Ld R76 Am fun OG=>
ae .num .shl (Value.int .u64 1) a1 fun AK=>
ae .num .shr An AK fun NX=>
ae .num .or An NX fun NW=>
ah 1 OG QU fun GJ=>
St 1 vg GJ NW fun Vk=>
JE J67 [] Vk) (
aa 1 (pt b1) fun J0=>
Ld vg J0 fun JZ=>
ah 1 JZ QU fun OF=>
Ld vg OF fun OE=>
ae .num .andNot OE rG fun QW=>
DR vg fun Ui=>
aa 1 (pt pR) fun JY=>
Ld Ui JY fun JX=>
ae .num .shl (Value.int .u64 1) a1 fun GI=>
ae .num .shl QW GI fun GH=>
ae .num .or QW GH fun Jy=>
ah 1 JX QU fun OD=>
St 1 vg OD Jy fun H96=>
JE J67 [] H96)) (
aA 2 vg (pt pR) fun Vq=>
St 2 vg (pt b3) Vq fun H98=>
aA 2 H98 (pt b3) fun Sg=>
R (.returned Sg) H98)) (au R))
theorem Ec(h:L163 g a0 a1 a2 H R):ai Tryz.prog g 163 #[a0,a1,a2] H R:=
 ak (hn:=(.n .e (.n (.h 1 [] [] (hr 0 [] 0 5 (.h 1 [7] [] (hr 0 [] 5 4 .e) .e)) .e) (.n (.n .e (.n (.n .e (.n (.n .e (.n (.h 0 [9] [2,3,6,7,8] (.n .e (.n (.n (.n .e (.h 1 [10] [2,3,6,7,8,9] .e (.h 0 [0,1,2,3,4,5,6,7,8,9] [] .e .e))) .e) .e)) .e) .e)) .e)) .e)) (.n .e (.n (.n .e (.n (.h 0 [12] [1,2,3,6,7,11] (.n .e (.h 1 [] [1,2,3,6,7,11,12] (.n (.n .e (.n (.n .e (.h 0 [0,1,2,3,4,5,6,7,8,9,10] [] .e .e)) (.n .e (.h 0 [0,1,2,3,4,5,6,7,8,9,10] [] .e .e)))) .e) .e)) .e) .e)) .e)))))) Tryz.func163 h (by kernel_rfl)
variable {g:Gh} {a0 a1 a2 a3 a4 a5 a6 a7 a8 a9 rR rQ XN XM XL XK:Value} {H:Hp} {R:Rt}
def L164(g:Gh)(a0 a1 a2 a3:Value)(H:Hp)(R:Rt):Prop:=
ae .ptr .eql a0 (.pointer none) fun v1=>
Br v1 (
R (.returned (.tuple #[(Value.int .u32 0),(iv 10)])) H) (
CF g 225 #[a0,a1,a2,a3] H (fun v2 H3=>
ae .num .neq v2 (iv 0) fun v4=>
Br v4 (
R (.returned (.tuple #[(Value.int .u32 0),v2])) H3) (
CF g 226 #[a0,a1,a2,a3] H3 (fun v5 H6=>
Ext 0 v5 fun v7=>
Ext 1 v5 fun v8=>
∀J9:Jt,(∀eP:Value,∀dX:Hp,(∀qw:Fr,
CF g 121 #[a0,eP] dX (fun bj fk=>
ae .num .neq bj (iv 0) fun bB=>
Br bB (
R (.returned (.tuple #[(Value.int .u32 0),bj])) fk) (
R (.returned (.tuple #[eP,(iv 0)])) fk)) (au R))→J9 [eP] dX)→
Un .not v8 fun bM=>
Br bM (
Nil a0 fun bH=>
aa 0 bH fun bY=>
CF g 135 #[bY,(iv 1)] H6 (fun bK jk=>
Un .not bK fun bX=>
Br bX (
R (.returned (.tuple #[(Value.int .u32 0),(iv 9)])) jk) (
Nil a0 fun cB=>
aa 0 cB fun cf=>
Build Tryz.prog 161 [(0,a1),(1,a2),(2,a3)] fun cm=>
CF g 207 #[cf,cm] jk (fun cD jP=>
JE J9 [cD] jP) (au R))) (au R)) (
JE J9 [v7] H6)) (au R))) (au R))
theorem Eb(h:L164 g a0 a1 a2 a3 H R):ai Tryz.prog g 164 #[a0,a1,a2,a3] H R:=
 ak (hn:=(hN 4 (.h 1 [11] [0] .e .e))) Tryz.func164 h (by kernel_rfl)
def L165(g:Gh)(a0 a1:Value)(H:Hp)(R:Rt):Prop:=
CF g 172 #[a0] H (fun v1 H2=>
aG v1 fun v3=>
∃(I4:Jt) (m5:Mt),JE I4 [(.slice none 0 0),(iv 0)] H2∧∀w8 w9:Value,∀H7:Hp,I4 [w8,w9] H7→∀JH:Fr,
ae .num .lss w9 v3 fun v10=>
Br v10 (
ah 1 v1 w9 fun v11=>
Ld H7 v11 fun aZ=>
App Tryz.prog 57 2 32 (.agg #[(iv 0),(.slice none 0 0)]) H7 w8 aZ fun bB eo=>
ae .num .add w9 (iv 1) fun bH=>
ay I4 m5 [bB,bH] eo [w8,w9] H7) (
DR H7 fun wv=>
Nil a0 fun bK=>
aa 2 bK fun v20=>
Ld wv v20 fun bX=>
CF g 88 #[a0] H7 (fun cB jQ=>
aO jQ wv∧
CF g 166 #[bX,a1] jQ (fun cm dW=>
aO dW wv∧
CF g 227 #[cB,cm] dW (fun cG iP=>
aO iP wv∧
aG cG fun dx=>
∃(Us:Jt) (m30:Mt),JE Us [w8,(iv 0)] iP∧∀Fg xY:Value,∀mV:Hp,Us [Fg,xY] mV→∀T7:Fr,
ae .num .lss xY dx fun fp=>
Br fp (
ah 1 cG xY fun ew=>
Ld mV ew fun eE=>
App Tryz.prog 57 2 32 (.agg #[(iv 0),(.slice none 0 0)]) mV Fg eE fun eZ xW=>
ae .num .add xY (iv 1) fun gE=>
ay Us m30 [eZ,gE] xW [Fg,xY] mV) (
CF g 228 #[Fg] mV (fun fW AA=>
aG fW fun ig=>
R (.returned ig) AA) (au R))) aU) aU) aU)) (au R)
theorem Ea(h:L165 g a0 a1 H R):ai Tryz.prog g 165 #[a0,a1] H R:=
 ak (hn:=(.n .e (.n .e (.n (.n .e (.n (.h 0 [5,13] [0,1,11,12] .e .e) .e)) (.n (.n (.h 0 [0,2,3,4,5,6,10,1,7,8,9] [] .e .e) (.n (.h 0 [5,31] [29,30] .e .e) .e)) .e))))) Tryz.func165 h (by kernel_rfl)
def L166(g:Gh)(a0 a1:Value)(H:Hp)(R:Rt):Prop:=
App Tryz.prog 3 1 8 (iv 0) H (.slice none 0 0) a0 fun v3 H4=>
DR H4 fun R5=>
ae .num .add a1 (iv 1) fun v6=>
ae .num .add a1 (iv 1) fun v7=>
ah 1 v3 v7 fun v8=>
Ld R5 v8 fun v9=>
ah 1 v3 a1 fun v10=>
Ld R5 v10 fun v11=>
ah 1 v3 a1 fun aZ=>
St 1 H4 aZ v9 fun cZ=>
ah 1 v3 v6 fun br=>
St 1 cZ br v11 fun c6=>
R (.returned v3) c6
theorem D9(h:L166 g a0 a1 H R):ai Tryz.prog g 166 #[a0,a1] H R:=
 ak (hn:=(hN 3 (.n (.h 0 [0,1,2,3,4,5,6,7,8,9,10,11,12,13,14,15,16,17] [] .e .e) .e))) Tryz.func166 h (by kernel_rfl)
def L167(g:Gh)(a0 a1:Value)(H:Hp)(R:Rt):Prop:=
Nil a0 fun v1=>
aa 2 v1 fun v2=>
Ld H v2 fun v3=>
CF g 229 #[a1,v3] H (fun v4 H5=>
R (.returned v4) H5) (au R)
theorem D8(h:L167 g a0 a1 H R):ai Tryz.prog g 167 #[a0,a1] H R:=
 ak (hn:=.e) Tryz.func167 h (by kernel_rfl)
def L171(g:Gh)(a0 a1:Value)(H:Hp)(R:Rt):Prop:=
CF g 206 #[a0,a1] H (fun v1 H2=>
ae .num .neq v1 (iv 0) fun v3=>
Br v3 (
R (.returned (.tuple #[(iv 0),v1])) H2) (
Nil a0 fun v4=>
aa 0 v4 fun v5=>
Ld H2 v5 fun v6=>
ah 1 v6 a1 fun v7=>
Ld H2 v7 fun v8=>
xR H2 v8 fun v9=>
R (.returned (.tuple #[v9,(iv 0)])) H2)) (au R)
theorem D7(h:L171 g a0 a1 H R):ai Tryz.prog g 171 #[a0,a1] H R:=
 ak (hn:=.e) Tryz.func171 h (by kernel_rfl)
def L172(g:Gh)(a0:Value)(H:Hp)(R:Rt):Prop:=
DR H fun R1=>
Nil a0 fun v2=>
aa 2 v2 fun v3=>
Ld R1 v3 fun v4=>
CF g 88 #[a0] H (fun v5 H6=>
aO H6 R1∧
CF g 227 #[v5,v4] H6 (fun v7 H8=>
R (.returned v7) H8) aU) aU
theorem D6(h:L172 g a0 H R):ai Tryz.prog g 172 #[a0] H R:=
 ak (hn:=(.n .e (.n (.h 0 [0,2,3,4,5,1,6,7] [] .e .e) .e))) Tryz.func172 h (by kernel_rfl)
def L173(g:Gh)(a0 a1:Value)(H:Hp)(R:Rt):Prop:=
Nil a0 fun v1=>
aa 0 v1 fun v2=>
Ld H v2 fun v3=>
CF g 231 #[v3,a1] H (fun v4 H5=>
Ext 0 v4 fun v6=>
Ext 1 v4 fun v7=>
bA H5 (.cells #[(iv 0),(Value.int .u32 0),(Value.int .u32 0)] 161 (0,0)) fun b8 H9=>
St 3 H9 (pt b8) v6 fun dG=>
ae .num .eql v7 (iv 0) fun v11=>
R (.returned v11) dG) (au R)
theorem D5(h:L173 g a0 a1 H R):ai Tryz.prog g 173 #[a0,a1] H R:=
 ak (hn:=.e) Tryz.func173 h (by kernel_rfl)
def L174(g:Gh)(a0 a1:Value)(H:Hp)(R:Rt):Prop:=
bA H (.cells #[(iv 0),(Value.int .u32 0),(Value.int .u32 0)] 161 (0,0)) fun b1 H2=>
Nil a0 fun v3=>
aa 0 v3 fun v4=>
Ld H2 v4 fun v5=>
CF g 231 #[v5,a1] H2 (fun v6 H7=>
Ext 0 v6 fun v8=>
Ext 1 v6 fun v9=>
bA H7 (.cells #[(iv 0),(Value.int .u32 0),(Value.int .u32 0)] 161 (0,0)) fun Nj dX=>
St 3 dX (pt Nj) v8 fun fA=>
aA 3 fA (pt Nj) fun bj=>
St 3 fA (pt b1) bj fun fk=>
aA 3 fk (pt b1) fun bB=>
R (.returned bB) fk) (au R)
theorem D4(h:L174 g a0 a1 H R):ai Tryz.prog g 174 #[a0,a1] H R:=
 ak (hn:=.e) Tryz.func174 h (by kernel_rfl)
def L175(g:Gh)(a0:Value)(H:Hp)(R:Rt):Prop:=
aG a0 fun v1=>
∃(I2:Jt) (m3:Mt),JE I2 [(iv 0)] H∧∀w6:Value,∀H5:Hp,I2 [w6] H5→∀ya:Fr,
ae .num .lss w6 v1 fun v7=>
Br v7 (
ah 2 a0 w6 fun v8=>
aA 2 H5 v8 fun v9=>
bA H5 (.cells #[(iv 0),(.slice none 0 0)] 57 (0,0)) fun Nj dX=>
St 2 dX (pt Nj) v9 fun fA=>
∀Ad:Jt,(∀gm:Value,∀c6:Hp,(∀rO:Fr,
Br gm (
R (.returned (Value.bool false)) c6) (
ae .num .add w6 (iv 1) fun bH=>
ay I2 m3 [bH] c6 [w6] H5))→Ad [gm] c6)→
DR fA fun wv=>
aA 2 wv (pt Nj) fun bK=>
∀Yo:Hp,
CF (g.add Yo) 232 #[bK] fA (fun bX fy=>
aO fy wv∧
Un .not bX fun cf=>
Br cf (
JE Ad [(Value.bool true)] fy) (
aa 0 (pt Nj) fun cm=>
Ld wv cm fun cD=>
ah 2 a0 (iv 0) fun cG=>
aa 0 cG fun cQ=>
Ld wv cQ fun dx=>
ae .num .neq cD dx fun dw=>
aD (Value.bool false) (Value.bool true) dw fun v30=>
JE Ad [v30] fy)) aU) (
R (.returned (Value.bool true)) H5)
theorem D3(h:L175 g a0 H R):ai Tryz.prog g 175 #[a0] H R:=
 ak (hn:=(.n .e (.n (.n .e (.n (.h 0 [7] [0,5,6] (.n .e (.n .e (.n (.n (.n .e (.h 1 [22] [0,5,6,7] (.h 1 [] [] (hr 0 [] 0 3 (.h 2 [3] [] (hr 0 [] 4 7 (.h 3 [11] [] .e .e)) (hr 0 [] 4 8 .e))) .e) .e)) .e) .e))) .e) .e)) .e))) Tryz.func175 h (by kernel_rfl)
def L176(g:Gh)(a0:Value)(H:Hp)(R:Rt):Prop:=
pW H fun v1 H2=>
aG a0 fun v3=>
∃(I4:Jt) (m5:Mt),JE I4 [(iv 0)] H2∧∀w8:Value,∀H7:Hp,I4 [w8] H7→∀JH:Fr,
ae .num .lss w8 v3 fun v9=>
Br v9 (
ah 2 a0 w8 fun v10=>
aA 2 H7 v10 fun v11=>
bA H7 (.cells #[(iv 0),(.slice none 0 0)] 57 (0,0)) fun mI cZ=>
St 2 cZ (pt mI) v11 fun fk=>
aA 2 fk (pt mI) fun bB=>
CF g 233 #[v1,bB] fk (fun bM fN=>
ae .num .add w8 (iv 1) fun bY=>
ay I4 m5 [bY] fN [w8] H7) (au R)) (
R (.returned v1) H7)
theorem D2(h:L176 g a0 H R):ai Tryz.prog g 176 #[a0] H R:=
 ak (hn:=(.n .e (.n .e (.n (.n .e (.n (.h 0 [9] [3,7,8] .e .e) .e)) .e)))) Tryz.func176 h (by kernel_rfl)
def L177(g:Gh)(a0 a1:Value)(H:Hp)(R:Rt):Prop:=
pW H fun v1 H2=>
XQ H2 a0 fun v3 H4=>
∃(I5:Jt) (m6:Mt),JE I5 [(iv 0)] H4∧∀w9:Value,∀H8:Hp,I5 [w9] H8→∀Qb:Fr,
Vb H8 v3 fun v10 dX=>
Ext 0 v10 fun aZ=>
Br aZ (
NM dX v3 fun bj=>
Ext 1 bj fun br=>
bA dX (.cells #[(iv 0),(.slice none 0 0)] 57 (0,0)) fun pR eo=>
St 2 eo (pt pR) br fun fN=>
aA 2 fN (pt pR) fun bY=>
CF g 148 #[bY,a1,(Value.bool false)] fN (fun bK jk=>
Ext 0 bK fun bX=>
Ext 1 bK fun cB=>
bA jk (.cells #[(iv 0),(.slice none 0 0)] 57 (0,0)) fun Ue iy=>
St 2 iy (pt Ue) bX fun dW=>
aA 2 dW (pt pR) fun cG=>
CF g 148 #[cG,a1,(Value.bool true)] dW (fun cQ nA=>
Ext 0 cQ fun dw=>
Ext 1 cQ fun v30=>
bA nA (.cells #[(iv 0),(.slice none 0 0)] 57 (0,0)) fun Is mV=>
St 2 mV (pt Is) dw fun ie=>
DR ie fun yc=>
aA 2 yc (pt Ue) fun fp=>
aA 2 yc (pt Is) fun ew=>
CF g 234 #[fp] ie (fun eE lU=>
aO lU yc∧
CF g 234 #[ew] lU (fun fO rD=>
aO rD yc∧
∀J41:Jt,(∀w44:Value,∀E6:Hp,(∀ah9:Fr,
DR E6 fun Zk=>
aA 2 Zk (pt Ue) fun iT=>
aA 2 Zk (pt Is) fun jU=>
fV (.string) E6 v1 eE iT fun p6=>
aO p6 Zk∧
fV (.string) p6 v1 fO jU fun xV=>
ay I5 m6 [w44] xV [w9] H8)→J41 [w44] E6)→
ae .str .neq eE fO fun jA=>
Br jA (
ae .num .add w9 (iv 1) fun jt=>
JE J41 [jt] rD) (
JE J41 [w9] rD)) aU) aU) (au R)) (au R)) (
R (.returned (.tuple #[v1,w9])) dX)
theorem D1(h:L177 g a0 a1 H R):ai Tryz.prog g 177 #[a0,a1] H R:=
 ak (hn:=(.n .e (.n .e (.n (.n .e (.n (.h 0 [7] [1,6,18] (.n .e (.n .e (.n (hN 3 (.n (.h 0 [0,2,1,3,4,5] [] .e .e) (.h 1 [7] [1,6,10,12,14,15,18] .e (.h 0 [0,1,2,3,4,5,6,7] [] .e .e)))) .e))) .e) .e)) .e)))) Tryz.func177 h (by kernel_rfl)
def L178(g:Gh)(a0 a1:Value)(H:Hp)(R:Rt):Prop:=
CF g 101 #[a0] H (fun v1 H2=>
CF g 101 #[a1] H2 (fun v3 H4=>
ae .num .eql v1 (iv 4) fun v5=>
cv v5 false (fun t6=>
ae .num .eql v3 (iv 4) fun v7=>
(H4=H4∧v7=Value.bool t6)) (fun t6=>(Value.bool true)=Value.bool t6) fun t6=>∀FW:Fr,
cv (Value.bool t6) false (fun t9=>
aG a0 fun v10=>
aG a1 fun v11=>
ae .num .neq v10 v11 fun aZ=>
(H4=H4∧aZ=Value.bool t9)) (fun t9=>(Value.bool true)=Value.bool t9) fun t9=>∀MC:Fr,
Br (Value.bool t9) (
R (.returned (iv 4)) H4) (
xQ v1 v3 fun br=>
R (.returned br) H4)) (au R)) (au R)
theorem D0(h:L178 g a0 a1 H R):ai Tryz.prog g 178 #[a0,a1] H R:=
 ak (hn:=(.n .e (.n .e (.n (.n (.h 0 [] [1] .e .e) .e) .e)))) Tryz.func178 h (by kernel_rfl)
def L179(g:Gh)(a0 a1:Value)(H:Hp)(R:Rt):Prop:=
aG a0 fun v1=>
∃(I2:Jt) (m3:Mt),JE I2 [(iv 0)] H∧∀w6:Value,∀H5:Hp,I2 [w6] H5→∀ya:Fr,
ae .num .lss w6 v1 fun v7=>
Br v7 (
ah 1 a0 w6 fun v8=>
Ld H5 v8 fun v9=>
ae .num .eql a1 v9 fun v10=>
Br v10 (
R (.returned w6) H5) (
ae .num .add w6 (iv 1) fun v11=>
ay I2 m3 [v11] H5 [w6] H5)) (
R (.returned (iv (-1))) H5)
theorem DZ(h:L179 g a0 a1 H R):ai Tryz.prog g 179 #[a0,a1] H R:=
 ak (hn:=(.n .e (.n (.n .e (.n (.h 0 [8] [0,1,7] .e .e) .e)) .e))) Tryz.func179 h (by kernel_rfl)
def L180(g:Gh)(a0 a1:Value)(H:Hp)(R:Rt):Prop:=
Ld H a0 fun v1=>
CF g 105 #[v1] H (fun v2 H3=>
Ld H3 a0 fun v4=>
Nil v4 fun v5=>
aa 2 v5 fun v6=>
Ld H3 v6 fun v7=>
St 1 H3 a1 v7 fun H8=>
R (.returned (.tuple #[])) H8) (au R)
theorem rC(h:L180 g a0 a1 H R):si Tryz.prog g 180 #[a0,a1] H R:=
 SP (hn:=.e) Tryz.func180 h (by kernel_rfl)
def L181(g:Gh)(a0:Value)(H:Hp)(R:Rt):Prop:=
DR H fun R1=>
Ld R1 a0 fun v2=>
Ld R1 a0 fun v3=>
Nil v3 fun v4=>
aa 1 v4 fun v5=>
Ld R1 v5 fun v6=>
∀F7:Hp,
CF (g.add F7) 182 #[v2,v6,(iv 1)] H (fun v8 H9=>
R (.returned v8) H9) aU
theorem uu(h:L181 g a0 H R):ai Tryz.prog g 181 #[a0] H R:=
 ak (hn:=(.n .e (.n (.h 1 [] [] (hr 0 [1] 0 7 .e) .e) .e))) Tryz.func181 h (by kernel_rfl)
def L182(g:Gh)(a0 a1 a2:Value)(H:Hp)(R:Rt):Prop:=
Nil a0 fun v1=>
aa 0 v1 fun v2=>
Ld H v2 fun v3=>
CF g 17 #[v3,a1] H (fun v4 H5=>
∀J6:Jt,(∀H8:Hp,(∀Qb:Fr,
R (.returned v4) H8)→J6 [] H8)→
ae .num .eql v4 (iv 0) fun v9=>
Br v9 (
Nil a0 fun v10=>
aa 5 v10 fun v11=>
Ld H5 v11 fun aZ=>
ae .num .add aZ (iv 1) fun bj=>
Nil a0 fun br=>
aa 5 br fun bB=>
St 1 H5 bB bj fun eo=>
Nil a0 fun bH=>
aa 1 bH fun bY=>
Ld eo bY fun bK=>
ae .num .add bK a2 fun v20=>
Nil a0 fun bX=>
aa 1 bX fun cB=>
St 1 eo cB v20 fun jQ=>
JE J6 [] jQ) (
JE J6 [] H5)) (au R)
theorem ur(h:L182 g a0 a1 a2 H R):ai Tryz.prog g 182 #[a0,a1,a2] H R:=
 ak (hn:=(.n .e (.n .e (.h 1 [] [7] .e .e)))) Tryz.func182 h (by kernel_rfl)
def L183(g:Gh)(a0:Value)(H:Hp)(R:Rt):Prop:=
DR H fun R1=>
Ld R1 a0 fun v2=>
Ld R1 a0 fun v3=>
Nil v3 fun v4=>
aa 1 v4 fun v5=>
Ld R1 v5 fun v6=>
ae .num .sub v6 (iv 1) fun v7=>
∀F8:Hp,
CF (g.add F8) 182 #[v2,v7,(iv (-1))] H (fun v9 dG=>
R (.returned v9) dG) aU
theorem uo(h:L183 g a0 H R):ai Tryz.prog g 183 #[a0] H R:=
 ak (hn:=(.n .e (.n (.h 1 [] [] (hr 0 [1] 0 8 .e) .e) .e))) Tryz.func183 h (by kernel_rfl)
def L184(g:Gh)(a0:Value)(H:Hp)(R:Rt):Prop:=
ae .ptr .eql a0 (.pointer none) fun v1=>
Br v1 (
R (.returned (iv 0)) H) (
Nil a0 fun v2=>
aa 0 v2 fun v3=>
Ld H v3 fun v4=>
aG v4 fun v5=>
R (.returned v5) H)
theorem DY(h:L184 g a0 H R):ai Tryz.prog g 184 #[a0] H R:=
 ak (hn:=.e) Tryz.func184 h (by kernel_rfl)
def L185(g:Gh)(a0:Value)(H:Hp)(R:Rt):Prop:=
bZ 3 1 8 (iv 0) H a0 a0 fun v1 H2=>
∃(I3:Jt) (m4:Mt),JE I3 [(iv 0)] H2∧∀w7:Value,∀H6:Hp,I3 [w7] H6→∀Og:Fr,
ae .num .lss w7 a0 fun v8=>
Br v8 (
ah 1 v1 w7 fun v9=>
St 1 H6 v9 w7 fun dG=>
ae .num .add w7 (iv 1) fun v11=>
ay I3 m4 [v11] dG [w7] H6) (
R (.returned v1) H6)
theorem DX(h:L185 g a0 H R):ai Tryz.prog g 185 #[a0] H R:=
 ak (hn:=(.n .e (.n .e (.n (.n .e (.n (.h 0 [8] [3,7] .e .e) .e)) .e)))) Tryz.func185 h (by kernel_rfl)
def L186(g:Gh)(a0:Value)(H:Hp)(R:Rt):Prop:=
ae .num .lss a0 (iv 2) fun v1=>
cv v1 false (fun t2=>
ae .num .gtr a0 (iv 1048576) fun v3=>
(H=H∧v3=Value.bool t2)) (fun t2=>(Value.bool true)=Value.bool t2) fun t2=>∀ya:Fr,
Br (Value.bool t2) (
R (.returned (.tuple #[(.pointer none),(iv 1)])) H) (
Build Tryz.prog 198 [(0,a0),(3,(iv 2))] fun v5=>
bA H (.cells (Value.cells v5) 198 (0,0)) fun b6 H7=>
∃(I8:Jt) (m9:Mt),JE I8 [(Value.int .u32 0)] H7∧∀eP:Value,∀dX:Hp,I8 [eP] dX→∀qw:Fr,
ae .num .lss eP (Value.int .u32 2) fun bj=>
Br bj (
Nil (pt b6) fun br=>
aa 1 br fun bB=>
Ld dX bB fun bM=>
Build Tryz.prog 161 [(0,(iv (-1))),(1,eP),(2,eP)] fun bH=>
Build Tryz.prog 291 [(0,bH),(1,(Value.bool true)),(2,(Value.int .u8 255))] fun bY=>
ax Tryz.prog 196 1 [(0,bY)] dX fun bK jk=>
App Tryz.prog 291 5 24 (.agg #[(iv 0),(Value.int .u32 0),(Value.int .u32 0),(Value.bool false),(Value.int .u8 0)]) jk bM bK fun cf iy=>
Nil (pt b6) fun cD=>
aa 1 cD fun cG=>
St 1 iy cG cf fun iP=>
ae .num .add eP (Value.int .u32 1) fun dx=>
ay I8 m9 [dx] iP [eP] dX) (
R (.returned (.tuple #[(pt b6),(iv 0)])) dX))
theorem DW(h:L186 g a0 H R):ai Tryz.prog g 186 #[a0] H R:=
 ak (hn:=(.n .e (.n (.n (.h 0 [] [1] .e .e) .e) (.n .e (.n (.n .e (.n (.h 0 [15] [4] .e .e) .e)) .e))))) Tryz.func186 h (by kernel_rfl)
def L187(g:Gh)(a0 a1:Value)(H:Hp)(R:Rt):Prop:=
CF g 235 #[a0] H (fun v1 H2=>
CF g 235 #[a1] H2 (fun v3 H4=>
ae .num .eql v1 (iv 4) fun v5=>
cv v5 false (fun t6=>
ae .num .eql v3 (iv 4) fun v7=>
(H4=H4∧v7=Value.bool t6)) (fun t6=>(Value.bool true)=Value.bool t6) fun t6=>∀FW:Fr,
cv (Value.bool t6) false (fun t9=>
aG a0 fun v10=>
aG a1 fun v11=>
ae .num .neq v10 v11 fun aZ=>
(H4=H4∧aZ=Value.bool t9)) (fun t9=>(Value.bool true)=Value.bool t9) fun t9=>∀MC:Fr,
Br (Value.bool t9) (
R (.returned (iv 4)) H4) (
ae .num .neq v1 (iv 0) fun br=>
Br br (
R (.returned v1) H4) (
R (.returned v3) H4))) (au R)) (au R)
theorem DV(h:L187 g a0 a1 H R):ai Tryz.prog g 187 #[a0,a1] H R:=
 ak (hn:=(.n .e (.n .e (.n (.n (.n (.h 0 [] [1] .e .e) .e) .e) .e)))) Tryz.func187 h (by kernel_rfl)
def L188(g:Gh)(a0 a1:Value)(H:Hp)(R:Rt):Prop:=
aG a0 fun v1=>
∃(I2:Jt) (m3:Mt),JE I2 [(iv 0)] H∧∀w6:Value,∀H5:Hp,I2 [w6] H5→∀ya:Fr,
ae .num .lss w6 v1 fun v7=>
Br v7 (
ah 1 a0 w6 fun v8=>
Ld H5 v8 fun v9=>
ae .num .eql v9 a1 fun v10=>
Br v10 (
R (.returned w6) H5) (
ae .num .add w6 (iv 1) fun v11=>
ay I2 m3 [v11] H5 [w6] H5)) (
R (.returned (iv (-1))) H5)
theorem DU(h:L188 g a0 a1 H R):ai Tryz.prog g 188 #[a0,a1] H R:=
 ak (hn:=(.n .e (.n (.n .e (.n (.h 0 [9] [1,7,8] .e .e) .e)) .e))) Tryz.func188 h (by kernel_rfl)
def L189(g:Gh)(a0 a1:Value)(H:Hp)(R:Rt):Prop:=
App Tryz.prog 3 1 8 (iv 0) H (.slice none 0 0) a0 fun v3 H4=>
DR H4 fun R5=>
ae .num .add a1 (iv 1) fun v6=>
ae .num .add a1 (iv 1) fun v7=>
ah 1 v3 v7 fun v8=>
Ld R5 v8 fun v9=>
ah 1 v3 a1 fun v10=>
Ld R5 v10 fun v11=>
ah 1 v3 a1 fun aZ=>
St 1 H4 aZ v9 fun cZ=>
ah 1 v3 v6 fun br=>
St 1 cZ br v11 fun c6=>
R (.returned v3) c6
theorem DS(h:L189 g a0 a1 H R):ai Tryz.prog g 189 #[a0,a1] H R:=
 ak (hn:=(hN 3 (.n (.h 0 [0,1,2,3,4,5,6,7,8,9,10,11,12,13,14,15,16,17] [] .e .e) .e))) Tryz.func189 h (by kernel_rfl)
def L190(g:Gh)(a0:Value)(H:Hp)(R:Rt):Prop:=
bA H (.cells (Value.cells a0) 57 (0,0)) fun b1 H2=>
∀J3:Jt,(∀w6:Value,∀H5:Hp,(∀ya:Fr,
R (.returned w6) H5)→J3 [w6] H5)→
DR H2 fun R7=>
aA 2 R7 (pt b1) fun v8=>
aa 0 (pt b1) fun v9=>
Ld R7 v9 fun v10=>
∀F11:Hp,
CF (g.add F11) 236 #[v10,(Value.bool false)] H2 (fun aZ cZ=>
aO cZ R7∧
∀F14:Hp,
CF (g.add F14) 36 #[v8,aZ] cZ (fun bB eo=>
aO eo R7∧
Br bB (
JE J3 [(Value.bool true)] eo) (
aA 2 R7 (pt b1) fun bH=>
aa 0 (pt b1) fun bY=>
Ld R7 bY fun bK=>
∀Yo:Hp,
CF (g.add Yo) 236 #[bK,(Value.bool true)] eo (fun bX fy=>
aO fy R7∧
∀F23:Hp,
CF (g.add F23) 36 #[bH,bX] fy (fun cm dW=>
aO dW R7∧
aD (Value.bool false) (Value.bool true) cm fun cG=>
JE J3 [cG] dW) aU) aU)) aU) aU
theorem DQ(h:L190 g a0 H R):ai Tryz.prog g 190 #[a0] H R:=
 ak (hn:=(.n .e (.h 1 [2] [] (.h 1 [] [] (hr 0 [] 0 5 (.h 2 [5] [] (hr 0 [] 6 5 (hr 3 [] 11 2 .e)) (hr 0 [] 6 7 .e))) .e) .e))) Tryz.func190 h (by kernel_rfl)
def L191(g:Gh)(a0 a1:Value)(H:Hp)(R:Rt):Prop:=
aG a0 fun v1=>
aG a1 fun v2=>
ae .num .neq v1 v2 fun v3=>
Br v3 (
R (.returned (Value.bool false)) H) (
∃(I4:Jt) (m5:Mt),JE I4 [(iv 0)] H∧∀w8:Value,∀H7:Hp,I4 [w8] H7→∀JH:Fr,
aG a0 fun v9=>
ae .num .lss w8 v9 fun v10=>
Br v10 (
ah 1 a0 w8 fun v11=>
Ld H7 v11 fun aZ=>
ah 1 a1 w8 fun bj=>
Ld H7 bj fun br=>
ae .num .neq aZ br fun bB=>
Br bB (
R (.returned (Value.bool false)) H7) (
ae .num .add w8 (iv 1) fun bM=>
ay I4 m5 [bM] H7 [w8] H7)) (
R (.returned (Value.bool true)) H7))
theorem DP(h:L191 g a0 a1 H R):ai Tryz.prog g 191 #[a0,a1] H R:=
 ak (hn:=(.n .e (.n .e (.n (.n .e (.n (.h 0 [5] [0,1] .e .e) .e)) .e)))) Tryz.func191 h (by kernel_rfl)
def L192(g:Gh)(a0 a1 a2 a3:Value)(H:Hp)(R:Rt):Prop:=
bA H (.cells #[(iv 0),(.slice none 0 0)] 57 (0,0)) fun b1 H2=>
ae .num .eql a1 (Value.int .u32 0) fun v3=>
cv v3 false (fun t4=>
ae .num .eql a1 (Value.int .u32 1) fun v5=>
(H2=H2∧v5=Value.bool t4)) (fun t4=>(Value.bool true)=Value.bool t4) fun t4=>∀JH:Fr,
Br (Value.bool t4) (
ae .num .eql a1 (Value.int .u32 1) fun v7=>
CF g 236 #[a2,v7] H2 (fun v8 H9=>
St 2 H9 (pt b1) v8 fun dG=>
aA 2 dG (pt b1) fun v11=>
R (.returned (.tuple #[v11,(Value.bool true)])) dG) (au R)) (
CF g 97 #[a0,a1] H2 (fun aZ cZ=>
Ext 0 aZ fun br=>
Ext 1 aZ fun bB=>
bA cZ (.cells #[(iv 0),(Value.int .u32 0),(Value.int .u32 0)] 161 (0,0)) fun qI fN=>
St 3 fN (pt qI) br fun dN=>
ae .num .neq bB (iv 0) fun bK=>
cv bK false (fun t20=>
ae .num .gtr a3 a2 fun bX=>
(dN=dN∧bX=Value.bool t20)) (fun t20=>(Value.bool true)=Value.bool t20) fun t20=>∀Qd:Fr,
cv (Value.bool t20) false (fun t23=>
aa 0 (pt qI) fun cm=>
Ld dN cm fun cD=>
ae .num .lss cD (iv 0) fun cG=>
(dN=dN∧cG=Value.bool t23)) (fun t23=>(Value.bool true)=Value.bool t23) fun t23=>∀aid:Fr,
cv (Value.bool t23) false (fun t28=>
aa 0 (pt qI) fun dw=>
Ld dN dw fun v30=>
ae .num .geq v30 a2 fun eJ=>
(dN=dN∧eJ=Value.bool t28)) (fun t28=>(Value.bool true)=Value.bool t28) fun t28=>∀T6:Fr,
Br (Value.bool t28) (
Build Tryz.prog 57 [] fun e8=>
St 2 dN (pt b1) e8 fun nX=>
aA 2 nX (pt b1) fun fp=>
R (.returned (.tuple #[fp,(Value.bool false)])) nX) (
aa 1 (pt qI) fun ew=>
Ld dN ew fun eE=>
ae .num .add a3 (iv 1) fun fB=>
CF g 192 #[a0,eE,a2,fB] dN (fun fO rD=>
Ext 0 fO fun fo=>
Ext 1 fO fun gE=>
bA rD (.cells #[(iv 0),(.slice none 0 0)] 57 (0,0)) fun b43 AA=>
St 2 AA (pt b43) fo fun uF=>
aa 2 (pt qI) fun iT=>
Ld uF iT fun jU=>
ae .num .add a3 (iv 1) fun jT=>
CF g 192 #[a0,jU,a2,jT] uF (fun jo xU=>
Ext 0 jo fun jt=>
Ext 1 jo fun jm=>
bA xU (.cells #[(iv 0),(.slice none 0 0)] 57 (0,0)) fun JJ Ot=>
St 2 Ot (pt JJ) jt fun E4=>
Un .not gE fun p9=>
cv p9 false (fun t57=>
Un .not jm fun rU=>
(E4=E4∧rU=Value.bool t57)) (fun t57=>(Value.bool true)=Value.bool t57) fun t57=>∀ah2:Fr,
Br (Value.bool t57) (
Build Tryz.prog 57 [] fun sr=>
St 2 E4 (pt b1) sr fun vg=>
aA 2 vg (pt b1) fun yh=>
R (.returned (.tuple #[yh,(Value.bool false)])) vg) (
aa 0 (pt qI) fun p8=>
Ld E4 p8 fun AN=>
aA 2 E4 (pt b43) fun uR=>
aA 2 E4 (pt JJ) fun sq=>
CF g 237 #[AN,uR,sq] E4 (fun x4 Vl=>
St 2 Vl (pt b1) x4 fun Uz=>
aA 2 Uz (pt b1) fun rT=>
R (.returned (.tuple #[rT,(Value.bool true)])) Uz) (au R))) (au R)) (au R))) (au R))
theorem oI(h:L192 g a0 a1 a2 a3 H R):ai Tryz.prog g 192 #[a0,a1,a2,a3] H R:=
 ak (hn:=(.n .e (.n (.n (.h 0 [] [1] .e .e) .e) (.n .e (.n (.n (.h 0 [] [1] .e .e) .e) (.n .e (.n .e (.n (.n (.h 0 [] [1] .e .e) .e) .e)))))))) Tryz.func192 h (by kernel_rfl)
def L194(g:Gh)(a0 a1 a2:Value)(H:Hp)(R:Rt):Prop:=
bA H (.cells (Value.cells a0) 5 (0,0)) fun b1 H2=>
bA H2 (.cells (Value.cells a1) 57 (0,0)) fun b3 H4=>
bA H4 (.cells (Value.cells a2) 57 (0,0)) fun b5 H6=>
bA H6 (.cells #[(iv 0),(.slice none 0 0)] 57 (0,0)) fun b7 H8=>
Ld H8 (pt b1) fun v9=>
ae .num .gtr v9 (Value.int .u8 15) fun v10=>
Br v10 (
Build Tryz.prog 57 [] fun v11=>
St 2 H8 (pt b7) v11 fun fA=>
aA 2 fA (pt b7) fun bj=>
R (.returned (.tuple #[bj,(iv 1)])) fA) (
aA 2 H8 (pt b3) fun br=>
aA 2 H8 (pt b5) fun bB=>
ax Tryz.prog 28 2 [(0,br),(1,bB)] H8 fun bM fN=>
CF g 220 #[bM] fN (fun bY iz=>
Un .not bY fun v20=>
Br v20 (
Build Tryz.prog 57 [] fun bX=>
St 2 iz (pt b7) bX fun fy=>
aA 2 fy (pt b7) fun cf=>
R (.returned (.tuple #[cf,(iv 5)])) fy) (
aa 0 (pt b3) fun cm=>
Ld iz cm fun cD=>
CF g 212 #[cD,(.func (.func 239) #[] #[(pt b3),(pt b5),(pt b1)])] iz (fun cG iP=>
St 2 iP (pt b7) cG fun nA=>
aA 2 nA (pt b7) fun dw=>
R (.returned (.tuple #[dw,(iv 0)])) nA) (au R))) (au R))
theorem DO(h:L194 g a0 a1 a2 H R):ai Tryz.prog g 194 #[a0,a1,a2] H R:=
 ak (hn:=.e) Tryz.func194 h (by kernel_rfl)
def L203(g:Gh)(a0 a1:Value)(H:Hp)(R:Rt):Prop:=
CF g 206 #[a0,a1] H (fun v1 H2=>
ae .num .neq v1 (iv 0) fun v3=>
Br v3 (
R (.returned (.tuple #[(.slice none 0 0),v1])) H2) (
Nil a0 fun v4=>
aa 0 v4 fun v5=>
Ld H2 v5 fun v6=>
ah 1 v6 a1 fun v7=>
Ld H2 v7 fun v8=>
CF g 251 #[v8] H2 (fun v9 dG=>
CF g 250 #[v9] dG (fun v11 fA=>
R (.returned (.tuple #[v11,(iv 0)])) fA) (au R)) (au R))) (au R)
theorem DN(h:L203 g a0 a1 H R):ai Tryz.prog g 203 #[a0,a1] H R:=
 ak (hn:=.e) Tryz.func203 h (by kernel_rfl)
def L204(g:Gh)(a0 a1 a2:Value)(H:Hp)(R:Rt):Prop:=
Nil a0 fun v1=>
aa 0 v1 fun v2=>
CF g 174 #[v2,a1] H (fun v3 H4=>
bA H4 (.cells #[(iv 0),(Value.int .u32 0),(Value.int .u32 0)] 161 (0,0)) fun b5 H6=>
St 3 H6 (pt b5) v3 fun H7=>
aa 0 (pt b5) fun v8=>
Ld H7 v8 fun v9=>
ae .num .eql v9 a2 fun v10=>
Br v10 (
aa 1 (pt b5) fun v11=>
Ld H7 v11 fun aZ=>
aa 2 (pt b5) fun bj=>
Ld H7 bj fun br=>
R (.returned (.tuple #[aZ,br])) H7) (
R (.returned (.tuple #[a1,a1])) H7)) (au R)
theorem DM(h:L204 g a0 a1 a2 H R):ai Tryz.prog g 204 #[a0,a1,a2] H R:=
 ak (hn:=.e) Tryz.func204 h (by kernel_rfl)
def L205(g:Gh)(a0 a1:Value)(H:Hp)(R:Rt):Prop:=
bA H (.cells (Value.cells a1) 161 (0,0)) fun b1 H2=>
aa 0 (pt b1) fun v3=>
Ld H2 v3 fun v4=>
CF g 206 #[a0,v4] H2 (fun v5 H6=>
ae .num .neq v5 (iv 0) fun v7=>
Br v7 (
R (.returned (.tuple #[(Value.int .u32 0),(Value.bool false)])) H6) (
Nil a0 fun v8=>
aa 0 v8 fun v9=>
Ld H6 v9 fun v10=>
aa 0 (pt b1) fun v11=>
Ld H6 v11 fun aZ=>
ah 1 v10 aZ fun bj=>
Ld H6 bj fun br=>
aA 3 H6 (pt b1) fun bB=>
kC Tryz.prog 161 (Value.int .u32 0) true H6 br bB fun bM=>
Ext 0 bM fun bH=>
Ext 1 bM fun bY=>
R (.returned (.tuple #[bH,bY])) H6)) (au R)
theorem DL(h:L205 g a0 a1 H R):ai Tryz.prog g 205 #[a0,a1] H R:=
 ak (hn:=.e) Tryz.func205 h (by kernel_rfl)
def L206(g:Gh)(a0 a1:Value)(H:Hp)(R:Rt):Prop:=
ae .ptr .eql a0 (.pointer none) fun v1=>
Br v1 (
R (.returned (iv 10)) H) (
ae .num .lss a1 (iv 0) fun v2=>
cv v2 false (fun t3=>
Nil a0 fun v4=>
aa 0 v4 fun v5=>
Ld H v5 fun v6=>
aG v6 fun v7=>
ae .num .geq a1 v7 fun v8=>
(H=H∧v8=Value.bool t3)) (fun t3=>(Value.bool true)=Value.bool t3) fun t3=>∀RS:Fr,
Br (Value.bool t3) (
R (.returned (iv 2)) H) (
R (.returned (iv 0)) H))
theorem DK(h:L206 g a0 a1 H R):ai Tryz.prog g 206 #[a0,a1] H R:=
 ak (hn:=(.n .e (.n (.n (.n .e (.n .e (.n (.h 0 [] [1] .e .e) .e))) .e) .e))) Tryz.func206 h (by kernel_rfl)
def L207(g:Gh)(a0 a1:Value)(H:Hp)(R:Rt):Prop:=
bA H (.cells (Value.cells a1) 161 (0,0)) fun b1 H2=>
DR H2 fun R3=>
Nil a0 fun v4=>
aa 0 v4 fun v5=>
Ld R3 v5 fun v6=>
aA 3 R3 (pt b1) fun v7=>
CF g 252 #[v6,v7] H2 (fun v8 H9=>
aO H9 R3∧
Ext 0 v8 fun v10=>
Ext 1 v8 fun v11=>
∃(uE:Jt) (Ln:Mt),JE uE [] H9∧∀c6:Hp,uE [] c6→∀rO:Fr,
bI .i64 v10 fun bM=>
Nil a0 fun bH=>
aa 2 bH fun bY=>
Ld c6 bY fun bK=>
aG bK fun v20=>
ae .num .geq bM v20 fun bX=>
Br bX (
Nil a0 fun cB=>
aa 2 cB fun cf=>
Ld c6 cf fun cm=>
ax Tryz.prog 113 1 [(0,(Value.int .i32 0))] c6 fun cD jP=>
App Tryz.prog 21 1 4 (Value.int .i32 0) jP cm cD fun dw jj=>
Nil a0 fun eJ=>
aa 2 eJ fun dU=>
St 1 jj dU dw fun ie=>
Nil a0 fun e7=>
aa 3 e7 fun fp=>
Ld ie fp fun ew=>
ax Tryz.prog 113 1 [(0,(Value.int .i32 0))] ie fun eE lU=>
App Tryz.prog 21 1 4 (Value.int .i32 0) lU ew eE fun fo qL=>
Nil a0 fun fW=>
aa 3 fW fun gi=>
St 1 qL gi fo fun uF=>
ay uE Ln [] uF [] c6) (
DR c6 fun R46=>
Nil a0 fun jU=>
aa 2 jU fun jT=>
Ld R46 jT fun jo=>
Nil a0 fun jA=>
aa 3 jA fun jt=>
Ld R46 jt fun jm=>
ah 1 jo v10 fun oL=>
St 1 c6 oL (Value.int .i32 0) fun Ot=>
ah 1 jm v10 fun lO=>
St 1 Ot lO (Value.int .i32 0) fun Ae=>
aa 1 (pt b1) fun rG=>
Ld Ae rG fun rU=>
CF g 139 #[a0,rU] Ae (fun AO Zt=>
aa 2 (pt b1) fun wG=>
Ld Zt wG fun yh=>
CF g 139 #[a0,yh] Zt (fun p8 wE=>
DR wE fun wu=>
Nil a0 fun sq=>
aa 1 sq fun x4=>
Ld wu x4 fun vq=>
aA 3 wu (pt b1) fun AM=>
CF g 141 #[vq,AM,v10] wE (fun rT QL=>
R (.returned v10) QL) aU) (au R)) (au R))) aU
theorem DJ(h:L207 g a0 a1 H R):ai Tryz.prog g 207 #[a0,a1] H R:=
 ak (hn:=(.n .e (.n (.h 0 [0,1,2,3,4,5,6,7,8,9,10] [] .e .e) (.n (.n (.h 0 [] [0,3,5] .e .e) .e) (.n (.h 0 [0,1,2,3,4,5,6,7,8,9,10,11,12,13] [] .e .e) (.n .e (.n .e (.n (.h 0 [0,1,2,3,4,5,6] [] .e .e) .e)))))))) Tryz.func207 h (by kernel_rfl)
def L208(g:Gh)(a0 a1:Value)(H:Hp)(R:Rt):Prop:=
bA H (.cells (Value.cells a1) 161 (0,0)) fun b1 H2=>
aa 0 (pt b1) fun v3=>
Ld H2 v3 fun v4=>
ae .num .lss v4 (iv 0) fun v5=>
cv v5 false (fun t6=>
aa 0 (pt b1) fun v7=>
Ld H2 v7 fun v8=>
ae .num .geq v8 (iv 64) fun v9=>
(H2=H2∧v9=Value.bool t6)) (fun t6=>(Value.bool true)=Value.bool t6) fun t6=>∀qw:Fr,
Br (Value.bool t6) (
R (.returned (iv 2)) H2) (
∀Ur:Jt,(∀kG:Value,∀cZ:Hp,(∀HV:Fr,
Br kG (
R (.returned (iv 3)) cZ) (
R (.returned (iv 0)) cZ))→Ur [kG] cZ)→
aa 1 (pt b1) fun bB=>
Ld H2 bB fun bM=>
CF g 253 #[a0,bM] H2 (fun bH dN=>
Un .not bH fun bK=>
Split bK false (
aa 2 (pt b1) fun v20=>
Ld dN v20 fun bX=>
CF g 253 #[a0,bX] dN (fun cB jQ=>
Un .not cB fun cm=>
aD (Value.bool false) (Value.bool true) cm fun cD=>
JE Ur [cD] jQ) (au R)) (
aD (Value.bool true) (Value.bool true) undef fun cG=>
JE Ur [cG] dN)) (au R))
theorem DI(h:L208 g a0 a1 H R):ai Tryz.prog g 208 #[a0,a1] H R:=
 ak (hn:=(.n .e (.n (.n (.n (.h 0 [] [1] .e .e) (.n .e (.h 1 [14] [] .e .e))) .e) .e))) Tryz.func208 h (by kernel_rfl)
def L209(g:Gh)(a0 a1:Value)(H:Hp)(R:Rt):Prop:=
∀J1:Jt,(∀w4:Value,∀H3:Hp,(∀gs2:Fr,
Br w4 (
R (.returned (iv 3)) H3) (
R (.returned (iv 0)) H3))→J1 [w4] H3)→
ae .num .leq a1 (Value.int .u32 1) fun v5=>
Split v5 false (
CF g 253 #[a0,a1] H (fun v6 H7=>
Un .not v6 fun v8=>
aD (Value.bool false) (Value.bool true) v8 fun v9=>
JE J1 [v9] H7) (au R)) (
aD (Value.bool true) (Value.bool true) undef fun v10=>
JE J1 [v10] H)
theorem DH(h:L209 g a0 a1 H R):ai Tryz.prog g 209 #[a0,a1] H R:=
 ak (hn:=(.n .e (.n (.h 1 [12] [] .e .e) .e))) Tryz.func209 h (by kernel_rfl)
def L210(g:Gh)(a0 a1:Value)(H:Hp)(R:Rt):Prop:=
ae .ptr .eql a0 (.pointer none) fun v1=>
Br v1 (
R (.returned (iv 10)) H) (
CF g 209 #[a0,a1] H (fun v2 H3=>
ae .num .neq v2 (iv 0) fun v4=>
Br v4 (
R (.returned v2) H3) (
Nil a0 fun v5=>
aa 1 v5 fun v6=>
Ld H3 v6 fun v7=>
Build Tryz.prog 291 [] fun v8=>
ah 5 v7 a1 fun v9=>
St 5 H3 v9 v8 fun dG=>
Nil a0 fun v11=>
aa 2 v11 fun aZ=>
Ld dG aZ fun bj=>
ax Tryz.prog 27 1 [(0,a1)] dG fun br c6=>
App Tryz.prog 77 1 4 (Value.int .u32 0) c6 bj br fun bY iz=>
Nil a0 fun v20=>
aa 2 v20 fun bX=>
St 1 iz bX bY fun fy=>
Nil a0 fun cf=>
aa 3 cf fun cm=>
Ld fy cm fun cD=>
ae .num .sub cD (iv 1) fun cG=>
Nil a0 fun cQ=>
aa 3 cQ fun dx=>
St 1 fy dx cG fun kD=>
R (.returned (iv 0)) kD)) (au R))
theorem DG(h:L210 g a0 a1 H R):ai Tryz.prog g 210 #[a0,a1] H R:=
 ak (hn:=.e) Tryz.func210 h (by kernel_rfl)
def L211(g:Gh)(a0:Value)(H:Hp)(R:Rt):Prop:=
ae .num .lss a0 (iv 0) fun v1=>
Br v1 (
R (.returned (iv 1)) H) (
ae .num .gtr a0 (iv 16) fun v2=>
Br v2 (
R (.returned (iv 6)) H) (
R (.returned (iv 0)) H))
theorem DF(h:L211 g a0 H R):ai Tryz.prog g 211 #[a0] H R:=
 ak (hn:=.e) Tryz.func211 h (by kernel_rfl)
def L212(g:Gh)(a0 a1:Value)(H:Hp)(R:Rt):Prop:=
bA H (.cells #[(iv 0),(.slice none 0 0)] 57 (0,0)) fun b1 H2=>
CF g 254 #[a0] H2 (fun v3 H4=>
bZ 50 1 8 (Value.int .u64 0) H4 v3 v3 fun v5 H6=>
Build Tryz.prog 57 [(0,a0),(1,v5)] fun v7=>
bA H6 (.cells #[(iv 0),(.slice none 0 0)] 57 (0,0)) fun b8 H9=>
St 2 H9 (pt b8) v7 fun dG=>
aa 1 (pt b8) fun v11=>
Ld dG v11 fun aZ=>
aG aZ fun bj=>
∃(NG:Jt) (VN:Mt),JE NG [(iv 0)] dG∧∀nC:Value,∀fN:Hp,NG [nC] fN→∀T9:Fr,
ae .num .lss nC bj fun bK=>
Br bK (
DR fN fun Az=>
aa 1 (pt b8) fun bX=>
Ld Az bX fun cB=>
fm Tryz.prog g a1 #[nC] fN (fun cf iy=>
aO iy Az∧
CF g 255 #[a0] iy (fun cD jP=>
aO jP Az∧
ae .num .and cf cD fun cQ=>
ah 1 cB nC fun dx=>
St 1 jP dx cQ fun kD=>
ae .num .add nC (iv 1) fun v30=>
ay NG VN [v30] kD [nC] fN) aU) aU) (
aA 2 fN (pt b8) fun eJ=>
St 2 fN (pt b1) eJ fun mV=>
aA 2 mV (pt b1) fun e8=>
R (.returned e8) mV)) (au R)
theorem DE(h:L212 g a0 a1 H R):ai Tryz.prog g 212 #[a0,a1] H R:=
 ak (hn:=(.n .e (.n .e (.n (.n .e (.n (.h 0 [15] [0,1,4,5,14] (.n .e (.n .e (.n (.n (.n .e (.h 0 [0,1,2,3,4,6,5,7,8,9,10] [] .e .e)) .e) .e))) .e) .e)) .e)))) Tryz.func212 h (by kernel_rfl)
def L213(g:Gh)(a0 a1:Value)(H:Hp)(R:Rt):Prop:=
Ld H a1 fun v1=>
Br v1 (
R (.returned (Value.int .u64 18446744073709551615)) H) (
R (.returned (Value.int .u64 0)) H)
theorem DD(h:L213 g a0 a1 H R):ai Tryz.prog g 213 #[a0,a1] H R:=
 ak (hn:=.e) Tryz.func213 h (by kernel_rfl)
def L214(g:Gh)(a0 a1:Value)(H:Hp)(R:Rt):Prop:=
bA H (.cells (Value.cells a0) 57 (0,0)) fun b1 H2=>
aA 2 H2 (pt b1) fun v3=>
ax Tryz.prog 28 1 [(0,v3)] H2 fun v4 H5=>
CF g 220 #[v4] H5 (fun v6 H7=>
Un .not v6 fun v8=>
Br v8 (
R (.returned (iv 5)) H7) (
ae .num .lss a1 (iv 0) fun v9=>
cv v9 false (fun t10=>
aa 0 (pt b1) fun v11=>
Ld H7 v11 fun aZ=>
ae .num .geq a1 aZ fun bj=>
(H7=H7∧bj=Value.bool t10)) (fun t10=>(Value.bool true)=Value.bool t10) fun t10=>∀rO:Fr,
Br (Value.bool t10) (
R (.returned (iv 2)) H7) (
R (.returned (iv 0)) H7))) (au R)
theorem DC(h:L214 g a0 a1 H R):ai Tryz.prog g 214 #[a0,a1] H R:=
 ak (hn:=(.n .e (.n (.n (.n .e (.n .e (.n (.h 0 [] [1] .e .e) .e))) .e) .e))) Tryz.func214 h (by kernel_rfl)
def L215(g:Gh)(a0 a1 a2:Value)(H:Hp)(R:Rt):Prop:=
bA H (.cells (Value.cells a0) 57 (0,0)) fun b1 H2=>
bA H2 (.cells (Value.cells a1) 3 (0,0)) fun b3 H4=>
bA H4 (.cells (Value.cells a2) 4 (0,0)) fun b5 H6=>
bA H6 (.cells #[(iv 0),(.slice none 0 0)] 57 (0,0)) fun b7 H8=>
aa 0 (pt b1) fun v9=>
Ld H8 v9 fun v10=>
CF g 212 #[v10,(.func (.func 256) #[] #[(pt b3),(pt b5),(pt b1)])] H8 (fun v11 fA=>
St 2 fA (pt b7) v11 fun cZ=>
aA 2 cZ (pt b7) fun br=>
R (.returned br) cZ) (au R)
theorem DB(h:L215 g a0 a1 a2 H R):ai Tryz.prog g 215 #[a0,a1,a2] H R:=
 ak (hn:=.e) Tryz.func215 h (by kernel_rfl)
def L216(g:Gh)(a0 a1 a2 a3 a4:Value)(H:Hp)(R:Rt):Prop:=
bA H (.cells #[(iv 0),(.slice none 0 0)] 57 (0,0)) fun b1 H2=>
Ld H2 a1 fun v3=>
pY (.int .u32) (.agg #[(iv 0),(.slice none 0 0)]) true H2 v3 a0 fun v4=>
Ext 0 v4 fun v5=>
Ext 1 v4 fun v6=>
bA H2 (.cells #[(iv 0),(.slice none 0 0)] 57 (0,0)) fun b7 H8=>
St 2 H8 (pt b7) v5 fun H9=>
Br v6 (
aA 2 H9 (pt b7) fun v10=>
St 2 H9 (pt b1) v10 fun dX=>
aA 2 dX (pt b1) fun aZ=>
R (.returned aZ) dX) (
Ld H9 a2 fun bj=>
CF g 217 #[bj,a0] H9 (fun br c6=>
bA c6 (.cells #[(iv 0),(Value.int .u32 0),(Value.int .u32 0)] 161 (0,0)) fun qI fN=>
St 3 fN (pt qI) br fun dN=>
DR dN fun ud=>
Ld ud a3 fun v20=>
aA 3 ud (pt qI) fun bX=>
Ld ud a4 fun cB=>
aa 1 (pt qI) fun cf=>
Ld ud cf fun cm=>
Ld ud a4 fun cD=>
aa 2 (pt qI) fun cG=>
Ld ud cG fun cQ=>
∀F28:Hp,
fm Tryz.prog (g.add F28) cB #[cm] dN (fun dw jj=>
aO jj ud∧
∀F31:Hp,
fm Tryz.prog (g.add F31) cD #[cQ] jj (fun dU ie=>
aO ie ud∧
∀Zu:Hp,
fm Tryz.prog (g.add Zu) v20 #[bX,dw,dU] ie (fun fp rF=>
aO rF ud∧
bA rF (.cells #[(iv 0),(.slice none 0 0)] 57 (0,0)) fun Ni lU=>
∀F39:Hp,
St 2 lU (pt Ni) fp fun rD=>
Ld rD a1 fun fo=>
aA 2 rD (pt Ni) fun gE=>
fV (.int .u32) rD fo a0 gE fun E6=>
aA 2 E6 (pt Ni) fun gi=>
St 2 E6 (pt b1) gi fun uF=>
aA 2 uF (pt b1) fun iT=>
R (.returned iT) uF) aU) aU) aU) (au R))
theorem um(h:L216 g a0 a1 a2 a3 a4 H R):ai Tryz.prog g 216 #[a0,a1,a2,a3,a4] H R:=
 ak (hn:=(hN 3 (.n (.h 1 [] [] (hr 0 [] 0 5 (hr 0 [] 6 3 (.h 1 [11] [] (.h 0 [5] [] (hr 0 [] 9 4 .e) .e) .e))) .e) .e))) Tryz.func216 h (by kernel_rfl)
def L217(g:Gh)(a0 a1:Value)(H:Hp)(R:Rt):Prop:=
bA H (.cells #[(iv 0),(Value.int .u32 0),(Value.int .u32 0)] 161 (0,0)) fun b1 H2=>
CF g 97 #[a0,a1] H2 (fun v3 H4=>
Ext 0 v3 fun v5=>
Ext 1 v3 fun v6=>
bA H4 (.cells #[(iv 0),(Value.int .u32 0),(Value.int .u32 0)] 161 (0,0)) fun b7 H8=>
St 3 H8 (pt b7) v5 fun H9=>
aA 3 H9 (pt b7) fun v10=>
St 3 H9 (pt b1) v10 fun dX=>
aA 3 dX (pt b1) fun aZ=>
R (.returned aZ) dX) (au R)
theorem DA(h:L217 g a0 a1 H R):ai Tryz.prog g 217 #[a0,a1] H R:=
 ak (hn:=.e) Tryz.func217 h (by kernel_rfl)
def L218(g:Gh)(a0 a1:Value)(H:Hp)(R:Rt):Prop:=
Ld H a1 fun v1=>
CF g 219 #[v1,a0] H (fun v2 H3=>
R (.returned v2) H3) (au R)
theorem Dz(h:L218 g a0 a1 H R):ai Tryz.prog g 218 #[a0,a1] H R:=
 ak (hn:=.e) Tryz.func218 h (by kernel_rfl)
def L219(g:Gh)(a0 a1:Value)(H:Hp)(R:Rt):Prop:=
ae .num .geq a0 (iv 6) fun v1=>
Br v1 (
bI .u64 a1 fun v2=>
ae .num .sub a0 (iv 6) fun v3=>
ae .num .shr v2 v3 fun v4=>
ae .num .and v4 (Value.int .u64 1) fun v5=>
Un .neg v5 fun v6=>
R (.returned v6) H) (
∃(I7:Jt) (m8:Mt),JE I7 [(Value.int .u64 0),(iv 0)] H∧∀lB eP:Value,∀dG:Hp,I7 [lB,eP] dG→∀RS:Fr,
ae .num .lss eP (iv 64) fun bj=>
Br bj (
ae .num .shr eP a0 fun br=>
ae .num .and br (iv 1) fun bB=>
bI .u64 bB fun bM=>
ae .num .shl bM eP fun bH=>
ae .num .or lB bH fun bY=>
ae .num .add eP (iv 1) fun bK=>
ay I7 m8 [bY,bK] dG [lB,eP] dG) (
R (.returned lB) dG))
theorem Dy(h:L219 g a0 a1 H R):ai Tryz.prog g 219 #[a0,a1] H R:=
 ak (hn:=(hN 3 (.n (.n .e (.n (.h 0 [5,16] [0] .e .e) .e)) .e))) Tryz.func219 h (by kernel_rfl)
def L220(g:Gh)(a0:Value)(H:Hp)(R:Rt):Prop:=
aG a0 fun v1=>
∃(I2:Jt) (m3:Mt),JE I2 [(iv 0)] H∧∀w6:Value,∀H5:Hp,I2 [w6] H5→∀ya:Fr,
ae .num .lss w6 v1 fun v7=>
Br v7 (
ah 2 a0 w6 fun v8=>
aA 2 H5 v8 fun v9=>
bA H5 (.cells #[(iv 0),(.slice none 0 0)] 57 (0,0)) fun Nj dX=>
St 2 dX (pt Nj) v9 fun fA=>
∀Ad:Jt,(∀gm:Value,∀c6:Hp,(∀rO:Fr,
Br gm (
R (.returned (Value.bool false)) c6) (
ae .num .add w6 (iv 1) fun bH=>
ay I2 m3 [bH] c6 [w6] H5))→Ad [gm] c6)→
DR fA fun wv=>
aA 2 wv (pt Nj) fun bK=>
∀Yo:Hp,
CF (g.add Yo) 232 #[bK] fA (fun bX fy=>
aO fy wv∧
Un .not bX fun cf=>
Br cf (
JE Ad [(Value.bool true)] fy) (
aa 0 (pt Nj) fun cm=>
Ld wv cm fun cD=>
ah 2 a0 (iv 0) fun cG=>
aa 0 cG fun cQ=>
Ld wv cQ fun dx=>
ae .num .neq cD dx fun dw=>
aD (Value.bool false) (Value.bool true) dw fun v30=>
JE Ad [v30] fy)) aU) (
R (.returned (Value.bool true)) H5)
theorem Dx(h:L220 g a0 H R):ai Tryz.prog g 220 #[a0] H R:=
 ak (hn:=(.n .e (.n (.n .e (.n (.h 0 [7] [0,5,6] (.n .e (.n .e (.n (.n (.n .e (.h 1 [22] [0,5,6,7] (.h 1 [] [] (hr 0 [] 0 3 (.h 2 [3] [] (hr 0 [] 4 7 (.h 3 [11] [] .e .e)) (hr 0 [] 4 8 .e))) .e) .e)) .e) .e))) .e) .e)) .e))) Tryz.func220 h (by kernel_rfl)
def L221(g:Gh)(a0 a1 a2 a3:Value)(H:Hp)(R:Rt):Prop:=
aa 1 a1 fun v1=>
Ld H v1 fun v2=>
ah 1 v2 a0 fun v3=>
Ld H v3 fun v4=>
aa 1 a2 fun v5=>
Ld H v5 fun v6=>
ah 1 v6 a0 fun v7=>
Ld H v7 fun v8=>
ae .num .and v4 v8 fun v9=>
aa 1 a1 fun v10=>
Ld H v10 fun v11=>
ah 1 v11 a0 fun aZ=>
Ld H aZ fun bj=>
Un .xor bj fun br=>
aa 1 a3 fun bB=>
Ld H bB fun bM=>
ah 1 bM a0 fun bH=>
Ld H bH fun bY=>
ae .num .and br bY fun bK=>
ae .num .or v9 bK fun v20=>
R (.returned v20) H
theorem Dw(h:L221 g a0 a1 a2 a3 H R):ai Tryz.prog g 221 #[a0,a1,a2,a3] H R:=
 ak (hn:=.e) Tryz.func221 h (by kernel_rfl)
def L222(g:Gh)(a0 a1:Value)(H:Hp)(R:Rt):Prop:=
aG a0 fun v1=>
aG a1 fun v2=>
ae .num .neq v1 v2 fun v3=>
Br v3 (
R (.returned (Value.bool false)) H) (
aG a0 fun v4=>
∃(I5:Jt) (m6:Mt),JE I5 [(iv 0)] H∧∀w9:Value,∀H8:Hp,I5 [w9] H8→∀Qb:Fr,
ae .num .lss w9 v4 fun v10=>
Br v10 (
ah 1 a0 w9 fun v11=>
Ld H8 v11 fun aZ=>
ah 1 a1 w9 fun bj=>
Ld H8 bj fun br=>
ae .num .neq aZ br fun bB=>
Br bB (
R (.returned (Value.bool false)) H8) (
ae .num .add w9 (iv 1) fun bM=>
ay I5 m6 [bM] H8 [w9] H8)) (
R (.returned (Value.bool true)) H8))
theorem Dv(h:L222 g a0 a1 H R):ai Tryz.prog g 222 #[a0,a1] H R:=
 ak (hn:=(.n .e (.n .e (.n (.n .e (.n (.h 0 [13] [0,1,12] .e .e) .e)) .e)))) Tryz.func222 h (by kernel_rfl)
def L223(g:Gh)(a0 a1:Value)(H:Hp)(R:Rt):Prop:=
bA H (.cells (Value.cells a0) 233 (0,0)) fun b1 H2=>
bA H2 (.cells (Value.cells a1) 233 (0,0)) fun b3 H4=>
aa 1 (pt b1) fun v5=>
Ld H4 v5 fun v6=>
aa 1 (pt b3) fun v7=>
Ld H4 v7 fun v8=>
ae .num .lss v6 v8 fun v9=>
cv v9 false (fun t10=>
aa 1 (pt b1) fun v11=>
Ld H4 v11 fun aZ=>
aa 1 (pt b3) fun bj=>
Ld H4 bj fun br=>
ae .num .eql aZ br fun bB=>
cv bB true (fun t16=>
aa 0 (pt b1) fun bH=>
Ld H4 bH fun bY=>
aa 0 (pt b3) fun bK=>
Ld H4 bK fun v20=>
ae .num .lss bY v20 fun bX=>
(H4=H4∧bX=Value.bool t16)) (fun t16=>(Value.bool false)=Value.bool t16) fun t16=>∀Qd:Fr,
(H4=H4∧(Value.bool t16)=Value.bool t10)) (fun t10=>(Value.bool true)=Value.bool t10) fun t10=>∀T8:Fr,
R (.returned (Value.bool t10)) H4
theorem Du(h:L223 g a0 a1 H R):ai Tryz.prog g 223 #[a0,a1] H R:=
 ak (hn:=(.n .e (.n (.h 0 [] [1] .e .e) .e))) Tryz.func223 h (by kernel_rfl)
def L224(g:Gh)(a0 a1:Value)(H:Hp)(R:Rt):Prop:=
bA H (.cells #[(iv 0),(.slice none 0 0)] 57 (0,0)) fun b1 H2=>
ae .num .shl (iv 1) a0 fun v3=>
bZ 4 1 1 (Value.bool false) H2 v3 v3 fun v4 H5=>
∃(I6:Jt) (m7:Mt),JE I6 [(iv 0)] H5∧∀eY:Value,∀H9:Hp,I6 [eY] H9→∀FW:Fr,
aG v4 fun v11=>
ae .num .lss eY v11 fun aZ=>
Br aZ (
ae .num .shr eY a1 fun bj=>
ae .num .rem bj (iv 2) fun br=>
ae .num .eql br (iv 1) fun bB=>
ah 1 v4 eY fun bM=>
St 1 H9 bM bB fun fN=>
ae .num .add eY (iv 1) fun bY=>
ay I6 m7 [bY] fN [eY] H9) (
CF g 98 #[a0,v4] H9 (fun bK jk=>
St 2 jk (pt b1) bK fun dZ=>
aA 2 dZ (pt b1) fun cB=>
R (.returned cB) dZ) (au R))
theorem Ds(h:L224 g a0 a1 H R):ai Tryz.prog g 224 #[a0,a1] H R:=
 ak (hn:=(.n .e (.n .e (.n (.n .e (.n (.h 0 [6] [0,1,4,5] .e .e) .e)) .e)))) Tryz.func224 h (by kernel_rfl)
def L225(g:Gh)(a0 a1 a2 a3:Value)(H:Hp)(R:Rt):Prop:=
CF g 113 #[a0,a1] H (fun v1 H2=>
Un .not v1 fun v3=>
Br v3 (
R (.returned (iv 2)) H2) (
∀J4:Jt,(∀w7:Value,∀H6:Hp,(∀Og:Fr,
Br w7 (
R (.returned (iv 3)) H6) (
∀J8:Jt,(∀lB:Value,∀dG:Hp,(∀RS:Fr,
Br lB (
R (.returned (iv 4)) dG) (
R (.returned (iv 0)) dG))→J8 [lB] dG)→
DR H6 fun Zo=>
ae .num .neq a2 a3 fun bj=>
Br bj (
Nil a0 fun br=>
aa 6 br fun bB=>
Ld Zo bB fun bM=>
ah 1 bM a1 fun bH=>
Ld Zo bH fun bY=>
∀F19:Hp,
CF (g.add F19) 257 #[a0,a2] H6 (fun v20 dZ=>
aO dZ Zo∧
∀F22:Hp,
CF (g.add F22) 257 #[a0,a3] dZ (fun cf iy=>
aO iy Zo∧
X4 v20 cf fun cD=>
ae .num .geq bY cD fun cG=>
aD (Value.bool true) cG (Value.bool false) fun cQ=>
JE J8 [cQ] iy) aU) aU) (
JE J8 [(Value.bool false)] H6)))→J4 [w7] H6)→
Nil a0 fun dx=>
aa 0 dx fun dw=>
CF g 173 #[dw,a2] H2 (fun v30 lA=>
Un .not v30 fun dU=>
Split dU false (
Nil a0 fun e8=>
aa 0 e8 fun e7=>
CF g 173 #[e7,a3] lA (fun fp rF=>
Un .not fp fun eE=>
aD (Value.bool false) (Value.bool true) eE fun fB=>
JE J4 [fB] rF) (au R)) (
aD (Value.bool true) (Value.bool true) undef fun fO=>
JE J4 [fO] lA)) (au R))) (au R)
theorem Dr(h:L225 g a0 a1 a2 a3 H R):ai Tryz.prog g 225 #[a0,a1,a2,a3] H R:=
 ak (hn:=(.n .e (.n (.n (.n .e (.n .e (.h 1 [14] [0,1,2,3] .e (.n .e (.h 1 [29] [] (.h 1 [] [] (hr 0 [] 0 3 (.h 2 [3] [] (hr 0 [] 4 9 (hr 0 [] 14 2 (.h 0 [13] [] (hr 0 [] 16 5 .e) .e))) (hr 0 [] 4 15 (hr 3 [] 19 2 .e)))) .e) .e))))) .e) .e))) Tryz.func225 h (by kernel_rfl)
def L226(g:Gh)(a0 a1 a2 a3:Value)(H:Hp)(R:Rt):Prop:=
ae .num .eql a2 a3 fun v1=>
Br v1 (
R (.returned (.tuple #[a2,(Value.bool true)])) H) (
Nil a0 fun v2=>
aa 0 v2 fun v3=>
aa 1 v3 fun v4=>
Ld H v4 fun v5=>
Build Tryz.prog 161 [(0,a1),(1,a2),(2,a3)] fun v6=>
CF g 205 #[v5,v6] H (fun v7 H8=>
Ext 0 v7 fun v9=>
Ext 1 v7 fun v10=>
R (.returned (.tuple #[v9,v10])) H8) (au R))
theorem Dq(h:L226 g a0 a1 a2 a3 H R):ai Tryz.prog g 226 #[a0,a1,a2,a3] H R:=
 ak (hn:=.e) Tryz.func226 h (by kernel_rfl)
def L227(g:Gh)(a0 a1:Value)(H:Hp)(R:Rt):Prop:=
CF g 228 #[a0] H (fun v1 H2=>
aG a1 fun v3=>
∃(I4:Jt) (m5:Mt),JE I4 [(.slice none 0 0),v1,(iv 0)] H2∧∀w8 w9 eY:Value,∀H7:Hp,I4 [w8,w9,eY] H7→∀JH:Fr,
ae .num .lss eY v3 fun v11=>
Br v11 (
ah 1 a1 eY fun aZ=>
Ld H7 aZ fun bj=>
CF g 258 #[w9,bj] H7 (fun br c6=>
ax Tryz.prog 247 1 [(0,br)] c6 fun bM fN=>
App Tryz.prog 28 1 24 (.slice none 0 0) fN w8 bM fun v20 dZ=>
CF g 259 #[w9,bj] dZ (fun cB jQ=>
ae .num .add eY (iv 1) fun cm=>
ay I4 m5 [v20,cB,cm] jQ [w8,w9,eY] H7) (au R)) (au R)) (
R (.returned w8) H7)) (au R)
theorem Dp(h:L227 g a0 a1 H R):ai Tryz.prog g 227 #[a0,a1] H R:=
 ak (hn:=(hN 3 (.n (.n .e (.n (.h 0 [5,6,13] [11,12] .e .e) .e)) .e))) Tryz.func227 h (by kernel_rfl)
def L228(g:Gh)(a0:Value)(H:Hp)(R:Rt):Prop:=
aG a0 fun v1=>
∃(I2:Jt) (m3:Mt),JE I2 [(.slice none 0 0),(iv 0)] H∧∀w6 w7:Value,∀H5:Hp,I2 [w6,w7] H5→∀ya:Fr,
ae .num .lss w7 v1 fun v8=>
Br v8 (
∀J9:Jt,(∀eP:Value,∀dX:Hp,(∀qw:Fr,
ae .num .add w7 (iv 1) fun bj=>
ay I2 m3 [eP,bj] dX [w6,w7] H5)→J9 [eP] dX)→
ah 2 a0 w7 fun br=>
aA 2 H5 br fun bB=>
bA H5 (.cells #[(iv 0),(.slice none 0 0)] 57 (0,0)) fun qI fN=>
St 2 fN (pt qI) bB fun dN=>
aA 2 dN (pt qI) fun bK=>
CF g 260 #[w6,bK] dN (fun v20 dZ=>
Un .not v20 fun cB=>
Br cB (
aA 2 dZ (pt qI) fun cf=>
ax Tryz.prog 28 1 [(0,cf)] dZ fun cm dW=>
App Tryz.prog 57 2 32 (.agg #[(iv 0),(.slice none 0 0)]) dW w6 cm fun dx kD=>
JE J9 [dx] kD) (
JE J9 [w6] dZ)) (au R)) (
R (.returned w6) H5)
theorem Dn(h:L228 g a0 H R):ai Tryz.prog g 228 #[a0] H R:=
 ak (hn:=(.n .e (.n .e (.n (.n .e (.n (.h 0 [3,8] [6,7] (.n .e (.n .e (.h 1 [3] [6,7,8] .e .e))) .e) .e)) .e)))) Tryz.func228 h (by kernel_rfl)
def L229(g:Gh)(a0 a1:Value)(H:Hp)(R:Rt):Prop:=
CF g 227 #[a0,a1] H (fun v1 H2=>
aG v1 fun v3=>
∃(I4:Jt) (m5:Mt),JE I4 [(iv 0),(iv 0)] H2∧∀w8 w9:Value,∀H7:Hp,I4 [w8,w9] H7→∀JH:Fr,
ae .num .lss w9 v3 fun v10=>
Br v10 (
ah 1 v1 w9 fun v11=>
Ld H7 v11 fun aZ=>
aG aZ fun bj=>
ae .num .add w8 bj fun br=>
ae .num .add w9 (iv 1) fun bB=>
ay I4 m5 [br,bB] H7 [w8,w9] H7) (
R (.returned w8) H7)) (au R)
theorem Dm(h:L229 g a0 a1 H R):ai Tryz.prog g 229 #[a0,a1] H R:=
 ak (hn:=(.n .e (.n .e (.n (.n .e (.n (.h 0 [5,12] [10,11] .e .e) .e)) .e)))) Tryz.func229 h (by kernel_rfl)
def L231(g:Gh)(a0 a1:Value)(H:Hp)(R:Rt):Prop:=
bA H (.cells #[(iv 0),(Value.int .u32 0),(Value.int .u32 0)] 161 (0,0)) fun b1 H2=>
ae .ptr .eql a0 (.pointer none) fun v3=>
Br v3 (
Build Tryz.prog 161 [] fun v4=>
St 3 H2 (pt b1) v4 fun H5=>
aA 3 H5 (pt b1) fun v6=>
R (.returned (.tuple #[v6,(iv 10)])) H5) (
CF g 253 #[a0,a1] H2 (fun v7 H8=>
Un .not v7 fun v9=>
Br v9 (
Build Tryz.prog 161 [] fun v10=>
St 3 H8 (pt b1) v10 fun dX=>
aA 3 dX (pt b1) fun aZ=>
R (.returned (.tuple #[aZ,(iv 3)])) dX) (
Nil a0 fun bj=>
aa 1 bj fun br=>
Ld H8 br fun bB=>
ah 5 bB a1 fun bM=>
aa 0 bM fun bH=>
aA 3 H8 bH fun bY=>
St 3 H8 (pt b1) bY fun iz=>
aA 3 iz (pt b1) fun v20=>
R (.returned (.tuple #[v20,(iv 0)])) iz)) (au R))
theorem Dl(h:L231 g a0 a1 H R):ai Tryz.prog g 231 #[a0,a1] H R:=
 ak (hn:=.e) Tryz.func231 h (by kernel_rfl)
def L232(g:Gh)(a0:Value)(H:Hp)(R:Rt):Prop:=
bA H (.cells (Value.cells a0) 57 (0,0)) fun b1 H2=>
∀J3:Jt,(∀w6:Value,∀H5:Hp,(∀ya:Fr,
Br w6 (
R (.returned (Value.bool false)) H5) (
DR H5 fun R7=>
aa 1 (pt b1) fun v8=>
Ld R7 v8 fun v9=>
aa 1 (pt b1) fun v10=>
Ld R7 v10 fun v11=>
aG v11 fun aZ=>
ae .num .sub aZ (iv 1) fun bj=>
ah 1 v9 bj fun br=>
Ld R7 br fun bB=>
aa 0 (pt b1) fun bM=>
Ld R7 bM fun bH=>
CF g 255 #[bH] H5 (fun bY iz=>
aO iz R7∧
ae .num .andNot bB bY fun v20=>
ae .num .eql v20 (Value.int .u64 0) fun bX=>
R (.returned bX) iz) aU))→J3 [w6] H5)→
DR H2 fun Om=>
aa 0 (pt b1) fun cf=>
Ld Om cf fun cm=>
ae .num .lss cm (iv 0) fun cD=>
Br cD (
JE J3 [(Value.bool true)] H2) (
aa 0 (pt b1) fun cG=>
Ld Om cG fun cQ=>
ae .num .gtr cQ (iv 16) fun dx=>
aD (Value.bool false) (Value.bool true) dx fun dw=>
Br dw (
JE J3 [(Value.bool true)] H2) (
aa 1 (pt b1) fun v30=>
Ld Om v30 fun eJ=>
aG eJ fun dU=>
aa 0 (pt b1) fun e8=>
Ld Om e8 fun e7=>
∀F35:Hp,
CF (g.add F35) 254 #[e7] H2 (fun ew rE=>
aO rE Om∧
ae .num .neq dU ew fun fB=>
aD (Value.bool false) (Value.bool true) fB fun fO=>
JE J3 [fO] rE) aU))
theorem Dk(h:L232 g a0 H R):ai Tryz.prog g 232 #[a0] H R:=
 ak (hn:=(.n .e (.n (.h 1 [19] [1] (.h 1 [] [] (hr 0 [] 0 3 (.h 2 [3] [] (hr 0 [] 4 3 (hr 3 [] 7 2 (hr 0 [] 9 7 (.h 3 [16] [] .e .e)))) (hr 0 [] 4 4 (.h 2 [8] [] (hr 0 [] 9 7 (.h 3 [16] [] .e .e)) (hr 0 [] 9 8 .e))))) .e) .e) (.n (.h 0 [0,1,2,3,4,5,6,7,8,9,10,11,12,13] [] .e .e) .e)))) Tryz.func232 h (by kernel_rfl)
def L233(g:Gh)(a0 a1:Value)(H:Hp)(R:Rt):Prop:=
bA H (.cells (Value.cells a1) 57 (0,0)) fun b1 H2=>
DR H2 fun R3=>
aA 2 R3 (pt b1) fun v4=>
aA 2 R3 (pt b1) fun v5=>
CF g 234 #[v4] H2 (fun v6 H7=>
aO H7 R3∧
fV (.string) H7 a0 v6 v5 fun H8=>
R (.returned (.tuple #[])) H8) aU
theorem Dj(h:L233 g a0 a1 H R):ai Tryz.prog g 233 #[a0,a1] H R:=
 ak (hn:=(.n .e (.h 0 [0,1,3,2,4] [] .e .e))) Tryz.func233 h (by kernel_rfl)
def L234(g:Gh)(a0:Value)(H:Hp)(R:Rt):Prop:=
bA H (.cells (Value.cells a0) 57 (0,0)) fun b1 H2=>
aa 1 (pt b1) fun v3=>
Ld H2 v3 fun v4=>
aG v4 fun v5=>
∃(I6:Jt) (m7:Mt),JE I6 [(.slice none 0 0),(iv 0)] H2∧∀eY lB:Value,∀H9:Hp,I6 [eY,lB] H9→∀FW:Fr,
ae .num .lss lB v5 fun aZ=>
Br aZ (
ah 1 v4 lB fun bj=>
Ld H9 bj fun br=>
∃(I15:Jt) (m16:Mt),JE I15 [eY,(iv 0)] H9∧∀NV oT:Value,∀dN:Hp,I15 [NV,oT] dN→∀Xv:Fr,
ae .num .lss oT (iv 8) fun bX=>
Br bX (
ae .num .mul (iv 8) oT fun cB=>
ae .num .shr br cB fun cf=>
bI .u8 cf fun cm=>
ax Tryz.prog 87 1 [(0,cm)] dN fun cD jP=>
App Tryz.prog 5 1 1 (Value.int .u8 0) jP NV cD fun dw jj=>
ae .num .add oT (iv 1) fun eJ=>
ay I15 m16 [dw,eJ] jj [NV,oT] dN) (
ae .num .add lB (iv 1) fun dU=>
ay I6 m7 [NV,dU] dN [eY,lB] H9)) (
jR H9 eY fun e8=>
R (.returned e8) H9)
theorem Di(h:L234 g a0 H R):ai Tryz.prog g 234 #[a0] H R:=
 ak (hn:=(.n .e (.n .e (.n (.n .e (.n (.h 0 [3,10] [8,9] (.n .e (.n .e (.n (.n (.n .e (.n .e (.n (.h 0 [3,14] [5,8,9,10] .e .e) .e))) .e) .e))) .e) .e)) .e)))) Tryz.func234 h (by kernel_rfl)
def L235(g:Gh)(a0:Value)(H:Hp)(R:Rt):Prop:=
∃(I1:Jt) (m2:Mt),JE I1 [(iv 0)] H∧∀w5:Value,∀H4:Hp,I1 [w5] H4→∀RT:Fr,
aG a0 fun v6=>
ae .num .lss w5 v6 fun v7=>
Br v7 (
CF g 188 #[a0,w5] H4 (fun v8 H9=>
ae .num .lss v8 (iv 0) fun v10=>
Br v10 (
R (.returned (iv 4)) H9) (
ae .num .add w5 (iv 1) fun v11=>
ay I1 m2 [v11] H9 [w5] H4)) (au R)) (
aG a0 fun aZ=>
ae .num .gtr aZ (iv 64) fun bj=>
Br bj (
R (.returned (iv 13)) H4) (
R (.returned (iv 0)) H4))
theorem Dh(h:L235 g a0 H R):ai Tryz.prog g 235 #[a0] H R:=
 ak (hn:=(.n .e (.n (.n .e (.n (.h 0 [3] [0] .e .e) .e)) .e))) Tryz.func235 h (by kernel_rfl)
def L236(g:Gh)(a0 a1:Value)(H:Hp)(R:Rt):Prop:=
bA H (.cells #[(iv 0),(.slice none 0 0)] 57 (0,0)) fun b1 H2=>
ae .num .shl (iv 1) a0 fun v3=>
bZ 4 1 1 (Value.bool false) H2 v3 v3 fun v4 H5=>
∃(I6:Jt) (m7:Mt),JE I6 [(iv 0)] H5∧∀eY:Value,∀H9:Hp,I6 [eY] H9→∀FW:Fr,
aG v4 fun v11=>
ae .num .lss eY v11 fun aZ=>
Br aZ (
ah 1 v4 eY fun bj=>
St 1 H9 bj a1 fun fk=>
ae .num .add eY (iv 1) fun bB=>
ay I6 m7 [bB] fk [eY] H9) (
CF g 98 #[a0,v4] H9 (fun bM fN=>
St 2 fN (pt b1) bM fun dN=>
aA 2 dN (pt b1) fun bK=>
R (.returned bK) dN) (au R))
theorem Dg(h:L236 g a0 a1 H R):ai Tryz.prog g 236 #[a0,a1] H R:=
 ak (hn:=(.n .e (.n .e (.n (.n .e (.n (.h 0 [6] [0,1,4,5] .e .e) .e)) .e)))) Tryz.func236 h (by kernel_rfl)
def L237(g:Gh)(a0 a1 a2:Value)(H:Hp)(R:Rt):Prop:=
bA H (.cells (Value.cells a1) 57 (0,0)) fun b1 H2=>
bA H2 (.cells (Value.cells a2) 57 (0,0)) fun b3 H4=>
bA H4 (.cells #[(iv 0),(.slice none 0 0)] 57 (0,0)) fun b5 H6=>
aa 0 (pt b1) fun v7=>
Ld H6 v7 fun v8=>
ae .num .shl (iv 1) v8 fun v9=>
bZ 4 1 1 (Value.bool false) H6 v9 v9 fun v10 dX=>
∃(uE:Jt) (Ln:Mt),JE uE [(iv 0)] dX∧∀gm:Value,∀c6:Hp,uE [gm] c6→∀rO:Fr,
aG v10 fun bH=>
ae .num .lss gm bH fun bY=>
Br bY (
∀Oo:Jt,(∀dZ:Hp,(∀HU:Fr,
ae .num .add gm (iv 1) fun cB=>
ay uE Ln [cB] dZ [gm] c6)→Oo [] dZ)→
ae .num .shr gm a0 fun cf=>
ae .num .rem cf (iv 2) fun cm=>
ae .num .eql cm (iv 1) fun cD=>
Br cD (
aA 2 c6 (pt b3) fun cG=>
CF g 162 #[cG,gm] c6 (fun cQ nA=>
ah 1 v10 gm fun dw=>
St 1 nA dw cQ fun jj=>
JE Oo [] jj) (au R)) (
aA 2 c6 (pt b1) fun eJ=>
CF g 162 #[eJ,gm] c6 (fun dU ie=>
ah 1 v10 gm fun e7=>
St 1 ie e7 dU fun jO=>
JE Oo [] jO) (au R))) (
aa 0 (pt b1) fun ew=>
Ld c6 ew fun eE=>
CF g 98 #[eE,v10] c6 (fun fB JN=>
St 2 JN (pt b5) fB fun rD=>
aA 2 rD (pt b5) fun fo=>
R (.returned fo) rD) (au R))
theorem Df(h:L237 g a0 a1 a2 H R):ai Tryz.prog g 237 #[a0,a1,a2] H R:=
 ak (hn:=(.n .e (.n .e (.n (.n .e (.n (.h 0 [8] [0,4,5,6,7] (.n .e (.h 1 [] [0,4,5,6,7,8] .e .e)) .e) .e)) .e)))) Tryz.func237 h (by kernel_rfl)
def L239(g:Gh)(a0 a1 a2 a3:Value)(H:Hp)(R:Rt):Prop:=
aa 1 a1 fun v1=>
Ld H v1 fun v2=>
ah 1 v2 a0 fun v3=>
Ld H v3 fun v4=>
aa 1 a2 fun v5=>
Ld H v5 fun v6=>
ah 1 v6 a0 fun v7=>
Ld H v7 fun v8=>
Un .xor v4 fun v9=>
Un .xor v8 fun v10=>
ae .num .and v9 v10 fun v11=>
Un .xor v4 fun aZ=>
ae .num .and aZ v8 fun bj=>
Un .xor v8 fun br=>
ae .num .and v4 br fun bB=>
ae .num .and v4 v8 fun bM=>
ax Tryz.prog 55 4 [(0,v11),(1,bj),(2,bB),(3,bM)] H fun bH dN=>
aG bH fun bK=>
∃(Uu:Jt) (m21:Mt),JE Uu [(Value.int .u64 0),(iv 0)] dN∧∀Fh sn:Value,∀jQ:Hp,Uu [Fh,sn] jQ→∀Qd:Fr,
ae .num .lss sn bK fun cG=>
Br cG (
∀ND:Jt,(∀Ak:Value,∀kD:Hp,(∀acw:Fr,
ae .num .add sn (iv 1) fun eJ=>
ay Uu m21 [Ak,eJ] kD [Fh,sn] jQ)→ND [Ak] kD)→
ah 1 bH sn fun dU=>
Ld jQ dU fun e8=>
Ld jQ a3 fun e7=>
ae .num .shr e7 sn fun fp=>
ae .num .and fp (Value.int .u8 1) fun ew=>
ae .num .eql ew (Value.int .u8 1) fun eE=>
Br eE (
ae .num .or Fh e8 fun fB=>
JE ND [fB] jQ) (
JE ND [Fh] jQ)) (
R (.returned Fh) jQ)
theorem De(h:L239 g a0 a1 a2 a3 H R):ai Tryz.prog g 239 #[a0,a1,a2,a3] H R:=
 ak (hn:=(hN 3 (.n (.n .e (.n (.h 0 [8,39] [3,37,38] (.n .e (.n .e (.h 1 [8] [3,37,38,39] .e .e))) .e) .e)) .e))) Tryz.func239 h (by kernel_rfl)
variable {g:Gh} {a0 a1 a2 a3 a4 a5 a6 a7 a8 a9 rR rQ XN XM XL XK:Value} {H:Hp} {R:Rt}
def L250(g:Gh)(a0:Value)(H:Hp)(R:Rt):Prop:=
CF g 273 #[a0] H (fun v1 H2=>
CF g 274 #[v1] H2 (fun v3 H4=>
R (.returned v1) H4) (au R)) (au R)
theorem Dd(h:L250 g a0 H R):ai Tryz.prog g 250 #[a0] H R:=
 ak (hn:=.e) Tryz.func250 h (by kernel_rfl)
def L251(g:Gh)(a0:Value)(H:Hp)(R:Rt):Prop:=
bA H (.cells (Value.cells a0) 266 (0,0)) fun b1 H2=>
R (.returned (.func (.func 275) #[] #[(pt b1)])) H2
theorem Dc(h:L251 g a0 H R):ai Tryz.prog g 251 #[a0] H R:=
 ak (hn:=.e) Tryz.func251 h (by kernel_rfl)
def L252(g:Gh)(a0 a1:Value)(H:Hp)(R:Rt):Prop:=
bA H (.cells (Value.cells a1) 161 (0,0)) fun b1 H2=>
ae .ptr .eql a0 (.pointer none) fun v3=>
Br v3 (
R (.returned (.tuple #[(Value.int .u32 0),(iv 10)])) H2) (
aA 3 H2 (pt b1) fun v4=>
CF g 208 #[a0,v4] H2 (fun v5 H6=>
ae .num .neq v5 (iv 0) fun v7=>
Br v7 (
R (.returned (.tuple #[(Value.int .u32 0),v5])) H6) (
Nil a0 fun v8=>
aa 2 v8 fun v9=>
Ld H6 v9 fun v10=>
aG v10 fun v11=>
ae .num .gtr v11 (iv 0) fun aZ=>
Br aZ (
Nil a0 fun bj=>
aa 2 bj fun br=>
Ld H6 br fun bB=>
ae .num .sub v11 (iv 1) fun bM=>
ah 1 bB bM fun bH=>
Ld H6 bH fun bY=>
Nil a0 fun bK=>
aa 2 bK fun v20=>
Ld H6 v20 fun bX=>
ae .num .sub v11 (iv 1) fun cB=>
fU 1 bX none (some cB) fun cf=>
Nil a0 fun cm=>
aa 2 cm fun cD=>
St 1 H6 cD cf fun jP=>
DR jP fun QG=>
Nil a0 fun dx=>
aa 1 dx fun dw=>
Ld QG dw fun v30=>
aA 3 QG (pt b1) fun eJ=>
Build Tryz.prog 291 [(0,eJ),(1,(Value.bool true))] fun dU=>
ah 5 v30 bY fun e8=>
St 5 jP e8 dU fun nX=>
Nil a0 fun fp=>
aa 3 fp fun ew=>
Ld nX ew fun eE=>
ae .num .add eE (iv 1) fun fB=>
Nil a0 fun fO=>
aa 3 fO fun eZ=>
St 1 nX eZ fB fun xW=>
R (.returned (.tuple #[bY,(iv 0)])) xW) (
Nil a0 fun gE=>
aa 1 gE fun fW=>
Ld H6 fW fun gi=>
aG gi fun ig=>
Nil a0 fun iT=>
aa 0 iT fun jU=>
Ld H6 jU fun jT=>
ae .num .geq ig jT fun jo=>
Br jo (
R (.returned (.tuple #[(Value.int .u32 0),(iv 9)])) H6) (
DR H6 fun Gl=>
Nil a0 fun jt=>
aa 1 jt fun jm=>
Ld Gl jm fun oL=>
aA 3 Gl (pt b1) fun nZ=>
Build Tryz.prog 291 [(0,nZ),(1,(Value.bool true))] fun lO=>
ax Tryz.prog 196 1 [(0,lO)] H6 fun p9 Gs=>
aO Gs Gl∧
App Tryz.prog 291 5 24 (.agg #[(iv 0),(Value.int .u32 0),(Value.int .u32 0),(Value.bool false),(Value.int .u8 0)]) Gs oL p9 fun sr vg=>
aO vg Gl∧
Nil a0 fun yh=>
aa 1 yh fun p8=>
St 1 vg p8 sr fun wE=>
Nil a0 fun uR=>
aa 3 uR fun sq=>
Ld wE sq fun x4=>
ae .num .add x4 (iv 1) fun vq=>
Nil a0 fun AM=>
aa 3 AM fun rT=>
St 1 wE rT vq fun QL=>
Nil a0 fun AL=>
aa 1 AL fun Ao=>
Ld QL Ao fun Ka=>
aG Ka fun An=>
ae .num .sub An (iv 1) fun QX=>
bI .u32 QX fun Am=>
R (.returned (.tuple #[Am,(iv 0)])) QL)))) (au R))
theorem Db(h:L252 g a0 a1 H R):ai Tryz.prog g 252 #[a0,a1] H R:=
 ak (hn:=(hN 3 (.n (.n .e (.n .e (.n (.n .e (.n .e (.n (.h 0 [0,1,2,3,4,5,6,7,8] [] .e .e) .e))) .e))) (.n .e (.n (.h 0 [0,1,2,3,4,5,6,7,8,9,10,11] [] .e .e) .e))))) Tryz.func252 h (by kernel_rfl)
def L253(g:Gh)(a0 a1:Value)(H:Hp)(R:Rt):Prop:=
bI .i64 a1 fun v1=>
Nil a0 fun v2=>
aa 1 v2 fun v3=>
Ld H v3 fun v4=>
aG v4 fun v5=>
ae .num .lss v1 v5 fun v6=>
cv v6 true (fun t7=>
Nil a0 fun v8=>
aa 1 v8 fun v9=>
Ld H v9 fun v10=>
ah 5 v10 a1 fun v11=>
aa 3 v11 fun aZ=>
Ld H aZ fun bj=>
(H=H∧bj=Value.bool t7)) (fun t7=>(Value.bool false)=Value.bool t7) fun t7=>∀rO:Fr,
R (.returned (Value.bool t7)) H
theorem Da(h:L253 g a0 a1 H R):ai Tryz.prog g 253 #[a0,a1] H R:=
 ak (hn:=(.n .e (.n (.h 0 [] [1] .e .e) .e))) Tryz.func253 h (by kernel_rfl)
def L254(g:Gh)(a0:Value)(H:Hp)(R:Rt):Prop:=
ae .num .shl (iv 1) a0 fun v1=>
ae .num .shr v1 (Value.int .u64 6) fun v2=>
xQ (iv 1) v2 fun v3=>
R (.returned v3) H
theorem C9(h:L254 g a0 H R):ai Tryz.prog g 254 #[a0] H R:=
 ak (hn:=.e) Tryz.func254 h (by kernel_rfl)
def L255(g:Gh)(a0:Value)(H:Hp)(R:Rt):Prop:=
ae .num .geq a0 (iv 6) fun v1=>
Br v1 (
R (.returned (Value.int .u64 18446744073709551615)) H) (
ae .num .shl (Value.int .u64 1) a0 fun v2=>
ae .num .shl (Value.int .u64 1) v2 fun v3=>
ae .num .sub v3 (Value.int .u64 1) fun v4=>
R (.returned v4) H)
theorem C8(h:L255 g a0 H R):ai Tryz.prog g 255 #[a0] H R:=
 ak (hn:=.e) Tryz.func255 h (by kernel_rfl)
def L256(g:Gh)(a0 a1 a2 a3:Value)(H:Hp)(R:Rt):Prop:=
Ld H a1 fun v1=>
ae .num .geq v1 (iv 6) fun v2=>
Br v2 (
Ld H a1 fun v3=>
ae .num .sub v3 (iv 6) fun v4=>
ae .num .shl (iv 1) v4 fun v5=>
ae .num .andNot a0 v5 fun v6=>
∀J7:Jt,(∀eY:Value,∀H9:Hp,(∀FW:Fr,
aa 1 a3 fun v11=>
Ld H9 v11 fun aZ=>
ah 1 aZ eY fun bj=>
Ld H9 bj fun br=>
R (.returned br) H9)→J7 [eY] H9)→
Ld H a2 fun bB=>
Br bB (
Ld H a1 fun bM=>
ae .num .sub bM (iv 6) fun bH=>
ae .num .shl (iv 1) bH fun bY=>
ae .num .or v6 bY fun bK=>
JE J7 [bK] H) (
JE J7 [v6] H)) (
DR H fun Az=>
Ld Az a1 fun bX=>
Ld Az a1 fun cB=>
ae .num .shl (iv 1) cB fun cf=>
CF g 219 #[bX,(iv 0)] H (fun cm dW=>
aO dW Az∧
Ld dW a2 fun cG=>
Br cG (
aa 1 a3 fun cQ=>
Ld dW cQ fun dx=>
ah 1 dx a0 fun dw=>
Ld dW dw fun v30=>
ae .num .and v30 cm fun eJ=>
ae .num .shr eJ cf fun dU=>
ae .num .or eJ dU fun e8=>
R (.returned e8) dW) (
aa 1 a3 fun e7=>
Ld dW e7 fun fp=>
ah 1 fp a0 fun ew=>
Ld dW ew fun eE=>
ae .num .andNot eE cm fun fB=>
ae .num .shl fB cf fun fO=>
ae .num .or fB fO fun eZ=>
R (.returned eZ) dW)) aU)
theorem C7(h:L256 g a0 a1 a2 a3 H R):ai Tryz.prog g 256 #[a0,a1,a2,a3] H R:=
 ak (hn:=(.n .e (.n (.n .e (.n (.n .e (.h 1 [6] [3] .e .e)) .e)) (.n (.h 0 [0,2,3,1,4,5] [] .e .e) .e)))) Tryz.func256 h (by kernel_rfl)
def L257(g:Gh)(a0 a1:Value)(H:Hp)(R:Rt):Prop:=
Nil a0 fun v1=>
aa 0 v1 fun v2=>
CF g 174 #[v2,a1] H (fun v3 H4=>
bA H4 (.cells #[(iv 0),(Value.int .u32 0),(Value.int .u32 0)] 161 (0,0)) fun b5 H6=>
St 3 H6 (pt b5) v3 fun H7=>
aa 0 (pt b5) fun v8=>
Ld H7 v8 fun v9=>
ae .num .geq v9 (iv 0) fun v10=>
Br v10 (
Nil a0 fun v11=>
aa 6 v11 fun aZ=>
Ld H7 aZ fun bj=>
aa 0 (pt b5) fun br=>
Ld H7 br fun bB=>
ah 1 bj bB fun bM=>
Ld H7 bM fun bH=>
R (.returned bH) H7) (
Nil a0 fun bY=>
aa 4 bY fun bK=>
Ld H7 bK fun v20=>
R (.returned v20) H7)) (au R)
theorem CZ(h:L257 g a0 a1 H R):ai Tryz.prog g 257 #[a0,a1] H R:=
 ak (hn:=.e) Tryz.func257 h (by kernel_rfl)
def L258(g:Gh)(a0 a1:Value)(H:Hp)(R:Rt):Prop:=
aG a0 fun v1=>
∃(I2:Jt) (m3:Mt),JE I2 [(.slice none 0 0),(iv 0)] H∧∀w6 w7:Value,∀H5:Hp,I2 [w6,w7] H5→∀ya:Fr,
ae .num .lss w7 v1 fun v8=>
Br v8 (
∀J9:Jt,(∀eP:Value,∀dX:Hp,(∀qw:Fr,
ae .num .add w7 (iv 1) fun bj=>
ay I2 m3 [eP,bj] dX [w6,w7] H5)→J9 [eP] dX)→
ah 2 a0 w7 fun br=>
aA 2 H5 br fun bB=>
bA H5 (.cells #[(iv 0),(.slice none 0 0)] 57 (0,0)) fun qI fN=>
St 2 fN (pt qI) bB fun dN=>
aA 2 dN (pt qI) fun bK=>
CF g 161 #[bK,a1] dN (fun v20 dZ=>
Br v20 (
aA 2 dZ (pt qI) fun cB=>
ax Tryz.prog 28 1 [(0,cB)] dZ fun cf iy=>
App Tryz.prog 57 2 32 (.agg #[(iv 0),(.slice none 0 0)]) iy w6 cf fun cQ nA=>
JE J9 [cQ] nA) (
JE J9 [w6] dZ)) (au R)) (
R (.returned w6) H5)
theorem CY(h:L258 g a0 a1 H R):ai Tryz.prog g 258 #[a0,a1] H R:=
 ak (hn:=(.n .e (.n .e (.n (.n .e (.n (.h 0 [5,10] [1,8,9] (.n .e (.n .e (.h 1 [5] [1,8,9,10] .e .e))) .e) .e)) .e)))) Tryz.func258 h (by kernel_rfl)
def L259(g:Gh)(a0 a1:Value)(H:Hp)(R:Rt):Prop:=
aG a0 fun v1=>
∃(I2:Jt) (m3:Mt),JE I2 [(.slice none 0 0),(iv 0)] H∧∀w6 w7:Value,∀H5:Hp,I2 [w6,w7] H5→∀ya:Fr,
ae .num .lss w7 v1 fun v8=>
Br v8 (
∀J9:Jt,(∀eP:Value,∀dX:Hp,(∀qw:Fr,
ae .num .add w7 (iv 1) fun bj=>
ay I2 m3 [eP,bj] dX [w6,w7] H5)→J9 [eP] dX)→
ah 2 a0 w7 fun br=>
aA 2 H5 br fun bB=>
bA H5 (.cells #[(iv 0),(.slice none 0 0)] 57 (0,0)) fun qI fN=>
St 2 fN (pt qI) bB fun dN=>
DR dN fun ud=>
aA 2 ud (pt qI) fun v20=>
aA 2 ud (pt qI) fun bX=>
∀F22:Hp,
CF (g.add F22) 163 #[v20,a1,(Value.bool false)] dN (fun cf iy=>
aO iy ud∧
∀F25:Hp,
CF (g.add F25) 163 #[bX,a1,(Value.bool true)] iy (fun cG iP=>
aO iP ud∧
bA iP (.cells #[(iv 0),(.slice none 0 0)] 57 (0,0)) fun Ax kD=>
bA kD (.cells #[(iv 0),(.slice none 0 0)] 57 (0,0)) fun JL lA=>
∀F32:Hp,
St 2 lA (pt Ax) cf fun ie=>
aO ie ud∧
∀Zu:Hp,
St 2 ie (pt JL) cG fun jO=>
∀yd:Jt,(∀NU:Value,∀lU:Hp,(∀Xp:Fr,
aA 2 lU (pt JL) fun eZ=>
CF g 260 #[NU,eZ] lU (fun fo qL=>
Un .not fo fun fW=>
Br fW (
aA 2 qL (pt JL) fun gi=>
ax Tryz.prog 28 1 [(0,gi)] qL fun ig Js=>
App Tryz.prog 57 2 32 (.agg #[(iv 0),(.slice none 0 0)]) Js NU ig fun jo xU=>
JE J9 [jo] xU) (
JE J9 [NU] qL)) (au R))→yd [NU] lU)→
aA 2 jO (pt Ax) fun jt=>
CF g 260 #[w6,jt] jO (fun jm xS=>
Un .not jm fun nZ=>
Br nZ (
aA 2 xS (pt Ax) fun lO=>
ax Tryz.prog 28 1 [(0,lO)] xS fun p9 Gs=>
App Tryz.prog 57 2 32 (.agg #[(iv 0),(.slice none 0 0)]) Gs w6 p9 fun sr vg=>
JE yd [sr] vg) (
JE yd [w6] xS)) (au R)) aU) aU) (
R (.returned w6) H5)
theorem CX(h:L259 g a0 a1 H R):ai Tryz.prog g 259 #[a0,a1] H R:=
 ak (hn:=(.n .e (.n .e (.n (.n .e (.n (.h 0 [5,12] [1,10,11] (.n .e (.n .e (.h 1 [5] [1,10,11,12] (.n (.n .e (.n (.h 1 [] [] (hr 0 [] 0 2 (hr 0 [] 3 2 (hr 1 [] 6 2 (.h 0 [2] [] (hr 0 [] 5 5 .e) .e)))) .e) (.h 1 [5] [1,9,10,11,12] .e .e))) .e) .e))) .e) .e)) .e)))) Tryz.func259 h (by kernel_rfl)
def L260(g:Gh)(a0 a1:Value)(H:Hp)(R:Rt):Prop:=
bA H (.cells (Value.cells a1) 57 (0,0)) fun b1 H2=>
aG a0 fun v3=>
∃(I4:Jt) (m5:Mt),JE I4 [(iv 0)] H2∧∀w8:Value,∀H7:Hp,I4 [w8] H7→∀JH:Fr,
ae .num .lss w8 v3 fun v9=>
Br v9 (
ah 2 a0 w8 fun v10=>
aA 2 H7 v10 fun v11=>
bA H7 (.cells #[(iv 0),(.slice none 0 0)] 57 (0,0)) fun mI cZ=>
St 2 cZ (pt mI) v11 fun fk=>
aA 2 fk (pt b1) fun bB=>
aA 2 fk (pt mI) fun bM=>
CF g 36 #[bB,bM] fk (fun bH dN=>
Br bH (
R (.returned (Value.bool true)) dN) (
ae .num .add w8 (iv 1) fun bK=>
ay I4 m5 [bK] dN [w8] H7)) (au R)) (
R (.returned (Value.bool false)) H7)
theorem CV(h:L260 g a0 a1 H R):ai Tryz.prog g 260 #[a0,a1] H R:=
 ak (hn:=(.n .e (.n (.n .e (.n (.h 0 [9] [3,7,8] .e .e) .e)) .e))) Tryz.func260 h (by kernel_rfl)
def L273(g:Gh)(a0:Value)(H:Hp)(R:Rt):Prop:=
CF g 284 #[(.slice none 0 0),a0] H (fun v1 H2=>
R (.returned v1) H2) (au R)
theorem CQ(h:L273 g a0 H R):ai Tryz.prog g 273 #[a0] H R:=
 ak (hn:=.e) Tryz.func273 h (by kernel_rfl)
def L274(g:Gh)(a0:Value)(H:Hp)(R:Rt):Prop:=
aG a0 fun v1=>
bI .u64 v1 fun v2=>
CF g 286 #[v2] H (fun v3 H4=>
CF g 285 #[a0,(iv 0),v1,v3] H4 (fun v5 H6=>
R (.returned (.tuple #[])) H6) (au R)) (au R)
theorem CN(h:L274 g a0 H R):ai Tryz.prog g 274 #[a0] H R:=
 ak (hn:=.e) Tryz.func274 h (by kernel_rfl)
def L285(g:Gh)(a0 a1 a2 a3:Value)(H:Hp)(R:Rt):Prop:=
∃(I1:Jt) (m2:Mt),JE I1 [a1,a2,a3,(Value.bool true),(Value.bool true)] H∧∀w5 w6 w7 w8 w9:Value,∀H4:Hp,I1 [w5,w6,w7,w8,w9] H4→∀RT:Fr,
ae .num .sub w6 w5 fun v10=>
ae .num .leq v10 (iv 12) fun v11=>
Br v11 (
CF g 289 #[a0,w5,w6] H4 (fun aZ cZ=>
R (.returned (.tuple #[])) cZ) (au R)) (
ae .num .eql w7 (iv 0) fun br=>
Br br (
CF g 290 #[a0,w5,w6] H4 (fun bB eo=>
R (.returned (.tuple #[])) eo) (au R)) (
∀uD:Jt,(∀oT:Value,∀iz:Hp,(∀MB:Fr,
CF g 292 #[a0,w5,w6] iz (fun bX fy=>
Ext 0 bX fun cf=>
Ext 1 bX fun cm=>
∀On:Jt,(∀uQ vm:Value,∀iP:Hp,(∀Xs:Fr,
∀Yc:Jt,(∀mV:Hp,(∀T7:Fr,
∀JM:Jt,(∀QV:Value,∀jO:Hp,(∀acu:Fr,
Br QV (
CF g 296 #[a0,w5,w6,uQ] jO (fun eE lU=>
ay I1 m2 [eE,w6,oT,w8,w9] lU [w5,w6,w7,w8,w9] H4) (au R)) (
CF g 297 #[a0,w5,w6,uQ] jO (fun fO rD=>
Ext 0 fO fun fo=>
Ext 1 fO fun gE=>
ae .num .sub fo w5 fun fW=>
ae .num .sub w6 fo fun gi=>
ae .num .quo v10 (iv 8) fun ig=>
ae .num .lss fW gi fun iT=>
Br iT (
ae .num .geq fW ig fun jU=>
CF g 285 #[a0,w5,fo,oT] rD (fun jT xV=>
ae .num .add fo (iv 1) fun jA=>
ay I1 m2 [jA,w6,oT,jU,gE] xV [w5,w6,w7,w8,w9] H4) (au R)) (
ae .num .geq gi ig fun jt=>
ae .num .add fo (iv 1) fun jm=>
CF g 285 #[a0,jm,w6,oT] rD (fun oL Ot=>
ay I1 m2 [w5,fo,oT,jt,gE] Ot [w5,w6,w7,w8,w9] H4) (au R))) (au R)))→JM [QV] jO)→
DR mV fun R55=>
ae .num .gtr w5 (iv 0) fun p9=>
Br p9 (
ae .num .sub w5 (iv 1) fun rG=>
ah 1 a0 rG fun rU=>
Ld R55 rU fun AO=>
ah 1 a0 uQ fun sr=>
Ld R55 sr fun wG=>
∀F62:Hp,
CF (g.add F62) 295 #[AO,wG] mV (fun p8 wE=>
Un .not p8 fun uR=>
aD (Value.bool true) uR (Value.bool false) fun sq=>
JE JM [sq] wE) aU) (
JE JM [(Value.bool false)] mV))→Yc [] mV)→
cv w8 true (fun t67=>
(iP=iP∧w9=Value.bool t67)) (fun t67=>(Value.bool false)=Value.bool t67) fun t67=>∀acp:Fr,
cv (Value.bool t67) true (fun t69=>
ae .num .eql vm (iv 1) fun rT=>
(iP=iP∧rT=Value.bool t69)) (fun t69=>(Value.bool false)=Value.bool t69) fun t69=>∀aco:Fr,
Br (Value.bool t69) (
CF g 294 #[a0,w5,w6] iP (fun AL H73=>
Br AL (
R (.returned (.tuple #[])) H73) (
JE Yc [] H73)) (au R)) (
JE Yc [] iP))→On [uQ,vm] iP)→
ae .num .eql cm (iv 2) fun Ka=>
Br Ka (
CF g 293 #[a0,w5,w6] fy (fun An Jr=>
ae .num .sub w6 (iv 1) fun Am=>
ae .num .sub cf w5 fun OG=>
ae .num .sub Am OG fun AK=>
JE On [AK,(iv 1)] Jr) (au R)) (
JE On [cf,cm] fy)) (au R))→uD [oT] iz)→
Un .not w8 fun NX=>
Br NX (
CF g 291 #[a0,w5,w6] H4 (fun NW Ux=>
ae .num .sub w7 (iv 1) fun Si=>
JE uD [Si] Ux) (au R)) (
JE uD [w7] H4)))
theorem uk(h:L285 g a0 a1 a2 a3 H R):ai Tryz.prog g 285 #[a0,a1,a2,a3] H R:=
 ak (hn:=(.n .e (.n .e (.n (.h 0 [1,2,3,8,9] [0] (.n (hN 3 (.h 1 [3] [0,1,2,8,9,10] .e (.n .e (.h 1 [11,12] [0,1,2,3,8,9,10] .e (.h 1 [] [0,1,2,3,8,9,10,11] (.n (.h 0 [] [1] .e .e) .e) (.n (.h 1 [87] [0,1,2,3,8,9,10,11] (.h 1 [] [] (hr 0 [] 0 2 (.h 2 [2] [] (hr 0 [] 3 12 .e) (hr 0 [] 3 11 (.h 3 [14] [] .e .e)))) .e) .e) .e)))))) .e) .e) .e)))) Tryz.func285 h (by kernel_rfl)
def L286(g:Gh)(a0:Value)(H:Hp)(R:Rt):Prop:=
Br (Value.bool false) (
bI .u32 a0 fun v1=>
CF g 298 #[v1] H (fun v2 H3=>
R (.returned v2) H3) (au R)) (
CF g 75 #[a0] H (fun v4 H5=>
R (.returned v4) H5) (au R))
theorem CM(h:L286 g a0 H R):ai Tryz.prog g 286 #[a0] H R:=
 ak (hn:=.e) Tryz.func286 h (by kernel_rfl)
def L289(g:Gh)(a0 a1 a2:Value)(H:Hp)(R:Rt):Prop:=
ae .num .add a1 (iv 1) fun v1=>
∃(I2:Jt) (m3:Mt),JE I2 [v1] H∧∀w6:Value,∀H5:Hp,I2 [w6] H5→∀ya:Fr,
ae .num .lss w6 a2 fun v7=>
Br v7 (
∃(I8:Jt) (m9:Mt),JE I8 [w6] H5∧∀eP:Value,∀dX:Hp,I8 [eP] dX→∀qw:Fr,
∀Ad:Jt,(∀gm:Value,∀c6:Hp,(∀rO:Fr,
Br gm (
DR c6 fun R17=>
ae .num .sub eP (iv 1) fun bY=>
ae .num .sub eP (iv 1) fun bK=>
ah 1 a0 bK fun v20=>
Ld R17 v20 fun bX=>
ah 1 a0 eP fun cB=>
Ld R17 cB fun cf=>
ah 1 a0 eP fun cm=>
St 1 c6 cm bX fun dW=>
ah 1 a0 bY fun cG=>
St 1 dW cG cf fun iP=>
ae .num .sub eP (iv 1) fun dx=>
ay I8 m9 [dx] iP [eP] dX) (
ae .num .add w6 (iv 1) fun dw=>
ay I2 m3 [dw] c6 [w6] H5))→Ad [gm] c6)→
DR dX fun R30=>
ae .num .gtr eP a1 fun eJ=>
Br eJ (
ah 1 a0 eP fun dU=>
Ld R30 dU fun e8=>
ae .num .sub eP (iv 1) fun e7=>
ah 1 a0 e7 fun fp=>
Ld R30 fp fun ew=>
∀F37:Hp,
CF (g.add F37) 295 #[e8,ew] dX (fun fB JN=>
aD (Value.bool true) fB (Value.bool false) fun eZ=>
JE Ad [eZ] JN) aU) (
JE Ad [(Value.bool false)] dX)) (
R (.returned (.tuple #[])) H5)
theorem CK(h:L289 g a0 a1 a2 H R):ai Tryz.prog g 289 #[a0,a1,a2] H R:=
 ak (hn:=(.n .e (.n (.h 0 [6] [0,1,2] (.n .e (.n (.n (.n .e (.n (.h 0 [7] [0,1,2,6] (.n (.h 1 [30] [0,1,2,6,7] (.h 1 [] [] (hr 0 [] 0 3 (.h 2 [3] [] (hr 0 [] 4 11 .e) (hr 0 [] 4 10 (.h 3 [14] [] .e .e)))) .e) .e) (.n (.n (.h 0 [0,1,2,3,4,5,6,7,8,9,10,11,12,13,14,15,16,17] [] .e .e) .e) .e)) .e) .e)) .e) .e)) .e) .e))) Tryz.func289 h (by kernel_rfl)
def L290(g:Gh)(a0 a1 a2:Value)(H:Hp)(R:Rt):Prop:=
ae .num .sub a2 a1 fun v1=>
ae .num .sub v1 (iv 1) fun v2=>
ae .num .quo v2 (iv 2) fun v3=>
∃(I4:Jt) (m5:Mt),JE I4 [v3] H∧∀w8:Value,∀H7:Hp,I4 [w8] H7→∀JH:Fr,
ae .num .geq w8 (iv 0) fun v9=>
Br v9 (
CF g 299 #[a0,w8,v1,a1] H7 (fun v10 dX=>
ae .num .sub w8 (iv 1) fun aZ=>
ay I4 m5 [aZ] dX [w8] H7) (au R)) (
ae .num .sub v1 (iv 1) fun bj=>
∃(NG:Jt) (VN:Mt),JE NG [bj] H7∧∀nC:Value,∀fN:Hp,NG [nC] fN→∀T9:Fr,
ae .num .geq nC (iv 0) fun bK=>
Br bK (
DR fN fun Az=>
ae .num .add a1 nC fun bX=>
ae .num .add a1 nC fun cB=>
ah 1 a0 cB fun cf=>
Ld Az cf fun cm=>
ah 1 a0 a1 fun cD=>
Ld Az cD fun cG=>
ah 1 a0 a1 fun cQ=>
St 1 fN cQ cm fun nA=>
ah 1 a0 bX fun dw=>
St 1 nA dw cG fun jj=>
CF g 299 #[a0,(iv 0),nC,a1] jj (fun eJ mV=>
ae .num .sub nC (iv 1) fun e8=>
ay NG VN [e8] mV [nC] fN) (au R)) (
R (.returned (.tuple #[])) fN))
theorem CJ(h:L290 g a0 a1 a2 H R):ai Tryz.prog g 290 #[a0,a1,a2] H R:=
 ak (hn:=(hN 3 (.n (.n .e (.n (.h 0 [9] [0,6,7,8] .e .e) .e)) (.n .e (.n (.h 0 [10] [0,6,7] (.n .e (.n (.n (.n (.h 0 [0,1,2,3,4,5,6,7,8,9,10,11,12,13,14,15,16,17,18,19] [] .e .e) .e) .e) .e)) .e) .e))))) Tryz.func290 h (by kernel_rfl)
def L291(g:Gh)(a0 a1 a2:Value)(H:Hp)(R:Rt):Prop:=
ae .num .sub a2 a1 fun v1=>
ae .num .geq v1 (iv 8) fun v2=>
Br v2 (
bI .u64 v1 fun v3=>
bA H (.cells #[(Value.int .u64 0)] 373 (0,0)) fun b4 H5=>
St 1 H5 (pt b4) v3 fun H6=>
CF g 300 #[v1] H6 (fun v7 H8=>
ae .num .quo v1 (iv 4) fun v9=>
ae .num .mul v9 (iv 2) fun v10=>
ae .num .add a1 v10 fun v11=>
ae .num .sub v11 (iv 1) fun aZ=>
∃(I13:Jt) (m14:Mt),JE I13 [aZ] H8∧∀vn:Value,∀eo:Hp,I13 [vn] eo→∀BV:Fr,
ae .num .quo v1 (iv 4) fun bY=>
ae .num .mul bY (iv 2) fun bK=>
ae .num .add a1 bK fun v20=>
ae .num .add v20 (iv 1) fun bX=>
ae .num .leq vn bX fun cB=>
Br cB (
CF g 301 #[(pt b4)] eo (fun cf iy=>
ae .num .sub v7 (Value.int .u64 1) fun cD=>
ae .num .and cf cD fun cG=>
bI .i64 cG fun cQ=>
∀Ac:Jt,(∀Oz:Value,∀jj:Hp,(∀Xr:Fr,
DR jj fun Uj=>
ae .num .add a1 Oz fun e8=>
ae .num .add a1 Oz fun e7=>
ah 1 a0 e7 fun fp=>
Ld Uj fp fun ew=>
ah 1 a0 vn fun eE=>
Ld Uj eE fun fB=>
ah 1 a0 vn fun fO=>
St 1 jj fO ew fun rD=>
ah 1 a0 e8 fun fo=>
St 1 rD fo fB fun qL=>
ae .num .add vn (iv 1) fun fW=>
ay I13 m14 [fW] qL [vn] eo)→Ac [Oz] jj)→
ae .num .geq cQ v1 fun gi=>
Br gi (
ae .num .sub cQ v1 fun ig=>
JE Ac [ig] iy) (
JE Ac [cQ] iy)) (au R)) (
R (.returned (.tuple #[])) eo)) (au R)) (
R (.returned (.tuple #[])) H)
theorem CI(h:L291 g a0 a1 a2 H R):ai Tryz.prog g 291 #[a0,a1,a2] H R:=
 ak (hn:=(.n .e (.n .e (.n (hN 3 (.n (.h 0 [9] [0,1,6,7,8] (.n .e (.n (.n (.n .e (.h 1 [10] [0,1,6,7,8,9] .e (.h 0 [0,1,2,3,4,5,6,7,8,9,10,11,12,13,14,15,16,17,18,19] [] .e .e))) .e) .e)) .e) .e)) .e)))) Tryz.func291 h (by kernel_rfl)
def L292(g:Gh)(a0 a1 a2:Value)(H:Hp)(R:Rt):Prop:=
ae .num .sub a2 a1 fun v1=>
bA H (.cells #[(iv 0)] 3 (0,0)) fun b2 H3=>
ae .num .quo v1 (iv 4) fun v4=>
ae .num .mul v4 (iv 1) fun v5=>
ae .num .add a1 v5 fun v6=>
ae .num .quo v1 (iv 4) fun v7=>
ae .num .mul v7 (iv 2) fun v8=>
ae .num .add a1 v8 fun v9=>
ae .num .quo v1 (iv 4) fun v10=>
ae .num .mul v10 (iv 3) fun v11=>
ae .num .add a1 v11 fun aZ=>
∀Ad:Jt,(∀gm:Value,∀c6:Hp,(∀rO:Fr,
Ld c6 (pt b2) fun bH=>
ae .num .eql bH (iv 0) fun bY=>
Br bY (
R (.returned (.tuple #[gm,(iv 1)])) c6) (
ae .num .eql bH (iv 12) fun bK=>
Br bK (
R (.returned (.tuple #[gm,(iv 2)])) c6) (
R (.returned (.tuple #[gm,(iv 0)])) c6)))→Ad [gm] c6)→
ae .num .geq v1 (iv 8) fun v20=>
Br v20 (
∀Yd:Jt,(∀Fh sn jl:Value,∀jQ:Hp,(∀Qd:Fr,
CF g 303 #[a0,Fh,sn,jl,(pt b2)] jQ (fun cQ nA=>
JE Ad [cQ] nA) (au R))→Yd [Fh,sn,jl] jQ)→
ae .num .geq v1 (iv 50) fun dw=>
Br dw (
CF g 302 #[a0,v6,(pt b2)] H3 (fun v30 lA=>
CF g 302 #[a0,v9,(pt b2)] lA (fun dU ie=>
CF g 302 #[a0,aZ,(pt b2)] ie (fun e7 jO=>
JE Yd [v30,dU,e7] jO) (au R)) (au R)) (au R)) (
JE Yd [v6,v9,aZ] H3)) (
JE Ad [v9] H3)
theorem CG(h:L292 g a0 a1 a2 H R):ai Tryz.prog g 292 #[a0,a1,a2] H R:=
 ak (hn:=(hN 6 (.h 1 [11] [9] (.n .e (.n (.h 1 [10,11,12] [0,9] .e .e) .e)) .e))) Tryz.func292 h (by kernel_rfl)
def L293(g:Gh)(a0 a1 a2:Value)(H:Hp)(R:Rt):Prop:=
ae .num .sub a2 (iv 1) fun v1=>
∃(I2:Jt) (m3:Mt),JE I2 [a1,v1] H∧∀w6 w7:Value,∀H5:Hp,I2 [w6,w7] H5→∀ya:Fr,
ae .num .lss w6 w7 fun v8=>
Br v8 (
DR H5 fun R9=>
ah 1 a0 w7 fun v10=>
Ld R9 v10 fun v11=>
ah 1 a0 w6 fun aZ=>
Ld R9 aZ fun bj=>
ah 1 a0 w6 fun br=>
St 1 H5 br v11 fun c6=>
ah 1 a0 w7 fun bM=>
St 1 c6 bM bj fun fN=>
ae .num .add w6 (iv 1) fun bY=>
ae .num .sub w7 (iv 1) fun bK=>
ay I2 m3 [bY,bK] fN [w6,w7] H5) (
R (.returned (.tuple #[])) H5)
theorem CE(h:L293 g a0 a1 a2 H R):ai Tryz.prog g 293 #[a0,a1,a2] H R:=
 ak (hn:=(.n .e (.n .e (.n (.h 0 [6,7] [0] (.n .e (.n (.n (.h 0 [0,1,2,3,4,5,6,7,8,9,10,11,12,13,14,15] [] .e .e) .e) .e)) .e) .e)))) Tryz.func293 h (by kernel_rfl)
def L294(g:Gh)(a0 a1 a2:Value)(H:Hp)(R:Rt):Prop:=
ae .num .add a1 (iv 1) fun v1=>
∃(I2:Jt) (m3:Mt),JE I2 [v1,(iv 0)] H∧∀w6 w7:Value,∀H5:Hp,I2 [w6,w7] H5→∀ya:Fr,
ae .num .lss w7 (iv 5) fun v8=>
Br v8 (
∀J9:Jt,(∀eP:Value,∀dX:Hp,(∀qw:Fr,
ae .num .add w7 (iv 1) fun bj=>
ay I2 m3 [eP,bj] dX [w6,w7] H5)→J9 [eP] dX)→
∃(NG:Jt) (VN:Mt),JE NG [w6] H5∧∀nC:Value,∀fN:Hp,NG [nC] fN→∀T9:Fr,
∀Oo:Jt,(∀jz:Value,∀dZ:Hp,(∀HU:Fr,
Br jz (
ae .num .add nC (iv 1) fun cf=>
ay NG VN [cf] dZ [nC] fN) (
ae .num .eql nC a2 fun cm=>
Br cm (
R (.returned (Value.bool true)) dZ) (
ae .num .sub a2 a1 fun cD=>
ae .num .lss cD (iv 50) fun cG=>
Br cG (
R (.returned (Value.bool false)) dZ) (
DR dZ fun QG=>
ae .num .sub nC (iv 1) fun dx=>
ae .num .sub nC (iv 1) fun dw=>
ah 1 a0 dw fun v30=>
Ld QG v30 fun eJ=>
ah 1 a0 nC fun dU=>
Ld QG dU fun e8=>
ah 1 a0 nC fun e7=>
St 1 dZ e7 eJ fun jO=>
ah 1 a0 dx fun ew=>
St 1 jO ew e8 fun rE=>
∀Vg:Jt,(∀rD:Hp,(∀aia:Fr,
ae .num .sub a2 nC fun fo=>
ae .num .geq fo (iv 2) fun gE=>
Br gE (
ae .num .add nC (iv 1) fun fW=>
∃(I44:Jt) (m45:Mt),JE I44 [fW] rD∧∀NT:Value,∀E5:Hp,I44 [NT] E5→∀ah7:Fr,
ae .num .lss NT a2 fun jo=>
Br jo (
DR E5 fun Gl=>
ah 1 a0 NT fun jt=>
Ld Gl jt fun jm=>
ae .num .sub NT (iv 1) fun oL=>
ah 1 a0 oL fun nZ=>
Ld Gl nZ fun lO=>
CF g 295 #[jm,lO] E5 (fun p9 Gs=>
Un .not p9 fun rU=>
Br rU (
JE J9 [nC] Gs) (
DR Gs fun R59=>
ae .num .sub NT (iv 1) fun sr=>
ae .num .sub NT (iv 1) fun wG=>
ah 1 a0 wG fun yh=>
Ld R59 yh fun p8=>
ah 1 a0 NT fun AN=>
Ld R59 AN fun uR=>
ah 1 a0 NT fun sq=>
St 1 Gs sq p8 fun H67=>
ah 1 a0 sr fun vq=>
St 1 H67 vq uR fun Uz=>
ae .num .add NT (iv 1) fun rT=>
ay I44 m45 [rT] Uz [NT] E5)) aU) (
JE J9 [nC] E5)) (
JE J9 [nC] rD))→Vg [] rD)→
ae .num .sub nC a1 fun Ap=>
ae .num .geq Ap (iv 2) fun AL=>
Br AL (
ae .num .sub nC (iv 1) fun Ao=>
∃(I74:Jt) (m75:Mt),JE I74 [Ao] rE∧∀NP:Value,∀Uy:Hp,I74 [NP] Uy→∀ahX:Fr,
ae .num .geq NP (iv 1) fun AK=>
Br AK (
DR Uy fun XR=>
ah 1 a0 NP fun NW=>
Ld XR NW fun GJ=>
ae .num .sub NP (iv 1) fun Si=>
ah 1 a0 Si fun J0=>
Ld XR J0 fun JZ=>
CF g 295 #[GJ,JZ] Uy (fun OF H87=>
Un .not OF fun QW=>
Br QW (
JE Vg [] H87) (
DR H87 fun Ui=>
ae .num .sub NP (iv 1) fun JY=>
ae .num .sub NP (iv 1) fun JX=>
ah 1 a0 JX fun GI=>
Ld Ui GI fun GH=>
ah 1 a0 NP fun Jy=>
Ld Ui Jy fun OD=>
ah 1 a0 NP fun OC=>
St 1 H87 OC GH fun Ye=>
ah 1 a0 JY fun OB=>
St 1 Ye OB OD fun Zr=>
ae .num .sub NP (iv 1) fun SJ=>
ay I74 m75 [SJ] Zr [NP] Uy)) aU) (
JE Vg [] Uy)) (
JE Vg [] rE)))))→Oo [jz] dZ)→
DR fN fun XZ=>
ae .num .lss nC a2 fun AT=>
Br AT (
ah 1 a0 nC fun AS=>
Ld XZ AS fun yj=>
ae .num .sub nC (iv 1) fun Km=>
ah 1 a0 Km fun Kl=>
Ld XZ Kl fun AR=>
∀adN:Hp,
CF (g.add adN) 295 #[yj,AR] fN (fun AQ adD=>
Un .not AQ fun SH=>
aD (Value.bool true) SH (Value.bool false) fun Kj=>
JE Oo [Kj] adD) aU) (
JE Oo [(Value.bool false)] fN)) (
R (.returned (Value.bool false)) H5)
theorem CD(h:L294 g a0 a1 a2 H R):ai Tryz.prog g 294 #[a0,a1,a2] H R:=
 ak (hn:=(.n .e (.n .e (.n (.n .e (.n (.h 0 [7,8] [0,1,2] (.n .e (.h 1 [7] [0,1,2,8] (.n (.n (.n (.h 0 [7] [0,1,2,8] (.n (.h 1 [32] [0,1,2,7,8] (.h 1 [] [] (hr 0 [] 0 3 (.h 2 [3] [] (hr 0 [] 4 12 .e) (hr 0 [] 4 11 (.h 3 [15] [] .e .e)))) .e) .e) .e) .e) .e) (.n .e (.n .e (.n (.h 0 [0,1,2,3,4,5,6,7,8,9,10,11,12,13,14,15,16,17] [] .e .e) (.h 1 [] [0,1,2,7,8] (.n .e (.n (.n .e (.n (.h 0 [9] [0,1,2,7,8] (.n .e (.n (.n (.n (.n (.h 0 [0,1,2,3,4,5,6,7,8,9,10] [] .e .e) .e) (.h 0 [0,1,2,3,4,5,6,7,8,9,10,11,12,13,14,15,16,17] [] .e .e)) .e) .e)) .e) .e)) .e)) (.n .e (.n (.n .e (.n (.h 0 [10] [0,1,2,7,8] (.n .e (.n (.n (.n (.n (.h 0 [0,1,2,3,4,5,6,7,8,9,10] [] .e .e) .e) (.h 0 [0,1,2,3,4,5,6,7,8,9,10,11,12,13,14,15,16,17] [] .e .e)) .e) .e)) .e) .e)) .e))))))) .e) .e)) .e) .e)) .e)))) Tryz.func294 h (by kernel_rfl)
def L295(g:Gh)(a0 a1:Value)(H:Hp)(R:Rt):Prop:=
∀J1:Jt,(∀w4:Value,∀H3:Hp,(∀gs2:Fr,
R (.returned w4) H3)→J1 [w4] H3)→
CF g 304 #[a0] H (fun v5 H6=>
Split v5 true (
CF g 304 #[a1] H6 (fun v7 H8=>
Un .not v7 fun v9=>
aD (Value.bool true) v9 (Value.bool false) fun v10=>
Split v10 false (
ae .num .lss a0 a1 fun v11=>
aD (Value.bool false) (Value.bool true) v11 fun aZ=>
JE J1 [aZ] H8) (
aD (Value.bool true) (Value.bool true) undef fun bj=>
JE J1 [bj] H8)) (au R)) (
aD (Value.bool false) undef (Value.bool false) fun br=>
ae .num .lss a0 a1 fun bB=>
aD br (Value.bool true) bB fun bM=>
JE J1 [bM] H6)) (au R)
theorem CC(h:L295 g a0 a1 H R):ai Tryz.prog g 295 #[a0,a1] H R:=
 ak (hn:=(.n .e (.h 1 [4] [] .e .e))) Tryz.func295 h (by kernel_rfl)
def L296(g:Gh)(a0 a1 a2 a3:Value)(H:Hp)(R:Rt):Prop:=
DR H fun R1=>
ah 1 a0 a3 fun v2=>
Ld R1 v2 fun v3=>
ah 1 a0 a1 fun v4=>
Ld R1 v4 fun v5=>
ah 1 a0 a1 fun v6=>
St 1 H v6 v3 fun H7=>
ah 1 a0 a3 fun v8=>
St 1 H7 v8 v5 fun H9=>
ae .num .add a1 (iv 1) fun v10=>
ae .num .sub a2 (iv 1) fun v11=>
∃(uE:Jt) (Ln:Mt),JE uE [v10,v11] H9∧∀gm vn:Value,∀c6:Hp,uE [gm,vn] c6→∀rO:Fr,
∃(E0:Jt) (Td:Mt),JE E0 [gm] c6∧∀jz:Value,∀dZ:Hp,E0 [jz] dZ→∀HU:Fr,
∀Vh:Jt,(∀jl:Value,∀dW:Hp,(∀Qc:Fr,
Br jl (
ae .num .add jz (iv 1) fun cQ=>
ay E0 Td [cQ] dW [jz] dZ) (
∃(Ut:Jt) (m29:Mt),JE Ut [vn] dW∧∀AG:Value,∀lA:Hp,Ut [AG] lA→∀acv:Fr,
∀JM:Jt,(∀QV:Value,∀jO:Hp,(∀acu:Fr,
Br QV (
ae .num .sub AG (iv 1) fun eE=>
ay Ut m29 [eE] jO [AG] lA) (
ae .num .gtr jz AG fun fB=>
Br fB (
R (.returned jz) jO) (
DR jO fun Ol=>
ah 1 a0 AG fun eZ=>
Ld Ol eZ fun fo=>
ah 1 a0 jz fun gE=>
Ld Ol gE fun fW=>
ah 1 a0 jz fun gi=>
St 1 jO gi fo fun uF=>
ah 1 a0 AG fun iT=>
St 1 uF iT fW fun E5=>
ae .num .add jz (iv 1) fun jT=>
ae .num .sub AG (iv 1) fun jo=>
ay uE Ln [jT,jo] E5 [gm,vn] c6)))→JM [QV] jO)→
DR lA fun Gl=>
ae .num .leq jz AG fun jt=>
Br jt (
ah 1 a0 a1 fun jm=>
Ld Gl jm fun oL=>
ah 1 a0 AG fun nZ=>
Ld Gl nZ fun lO=>
∀F56:Hp,
CF (g.add F56) 295 #[oL,lO] lA (fun rG Yg=>
aD (Value.bool true) rG (Value.bool false) fun AO=>
JE JM [AO] Yg) aU) (
JE JM [(Value.bool false)] lA)))→Vh [jl] dW)→
DR dZ fun R60=>
ae .num .leq jz vn fun wG=>
Br wG (
ah 1 a0 a1 fun yh=>
Ld R60 yh fun p8=>
ah 1 a0 jz fun AN=>
Ld R60 AN fun uR=>
∀F66:Hp,
CF (g.add F66) 295 #[p8,uR] dZ (fun x4 Vl=>
Un .not x4 fun AM=>
aD (Value.bool true) AM (Value.bool false) fun rT=>
JE Vh [rT] Vl) aU) (
JE Vh [(Value.bool false)] dZ)
theorem CB(h:L296 g a0 a1 a2 a3 H R):ai Tryz.prog g 296 #[a0,a1,a2,a3] H R:=
 ak (hn:=(.n .e (.n (.h 0 [0,1,2,3,4,5,6,7,8,9,10,11,12,13,14,15] [] .e .e) (.n .e (.n (.n (.h 0 [9,10] [0,1] (.n (.n (.n (.h 0 [9] [0,1,10] (.n (.h 1 [43] [0,1,9,10] (.h 1 [] [] (hr 0 [] 0 3 (.h 2 [3] [] (hr 0 [] 4 11 .e) (hr 0 [] 4 10 (.h 3 [14] [] .e .e)))) .e) .e) .e) .e) .e) (.n (.n (.h 0 [10] [0,1,9] (.n (.h 1 [59] [0,1,9,10] (.h 1 [] [] (hr 0 [] 0 3 (.h 2 [3] [] (hr 0 [] 4 10 .e) (hr 0 [] 4 9 (.h 3 [13] [] .e .e)))) .e) .e) .e) .e) .e) (.n .e (.n (.h 0 [0,1,2,3,4,5,6,7,8,9,10,11,12,13,14,15] [] .e .e) .e)))) .e) .e) .e) .e))))) Tryz.func296 h (by kernel_rfl)
def L297(g:Gh)(a0 a1 a2 a3:Value)(H:Hp)(R:Rt):Prop:=
DR H fun R1=>
ah 1 a0 a3 fun v2=>
Ld R1 v2 fun v3=>
ah 1 a0 a1 fun v4=>
Ld R1 v4 fun v5=>
ah 1 a0 a1 fun v6=>
St 1 H v6 v3 fun H7=>
ah 1 a0 a3 fun v8=>
St 1 H7 v8 v5 fun H9=>
ae .num .add a1 (iv 1) fun v10=>
ae .num .sub a2 (iv 1) fun v11=>
∃(uE:Jt) (Ln:Mt),JE uE [v10] H9∧∀gm:Value,∀c6:Hp,uE [gm] c6→∀rO:Fr,
∀uD:Jt,(∀oT:Value,∀iz:Hp,(∀MB:Fr,
Br oT (
ae .num .add gm (iv 1) fun bX=>
ay uE Ln [bX] iz [gm] c6) (
∃(EZ:Jt) (Tc:Mt),JE EZ [v11] iz∧∀jl:Value,∀dW:Hp,EZ [jl] dW→∀Qc:Fr,
∀ND:Jt,(∀Ak:Value,∀kD:Hp,(∀acw:Fr,
Br Ak (
ae .num .sub jl (iv 1) fun eJ=>
ay EZ Tc [eJ] kD [jl] dW) (
ae .num .gtr gm jl fun dU=>
Br dU (
DR kD fun R33=>
ah 1 a0 a1 fun e7=>
Ld R33 e7 fun fp=>
ah 1 a0 jl fun ew=>
Ld R33 ew fun eE=>
ah 1 a0 jl fun fB=>
St 1 kD fB fp fun JN=>
ah 1 a0 a1 fun eZ=>
St 1 JN eZ eE fun xW=>
R (.returned (.tuple #[jl,(Value.bool true)])) xW) (
DR kD fun Zm=>
ah 1 a0 jl fun fW=>
Ld Zm fW fun gi=>
ah 1 a0 gm fun ig=>
Ld Zm ig fun iT=>
ah 1 a0 gm fun jU=>
St 1 kD jU gi fun p6=>
ah 1 a0 jl fun jo=>
St 1 p6 jo iT fun xU=>
ae .num .add gm (iv 1) fun jt=>
ae .num .sub jl (iv 1) fun jm=>
∃(I53:Jt) (m54:Mt),JE I53 [jt,jm] xU∧∀Zy Yw:Value,∀Ae:Hp,I53 [Zy,Yw] Ae→∀ah3:Fr,
∃(I59:Jt) (m60:Mt),JE I59 [Zy] Ae∧∀NS:Value,∀E3:Hp,I59 [NS] E3→∀acq:Fr,
∀Vf:Jt,(∀w67:Value,∀Yf:Hp,(∀ah0:Fr,
Br w67 (
ae .num .add NS (iv 1) fun vq=>
ay I59 m60 [vq] Yf [NS] E3) (
∃(I69:Jt) (m70:Mt),JE I69 [Yw] Yf∧∀Jw:Value,∀QK:Hp,I69 [Jw] QK→∀aco:Fr,
∀Ve:Jt,(∀w77:Value,∀Jr:Hp,(∀ahY:Fr,
Br w77 (
ae .num .sub Jw (iv 1) fun OG=>
ay I69 m70 [OG] Jr [Jw] QK) (
ae .num .gtr NS Jw fun AK=>
Br AK (
DR Jr fun XR=>
ah 1 a0 a1 fun NW=>
Ld XR NW fun GJ=>
ah 1 a0 Jw fun Si=>
Ld XR Si fun J0=>
ah 1 a0 Jw fun JZ=>
St 1 Jr JZ GJ fun H86=>
ah 1 a0 a1 fun OE=>
St 1 H86 OE J0 fun Vi=>
R (.returned (.tuple #[Jw,(Value.bool false)])) Vi) (
DR Jr fun Ui=>
ah 1 a0 Jw fun JY=>
Ld Ui JY fun JX=>
ah 1 a0 NS fun GI=>
Ld Ui GI fun GH=>
ah 1 a0 NS fun Jy=>
St 1 Jr Jy JX fun Zs=>
ah 1 a0 Jw fun OC=>
St 1 Zs OC GH fun Ye=>
ae .num .add NS (iv 1) fun OB=>
ae .num .sub Jw (iv 1) fun Sg=>
ay I53 m54 [OB,Sg] Ye [Zy,Yw] Ae)))→Ve [w77] Jr)→
DR QK fun X0=>
ae .num .leq NS Jw fun AU=>
Br AU (
ah 1 a0 Jw fun AT=>
Ld X0 AT fun AS=>
ah 1 a0 a1 fun yj=>
Ld X0 yj fun Km=>
∀adO:Hp,
CF (g.add adO) 295 #[AS,Km] QK (fun AR adE=>
Un .not AR fun AQ=>
aD (Value.bool true) AQ (Value.bool false) fun Kk=>
JE Ve [Kk] adE) aU) (
JE Ve [(Value.bool false)] QK)))→Vf [w67] Yf)→
DR E3 fun XX=>
ae .num .leq NS Yw fun Kj=>
Br Kj (
ah 1 a0 NS fun SG=>
Ld XX SG fun AP=>
ah 1 a0 a1 fun Ki=>
Ld XX Ki fun Kh=>
∀adM:Hp,
CF (g.add adM) 295 #[AP,Kh] E3 (fun SE adA=>
aD (Value.bool true) SE (Value.bool false) fun SD=>
JE Vf [SD] adA) aU) (
JE Vf [(Value.bool false)] E3))))→ND [Ak] kD)→
DR dW fun XW=>
ae .num .leq gm jl fun Kg=>
Br Kg (
ah 1 a0 jl fun GK=>
Ld XW GK fun SB=>
ah 1 a0 a1 fun OI=>
Ld XW OI fun SA=>
∀adL:Hp,
CF (g.add adL) 295 #[SB,SA] dW (fun Kf QN=>
Un .not Kf fun Ke=>
aD (Value.bool true) Ke (Value.bool false) fun Kc=>
JE ND [Kc] QN) aU) (
JE ND [(Value.bool false)] dW)))→uD [oT] iz)→
DR c6 fun XV=>
ae .num .leq gm v11 fun OH=>
Br OH (
ah 1 a0 gm fun Vr=>
Ld XV Vr fun Sy=>
ah 1 a0 a1 fun Sw=>
Ld XV Sw fun Kb=>
∀adK:Hp,
CF (g.add adK) 295 #[Sy,Kb] c6 (fun Su adx=>
aD (Value.bool true) Su (Value.bool false) fun Ss=>
JE uD [Ss] adx) aU) (
JE uD [(Value.bool false)] c6)
theorem Cz(h:L297 g a0 a1 a2 a3 H R):ai Tryz.prog g 297 #[a0,a1,a2,a3] H R:=
 ak (hn:=(.n .e (.n (.h 0 [0,1,2,3,4,5,6,7,8,9,10,11,12,13,14,15] [] .e .e) (.n .e (.n (.n (.h 0 [10] [0,1,11] (.n (.h 1 [43] [0,1,10,11] (.h 1 [] [] (hr 0 [] 0 3 (.h 2 [3] [] (hr 0 [] 4 10 .e) (hr 0 [] 4 9 (.h 3 [13] [] .e .e)))) .e) .e) .e) .e) .e) (.n (.n (.h 0 [11] [0,1,10] (.n (.h 1 [60] [0,1,10,11] (.h 1 [] [] (hr 0 [] 0 3 (.h 2 [3] [] (hr 0 [] 4 11 .e) (hr 0 [] 4 10 (.h 3 [14] [] .e .e)))) .e) .e) .e) .e) .e) (.n (.n .e (.n (.n (.h 0 [0,1,2,3,4,5,6,7,8,9,10,11,12,13,14,15] [] .e .e) .e) .e)) (.n (.h 0 [0,1,2,3,4,5,6,7,8,9,10,11,12,13,14,15] [] .e .e) (.n .e (.n .e (.n (.n (.h 0 [10,11] [0,1] (.n (.n (.n (.h 0 [10] [0,1,11] (.n (.h 1 [112] [0,1,10,11] (.h 1 [] [] (hr 0 [] 0 3 (.h 2 [3] [] (hr 0 [] 4 10 .e) (hr 0 [] 4 9 (.h 3 [13] [] .e .e)))) .e) .e) .e) .e) .e) (.n (.n (.h 0 [11] [0,1,10] (.n (.h 1 [129] [0,1,10,11] (.h 1 [] [] (hr 0 [] 0 3 (.h 2 [3] [] (hr 0 [] 4 11 .e) (hr 0 [] 4 10 (.h 3 [14] [] .e .e)))) .e) .e) .e) .e) .e) (.n .e (.n (.h 0 [0,1,2,3,4,5,6,7,8,9,10,11,12,13,14,15] [] .e .e) .e)))) .e) .e) .e) (.n (.h 0 [0,1,2,3,4,5,6,7,8,9,10,11,12,13,14,15] [] .e .e) .e)))))))))))) Tryz.func297 h (by kernel_rfl)
def L299(g:Gh)(a0 a1 a2 a3:Value)(H:Hp)(R:Rt):Prop:=
∃(I1:Jt) (m2:Mt),JE I1 [a1] H∧∀w5:Value,∀H4:Hp,I1 [w5] H4→∀RT:Fr,
ae .num .mul (iv 2) w5 fun v6=>
ae .num .add v6 (iv 1) fun v7=>
ae .num .geq v7 a2 fun v8=>
Br v8 (
R (.returned (.tuple #[])) H4) (
∀J9:Jt,(∀eP:Value,∀dX:Hp,(∀qw:Fr,
DR dX fun R13=>
ae .num .add a3 w5 fun br=>
ah 1 a0 br fun bB=>
Ld R13 bB fun bM=>
ae .num .add a3 eP fun bH=>
ah 1 a0 bH fun bY=>
Ld R13 bY fun bK=>
CF g 295 #[bM,bK] dX (fun v20 dZ=>
Un .not v20 fun cB=>
Br cB (
R (.returned (.tuple #[])) dZ) (
DR dZ fun RX=>
ae .num .add a3 w5 fun cm=>
ae .num .add a3 eP fun cD=>
ae .num .add a3 eP fun cG=>
ah 1 a0 cG fun cQ=>
Ld RX cQ fun dx=>
ae .num .add a3 w5 fun dw=>
ah 1 a0 dw fun v30=>
Ld RX v30 fun eJ=>
ah 1 a0 cm fun dU=>
St 1 dZ dU dx fun ie=>
ah 1 a0 cD fun e7=>
St 1 ie e7 eJ fun jO=>
ay I1 m2 [eP] jO [w5] H4)) aU)→J9 [eP] dX)→
∀yd:Jt,(∀NU:Value,∀lU:Hp,(∀Xp:Fr,
Br NU (
ae .num .add v7 (iv 1) fun eZ=>
JE J9 [eZ] lU) (
JE J9 [v7] lU))→yd [NU] lU)→
DR H4 fun R41=>
ae .num .add v7 (iv 1) fun gE=>
ae .num .lss gE a2 fun fW=>
Br fW (
ae .num .add a3 v7 fun gi=>
ah 1 a0 gi fun ig=>
Ld R41 ig fun iT=>
ae .num .add a3 v7 fun jU=>
ae .num .add jU (iv 1) fun jT=>
ah 1 a0 jT fun jo=>
Ld R41 jo fun jA=>
∀F51:Hp,
CF (g.add F51) 295 #[iT,jA] H4 (fun jm xS=>
aD (Value.bool true) jm (Value.bool false) fun nZ=>
JE yd [nZ] xS) aU) (
JE yd [(Value.bool false)] H4))
theorem Cy(h:L299 g a0 a1 a2 a3 H R):ai Tryz.prog g 299 #[a0,a1,a2,a3] H R:=
 ak (hn:=(.n .e (.n (.h 0 [8] [0,2,3] (.n (.n .e (.n .e (.h 1 [9] [0,2,3,8] (.h 1 [36] [0,2,3,8,9] (.h 1 [] [] (hr 0 [] 0 4 (.h 2 [4] [] (hr 0 [] 5 15 .e) (hr 0 [] 5 14 (.h 3 [19] [] .e .e)))) .e) .e) (.n (.n (.h 0 [0,1,2,3,4,5,6,7,8,9,10,11,12,13] [] .e .e) .e) (.n (.h 0 [0,1,2,3,4,5,6,7,8,9,10,11,12,13,14,15,16,17,18,19,20,21,22,23] [] .e .e) .e))))) .e) .e) .e))) Tryz.func299 h (by kernel_rfl)
def L300(g:Gh)(a0:Value)(H:Hp)(R:Rt):Prop:=
bI .u64 a0 fun v1=>
CF g 286 #[v1] H (fun v2 H3=>
ae .num .shl (Value.int .u64 1) v2 fun v4=>
R (.returned v4) H3) (au R)
theorem Cw(h:L300 g a0 H R):ai Tryz.prog g 300 #[a0] H R:=
 ak (hn:=.e) Tryz.func300 h (by kernel_rfl)
def L301(g:Gh)(a0:Value)(H:Hp)(R:Rt):Prop:=
DR H fun R1=>
Nil a0 fun v2=>
Ld R1 v2 fun v3=>
Nil a0 fun v4=>
Ld R1 v4 fun v5=>
ae .num .shl v5 (Value.int .u64 13) fun v6=>
ae .num .xor v3 v6 fun v7=>
Nil a0 fun v8=>
St 1 H v8 v7 fun H9=>
DR H9 fun X1=>
Nil a0 fun v11=>
Ld X1 v11 fun aZ=>
Nil a0 fun bj=>
Ld X1 bj fun br=>
ae .num .shr br (Value.int .u64 7) fun bB=>
ae .num .xor aZ bB fun bM=>
Nil a0 fun bH=>
St 1 H9 bH bM fun dN=>
DR dN fun ud=>
Nil a0 fun v20=>
Ld ud v20 fun bX=>
Nil a0 fun cB=>
Ld ud cB fun cf=>
ae .num .shl cf (Value.int .u64 17) fun cm=>
ae .num .xor bX cm fun cD=>
Nil a0 fun cG=>
St 1 dN cG cD fun iP=>
Nil a0 fun dx=>
Ld iP dx fun dw=>
R (.returned dw) iP
theorem Cv(h:L301 g a0 H R):ai Tryz.prog g 301 #[a0] H R:=
 ak (hn:=(.n .e (.n (.h 0 [0,1,2,3,4,5,6,7,8,9] [] .e .e) (.n (.h 0 [0,1,2,3,4,5,6,7,8,9] [] .e .e) (.n (.h 0 [0,1,2,3,4,5,6,7,8,9] [] .e .e) .e))))) Tryz.func301 h (by kernel_rfl)
def L302(g:Gh)(a0 a1 a2:Value)(H:Hp)(R:Rt):Prop:=
ae .num .sub a1 (iv 1) fun v1=>
ae .num .add a1 (iv 1) fun v2=>
CF g 303 #[a0,v1,a1,v2,a2] H (fun v3 H4=>
R (.returned v3) H4) (au R)
theorem Cu(h:L302 g a0 a1 a2 H R):ai Tryz.prog g 302 #[a0,a1,a2] H R:=
 ak (hn:=.e) Tryz.func302 h (by kernel_rfl)
def L303(g:Gh)(a0 a1 a2 a3 a4:Value)(H:Hp)(R:Rt):Prop:=
CF g 305 #[a0,a1,a2,a4] H (fun v1 H2=>
Ext 0 v1 fun v3=>
Ext 1 v1 fun v4=>
CF g 305 #[a0,v4,a3,a4] H2 (fun v5 H6=>
Ext 0 v5 fun v7=>
Ext 1 v5 fun v8=>
CF g 305 #[a0,v3,v7,a4] H6 (fun v9 dG=>
Ext 0 v9 fun v11=>
Ext 1 v9 fun aZ=>
R (.returned aZ) dG) (au R)) (au R)) (au R)
theorem Cr(h:L303 g a0 a1 a2 a3 a4 H R):ai Tryz.prog g 303 #[a0,a1,a2,a3,a4] H R:=
 ak (hn:=.e) Tryz.func303 h (by kernel_rfl)
def L304(g:Gh)(a0:Value)(H:Hp)(R:Rt):Prop:=
ae .num .neq a0 a0 fun v1=>
R (.returned v1) H
theorem Cq(h:L304 g a0 H R):ai Tryz.prog g 304 #[a0] H R:=
 ak (hn:=.e) Tryz.func304 h (by kernel_rfl)
def L305(g:Gh)(a0 a1 a2 a3:Value)(H:Hp)(R:Rt):Prop:=
DR H fun R1=>
ah 1 a0 a2 fun v2=>
Ld R1 v2 fun v3=>
ah 1 a0 a1 fun v4=>
Ld R1 v4 fun v5=>
CF g 295 #[v3,v5] H (fun v6 H7=>
Br v6 (
Nil a3 fun v8=>
Ld H7 v8 fun v9=>
ae .num .add v9 (iv 1) fun v10=>
Nil a3 fun v11=>
St 1 H7 v11 v10 fun fA=>
R (.returned (.tuple #[a2,a1])) fA) (
R (.returned (.tuple #[a1,a2])) H7)) aU
theorem Cp(h:L305 g a0 a1 a2 a3 H R):ai Tryz.prog g 305 #[a0,a1,a2,a3] H R:=
 ak (hn:=(.n .e (.n (.n (.h 0 [0,1,2,3,4,5,6,7,8] [] .e .e) .e) .e))) Tryz.func305 h (by kernel_rfl)
theorem eU{B:Hp}{s:Value}{n:Int}{K:Value→Hp→Prop}(h:∀b,K (.slice (some ⟨b,0,none⟩) 1 1) ((b,.cells #[.int .i64 n,s] 57 (0,0))::B)):
  ax Tryz.prog 28 1 [(0,.agg #[.int .i64 n,s])] B K:=
 ax.one (r:=[.int .i64 n,s]) (e:=57) (k:=2) (z:=.agg #[.int .i64 0,.slice none 0 0]) (by kernel_rfl) (by kernel_rfl) (by kernel_rfl) (by decide) rfl h
theorem sU{G:Nat→Nat}{W:Nat}:((List.range W).map fun k=>if k<W then G k else 0)=(List.range W).map G:=by
 apply List.map_congr_left
 intro k hk
 rw[if_pos (List.mem_range.1 hk)]
theorem fM{n:Nat}{ws:List Nat}(h:aj.cw n ws):ws.length≤4294967296:=by have:=h.len;have:=aj.qO h.lD;omega
theorem aB{B:Hp}{s:Value}{ws:List Nat}(h:Words B s ws):s.oneCell'=true:=by obtain⟨a,c,rfl,_⟩:=h.1.shape;rfl
theorem vE{G:Nat→Nat}{W i:Nat}(hi:i<W):(iw ((List.range W).map fun k=>if k<i then G k else 0)).set i ((G i:Nat):Int)=iw ((List.range W).map fun k=>if k<i+1 then G k else 0):=by
 apply List.ext_getElem?
 intro j
 unfold iw
 by_cases e:i=j
 ·subst e;simp[hi]
 ·rw[List.getElem?_set_ne e]
  by_cases hj:j<W
  ·simp only[List.getElem?_map,List.getElem?_range hj,Option.map_some]
   by_cases h2:j<i
   ·rw[if_pos h2,if_pos (by omega)]
   ·rw[if_neg h2,if_neg (by omega)]
  ·rw[List.getElem?_eq_none (by simp;omega),List.getElem?_eq_none (by simp;omega)]
theorem range_zero{G:Nat→Nat}{W:Nat}:List.replicate W (0:Int)=iw ((List.range W).map fun k=>if k<0 then G k else 0):=by
 apply List.ext_getElem?
 intro j
 unfold iw
 by_cases hj:j<W
 ·simp[hj]
 ·rw[List.getElem?_eq_none (by simp;omega),List.getElem?_eq_none (by simp;omega)]
theorem gA{n:Nat}(hn:n≤16):aj.wN n≤9223372036854775807∧aj.wN n*8≤281474976710656:=by have:=aj.qO hn;omega
end Go.Proofs
