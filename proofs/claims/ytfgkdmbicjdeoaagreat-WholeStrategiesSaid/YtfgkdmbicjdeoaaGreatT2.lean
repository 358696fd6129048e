import Derived.Test.YtfgkdmbicjdeoaaGreatT1
import Derived.ChangeKeysEq
import Derived.Laws.StructEq
import Derived.Defers
import Derived.Test.YtfgkdmbicjdeoaaGreatProg
set_option linter.unusedVariables false
set_option linter.unusedSimpArgs false
set_option linter.unusedSectionVars false
namespace aj
def jg(w:Nat):List UInt8:=(List.range 8).map fun i=>UInt8.ofNat (w>>>(8*i))
def fT(ws:List Nat):List UInt8:=ws.flatMap jg
theorem eW(w:Nat):(jg w).length=8:=by simp[jg]
theorem qO:∀l:List Nat,(fT l).length=8*l.length
 | []=>rfl
 |x::l=>by rw[fT,List.flatMap_cons,List.length_append,eW];have:=qO l;unfold fT at this;rw[this,List.length_cons];omega
theorem B6{a b:Nat}(ha:a<18446744073709551616)(hb:b<18446744073709551616)(h:jg a=jg b):a=b:=by
 apply Nat.eq_of_testBit_eq
 intro j
 by_cases hj:j<64
 ·have hi:j/8<8:=by omega
  have h1:=congrArg (fun l=>l[j/8]?) h
  simp only[jg,List.getElem?_map,List.getElem?_range hi,Option.map_some,Option.some.injEq]at h1
  have h2:=congrArg UInt8.toNat h1
  simp only[UInt8.toNat_ofNat']at h2
  have h3:=congrArg (fun x=>x.testBit (j%8)) h2
  simp only[Nat.testBit_mod_two_pow,Nat.testBit_shiftRight]at h3
  rw[show 8*(j/8)+j%8=j by omega]at h3
  have:decide (j%8<8)=true:=by simp;omega
  simpa[this]using h3
 ·rw[Nat.testBit_lt_two_pow (Nat.lt_of_lt_of_le ha (Nat.pow_le_pow_right (n:=2) (by decide) (by omega:64≤j))),Nat.testBit_lt_two_pow (Nat.lt_of_lt_of_le hb (Nat.pow_le_pow_right (n:=2) (by decide) (by omega:64≤j)))]
theorem y8:∀{a b:List Nat},(∀w∈a,w<18446744073709551616)→(∀w∈b,w<18446744073709551616)→fT a=fT b→a=b
 | [],[],_,_,_=>rfl
 | [],y::b,_,_,h=>by have:=congrArg List.length h;simp[fT,eW]at this;omega
 |x::a,[],_,_,h=>by have:=congrArg List.length h;simp[fT,eW]at this
 |x::a,y::b,ha,hb,h=>by
  simp only[fT,List.flatMap_cons]at h
  obtain⟨h1,h2⟩:=List.append_inj h (by rw[eW,eW])
  rw[B6 (ha x (by simp)) (hb y (by simp)) h1,y8 (fun w hw=>ha w (by simp[hw])) (fun w hw=>hb w (by simp[hw])) h2]
theorem dh.key_inj{n:Nat}{a b:List Nat}(ha:dh n a)(hb:dh n b)(h:fT a=fT b):a=b:=y8 (fun w hw=>ha.lt hw) (fun w hw=>hb.lt hw) h
abbrev Fs:=List (List Nat)
def add(l:Fs)(t:List Nat):Fs:=if t∈l then l else l++[t]
def ik(L:Fs):Fs:=L.foldl add []
def given(n:Nat)(l:Fs)(v:Nat):Fs:=l.foldl (fun acc t=>add (add acc (eV n t v false)) (eV n t v true)) []
def nodes(n:Nat)(l:Fs)(v:Nat):Fs:=l.filter fun t=>dep n t v
def st(n:Nat)(L:Fs)(A:Nat):Nat→Fs
 |0=>ik L
 |k+1=>if A.testBit k then given n (st n L A k) k else st n L A k
def lvl(n:Nat)(L:Fs)(A v:Nat):Nat:=(nodes n (st n L A n) v).length
theorem xd{l:Fs}{t x:List Nat}:x∈add l t↔x∈l∨x=t:=by
 unfold add
 split
 ·constructor
  ·exact .inl
  ·rintro(h|rfl)<;>assumption
 ·simp
theorem qA{l:Fs}{t:List Nat}(h:l.Nodup):(add l t).Nodup:=by
 unfold add
 split
 ·exact h
 ·rename_i hn
  rw[List.nodup_append]
  exact⟨h,by simp,fun a ha b hb=>by simp at hb;subst hb;rintro rfl;exact hn ha⟩
theorem jd{α:Type}(f:α→Fs→Fs)(g:α→List Nat→Prop)(hf:∀a l x,x∈f a l↔x∈l∨g a x):∀(L:List α) (acc:Fs) (x:List Nat),x∈L.foldl (fun acc a=>f a acc) acc↔x∈acc∨∃a∈L,g a x
 | [],acc,x=>by simp
 |a::L,acc,x=>by
  rw[List.foldl_cons,jd f g hf L,hf]
  simp only[List.mem_cons,exists_eq_or_imp,or_assoc]
theorem gI{α:Type}(f:α→Fs→Fs)(hf:∀a l,l.Nodup→(f a l).Nodup):∀(L:List α) (acc:Fs),acc.Nodup→(L.foldl (fun acc a=>f a acc) acc).Nodup
 | [],acc,h=>h
 |a::L,acc,h=>gI f hf L _ (hf a acc h)
theorem dU{L:Fs}{x:List Nat}:x∈ik L↔x∈L:=by
 unfold ik
 have:=jd (fun a l=>add l a) (fun a x=>x=a) (fun a l x=>xd) L [] x
 rw[this];simp
theorem j3(L:Fs):(ik L).Nodup:=gI (fun a l=>add l a) (fun a l h=>qA h) L [] (by simp)
theorem bL{n v:Nat}{l:Fs}{x:List Nat}:x∈given n l v↔∃t∈l,∃b,x=eV n t v b:=by
 unfold given
 have:=jd (fun t acc=>add (add acc (eV n t v false)) (eV n t v true)) (fun t x=>∃b,x=eV n t v b) (fun t l x=>by
  rw[xd,xd]
  constructor
  ·rintro((h|h)|h)
   ·exact .inl h
   ·exact .inr ⟨false,h⟩
   ·exact .inr ⟨true,h⟩
  ·rintro(h|⟨b,h⟩)
   ·exact .inl (.inl h)
   ·cases b
    ·exact .inl (.inr h)
    ·exact .inr h) l [] x
 rw[this];simp
theorem mh(n:Nat)(l:Fs)(v:Nat):(given n l v).Nodup:=gI (fun t acc=>add (add acc (eV n t v false)) (eV n t v true)) (fun a l h=>qA (qA h)) l [] (by simp)
theorem lB(n:Nat)(L:Fs)(A:Nat):∀k,(st n L A k).Nodup
 |0=>j3 L
 |k+1=>by
  rw[st];split
  ·exact mh _ _ _
  ·exact lB n L A k
theorem ew{a b:Fs}(ha:a.Nodup)(hb:b.Nodup)(h:∀x,x∈a↔x∈b):a.Perm b:=(List.perm_ext_iff_of_nodup ha hb).2 h
theorem iz{n v:Nat}{a b:Fs}(h:a.Perm b):(nodes n a v).length=(nodes n b v).length:=(h.filter _).length_eq
theorem A3{n:Nat}{L:Fs}{A:Nat}(hL:∀t∈L,dh n t)(hn:n≤16):∀k,∀t∈st n L A k,dh n t
 |0,t,h=>hL t (dU.1 h)
 |k+1,t,h=>by
  rw[st]at h
  split at h
  ·obtain⟨u,_,b,rfl⟩:=bL.1 h;exact cy hn
  ·exact A3 hL hn k t h
theorem gh(l:Fs)(t:List Nat):(add l t).length≤l.length+1:=by unfold add;split<;>simp
theorem dr{α:Type}(f:α→Fs→Fs)(c:Nat)(hf:∀a l,(f a l).length≤l.length+c):∀(L:List α) (acc:Fs),(L.foldl (fun acc a=>f a acc) acc).length≤acc.length+c*L.length
 | [],acc=>by simp
 |a::L,acc=>by
  have h1:=dr f c hf L (f a acc)
  have h2:=hf a acc
  rw[List.foldl_cons,List.length_cons,Nat.mul_succ];omega
theorem pY(n:Nat)(L:Fs)(A:Nat):∀k,(st n L A k).length≤2^k*L.length
 |0=>by have:=dr (fun a l=>add l a) 1 (fun a l=>gh l a) L [];simpa[st,ik]using this
 |k+1=>by
  have ih:=pY n L A k
  rw[st,Nat.pow_succ]
  split
  ·have h:=dr (fun t acc=>add (add acc (eV n t k false)) (eV n t k true)) 2 (fun a l=>by have h1:=gh (add l (eV n a k false)) (eV n a k true);have h2:=gh l (eV n a k false);omega) (st n L A k) []
   have h':(given n (st n L A k) k).length≤2*(st n L A k).length:=by simpa[given]using h
   have:2*(st n L A k).length≤2*(2^k*L.length):=Nat.mul_le_mul_left _ ih
   rw[Nat.mul_comm (2^k) 2,Nat.mul_assoc];omega
  ·have:2^k*L.length≤2^k*2*L.length:=Nat.mul_le_mul_right _ (by omega)
   omega
def js(n:Nat)(ws:List Nat):Nat→Nat
 |0=>0
 |v+1=>if dep n ws v then js n ws v|||2^v else js n ws v
def nX(n:Nat)(ws:List Nat):Nat:=js n ws n
theorem gm(n:Nat)(ws:List Nat)(u:Nat):∀k,(js n ws k).testBit u=(decide (u<k) &&dep n ws u)
 |0=>by simp[js]
 |v+1=>by
  rw[js]
  by_cases e:u=v
  ·subst e
   split
   ·rename_i h;rw[Nat.testBit_or,Nat.testBit_two_pow_self];simp[h]
   ·rename_i h;rw[gm n ws u u];simp[h]
  ·have h1:decide (u<v+1)=decide (u<v):=by simp;omega
   rw[h1]
   split
   ·rw[Nat.testBit_or,Nat.testBit_two_pow,gm n ws u v];simp[Ne.symm e]
   ·exact gm n ws u v
theorem lz(n:Nat)(ws:List Nat):∀k,js n ws k<2^k
 |0=>by simp[js]
 |v+1=>by
  have h1:=lz n ws v
  have h2:2^v<2^(v+1):=Nat.pow_lt_pow_right (by decide) (by omega)
  rw[js];split
  ·exact Nat.or_lt_two_pow (by omega) h2
  ·omega
theorem xO(A u:Nat):(A>>>u&&&1=1)↔A.testBit u=true:=by
 rw[dY,Nat.testBit_shiftRight,Nat.add_zero];cases A.testBit u<;>simp
end aj
namespace Go.Sx
open Go
section
variable {P:Program} {H:Hp}
theorem aq.int{t e:Nat}{kd:IntKind}{x:Int}{K:Value→Hp→Prop}(h1:P.underlying t=some (.slice e))(h2:cU P e=some 1)(h3:dR P e=some (.int kd 0))
 (h:∀b,K (.slice (some ⟨b,0,none⟩) 1 1) ((b,.cells (ax kd [x]) e (0,0))::H)):aq P t 1 [(0,.int kd x)] H K:=by
 refine⟨ax kd [x],e,1,_,h1,h2,h3,by decide,?_,fun b _=>h b⟩
 have e1:Array.range 1=#[0]:=rfl
 simp[Instr.fill,Value.cells,ax,e1]
theorem aq.none{t e k:Nat}{z:Value}{K:Value→Hp→Prop}(h1:P.underlying t=some (.slice e))(h2:cU P e=some k)(h3:dR P e=some z)
 (h:∀b,K (.slice (some ⟨b,0,none⟩) 0 0) ((b,.cells #[] e (0,0))::H)):aq P t 0 [] H K:=by
 refine⟨_,e,k,z,h1,h2,h3,by simp,rfl,fun b _=>?_⟩
 have:((Array.range (0*k)).map fun i=>z.cells[i%z.cells.size]!)=#[]:=by simp
 rw[this];exact h b
def pO(T:TypeId)(v:Value)(ts:List Tb)(C B:Hp):Prop:=∃rs,aO T 2 v rs C∧jT (xV B) rs ts
theorem pO.nil{T:TypeId}{B:Hp}:pO T (.slice none 0 0) [] [] B:=⟨[],aO.nil _ _,jT.nil⟩
theorem pO.mono{T:TypeId}{v:Value}{ts:List Tb}{C B B':Hp}(h:pO T v ts C B)(hs:∀x∈B,x∈B'):pO T v ts C B':=let ⟨rs,h1,h2⟩:=h;⟨rs,h1,h2.mono fun _ _ h=>h.mono hs⟩
theorem pO.Xq{T:TypeId}{v:Value}{ts:List Tb}{C B B':Hp}(h:pO T v ts C B)(hc:∀x∈C,x∈B')(hb:∀x∈B,x∈B'):dZ B' v ts:=by
 obtain⟨rs,h1,h2⟩:=h;exact⟨rs,(Sl.kM h1 (by decide)).mono hc,h2.mono fun _ _ h=>h.mono hb⟩
theorem pO.app{T:TypeId}{v:Value}{ts:List Tb}{C B0 A B:Hp}(h:pO T v ts C B0){xb xc:Nat}{t:Tb}{s:Value}{xT:TypeId}{fz:Nat×Nat}(hx:(xb,Obj.cells #[.int .i64 t.n,s] xT fz)∈A++(C++B))(hw:Words B0 s t.ws)
 (hl:ts.length<4398046511103){K:Value→Hp→Prop}(hk:∀v' C',pO T v' (ts++[t]) C' B0→K v' (A++(C'++B))):App P T 2 32 (.agg #[.int .i64 0,.slice none 0 0]) (A++(C++B)) v (.slice (some ⟨xb,0,none⟩) 1 xc) K:=by
 obtain⟨rs,h1,h2⟩:=h
 have hs:s.oneCell'=true:=by obtain⟨a,c,rfl,_⟩:=hw.1.shape;rfl
 have pT:=h2.1
 refine h1.Ce (r:=[.int .i64 t.n,s]) hx rfl (fun u hu=>by simp only[List.mem_cons,List.not_mem_nil,or_false]at hu;rcases hu with rfl|rfl;rfl;exact hs) ⟨[.int .i64 0,.slice none 0 0],rfl,rfl⟩ (by omega) (by omega) fun v' C' ho=>hk v' C' ⟨_,ho,h2.snoc ⟨s,rfl,hw⟩⟩
def qv(l:List UInt8):List (List Value):=l.map fun b=>[Value.int .u8 b.toNat]
theorem G4(l:List UInt8):rows (qv l)=(l.map fun b=>Value.int .u8 b.toNat).toArray:=by
 unfold rows qv
 congr 1
 induction l with
 |nil=>rfl
 |cons b r ih=>simp[ih]
theorem ji.own{T:TypeId}{v:Value}{l:List UInt8}{C:Hp}(h:aO T 1 v (qv l) C)(hs:∀x∈C,x∈H){K:Value→Prop}(hk:K (.string ⟨l.toArray⟩)):ji H v K:=by
 obtain⟨a,cap,h1,h2⟩:=((Sl.kM h (by decide)).mono hs).cells
 refine⟨a,_,cap,l,h1,?_,by simp[qv],hk⟩
 rw[G4,Nat.mul_one]at h2;exact h2
def wM(l:List UInt8):Value:=.string ⟨l.toArray⟩
theorem si(a b:List UInt8):((⟨a.toArray⟩:ByteArray)==⟨b.toArray⟩)=decide (a=b):=by
 rw[beq_toListBytes,ByteArray.toList_eq,ByteArray.toList_eq]
 simp only[List.toList_toArray]
 rw[Bool.eq_iff_iff];simp
theorem JQ(a b:List UInt8):Instr.sameNow .string (wM a) (wM b)=some (decide (a=b)):=by
 show some _=some _
 rw[si]
theorem GS(a:List UInt8):Instr.sameBits 10000 (wM a) (wM a)=true:=by
 show((⟨a.toArray⟩:ByteArray)==⟨a.toArray⟩)=true
 rw[si];simp
theorem aa.T6{a b:List UInt8}{k:Value→Prop}(h:k (.bool (decide (a≠b)))):aa .str .neq (wM a) (wM b) k:=by
 refine⟨_,rfl,?_⟩
 have:(!((⟨a.toArray⟩:ByteArray).toList==(⟨b.toArray⟩:ByteArray).toList))=decide (a≠b):=by
  rw[←beq_toListBytes,si];simp
 rw[this];exact h
def eZ(n:Nat)(B:Hp)(es:Array MapEntry)(ck:Nat)(m:List (List UInt8×List Nat)):Prop:=
 aN wM (fun v ws=>AO B v ⟨n,ws⟩) es ck m∧∀x∈m,x.1=aj.fT x.2∧aj.dh n x.2
theorem eZ.mono{n:Nat}{B B':Hp}{es:Array MapEntry}{ck:Nat}{m:List (List UInt8×List Nat)}(h:eZ n B es ck m)(hs:∀x∈B,x∈B'):eZ n B' es ck m:=⟨h.1.mono fun _ _ h=>h.mono hs,h.2⟩
theorem eZ.empty(n:Nat)(B:Hp):eZ n B #[] 0 []:=⟨aN.empty,by simp⟩
def wH(m:List (List UInt8×List Nat))(ws:List Nat):List (List UInt8×List Nat):=fm m (aj.fT ws) ws
theorem eZ.nodup{n:Nat}{B:Hp}{es:Array MapEntry}{ck:Nat}{m:List (List UInt8×List Nat)}(h:eZ n B es ck m):(m.map Prod.snd).Nodup:=by
 have h1:=h.1.nd
 have e:m.map Prod.fst=(m.map Prod.snd).map aj.fT:=by
  rw[List.map_map];apply List.map_congr_left;intro x hx;exact(h.2 x hx).1
 rw[e]at h1
 exact List.Pairwise.of_map aj.fT (fun a b hne e=>hne (by rw[e])) h1
theorem pW{n:Nat}{m:List (List UInt8×List Nat)}{ws:List Nat}(hm:∀x∈m,x.1=aj.fT x.2∧aj.dh n x.2)(hf:aj.dh n ws):∀x,x∈(wH m ws).map Prod.snd↔x∈m.map Prod.snd∨x=ws:=by
 intro x
 unfold wH fm
 split
 ·rename_i hk
  obtain⟨y,hy,hky⟩:=List.mem_map.1 hk
  have hyw:y.2=ws:=(hm y hy).2.key_inj hf (by rw[←(hm y hy).1,hky])
  have:(m.map fun y=>if y.1=aj.fT ws then(aj.fT ws,ws)else y)=m:=by
   conv=>rhs;rw[←List.map_id m]
   apply List.map_congr_left
   intro z hz
   split
   ·rename_i Z9
    have:z.2=ws:=(hm z hz).2.key_inj hf (by rw[←(hm z hz).1,Z9])
    simp only[id];rw[←Z9,←this]
   ·rfl
  rw[this]
  constructor
  ·exact .inl
  ·rintro(h|rfl)
   ·exact h
   ·exact List.mem_map.2 ⟨y,hy,hyw⟩
 ·simp
theorem NA{n:Nat}{m:List (List UInt8×List Nat)}{ws:List Nat}(hm:∀x∈m,x.1=aj.fT x.2∧aj.dh n x.2)(hf:aj.dh n ws):∀x∈wH m ws,x.1=aj.fT x.2∧aj.dh n x.2:=by
 intro x hx
 unfold wH fm at hx
 split at hx
 ·obtain⟨y,hy,rfl⟩:=List.mem_map.1 hx
  split
  ·exact⟨rfl,hf⟩
  ·exact hm y hy
 ·rcases List.mem_append.1 hx with hx|hx
  ·exact hm x hx
  ·simp at hx;subst hx;exact⟨rfl,hf⟩
theorem eZ.bS{n:Nat}{B:Hp}{es:Array MapEntry}{ck b:Nat}{m:List (List UInt8×List Nat)}{ws:List Nat}{val:Value}{K:Hp→Prop}(h:eZ n B es ck m)(hv:AO B val ⟨n,ws⟩)(hf:aj.dh n ws)
 (h1:∀es' ca,eZ n B es' ca (wH m ws)→∃H',cD b (.map es ck) (.map es' ca) H H'∧K H'):ei .string H (.map (some b)) (wM (aj.fT ws)) val K:=
 aN.bS JQ GS h.1 hv fun es' ca he=>h1 es' ca ⟨he,NA h.2 hf⟩
end
end Go.Sx
namespace Go.Sx
open Go
section
variable {P:Program} {g:Gh} {H:Hp}
theorem aO.apps{elem k bytes:Nat}{zero:Value}{v:Value}{rs:List (List Value)}{C A B:Hp}(h:aO elem k v rs C){xa:Option Addr}{xc:Nat}{r2:List (List Value)}
 (hx:Cells (A++(C++B)) xa (r2.length*k) (rows r2))(hr:∀r∈r2,r.length=k)(h1:∀r∈r2,∀u∈r,u.oneCell'=true)(hz:∃z:List Value,zero.cells=z.toArray∧z.length=k)
 (hb:(rs.length+r2.length)*bytes≤140737488355328)(bH:rs.length+r2.length≤9223372036854775807){K:Value→Hp→Prop}
 (hk:∀v' C',aO elem k v' (rs++r2) C'→K v' (A++(C'++B))):App P elem k bytes zero (A++(C++B)) v (.slice xa r2.length xc) K:=by
 obtain⟨z,Ux,OB⟩:=hz
 have hnone:∀u∈(rows r2).toList,u.oneCell'=true:=by
  intro u hu
  simp only[rows,List.mem_flatten]at hu
  obtain⟨r,h2,h3⟩:=hu
  exact h1 r h2 u h3
 rcases h with⟨rfl,rfl,rfl⟩|⟨b,aJ,rfl,rfl,aE⟩
 ·refine⟨none,0,0,xa,r2.length,xc,#[],rows r2,rfl,rfl,rfl,hx,bF hr,by simp,hnone,fun h=>?_,fun _=>⟨by simpa using hb,by simpa using bH,fun fk hn b YK=>?_⟩⟩
  ·have:r2=[]:=List.eq_nil_of_length_eq_zero (by omega)
   subst this
   exact hk _ [] (.inl ⟨rfl,rfl,rfl⟩)
  ·rw[show(#[]:Array Value)++rows r2++Builtin.zeroCells zero.cells (fk-(0+r2.length))=rows ([]++r2++List.replicate (fk-r2.length) z)by rw[Ux,oO z OB];simp only[Nat.zero_add,Array.empty_append,List.nil_append];rw[dy]]
   refine⟨_,aM.P1 [(b,_)] A B,hk _ [(b,_)] (.inr ⟨b,List.replicate (fk-r2.length) z,?_,rfl,?_⟩)⟩
   ·simp;omega
   ·intro x hx
    rcases List.mem_append.1 hx with hx|hx
    ·exact hr x hx
    ·rw[List.eq_of_mem_replicate hx,OB]
 ·have hsz:=bF aE
  have nM:∀x∈rs,x.length=k:=fun x hx=>aE x (by simp[hx])
  have hold:rows rs=(rows (rs++aJ)).extract 0 (0+rs.length*k):=by
   rw[←dy]
   apply Array.ext'
   have:=bF nM
   have h2:(rows rs).toList.length=rs.length*k:=by rw[Array.length_toList];exact this
   rw[Array.toList_extract,Array.toList_append,List.extract_eq_take_drop,List.drop_zero,Nat.zero_add,Nat.sub_zero,←h2,List.take_left]
  refine⟨some ⟨b,0,none⟩,rs.length,rs.length+aJ.length,xa,r2.length,xc,rows rs,rows r2,rfl,rfl,.inr ⟨rfl,_,elem,(0,0),by simp,?_,hold⟩,hx,bF hr,bF nM,hnone,fun hfit=>?_,fun hgrow=>⟨hb,by omega,fun fk hn b' YK=>?_⟩⟩
  ·rw[hsz];simp only[List.length_append,Nat.zero_add];exact Nat.mul_le_mul_right _ (by omega)
  ·obtain⟨j1,j2,rfl,hj⟩:∃j1 j2,aJ=j1++j2∧j1.length=r2.length:=⟨aJ.take r2.length,aJ.drop r2.length,(List.take_append_drop _ _).symm,by rw[List.length_take];omega⟩
   have Vw:∀x∈j1,x.length=k:=fun x hx=>aE x (by simp[hx])
   refine⟨_,elem,_,rfl,?_,((cD.head _).append B).bO A,hk _ [(b,_)] (.inr ⟨b,j2,?_,?_,?_⟩)⟩
   ·rw[hsz,List.length_append,List.length_append,hj,Nat.add_mul,Nat.add_mul]
    show 0+rs.length*k+r2.length*k≤_
    omega
   ·simp;omega
   ·have e:(⟨b,0,none⟩:Addr).off+rs.length*k=rs.length*k:=by simp
    have l1:=cJ rs nM
    have l2:=cJ j1 Vw
    have l3:=cJ r2 hr
    have e2:iy (rows (rs++(j1++j2))) (rs.length*k) (rows r2).toList=rows (rs++r2++j2):=by
     unfold rows
     rw[List.flatten_append,List.flatten_append,List.toList_toArray,oZ _ _ _ (by rw[List.length_append,List.length_append,l1,l2,l3,hj];omega)]
     congr 1
     rw[List.flatten_append,List.flatten_append,←l1,List.take_left,l3,←hj,←l2,List.drop_append,←List.append_assoc]
     simp[List.drop_append]
    rw[e,e2]
   ·intro x hx
    simp only[List.append_assoc,List.mem_append]at hx
    rcases hx with hx|hx|hx
    ·exact nM x hx
    ·exact hr x hx
    ·exact aE x (by simp[hx])
  ·refine⟨A++([(b',_)]++B),?_,hk _ [(b',_)] (.inr ⟨b',List.replicate (fk-(rs.length+r2.length)) z,?_,rfl,?_⟩)⟩
   ·rw[Ux,oO z OB,dy,dy]
    exact fun g w h=>(aM.T9 [[_],A,[_],B] [[_],A,[_],B] ((List.perm_append_comm (l₁:=[_,A]) (l₂:=[_])).append_right [B]|>.trans (.cons _ (.swap _ _ _))) g w h).tail
   ·simp;omega
   ·intro x hx
    rcases List.mem_append.1 hx with hx|hx
    ·rcases List.mem_append.1 hx with hx|hx
     ·exact nM x hx
     ·exact hr x hx
    ·rw[List.eq_of_mem_replicate hx,OB]
def aK(T:TypeId)(kd:IntKind)(v:Value)(l:List Int)(C:Hp):Prop:=aO T 1 v (l.map fun n=>[Value.int kd n]) C
theorem aK.nil{T:TypeId}{kd:IntKind}:aK T kd (.slice none 0 0) [] []:=aO.nil _ _
theorem aK.bc{T:TypeId}{kd:IntKind}{v:Value}{l:List Int}{C:Hp}(h:aK T kd v l C){K:Value→Prop}(hk:K (.int .i64 l.length)):aF v K:=aO.bc h (by simpa using hk)
theorem aK.ints{T:TypeId}{kd:IntKind}{v:Value}{l:List Int}{C:Hp}(h:aK T kd v l C):cS kd C v l:=Sl.kM h (by decide)
theorem aK.app{T:TypeId}{kd:IntKind}{v:Value}{l:List Int}{C A B:Hp}{bytes:Nat}(h:aK T kd v l C){xb xc:Nat}{x:Int}{xT:TypeId}{fz:Nat×Nat}(hx:(xb,Obj.cells (ax kd [x]) xT fz)∈A++(C++B))
 (hb:(l.length+1)*bytes≤140737488355328)(hm:l.length+1≤9223372036854775807){K:Value→Hp→Prop}(hk:∀v' C',aK T kd v' (l++[x]) C'→K v' (A++(C'++B))):App P T 1 bytes (.int kd 0) (A++(C++B)) v (.slice (some ⟨xb,0,none⟩) 1 xc) K:=
 aO.Ce (r:=[.int kd x]) h hx rfl (by simp[Value.oneCell']) ⟨[.int kd 0],rfl,rfl⟩ (by simpa using hb) (by simpa using hm) fun v' C' ho=>hk v' C' (by unfold aK;simpa using ho)
theorem aK.apps{T:TypeId}{kd:IntKind}{v x:Value}{l l2:List Int}{C A B:Hp}{bytes:Nat}(h:aK T kd v l C)(hx:cS kd (A++(C++B)) x l2)
 (hb:(l.length+l2.length)*bytes≤140737488355328)(hm:l.length+l2.length≤9223372036854775807){K:Value→Hp→Prop}(hk:∀v' C',aK T kd v' (l++l2) C'→K v' (A++(C'++B))):App P T 1 bytes (.int kd 0) (A++(C++B)) v x K:=by
 obtain⟨a,cap,rfl,hc⟩:=Sl.cells hx
 exact aO.apps h hc (by simp) (by simp[Value.oneCell']) ⟨[.int kd 0],rfl,rfl⟩ (by simpa using hb) (by simpa using hm) fun v' C' ho=>hk v' C' (by unfold aK;rw[List.map_append];exact ho)
theorem aq.Uv{t e:Nat}{kd:IntKind}{x y z:Int}{K:Value→Hp→Prop}(h1:P.underlying t=some (.slice e))(h2:cU P e=some 1)(h3:dR P e=some (.int kd 0))
 (h:∀b,K (.slice (some ⟨b,0,Option.none⟩) 3 3) ((b,.cells (ax kd [x,y,z]) e (0,0))::H)):aq P t 3 [(0,.int kd x),(1,.int kd y),(2,.int kd z)] H K:=by
 refine⟨ax kd [x,y,z],e,1,_,h1,h2,h3,by decide,?_,fun b _=>h b⟩
 have e1:Array.range (3*1)=#[0,1,2]:=rfl
 simp[Instr.fill,Value.cells,ax,e1]
end
end Go.Sx
namespace Go.Sx
open Go
section
variable {P:Program}
theorem z9{e:TypeId}{i:TypeInfo}(hi:P.info? e=some i)(hs:i.size=1):P.cellsOf e=1:=by simp[Program.cellsOf,hi,hs]
theorem oY{e:TypeId}{q:IntKind}(hu:P.underlying e=some (.int q)){l:List Int}{j:Nat}{x:Int}(h:l[j]? =some x)(w:World):(part e (ax q l) j).run P w=.ok (.int q x) w:=by
 simp[part,isAgg,run_underlying hu,ax,h]
theorem pH{e:TypeId}{q:IntKind}(hu:P.underlying e=some (.int q))(hc:P.cellsOf e=1)(d:Nat)(l l':List Int)(w:World):∀is:List Nat,(∀i∈is,i<l.length∧i<l'.length)→
  (Op.eqItems (d+1) e (P.cellsOf e) (ax q l) (ax q l') is).run P w=.ok (is.all fun i=>l[i]? ==l'[i]?) w
 | [],_=>by simp[Op.eqItems]
 |i::is,h=>by
  obtain⟨h1,h2⟩:=h i (by simp)
  have g1:l[i]? =some l[i]:=List.getElem?_eq_getElem h1
  have g2:l'[i]? =some l'[i]:=List.getElem?_eq_getElem h2
  have p1:=oY (P:=P) hu g1 w
  have p2:=oY (P:=P) hu g2 w
  have p3:(Op.equalIn (d+1) e (.int q l[i]) (.int q l'[i])).run P w=.ok (l[i]==l'[i]) w:=by
   simp only[Op.equalIn,Sem.run_bind,run_underlying hu,Result.andThen_ok,if_true,Sem.run_pure]
  have ih:=pH hu hc d l l' w is fun j hj=>h j (by simp[hj])
  simp only[Op.eqItems,hc,Nat.mul_one,Sem.run_bind,p1,p2,p3,Result.andThen_ok]at ih⊢
  rw[List.all_cons,g1,g2]
  cases hb:(l[i]==l'[i])
  ·simp[hb]
  ·simp[hb,ih]
theorem xY.array{t e:TypeId}{q:IntKind}{n:Nat}(ht:P.underlying t=some (.array n e))(hu:P.underlying e=some (.int q))(hz:cU P e=some 1)(l l':List Int)(h1:l.length=n)(h2:l'.length=n):
  xY P t (.agg (ax q l)) (.agg (ax q l')) (decide (l=l')):=by
 obtain⟨i,hi,hs⟩:=bg hz
 have hc:=z9 hi hs
 intro w
 show(Op.equalIn (9998+1+1) t _ _).run P w=_
 rw[run_equalIn_array w (9998+1) _ _ ht hi,pH hu hc 9998 l l' w _ (fun j hj=>by have:=List.mem_range.1 hj;omega)]
 congr 1
 rw[Bool.eq_iff_iff]
 simp only[List.all_eq_true,List.mem_range,decide_eq_true_eq,beq_iff_eq]
 constructor
 ·intro h
  apply List.ext_getElem?
  intro j
  by_cases hj:j<n
  ·exact h j hj
  ·rw[List.getElem?_eq_none (by omega),List.getElem?_eq_none (by omega)]
 ·rintro rfl j _;rfl
theorem jW.array{t e:TypeId}{q:IntKind}{n:Nat}(ht:P.underlying t=some (.array n e))(hu:P.underlying e=some (.int q))(hz:cU P e=some 1)(l:List Int)(h1:l.length=n):jW P t (.agg (ax q l)):=by
 obtain⟨i,hi,hs⟩:=bg hz
 intro b w
 have gen:∀d,(Instr.checkKey b (d+1+1) t (.agg (ax q l))).run P w=.ok () w:=by
  intro d
  have p2:∀x:Int,(Instr.checkKey b (d+1) e (.int q x)).run P w=.ok () w:=fun x=>by
   simp only[Instr.checkKey,Sem.run_bind,run_underlying hu,Result.andThen_ok,Sem.run_pure]
  unfold Instr.checkKey
  simp only[Sem.run_bind,run_underlying ht,Result.andThen_ok]
  simp only[Std.Legacy.Range.forIn_eq_forIn_range',Std.Legacy.Range.size,Nat.sub_zero,Nat.add_one_sub_one,Nat.div_one]
  have key:∀is:List Nat,(∀j∈is,j<l.length)→(forIn is PUnit.unit fun j (_:PUnit)=>(do
     Instr.checkKey b (d+1) e (←part e (ax q l) (j*(←sizeOf e)))
     pure (ForInStep.yield PUnit.unit):Sem (ForInStep PUnit))).run P w=.ok PUnit.unit w:=by
   intro is
   induction is with
   |nil=>intro _;simp
   |cons j is ih=>
    intro h
    have p1:=oY (P:=P) hu (List.getElem?_eq_getElem (h j (by simp))) w
    simp only[List.forIn_cons,Sem.run_bind,run_sizeOf hi,Result.andThen_ok,hs,Nat.mul_one,p1,p2,Sem.run_pure]
    exact ih fun k hk=>h k (by simp[hk])
  have:=key (List.range' 0 n) (fun j hj=>by have:=List.mem_range'_1.1 hj;omega)
  rw[this];rfl
 exact gen 9998
theorem Build.two{t e:TypeId}{q:IntKind}{x y:Int}{K:Value→Prop}(ht:P.underlying t=some (.array 2 e))(hz:cU P e=some 1)(h0:dR P t=some (.agg (ax q [0,0])))(h:K (.agg (ax q [x,y]))):
  Build P t [(0,.int q x),(1,.int q y)] K:=by
 refine⟨_,fun w=>?_,h⟩
 obtain⟨i,hi,hs⟩:=bg hz
 obtain⟨i0,BH,M6⟩:=cc h0
 simp only[Instr.build,Sem.run_bind,dj BH M6,Result.andThen_ok,run_underlying ht,run_sizeOf hi,hs]
 simp[Instr.fill,Value.cells,ax]
end
end Go.Sx
namespace Go.Sx
open Go
section
variable {P:Program} {g:Gh} {H:Hp}
def tN(P:Program)(t:TypeId)(x y:Value):Prop:=
 (∃q a b,P.underlying t=some (.int q)∧x=.int q a∧y=.int q b)∨(∃a b,P.underlying t=some .bool∧x=.bool a∧y=.bool b)
theorem tN.eq{t:TypeId}{x y:Value}(h:tN P t x y)(d:Nat)(w:World):∃b,(Op.equalIn (d+1) t x y).run P w=.ok b w∧(b=true↔x=y):=by
 rcases h with⟨q,a,b,hu,rfl,rfl⟩|⟨a,b,hu,rfl,rfl⟩
 ·exact⟨a==b,by simp[Op.equalIn,run_underlying hu],by simp⟩
 ·exact⟨a==b,by simp[Op.equalIn,run_underlying hu],by simp⟩
theorem oo{t:TypeId}{xs:Array Value}{o:Nat}{x:Value}(hu:(∃q,P.underlying t=some (.int q))∨P.underlying t=some .bool)(h:xs[o]? =some x)(w:World):(part t xs o).run P w=.ok x w:=by
 rcases hu with⟨q,hu⟩|hu<;>simp[part,isAgg,run_underlying hu,h]
theorem nP(d:Nat)(xs ys:Array Value)(w:World):∀fs:List Field,(∀f∈fs,f.name≠ "_" ∧∃x y,xs[f.offset]? =some x∧ys[f.offset]? =some y∧tN P f.type x y)→
  ∃b,(Op.eqFields (d+1) xs ys fs).run P w=.ok b w∧(b=true↔∀f∈fs,xs[f.offset]? =ys[f.offset]?)
 | [],_=>⟨true,by simp[Op.eqFields],by simp⟩
 |f::fs,h=>by
  obtain⟨hn,x,y,hx,hy,hp⟩:=h f (by simp)
  obtain⟨b',ih,hb'⟩:=nP d xs ys w fs fun g hg=>h g (by simp[hg])
  have hu:(∃q,P.underlying f.type=some (.int q))∨P.underlying f.type=some .bool:=by
   rcases hp with⟨q,_,_,hu,_⟩|⟨_,_,hu,_⟩
   ·exact .inl ⟨q,hu⟩
   ·exact .inr hu
  obtain⟨b,hr,hb⟩:=hp.eq d w
  have p1:=oo hu hx w
  have p2:=oo hu hy w
  cases b with
  |false=>
   refine⟨false,by simp[Op.eqFields,hn,p1,p2,hr],?_⟩
   simp only[Bool.false_eq_true,List.mem_cons,forall_eq_or_imp,false_iff,hx,hy,Option.some.injEq]
   exact fun hh=>absurd (hb.2 hh.1) (by decide)
  |true=>
   refine⟨b',by simp[Op.eqFields,hn,p1,p2,hr,ih],?_⟩
   rw[hb']
   simp only[List.mem_cons,forall_eq_or_imp,hx,hy,Option.some.injEq,hb.1 rfl,true_and]
theorem xY.flat{t:TypeId}{fs:Array Field}(ht:P.underlying t=some (.struct fs))(hp:P.stoodInHeld t=false){xs ys:Array Value}{p:Prop}[Decidable p]
 (h:∀f∈fs.toList,f.name≠ "_" ∧∃x y,xs[f.offset]? =some x∧ys[f.offset]? =some y∧tN P f.type x y)(he:(∀f∈fs.toList,xs[f.offset]? =ys[f.offset]?)↔p):xY P t (.agg xs) (.agg ys) (decide p):=by
 have e:P.fieldsOf t=fs:=by simp[Program.fieldsOf,ht]
 intro w
 show(Op.equalIn (9998+1+1) t _ _).run P w=_
 rw[run_equalIn_struct w (9998+1) t xs ys (by rw[e];exact ht) hp,e]
 obtain⟨b,hr,hb⟩:=nP (P:=P) 9998 xs ys w fs.toList h
 rw[hr]
 congr 1
 rw[Bool.eq_iff_iff,hb,he,decide_eq_true_eq]
theorem jW.flat{t:TypeId}{fs:Array Field}(ht:P.underlying t=some (.struct fs)){xs:Array Value}
 (h:∀f∈fs.toList,f.name≠ "_" ∧∃x,xs[f.offset]? =some x∧tN P f.type x x):jW P t (.agg xs):=by
 intro b w
 have gen:∀d,(Instr.checkKey b (d+1+1) t (.agg xs)).run P w=.ok () w:=by
  intro d
  unfold Instr.checkKey
  simp only[Sem.run_bind,run_underlying ht,Result.andThen_ok]
  rw[←Array.forIn_toList]
  clear ht
  generalize fs.toList=l at h
  induction l with
  |nil=>simp
  |cons f l ih=>
   obtain⟨hn,x,hx,hp⟩:=h f (by simp)
   have hu:(∃q,P.underlying f.type=some (.int q))∨P.underlying f.type=some .bool:=by
    rcases hp with⟨q,_,_,hu,_⟩|⟨_,_,hu,_⟩
    ·exact .inl ⟨q,hu⟩
    ·exact .inr hu
   have p1:=oo hu hx w
   have p2:(Instr.checkKey b (d+1) f.type x).run P w=.ok () w:=by
    rcases hp with⟨q,a,_,hu,rfl,_⟩|⟨a,_,hu,rfl,_⟩
    ·simp only[Instr.checkKey,Sem.run_bind,run_underlying hu,Result.andThen_ok,Sem.run_pure]
    ·simp only[Instr.checkKey,Sem.run_bind,run_underlying hu,Result.andThen_ok,Sem.run_pure]
   have:=ih fun g hg=>h g (by simp[hg])
   simp only[List.forIn_cons,Sem.run_bind]
   simp[hn,p1,p2]
   simpa using this
 exact gen 9998
theorem iZ(n:Nat){xs:Array Value}(h:∀x∈xs.toList,(∃q a,x=.int q a)∨∃a,x=.bool a):Instr.sameBits (n+1+1) (.agg xs) (.agg xs)=true:=by
 simp only[Instr.sameBits,beq_self_eq_true,Bool.true_and,List.all_eq_true]
 intro x hx
 obtain⟨a,b⟩:=x
 have h1:=List.of_mem_zip hx
 have e:a=b:=by
  obtain⟨i,hi,he⟩:=List.mem_iff_getElem.1 hx
  simp at he
  exact he.1.symm.trans he.2
 subst e
 rcases h a h1.1 with⟨q,z,rfl⟩|⟨z,rfl⟩<;>simp[Instr.sameBits]
end
section
variable {κ:Type} [DecidableEq κ] {β:Type} {ke:κ→Value} {vr:Value→β→Prop} {es:Array MapEntry} {ck b:Nat} {m:List (κ×β)} {P:Program} {H:Hp}
def ov(m:List (κ×β))(k:κ):List (κ×β):=m.filter fun y=>¬y.1=k
theorem vg{k k':κ}:cR (ov m k) k'=if k'=k then none else cR m k':=by
 unfold cR ov
 rw[List.find?_filter]
 by_cases e:k'=k
 ·rw[if_pos e]
  rw[List.find?_eq_none.2]
  ·rfl
  ·intro x _;simp;intro h1 h2;exact h1 (h2.trans e)
 ·rw[if_neg e]
  congr 1
  congr 1
  funext y
  by_cases e2:y.1=k'
  ·have:¬y.1=k:=fun e3=>e (e2.symm.trans e3)
   simp[e2,this,e]
  ·simp[e2]
theorem fy{k k':κ}{x:β}:cR (fm m k x) k'=if k'=k then some x else cR m k':=by
 unfold cR fm
 by_cases hk:k∈m.map Prod.fst
 ·rw[if_pos hk]
  by_cases e:k'=k
  ·subst e
   rw[if_pos rfl]
   induction m with
   |nil=>simp at hk
   |cons y m ih=>
    rw[List.map_cons,List.find?_cons]
    by_cases ey:y.1=k'
    ·simp[ey]
    ·rw[if_neg ey]
     simp only[ey,decide_false]
     rw[ih]
     rw[List.map_cons]at hk
     rcases List.mem_cons.1 hk with h|h
     ·exact absurd h.symm ey
     ·simpa using h
  ·rw[if_neg e]
   have:∀l:List (κ×β),(List.find? (fun y=>decide (y.1=k')) (l.map fun y=>if y.1=k then(k,x)else y)).map Prod.snd=(List.find? (fun y=>decide (y.1=k')) l).map Prod.snd:=by
    intro l
    induction l with
    |nil=>rfl
    |cons y l ih=>
     rw[List.map_cons,List.find?_cons,List.find?_cons]
     by_cases ey:y.1=k
     ·have h1:decide (k=k')=false:=by simpa using fun h=>e h.symm
      have h2:decide (y.1=k')=false:=by rw[ey];exact h1
      simp only[if_pos ey,h1,h2]
      exact ih
     ·simp only[if_neg ey]
      cases decide (y.1=k')with
      |true=>rfl
      |false=>exact ih
   exact this m
 ·rw[if_neg hk]
  rw[List.find?_append]
  by_cases e:k'=k
  ·subst e
   have:List.find? (fun y=>decide (y.1=k')) m=none:=by
    rw[List.find?_eq_none];intro y hy;simp;intro h;exact hk (List.mem_map.2 ⟨y,hy,h⟩)
   simp[this]
  ·have:¬k=k':=fun h=>e h.symm
   rw[if_neg e]
   cases List.find? (fun y=>decide (y.1=k')) m<;>simp[this]
theorem sL(nd:(m.map Prod.fst).Nodup){i:Nat}{k:κ}{y:β}(hi:m[i]? =some (k,y)):ov m k=m.eraseIdx i:=by
 unfold ov
 induction m generalizing i with
 |nil=>simp at hi
 |cons z m ih=>
  rw[List.map_cons,List.nodup_cons]at nd
  cases i with
  |zero=>
   simp at hi;subst hi
   rw[List.eraseIdx_cons_zero,List.filter_cons_of_neg (by simp)]
   rw[List.filter_eq_self]
   intro w hw
   simp only[decide_not,Bool.not_eq_true',decide_eq_false_iff_not]
   intro e
   exact nd.1 (List.mem_map.2 ⟨w,hw,e⟩)
  |succ i=>
   simp at hi
   have hz:¬z.1=k:=fun e=>nd.1 (List.mem_map.2 ⟨_,List.mem_of_getElem? hi,e.symm⟩)
   rw[List.eraseIdx_cons_succ,List.filter_cons_of_pos (by simpa using hz),ih nd.2 hi]
omit [DecidableEq κ] in
theorem aN.less(h:aN ke vr es ck m)(i:Nat):aN ke vr (es.eraseIdxIfInBounds i) ck (m.eraseIdx i):=by
 have hl:(es.eraseIdxIfInBounds i).toList=es.toList.eraseIdx i:=by
  unfold Array.eraseIdxIfInBounds
  split
  ·simp
  ·rename_i hh;rw[List.eraseIdx_of_length_le (by simpa using hh)]
 refine⟨?_,fun j e x he hx=>?_,?_,?_,fun e he=>?_⟩
 ·have:=congrArg List.length hl
  rw[Array.length_toList,List.length_eraseIdx]at this
  rw[this,List.length_eraseIdx,Array.length_toList,h.len]
 ·rw[←Array.getElem?_toList,hl,List.getElem?_eraseIdx]at he
  rw[List.getElem?_eraseIdx]at hx
  split at he
  ·rename_i hh;rw[if_pos hh]at hx;exact h.key j e x (by simpa using he) hx
  ·rename_i hh;rw[if_neg hh]at hx;exact h.key (j+1) e x (by simpa using he) hx
 ·rw[←fO];exact h.nd.sublist (List.eraseIdx_sublist _ _)
 ·rw[hl,←fO];exact h.born.sublist (List.eraseIdx_sublist _ _)
 ·rw[hl]at he;exact h.lt e (List.mem_of_mem_eraseIdx he)
theorem aN.Zx{P:Program}{kt:TypeId}{k:κ}{K:Hp→Prop}(hk:∀a b,xY P kt (ke a) (ke b) (decide (a=b)))(hc:∀a,jW P kt (ke a))(h:aN ke vr es ck m)(hm:(b,Obj.map es ck)∈H)
 (h1:∀es',aN ke vr es' ck (ov m k)→∃H',cD b (.map es ck) (.map es' ck) H H'∧K H'):pR P kt H (.map (some b)) (ke k) K:=by
 refine⟨hc k,.inr ?_⟩
 rcases h.zO hk k with⟨i,y,e,g1,g2,g3,g4⟩|⟨g1,g2⟩
 ·refine⟨b,es,ck,_,rfl,g4,?_⟩
  have:=h.less i
  rw[←sL h.nd g2]at this
  exact h1 _ this
 ·refine⟨b,es,ck,_,rfl,g2,hm,?_⟩
  have e:ov m k=m:=by
   unfold ov
   rw[List.filter_eq_self]
   intro w hw
   simp only[decide_not,Bool.not_eq_true',decide_eq_false_iff_not]
   intro e
   exact g1 (List.mem_map.2 ⟨w,hw,e⟩)
  obtain⟨H',hu,hK⟩:=h1 es (by rw[e];exact h)
  have:∀{H H':Hp},cD b (.map es ck) (.map es ck) H H'→H'=H:=by
   intro H H' hu
   generalize ho:Obj.map es ck=o at hu
   induction hu with
   |head R=>rfl
   |tail _ ih=>rw[ih]
  rw[this hu]at hK;exact hK
end
section
variable {P:Program} {H:Hp}
theorem aO.y5{T:TypeId}{k:Nat}{v:Value}{rs:List (List Value)}{C:Hp}(hs:aO T k v rs C){i:Nat}{kd:IntKind}{r:List Value}(hr:rs[i]? =some r)(hC:∀y∈C,y∈H){K:Value→Prop}(hk:K (.agg r.toArray)):
  an k v (.int kd (i:Int)) fun p=>av k H p K:=by
 have hi:=(List.getElem?_eq_some_iff.1 hr).1
 obtain⟨b',aJ,rfl,rfl,aE⟩:=hs.pos (by omega)
 exact an.nat hi (av.row (hC _ (List.Mem.head _)) aE (by rw[List.getElem?_append_left hi];exact hr) hk)
theorem aO.RC{T:TypeId}{k:Nat}{v x:Value}{rs:List (List Value)}{C:Hp}(hs:aO T k v rs C){i j:Nat}{kd:IntKind}{r:List Value}(hr:rs[i]? =some r)(hj:r[j]? =some x)(hC:∀y∈C,y∈H){K:Value→Prop}(hk:K x):
  an k v (.int kd (i:Int)) fun p=>ag j p fun q=>Ld H q K:=by
 have hi:=(List.getElem?_eq_some_iff.1 hr).1
 obtain⟨b',aJ,rfl,rfl,aE⟩:=hs.pos (by omega)
 exact an.nat hi (ag.mk (Ld.row (hC _ (List.Mem.head _)) aE (by rw[List.getElem?_append_left hi];exact hr) hj hk))
theorem aO.Qb{T:TypeId}{v x:Value}{rs:List (List Value)}{C:Hp}(hs:aO T 1 v rs C){i:Nat}{kd:IntKind}(hr:rs[i]? =some [x])(hC:∀y∈C,y∈H){K:Value→Prop}(hk:K x):
  an 1 v (.int kd (i:Int)) fun p=>Ld H p K:=by
 have hi:=(List.getElem?_eq_some_iff.1 hr).1
 obtain⟨b',aJ,rfl,rfl,aE⟩:=hs.pos (by omega)
 exact an.nat hi (Ld.Ub (l:=rs++aJ) (hC _ (List.Mem.head _)) aE (by rw[List.getElem?_append_left hi];exact hr) hk)
theorem aO.RB{T:TypeId}{k n:Nat}{v:Value}{rs:List (List Value)}{C:Hp}(hs:aO T k v rs C){i:Nat}{kd:IntKind}{r:List Value}(hr:rs[i]? =some r)(hn:0<n∧n≤k)(hC:∀y∈C,y∈H){K:Value→Prop}(hk:K (.agg (r.take n).toArray)):
  an k v (.int kd (i:Int)) fun p=>ag 0 p fun q=>av n H q K:=by
 have hi:=(List.getElem?_eq_some_iff.1 hr).1
 obtain⟨b',aJ,rfl,rfl,aE⟩:=hs.pos (by omega)
 have pT:r.length=k:=aE r (List.mem_append_left _ (List.mem_of_getElem? hr))
 refine an.nat hi (ag.mk ?_)
 have x9:At H (.pointer (some ⟨b',0+i*k+0,none⟩)) (r.take n):=⟨b',_,_,_,_,rfl,hC _ (List.Mem.head _),fun j x hj=>by
  have Nh:j<n:=by have:=(List.getElem?_eq_some_iff.1 hj).1;simp at this;omega
  rw[List.getElem?_take,if_pos Nh]at hj
  rw[Nat.add_zero,Nat.zero_add,gp aE (by omega),List.getElem?_append_left hi,hr];exact hj⟩
 exact av.at x9 (by simp;omega) hn.1 (fun _ h=>h) hk
theorem G2{k:Nat}{l:List (List Value)}(h:∀r∈l,r.length=k){i:Nat}{r xs:List Value}(hi:l[i]? =some r)(hx:xs.length≤k):iy (rows l) (i*k) xs=rows (l.set i (xs++r.drop xs.length)):=by
 have hlt:=(List.getElem?_eq_some_iff.1 hi).1
 have hr:=h r (List.mem_of_getElem? hi)
 have key:∀(xs:List Value) (j:Nat) (l:List (List Value)) (r:List Value),(∀r∈l,r.length=k)→l[i]? =some r→j+xs.length≤k→iy (rows l) (i*k+j) xs=rows (l.set i (r.take j++xs++r.drop (j+xs.length))):=by
  intro xs
  induction xs with
  |nil=>
   intro j l r h hi _
   have hlt:=(List.getElem?_eq_some_iff.1 hi).1
   simp only[iy,List.append_nil,List.length_nil,Nat.add_zero,List.take_append_drop]
   congr 1
   apply List.ext_getElem?
   intro m
   rw[List.getElem?_set]
   by_cases e:i=m
   ·subst e;rw[if_pos rfl,hi,if_pos hlt]
   ·rw[if_neg e]
  |cons x xs ih=>
   intro j l r h hi hj
   have hr:=h r (List.mem_of_getElem? hi)
   have hlt:=(List.getElem?_eq_some_iff.1 hi).1
   simp only[List.length_cons]at hj
   rw[iy,nH h hi (by omega),Nat.add_assoc]
   rw[ih (j+1) (l.set i (r.set j x)) (r.set j x) (fun y hy=>by
    rcases List.mem_or_eq_of_mem_set hy with hy|rfl
    ·exact h y hy
    ·simpa using hr) (by simp[hlt]) (by omega)]
   rw[List.set_set]
   congr 2
   have e1:(r.set j x).take (j+1)=r.take j++[x]:=by
    rw[List.set_eq_take_append_cons_drop,if_pos (by omega),List.take_append]
    simp[List.take_take,show min (j+1) j=j by omega,show j+1-min j r.length=1 by omega]
   have e2:(r.set j x).drop (j+1+xs.length)=r.drop (j+(x::xs).length):=by
    rw[List.drop_set,if_pos (by omega)]
    congr 1
    simp;omega
   rw[e1,e2]
   simp
 have:=key xs 0 l r h hi (by omega)
 simpa using this
theorem aO.NW{T:TypeId}{k n:Nat}{v:Value}{rs:List (List Value)}{C A B:Hp}(hs:aO T k v rs C){i:Nat}{kd:IntKind}{r xs:List Value}(hr:rs[i]? =some r)(hx:xs.length=n∧n≤k)(h1:∀x∈xs,x.oneCell'=true){K:Hp→Prop}
 (hk:∀C',aO T k v (rs.set i (xs++r.drop n)) C'→K (A++(C'++B))):an k v (.int kd (i:Int)) fun p=>ag 0 p fun q=>St n (A++(C++B)) q (.agg xs.toArray) K:=by
 have hi:=(List.getElem?_eq_some_iff.1 hr).1
 obtain⟨b',aJ,rfl,rfl,aE⟩:=hs.pos (by omega)
 refine an.nat hi (ag.mk ?_)
 have hg:(rs++aJ)[i]? =some r:=by rw[List.getElem?_append_left hi];exact hr
 have e:(rs++aJ).set i (xs++r.drop xs.length)=rs.set i (xs++r.drop n)++aJ:=by rw[List.set_append_left _ _ hi,hx.1]
 refine St.mk (c':=rows (rs.set i (xs++r.drop n)++aJ)) (H':=A++([(b',.cells (rows (rs.set i (xs++r.drop n)++aJ)) T (0,0))]++B)) (((cD.head _).append B).bO A) (by simpa[Value.cells]using hx.1) ?_ (by simpa[Value.cells]using h1) ?_ ?_
 ·rw[bF aE,Nat.zero_add,Nat.add_zero,List.length_append]
  have:=Nat.mul_le_mul_right k (Nat.succ_le_of_lt hi)
  rw[Nat.succ_mul]at this
  have h2:rs.length*k≤(rs.length+aJ.length)*k:=Nat.mul_le_mul_right k (by omega)
  omega
 ·simp only[Value.cells,Nat.zero_add,Nat.add_zero]
  rw[G2 aE hg (by omega),e]
 ·have pT:r.length=k:=aE r (List.mem_append_left _ (List.mem_of_getElem? hr))
  refine hk _ (aO.mk' (aJ:=aJ) (fun y hy=>?_) (by simp) (by simp))
  rcases List.mem_append.1 hy with hy|hy
  ·rcases List.mem_or_eq_of_mem_set hy with hy|rfl
   ·exact aE y (List.mem_append_left _ hy)
   ·simp;omega
  ·exact aE y (List.mem_append_right _ hy)
theorem aO.Ba{T:TypeId}{k:Nat}{v:Value}{rs:List (List Value)}{C A B:Hp}(hs:aO T k v rs C){i:Nat}{kd:IntKind}{xs:List Value}(hi:i<rs.length)(hx:xs.length=k)(h1:∀x∈xs,x.oneCell'=true){K:Hp→Prop}
 (hk:∀C',aO T k v (rs.set i xs) C'→K (A++(C'++B))):an k v (.int kd (i:Int)) fun p=>St k (A++(C++B)) p (.agg xs.toArray) K:=by
 obtain⟨b',aJ,rfl,rfl,aE⟩:=hs.pos (by omega)
 refine an.nat hi (St.row (l:=rs++aJ) (((cD.head _).append B).bO A) aE (by simp;omega) hx h1 ?_)
 have e:(rs++aJ).set i xs=rs.set i xs++aJ:=by rw[List.set_append_left _ _ hi]
 rw[e]
 refine hk [(b',_)] (aO.mk' (aJ:=aJ) (fun y hy=>?_) (by simp) (by simp))
 rcases List.mem_append.1 hy with hy|hy
 ·rcases List.mem_or_eq_of_mem_set hy with hy|rfl
  ·exact aE y (List.mem_append_left _ hy)
  ·exact hx
 ·exact aE y (List.mem_append_right _ hy)
theorem aK.ld{T:TypeId}{kd uE:IntKind}{v:Value}{l:List Int}{C:Hp}(hs:aK T kd v l C){i:Nat}{x:Int}(hx:l[i]? =some x)(hC:∀y∈C,y∈H){K:Value→Prop}(hk:K (.int kd x)):an 1 v (.int uE (i:Int)) fun p=>Ld H p K:=
 aO.Qb hs (x:=.int kd x) (by simp[hx]) hC hk
theorem aK.put{T:TypeId}{kd uE:IntKind}{v:Value}{l:List Int}{C A B:Hp}(hs:aK T kd v l C){i:Nat}{x:Int}(hi:i<l.length){K:Hp→Prop}
 (hk:∀C',aK T kd v (l.set i x) C'→K (A++(C'++B))):an 1 v (.int uE (i:Int)) fun p=>St 1 (A++(C++B)) p (.int kd x) K:=by
 have hi':i<(l.map fun n=>[Value.int kd n]).length:=by simpa using hi
 obtain⟨b',aJ,rfl,rfl,aE⟩:=aO.pos hs (by omega)
 refine an.nat hi' ?_
 refine St.cell (l:=l.map (fun n=>[Value.int kd n])++aJ) (i:=i) (k:=1) (j:=0) (r:=[.int kd l[i]]) (((cD.head _).append B).bO A) aE (by rw[List.getElem?_append_left hi'];simp[hi]) (by omega) rfl ?_
 have e:(l.map (fun n=>[Value.int kd n])++aJ).set i ([Value.int kd l[i]].set 0 (.int kd x))=(l.set i x).map (fun n=>[Value.int kd n])++aJ:=by
  rw[List.set_append_left _ _ hi',List.map_set];rfl
 rw[e]
 refine hk [(b',_)] (aO.mk' (aJ:=aJ) (fun r hr'=>?_) (by simp) (by simp))
 rcases List.mem_append.1 hr' with hr'|hr'
 ·obtain⟨y,_,rfl⟩:=List.mem_map.1 hr';rfl
 ·exact aE r (List.mem_append_right _ hr')
theorem aM.nil{H:Hp}:aM H []:=fun _ _ h=>h.j9
theorem aO.cut{T:TypeId}{k i:Nat}{v:Value}{rs:List (List Value)}{C:Hp}(hs:aO T k v rs C)(hi:i≤rs.length){kd:IntKind}{K:Value→Prop}(hk:∀v',aO T k v' (rs.take i) C→K v'):
  ef k v none (some (.int kd (i:Int))) K:=by
 by_cases hp:0<rs.length
 ·obtain⟨b',aJ,rfl,rfl,aE⟩:=hs.pos hp
  refine ef.upto (by omega) (hk _ ?_)
  have e:rs++aJ=rs.take i++(rs.drop i++aJ):=by rw[←List.append_assoc,List.take_append_drop]
  rw[e]at aE⊢
  exact aO.mk' aE (by simp;omega) (by simp;omega)
 ·obtain rfl:rs=[]:=List.eq_nil_of_length_eq_zero (by omega)
  obtain rfl:i=0:=by simpa using hi
  obtain⟨a,c,rfl⟩:=hs.len
  exact ef.upto (Nat.zero_le _) (hk _ (by simpa using hs))
theorem aK.cut{T:TypeId}{kd uE:IntKind}{i:Nat}{v:Value}{l:List Int}{C:Hp}(hs:aK T kd v l C)(hi:i≤l.length){K:Value→Prop}(hk:∀v',aK T kd v' (l.take i) C→K v'):
  ef 1 v none (some (.int uE (i:Int))) K:=
 aO.cut hs (by simpa using hi) fun v' h=>hk v' (by unfold aK;rw[List.map_take];exact h)
end
end Go.Sx
namespace Go.Sx
open Go
section
variable {P:Program} {H C:Hp} {c:Hp→Hp}
theorem aZ.split(h:aZ C H c):∃A B,∀X,c X=A++(X++B):=by
 induction h with
 |here=>exact⟨[],[],fun X=>by simp⟩
 | @left A=>exact⟨[],A,fun X=>rfl⟩
 | @cons x H c h ih=>
  obtain⟨A,B,e⟩:=ih
  exact⟨x::A,B,fun X=>by show x::c X=_;rw[e];rfl⟩
 | @app A' H c h ih=>
  obtain⟨A,B,e⟩:=ih
  exact⟨A'++A,B,fun X=>by show A'++c X=_;rw[e,List.append_assoc]⟩
theorem aZ.sub(h:aZ C H c):∀x∈C,x∈H:=fun x hx=>by
 obtain⟨A,B,e⟩:=h.split
 rw[h.spec.1,e]
 exact List.mem_append_right _ (List.mem_append_left _ hx)
theorem aO.pN{elem k bytes:Nat}{zero:Value}{v:Value}{rs:List (List Value)}(h:aO elem k v rs C)(hh:aZ C H c){xb:Nat}{r:List Value}{xT:TypeId}{fz:Nat×Nat}{xc:Nat}
 (hx:(xb,Obj.cells r.toArray xT fz)∈H)(hr:r.length=k)(h1:∀u∈r,u.oneCell'=true)(hz:∃z:List Value,zero.cells=z.toArray∧z.length=k)
 (hb:(rs.length+1)*bytes≤140737488355328)(bH:rs.length+1≤9223372036854775807){K:Value→Hp→Prop}
 (hk:∀v' C',aO elem k v' (rs++[r]) C'→K v' (c C')):App P elem k bytes zero H v (.slice (some ⟨xb,0,none⟩) 1 xc) K:=by
 obtain⟨A,B,e⟩:=hh.split
 have e2:=hh.spec.1
 rw[e]at e2
 subst e2
 exact h.Ce hx hr h1 hz hb bH fun v' C' ho=>by have:=hk v' C' ho;rwa [e]at this
theorem aO.NV{T:TypeId}{k:Nat}{v:Value}{rs:List (List Value)}(hs:aO T k v rs C)(hh:aZ C H c){i:Nat}{kd:IntKind}{xs:List Value}(hi:i<rs.length)(hx:xs.length=k)(h1:∀x∈xs,x.oneCell'=true){K:Hp→Prop}
 (hk:∀C',aO T k v (rs.set i xs) C'→K (c C')):an k v (.int kd (i:Int)) fun p=>St k H p (.agg xs.toArray) K:=by
 obtain⟨A,B,e⟩:=hh.split
 have e2:=hh.spec.1
 rw[e]at e2
 subst e2
 exact hs.Ba hi hx h1 fun C' ho=>by have:=hk C' ho;rwa [e]at this
theorem aK.pN{T:TypeId}{kd:IntKind}{v:Value}{l:List Int}{bytes:Nat}(h:aK T kd v l C)(hh:aZ C H c){xb xc:Nat}{x:Int}{xT:TypeId}{fz:Nat×Nat}(hx:(xb,Obj.cells (ax kd [x]) xT fz)∈H)
 (hb:(l.length+1)*bytes≤140737488355328)(hm:l.length+1≤9223372036854775807){K:Value→Hp→Prop}(hk:∀v' C',aK T kd v' (l++[x]) C'→K v' (c C')):App P T 1 bytes (.int kd 0) H v (.slice (some ⟨xb,0,none⟩) 1 xc) K:=by
 obtain⟨A,B,e⟩:=hh.split
 have e2:=hh.spec.1
 rw[e]at e2
 subst e2
 exact h.app hx hb hm fun v' C' ho=>by have:=hk v' C' ho;rwa [e]at this
theorem aK.Ai{T:TypeId}{kd:IntKind}{v x:Value}{l l2:List Int}{bytes:Nat}(h:aK T kd v l C)(hh:aZ C H c)(hx:cS kd H x l2)
 (hb:(l.length+l2.length)*bytes≤140737488355328)(hm:l.length+l2.length≤9223372036854775807){K:Value→Hp→Prop}(hk:∀v' C',aK T kd v' (l++l2) C'→K v' (c C')):App P T 1 bytes (.int kd 0) H v x K:=by
 obtain⟨A,B,e⟩:=hh.split
 have e2:=hh.spec.1
 rw[e]at e2
 subst e2
 exact h.apps hx hb hm fun v' C' ho=>by have:=hk v' C' ho;rwa [e]at this
theorem aK.ja{T:TypeId}{kd uE:IntKind}{v:Value}{l:List Int}(hs:aK T kd v l C)(hh:aZ C H c){i:Nat}{x:Int}(hi:i<l.length){K:Hp→Prop}
 (hk:∀C',aK T kd v (l.set i x) C'→K (c C')):an 1 v (.int uE (i:Int)) fun p=>St 1 H p (.int kd x) K:=by
 obtain⟨A,B,e⟩:=hh.split
 have e2:=hh.spec.1
 rw[e]at e2
 subst e2
 exact hs.put hi fun C' ho=>by have:=hk C' ho;rwa [e]at this
theorem aK.one{T:TypeId}{kd:IntKind}{v:Value}{l:List Int}(h:aK T kd v l C):v.oneCell'=true:=by obtain⟨a,c,e⟩:=aO.len h;rw[e];rfl
theorem eJ(l:List Nat)(i x:Nat):(iw l).set i (x:Int)=iw (l.set i x):=by unfold iw;rw[List.map_set]
theorem bP(a b:List Nat):iw (a++b)=iw a++iw b:=by unfold iw;rw[List.map_append]
theorem aX{l:List Nat}{i:Nat}(h:i<l.length):(iw l)[i]? =some ((l.getD i 0:Nat):Int):=by
 rw[bV (List.getElem?_eq_getElem h)];simp[List.getD,List.getElem?_eq_getElem h]
end
end Go.Sx
namespace Go.Sx
open Go
theorem jz{p:Nat→Prop}(h:∃k,p k):∃k,p k∧∀j,p j→k≤j:=by
 obtain⟨k,hk⟩:=h
 induction k using Nat.strongRecOn with
 |_ k ih=>
  by_cases e:∃j,j<k∧p j
  ·obtain⟨j,hj,hp⟩:=e;exact ih j hj hp
  ·exact⟨k,hk,fun j hp=>Nat.le_of_not_lt fun hlt=>e ⟨j,hlt,hp⟩⟩
open Classical in
noncomputable def l6(J:Nat→List Value→Hp→Prop)(vs:List Value)(H:Hp):Nat:=if h:∃k,J k vs H then Classical.choose (jz h)else 0
theorem Hw{J:Nat→List Value→Hp→Prop}{vs:List Value}{H:Hp}{k:Nat}(h:J k vs H):l6 J vs H≤k:=by
 unfold l6
 rw[dif_pos ⟨k,h⟩]
 exact(Classical.choose_spec (jz ⟨k,h⟩)).2 k h
theorem y3{J:Nat→List Value→Hp→Prop}{vs:List Value}{H:Hp}(h:∃k,J k vs H):J (l6 J vs H) vs H:=by
 unfold l6
 rw[dif_pos h]
 exact(Classical.choose_spec (jz h)).1
def mI(J:Nat→List Value→Hp→Prop):List Value→Hp→Prop:=fun vs H=>∃k,J k vs H
theorem mI.open{J:Nat→List Value→Hp→Prop}{vs:List Value}{H:Hp}(h:mI J vs H):∃k,J k vs H∧k=l6 J vs H:=⟨_,y3 h,rfl⟩
theorem mI.mk{J:Nat→List Value→Hp→Prop}{vs:List Value}{H:Hp}(k:Nat)(h:J k vs H):JE (mI J) vs H:=JE.mk ⟨k,h⟩
theorem mI.back{J:Nat→List Value→Hp→Prop}{vs vs':List Value}{H H' H0:Hp}{k:Nat}(e:aM H H')(hk:k=l6 J vs H0)(k':Nat)(h:J k' vs' H')(hlt:k'<k):aB (mI J) (l6 J) vs' H vs H0:=
 aB.of e ⟨k',h⟩ (Nat.lt_of_le_of_lt (Hw h) (by omega))
theorem Uo{vs:List Value}{H:Hp}{Q:(List Value→Hp→Prop)→(List Value→Hp→Nat)→Prop}(J:Nat→List Value→Hp→Prop)(k:Nat)(h:J k vs H)(hq:Q (mI J) (l6 J)):
  ∃(I:List Value→Hp→Prop) (m:List Value→Hp→Nat),JE I vs H∧Q I m:=⟨_,_,mI.mk k h,hq⟩
section
variable {P:Program} {H:Hp}
theorem aq.KN{t e:Nat}{kd:IntKind}{x y:Int}{K:Value→Hp→Prop}(h1:P.underlying t=some (.slice e))(h2:cU P e=some 1)(h3:dR P e=some (.int kd 0))
 (h:∀b,K (.slice (some ⟨b,0,Option.none⟩) 2 2) ((b,.cells (ax kd [x,y]) e (0,0))::H)):aq P t 2 [(0,.int kd x),(1,.int kd y)] H K:=by
 refine⟨ax kd [x,y],e,1,_,h1,h2,h3,by decide,?_,fun b _=>h b⟩
 have e1:Array.range (2*1)=#[0,1]:=rfl
 simp[Instr.fill,Value.cells,ax,e1]
theorem G3(kd:IntKind)(l:List Int):rows (l.map fun n=>[Value.int kd n])=ax kd l:=by
 unfold rows ax
 congr 1
 induction l with
 |nil=>rfl
 |cons x l ih=>rw[List.map_cons,List.flatten_cons,ih];rfl
theorem aK.made{T:TypeId}{kd:IntKind}{b:Nat}(l:List Int):aK T kd (.slice (some ⟨b,0,none⟩) l.length l.length) l [(b,.cells (ax kd l) T (0,0))]:=by
 have:=aO.mk' (T:=T) (k:=1) (b:=b) (n:=l.length) (c:=l.length) (rs:=l.map fun n=>[Value.int kd n]) (aJ:=[]) (fun r hr=>by
  rw[List.append_nil]at hr
  obtain⟨x,_,rfl⟩:=List.mem_map.1 hr;rfl) (by simp) (by simp)
 rw[List.append_nil,G3]at this
 exact this
end
end Go.Sx
namespace Go.Sx
open Go
section
variable {P:Program} {g:Gh}
structure Jn where
 f:FuncId
 l:List Value
def iY(P:Program)(g:Gh)(f:FuncId)(args:Array Value)(H:Hp)(R:Ending→Hp→Prop):Prop:=
 ∀w,Own g H w→∀u,CallsD P f args u w fun e u' w'=>u'=u∧∃H',Own g H' w'∧R e H'
def jU(P:Program)(g:Gh)(f:FuncId)(args:Array Value)(H:Hp)(K:Hp→Prop):Prop:=iY P g f args H fun e H'=>(∃v,e=.returned v)∧K H'
def Jz(P:Program)(g:Gh)(K:Hp→Prop):List Jn→Hp→Prop
 | [],H=>K H
 |x::r,H=>jU P g x.f x.l.toArray H (Jz P g K r)
def Td(P:Program)(o:Oper)(ρ:Operand→Value)(k:Jn→Prop):Prop:=
 match o.op with
 | .defer c=>match c.callee with
  | .value x=>match ρ x with
   | .func (.func f) first cap=>cond (bu P f) (k ⟨f,first.toList++(c.args.toList.map ρ++cap.toList)⟩) False
   |_=>False
  |_=>False
 |_=>False
def KM:Code→Option (Array Oper×Oper)
 | .region _ ops false=>match ops.toList.getLast? with
  |some o=>match o.op with
   | .defer _=>some (ops,o)
   |_=>none
  |none=>none
 |_=>none
def L9(P:Program)(g:Gh)(fn:Func)(R:Ending→Hp→Prop)(dl:List Jn):Exit→Fr→Hp→Prop
 | .normal,fr,H=>Jz P g (fun H'=>sr P fr H' fn.results.toList fun vs=>R (.returned (AY vs)) H') dl H
 | .ret,fr,H=>Jz P g (fun H'=>sr P fr H' fn.results.toList fun vs=>R (.returned (AY vs)) H') dl H
 |_,_,_=>False
def BV(P:Program)(g:Gh)(n:Nat)(E:List Jn→Exit→Fr→Hp→Prop):Code→Hn→List Jn→Fr→Hp→Prop
 | .seq x y,hn,dl,fr,H=>
  match KM x with
  |some (ops,o)=>cond (o.dst.isNone&&o.guard.isNone)
    (dM P g n ops false (ops.toList.length+1) false none [] ops.toList.dropLast fr H (fun _ fr' H'=>Td P o (ev fr') fun d=>BV P g n E y hn.b (d::dl) fr' H') (fun _ _=>False)) False
  |none=>match hn.m with
   |0=>den P g n x hn.a (ym (BV P g n E y hn.b dl) (E dl)) fr H
   |_=>cond (Ob x hn.I)
    (Wq hn.L.length (fun vs H'=>∀gs,BV P g n E y hn.b dl (mix hn.L vs hn.I fr gs) H') fun J=>den P g n x hn.a (ym (fun fr' H'=>JE J (AL fr' hn.L) H') (E dl)) fr H) False
 |c,hn,dl,fr,H=>den P g n c hn (E dl) fr H
def Mc(P:Program)(g:Gh)(fn:Func)(hn:Hn)(args:List Value)(H:Hp)(R:Ending→Hp→Prop):Prop:=
 match fn.body with
 |some c=>cond (Nat.ble args.length fn.ntmps) (BV P g fn.ntmps (L9 P g fn R) c hn [] (iB args 0) H) False
 |none=>False
def Ik:List PanicEntry→Hp→Prop:=fun _ _=>∀_:Fr,False
def DOK(P:Program)(x:Jn)(d:Deferred):Prop:=∃cap args,d={target:=.fn (.func x.f) cap,args:=args}∧args++cap=x.l.toArray∧bu P x.f=true
inductive Fh(P:Program):List Jn→List Deferred→Prop
 |nil:Fh P [] []
 |cons {x d l ds} (h:DOK P x d) (hr:Fh P l ds):Fh P (x::l) (d::ds)
theorem r7{fn:Func}{tmps:Array Value}{K:Hp→Prop}{R:Ending→World→Prop}(hK:∀H w,Own g H w→K H→∃v,(results fn tmps).run P w=.ok v w∧R (.returned v) w):
  ∀{dl:List Jn} {ds:List Deferred},Fh P dl ds→∀H w,Own g H w→Jz P g K dl H→Leaves P fn tmps R ds .returning w
 |_,_,.nil,H,w,hw,h=>hK H w hw h
 |_,_,.cons ⟨cap,args,hd,ha,hc⟩ hr,H,w,hw,h=>by
  subst hd
  refine leaves_cons (by simp) ?_ ((h w hw .returning).mono ?_)
  ·show(callFunc _ (args++cap)).run P w=_
   rw[ha]
   exact eE hc _ w
  ·rintro e u' w' ⟨rfl,H',ho,⟨v,rfl⟩,hk⟩
   exact r7 hK hr H' w' ho hk
theorem oC{fn:Func}{R:Ending→Hp→Prop}{n:Nat}{dl:List Jn}{ds:List Deferred}(hd:Fh P dl ds){e:Exit}{fr:Fr}{H:Hp}{a:Act}{w:World}(ha:bX ds n a fr)(hw:Own g H w)(h:L9 P g fn R dl e fr H):
  bodyPostD P fn (fun e w'=>∃H',Own g H' w'∧R e H') e a w:=by
 have key:∀{H},Own g H w→Jz P g (fun H'=>sr P fr H' fn.results.toList fun vs=>R (.returned (AY vs)) H') dl H→Leaves P fn a.tmps (fun e w'=>∃H',Own g H' w'∧R e H') a.defers .returning w:=fun hw h=>by
  rw[ha.defers]
  refine r7 (fun H w hw h=>?_) hd _ _ hw h
  obtain⟨vs,hr,hk⟩:=gu ha hw h
  exact⟨_,hr,H,hw,hk⟩
 cases e with
 |normal=>exact key hw h
 |ret=>exact key hw h
 |panic ch=>exact h.elim
 |exit id=>exact h.elim
 |goto l=>exact h.elim
 |outgrown=>exact h.elim
theorem Bx{c:Code}{ops:Array Oper}{o:Oper}(h:KM c=some (ops,o)):∃id d,c=.region id ops false∧ops.toList=ops.toList.dropLast++[o]∧o.op=.defer d:=by
 unfold KM at h
 split at h
 ·rename_i id ops'
  split at h
  ·rename_i o' ho
   split at h
   ·rename_i d hd
    simp only[Option.some.injEq,Prod.mk.injEq]at h
    obtain⟨rfl,rfl⟩:=h
    refine⟨id,d,rfl,?_,hd⟩
    obtain⟨hne,e⟩:=List.getLast?_eq_some_iff.1 ho
    rw[e];simp
   ·cases h
  ·cases h
 ·cases h
theorem MT{o:Oper}{fr:Fr}{k:Jn→Prop}(h:Td P o (ev fr) k):∃x d,k x∧DOK P x d∧∀w,(execOp (ev fr) o).run P w=.ok (.defer d) w:=by
 unfold Td at h
 split at h<;>try exact h.elim
 rename_i c hop
 split at h<;>try exact h.elim
 rename_i x hc
 split at h<;>try exact h.elim
 rename_i f first cap hx
 cases gg:bu P f<;>simp only[gg,cond_true,cond_false]at h
 refine⟨_,{target:=.fn (.func f) cap,args:=first++c.args.map (ev fr)},h,⟨cap,_,rfl,?_,gg⟩,fun w=>?_⟩
 ·apply Array.ext'
  simp
 ·simp only[execOp,hop,resolve,hc,hx,Deferred.ofValue,Sem.run_bind,Sem.run_pure,Result.andThen_ok]
theorem BU{n:Nat}{fn:Func}{R:Ending→Hp→Prop}:∀(c:Code) (hn:Hn) (dl:List Jn) (fr:Fr) (H:Hp),BV P g n (L9 P g fn R) c hn dl fr H→∀(ds:List Deferred),Fh P dl ds→∀(a:Act) (w:World),bX ds n a fr→Own g H w→
  c.wp P (bodyPostD P fn fun e w'=>∃H',Own g H' w'∧R e H') a w:=by
 have plain:∀(c:Code) (hn:Hn) (dl:List Jn) (fr:Fr) (H:Hp),den P g n c hn (L9 P g fn R dl) fr H→∀(ds:List Deferred),Fh P dl ds→∀(a:Act) (w:World),bX ds n a fr→Own g H w→
   c.wp P (bodyPostD P fn fun e w'=>∃H',Own g H' w'∧R e H') a w:=fun c hn dl fr H h ds hd a w ha hw=>
  wp_mono (jK c hn _ fr H h a w ha hw) fun e a' w' ⟨fr',H',dF,di,_,hq⟩=>oC hd dF di hq
 intro c
 induction c with
 |seq x y _ ih=>
  intro hn dl fr H h ds hd a w ha hw
  unfold BV at h
  split at h
  ·rename_i ops o hx
   obtain⟨id,d,rfl,hl,hop⟩:=Bx hx
   cases hc:(o.dst.isNone&&o.guard.isNone)<;>simp only[hc,cond_true,cond_false]at h
   simp only[Bool.and_eq_true,Option.isNone_iff_eq_none]at hc
   refine wp_seq (wp_region_list ?_)
   rw[hl]
   refine cm _ _ _ _ _ fr H _ _ h trivial (gK.nil fr) a w ha hw [o] _ ?_ ?_
   ·intro a' w' oL fr' H' dF di _ _ hk
    refine wpList_plain hc.2 fun K hK=>?_
    obtain⟨x,dd,hx,hok,hrun⟩:=MT hk
    show o.upon P a' K _ ((execOp a'.eval o).run P w')
    rw[dF.eval,hrun]
    refine hK _ _ ?_
    refine ih _ _ fr' H' hx (dd::ds) (.cons hok hd) _ _ ?_ di
    rw[hc.1]
    exact⟨congrArg _ dF.defers,dF.size,dF.get⟩
   ·intro ch a' w' fr' H' _ _ hk;exact hk.elim
  ·split at h
   ·refine wp_seq (wp_mono (jK x _ _ fr H h a w ha hw) ?_)
    rintro e a' w' ⟨fr',H',dF,di,ho,hq⟩
    cases e with
    |normal=>exact ih _ _ fr' H' hq ds hd a' w' dF di
    |ret=>exact oC (e:=.ret) hd dF di hq
    |exit id=>exact hq.elim
    |goto l=>exact hq.elim
    |panic ch=>exact hq.elim
    |outgrown=>exact hq.elim
   ·cases hno:Ob x hn.I<;>simp only[hno,cond_true,cond_false]at h
    have h':=h (fun vs H'=>∀gs,BV P g n (L9 P g fn R) y hn.b dl (mix hn.L vs hn.I fr gs) H') (uj.intro (fun vs H' hh=>hh) _)
    refine wp_seq (wp_mono (jK x _ _ fr H h' a w ha hw) ?_)
    rintro e a' w' ⟨fr',H',dF,di,ho,hq⟩
    cases e with
    |normal=>
     obtain⟨Hj,tc,hq⟩:=hq
     have WO:=hq fr'
     rw[sJ fun s hs=>ho rfl s (sH hno s hs)]at WO
     exact ih _ _ fr' Hj WO ds hd a' w' dF (tc _ _ di)
    |ret=>exact oC (e:=.ret) hd dF di hq
    |exit id=>exact hq.elim
    |goto l=>exact hq.elim
    |panic ch=>exact hq.elim
    |outgrown=>exact hq.elim
 |_=>intro hn dl fr H h;exact plain _ hn dl fr H h
theorem KQ{args:List Value}{m:Nat}(hle:args.length≤m):bX [] m {tmps:=args.toArray++Array.replicate (m-args.toArray.size) undef,defers:=[]} (iB args 0):=by
 refine⟨rfl,by simp;omega,fun s=>?_⟩
 rw[kC,Array.getD_eq_getD_getElem?,Array.getElem?_append]
 simp only[List.size_toArray,Nat.not_lt_zero,if_false,Nat.sub_zero]
 by_cases hs:s<args.length
 ·simp[hs,List.getD]
 ·rw[if_neg hs,Array.getElem?_replicate]
  have:args.getD s undef=undef:=by simp[List.getD,List.getElem?_eq_none (Nat.le_of_not_lt hs)]
  rw[this]
  split<;>rfl
theorem zX{f:FuncId}{fn:Func}{hn:Hn}{args:List Value}{H:Hp}{R:Ending→Hp→Prop}(hf:P.funcs[f]? =some fn)(h:Mc P g fn hn args H R):bW P g f args.toArray H R:=by
 intro w hw
 unfold Mc at h
 split at h<;>try exact h.elim
 rename_i c hc
 cases hl:Nat.ble args.length fn.ntmps<;>simp only[hl,cond_true,cond_false]at h
 exact calls_of_wp_defers hf hc (BU c hn [] _ H h [] .nil _ w (KQ (Nat.le_of_ble_eq_true hl)) hw)
theorem zW{f:FuncId}{fn:Func}{hn:Hn}{args:List Value}{H:Hp}{R:Ending→Hp→Prop}(hf:P.funcs[f]? =some fn)(h:BX P g fn hn args H R):iY P g f args.toArray H R:=by
 intro w hw u
 unfold BX at h
 split at h<;>try exact h.elim
 rename_i c hc
 cases hl:Nat.ble args.length fn.ntmps<;>simp only[hl,cond_true,cond_false]at h
 refine callsD_of_wp hf hc (wp_mono (jK c hn _ _ H h _ w (KQ (Nat.le_of_ble_eq_true hl)) hw) ?_)
 rintro e a' w' ⟨fr',H',dF,di,_,hq⟩
 cases e with
 |normal=>obtain⟨vs,hr,hk⟩:=gu dF di hq;exact⟨dF.defers,_,hr,H',di,hk⟩
 |ret=>obtain⟨vs,hr,hk⟩:=gu dF di hq;exact⟨dF.defers,_,hr,H',di,hk⟩
 |panic ch=>exact⟨dF.defers,H',di,hq⟩
 |exit id=>exact hq.elim
 |goto l=>exact hq.elim
 |outgrown=>exact hq.elim
abbrev Jt:=List Value→Hp→Prop
abbrev Mt:=List Value→Hp→Nat
abbrev Rt:=Ending→Hp→Prop
abbrev Hn.n(a b:Hn):Hn:=.h 0 [] [] a b
theorem Rg{f:FuncId}{fn:Func}{hn:Hn}{args:List Value}{H:Hp}{R:Rt}{L:Prop}(hf:P.funcs[f]? =some fn)(h:L)(e:BX P g fn hn args H R=L):bW P g f args.toArray H R:=BW hf (e.mpr h)
theorem wP{f:FuncId}{fn:Func}{hn:Hn}{args:List Value}{H:Hp}{R:Rt}{L:Prop}(hf:P.funcs[f]? =some fn)(h:L)(e:Mc P g fn hn args H R=L):bW P g f args.toArray H R:=zX hf (e.mpr h)
theorem wQ{f:FuncId}{fn:Func}{hn:Hn}{args:List Value}{H:Hp}{R:Rt}{L:Prop}(hf:P.funcs[f]? =some fn)(h:L)(e:BX P g fn hn args H R=L):iY P g f args.toArray H R:=zW hf (e.mpr h)
end
end Go.Sx
set_option maxRecDepth 100000
namespace Go.Proofs
open Go Go.Sx
variable {g:Gh} {a0 a1 a2 a3 a4 a5 a6 a7 a8 a9 rD rC Wh Wg Wf We:Value} {H:Hp} {R:Rt}
abbrev pt(b:Nat):Value:=.pointer (some ⟨b,0,none⟩)
abbrev CF:=ae Tryz.prog
abbrev iv(n:Int):Value:=.int .i64 n
abbrev ui(n:Int):Value:=.int .u32 n
abbrev wi(n:Int):Value:=.int .u64 n
abbrev bi(n:Int):Value:=.int .u8 n
abbrev vT:Value:=.bool true
abbrev vF:Value:=.bool false
abbrev lE:=aa .num .eql
abbrev lN:=aa .num .neq
abbrev lL:=aa .num .lss
abbrev lG:=aa .num .gtr
abbrev lA:=aa .num .add
abbrev lS:=aa .num .sub
abbrev lD(n:Nat)(p:Value)(H:Hp)(k:Value→Prop):Prop:=ag n p fun v=>Ld H v k
abbrev lM(n:Nat)(p:Value)(H:Hp)(k:Value→Prop):Prop:=Nil p fun q=>ag n q fun v=>Ld H v k
abbrev lI(e:Nat)(p i:Value)(H:Hp)(k:Value→Prop):Prop:=an e p i fun v=>Ld H v k
abbrev lX(v:Value)(k:Value→Value→Prop):Prop:=Ext 0 v fun x=>Ext 1 v fun y=>k x y
abbrev rt(R:Rt)(v:Value)(H:Hp):Prop:=R (.returned v) H
abbrev tP(a b:Value):Value:=.tuple #[a,b]
abbrev lW(H:Hp)(c:Array Value)(t:Nat)(k:Nat→Hp→Prop):Prop:=cW H (.cells c t (0,0)) k
abbrev lO(a:Value)(i:Bool→Prop)(k:Bool→Prop):Prop:=df a false i (fun t=>vT=Value.bool t) fun t=>∀_:Fr,k t
abbrev lU(a:Value)(i:Bool→Prop)(k:Bool→Prop):Prop:=df a true i (fun t=>vF=Value.bool t) fun t=>∀_:Fr,k t
abbrev lV(H:Hp)(v:Value)(t:Bool):Prop:=H=H∧v=Value.bool t
abbrev lC(n:Nat)(p:Value)(k:Value→Prop):Prop:=Nil p fun q=>ag n q k
abbrev lQ(n:Nat)(H:Hp)(c:Array Value)(t:Nat)(v:Value)(k:Nat→Hp→Prop):Prop:=cW H (.cells c t (0,0)) fun b H=>St n H (pt b) v fun H=>k b H
abbrev sc:=bW Tryz.prog
theorem sd{g:Gh}{f:FuncId}{fn:Func}(hn:Hn){args:List Value}{H:Hp}{R:Rt}{L:Prop}(hf:Tryz.prog.funcs[f]? =some fn)(h:L)(e:BX Tryz.prog g fn hn args H R=L:=by kernel_rfl):sc g f args.toArray H R:=Rg hf h e
abbrev Y0:=Gh→Hp→Rt→Prop
abbrev Y1:=Gh→Value→Hp→Rt→Prop
abbrev Y2:=Gh→Value→Value→Hp→Rt→Prop
abbrev Y3:=Gh→Value→Value→Value→Hp→Rt→Prop
abbrev Y4:=Gh→Value→Value→Value→Value→Hp→Rt→Prop
abbrev Y5:=Gh→Value→Value→Value→Value→Value→Hp→Rt→Prop
abbrev CR(R:Rt)(g:Gh)(f:Nat)(a:Array Value)(H:Hp)(K:Value→Hp→Prop):Prop:=ae Tryz.prog g f a H K (rF R)
abbrev CN(g:Gh)(f:Nat)(a:Array Value)(H:Hp)(K:Value→Hp→Prop):Prop:=ae Tryz.prog g f a H K uQ
def hr(m:Nat)(T:List Nat):Nat→Nat→Hn→Hn
 |_,0,x=>x
 |i,k+1,x=>.h m [i] T (hr m T (i+1) k x) .e
def hN:Nat→Hn→Hn
 |0,x=>x
 |k+1,x=>.n .e (hN k x)
def L11:Y5:=
fun a b c d e f g h=>
aQ .i64 b fun b=>
aa .num .rem b (iv 6) fun b=>
lA (iv 1) b fun b=>
aQ .i64 c fun i=>
aa .num .rem i (iv 120) fun i=>
lA (iv 2) i fun i=>
∀j:Jt,(∀k:Value,∀l:Hp,(∀_:Fr,
CR h a 54 #[b,k] l fun m n=>
CR h a 12 #[(iv 2),(.slice none 0 0)] n fun n o=>
aa .ptr .eql m (.pointer none) fun p=>
lO p (fun p=>
aa .ptr .eql n (.pointer none) fun n=>
(lV o n p)) fun p=>
Br (Value.bool p) (
rt h vF o) (
∃(n:Jt) (p:Mt),JE n [(iv 0)] o∧∀o:Value,∀q:Hp,n [o] q→∀_:Fr,
aF d fun r=>
lL o r fun r=>
lU r (fun r=>
lL o (iv 30) fun s=>
(lV q s r)) fun r=>
Br (Value.bool r) (
an 6 d o fun d=>
av 6 q d fun d=>
CR h a 55 #[m,d] q fun d r=>
Un .not d fun d=>
Br d (
rt h vF r) (
lA o (iv 1) fun d=>
aB n p [d] r [o] q)) (
∀d:Jt,(∀n:Value,∀o:Hp,(∀_:Fr,
Br n (
rt h vF o) (
∃(p:Jt) (r:Mt),JE p [(iv 0)] o∧∀s:Value,∀t:Hp,p [s] t→∀_:Fr,
aF e fun u=>
lL s u fun u=>
Br u (
lI 1 e s t fun e=>
aa .num .rem e (bi 7) fun e=>
lM 0 m t fun u=>
CR h a 15 #[u] t fun u v=>
CR h a 40 #[b,u,e] v fun b v=>
lX b fun b w=>
lM 0 m v fun x=>
aQ .i64 f fun f=>
lA (iv 100) f fun f=>
CR h a 49 #[x,e,f] v fun f v=>
lX f fun f x=>
lQ 4 v #[(iv 0),(iv 0),(iv 0),vF] 42 f fun f v=>
∀y:Jt,(∀z:Value,∀A:Hp,(∀_:Fr,
Br z (
rt h vF A) (
lE e (bi 0) fun B=>
lU B (fun B=>
lD 2 (pt f) A fun C=>
lN C (iv 0) fun C=>
(lV A C B)) fun B=>
lO (Value.bool B) (fun B=>
lD 3 (pt f) A fun C=>
df C true (fun C=>
lN e (bi 6) fun e=>
(lV A e C)) (fun C=>vF=Value.bool C) fun C=>∀_:Fr,
(lV A (Value.bool C) B)) fun B=>
Br (Value.bool B) (
rt h vF A) (
lA s (iv 1) fun e=>
aB p r [e] A [s] t)))→y [z] A)→
DR v fun e=>
lN w (iv 0) fun p=>
Br p (
JE y [vT] v) (
lN x (iv 0) fun p=>
ay vF vT p fun p=>
Br p (
JE y [vT] v) (
lD 0 (pt f) e fun p=>
lN p u fun p=>
ay vF vT p fun p=>
Br p (
JE y [vT] v) (
lD 1 (pt f) e fun p=>
lM 0 m e fun r=>
∀s:Hp,
CN (a.add s) 15 #[r] v fun r s=>
aM s e∧
lN p r fun p=>
ay vF vT p fun p=>
Br p (
JE y [vT] s) (
lD 1 (pt f) e fun p=>
lG p u fun p=>
ay vF vT p fun p=>
Br p (
JE y [vT] s) (
lD 2 (pt f) e fun f=>
lG f b fun b=>
ay vF vT b fun b=>
Br b (
JE y [vT] s) (
∀b:Hp,
CN (a.add b) 21 #[m] s fun b f=>
aM f e∧
Un .not b fun b=>
ay vF vT b fun b=>
JE y [b] f))))))) (
lM 0 m t fun b=>
CR h a 49 #[b,(bi 7),(iv 100)] t fun b e=>
lX b fun b f=>
lQ 4 e #[(iv 0),(iv 0),(iv 0),vF] 42 b fun _ b=>
lM 0 m b fun e=>
CR h a 49 #[e,(bi 1),(iv 99)] b fun b e=>
lX b fun b p=>
lQ 4 e #[(iv 0),(iv 0),(iv 0),vF] 42 b fun _ b=>
∀e:Jt,(∀r:Value,∀s:Hp,(∀_:Fr,
rt h r s)→e [r] s)→
lE f (iv 1) fun f=>
Split f true (
lE p (iv 1) fun f=>
ay vT f vF fun f=>
Split f true (
CR h a 21 #[m] b fun f p=>
ay vT f vF fun f=>
JE e [f] p) (
ay vF undef vF fun f=>
JE e [f] b)) (
ay vF undef vF fun f=>
ay f undef vF fun f=>
JE e [f] b))))→d [n] o)→
lM 2 m q fun b=>
aF b fun b=>
lG b (iv 0) fun b=>
Split b true (
Build Tryz.prog 109 [(0,(bi 3)),(2,c)] fun b=>
CR h a 56 #[m,b] q fun a b=>
Un .not a fun a=>
ay vT a vF fun a=>
JE d [a] b) (
ay vF undef vF fun a=>
JE d [a] q))))→j [k] l)→
aa .num .rem c (bi 3) fun a=>
lE a (bi 0) fun a=>
Br a (
JE j [(iv 4000)] g) (
JE j [i] g)
theorem I7(h:L11 g a0 a1 a2 a3 a4 H R):sc g 11 #[a0,a1,a2,a3,a4] H R:=
  sd (hN 3 (.h 1 [12] [1,2,3,4,11] .e (.n .e (.n .e (.n (.n (.h 0 [] [1] .e .e) .e) (.n (.n .e (.n (.h 0 [15] [1,2,3,4,11,13] (.n (.n (.h 0 [] [1] .e .e) .e) .e) .e) .e)) (.n (.h 1 [77] [3,4,11,13] .e .e) (.n (.n .e (.n (.h 0 [16] [3,4,11,13] (.n .e (.n (.n (hN 4 (.n (.h 1 [151] [3,4,11,13,16,17,21] (.h 1 [] [] (hr 0 [1] 0 2 (.h 2 [2] [] (hr 0 [1] 3 2 (hr 3 [1] 5 2 (hr 0 [1] 7 4 (hr 3 [1] 11 2 (hr 0 [1] 13 8 (hr 3 [1] 21 2 (hr 0 [1] 23 4 (hr 3 [1] 27 2 (hr 0 [1] 29 4 (hr 3 [1] 33 2 (hr 0 [1] 35 3 (.h 3 [38] [1] .e .e)))))))))))) (hr 0 [1] 3 3 (.h 2 [6] [] (hr 0 [1] 7 4 (hr 3 [1] 11 2 (hr 0 [1] 13 8 (hr 3 [1] 21 2 (hr 0 [1] 23 4 (hr 3 [1] 27 2 (hr 0 [1] 29 4 (hr 3 [1] 33 2 (hr 0 [1] 35 3 (.h 3 [38] [1] .e .e)))))))))) (hr 0 [1] 7 5 (.h 2 [12] [] (hr 0 [1] 13 8 (hr 3 [1] 21 2 (hr 0 [1] 23 4 (hr 3 [1] 27 2 (hr 0 [1] 29 4 (hr 3 [1] 33 2 (hr 0 [1] 35 3 (.h 3 [38] [1] .e .e)))))))) (hr 0 [1] 13 9 (.h 2 [22] [] (hr 0 [1] 23 4 (hr 3 [1] 27 2 (hr 0 [1] 29 4 (hr 3 [1] 33 2 (hr 0 [1] 35 3 (.h 3 [38] [1] .e .e)))))) (hr 0 [1] 23 5 (.h 2 [28] [] (hr 0 [1] 29 4 (hr 3 [1] 33 2 (hr 0 [1] 35 3 (.h 3 [38] [1] .e .e)))) (hr 0 [1] 29 5 (.h 2 [34] [] (hr 0 [1] 35 3 (.h 3 [38] [1] .e .e)) (hr 0 [1] 35 4 .e))))))))))))) .e) .e) (.n (.h 0 [] [1] .e .e) .e))) .e) .e)) .e) .e)) (.n .e (.n .e (.h 1 [10] [] .e .e))))))))))) Tryz.func11 h
def L12:Y2:=
fun a b c d e=>
CR e a 54 #[b,(iv 4000)] d fun d f=>
aa .ptr .eql d (.pointer none) fun g=>
Br g (
rt e (.pointer none) f) (
∃(g:Jt) (h:Mt),JE g [(iv 0)] f∧∀f:Value,∀i:Hp,g [f] i→∀_:Fr,
lL f b fun j=>
Br j (
aQ .u8 f fun j=>
Build Tryz.prog 106 [(0,(bi 0)),(1,j)] fun j=>
CR e a 55 #[d,j] i fun j k=>
Un .not j fun j=>
Br j (
rt e (.pointer none) k) (
lA f (iv 1) fun j=>
aB g h [j] k [f] i)) (
lM 2 d i fun f=>
aF f fun f=>
lN f b fun b=>
Br b (
rt e (.pointer none) i) (
∃(b:Jt) (f:Mt),JE b [(iv 0)] i∧∀g:Value,∀h:Hp,b [g] h→∀_:Fr,
aF c fun i=>
lL g i fun i=>
lU i (fun i=>
lL g (iv 30) fun j=>
(lV h j i)) fun i=>
Br (Value.bool i) (
an 6 c g fun c=>
av 6 h c fun c=>
CR e a 55 #[d,c] h fun a c=>
Un .not a fun a=>
Br a (
rt e (.pointer none) c) (
lA g (iv 1) fun a=>
aB b f [a] c [g] h)) (
rt e d h))))
theorem I6(h:L12 g a0 a1 H R):sc g 12 #[a0,a1] H R:=
  sd (hN 3 (.n (.n .e (.n (.h 0 [6] [0,1,5] .e .e) .e)) (.n .e (.n (.n .e (.n (.h 0 [7] [1,5] (.n (.n (.h 0 [] [1] .e .e) .e) .e) .e) .e)) .e)))) Tryz.func12 h
def L13:Y1:=
fun a b c d=>
aa .ptr .eql b (.pointer none) fun e=>
Br e (
rt d (.slice none 0 0) c) (
lM 5 b c fun b=>
CR d a 57 #[b] c fun a b=>
rt d a b)
theorem I5(h:L13 g a0 H R):sc g 13 #[a0] H R:=
  sd .e Tryz.func13 h
def L14:Y1:=
fun _ a b c=>
lE a (iv 2) fun d=>
Br d (
aq Tryz.prog 25 1 [(0,(iv 0))] b fun d e=>
rt c (tP d (iv 0)) e) (
lE a (iv 3) fun d=>
Br d (
aq Tryz.prog 25 5 [(0,(iv 1)),(1,(iv 0)),(2,(iv 1)),(3,(iv 0)),(4,(iv 1))] b fun d e=>
rt c (tP d (iv 0)) e) (
lE a (iv 4) fun a=>
Br a (
aq Tryz.prog 25 23 [(0,(iv 2)),(1,(iv 1)),(2,(iv 0)),(3,(iv 2)),(4,(iv 0)),(5,(iv 1)),(6,(iv 2)),(7,(iv 0)),(8,(iv 2)),(9,(iv 1)),(10,(iv 0)),(11,(iv 2)),(12,(iv 0)),(13,(iv 1)),(14,(iv 2)),(15,(iv 0)),(16,(iv 2)),(17,(iv 1)),(18,(iv 0)),(19,(iv 2)),(20,(iv 0)),(21,(iv 1)),(22,(iv 2))] b fun a d=>
rt c (tP a (iv 0)) d) (
rt c (tP (.slice none 0 0) (iv 1)) b)))
theorem I4(h:L14 g a0 H R):sc g 14 #[a0] H R:=
  sd .e Tryz.func14 h
def L15:Y1:=
fun a b c d=>
aa .ptr .eql b (.pointer none) fun e=>
Br e (
rt d (iv 0) c) (
lC 0 b fun b=>
ag 0 b fun b=>
Ld c b fun b=>
CR d a 58 #[b] c fun a b=>
lS a (iv 2) fun a=>
rt d a b)
theorem I3(h:L15 g a0 H R):sc g 15 #[a0] H R:=
  sd .e Tryz.func15 h
def L17:Y2:=
fun a b c d e=>
aa .ptr .eql b (.pointer none) fun f=>
Br f (
rt e (iv 10) d) (
lL c (iv 0) fun f=>
lO f (fun f=>
lM 4 b d fun g=>
lS g (iv 2) fun g=>
lG c g fun g=>
(lV d g f)) fun f=>
Br (Value.bool f) (
rt e (iv 1) d) (
CR e a 59 #[b,c] d fun a d=>
Un .not a fun a=>
Br a (
rt e (iv 9) d) (
lM 7 b d fun a=>
aq Tryz.prog 25 1 [(0,c)] d fun c d=>
App Tryz.prog 3 1 8 (iv 0) d a c fun a c=>
lC 7 b fun b=>
St 1 c b a fun a=>
rt e (iv 0) a)))
theorem I2(h:L17 g a0 a1 H R):sc g 17 #[a0,a1] H R:=
  sd (.n .e (.n (.n (.n .e (.n .e (.n (.h 0 [] [1] .e .e) .e))) .e) .e)) Tryz.func17 h
def L18:Y1:=
fun a b c d=>
aa .ptr .eql b (.pointer none) fun e=>
lO e (fun e=>
lM 7 b c fun f=>
aF f fun f=>
lE f (iv 0) fun f=>
(lV c f e)) fun e=>
Br (Value.bool e) (
rt d (tP (iv 0) (iv 10)) c) (
lM 7 b c fun e=>
aF e fun e=>
lS e (iv 1) fun e=>
lM 7 b c fun f=>
lI 1 f e c fun f=>
CR d a 59 #[b,f] c fun _ a=>
lM 7 b a fun c=>
ef 1 c none (some e) fun c=>
lC 7 b fun b=>
St 1 a b c fun a=>
rt d (tP f (iv 0)) a)
theorem I1(h:L18 g a0 H R):sc g 18 #[a0] H R:=
  sd (.n .e (.n (.n (.h 0 [] [1] .e .e) .e) .e)) Tryz.func18 h
variable {g:Gh} {a0 a1 a2 a3 a4 a5 a6 a7 a8 a9 rD rC Wh Wg Wf We:Value} {H:Hp} {R:Rt}
def L21:Y1:=
fun a b c d=>
∀e:Jt,(∀f:Value,∀g:Hp,(∀_:Fr,
Br f (
rt d vF g) (
∃(h:Jt) (i:Mt),JE h [(iv 0)] g∧∀j:Value,∀k:Hp,h [j] k→∀_:Fr,
lM 2 b k fun l=>
aF l fun l=>
lL j l fun l=>
Br l (
DR k fun l=>
lM 2 b l fun m=>
lI 1 m j l fun m=>
lM 3 b l fun n=>
an 2 n j fun n=>
av 2 l n fun n=>
lM 1 b l fun o=>
aa .num .mul (iv 2) o fun o=>
lA o (iv 2) fun o=>
CN a 66 #[b,m,n,o] k fun m n=>
aM n l∧
Un .not m fun l=>
Br l (
rt d vF n) (
∃(l:Jt) (m:Mt),JE l [(iv 0)] n∧∀n:Value,∀o:Hp,l [n] o→∀_:Fr,
lL n j fun p=>
Br p (
DR o fun p=>
lM 2 b p fun q=>
lI 1 q j p fun q=>
lM 2 b p fun r=>
lI 1 r n p fun r=>
lE q r fun q=>
lM 3 b p fun r=>
an 2 r j fun r=>
av 2 p r fun r=>
lM 3 b p fun s=>
an 2 s n fun s=>
av 2 p s fun s=>
CN a 67 #[r,s] o fun r s=>
aM s p∧
aa .bool .neq q r fun p=>
Br p (
rt d vF s) (
lA n (iv 1) fun p=>
aB l m [p] s [n] o)) (
lA j (iv 1) fun l=>
aB h i [l] o [j] k))) (
rt d vT k)))→e [f] g)→
DR c fun d=>
lM 0 b d fun f=>
∀g:Hp,
CN (a.add g) 15 #[f] c fun c f=>
aM f d∧
∀g:Hp,
CN (a.add g) 64 #[b,(.slice none 0 0)] f fun f g=>
aM g d∧
lN c f fun c=>
Br c (
JE e [vT] g) (
lM 0 b d fun c=>
lM 0 b d fun b=>
∀f:Hp,
CN (a.add f) 15 #[c] g fun c f=>
aM f d∧
lA c (iv 2) fun c=>
∀g:Hp,
CN (a.add g) 65 #[b] f fun a b=>
aM b d∧
lG c a fun a=>
ay vF vT a fun a=>
JE e [a] b)
theorem I0(h:L21 g a0 H R):sc g 21 #[a0] H R:=
  sd (.n .e (.n (.h 1 [26] [0] (.h 1 [] [] (hr 0 [] 0 4 (.h 0 [5] [] (.h 0 [4] [] (hr 0 [] 6 2 (.h 2 [8] [] (hr 0 [] 9 12 (.h 3 [21] [] .e .e)) (hr 0 [] 9 4 (hr 0 [] 15 4 (hr 0 [] 13 2 (hr 0 [] 19 3 .e)))))) .e) .e)) .e) .e) (.n (.n .e (.n (.h 0 [3] [0] (.n .e (.n (.n (.n (.n (.h 0 [0,1,2,3,4,5,6,7,8,9,10,11,12,13,14,15,16,17,18,19,20,21,22] [] .e .e) .e) (.n .e (.n (.h 0 [4] [0,3] (.n .e (.n (.n (.n (.h 0 [0,1,2,3,4,5,6,7,8,9,10,11,12,13,14,15,16,17,18,19,20,21,22,23,24,25,26,27,28,29,30] [] .e .e) .e) .e) .e)) .e) .e))) .e) .e)) .e) .e)) .e))) Tryz.func21 h
def L22:Y2:=
fun a b c d e=>
lW d #[(iv 0),(iv 0),(iv 0),vF] 42 fun d f=>
CR e a 60 #[b,c] f fun f g=>
lN f (iv 0) fun h=>
Br h (
Build Tryz.prog 42 [] fun h=>
St 4 g (pt d) h fun h=>
av 4 h (pt d) fun i=>
rt e (tP i f) h) (
CR e a 62 #[b,c] g fun f g=>
CR e a 68 #[f,b,c] g fun _ a=>
lC 1 f fun b=>
av 4 a b fun b=>
St 4 a (pt d) b fun a=>
av 4 a (pt d) fun b=>
rt e (tP b (iv 0)) a)
theorem IZ(h:L22 g a0 a1 H R):sc g 22 #[a0,a1] H R:=
  sd .e Tryz.func22 h
def L25:Y1:=
fun a b c d=>
lW c #[(iv 0),(iv 0),(iv 0),vF] 42 fun c e=>
aa .ptr .eql b (.pointer none) fun f=>
Br f (
Build Tryz.prog 42 [] fun f=>
St 4 e (pt c) f fun f=>
av 4 f (pt c) fun g=>
rt d (tP g (iv 10)) f) (
CR d a 61 #[b] e fun e f=>
lG e (iv 12) fun e=>
Br e (
Build Tryz.prog 42 [] fun e=>
St 4 f (pt c) e fun e=>
av 4 e (pt c) fun g=>
rt d (tP g (iv 6)) e) (
CR d a 70 #[b] f fun e f=>
aF e fun g=>
∃(h:Jt) (i:Mt),JE h [(.slice none 0 0),(iv 0)] f∧∀f j:Value,∀k:Hp,h [f,j] k→∀_:Fr,
lL j g fun g=>
Br g (
lI 1 e j k fun e=>
CR d a 71 #[b,e] k fun e g=>
lX e fun e _=>
lQ 2 g #[(iv 0),(.slice none 0 0)] 57 e fun e g=>
av 2 g (pt e) fun e=>
aq Tryz.prog 28 1 [(0,e)] g fun e g=>
App Tryz.prog 57 2 32 (.agg #[(iv 0),(.slice none 0 0)]) g f e fun e g=>
lA j (iv 1) fun l=>
aB h i [e,l] g [f,j] k) (
CR d a 15 #[b] k fun e g=>
CR d a 26 #[f] g fun f g=>
lX f fun h i=>
Ext 2 f fun _=>
lE e h fun f=>
Br f (
Build Tryz.prog 42 [(0,e),(1,e),(3,vT)] fun f=>
St 4 g (pt c) f fun f=>
av 4 f (pt c) fun h=>
rt d (tP h (iv 0)) f) (
CR d a 42 #[b,i] g fun f g=>
lX f fun f h=>
CR d a 15 #[b] g fun a b=>
lE h (iv 0) fun g=>
Build Tryz.prog 42 [(0,e),(1,a),(2,f),(3,g)] fun a=>
St 4 b (pt c) a fun a=>
av 4 a (pt c) fun b=>
rt d (tP b (iv 0)) a))))
theorem IY(h:L25 g a0 H R):sc g 25 #[a0] H R:=
  sd (hN 4 (.n (.n .e (.n (.h 0 [4,25] [0,2,23,24] .e .e) .e)) .e)) Tryz.func25 h
def L26:Y1:=
fun a b c d=>
CR d a 72 #[b] c fun b c=>
lX b fun b e=>
lN e (iv 0) fun f=>
Br f (
rt d (.tuple #[(iv 0),(.slice none 0 0),e]) c) (
lM 1 b c fun e=>
lG e (iv 12) fun e=>
Br e (
rt d (.tuple #[(iv 0),(.slice none 0 0),(iv 6)]) c) (
∃(e:Jt) (f:Mt),JE e [(.slice none 0 0),(iv 0)] c∧∀c g:Value,∀h:Hp,e [c,g] h→∀_:Fr,
aF c fun i=>
lM 1 b h fun j=>
lL i j fun i=>
Br i (
lM 1 b h fun i=>
∃(j:Jt) (k:Mt),JE j [c,g,(iv 0)] h∧∀l m n:Value,∀o:Hp,j [l,m,n] o→∀_:Fr,
lL n i fun i=>
Br i (
∀i:Jt,(∀p:Value,∀q:Hp,(∀_:Fr,
Br p (
aq Tryz.prog 25 1 [(0,n)] q fun r s=>
App Tryz.prog 3 1 8 (iv 0) s l r fun r s=>
aa .num .shl (iv 1) n fun t=>
aa .num .or m t fun t=>
aB e f [r,t] s [c,g] h) (
lA n (iv 1) fun r=>
aB j k [l,m,r] q [l,m,n] o))→i [p] q)→
DR o fun _=>
aa .num .shr m n fun j=>
aa .num .and j (iv 1) fun j=>
lE j (iv 0) fun j=>
Br j (
aa .num .shl (iv 1) n fun j=>
aa .num .or m j fun j=>
∀k:Hp,
CN (a.add k) 73 #[b,m,n] o fun k n=>
∀p:Hp,
CN (a.add p) 74 #[b,j] n fun j n=>
lA k j fun j=>
∀k:Hp,
CN (a.add k) 74 #[b,m] n fun k n=>
lE j k fun j=>
ay vT j vF fun j=>
JE i [j] n) (
JE i [vF] o)) (
aB e f [l,m] o [c,g] h)) (
CR d a 74 #[b,(iv 0)] h fun a b=>
rt d (.tuple #[a,c,(iv 0)]) b)))
theorem IX(h:L26 g a0 H R):sc g 26 #[a0] H R:=
  sd (hN 6 (.n (.n (.h 0 [7,8] [5] (.n .e (.n (.n .e (.n (.h 0 [7,8,34] [5,33] (.n .e (.n .e (.n (.n (.n .e (.h 1 [58] [5,7,8,9,33,34] (.h 1 [] [] (hr 0 [] 0 5 (.h 2 [5] [] (hr 0 [] 6 3 (hr 0 [] 10 5 (hr 0 [] 17 2 (.h 0 [9] [] (hr 0 [] 15 2 (hr 0 [] 19 3 .e)) .e)))) (hr 0 [] 6 15 (.h 3 [21] [] .e .e)))) .e) .e)) .e) .e))) .e) .e)) .e)) .e) .e) .e)) Tryz.func26 h
def L34:Y1:=
fun _ a b c=>
aa .ptr .eql a (.pointer none) fun d=>
Br d (
rt c (iv 0) b) (
lM 7 a b fun a=>
aF a fun a=>
rt c a b)
theorem IW(h:L34 g a0 H R):sc g 34 #[a0] H R:=
  sd .e Tryz.func34 h
def L38:Y2:=
fun a b c d e=>
CR e a 99 #[b,c] d fun a b=>
lX a fun a c=>
aF a fun d=>
∃(f:Jt) (g:Mt),JE f [(iv 0),(iv 0)] b∧∀b h:Value,∀i:Hp,f [b,h] i→∀_:Fr,
lL h d fun d=>
Br d (
lI 1 a h i fun a=>
lA b a fun a=>
lA h (iv 1) fun d=>
aB f g [a,d] i [b,h] i) (
rt e (tP b c) i)
theorem IV(h:L38 g a0 a1 H R):sc g 38 #[a0,a1] H R:=
  sd (hN 3 (.n (.n .e (.n (.h 0 [8,19] [7,17,18] .e .e) .e)) .e)) Tryz.func38 h
def L40:Y3:=
fun a b c d e f=>
lL b (iv 1) fun g=>
lO g (fun g=>
lG b (iv 64) fun h=>
(lV e h g)) fun g=>
lO (Value.bool g) (fun g=>
lL c (iv 0) fun h=>
(lV e h g)) fun g=>
lO (Value.bool g) (fun g=>
lG c (iv 1048576) fun h=>
(lV e h g)) fun g=>
lO (Value.bool g) (fun g=>
lG d (bi 6) fun h=>
(lV e h g)) fun g=>
Br (Value.bool g) (
rt f (tP (iv 0) (iv 1)) e) (
lE d (bi 1) fun g=>
Br g (
aa .num .mul (iv 3) b fun g=>
lS b (iv 1) fun h=>
aa .num .mul g h fun g=>
rt f (tP g (iv 0)) e) (
lE d (bi 2) fun g=>
Br g (
aa .num .mul (iv 3) b fun g=>
lS b (iv 1) fun h=>
aa .num .mul g h fun g=>
lA c (iv 1) fun c=>
aa .num .mul g c fun c=>
rt f (tP c (iv 0)) e) (
∀c:Jt,(∀g:Value,∀h:Hp,(∀_:Fr,
Br g (
CR f a 100 #[d] h fun a i=>
∃(j:Jt) (k:Mt),JE j [(iv 1),(iv 2)] i∧∀i l:Value,∀m:Hp,j [i,l] m→∀_:Fr,
aa .num .leq l a fun n=>
Br n (
aa .num .mul i l fun n=>
lA l (iv 1) fun o=>
aB j k [n,o] m [i,l] m) (
lS b a fun a=>
lA a (iv 1) fun a=>
An (iv 0) a fun a=>
aa .num .mul a (iv 2) fun a=>
lS i (iv 1) fun i=>
aa .num .mul a i fun a=>
rt f (tP a (iv 0)) m)) (
lE d (bi 6) fun a=>
Br a (
lS b (iv 1) fun a=>
aa .num .mul b a fun a=>
rt f (tP a (iv 0)) h) (
rt f (tP (iv 0) (iv 0)) h)))→c [g] h)→
lE d (bi 3) fun a=>
Br a (
JE c [a] e) (
lE d (bi 4) fun a=>
Br a (
JE c [a] e) (
lE d (bi 5) fun a=>
JE c [a] e)))))
theorem IU(h:L40 g a0 a1 a2 H R):sc g 40 #[a0,a1,a2] H R:=
  sd (.n .e (.n (.n (.h 0 [] [1] .e .e) .e) (.n .e (.n (.n .e (.n (hN 4 (.h 1 [49] [2,8,31] .e (.n (.n .e (.n .e (.n (.n .e (.n (.h 0 [10,11] [8,9] .e .e) .e)) .e))) .e))) .e)) .e)))) Tryz.func40 h
def L42:Y2:=
fun a b c d e=>
aa .ptr .eql b (.pointer none) fun f=>
Br f (
rt e (tP (iv 0) (iv 10)) d) (
∀f:Jt,(∀g:Value,∀h:Hp,(∀_:Fr,
Br g (
rt e (tP (iv 0) (iv 4)) h) (
CR e a 13 #[b] h fun i j=>
CR e a 102 #[i,c] j fun i j=>
lX i fun i k=>
lN k (iv 0) fun l=>
Br l (
rt e (tP (iv 0) k) j) (
CR e a 103 #[b,i] j fun i j=>
lX i fun i k=>
rt e (tP i k) j)))→f [g] h)→
CR e a 101 #[c] d fun d g=>
lN d (iv 0) fun d=>
Split d false (
aF c fun c=>
CR e a 61 #[b] g fun a b=>
lN c a fun a=>
ay vF vT a fun a=>
JE f [a] b) (
ay vT vT undef fun a=>
JE f [a] g))
theorem IT(h:L42 g a0 a1 H R):sc g 42 #[a0,a1] H R:=
  sd (.n .e (.n .e (.n (.h 1 [19] [0,1] .e .e) .e))) Tryz.func42 h
def L45:Y3:=
fun a b c d e f=>
lW e #[(iv 0),(iv 0),(iv 0),vF] 42 fun e g=>
CR f a 109 #[b,d] g fun g h=>
lN g (iv 0) fun i=>
Br i (
Build Tryz.prog 42 [] fun i=>
St 4 h (pt e) i fun i=>
av 4 i (pt e) fun j=>
rt f (tP j g) i) (
CR f a 46 #[b,c] h fun c g=>
lX c fun c h=>
lN h (iv 0) fun i=>
Br i (
Build Tryz.prog 42 [] fun i=>
St 4 g (pt e) i fun i=>
av 4 i (pt e) fun j=>
rt f (tP j h) i) (
CR f a 15 #[b] g fun g h=>
Build Tryz.prog 42 [(0,g)] fun g=>
lQ 4 h #[(iv 0),(iv 0),(iv 0),vF] 42 g fun g h=>
lD 0 (pt g) h fun i=>
Build Tryz.prog 175 [(0,b),(1,c),(2,i),(3,c),(4,d)] fun d=>
cW h (.cells (Value.cells d) 175 (0,0)) fun d h=>
CR f a 61 #[b] h fun h i=>
lS h (iv 1) fun h=>
lS h c fun h=>
aa .num .leq h c fun h=>
CR f a 110 #[(pt d),h] i fun _ i=>
CR f a 111 #[(pt d)] i fun _ i=>
CR f a 112 #[(pt d),c] i fun _ i=>
lM 3 (pt d) i fun j=>
Un .not h fun k=>
CR f a 110 #[(pt d),k] i fun _ i=>
CR f a 111 #[(pt d)] i fun _ i=>
∀k:Jt,(∀l:Hp,(∀_:Fr,
DR l fun m=>
lM 5 (pt d) m fun n=>
∀o:Hp,
CN (a.add o) 15 #[b] l fun b o=>
aM o m∧
ag 1 (pt g) fun p=>
∀_:Hp,
St 1 o p b fun b=>
aM b m∧
ag 2 (pt g) fun m=>
∀_:Hp,
St 1 b m n fun b=>
av 4 b (pt g) fun g=>
St 4 b (pt e) g fun b=>
av 4 b (pt e) fun e=>
rt f (tP e (iv 0)) b)→k [] l)→
lM 3 (pt d) i fun b=>
lN b j fun b=>
Br b (
lM 3 (pt d) i fun b=>
CR f a 112 #[(pt d),b] i fun _ b=>
JE k [] b) (
CR f a 112 #[(pt d),c] i fun _ b=>
CR f a 110 #[(pt d),h] b fun _ b=>
∃(c:Jt) (e:Mt),JE c [] b∧∀b:Hp,c [] b→∀_:Fr,
∀f:Jt,(∀g:Value,∀h:Hp,(∀_:Fr,
Br g (
aB c e [] h [] b) (
JE k [] h))→f [g] h)→
DR b fun c=>
lM 1 (pt d) c fun e=>
lM 3 (pt d) c fun g=>
lN e g fun e=>
Br e (
lM 7 (pt d) c fun c=>
∀d:Hp,
bI Tryz.prog (a.add d) c #[] b (fun a c=>
lE a (iv 0) fun a=>
ay vT a vF fun a=>
JE f [a] c) uQ) (
JE f [vF] b))))
theorem IS(h:L45 g a0 a1 a2 H R):sc g 45 #[a0,a1,a2] H R:=
  sd (hN 13 (.h 1 [] [0,6,11,12] (hN 4 (.n (.h 0 [] [0,6,11,12] (.n (.h 1 [102] [0,6,11,12] (.h 1 [] [] (hr 0 [1] 0 9 (.h 2 [9] [] (hr 0 [1] 10 7 .e) (hr 0 [1] 10 6 (.h 3 [16] [1] .e .e)))) .e) .e) .e) .e) .e)) (.n (.h 1 [] [] (.h 0 [0] [1] (hr 0 [1] 2 4 (.h 0 [1] [1] (hr 0 [1] 6 4 .e) .e)) .e) .e) .e))) Tryz.func45 h
def L46:Y2:=
fun a b c d e=>
aa .ptr .eql b (.pointer none) fun f=>
Br f (
rt e (tP (iv 0) (iv 10)) d) (
CR e a 113 #[b,c] d fun a d=>
Un .not a fun a=>
Br a (
rt e (tP (iv 0) (iv 2)) d) (
lM 6 b d fun a=>
lI 1 a c d fun a=>
rt e (tP a (iv 0)) d))
theorem wB(h:L46 g a0 a1 H R):sc g 46 #[a0,a1] H R:=
  sd .e Tryz.func46 h
def L47:Y2:=
fun a b c d e=>
lW d #[(iv 0),(iv 0),(iv 0),vF] 42 fun d f=>
CR e a 109 #[b,c] f fun f g=>
lN f (iv 0) fun h=>
Br h (
Build Tryz.prog 42 [] fun h=>
St 4 g (pt d) h fun h=>
av 4 h (pt d) fun i=>
rt e (tP i f) h) (
CR e a 15 #[b] g fun f g=>
Build Tryz.prog 42 [(0,f)] fun f=>
lQ 4 g #[(iv 0),(iv 0),(iv 0),vF] 42 f fun f g=>
CR e a 114 #[b] g fun g h=>
aF g fun i=>
∃(j:Jt) (k:Mt),JE j [(iv 0)] h∧∀h:Value,∀l:Hp,j [h] l→∀_:Fr,
lL h i fun i=>
Br i (
lI 1 g h l fun g=>
CR e a 45 #[b,g,c] l fun c g=>
lX c fun c _=>
lQ 4 g #[(iv 0),(iv 0),(iv 0),vF] 42 c fun c g=>
lD 2 (pt f) g fun i=>
lD 2 (pt c) g fun c=>
lA i c fun c=>
ag 2 (pt f) fun i=>
St 1 g i c fun c=>
lA h (iv 1) fun g=>
aB j k [g] c [h] l) (
CR e a 15 #[b] l fun a b=>
ag 1 (pt f) fun c=>
St 1 b c a fun a=>
av 4 a (pt f) fun b=>
St 4 a (pt d) b fun a=>
av 4 a (pt d) fun b=>
rt e (tP b (iv 0)) a))
theorem IQ(h:L47 g a0 a1 H R):sc g 47 #[a0,a1] H R:=
  sd (hN 3 (.n (.n .e (.n (.h 0 [25] [0,1,4,7,23,24] .e .e) .e)) .e)) Tryz.func47 h
def L48:Y2:=
fun a b c d e=>
lW d #[(iv 0),(iv 0),(iv 0),vF] 42 fun d f=>
CR e a 109 #[b,c] f fun f g=>
lN f (iv 0) fun h=>
Br h (
Build Tryz.prog 42 [] fun h=>
St 4 g (pt d) h fun h=>
av 4 h (pt d) fun i=>
rt e (.tuple #[i,(iv 0),f]) h) (
CR e a 15 #[b] g fun f g=>
Build Tryz.prog 42 [(0,f)] fun f=>
lQ 4 g #[(iv 0),(iv 0),(iv 0),vF] 42 f fun f g=>
∃(h:Jt) (i:Mt),JE h [(iv 1)] g∧∀g:Value,∀j:Hp,h [g] j→∀_:Fr,
CR e a 47 #[b,c] j fun a b=>
lX a fun a _=>
lQ 4 b #[(iv 0),(iv 0),(iv 0),vF] 42 a fun a b=>
lD 2 (pt f) b fun c=>
lD 2 (pt a) b fun k=>
lA c k fun c=>
ag 2 (pt f) fun k=>
St 1 b k c fun b=>
lD 1 (pt a) b fun c=>
ag 1 (pt f) fun k=>
St 1 b k c fun b=>
lD 1 (pt a) b fun c=>
lD 0 (pt a) b fun a=>
aa .num .geq c a fun a=>
Br a (
av 4 b (pt f) fun a=>
St 4 b (pt d) a fun a=>
av 4 a (pt d) fun c=>
rt e (.tuple #[c,g,(iv 0)]) a) (
lA g (iv 1) fun a=>
aB h i [a] b [g] j))
theorem IP(h:L48 g a0 a1 H R):sc g 48 #[a0,a1] H R:=
  sd (hN 4 (.n (.h 0 [9] [0,1,4,8] .e .e) .e)) Tryz.func48 h
def L49:Y3:=
fun a b c d e f=>
lW e #[(iv 0),(iv 0),(iv 0),vF] 42 fun e g=>
CR f a 115 #[b,c,d] g fun g h=>
lN g (iv 0) fun i=>
Br i (
Build Tryz.prog 42 [] fun i=>
St 4 h (pt e) i fun i=>
av 4 i (pt e) fun j=>
rt f (tP j g) i) (
lE c (bi 1) fun g=>
Br g (
CR f a 47 #[b,d] h fun g i=>
lX g fun g j=>
St 4 i (pt e) g fun g=>
av 4 g (pt e) fun i=>
rt f (tP i j) g) (
lE c (bi 2) fun g=>
Br g (
CR f a 48 #[b,d] h fun d g=>
lX d fun i _=>
Ext 2 d fun d=>
lQ 4 g #[(iv 0),(iv 0),(iv 0),vF] 42 i fun g i=>
av 4 i (pt g) fun g=>
St 4 i (pt e) g fun g=>
av 4 g (pt e) fun i=>
rt f (tP i d) g) (
∀d:Jt,(∀g:Value,∀i:Hp,(∀_:Fr,
Br g (
CR f a 100 #[c] i fun j k=>
CR f a 22 #[b,j] k fun j k=>
lX j fun j l=>
St 4 k (pt e) j fun j=>
av 4 j (pt e) fun k=>
rt f (tP k l) j) (
lE c (bi 6) fun j=>
Br j (
CR f a 25 #[b] i fun j k=>
lX j fun j l=>
St 4 k (pt e) j fun j=>
av 4 j (pt e) fun k=>
rt f (tP k l) j) (
CR f a 15 #[b] i fun j k=>
CR f a 15 #[b] k fun a b=>
Build Tryz.prog 42 [(0,j),(1,a)] fun a=>
St 4 b (pt e) a fun a=>
av 4 a (pt e) fun b=>
rt f (tP b (iv 0)) a)))→d [g] i)→
lE c (bi 3) fun a=>
Br a (
JE d [a] h) (
lE c (bi 4) fun a=>
Br a (
JE d [a] h) (
lE c (bi 5) fun a=>
JE d [a] h)))))
theorem gk(h:L49 g a0 a1 a2 H R):sc g 49 #[a0,a1,a2] H R:=
  sd (.n .e (.n .e (.n (.n .e (.n (hN 4 (.h 1 [39] [0,1,6,20] .e .e)) .e)) .e))) Tryz.func49 h
def L51:Y2:=
fun a b c d e=>
CR e a 116 #[b] d fun d f=>
lX d fun d g=>
lN g (iv 0) fun g=>
lO g (fun g=>
lL b (iv 1) fun h=>
(lV f h g)) fun g=>
lO (Value.bool g) (fun g=>
lL c (iv 2) fun h=>
(lV f h g)) fun g=>
lO (Value.bool g) (fun g=>
lG c (iv 1048576) fun h=>
(lV f h g)) fun g=>
Br (Value.bool g) (
rt e (tP (.pointer none) (iv 1)) f) (
CR e a 117 #[b] f fun f g=>
lX f fun f h=>
lN h (iv 0) fun i=>
Br i (
rt e (tP (.pointer none) h) g) (
CR e a 118 #[c,f] g fun c f=>
lX c fun c g=>
lQ 4 f #[(.pointer none),(.pointer none),(.slice none 0 0),(.slice none 0 0)] 115 c fun c f=>
lN g (iv 0) fun h=>
Br h (
rt e (tP (.pointer none) g) f) (
DR f fun g=>
av 4 g (pt c) fun c=>
CN a 57 #[d] f fun a f=>
aM f g∧
Build Tryz.prog 117 [(0,c),(1,b),(2,d),(3,a)] fun a=>
cW f (.cells (Value.cells a) 117 (0,0)) fun a b=>
aM b g∧
rt e (tP (pt a) (iv 0)) b)))
theorem IN(h:L51 g a0 a1 H R):sc g 51 #[a0,a1] H R:=
  sd (.n .e (.n .e (.n (.n (.h 0 [] [1] .e .e) .e) (hN 4 (.n (.h 0 [0,1,2,3,4,5,6,7,8] [] .e .e) .e))))) Tryz.func51 h
def L54:Y2:=
fun a b c d e=>
CR e a 51 #[b,c] d fun d f=>
lX d fun d g=>
∀h:Jt,(∀i:Value,∀j:Hp,(∀_:Fr,
Br i (
rt e (.pointer none) j) (
Build Tryz.prog 30 [(0,d),(1,b)] fun k=>
cW j (.cells (Value.cells k) 30 (0,0)) fun k l=>
rt e (pt k) l))→h [i] j)→
lN g (iv 0) fun g=>
Split g false (
aa .ptr .eql d (.pointer none) fun g=>
ay vF vT g fun g=>
Split g false (
CR e a 61 #[d] f fun g i=>
lN g b fun b=>
ay vF vT b fun b=>
Split b false (
CR e a 65 #[d] i fun b g=>
lN b c fun b=>
ay vF vT b fun b=>
Split b false (
CR e a 15 #[d] g fun a b=>
lN a (iv 0) fun a=>
ay vF vT a fun a=>
JE h [a] b) (
ay vT vT undef fun a=>
JE h [a] g)) (
ay vT vT undef fun a=>
ay a vT undef fun a=>
JE h [a] i)) (
ay vT vT undef fun a=>
ay a vT undef fun a=>
ay a vT undef fun a=>
JE h [a] f)) (
ay vT vT undef fun a=>
ay a vT undef fun a=>
ay a vT undef fun a=>
ay a vT undef fun a=>
JE h [a] f)
theorem IM(h:L54 g a0 a1 H R):sc g 54 #[a0,a1] H R:=
  sd (.n .e (.n .e (.n (.h 1 [35] [0,5] .e .e) .e))) Tryz.func54 h
variable {g:Gh} {a0 a1 a2 a3 a4 a5 a6 a7 a8 a9 rD rC Wh Wg Wf We:Value} {H:Hp} {R:Rt}
def L55:Y2:=
fun a b c d e=>
cW d (.cells (Value.cells c) 106 (0,0)) fun c d=>
lD 2 (pt c) d fun f=>
CR e a 126 #[b,f] d fun d f=>
lX d fun d g=>
lQ 2 f #[(iv 0),(.slice none 0 0)] 57 g fun f g=>
lD 3 (pt c) g fun h=>
CR e a 126 #[b,h] g fun g h=>
lX g fun g i=>
lQ 2 h #[(iv 0),(.slice none 0 0)] 57 i fun h i=>
lD 4 (pt c) i fun j=>
CR e a 126 #[b,j] i fun i j=>
lX i fun i k=>
lQ 2 j #[(iv 0),(.slice none 0 0)] 57 k fun j k=>
av 6 k (pt c) fun l=>
av 2 k (pt f) fun f=>
av 2 k (pt h) fun h=>
av 2 k (pt j) fun j=>
CR e a 127 #[b,l,f,h,j] k fun f h=>
lX f fun f j=>
lQ 2 h #[(iv 0),(.slice none 0 0)] 57 f fun f h=>
av 6 h (pt c) fun k=>
CR e a 128 #[b,k,d,g,i] h fun d g=>
lX d fun d h=>
lN j (iv 0) fun i=>
Br i (
rt e vF g) (
DR g fun i=>
av 2 i (pt f) fun j=>
lM 0 b i fun k=>
aq Tryz.prog 28 1 [(0,j)] g fun g j=>
aM j i∧
CN a 64 #[b,g] j fun g j=>
aM j i∧
lA g (iv 2) fun g=>
CN a 65 #[k] j fun j k=>
aM k i∧
aa .num .leq g j fun g=>
lE h (iv 9) fun i=>
Br i (
lE d (ui 0) fun i=>
lU i (fun i=>
Un .not g fun j=>
df j false (fun j=>
lD 0 (pt c) k fun c=>
aa .num .rem c (bi 9) fun c=>
lE c (bi 8) fun c=>
(lV k c j)) (fun j=>vT=Value.bool j) fun j=>∀_:Fr,
(lV k (Value.bool j) i)) fun i=>
rt e (Value.bool i) k) (
lN h (iv 0) fun c=>
lO c (fun c=>
Un .not g fun g=>
(lV k g c)) fun c=>
Br (Value.bool c) (
rt e vF k) (
av 2 k (pt f) fun c=>
CR e a 129 #[b,d,c] k fun _ a=>
rt e vT a)))
theorem IL(h:L55 g a0 a1 H R):sc g 55 #[a0,a1] H R:=
  sd (hN 7 (.n (.h 0 [0,1,5,6,7,8,2,3,4,9,10,11] [] .e .e) (.n (.n .e (.n (.n (.h 0 [] [1] .e .e) .e) .e)) (.n (.n (.h 0 [] [1] .e .e) .e) .e)))) Tryz.func55 h
def L56:Y2:=
fun a b c d e=>
cW d (.cells (Value.cells c) 109 (0,0)) fun c d=>
∀f:Jt,(∀g:Hp,(∀_:Fr,
rt e vT g)→f [] g)→
lD 0 (pt c) d fun g=>
aa .num .rem g (bi 6) fun g=>
∀h:Jt,(∀i:Value,∀j:Hp,(∀_:Fr,
Br i (
DR j fun k=>
lD 1 (pt c) k fun l=>
aQ .i64 l fun l=>
lM 1 b k fun m=>
aa .num .rem l m fun l=>
lD 2 (pt c) k fun m=>
lD 3 (pt c) k fun n=>
CN a 130 #[b,l,m,n] j fun l m=>
aM m k∧
rt e l m) (
lE g (bi 2) fun k=>
Br k (
lD 2 (pt c) j fun k=>
CR e a 126 #[b,k] j fun k l=>
lX k fun k m=>
lQ 2 l #[(iv 0),(.slice none 0 0)] 57 m fun l m=>
lM 0 b m fun n=>
CR e a 121 #[n,k] m fun m n=>
lN m (iv 0) fun m=>
Br m (
rt e vF n) (
av 2 n (pt l) fun l=>
CR e a 129 #[b,k,l] n fun _ k=>
JE f [] k)) (
lE g (bi 3) fun k=>
Br k (
lM 2 b j fun k=>
aF k fun k=>
lE k (iv 0) fun k=>
Br k (
rt e vT j) (
lD 2 (pt c) j fun k=>
aQ .i64 k fun k=>
lM 2 b j fun l=>
aF l fun l=>
aa .num .rem k l fun k=>
DR j fun l=>
lM 0 b l fun m=>
lM 2 b l fun n=>
lI 1 n k l fun n=>
CN a 131 #[m,n] j fun m n=>
aM n l∧
lN m (iv 0) fun l=>
Br l (
rt e vF n) (
DR n fun l=>
lM 2 b l fun m=>
lM 2 b l fun o=>
lM 2 b l fun p=>
aF p fun p=>
lS p (iv 1) fun p=>
lI 1 o p l fun l=>
an 1 m k fun m=>
St 1 n m l fun l=>
DR l fun m=>
lM 3 b m fun n=>
lM 3 b m fun o=>
lM 3 b m fun p=>
aF p fun p=>
lS p (iv 1) fun p=>
an 2 o p fun o=>
av 2 m o fun m=>
an 2 n k fun k=>
St 2 l k m fun k=>
DR k fun l=>
lM 2 b l fun m=>
lM 2 b l fun l=>
aF l fun l=>
lS l (iv 1) fun l=>
ef 1 m none (some l) fun l=>
lC 2 b fun m=>
St 1 k m l fun k=>
DR k fun l=>
lM 3 b l fun m=>
lM 3 b l fun l=>
aF l fun l=>
lS l (iv 1) fun l=>
ef 2 m none (some l) fun l=>
lC 3 b fun m=>
St 1 k m l fun k=>
JE f [] k))) (
lE g (bi 4) fun k=>
Br k (
lM 1 b j fun k=>
lL k (iv 2) fun k=>
Br k (
lM 0 b j fun k=>
CR e a 17 #[k,(iv 0)] j fun k l=>
lE k (iv 1) fun k=>
rt e k l) (
DR j fun k=>
lD 1 (pt c) k fun c=>
aQ .i64 c fun c=>
lM 1 b k fun l=>
lS l (iv 1) fun l=>
aa .num .rem c l fun c=>
CN a 132 #[b,c] j fun c l=>
aM l k∧
rt e c l)) (
lM 0 b j fun b=>
CR e a 133 #[b] j fun _ a=>
JE f [] a)))))→h [i] j)→
lE g (bi 0) fun a=>
Br a (
JE h [a] d) (
lE g (bi 1) fun a=>
JE h [a] d)
theorem IK(h:L56 g a0 a1 H R):sc g 56 #[a0,a1] H R:=
  sd (.n .e (.h 1 [] [] (.n .e (.n (.h 1 [16] [0,3,10] .e (.n (.n (.h 0 [0,1,2,3,4,5,6,7,8,9,10,11,12,13,14] [] .e .e) .e) (hN 3 (.n (.n .e (.n .e (.n (.n (.h 0 [0,1,2,3,4,5,6,7,8,9,10,11,12] [] .e .e) .e) (.n (.h 0 [0,1,2,3,4,5,6,7,8,9,10,11,12,13,14,15,16,17,18] [] .e .e) (.n (.h 0 [0,1,2,3,4,5,6,7,8,9,10,11,12,13,14,15,16,17,18] [] .e .e) (.n (.h 0 [0,1,2,3,4,5,6,7,8,9,10,11,12,13,14] [] .e .e) (.h 0 [0,1,2,3,4,5,6,7,8,9,10,11,12,13,14] [] .e .e))))))) (.n .e (.n (.n .e (.n (.h 0 [0,1,2,3,4,5,6,7,8,9,10,11] [] .e .e) .e)) .e)))))) .e)) .e)) Tryz.func56 h
def L57:Y1:=
fun _ a b c=>
aa .slice .eql a (.slice none 0 0) fun d=>
Br d (
rt c (.slice none 0 0) b) (
aq Tryz.prog 25 0 [] b fun b d=>
App Tryz.prog 3 1 8 (iv 0) d b a fun a b=>
rt c a b)
theorem IJ(h:L57 g a0 H R):sc g 57 #[a0] H R:=
  sd .e Tryz.func57 h
def L58:Y1:=
fun _ a b c=>
aa .ptr .eql a (.pointer none) fun d=>
Br d (
rt c (iv 0) b) (
lM 3 a b fun a=>
rt c a b)
theorem II(h:L58 g a0 H R):sc g 58 #[a0] H R:=
  sd .e Tryz.func58 h
def L59:Y2:=
fun a b c d e=>
lM 5 b d fun f=>
lI 1 f c d fun f=>
lM 5 b d fun g=>
lA c (iv 1) fun h=>
lI 1 g h d fun g=>
CR e a 134 #[b,f,g] d fun d h=>
DR h fun _=>
lC 0 b fun i=>
CN a 136 #[b,f,d] h fun h j=>
CN a 135 #[i,h] j fun h i=>
Un .not h fun h=>
Br h (
rt e vF i) (
aF d fun h=>
∃(j:Jt) (k:Mt),JE j [(iv 0)] i∧∀i:Value,∀l:Hp,j [i] l→∀_:Fr,
lL i h fun h=>
Br h (
an 8 d i fun h=>
av 8 l h fun h=>
lQ 8 l #[(ui 0),(iv 0),(ui 0),(ui 0),(ui 0),(ui 0),(ui 0),(ui 0)] 203 h fun h m=>
DR m fun n=>
lC 0 b fun o=>
ag 1 o fun o=>
Ld n o fun o=>
ag 1 (pt h) fun h=>
av 3 n h fun h=>
CN a 137 #[o,h] m fun _ h=>
lA i (iv 1) fun m=>
aB j k [m] h [i] l) (
aF d fun h=>
∃(i:Jt) (j:Mt),JE i [(iv 0)] l∧∀k:Value,∀l:Hp,i [k] l→∀_:Fr,
lL k h fun h=>
Br h (
an 8 d k fun h=>
av 8 l h fun h=>
lQ 8 l #[(ui 0),(iv 0),(ui 0),(ui 0),(ui 0),(ui 0),(ui 0),(ui 0)] 203 h fun h m=>
DR m fun n=>
lC 0 b fun o=>
lD 4 (pt h) n fun p=>
lD 6 (pt h) n fun n=>
CN a 138 #[o,f,p,n] m fun m n=>
lC 0 b fun o=>
CR e a 139 #[o,m] n fun _ n=>
DR n fun o=>
lC 0 b fun p=>
lD 5 (pt h) o fun q=>
lD 7 (pt h) o fun o=>
CN a 138 #[p,f,q,o] n fun n o=>
lC 0 b fun p=>
CR e a 139 #[p,n] o fun _ o=>
Build Tryz.prog 161 [(0,g),(1,m),(2,n)] fun m=>
lQ 3 o #[(iv 0),(ui 0),(ui 0)] 161 m fun m n=>
DR n fun o=>
lC 0 b fun p=>
ag 0 p fun p=>
Ld o p fun p=>
lD 0 (pt h) o fun q=>
av 3 o (pt m) fun o=>
CN a 140 #[p,q,o] n fun _ n=>
DR n fun o=>
lC 0 b fun p=>
ag 1 p fun p=>
Ld o p fun p=>
av 3 o (pt m) fun m=>
lD 0 (pt h) o fun h=>
CN a 141 #[p,m,h] n fun _ h=>
lA k (iv 1) fun m=>
aB i j [m] h [k] l) (
aF d fun h=>
∃(i:Jt) (j:Mt),JE i [(iv 0)] l∧∀k:Value,∀l:Hp,i [k] l→∀_:Fr,
lL k h fun h=>
Br h (
an 8 d k fun d=>
av 8 l d fun d=>
lQ 8 l #[(ui 0),(iv 0),(ui 0),(ui 0),(ui 0),(ui 0),(ui 0),(ui 0)] 203 d fun d h=>
DR h fun m=>
lC 0 b fun n=>
ag 1 (pt d) fun o=>
ag 1 o fun o=>
Ld m o fun m=>
CN a 142 #[n,m] h fun _ h=>
DR h fun m=>
lC 0 b fun n=>
ag 1 (pt d) fun d=>
ag 2 d fun d=>
Ld m d fun d=>
CN a 142 #[n,d] h fun _ a=>
lA k (iv 1) fun d=>
aB i j [d] a [k] l) (
DR l fun a=>
lM 5 b a fun d=>
lM 5 b a fun a=>
lA c (iv 1) fun h=>
an 1 d c fun d=>
St 1 l d g fun d=>
an 1 a h fun a=>
St 1 d a f fun a=>
DR a fun d=>
lM 6 b d fun h=>
lM 6 b d fun b=>
lA c (iv 1) fun d=>
an 1 h f fun f=>
St 1 a f d fun a=>
an 1 b g fun b=>
St 1 a b c fun a=>
rt e vT a))))
theorem IG(h:L59 g a0 a1 H R):sc g 59 #[a0,a1] H R:=
  sd (hN 3 (.n (.n (.h 0 [0,1,2,3,4,5,6,7,8] [] .e .e) .e) (.n (.n .e (.n (.h 0 [47] [0,1,5,6,7,45,46] (.n .e (.n .e (.n (.n (.n .e (.h 0 [0,1,2,3,4,5,6,7] [] .e .e)) .e) .e))) .e) .e)) (.n (.n .e (.n (.h 0 [62] [0,1,5,6,7,60,61] (.n .e (.n .e (.n (.n (.n .e (.n (.h 0 [0,1,2,3,4,5,6,7,8,9] [] .e .e) (.n .e (.n (.h 0 [0,1,2,3,4,5,6,7,8,9] [] .e .e) (.n .e (.n .e (.n (.h 0 [0,1,2,3,4,5,6,7,8] [] .e .e) (.h 0 [0,1,2,3,4,5,6,7,8] [] .e .e)))))))) .e) .e))) .e) .e)) (.n (.n .e (.n (.h 0 [119] [0,1,5,6,117,118] (.n .e (.n .e (.n (.n (.n .e (.n (.h 0 [0,1,2,3,4,5,6] [] .e .e) (.h 0 [0,1,2,3,4,5,6] [] .e .e))) .e) .e))) .e) .e)) (.n (.h 0 [0,1,2,3,4,5,6,7,8,9,10,11,12,13,14,15,16] [] .e .e) (.n (.h 0 [0,1,2,3,4,5,6,7,8,9,10,11,12,13,14,15,16] [] .e .e) .e))))))) Tryz.func59 h
def L60:Y2:=
fun _ a b c d=>
aa .ptr .eql a (.pointer none) fun a=>
Br a (
rt d (iv 10) c) (
lL b (iv 2) fun a=>
lO a (fun a=>
lG b (iv 4) fun b=>
(lV c b a)) fun a=>
Br (Value.bool a) (
rt d (iv 1) c) (
rt d (iv 0) c))
theorem IF(h:L60 g a0 a1 H R):sc g 60 #[a0,a1] H R:=
  sd (.n .e (.n (.n (.n .e (.n .e (.n (.h 0 [] [1] .e .e) .e))) .e) .e)) Tryz.func60 h
def L61:Y1:=
fun _ a b c=>
aa .ptr .eql a (.pointer none) fun d=>
Br d (
rt c (iv 0) b) (
lM 4 a b fun a=>
rt c a b)
theorem IE(h:L61 g a0 H R):sc g 61 #[a0] H R:=
  sd .e Tryz.func61 h
def L62:Y2:=
fun a b c d e=>
cW d (.cells (Value.cells b) 26 (0,0)) fun b d=>
DR d fun f=>
Ld f (pt b) fun g=>
Ld f (pt b) fun h=>
CN a 15 #[g] d fun d g=>
aM g f∧
CN a 15 #[h] g fun g h=>
aM h f∧
Build Tryz.prog 42 [(0,d),(1,g)] fun d=>
Build Tryz.prog 125 [(1,d)] fun d=>
cW h (.cells (Value.cells d) 125 (0,0)) fun d g=>
aM g f∧
CR e a 14 #[c] g fun a c=>
lX a fun a _=>
lQ 1 c #[(.slice none 0 0)] 25 a fun a c=>
lC 0 (pt d) fun f=>
St 1 c f (.func (.func 143) #[] #[(pt b),(pt a)]) fun a=>
rt e (pt d) a
theorem ID(h:L62 g a0 a1 H R):sc g 62 #[a0,a1] H R:=
  sd (.n .e (.n (.h 0 [0,2,1,3,4,5,6,7] [] .e .e) .e)) Tryz.func62 h
def L63:Y3:=
fun a b c d e f=>
DR e fun g=>
lC 1 b fun h=>
ag 2 h fun h=>
Ld g h fun h=>
lM 0 b g fun i=>
bI Tryz.prog a i #[d] e (fun d e=>
aM e g∧
lA h d fun d=>
lC 1 b fun g=>
ag 2 g fun g=>
St 1 e g d fun d=>
CR f a 15 #[c] d fun a c=>
lC 1 b fun b=>
ag 1 b fun b=>
St 1 c b a fun a=>
rt f (.tuple #[]) a) uQ
theorem IC(h:L63 g a0 a1 a2 H R):sc g 63 #[a0,a1,a2] H R:=
  sd (.n (.h 0 [0,1,2,3,4,5,6,7,8,9,10,11,12,13,14,15] [] .e .e) .e) Tryz.func63 h
def L64:Y2:=
fun a b c d e=>
aq Tryz.prog 28 0 [] d fun d f=>
lM 3 b f fun g=>
App Tryz.prog 57 2 32 (.agg #[(iv 0),(.slice none 0 0)]) f d g fun d f=>
App Tryz.prog 57 2 32 (.agg #[(iv 0),(.slice none 0 0)]) f d c fun c d=>
lM 0 b d fun b=>
CR e a 13 #[b] d fun b d=>
CR e a 38 #[c,b] d fun a b=>
lX a fun a c=>
lN c (iv 0) fun c=>
Br c (
e (.returned (iv (-1))) b) (
rt e a b)
theorem IB(h:L64 g a0 a1 H R):sc g 64 #[a0,a1] H R:=
  sd .e Tryz.func64 h
def L65:Y1:=
fun a b c d=>
aa .ptr .eql b (.pointer none) fun e=>
Br e (
rt d (iv 0) c) (
lC 0 b fun b=>
ag 0 b fun b=>
Ld c b fun b=>
CR d a 146 #[b] c fun a b=>
rt d a b)
theorem IA(h:L65 g a0 H R):sc g 65 #[a0] H R:=
  sd .e Tryz.func65 h
def L66:Y4:=
fun a b c d e f g=>
cW f (.cells (Value.cells d) 57 (0,0)) fun d f=>
lE e (iv 0) fun h=>
Br h (
rt g vF f) (
lM 0 b f fun h=>
CR g a 97 #[h,c] f fun f h=>
lX f fun f i=>
lQ 3 h #[(iv 0),(ui 0),(ui 0)] 161 f fun f h=>
lN i (iv 0) fun i=>
Br i (
rt g vF h) (
lL c (ui 2) fun i=>
Br i (
lM 1 b h fun i=>
lE c (ui 1) fun c=>
CR g a 147 #[i,c] h fun c i=>
lX c fun c j=>
lQ 2 i #[(iv 0),(.slice none 0 0)] 57 c fun c i=>
∀k:Jt,(∀l:Value,∀m:Hp,(∀_:Fr,
rt g l m)→k [l] m)→
lE j (iv 0) fun j=>
Split j true (
lD 0 (pt f) i fun j=>
lE j (iv (-1)) fun j=>
ay vT j vF fun j=>
Split j true (
av 2 i (pt c) fun c=>
av 2 i (pt d) fun j=>
CR g a 67 #[c,j] i fun c j=>
ay vT c vF fun c=>
JE k [c] j) (
ay vF undef vF fun c=>
JE k [c] i)) (
ay vF undef vF fun c=>
ay c undef vF fun c=>
JE k [c] i)) (
DR h fun c=>
lM 0 b c fun i=>
lD 0 (pt f) c fun j=>
CN a 46 #[i,j] h fun h i=>
aM i c∧
lX h fun c h=>
av 2 i (pt d) fun j=>
lD 0 (pt f) i fun k=>
CR g a 148 #[j,k,vF] i fun i j=>
lX i fun i k=>
lQ 2 j #[(iv 0),(.slice none 0 0)] 57 i fun i j=>
av 2 j (pt d) fun d=>
lD 0 (pt f) j fun l=>
CR g a 148 #[d,l,vT] j fun d j=>
lX d fun d l=>
lQ 2 j #[(iv 0),(.slice none 0 0)] 57 d fun d j=>
∀m:Jt,(∀n:Value,∀o:Hp,(∀_:Fr,
Br n (
rt g vF o) (
∀p:Jt,(∀q:Value,∀r:Hp,(∀_:Fr,
rt g q r)→p [q] r)→
lD 1 (pt f) o fun q=>
av 2 o (pt i) fun i=>
lS e (iv 1) fun r=>
CR g a 66 #[b,q,i,r] o fun i q=>
Split i true (
lD 2 (pt f) q fun i=>
av 2 q (pt d) fun d=>
lS e (iv 1) fun e=>
CR g a 66 #[b,i,d,e] q fun d e=>
ay vT d vF fun d=>
JE p [d] e) (
ay vF undef vF fun d=>
JE p [d] q)))→m [n] o)→
lN h (iv 0) fun d=>
Split d false (
lN k (iv 0) fun d=>
ay vF vT d fun d=>
Split d false (
lN l (iv 0) fun d=>
ay vF vT d fun d=>
Split d false (
lD 1 (pt f) j fun d=>
lD 2 (pt f) j fun e=>
lE d e fun d=>
ay vF vT d fun d=>
Split d false (
lD 1 (pt f) j fun d=>
CR g a 149 #[b,d,c] j fun d e=>
Un .not d fun d=>
ay vF vT d fun d=>
Split d false (
lD 2 (pt f) e fun d=>
CR g a 149 #[b,d,c] e fun a b=>
Un .not a fun a=>
ay vF vT a fun a=>
JE m [a] b) (
ay vT vT undef fun a=>
JE m [a] e)) (
ay vT vT undef fun a=>
ay a vT undef fun a=>
JE m [a] j)) (
ay vT vT undef fun a=>
ay a vT undef fun a=>
ay a vT undef fun a=>
JE m [a] j)) (
ay vT vT undef fun a=>
ay a vT undef fun a=>
ay a vT undef fun a=>
ay a vT undef fun a=>
JE m [a] j)) (
ay vT vT undef fun a=>
ay a vT undef fun a=>
ay a vT undef fun a=>
ay a vT undef fun a=>
ay a vT undef fun a=>
JE m [a] j))))
theorem wA(h:L66 g a0 a1 a2 a3 H R):sc g 66 #[a0,a1,a2,a3] H R:=
  sd (hN 4 (.n (.n .e (.n (.n .e (.h 1 [8] [] .e .e)) .e)) (.n (.h 0 [0,1,2,3,4,5,6,7,8,9,10,11] [] .e .e) (.n .e (.n .e (.n (.h 1 [112] [0,3,9,15,17] .e .e) (.h 1 [8] [] .e .e))))))) Tryz.func66 h
def L67:Y2:=
fun _ a b c d=>
cW c (.cells (Value.cells a) 57 (0,0)) fun a c=>
cW c (.cells (Value.cells b) 57 (0,0)) fun b c=>
lD 0 (pt a) c fun e=>
lD 0 (pt b) c fun f=>
lN e f fun e=>
lO e (fun e=>
lD 1 (pt a) c fun f=>
aF f fun f=>
lD 1 (pt b) c fun g=>
aF g fun g=>
lN f g fun f=>
(lV c f e)) fun e=>
Br (Value.bool e) (
rt d vF c) (
∃(e:Jt) (f:Mt),JE e [(iv 0)] c∧∀c:Value,∀g:Hp,e [c] g→∀_:Fr,
lD 1 (pt a) g fun h=>
aF h fun h=>
lL c h fun h=>
Br h (
lD 1 (pt a) g fun a=>
lI 1 a c g fun a=>
lD 1 (pt b) g fun b=>
lI 1 b c g fun b=>
lN a b fun a=>
Br a (
rt d vF g) (
lA c (iv 1) fun a=>
aB e f [a] g [c] g)) (
rt d vT g))
theorem Iz(h:L67 g a0 a1 H R):sc g 67 #[a0,a1] H R:=
  sd (.n .e (.n (.n (.h 0 [] [1] .e .e) .e) (.n (.n .e (.n (.h 0 [5] [2,3] .e .e) .e)) .e))) Tryz.func67 h
def L68:Y3:=
fun a b c d e f=>
∃(g:Jt) (h:Mt),JE g [(iv 0)] e∧∀e:Value,∀i:Hp,g [e] i→∀_:Fr,
lA e d fun d=>
CR f a 61 #[c] i fun j k=>
aa .num .leq d j fun d=>
Br d (
CR f a 63 #[b,c,e] k fun _ a=>
lA e (iv 1) fun b=>
aB g h [b] a [e] i) (
rt f (.tuple #[]) k)
theorem Iy(h:L68 g a0 a1 a2 H R):sc g 68 #[a0,a1,a2] H R:=
  sd (.n .e (.n (.h 0 [6] [0,1,2] .e .e) .e)) Tryz.func68 h
def L70:Y1:=
fun _ a b c=>
aa .ptr .eql a (.pointer none) fun d=>
Br d (
rt c (.slice none 0 0) b) (
lC 0 a fun a=>
ag 3 a fun a=>
Ld b a fun a=>
aF a fun d=>
∃(e:Jt) (f:Mt),JE e [(.slice none 0 0),(iv 0)] b∧∀b g:Value,∀h:Hp,e [b,g] h→∀_:Fr,
lL g d fun d=>
Br d (
∀d:Jt,(∀i:Value,∀j:Hp,(∀_:Fr,
lA g (iv 1) fun k=>
aB e f [i,k] j [b,g] h)→d [i] j)→
lI 1 a g h fun a=>
lG a (Value.int .i32 0) fun a=>
Br a (
aQ .u32 g fun a=>
aq Tryz.prog 27 1 [(0,a)] h fun a e=>
App Tryz.prog 77 1 4 (ui 0) e b a fun a e=>
JE d [a] e) (
JE d [b] h)) (
rt c b h))
theorem Ix(h:L70 g a0 H R):sc g 70 #[a0] H R:=
  sd (hN 3 (.n (.n .e (.n (.h 0 [3,14] [12,13] (.n .e (.n .e (.h 1 [3] [12,13,14] .e .e))) .e) .e)) .e)) Tryz.func70 h
def L71:Y2:=
fun a b c d e=>
lW d #[(iv 0),(.slice none 0 0)] 57 fun d f=>
aq Tryz.prog 27 1 [(0,c)] f fun f g=>
CR e a 150 #[b,f] g fun f g=>
lN f (iv 0) fun h=>
Br h (
Build Tryz.prog 57 [] fun h=>
St 2 g (pt d) h fun h=>
av 2 h (pt d) fun i=>
rt e (tP i f) h) (
CR e a 61 #[b] g fun f g=>
lQ 1 g #[(iv 0)] 3 f fun f g=>
Ld g (pt f) fun h=>
lG h (iv 16) fun h=>
Br h (
Build Tryz.prog 57 [] fun h=>
St 2 g (pt d) h fun h=>
av 2 h (pt d) fun i=>
rt e (tP i (iv 6)) h) (
Ld g (pt f) fun h=>
CR e a 147 #[h,vF] g fun g h=>
lX g fun g _=>
lQ 2 h #[(iv 0),(.slice none 0 0)] 57 g fun g h=>
Ld h (pt f) fun i=>
CR e a 147 #[i,vT] h fun h i=>
lX h fun h _=>
lQ 2 i #[(iv 0),(.slice none 0 0)] 57 h fun h i=>
av 2 i (pt g) fun g=>
av 2 i (pt h) fun h=>
CR e a 151 #[b,c,g,h,(.func (.func 152) #[] #[(pt f)])] i fun a b=>
St 2 b (pt d) a fun a=>
av 2 a (pt d) fun b=>
rt e (tP b (iv 0)) a))
theorem Iw(h:L71 g a0 a1 H R):sc g 71 #[a0,a1] H R:=
  sd .e Tryz.func71 h
def L72:Y1:=
fun a b c d=>
jQ c fun c e=>
jQ e fun e f=>
Build Tryz.prog 137 [(0,b),(3,c),(4,e)] fun c=>
cW f (.cells (Value.cells c) 137 (0,0)) fun c e=>
aF b fun f=>
lE f (iv 0) fun f=>
Br f (
rt d (tP (pt c) (iv 0)) e) (
CR d a 155 #[b] e fun e f=>
lX e fun _ e=>
lN e (iv 0) fun g=>
Br g (
rt d (tP (.pointer none) e) f) (
an 2 b (iv 0) fun e=>
ag 0 e fun e=>
Ld f e fun e=>
lC 1 (pt c) fun g=>
St 1 f g e fun e=>
aF b fun f=>
∃(g:Jt) (h:Mt),JE g [(iv 0)] e∧∀e:Value,∀i:Hp,g [e] i→∀_:Fr,
lL e f fun f=>
Br f (
an 2 b e fun b=>
av 2 i b fun b=>
lQ 2 i #[(iv 0),(.slice none 0 0)] 57 b fun b f=>
av 2 f (pt b) fun b=>
CR d a 156 #[b] f fun a b=>
lX a fun a _=>
lM 2 (pt c) b fun f=>
aQ .i64 a fun a=>
aa .num .or f a fun a=>
lC 2 (pt c) fun f=>
St 1 b f a fun a=>
lA e (iv 1) fun b=>
aB g h [b] a [e] i) (
rt d (tP (pt c) (iv 0)) i)))
theorem Iv(h:L72 g a0 H R):sc g 72 #[a0] H R:=
  sd (hN 5 (.n (.n .e (.n (.h 0 [37] [4,35,36] .e .e) .e)) .e)) Tryz.func72 h
def L73:Y3:=
fun a b c d e f=>
lM 2 b e fun g=>
aa .num .shr g d fun g=>
aa .num .and g (iv 1) fun g=>
lE g (iv 0) fun g=>
Br g (
rt f (iv 0) e) (
lM 2 b e fun g=>
aa .num .and c g fun c=>
Build Tryz.prog 226 [(0,c),(1,d)] fun c=>
lQ 2 e #[(iv 0),(iv 0)] 226 c fun c e=>
lM 3 b e fun g=>
av 2 e (pt c) fun h=>
iI Tryz.prog 226 (iv 0) true e g h fun g=>
lX g fun g h=>
∀i:Jt,(∀j:Value,∀k:Hp,(∀_:Fr,
rt f j k)→i [j] k)→
Un .not h fun f=>
Br f (
DR e fun f=>
lM 0 b f fun h=>
gD 2 1 (pt c) (iv 0) fun j=>
Ld f j fun j=>
aQ .u64 j fun j=>
CN a 157 #[h,j,d] e fun a d=>
aM d f∧
lX a fun a _=>
DR d fun f=>
lM 3 b f fun b=>
av 2 f (pt c) fun c=>
gn Tryz.prog 226 d b c a fun b=>
JE i [a] b) (
JE i [g] e))
theorem Iu(h:L73 g a0 a1 a2 H R):sc g 73 #[a0,a1,a2] H R:=
  sd (hN 4 (.h 1 [8] [] (.n .e (.n (.n (.h 0 [0,1,2,3,4,5,6,7,8,9,10,11,12] [] .e .e) (.h 0 [0,1,2,3,4,5,6] [] .e .e)) .e)) .e)) Tryz.func73 h
def L74:Y2:=
fun a b c d e=>
lM 2 b d fun f=>
aa .num .and c f fun c=>
lM 2 b d fun f=>
lE c f fun f=>
Br f (
rt e (iv 0) d) (
lM 4 b d fun f=>
mK (.int .i64) (iv 0) true d f c fun f=>
lX f fun f g=>
Br g (
rt e f d) (
lM 1 b d fun f=>
∃(g:Jt) (h:Mt),JE g [(iv (-1)),(iv 0)] d∧∀d i:Value,∀j:Hp,g [d,i] j→∀_:Fr,
lL i f fun f=>
Br f (
∀f:Jt,(∀k:Value,∀l:Hp,(∀_:Fr,
lA i (iv 1) fun m=>
aB g h [k,m] l [d,i] j)→f [k] l)→
lM 2 b j fun g=>
Un .xor g fun g=>
aa .num .or c g fun g=>
aa .num .shr g i fun g=>
aa .num .and g (iv 1) fun g=>
lE g (iv 1) fun g=>
Br g (
JE f [d] j) (
DR j fun _=>
aa .num .shl (iv 1) i fun g=>
aa .num .or c g fun g=>
CN a 73 #[b,c,i] j fun h i=>
CN a 74 #[b,g] i fun a g=>
lA h a fun a=>
lL d (iv 0) fun h=>
lO h (fun h=>
lL a d fun i=>
(lV g i h)) fun h=>
Br (Value.bool h) (
JE f [a] g) (
JE f [d] g))) (
lM 4 b j fun a=>
ei (.int .i64) j a c d fun a=>
rt e d a)))
theorem wz(h:L74 g a0 a1 H R):sc g 74 #[a0,a1] H R:=
  sd (hN 5 (.n (.n .e (.n (.h 0 [7,37] [0,1,36] (.n .e (.n .e (.h 1 [7] [0,1,36,37] (.n (.n .e (.n .e (.n (.h 0 [0,1,2,4,5,6,7,8,3,9,10,11] [] .e .e) (.n (.h 0 [] [1] .e .e) .e)))) .e) .e))) .e) .e)) .e)) Tryz.func74 h
def L75:Y1:=
fun _ a b c=>
∀d:Jt,(∀e f:Value,∀g:Hp,(∀_:Fr,
∀h:Jt,(∀i j:Value,∀k:Hp,(∀_:Fr,
∀l:Jt,(∀m n:Value,∀o:Hp,(∀_:Fr,
aQ .u8 m fun p=>
QY (.string (ByteArray.mk #[0,1,2,2,3,3,3,3,4,4,4,4,4,4,4,4,5,5,5,5,5,5,5,5,5,5,5,5,5,5,5,5,6,6,6,6,6,6,6,6,6,6,6,6,6,6,6,6,6,6,6,6,6,6,6,6,6,6,6,6,6,6,6,6,7,7,7,7,7,7,7,7,7,7,7,7,7,7,7,7,7,7,7,7,7,7,7,7,7,7,7,7,7,7,7,7,7,7,7,7,7,7,7,7,7,7,7,7,7,7,7,7,7,7,7,7,7,7,7,7,7,7,7,7,7,7,7,7,8,8,8,8,8,8,8,8,8,8,8,8,8,8,8,8,8,8,8,8,8,8,8,8,8,8,8,8,8,8,8,8,8,8,8,8,8,8,8,8,8,8,8,8,8,8,8,8,8,8,8,8,8,8,8,8,8,8,8,8,8,8,8,8,8,8,8,8,8,8,8,8,8,8,8,8,8,8,8,8,8,8,8,8,8,8,8,8,8,8,8,8,8,8,8,8,8,8,8,8,8,8,8,8,8,8,8,8,8,8,8,8,8,8,8,8,8,8,8,8,8,8,8,8,8,8,8,8])) p fun p=>
aQ .i64 p fun p=>
lA n p fun p=>
rt c p o)→l [m,n] o)→
aa .num .geq i (wi 256) fun c=>
Br c (
aa .num .shr i (wi 8) fun c=>
lA j (iv 8) fun m=>
JE l [c,m] k) (
JE l [i,j] k))→h [i,j] k)→
aa .num .geq e (wi 65536) fun c=>
Br c (
aa .num .shr e (wi 16) fun c=>
lA f (iv 16) fun i=>
JE h [c,i] g) (
JE h [e,f] g))→d [e,f] g)→
aa .num .geq a (wi 4294967296) fun c=>
Br c (
aa .num .shr a (wi 32) fun c=>
JE d [c,(iv 32)] b) (
JE d [a,(iv 0)] b)
theorem Is(h:L75 g a0 H R):sc g 75 #[a0] H R:=
  sd (.n .e (.h 1 [0,2] [] .e (.h 1 [0,2] [] .e (.h 1 [0,2] [] .e .e)))) Tryz.func75 h
def L76:Y0:=
fun _ a b=>
Build Tryz.prog 231 [] fun c=>
cW a (.cells (Value.cells c) 231 (0,0)) fun a c=>
rt b (pt a) c
theorem Ir(h:L76 g H R):sc g 76 #[] H R:=
  sd .e Tryz.func76 h
def L77:Y3:=
fun a b c d e f=>
aa .ptr .eql b (.pointer none) fun g=>
Br g (
rt f (iv 10) e) (
lM 1 b e fun g=>
mK (.int .i64) (iv 0) true e g c fun g=>
lX g fun _ g=>
Br g (
rt f (iv 11) e) (
∀g:Jt,(∀h:Hp,(∀_:Fr,
lM 0 b h fun i=>
Build Tryz.prog 233 [(0,c),(1,d)] fun c=>
aq Tryz.prog 229 1 [(0,c)] h fun c d=>
App Tryz.prog 233 2 16 (.agg #[(iv 0),(iv 0)]) d i c fun c d=>
lC 0 b fun i=>
St 1 d i c fun c=>
lM 0 b c fun d=>
aF d fun d=>
lS d (iv 1) fun d=>
CR f a 158 #[b,d] c fun _ a=>
rt f (iv 0) a)→g [] h)→
lM 1 b e fun a=>
aa .map .eql a (.map none) fun a=>
Br a (
jQ e fun a c=>
lC 1 b fun b=>
St 1 c b a fun a=>
JE g [] a) (
JE g [] e)))
theorem Iq(h:L77 g a0 a1 a2 H R):sc g 77 #[a0,a1,a2] H R:=
  sd (hN 3 (.h 1 [] [0,1,2] .e .e)) Tryz.func77 h
def L78:Y1:=
fun a b c d=>
aa .ptr .eql b (.pointer none) fun e=>
lO e (fun e=>
lM 0 b c fun f=>
aF f fun f=>
lE f (iv 0) fun f=>
(lV c f e)) fun e=>
Br (Value.bool e) (
rt d (.tuple #[(iv 0),(iv 0),(iv 10)]) c) (
lM 0 b c fun e=>
an 2 e (iv 0) fun e=>
av 2 c e fun e=>
lQ 2 c #[(iv 0),(iv 0)] 233 e fun c e=>
lM 0 b e fun f=>
aF f fun f=>
lS f (iv 1) fun f=>
lM 0 b e fun g=>
an 2 g f fun g=>
av 2 e g fun g=>
lQ 2 e #[(iv 0),(iv 0)] 233 g fun e g=>
lM 0 b g fun h=>
ef 2 h none (some f) fun h=>
lC 0 b fun i=>
St 1 g i h fun g=>
DR g fun h=>
lM 1 b h fun i=>
lD 0 (pt c) h fun h=>
oF (.int .i64) g i h fun g=>
∀h:Jt,(∀i:Hp,(∀_:Fr,
lD 0 (pt c) i fun j=>
lD 1 (pt c) i fun c=>
rt d (.tuple #[j,c,(iv 0)]) i)→h [] i)→
lG f (iv 0) fun c=>
Br c (
av 2 g (pt e) fun c=>
CR d a 159 #[b,(iv 0),c] g fun _ c=>
CR d a 160 #[b,(iv 0)] c fun _ a=>
JE h [] a) (
JE h [] g))
theorem wy(h:L78 g a0 H R):sc g 78 #[a0] H R:=
  sd (.n .e (.n .e (.n (.n (.h 0 [] [1] .e .e) .e) (hN 4 (.n (.h 0 [0,1,2,3,4,5,6] [] .e .e) (.h 1 [] [6] .e .e)))))) Tryz.func78 h
def L93:Y2:=
fun a b c d e=>
aa .ptr .eql b (.pointer none) fun f=>
Br f (
rt e (tP (iv 0) (iv 10)) d) (
CR e a 113 #[b,c] d fun d f=>
Un .not d fun d=>
Br d (
rt e (tP (iv 0) (iv 2)) f) (
lC 0 b fun b=>
ag 1 b fun b=>
Ld f b fun b=>
CR e a 171 #[b,c] f fun a b=>
lX a fun a c=>
rt e (tP a c) b))
theorem Ip(h:L93 g a0 a1 H R):sc g 93 #[a0,a1] H R:=
  sd .e Tryz.func93 h
def L95:Y2:=
fun _ a b c d=>
aa .ptr .eql a (.pointer none) fun e=>
lO e (fun e=>
aQ .i64 b fun f=>
lC 0 a fun g=>
ag 3 g fun g=>
Ld c g fun g=>
aF g fun g=>
aa .num .geq f g fun f=>
(lV c f e)) fun e=>
Br (Value.bool e) (
rt d (iv 0) c) (
lC 0 a fun a=>
ag 3 a fun a=>
Ld c a fun a=>
lI 1 a b c fun a=>
aQ .i64 a fun a=>
rt d a c)
theorem Io(h:L95 g a0 a1 H R):sc g 95 #[a0,a1] H R:=
  sd (.n .e (.n (.n (.h 0 [] [1] .e .e) .e) .e)) Tryz.func95 h
def L97:Y2:=
fun a b c d e=>
lW d #[(iv 0),(ui 0),(ui 0)] 161 fun d f=>
aa .ptr .eql b (.pointer none) fun g=>
Br g (
Build Tryz.prog 161 [] fun g=>
St 3 f (pt d) g fun g=>
av 3 g (pt d) fun h=>
rt e (tP h (iv 10)) g) (
lC 0 b fun g=>
CR e a 173 #[g,c] f fun f g=>
Un .not f fun f=>
Br f (
Build Tryz.prog 161 [] fun f=>
St 3 g (pt d) f fun f=>
av 3 f (pt d) fun h=>
rt e (tP h (iv 3)) f) (
lC 0 b fun b=>
CR e a 174 #[b,c] g fun a b=>
St 3 b (pt d) a fun a=>
av 3 a (pt d) fun b=>
rt e (tP b (iv 0)) a))
theorem Im(h:L97 g a0 a1 H R):sc g 97 #[a0,a1] H R:=
  sd .e Tryz.func97 h
def L99:Y2:=
fun a b c d e=>
CR e a 175 #[b] d fun d f=>
Un .not d fun d=>
Br d (
rt e (tP (.slice none 0 0) (iv 5)) f) (
∀d:Jt,(∀g:Value,∀h:Hp,(∀_:Fr,
Br g (
rt e (tP (.slice none 0 0) (iv 4)) h) (
aF c fun i=>
lG i (iv 16) fun i=>
Br i (
rt e (tP (.slice none 0 0) (iv 6)) h) (
CR e a 176 #[b] h fun i j=>
aF c fun k=>
∃(l:Jt) (m:Mt),JE l [(.slice none 0 0),i,(iv 0)] j∧∀i j n:Value,∀o:Hp,l [i,j,n] o→∀_:Fr,
lL n k fun k=>
Br k (
lI 1 c n o fun k=>
CR e a 177 #[j,k] o fun k p=>
lX k fun k q=>
aq Tryz.prog 25 1 [(0,q)] p fun p q=>
App Tryz.prog 3 1 8 (iv 0) q i p fun p q=>
lA n (iv 1) fun r=>
aB l m [p,k,r] q [i,j,n] o) (
rt e (tP i (iv 0)) o))))→d [g] h)→
aF b fun g=>
lG g (iv 0) fun g=>
Split g true (
aF c fun g=>
an 2 b (iv 0) fun b=>
ag 0 b fun b=>
Ld f b fun b=>
lN g b fun b=>
ay vT b vF fun b=>
Split b false (
CR e a 101 #[c] f fun b g=>
lE b (iv 4) fun b=>
ay vF vT b fun b=>
JE d [b] g) (
ay vT vT undef fun b=>
JE d [b] f)) (
ay vF undef vF fun b=>
CR e a 101 #[c] f fun a c=>
lE a (iv 4) fun a=>
ay b vT a fun a=>
JE d [a] c))
theorem Il(h:L99 g a0 a1 H R):sc g 99 #[a0,a1] H R:=
  sd (.n .e (.n .e (.n (.h 1 [31] [0,1] .e .e) (hN 3 (.n (.n .e (.n (.h 0 [6,7,39] [37,38] .e .e) .e)) .e))))) Tryz.func99 h
def L100:Y1:=
fun _ a b c=>
lS a (bi 3) fun a=>
aQ .i64 a fun a=>
lA a (iv 2) fun a=>
rt c a b
theorem Ff(h:L100 g a0 H R):sc g 100 #[a0] H R:=
  sd .e Tryz.func100 h
def L101:Y1:=
fun _ a b c=>
aF a fun d=>
cO 4 1 1 vF b d d fun b d=>
aF a fun e=>
∃(f:Jt) (g:Mt),JE f [(iv 0)] d∧∀d:Value,∀h:Hp,f [d] h→∀_:Fr,
lL d e fun e=>
Br e (
lI 1 a d h fun e=>
lL e (iv 0) fun i=>
lO i (fun i=>
aF a fun j=>
aa .num .geq e j fun j=>
(lV h j i)) fun i=>
lO (Value.bool i) (fun i=>
lI 1 b e h fun j=>
(lV h j i)) fun i=>
Br (Value.bool i) (
rt c (iv 4) h) (
an 1 b e fun b=>
St 1 h b vT fun b=>
lA d (iv 1) fun e=>
aB f g [e] b [d] h)) (
aF a fun a=>
lG a (iv 64) fun a=>
Br a (
rt c (iv 13) h) (
rt c (iv 0) h))
theorem Fe(h:L101 g a0 H R):sc g 101 #[a0] H R:=
  sd (.n .e (.n .e (.n (.n .e (.n (.h 0 [11] [0,3,9,10] (.n .e (.n .e (.n (.n (.n .e (.n (.n (.h 0 [] [1] .e .e) .e) .e)) .e) .e))) .e) .e)) .e))) Tryz.func101 h
def L102:Y2:=
fun a b c d e=>
CR e a 178 #[b,c] d fun d f=>
lN d (iv 0) fun g=>
Br g (
rt e (tP (.slice none 0 0) d) f) (
CR e a 57 #[b] f fun b d=>
aF c fun f=>
∃(g:Jt) (h:Mt),JE g [(.slice none 0 0),(iv 0)] d∧∀d i:Value,∀j:Hp,g [d,i] j→∀_:Fr,
lL i f fun f=>
Br f (
lI 1 c i j fun c=>
CR e a 179 #[b,c] j fun a c=>
∃(f:Jt) (k:Mt),JE f [d,a] c∧∀a c:Value,∀l:Hp,f [a,c] l→∀_:Fr,
lG c i fun m=>
Br m (
DR l fun m=>
lS c (iv 1) fun n=>
lI 1 b c m fun o=>
lS c (iv 1) fun p=>
lI 1 b p m fun m=>
an 1 b n fun n=>
St 1 l n o fun n=>
an 1 b c fun b=>
St 1 n b m fun b=>
lS c (iv 1) fun m=>
aq Tryz.prog 25 1 [(0,m)] b fun b m=>
App Tryz.prog 3 1 8 (iv 0) m a b fun b m=>
lS c (iv 1) fun n=>
aB f k [b,n] m [a,c] l) (
lA i (iv 1) fun b=>
aB g h [a,b] l [d,i] j)) (
rt e (tP d (iv 0)) j))
theorem Fb(h:L102 g a0 a1 H R):sc g 102 #[a0,a1] H R:=
  sd (hN 4 (.n (.n .e (.n (.h 0 [8,22] [7,20,21] (.n .e (.n .e (.n (.n (.n .e (.n .e (.n (.h 0 [8,11] [7,9,20,21,22] (.n .e (.n (.n (.n (.h 0 [0,1,2,3,4,5,6,7,8,9,10,11,12,13,14,15,16,17] [] .e .e) .e) .e) .e)) .e) .e))) .e) .e))) .e) .e)) .e)) Tryz.func102 h
def L103:Y2:=
fun a b c d e=>
lW d #[(iv 0)] 3 fun d f=>
CF a 104 #[b] f (fun b f=>
lQ 1 f #[(.pointer none)] 169 b fun b f=>
aF c fun g=>
∃(h:Jt) (i:Mt),JE h [(iv 0)] f∧∀f:Value,∀j:Hp,h [f] j→∀_:Fr,
lL f g fun g=>
Br g (
lI 1 c f j fun c=>
Ld j (pt b) fun g=>
CF a 107 #[g,c] j (fun c g=>
lN c (iv 0) fun k=>
Br k (
St 1 g (pt d) (iv 0) fun k=>
jU Tryz.prog a 180 #[(pt b),(pt d)] k fun k=>
Ld k (pt d) fun l=>
rt e (tP l c) k) (
lA f (iv 1) fun c=>
aB h i [c] g [f] j)) Ik) (
Ld j (pt b) fun c=>
lC 3 c fun c=>
St 1 j c vT fun c=>
St 1 c (pt d) (iv 0) fun c=>
jU Tryz.prog a 180 #[(pt b),(pt d)] c fun a=>
Ld a (pt d) fun b=>
rt e (tP b (iv 0)) a)) Ik
theorem Fa(h:L103 g a0 a1 H R):sc g 103 #[a0,a1] H R:=
 wP (hn:=(hN 3 (.n (.n .e (.n (.h 0 [14] [4,6,12,13] .e .e) .e)) .e))) Tryz.func103 h (by kernel_rfl)
def L104:Y1:=
fun a b c d=>
CR d a 34 #[b] c fun a c=>
Build Tryz.prog 260 [(0,b),(1,a)] fun a=>
cW c (.cells (Value.cells a) 260 (0,0)) fun a b=>
rt d (pt a) b
theorem E9(h:L104 g a0 H R):sc g 104 #[a0] H R:=
  sd .e Tryz.func104 h
def L105:Y1:=
fun a b c d=>
lM 3 b c fun e=>
Un .not e fun e=>
Br e (
CR d a 108 #[b] c fun _ a=>
rt d (.tuple #[]) a) (
rt d (.tuple #[]) c)
theorem uf(h:L105 g a0 H R):sc g 105 #[a0] H R:=
  sd .e Tryz.func105 h
def L107:Y2:=
fun a b c d e=>
lM 0 b d fun f=>
CR e a 17 #[f,c] d fun a c=>
∀d:Jt,(∀f:Hp,(∀_:Fr,
rt e a f)→d [] f)→
lE a (iv 0) fun a=>
Br a (
lM 2 b c fun a=>
lA a (iv 1) fun a=>
lC 2 b fun b=>
St 1 c b a fun a=>
JE d [] a) (
JE d [] c)
theorem ue(h:L107 g a0 a1 H R):sc g 107 #[a0,a1] H R:=
  sd (.n .e (.n .e (.h 1 [] [5] .e .e))) Tryz.func107 h
def L108:Y1:=
fun a b c d=>
DR c fun e=>
lM 0 b e fun f=>
lM 1 b e fun g=>
CN a 145 #[f,g] c fun a c=>
aM c e∧
lX a fun a _=>
lM 2 b c fun e=>
lA e a fun a=>
lC 2 b fun b=>
St 1 c b a fun a=>
rt d (.tuple #[]) a
theorem E8(h:L108 g a0 H R):sc g 108 #[a0] H R:=
  sd (.n (.h 0 [0,1,2,3,4,5,6,7,8,9,10,11,12,13] [] .e .e) .e) Tryz.func108 h
def L109:Y2:=
fun _ a b c d=>
aa .ptr .eql a (.pointer none) fun a=>
Br a (
rt d (iv 10) c) (
lL b (iv 100) fun a=>
lO a (fun a=>
lG b (iv 1000) fun b=>
(lV c b a)) fun a=>
Br (Value.bool a) (
rt d (iv 1) c) (
rt d (iv 0) c))
theorem E7(h:L109 g a0 a1 H R):sc g 109 #[a0,a1] H R:=
  sd (.n .e (.n (.n (.n .e (.n .e (.n (.h 0 [] [1] .e .e) .e))) .e) .e)) Tryz.func109 h
def L110:Y2:=
fun a b c d e=>
cW d (.cells (Value.cells b) 172 (0,0)) fun b d=>
Br c (
DR d fun c=>
Ld c (pt b) fun f=>
Ld c (pt b) fun g=>
lM 0 g c fun g=>
∀h:Hp,
CN (a.add h) 61 #[g] d fun a g=>
aM g c∧
lS a (iv 1) fun a=>
lC 6 f fun c=>
∀_:Hp,
St 1 g c a fun a=>
Ld a (pt b) fun c=>
lC 7 c fun c=>
St 1 a c (.func (.func 181) #[] #[(pt b)]) fun a=>
rt e (.tuple #[]) a) (
Ld d (pt b) fun a=>
lC 6 a fun a=>
St 1 d a (iv 0) fun a=>
Ld a (pt b) fun c=>
lC 7 c fun c=>
St 1 a c (.func (.func 183) #[] #[(pt b)]) fun a=>
rt e (.tuple #[]) a)
theorem E6(h:L110 g a0 a1 H R):sc g 110 #[a0,a1] H R:=
  sd (.n .e (.n .e (.n (.n (.h 1 [] [] (hr 0 [1] 0 10 .e) .e) .e) .e))) Tryz.func110 h
def L111:Y1:=
fun a b c d=>
∃(e:Jt) (f:Mt),JE e [] c∧∀c:Hp,e [] c→∀_:Fr,
∀g:Jt,(∀h:Value,∀i:Hp,(∀_:Fr,
Br h (
lM 0 b i fun j=>
CR d a 15 #[j] i fun j k=>
∀l:Jt,(∀m:Hp,(∀_:Fr,
aa .num .mul j (iv 100) fun n=>
lM 2 b m fun o=>
lM 4 b m fun p=>
aa .num .mul o p fun o=>
lG n o fun n=>
Br n (
rt d (.tuple #[]) m) (
aB e f [] m [] c))→l [] m)→
lM 2 b k fun e=>
lL j e fun e=>
Br e (
lM 1 b k fun e=>
lC 2 b fun f=>
St 1 k f j fun f=>
lC 3 b fun j=>
St 1 f j e fun e=>
JE l [] e) (
JE l [] k)) (
rt d (.tuple #[]) i))→g [h] i)→
DR c fun d=>
lM 1 b d fun e=>
lM 6 b d fun f=>
lN e f fun e=>
Br e (
lM 7 b d fun b=>
∀d:Hp,
bI Tryz.prog (a.add d) b #[] c (fun a b=>
lE a (iv 0) fun a=>
ay vT a vF fun a=>
JE g [a] b) uQ) (
JE g [vF] c)
theorem E5(h:L111 g a0 H R):sc g 111 #[a0] H R:=
  sd (.n (.h 0 [] [0] (.n (.h 1 [19] [0] (.h 1 [] [] (hr 0 [1] 0 9 (.h 2 [9] [] (hr 0 [1] 10 7 .e) (hr 0 [1] 10 6 (.h 3 [16] [1] .e .e)))) .e) .e) (.n (.n .e (.h 1 [] [0,2] .e .e)) .e)) .e) .e) Tryz.func111 h
def L112:Y2:=
fun a b c d e=>
∃(f:Jt) (g:Mt),JE f [] d∧∀d:Hp,f [] d→∀_:Fr,
lM 1 b d fun h=>
lN h c fun c=>
Br c (
lM 0 b d fun c=>
CR e a 18 #[c] d fun a c=>
lX a fun a _=>
lM 5 b c fun h=>
lA h (iv 1) fun h=>
lC 5 b fun i=>
St 1 c i h fun c=>
lM 1 b c fun h=>
lL a h fun h=>
Br h (
lC 1 b fun h=>
St 1 c h a fun h=>
aB f g [] h [] d) (
lA a (iv 1) fun a=>
lC 1 b fun b=>
St 1 c b a fun a=>
aB f g [] a [] d)) (
rt e (.tuple #[]) d)
theorem E4(h:L112 g a0 a1 H R):sc g 112 #[a0,a1] H R:=
  sd (.n (.h 0 [] [0,1] .e .e) .e) Tryz.func112 h
def L113:Y2:=
fun _ a b c d=>
aa .num .geq b (iv 0) fun e=>
lU e (fun e=>
lM 4 a c fun a=>
lL b a fun a=>
(lV c a e)) fun e=>
rt d (Value.bool e) c
theorem E3(h:L113 g a0 a1 H R):sc g 113 #[a0,a1] H R:=
  sd (.n .e (.n (.h 0 [] [1] .e .e) .e)) Tryz.func113 h
def L114:Y1:=
fun a b c d=>
aa .ptr .eql b (.pointer none) fun e=>
Br e (
rt d (.slice none 0 0) c) (
CR d a 76 #[] c fun c e=>
CR d a 61 #[b] e fun e f=>
∃(g:Jt) (h:Mt),JE g [(iv 0)] f∧∀f:Value,∀i:Hp,g [f] i→∀_:Fr,
lL f e fun e=>
Br e (
CR d a 93 #[b,f] i fun b e=>
lX b fun b _=>
Un .neg b fun b=>
CR d a 77 #[c,f,b] e fun _ b=>
lA f (iv 1) fun e=>
aB g h [e] b [f] i) (
∃(b:Jt) (e:Mt),JE b [(.slice none 0 0)] i∧∀f:Value,∀g:Hp,b [f] g→∀_:Fr,
CR d a 184 #[c] g fun h i=>
lG h (iv 0) fun h=>
Br h (
CR d a 78 #[c] i fun a c=>
lX a fun h _=>
Ext 2 a fun _=>
aq Tryz.prog 25 1 [(0,h)] c fun a c=>
App Tryz.prog 3 1 8 (iv 0) c f a fun a c=>
aB b e [a] c [f] g) (
rt d f i)))
theorem E0(h:L114 g a0 H R):sc g 114 #[a0] H R:=
  sd (hN 3 (.n (.n .e (.n (.h 0 [16] [0,3,15] .e .e) .e)) (.n .e (.n (.n (.h 0 [7] [3] .e .e) .e) .e)))) Tryz.func114 h
def L115:Y3:=
fun a b c d e f=>
aa .ptr .eql b (.pointer none) fun g=>
Br g (
rt f (iv 10) e) (
lG c (bi 6) fun g=>
lO g (fun g=>
lL d (iv 100) fun h=>
(lV e h g)) fun g=>
lO (Value.bool g) (fun g=>
lG d (iv 1000) fun d=>
(lV e d g)) fun g=>
Br (Value.bool g) (
rt f (iv 1) e) (
∀d:Jt,(∀g:Value,∀h:Hp,(∀_:Fr,
Br g (
rt f (iv 6) h) (
rt f (iv 0) h))→d [g] h)→
lE c (bi 6) fun c=>
Split c true (
CR f a 61 #[b] e fun a b=>
lG a (iv 12) fun a=>
ay vT a vF fun a=>
JE d [a] b) (
ay vF undef vF fun a=>
JE d [a] e)))
theorem EZ(h:L115 g a0 a1 a2 H R):sc g 115 #[a0,a1,a2] H R:=
  sd (.n .e (.n (.n (.n .e (.n .e (.n (.h 0 [] [1] .e .e) (.n .e (.h 1 [21] [] .e .e))))) .e) .e)) Tryz.func115 h
def L116:Y1:=
fun a b c d=>
lL b (iv 0) fun e=>
lO e (fun e=>
lG b (iv 64) fun f=>
(lV c f e)) fun e=>
Br (Value.bool e) (
rt d (tP (.slice none 0 0) (iv 1)) c) (
CR d a 185 #[b] c fun a b=>
rt d (tP a (iv 0)) b)
theorem EY(h:L116 g a0 H R):sc g 116 #[a0] H R:=
  sd (.n .e (.n (.n (.h 0 [] [1] .e .e) .e) .e)) Tryz.func116 h
def L117:Y1:=
fun _ a b c=>
lL a (iv 1) fun d=>
lO d (fun d=>
lG a (iv 64) fun e=>
(lV b e d)) fun d=>
Br (Value.bool d) (
rt c (tP (.pointer none) (iv 1)) b) (
cO 266 1 8 (.map none) b a a fun b d=>
Build Tryz.prog 265 [(0,b)] fun b=>
cW d (.cells (Value.cells b) 265 (0,0)) fun b d=>
∃(e:Jt) (f:Mt),JE e [(iv 0)] d∧∀d:Value,∀g:Hp,e [d] g→∀_:Fr,
lL d a fun a=>
Br a (
lM 0 (pt b) g fun a=>
jQ g fun h i=>
an 1 a d fun a=>
St 1 i a h fun a=>
lA d (iv 1) fun h=>
aB e f [h] a [d] g) (
rt c (tP (pt b) (iv 0)) g))
theorem EX(h:L117 g a0 H R):sc g 117 #[a0] H R:=
  sd (.n .e (.n (.n (.h 0 [] [1] .e .e) .e) (.n .e (.n (.n .e (.n (.h 0 [17] [4,16] .e .e) .e)) .e)))) Tryz.func117 h
def L118:Y2:=
fun a b c d e=>
lW d #[(.pointer none),(.pointer none),(.slice none 0 0),(.slice none 0 0)] 115 fun d f=>
CR e a 186 #[b] f fun a b=>
lX a fun a f=>
Build Tryz.prog 115 [(0,a),(1,c)] fun a=>
St 4 b (pt d) a fun a=>
av 4 a (pt d) fun b=>
rt e (tP b f) a
theorem EW(h:L118 g a0 a1 H R):sc g 118 #[a0,a1] H R:=
  sd .e Tryz.func118 h
variable {g:Gh} {a0 a1 a2 a3 a4 a5 a6 a7 a8 a9 rD rC Wh Wg Wf We:Value} {H:Hp} {R:Rt}
def L121:Y2:=
fun a b c d e=>
aa .ptr .eql b (.pointer none) fun f=>
Br f (
rt e (iv 10) d) (
lC 0 b fun f=>
CR e a 173 #[f,c] d fun a d=>
Un .not a fun a=>
Br a (
rt e (iv 3) d) (
∀a:Jt,(∀f:Hp,(∀_:Fr,
lC 7 b fun g=>
St 1 f g (.slice none 0 0) fun g=>
rt e (iv 0) g)→a [] f)→
lG c (ui 1) fun f=>
Br f (
lC 0 b fun f=>
ag 3 f fun f=>
Ld d f fun f=>
lI 1 f c d fun f=>
lE f (Value.int .i32 65535) fun f=>
Br f (
rt e (iv 8) d) (
lC 0 b fun e=>
ag 3 e fun e=>
Ld d e fun e=>
lI 1 e c d fun f=>
lA f (Value.int .i32 1) fun f=>
an 1 e c fun e=>
St 1 d e f fun e=>
lC 0 b fun f=>
ag 3 f fun f=>
Ld e f fun f=>
lI 1 f c e fun f=>
lE f (Value.int .i32 1) fun f=>
Br f (
lC 0 b fun b=>
ag 2 b fun b=>
Ld e b fun b=>
lI 1 b c e fun f=>
lA f (Value.int .i32 1) fun f=>
an 1 b c fun b=>
St 1 e b f fun b=>
JE a [] b) (
JE a [] e))) (
JE a [] d)))
theorem ud(h:L121 g a0 a1 H R):sc g 121 #[a0,a1] H R:=
  sd (.n .e (.n .e (.h 1 [] [0] .e .e))) Tryz.func121 h
def L126:Y2:=
fun a b c d e=>
lW d #[(iv 0),(.slice none 0 0)] 57 fun d f=>
aQ .i64 c fun c=>
lM 2 b f fun g=>
aF g fun g=>
lA g (iv 2) fun g=>
aa .num .rem c g fun c=>
lL c (iv 2) fun g=>
Br g (
lM 1 b f fun g=>
lE c (iv 1) fun h=>
CR e a 147 #[g,h] f fun a g=>
lX a fun a _=>
lQ 2 g #[(iv 0),(.slice none 0 0)] 57 a fun a g=>
DR g fun h=>
aQ .u32 c fun i=>
av 2 h (pt a) fun a=>
St 2 g (pt d) a fun a=>
av 2 a (pt d) fun g=>
rt e (tP i g) a) (
DR f fun a=>
lM 2 b a fun g=>
lS c (iv 2) fun h=>
lI 1 g h a fun g=>
lM 3 b a fun b=>
lS c (iv 2) fun c=>
an 2 b c fun b=>
av 2 a b fun a=>
St 2 f (pt d) a fun a=>
av 2 a (pt d) fun b=>
rt e (tP g b) a)
theorem EV(h:L126 g a0 a1 H R):sc g 126 #[a0,a1] H R:=
  sd (.n .e (.n .e (.n (.n .e (.n (.n .e (.n (.h 0 [0,1,2,3,4] [] .e .e) .e)) .e)) (.n (.h 0 [0,1,2,3,4,5,6,7,8,9,10,11,12,13,14,15,16,17] [] .e .e) .e)))) Tryz.func126 h
def L127:Y5:=
fun a b c d e f g h=>
cW g (.cells (Value.cells c) 106 (0,0)) fun c g=>
cW g (.cells (Value.cells d) 57 (0,0)) fun d g=>
cW g (.cells (Value.cells e) 57 (0,0)) fun e g=>
cW g (.cells (Value.cells f) 57 (0,0)) fun f g=>
lW g #[(iv 0),(.slice none 0 0)] 57 fun g i=>
lD 1 (pt c) i fun j=>
aQ .i64 j fun j=>
lM 1 b i fun k=>
aa .num .rem j k fun j=>
lM 1 b i fun b=>
CR h a 153 #[b,j] i fun b i=>
lX b fun b _=>
lQ 2 i #[(iv 0),(.slice none 0 0)] 57 b fun b i=>
av 2 i (pt d) fun k=>
CR h a 148 #[k,j,vF] i fun i k=>
lX i fun i _=>
lQ 2 k #[(iv 0),(.slice none 0 0)] 57 i fun i k=>
av 2 k (pt d) fun l=>
CR h a 148 #[l,j,vT] k fun k l=>
lX k fun k _=>
lQ 2 l #[(iv 0),(.slice none 0 0)] 57 k fun k l=>
lD 0 (pt c) l fun m=>
aa .num .rem m (bi 9) fun m=>
lE m (bi 0) fun n=>
Br n (
av 2 l (pt b) fun b=>
St 2 l (pt g) b fun b=>
av 2 b (pt g) fun n=>
rt h (tP n (iv 0)) b) (
lE m (bi 1) fun b=>
Br b (
av 2 l (pt d) fun b=>
CR h a 193 #[b] l fun b n=>
lX b fun b o=>
St 2 n (pt g) b fun b=>
av 2 b (pt g) fun n=>
rt h (tP n o) b) (
∀b:Jt,(∀n:Value,∀o:Hp,(∀_:Fr,
Br n (
lD 5 (pt c) o fun p=>
aa .num .rem p (wi 16) fun p=>
aQ .u8 p fun p=>
av 2 o (pt d) fun q=>
av 2 o (pt e) fun r=>
CR h a 194 #[p,q,r] o fun p q=>
lX p fun p r=>
St 2 q (pt g) p fun p=>
av 2 p (pt g) fun q=>
rt h (tP q r) p) (
lE m (bi 4) fun p=>
Br p (
av 2 o (pt d) fun p=>
av 2 o (pt e) fun q=>
av 2 o (pt f) fun f=>
CR h a 154 #[p,q,f] o fun f p=>
lX f fun f q=>
St 2 p (pt g) f fun f=>
av 2 f (pt g) fun p=>
rt h (tP p q) f) (
lE m (bi 5) fun f=>
Br f (
av 2 o (pt d) fun d=>
lD 5 (pt c) o fun c=>
aa .num .rem c (wi 2) fun c=>
lE c (wi 1) fun c=>
CR h a 148 #[d,j,c] o fun c d=>
lX c fun c f=>
St 2 d (pt g) c fun c=>
av 2 c (pt g) fun d=>
rt h (tP d f) c) (
lE m (bi 6) fun c=>
Br c (
av 2 o (pt i) fun c=>
av 2 o (pt k) fun d=>
CR h a 194 #[(bi 14),c,d] o fun c d=>
lX c fun c f=>
St 2 d (pt g) c fun c=>
av 2 c (pt g) fun d=>
rt h (tP d f) c) (
lE m (bi 7) fun c=>
Br c (
av 2 o (pt i) fun c=>
av 2 o (pt k) fun d=>
CR h a 194 #[(bi 8),c,d] o fun c d=>
lX c fun c f=>
St 2 d (pt g) c fun c=>
av 2 c (pt g) fun d=>
rt h (tP d f) c) (
av 2 o (pt e) fun c=>
av 2 o (pt k) fun d=>
av 2 o (pt i) fun e=>
CR h a 154 #[c,d,e] o fun a c=>
lX a fun a d=>
St 2 c (pt g) a fun a=>
av 2 a (pt g) fun c=>
rt h (tP c d) a))))))→b [n] o)→
lE m (bi 2) fun a=>
Br a (
JE b [a] l) (
lE m (bi 3) fun a=>
JE b [a] l)))
theorem EU(h:L127 g a0 a1 a2 a3 a4 H R):sc g 127 #[a0,a1,a2,a3,a4] H R:=
  sd (hN 5 (.n (.n .e (.n (hN 4 (.h 1 [60] [6,7,8,9,10,12,15,17,50] .e .e)) .e)) .e)) Tryz.func127 h
def L128:Y5:=
fun a b c d e f g h=>
cW g (.cells (Value.cells c) 106 (0,0)) fun c g=>
lD 1 (pt c) g fun i=>
aQ .i64 i fun i=>
lM 1 b g fun j=>
aa .num .rem i j fun i=>
lD 0 (pt c) g fun j=>
aa .num .rem j (bi 9) fun j=>
lE j (bi 0) fun k=>
Br k (
lM 0 b g fun k=>
CR h a 195 #[k,i] g fun k l=>
lX k fun k m=>
rt h (tP k m) l) (
lE j (bi 1) fun k=>
Br k (
lM 0 b g fun k=>
CR h a 196 #[k,d] g fun k l=>
lX k fun k m=>
rt h (tP k m) l) (
∀k:Jt,(∀l:Value,∀m:Hp,(∀_:Fr,
Br l (
DR m fun n=>
lM 0 b n fun o=>
lD 5 (pt c) n fun p=>
aa .num .rem p (wi 16) fun p=>
aQ .u8 p fun p=>
CN a 197 #[o,p,d,e] m fun o p=>
aM p n∧
lX o fun n o=>
rt h (tP n o) p) (
lE j (bi 4) fun n=>
Br n (
lM 0 b m fun n=>
CR h a 198 #[n,d,e,f] m fun f n=>
lX f fun f o=>
rt h (tP f o) n) (
lE j (bi 5) fun f=>
Br f (
DR m fun f=>
lM 0 b f fun n=>
lD 5 (pt c) f fun c=>
aa .num .rem c (wi 2) fun c=>
lE c (wi 1) fun c=>
CN a 199 #[n,d,i,c] m fun c n=>
aM n f∧
lX c fun c f=>
rt h (tP c f) n) (
lE j (bi 6) fun c=>
Br c (
DR m fun c=>
lM 0 b c fun f=>
aa .num .shl (wi 1) i fun n=>
CN a 200 #[f,d,n] m fun f n=>
aM n c∧
lX f fun c f=>
rt h (tP c f) n) (
lE j (bi 7) fun c=>
Br c (
DR m fun c=>
lM 0 b c fun f=>
aa .num .shl (wi 1) i fun n=>
CN a 201 #[f,d,n] m fun f n=>
aM n c∧
lX f fun c f=>
rt h (tP c f) n) (
lM 0 b m fun b=>
CR h a 202 #[b,d,i,e] m fun a b=>
lX a fun a c=>
rt h (tP a c) b))))))→k [l] m)→
lE j (bi 2) fun a=>
Br a (
JE k [a] g) (
lE j (bi 3) fun a=>
JE k [a] g)))
theorem ET(h:L128 g a0 a1 a2 a3 a4 H R):sc g 128 #[a0,a1,a2,a3,a4] H R:=
  sd (.n .e (.n .e (.n (.n .e (.n (hN 4 (.h 1 [44] [0,2,3,4,6,12,23] .e (.n (.n (.h 0 [0,1,2,3,4,5,6,7,8,9,10,11,12,13,14] [] .e .e) .e) (hN 3 (.n (.n (.h 0 [0,1,2,3,4,5,6,7,8,9,10,11,12,13,14] [] .e .e) .e) (.n .e (.n (.n (.h 0 [0,1,2,3,4,5,6,7,8,9,10,11] [] .e .e) .e) (.n .e (.n (.n (.h 0 [0,1,2,3,4,5,6,7,8,9,10,11] [] .e .e) .e) .e))))))))) .e)) .e))) Tryz.func128 h
def L129:Y3:=
fun _ a b c d e=>
cW d (.cells (Value.cells c) 57 (0,0)) fun c d=>
lG b (ui 1) fun f=>
Br f (
lM 2 a d fun f=>
aq Tryz.prog 27 1 [(0,b)] d fun b g=>
App Tryz.prog 77 1 4 (ui 0) g f b fun b f=>
lC 2 a fun g=>
St 1 f g b fun b=>
DR b fun f=>
lM 3 a f fun g=>
av 2 f (pt c) fun c=>
aq Tryz.prog 28 1 [(0,c)] b fun b c=>
aM c f∧
App Tryz.prog 57 2 32 (.agg #[(iv 0),(.slice none 0 0)]) c g b fun b c=>
aM c f∧
lC 3 a fun a=>
St 1 c a b fun a=>
rt e (.tuple #[]) a) (
rt e (.tuple #[]) d)
theorem uc(h:L129 g a0 a1 a2 H R):sc g 129 #[a0,a1,a2] H R:=
  sd (.n .e (.n .e (.n (.n .e (.h 0 [0,1,2,3,4,5,6,7,8,9,10] [] .e .e)) .e))) Tryz.func129 h
def L131:Y2:=
fun a b c d e=>
aa .ptr .eql b (.pointer none) fun f=>
Br f (
rt e (iv 10) d) (
∀f:Jt,(∀g:Hp,(∀_:Fr,
lC 7 b fun h=>
St 1 g h (.slice none 0 0) fun h=>
rt e (iv 0) h)→f [] g)→
lG c (ui 1) fun g=>
Br g (
CR e a 95 #[b,c] d fun g h=>
lE g (iv 0) fun g=>
Br g (
rt e (iv 3) h) (
lC 0 b fun g=>
ag 3 g fun g=>
Ld h g fun g=>
lI 1 g c h fun i=>
lS i (Value.int .i32 1) fun i=>
an 1 g c fun g=>
St 1 h g i fun g=>
lC 0 b fun h=>
ag 3 h fun h=>
Ld g h fun h=>
lI 1 h c g fun h=>
lE h (Value.int .i32 0) fun h=>
Br h (
lC 0 b fun b=>
CR e a 142 #[b,c] g fun _ a=>
JE f [] a) (
JE f [] g))) (
JE f [] d))
theorem ua(h:L131 g a0 a1 H R):sc g 131 #[a0,a1] H R:=
  sd (.n .e (.n .e (.h 1 [] [0] .e .e))) Tryz.func131 h
theorem Aq(h:L131 g a0 a1 H R):iY Tryz.prog g 131 #[a0,a1] H R:=
 wQ (hn:=(.n .e (.n .e (.h 1 [] [0] .e .e)))) Tryz.func131 h (by kernel_rfl)
def L134:Y3:=
fun a b c d e f=>
lC 0 b fun g=>
ag 1 g fun g=>
Ld e g fun g=>
CR f a 203 #[g,c] e fun c e=>
lX c fun c _=>
aF c fun g=>
∃(h:Jt) (i:Mt),JE h [(.slice none 0 0),(iv 0)] e∧∀e j:Value,∀k:Hp,h [e,j] k→∀_:Fr,
lL j g fun g=>
Br g (
∀g:Jt,(∀l:Value,∀m:Hp,(∀_:Fr,
lA j (iv 1) fun n=>
aB h i [l,n] m [e,j] k)→g [l] m)→
lI 1 c j k fun c=>
lC 0 b fun h=>
CR f a 174 #[h,c] k fun h i=>
lQ 3 i #[(iv 0),(ui 0),(ui 0)] 161 h fun h i=>
∀j:Jt,(∀l:Value,∀m:Hp,(∀_:Fr,
Br l (
JE g [e] m) (
av 3 m (pt h) fun n=>
Build Tryz.prog 203 [(0,c),(1,n)] fun c=>
lQ 8 m #[(ui 0),(iv 0),(ui 0),(ui 0),(ui 0),(ui 0),(ui 0),(ui 0)] 203 c fun c n=>
lD 1 (pt h) n fun o=>
CR f a 204 #[b,o,d] n fun n o=>
lX n fun n p=>
ag 4 (pt c) fun q=>
St 1 o q n fun n=>
ag 5 (pt c) fun o=>
St 1 n o p fun n=>
lD 2 (pt h) n fun o=>
CR f a 204 #[b,o,d] n fun n o=>
lX n fun n p=>
ag 6 (pt c) fun q=>
St 1 o q n fun n=>
ag 7 (pt c) fun o=>
St 1 n o p fun n=>
av 8 n (pt c) fun c=>
aq Tryz.prog 199 1 [(0,c)] n fun c n=>
App Tryz.prog 203 8 40 (.agg #[(ui 0),(iv 0),(ui 0),(ui 0),(ui 0),(ui 0),(ui 0),(ui 0)]) n e c fun c n=>
JE g [c] n))→j [l] m)→
DR i fun c=>
lC 0 b fun g=>
lD 1 (pt h) c fun l=>
∀m:Hp,
CN (a.add m) 174 #[g,l] i fun g i=>
aM i c∧
Gx 0 g fun g=>
lN g d fun g=>
Br g (
lC 0 b fun b=>
lD 2 (pt h) c fun g=>
∀h:Hp,
CN (a.add h) 174 #[b,g] i fun a b=>
aM b c∧
Gx 0 a fun a=>
lN a d fun a=>
ay vT a vF fun a=>
JE j [a] b) (
JE j [vF] i)) (
rt f e k)
theorem ES(h:L134 g a0 a1 a2 H R):sc g 134 #[a0,a1,a2] H R:=
  sd (hN 3 (.n (.n .e (.n (.h 0 [7,26] [0,2,24,25] (.n .e (.n .e (.h 1 [7] [0,2,24,25,26] (.n (.n .e (.n .e (.n (.h 1 [54] [0,2,7,11,12,24,25,26] (.h 1 [] [] (hr 0 [] 0 5 (.h 0 [7] [] (hr 0 [] 5 2 (.h 0 [8] [] (.h 2 [9] [] (hr 0 [] 10 5 (.h 0 [17] [] (hr 0 [] 15 2 (hr 0 [] 18 2 .e)) .e)) (hr 0 [] 10 9 (.h 3 [19] [] .e .e))) .e)) .e)) .e) .e) .e))) .e) .e))) .e) .e)) .e)) Tryz.func134 h
def L135:Y2:=
fun a b c d e=>
DR d fun f=>
lM 0 b f fun g=>
lM 0 b f fun b=>
CN a 58 #[g] d fun d g=>
aM g f∧
lA d c fun c=>
CN a 146 #[b] g fun a b=>
aM b f∧
aa .num .leq c a fun a=>
rt e a b
theorem ER(h:L135 g a0 a1 H R):sc g 135 #[a0,a1] H R:=
  sd (.n .e (.n (.h 0 [0,1,2,3,5,7,8,9,10,4,6,11,12,13] [] .e .e) .e)) Tryz.func135 h
def L136:Y3:=
fun a b c d e f=>
jQ e fun e g=>
aF d fun h=>
∃(i:Jt) (j:Mt),JE i [(iv 0)] g∧∀g:Value,∀k:Hp,i [g] k→∀_:Fr,
lL g h fun h=>
Br h (
an 8 d g fun d=>
av 8 k d fun d=>
lQ 8 k #[(ui 0),(iv 0),(ui 0),(ui 0),(ui 0),(ui 0),(ui 0),(ui 0)] 203 d fun d h=>
lD 4 (pt d) h fun l=>
lD 6 (pt d) h fun m=>
Build Tryz.prog 161 [(0,c),(1,l),(2,m)] fun l=>
lD 5 (pt d) h fun m=>
lD 7 (pt d) h fun d=>
Build Tryz.prog 161 [(0,c),(1,m),(2,d)] fun c=>
aq Tryz.prog 286 2 [(0,l),(1,c)] h fun c d=>
aF c fun h=>
∃(l:Jt) (m:Mt),JE l [(iv 0)] d∧∀d:Value,∀n:Hp,l [d] n→∀_:Fr,
lL d h fun h=>
Br h (
∀h:Jt,(∀o:Hp,(∀_:Fr,
lA d (iv 1) fun p=>
aB l m [p] o [d] n)→h [] o)→
an 3 c d fun c=>
av 3 n c fun c=>
lQ 3 n #[(iv 0),(ui 0),(ui 0)] 161 c fun c d=>
DR d fun l=>
lC 0 b fun b=>
ag 1 b fun b=>
Ld l b fun b=>
av 3 l (pt c) fun m=>
CN a 205 #[b,m] d fun b d=>
aM d l∧
lX b fun _ b=>
Un .not b fun b=>
lU b (fun b=>
lD 1 (pt c) d fun l=>
lD 2 (pt c) d fun m=>
lN l m fun l=>
(lV d l b)) fun b=>
Br (Value.bool b) (
SZ Tryz.prog a 10 (nt Tryz.f136 10) [7,11] [e,(pt c)] d fun a=>∀_:Fr,
JE h [] a) (
JE h [] d)) (
lA g (iv 1) fun a=>
aB i j [a] n [g] k)) (
xW k e fun a=>
rt f a k)
theorem EP(h:L136 g a0 a1 a2 H R):sc g 136 #[a0,a1,a2] H R:=
  sd (.n .e (.n .e (.n (.n .e (.n (.h 0 [17] [0,1,7,15,16] (.n .e (.n .e (.n (.n (.n .e (.n .e (.n (.h 0 [35] [0,1,7,15,16,17,33,34] (.n .e (.n .e (.h 1 [] [0,1,7,15,16,17,33,34,35] (.n (.n .e (.n (.h 0 [0,1,2,3,4,5,6,7,8,9,10,11] [] .e .e) (.n (.h 0 [] [1] .e .e) (.n (.h 9 [7,11] [] .e .e) .e)))) .e) .e))) .e) .e))) .e) .e))) .e) .e)) .e))) Tryz.func136 h
def L137:Y2:=
fun a b c d e=>
cW d (.cells (Value.cells c) 161 (0,0)) fun c d=>
lD 0 (pt c) d fun f=>
CR e a 206 #[b,f] d fun a d=>
lN a (iv 0) fun f=>
Br f (
rt e a d) (
lM 0 b d fun a=>
lD 0 (pt c) d fun f=>
lI 1 a f d fun a=>
av 3 d (pt c) fun f=>
iI Tryz.prog 161 (ui 0) true d a f fun a=>
lX a fun _ a=>
Un .not a fun a=>
Br a (
rt e (iv 10) d) (
DR d fun a=>
lM 0 b a fun b=>
lD 0 (pt c) a fun f=>
lI 1 b f a fun b=>
av 3 a (pt c) fun c=>
pR Tryz.prog 161 d b c fun b=>
aM b a∧
rt e (iv 0) b))
theorem EO(h:L137 g a0 a1 H R):sc g 137 #[a0,a1] H R:=
  sd (hN 3 (.n (.h 0 [0,1,2,3,4,5,6,7,8,9] [] .e .e) .e)) Tryz.func137 h
def L138:Y4:=
fun a b c d e f g=>
lE d e fun h=>
Br h (
rt g d f) (
Build Tryz.prog 161 [(0,c),(1,d),(2,e)] fun c=>
lQ 3 f #[(iv 0),(ui 0),(ui 0)] 161 c fun c d=>
DR d fun e=>
lM 1 b e fun f=>
av 3 e (pt c) fun h=>
CN a 205 #[f,h] d fun d f=>
aM f e∧
lX d fun d e=>
Br e (
rt g d f) (
av 3 f (pt c) fun c=>
CR g a 207 #[b,c] f fun a b=>
rt g a b))
theorem oG(h:L138 g a0 a1 a2 a3 H R):sc g 138 #[a0,a1,a2,a3] H R:=
  sd (hN 3 (.n (.n (.h 0 [0,1,2,3,4,5,6,7,8,9,10] [] .e .e) .e) .e)) Tryz.func138 h
def L139:Y2:=
fun _ a b c d=>
lG b (ui 1) fun e=>
Br e (
lM 2 a c fun a=>
lI 1 a b c fun e=>
lA e (Value.int .i32 1) fun e=>
an 1 a b fun a=>
St 1 c a e fun a=>
rt d (.tuple #[]) a) (
rt d (.tuple #[]) c)
theorem EN(h:L139 g a0 a1 H R):sc g 139 #[a0,a1] H R:=
  sd .e Tryz.func139 h
def L140:Y3:=
fun a b c d e f=>
cW e (.cells (Value.cells d) 161 (0,0)) fun d e=>
aa .ptr .eql b (.pointer none) fun g=>
Br g (
rt f (iv 10) e) (
av 3 e (pt d) fun g=>
CR f a 208 #[b,g] e fun e g=>
lN e (iv 0) fun h=>
Br h (
rt f e g) (
CR f a 209 #[b,c] g fun a e=>
lN a (iv 0) fun g=>
Br g (
rt f a e) (
DR e fun a=>
lM 1 b a fun b=>
av 3 a (pt d) fun a=>
an 5 b c fun b=>
ag 0 b fun b=>
St 3 e b a fun a=>
rt f (iv 0) a)))
theorem EM(h:L140 g a0 a1 a2 H R):sc g 140 #[a0,a1,a2] H R:=
  sd (hN 4 (.n (.h 0 [0,1,2,3,4,5,6,7,8] [] .e .e) .e)) Tryz.func140 h
def L141:Y3:=
fun a b c d e f=>
cW e (.cells (Value.cells c) 161 (0,0)) fun c e=>
lD 0 (pt c) e fun g=>
CR f a 206 #[b,g] e fun a e=>
lN a (iv 0) fun g=>
Br g (
rt f a e) (
lM 0 b e fun a=>
lD 0 (pt c) e fun g=>
lI 1 a g e fun a=>
av 3 e (pt c) fun g=>
iI Tryz.prog 161 (ui 0) true e a g fun a=>
lX a fun _ a=>
Br a (
rt f (iv 11) e) (
DR e fun a=>
lM 0 b a fun b=>
lD 0 (pt c) a fun g=>
lI 1 b g a fun b=>
av 3 a (pt c) fun a=>
gn Tryz.prog 161 e b a d fun a=>
rt f (iv 0) a))
theorem EL(h:L141 g a0 a1 a2 H R):sc g 141 #[a0,a1,a2] H R:=
  sd (hN 3 (.n (.h 0 [0,1,2,3,4,5,6,7,8,9,10] [] .e .e) .e)) Tryz.func141 h
def L142:Y2:=
fun a b c d e=>
aq Tryz.prog 27 1 [(0,c)] d fun c d=>
∃(f:Jt) (g:Mt),JE f [c] d∧∀c:Value,∀d:Hp,f [c] d→∀_:Fr,
aF c fun h=>
lG h (iv 0) fun h=>
Br h (
aF c fun h=>
lS h (iv 1) fun h=>
lI 1 c h d fun i=>
ef 1 c none (some h) fun h=>
aa .num .leq i (ui 1) fun j=>
Br j (
aB f g [h] d [c] d) (
lM 2 b d fun j=>
lI 1 j i d fun k=>
lS k (Value.int .i32 1) fun k=>
an 1 j i fun j=>
St 1 d j k fun j=>
lM 2 b j fun k=>
lI 1 k i j fun k=>
lG k (Value.int .i32 0) fun k=>
Br k (
aB f g [h] j [c] d) (
CR e a 174 #[b,i] j fun j k=>
lQ 3 k #[(iv 0),(ui 0),(ui 0)] 161 j fun j k=>
DR k fun l=>
lM 1 b l fun m=>
av 3 l (pt j) fun l=>
CN a 137 #[m,l] k fun _ k=>
lM 0 b k fun b=>
CR e a 210 #[b,i] k fun _ a=>
lD 1 (pt j) a fun b=>
lD 2 (pt j) a fun i=>
aq Tryz.prog 27 2 [(0,b),(1,i)] a fun a b=>
App Tryz.prog 77 1 4 (ui 0) b h a fun a b=>
aB f g [a] b [c] d))) (
rt e (.tuple #[]) d)
theorem EK(h:L142 g a0 a1 H R):sc g 142 #[a0,a1] H R:=
  sd (.n .e (.n (.h 0 [4] [0] (.n .e (.n (hN 6 (.n (.h 0 [0,1,2,3,4,5] [] .e .e) .e)) .e)) .e) .e)) Tryz.func142 h
def L143:Y3:=
fun a b c d e f=>
DR e fun g=>
Ld g c fun h=>
Ld g c fun i=>
CN a 34 #[h] e fun e h=>
aM h g∧
CN a 15 #[i] h fun h i=>
aM i g∧
∀g:Jt,(∀j k:Value,∀l:Hp,(∀_:Fr,
Ld l c fun m=>
lA e j fun e=>
CR f a 145 #[m,e] l fun e m=>
lX e fun e _=>
lA k e fun e=>
rt f e m)→g [j,k] l)→
Ld i d fun d=>
aF d fun e=>
∃(j:Jt) (k:Mt),JE j [h,(iv 0),(iv 0),(iv 0)] i∧∀h i l m:Value,∀n:Hp,j [h,i,l,m] n→∀_:Fr,
lL m e fun e=>
Br e (
∀e:Jt,(∀o p q:Value,∀r:Hp,(∀_:Fr,
lA m (iv 1) fun s=>
aB j k [o,p,q,s] r [h,i,l,m] n)→e [o,p,q] r)→
lI 1 d m n fun d=>
Ld n c fun c=>
lA b d fun b=>
CR f a 144 #[c,b] n fun a b=>
lX a fun a c=>
lQ 3 b #[(iv 0),(iv 0),(iv 0)] 210 a fun a b=>
lN c (iv 0) fun c=>
Br c (
JE g [i,l] b) (
lA l (iv 1) fun c=>
lD 2 (pt a) b fun d=>
lL d h fun d=>
Br d (
lD 2 (pt a) b fun a=>
JE e [a,c,c] b) (
JE e [h,i,c] b))) (
JE g [i,l] n)
theorem EJ(h:L143 g a0 a1 a2 H R):sc g 143 #[a0,a1,a2] H R:=
  sd (.n .e (.n (.h 0 [0,2,1,3,4,5,6,7] [] .e .e) (.h 1 [7,8] [1,5] (.n .e (.n (.h 0 [6,7,8,21] [0,1,5,19,20] (.n .e (.n .e (.h 1 [6,7,8] [0,1,5,19,20,21] .e .e))) .e) .e)) .e))) Tryz.func143 h
def L144:Y2:=
fun a b c d e=>
lW d #[(iv 0),(iv 0),(iv 0)] 210 fun d f=>
CR e a 15 #[b] f fun f g=>
Build Tryz.prog 210 [(0,c),(1,f)] fun f=>
lQ 3 g #[(iv 0),(iv 0),(iv 0)] 210 f fun f g=>
CR e a 17 #[b,c] g fun c g=>
lN c (iv 0) fun h=>
Br h (
Build Tryz.prog 210 [] fun h=>
St 3 g (pt d) h fun h=>
av 3 h (pt d) fun i=>
rt e (tP i c) h) (
CR e a 15 #[b] g fun a b=>
ag 2 (pt f) fun c=>
St 1 b c a fun a=>
av 3 a (pt f) fun b=>
St 3 a (pt d) b fun a=>
av 3 a (pt d) fun b=>
rt e (tP b (iv 0)) a)
theorem tZ(h:L144 g a0 a1 H R):sc g 144 #[a0,a1] H R:=
  sd .e Tryz.func144 h
def L145:Y2:=
fun a b c d e=>
aa .ptr .eql b (.pointer none) fun f=>
Br f (
rt e (tP (iv 0) (iv 10)) d) (
∀f:Jt,(∀g:Value,∀h:Hp,(∀_:Fr,
Br g (
rt e (tP (iv 0) (iv 1)) h) (
∃(i:Jt) (j:Mt),JE i [(iv 0)] h∧∀k:Value,∀l:Hp,i [k] l→∀_:Fr,
CR e a 34 #[b] l fun m n=>
lG m c fun m=>
Br m (
CR e a 18 #[b] n fun _ m=>
lA k (iv 1) fun o=>
aB i j [o] m [k] l) (
rt e (tP k (iv 0)) n)))→f [g] h)→
lL c (iv 0) fun g=>
Split g false (
CR e a 34 #[b] d fun a b=>
lG c a fun a=>
ay vF vT a fun a=>
JE f [a] b) (
ay vT vT undef fun a=>
JE f [a] d))
theorem EI(h:L145 g a0 a1 H R):sc g 145 #[a0,a1] H R:=
  sd (.n .e (.n .e (.n (.h 1 [16] [0,1] .e .e) (.n .e (.n (.n (.h 0 [6] [0,1] .e .e) .e) .e))))) Tryz.func145 h
def L146:Y1:=
fun _ a b c=>
aa .ptr .eql a (.pointer none) fun d=>
Br d (
rt c (iv 0) b) (
lM 0 a b fun a=>
rt c a b)
theorem EH(h:L146 g a0 H R):sc g 146 #[a0] H R:=
  sd .e Tryz.func146 h
def L147:Y2:=
fun a b c d e=>
cW d (.cells (Value.cells c) 4 (0,0)) fun c d=>
lW d #[(iv 0),(.slice none 0 0)] 57 fun d f=>
CR e a 211 #[b] f fun f g=>
lN f (iv 0) fun h=>
Br h (
Build Tryz.prog 57 [] fun h=>
St 2 g (pt d) h fun h=>
av 2 h (pt d) fun i=>
rt e (tP i f) h) (
CR e a 212 #[b,(.func (.func 213) #[] #[(pt c)])] g fun a b=>
St 2 b (pt d) a fun a=>
av 2 a (pt d) fun b=>
rt e (tP b (iv 0)) a)
theorem EG(h:L147 g a0 a1 H R):sc g 147 #[a0,a1] H R:=
  sd .e Tryz.func147 h
def L148:Y3:=
fun a b c d e f=>
cW e (.cells (Value.cells b) 57 (0,0)) fun b e=>
lW e #[(iv 0),(.slice none 0 0)] 57 fun e g=>
av 2 g (pt b) fun h=>
CR f a 214 #[h,c] g fun g h=>
lN g (iv 0) fun i=>
Br i (
Build Tryz.prog 57 [] fun i=>
St 2 h (pt e) i fun i=>
av 2 i (pt e) fun j=>
rt f (tP j g) i) (
av 2 h (pt b) fun b=>
CR f a 215 #[b,c,d] h fun a b=>
St 2 b (pt e) a fun a=>
av 2 a (pt e) fun b=>
rt f (tP b (iv 0)) a)
theorem EF(h:L148 g a0 a1 a2 H R):sc g 148 #[a0,a1,a2] H R:=
  sd .e Tryz.func148 h
def L149:Y3:=
fun a b c d e f=>
lM 0 b e fun g=>
CR f a 97 #[g,c] e fun e g=>
lX e fun e h=>
lQ 3 g #[(iv 0),(ui 0),(ui 0)] 161 e fun e g=>
lN h (iv 0) fun i=>
lO i (fun i=>
lL c (ui 2) fun c=>
(lV g c i)) fun i=>
Br (Value.bool i) (
lE h (iv 0) fun c=>
rt f c g) (
DR g fun c=>
lM 0 b c fun b=>
lD 0 (pt e) c fun e=>
CN a 46 #[b,e] g fun a b=>
aM b c∧
lX a fun a c=>
lE c (iv 0) fun c=>
lU c (fun c=>
lG a d fun a=>
(lV b a c)) fun c=>
rt f (Value.bool c) b)
theorem EE(h:L149 g a0 a1 a2 H R):sc g 149 #[a0,a1,a2] H R:=
  sd (.n .e (.n .e (.n (.n (.h 0 [] [1] .e .e) .e) (.n (.h 0 [0,1,2,3,4,5,6,7,8,9,10,11] [] .e .e) (.n (.h 0 [] [1] .e .e) .e))))) Tryz.func149 h
def L150:Y2:=
fun a b c d e=>
aa .ptr .eql b (.pointer none) fun f=>
Br f (
rt e (iv 10) d) (
aF c fun f=>
∃(g:Jt) (h:Mt),JE g [(iv 0)] d∧∀d:Value,∀i:Hp,g [d] i→∀_:Fr,
lL d f fun f=>
Br f (
lI 1 c d i fun c=>
CR e a 97 #[b,c] i fun a b=>
lX a fun a c=>
lQ 3 b #[(iv 0),(ui 0),(ui 0)] 161 a fun _ a=>
lN c (iv 0) fun b=>
Br b (
rt e c a) (
lA d (iv 1) fun b=>
aB g h [b] a [d] i)) (
rt e (iv 0) i))
theorem ED(h:L150 g a0 a1 H R):sc g 150 #[a0,a1] H R:=
  sd (.n .e (.n .e (.n (.n .e (.n (.h 0 [13] [0,11,12] .e .e) .e)) .e))) Tryz.func150 h
def L151:Y5:=
fun a b c d e f g h=>
cW g (.cells (Value.cells b) 26 (0,0)) fun b g=>
cW g (.cells (Value.cells d) 57 (0,0)) fun d g=>
cW g (.cells (Value.cells e) 57 (0,0)) fun e g=>
cW g (.cells (Value.cells f) 221 (0,0)) fun f g=>
lW g #[(iv 0),(.slice none 0 0)] 57 fun g i=>
jQ i fun i j=>
av 2 j (pt d) fun d=>
ei (.int .u32) j i (ui 0) d fun d=>
av 2 d (pt e) fun e=>
ei (.int .u32) d i (ui 1) e fun d=>
lQ 1 d #[(.map none)] 295 i fun d e=>
lW e #[.nilFunc] 296 fun e i=>
St 1 i (pt e) (.func (.func 216) #[] #[(pt d),(pt b),(pt f),(pt e)]) fun b=>
Ld b (pt e) fun d=>
bI Tryz.prog a d #[c] b (fun a b=>
St 2 b (pt g) a fun a=>
av 2 a (pt g) fun b=>
rt h b a) (rF h)
theorem EC(h:L151 g a0 a1 a2 a3 a4 H R):sc g 151 #[a0,a1,a2,a3,a4] H R:=
  sd .e Tryz.func151 h
def L152:Y4:=
fun a b c d e f g=>
cW f (.cells (Value.cells b) 161 (0,0)) fun b f=>
cW f (.cells (Value.cells c) 57 (0,0)) fun c f=>
cW f (.cells (Value.cells d) 57 (0,0)) fun d f=>
lW f #[(iv 0),(.slice none 0 0)] 57 fun f h=>
Ld h e fun e=>
lD 0 (pt b) h fun b=>
CR g a 153 #[e,b] h fun b e=>
lX b fun b _=>
lQ 2 e #[(iv 0),(.slice none 0 0)] 57 b fun b e=>
av 2 e (pt b) fun b=>
av 2 e (pt d) fun d=>
av 2 e (pt c) fun c=>
CR g a 154 #[b,d,c] e fun a b=>
lX a fun a _=>
lQ 2 b #[(iv 0),(.slice none 0 0)] 57 a fun a b=>
av 2 b (pt a) fun a=>
St 2 b (pt f) a fun a=>
av 2 a (pt f) fun b=>
rt g b a
theorem EB(h:L152 g a0 a1 a2 a3 H R):sc g 152 #[a0,a1,a2,a3] H R:=
  sd .e Tryz.func152 h
def L153:Y2:=
fun a b c d e=>
cW d (.cells (Value.cells c) 3 (0,0)) fun c d=>
lW d #[(iv 0),(.slice none 0 0)] 57 fun d f=>
CR e a 211 #[b] f fun f g=>
lN f (iv 0) fun h=>
Br h (
Build Tryz.prog 57 [] fun h=>
St 2 g (pt d) h fun h=>
av 2 h (pt d) fun i=>
rt e (tP i f) h) (
Ld g (pt c) fun f=>
lL f (iv 0) fun f=>
lO f (fun f=>
Ld g (pt c) fun h=>
aa .num .geq h b fun h=>
(lV g h f)) fun f=>
Br (Value.bool f) (
Build Tryz.prog 57 [] fun f=>
St 2 g (pt d) f fun f=>
av 2 f (pt d) fun h=>
rt e (tP h (iv 2)) f) (
CR e a 212 #[b,(.func (.func 218) #[] #[(pt c)])] g fun a b=>
St 2 b (pt d) a fun a=>
av 2 a (pt d) fun b=>
rt e (tP b (iv 0)) a))
theorem EA(h:L153 g a0 a1 H R):sc g 153 #[a0,a1] H R:=
  sd (.n .e (.n .e (.n (.n (.h 0 [] [1] .e .e) .e) .e))) Tryz.func153 h
def L154:Y3:=
fun a b c d e f=>
cW e (.cells (Value.cells b) 57 (0,0)) fun b e=>
cW e (.cells (Value.cells c) 57 (0,0)) fun c e=>
cW e (.cells (Value.cells d) 57 (0,0)) fun d e=>
lW e #[(iv 0),(.slice none 0 0)] 57 fun e g=>
av 2 g (pt b) fun h=>
av 2 g (pt c) fun i=>
av 2 g (pt d) fun j=>
aq Tryz.prog 28 3 [(0,h),(1,i),(2,j)] g fun g h=>
CR f a 220 #[g] h fun g h=>
Un .not g fun g=>
Br g (
Build Tryz.prog 57 [] fun g=>
St 2 h (pt e) g fun g=>
av 2 g (pt e) fun i=>
rt f (tP i (iv 5)) g) (
lD 0 (pt b) h fun g=>
CR f a 212 #[g,(.func (.func 221) #[] #[(pt b),(pt c),(pt d)])] h fun a b=>
St 2 b (pt e) a fun a=>
av 2 a (pt e) fun b=>
rt f (tP b (iv 0)) a)
theorem Ez(h:L154 g a0 a1 a2 H R):sc g 154 #[a0,a1,a2] H R:=
  sd .e Tryz.func154 h
def L155:Y1:=
fun a b c d=>
CR d a 175 #[b] c fun c e=>
Un .not c fun c=>
Br c (
rt d (tP (.slice none 0 0) (iv 5)) e) (
aF b fun c=>
lE c (iv 0) fun c=>
Br c (
rt d (tP (.slice none 0 0) (iv 0)) e) (
an 2 b (iv 0) fun c=>
ag 0 c fun c=>
Ld e c fun c=>
cO 50 1 8 (wi 0) e c c fun c e=>
aF b fun f=>
∃(g:Jt) (h:Mt),JE g [(iv 0)] e∧∀e:Value,∀i:Hp,g [e] i→∀_:Fr,
lL e f fun f=>
Br f (
an 2 b e fun b=>
av 2 i b fun b=>
lQ 2 i #[(iv 0),(.slice none 0 0)] 57 b fun b f=>
av 2 f (pt b) fun b=>
CR d a 156 #[b] f fun a b=>
lX a fun a _=>
aF c fun f=>
∃(j:Jt) (k:Mt),JE j [(iv 0)] b∧∀b:Value,∀l:Hp,j [b] l→∀_:Fr,
lL b f fun f=>
Br f (
∀f:Jt,(∀m:Hp,(∀_:Fr,
lA b (iv 1) fun n=>
aB j k [n] m [b] l)→f [] m)→
aa .num .shr a b fun j=>
aa .num .and j (wi 1) fun j=>
lE j (wi 1) fun j=>
Br j (
DR l fun j=>
lI 1 c b j fun j=>
aa .num .shl (wi 1) b fun k=>
aa .num .andNot a k fun a=>
aa .num .or j a fun a=>
an 1 c b fun b=>
St 1 l b a fun a=>
JE f [] a) (
JE f [] l)) (
lA e (iv 1) fun a=>
aB g h [a] l [e] i)) (
rt d (tP c (iv 0)) i)))
theorem Ey(h:L155 g a0 H R):sc g 155 #[a0] H R:=
  sd (hN 4 (.n (.n .e (.n (.h 0 [23] [4,21,22] (.n .e (.n .e (.n (.n (hN 3 (.n (.h 0 [34] [4,7,21,22,23,33] (.n .e (.n .e (.h 1 [] [4,7,21,22,23,33,34] (.n (.n .e (.n .e (.n (.h 0 [0,1,2,3,4,5,6,7,8,9,10] [] .e .e) .e))) .e) .e))) .e) .e)) .e) .e))) .e) .e)) .e)) Tryz.func155 h
def L156:Y1:=
fun a b c d=>
cW c (.cells (Value.cells b) 57 (0,0)) fun b c=>
av 2 c (pt b) fun e=>
aq Tryz.prog 28 1 [(0,e)] c fun c e=>
CR d a 220 #[c] e fun c e=>
Un .not c fun c=>
Br c (
rt d (tP (wi 0) (iv 5)) e) (
lD 0 (pt b) e fun c=>
∃(f:Jt) (g:Mt),JE f [(wi 0),(iv 0)] e∧∀e h:Value,∀i:Hp,f [e,h] i→∀_:Fr,
lL h c fun c=>
Br c (
∀c:Jt,(∀j:Value,∀k:Hp,(∀_:Fr,
lA h (iv 1) fun l=>
aB f g [j,l] k [e,h] i)→c [j] k)→
DR i fun f=>
av 2 f (pt b) fun g=>
av 2 f (pt b) fun b=>
CN a 215 #[g,h,vF] i fun g j=>
aM j f∧
Gx 1 g fun g=>
CN a 215 #[b,h,vT] j fun b j=>
aM j f∧
Gx 1 b fun b=>
CN a 222 #[g,b] j fun a b=>
aM b f∧
Un .not a fun a=>
Br a (
aa .num .shl (wi 1) h fun a=>
aa .num .or e a fun a=>
JE c [a] b) (
JE c [e] b)) (
rt d (tP e (iv 0)) i))
theorem Ex(h:L156 g a0 H R):sc g 156 #[a0] H R:=
  sd (hN 3 (.n (.n .e (.n (.h 0 [4,12] [1,11] (.n .e (.n .e (.h 1 [4] [1,11,12] (.n (.n .e (.n (.h 0 [0,1,4,5,2,3,6,7,8,9] [] .e .e) .e)) .e) .e))) .e) .e)) .e)) Tryz.func156 h
def L157:Y3:=
fun a b c d e f=>
CR f a 175 #[b] e fun e g=>
Un .not e fun e=>
Br e (
rt f (tP (iv 0) (iv 5)) g) (
∀e:Jt,(∀h:Value,∀i:Hp,(∀_:Fr,
lL d (iv 0) fun j=>
lO j (fun j=>
aa .num .geq d h fun k=>
(lV i k j)) fun j=>
lO (Value.bool j) (fun j=>
aa .num .shr c h fun k=>
lN k (wi 0) fun k=>
(lV i k j)) fun j=>
Br (Value.bool j) (
rt f (tP (iv 0) (iv 2)) i) (
aa .num .shr c d fun j=>
aa .num .and j (wi 1) fun j=>
lE j (wi 1) fun j=>
Br j (
rt f (tP (iv 0) (iv 4)) i) (
CR f a 176 #[b] i fun j k=>
∃(l:Jt) (m:Mt),JE l [j,(iv 0)] k∧∀j k:Value,∀n:Hp,l [j,k] n→∀_:Fr,
lL k h fun o=>
Br o (
∀o:Jt,(∀p:Value,∀q:Hp,(∀_:Fr,
lA k (iv 1) fun r=>
aB l m [p,r] q [j,k] n)→o [p] q)→
aa .num .shr c k fun c=>
aa .num .and c (wi 1) fun c=>
lE c (wi 1) fun c=>
Br c (
CR f a 177 #[j,k] n fun c k=>
lX c fun c _=>
JE o [c] k) (
JE o [j] n)) (
CR f a 177 #[j,d] n fun a c=>
lX a fun _ a=>
rt f (tP a (iv 0)) c))))→e [h] i)→
aF b fun a=>
lG a (iv 0) fun a=>
Br a (
an 2 b (iv 0) fun a=>
ag 0 a fun a=>
Ld g a fun a=>
JE e [a] g) (
JE e [(iv 16)] g))
theorem Ew(h:L157 g a0 a1 a2 H R):sc g 157 #[a0,a1,a2] H R:=
  sd (hN 3 (.h 1 [8] [0,1,2] .e (.n (.n (.h 0 [] [1] .e .e) .e) (.n .e (.n .e (.n (.n .e (.n (.h 0 [9,44] [1,2,43] (.n .e (.n .e (.h 1 [9] [1,2,43,44] .e .e))) .e) .e)) .e)))))) Tryz.func157 h
def L158:Y2:=
fun a b c d e=>
lM 0 b d fun f=>
an 2 f c fun f=>
av 2 d f fun f=>
lQ 2 d #[(iv 0),(iv 0)] 233 f fun d f=>
∃(g:Jt) (h:Mt),JE g [c] f∧∀c:Value,∀f:Hp,g [c] f→∀_:Fr,
∀i:Jt,(∀j:Value,∀k:Hp,(∀_:Fr,
Br j (
lM 0 b k fun l=>
lS c (iv 1) fun m=>
aa .num .quo m (iv 2) fun m=>
an 2 l m fun l=>
av 2 k l fun l=>
CR e a 159 #[b,c,l] k fun _ l=>
lS c (iv 1) fun m=>
aa .num .quo m (iv 2) fun m=>
aB g h [m] l [c] f) (
av 2 k (pt d) fun g=>
CR e a 159 #[b,c,g] k fun _ g=>
rt e (.tuple #[]) g))→i [j] k)→
DR f fun e=>
lG c (iv 0) fun g=>
Br g (
av 2 e (pt d) fun d=>
lM 0 b e fun b=>
lS c (iv 1) fun c=>
aa .num .quo c (iv 2) fun c=>
an 2 b c fun b=>
av 2 e b fun b=>
∀c:Hp,
CN (a.add c) 223 #[d,b] f fun a b=>
aM b e∧
ay vT a vF fun a=>
JE i [a] b) (
JE i [vF] f)
theorem Ev(h:L158 g a0 a1 H R):sc g 158 #[a0,a1] H R:=
  sd (.n .e (.n (.n (.h 0 [1] [0,4] (.n (.h 1 [26] [0,1,4] (.h 1 [] [] (hr 0 [] 0 2 (.h 2 [2] [] (hr 0 [] 3 12 .e) (hr 0 [] 3 11 (.h 3 [14] [] .e .e)))) .e) .e) .e) .e) .e) .e)) Tryz.func158 h
def L159:Y3:=
fun _ a b c d e=>
cW d (.cells (Value.cells c) 233 (0,0)) fun c d=>
DR d fun f=>
lM 0 a f fun g=>
av 2 f (pt c) fun f=>
an 2 g b fun g=>
St 2 d g f fun d=>
DR d fun f=>
lM 1 a f fun a=>
lD 0 (pt c) f fun c=>
ei (.int .i64) d a c b fun a=>
rt e (.tuple #[]) a
theorem Eu(h:L159 g a0 a1 a2 H R):sc g 159 #[a0,a1,a2] H R:=
  sd (.n .e (.n (.h 0 [0,1,2,3,4,5,6,7] [] .e .e) (.h 0 [0,1,2,3,4,5,6,7] [] .e .e))) Tryz.func159 h
def L160:Y2:=
fun a b c d e=>
lM 0 b d fun f=>
an 2 f c fun f=>
av 2 d f fun f=>
lQ 2 d #[(iv 0),(iv 0)] 233 f fun d f=>
∃(g:Jt) (h:Mt),JE g [c] f∧∀c:Value,∀f:Hp,g [c] f→∀_:Fr,
aa .num .mul (iv 2) c fun i=>
lA i (iv 1) fun i=>
∀j:Jt,(∀k:Value,∀l:Hp,(∀_:Fr,
∀m:Jt,(∀n:Value,∀o:Hp,(∀_:Fr,
Br n (
av 2 o (pt d) fun p=>
CR e a 159 #[b,c,p] o fun _ p=>
rt e (.tuple #[]) p) (
lM 0 b o fun p=>
an 2 p k fun p=>
av 2 o p fun p=>
CR e a 159 #[b,c,p] o fun _ e=>
aB g h [k] e [c] f))→m [n] o)→
DR l fun c=>
lM 0 b c fun e=>
aF e fun e=>
aa .num .geq k e fun e=>
Br e (
JE m [vT] l) (
lM 0 b c fun e=>
an 2 e k fun e=>
av 2 c e fun e=>
av 2 c (pt d) fun d=>
∀g:Hp,
CN (a.add g) 223 #[e,d] l fun d e=>
aM e c∧
Un .not d fun c=>
ay vF vT c fun c=>
JE m [c] e))→j [k] l)→
∀c:Jt,(∀d:Value,∀e:Hp,(∀_:Fr,
Br d (
lA i (iv 1) fun g=>
JE j [g] e) (
JE j [i] e))→c [d] e)→
DR f fun d=>
lA i (iv 1) fun e=>
lM 0 b d fun g=>
aF g fun g=>
lL e g fun e=>
Br e (
lM 0 b d fun e=>
lA i (iv 1) fun g=>
an 2 e g fun e=>
av 2 d e fun e=>
lM 0 b d fun b=>
an 2 b i fun b=>
av 2 d b fun b=>
∀g:Hp,
CN (a.add g) 223 #[e,b] f fun a b=>
aM b d∧
ay vT a vF fun a=>
JE c [a] b) (
JE c [vF] f)
theorem Et(h:L160 g a0 a1 H R):sc g 160 #[a0,a1] H R:=
  sd (.n .e (.n (.n (.h 0 [1] [0,4] (.n (.n .e (.h 1 [5] [0,1,4] (.h 1 [41] [0,1,4,5] (.h 1 [] [] (hr 0 [] 0 8 (.h 2 [8] [] (hr 0 [] 9 17 .e) (hr 0 [] 9 16 (.h 3 [25] [] .e .e)))) .e) .e) (.n (.h 1 [62] [0,1,4,5] (.h 1 [] [] (hr 0 [] 0 7 (.h 2 [7] [] (hr 0 [] 8 10 (.h 3 [18] [] .e .e)) (hr 0 [] 8 11 .e))) .e) .e) .e))) .e) .e) .e) .e)) Tryz.func160 h
variable {g:Gh} {a0 a1 a2 a3 a4 a5 a6 a7 a8 a9 rD rC Wh Wg Wf We:Value} {H:Hp} {R:Rt}
def L164:Y4:=
fun a b c d e f g=>
aa .ptr .eql b (.pointer none) fun h=>
Br h (
rt g (tP (ui 0) (iv 10)) f) (
CR g a 225 #[b,c,d,e] f fun f h=>
lN f (iv 0) fun i=>
Br i (
rt g (tP (ui 0) f) h) (
CR g a 226 #[b,c,d,e] h fun f h=>
lX f fun f i=>
∀j:Jt,(∀k:Value,∀l:Hp,(∀_:Fr,
CR g a 121 #[b,k] l fun m n=>
lN m (iv 0) fun o=>
Br o (
rt g (tP (ui 0) m) n) (
rt g (tP k (iv 0)) n))→j [k] l)→
Un .not i fun i=>
Br i (
lC 0 b fun i=>
CR g a 135 #[i,(iv 1)] h fun i k=>
Un .not i fun i=>
Br i (
rt g (tP (ui 0) (iv 9)) k) (
lC 0 b fun b=>
Build Tryz.prog 161 [(0,c),(1,d),(2,e)] fun c=>
CR g a 207 #[b,c] k fun a b=>
JE j [a] b)) (
JE j [f] h)))
theorem Es(h:L164 g a0 a1 a2 a3 H R):sc g 164 #[a0,a1,a2,a3] H R:=
  sd (hN 4 (.h 1 [11] [0] .e .e)) Tryz.func164 h
def L171:Y2:=
fun a b c d e=>
CR e a 206 #[b,c] d fun a d=>
lN a (iv 0) fun f=>
Br f (
rt e (tP (iv 0) a) d) (
lM 0 b d fun a=>
lI 1 a c d fun a=>
xW d a fun a=>
rt e (tP a (iv 0)) d)
theorem Er(h:L171 g a0 a1 H R):sc g 171 #[a0,a1] H R:=
  sd .e Tryz.func171 h
def L173:Y2:=
fun a b c d e=>
lM 0 b d fun b=>
CR e a 231 #[b,c] d fun a b=>
lX a fun a c=>
lQ 3 b #[(iv 0),(ui 0),(ui 0)] 161 a fun _ a=>
lE c (iv 0) fun b=>
rt e b a
theorem Ep(h:L173 g a0 a1 H R):sc g 173 #[a0,a1] H R:=
  sd .e Tryz.func173 h
def L174:Y2:=
fun a b c d e=>
lW d #[(iv 0),(ui 0),(ui 0)] 161 fun d f=>
lM 0 b f fun b=>
CR e a 231 #[b,c] f fun a b=>
lX a fun a _=>
lQ 3 b #[(iv 0),(ui 0),(ui 0)] 161 a fun a b=>
av 3 b (pt a) fun a=>
St 3 b (pt d) a fun a=>
av 3 a (pt d) fun b=>
rt e b a
theorem Eo(h:L174 g a0 a1 H R):sc g 174 #[a0,a1] H R:=
  sd .e Tryz.func174 h
def L175:Y1:=
fun a b c d=>
aF b fun e=>
∃(f:Jt) (g:Mt),JE f [(iv 0)] c∧∀c:Value,∀h:Hp,f [c] h→∀_:Fr,
lL c e fun e=>
Br e (
an 2 b c fun e=>
av 2 h e fun e=>
lQ 2 h #[(iv 0),(.slice none 0 0)] 57 e fun e i=>
∀j:Jt,(∀k:Value,∀l:Hp,(∀_:Fr,
Br k (
rt d vF l) (
lA c (iv 1) fun m=>
aB f g [m] l [c] h))→j [k] l)→
DR i fun c=>
av 2 c (pt e) fun f=>
∀g:Hp,
CN (a.add g) 232 #[f] i fun a f=>
aM f c∧
Un .not a fun a=>
Br a (
JE j [vT] f) (
lD 0 (pt e) c fun a=>
an 2 b (iv 0) fun b=>
ag 0 b fun b=>
Ld c b fun b=>
lN a b fun a=>
ay vF vT a fun a=>
JE j [a] f)) (
rt d vT h)
theorem En(h:L175 g a0 H R):sc g 175 #[a0] H R:=
  sd (.n .e (.n (.n .e (.n (.h 0 [7] [0,5,6] (.n .e (.n .e (.n (.n (.n .e (.h 1 [22] [0,5,6,7] (.h 1 [] [] (hr 0 [] 0 3 (.h 2 [3] [] (hr 0 [] 4 7 (.h 3 [11] [] .e .e)) (hr 0 [] 4 8 .e))) .e) .e)) .e) .e))) .e) .e)) .e)) Tryz.func175 h
def L176:Y1:=
fun a b c d=>
jQ c fun c e=>
aF b fun f=>
∃(g:Jt) (h:Mt),JE g [(iv 0)] e∧∀e:Value,∀i:Hp,g [e] i→∀_:Fr,
lL e f fun f=>
Br f (
an 2 b e fun b=>
av 2 i b fun b=>
lQ 2 i #[(iv 0),(.slice none 0 0)] 57 b fun b f=>
av 2 f (pt b) fun b=>
CR d a 233 #[c,b] f fun _ a=>
lA e (iv 1) fun b=>
aB g h [b] a [e] i) (
rt d c i)
theorem Em(h:L176 g a0 H R):sc g 176 #[a0] H R:=
  sd (.n .e (.n .e (.n (.n .e (.n (.h 0 [9] [3,7,8] .e .e) .e)) .e))) Tryz.func176 h
def L177:Y2:=
fun a b c d e=>
jQ d fun d f=>
TU f b fun b f=>
∃(g:Jt) (h:Mt),JE g [(iv 0)] f∧∀f:Value,∀i:Hp,g [f] i→∀_:Fr,
S6 i b fun j k=>
Ext 0 j fun j=>
Br j (
I8 k b fun b=>
Ext 1 b fun b=>
lQ 2 k #[(iv 0),(.slice none 0 0)] 57 b fun b j=>
av 2 j (pt b) fun l=>
CR e a 148 #[l,c,vF] j fun j l=>
lX j fun j _=>
lQ 2 l #[(iv 0),(.slice none 0 0)] 57 j fun j l=>
av 2 l (pt b) fun b=>
CR e a 148 #[b,c,vT] l fun b c=>
lX b fun b _=>
lQ 2 c #[(iv 0),(.slice none 0 0)] 57 b fun b c=>
DR c fun l=>
av 2 l (pt j) fun m=>
av 2 l (pt b) fun n=>
CN a 234 #[m] c fun c m=>
aM m l∧
CN a 234 #[n] m fun a m=>
aM m l∧
∀l:Jt,(∀n:Value,∀o:Hp,(∀_:Fr,
DR o fun p=>
av 2 p (pt j) fun j=>
av 2 p (pt b) fun b=>
ei (.string) o d c j fun j=>
aM j p∧
ei (.string) j d a b fun b=>
aB g h [n] b [f] i)→l [n] o)→
aa .str .neq c a fun a=>
Br a (
lA f (iv 1) fun a=>
JE l [a] m) (
JE l [f] m)) (
rt e (tP d f) k)
theorem El(h:L177 g a0 a1 H R):sc g 177 #[a0,a1] H R:=
  sd (.n .e (.n .e (.n (.n .e (.n (.h 0 [7] [1,6,18] (.n .e (.n .e (.n (hN 3 (.n (.h 0 [0,2,1,3,4,5] [] .e .e) (.h 1 [7] [1,6,10,12,14,15,18] .e (.h 0 [0,1,2,3,4,5,6,7] [] .e .e)))) .e))) .e) .e)) .e))) Tryz.func177 h
def L178:Y2:=
fun a b c d e=>
CR e a 101 #[b] d fun d f=>
CR e a 101 #[c] f fun a f=>
lE d (iv 4) fun g=>
lO g (fun g=>
lE a (iv 4) fun h=>
(lV f h g)) fun g=>
lO (Value.bool g) (fun g=>
aF b fun b=>
aF c fun c=>
lN b c fun b=>
(lV f b g)) fun g=>
Br (Value.bool g) (
rt e (iv 4) f) (
An d a fun a=>
rt e a f)
theorem Ek(h:L178 g a0 a1 H R):sc g 178 #[a0,a1] H R:=
  sd (.n .e (.n .e (.n (.n (.h 0 [] [1] .e .e) .e) .e))) Tryz.func178 h
def L179:Y2:=
fun _ a b c d=>
aF a fun e=>
∃(f:Jt) (g:Mt),JE f [(iv 0)] c∧∀c:Value,∀h:Hp,f [c] h→∀_:Fr,
lL c e fun e=>
Br e (
lI 1 a c h fun a=>
lE b a fun a=>
Br a (
rt d c h) (
lA c (iv 1) fun a=>
aB f g [a] h [c] h)) (
d (.returned (iv (-1))) h)
theorem Ej(h:L179 g a0 a1 H R):sc g 179 #[a0,a1] H R:=
  sd (.n .e (.n (.n .e (.n (.h 0 [8] [0,1,7] .e .e) .e)) .e)) Tryz.func179 h
def L180:Y2:=
fun a b c d e=>
Ld d b fun f=>
CR e a 105 #[f] d fun _ a=>
Ld a b fun b=>
lM 2 b a fun b=>
St 1 a c b fun a=>
rt e (.tuple #[]) a
theorem rh(h:L180 g a0 a1 H R):iY Tryz.prog g 180 #[a0,a1] H R:=
 wQ (hn:=.e) Tryz.func180 h (by kernel_rfl)
def L181:Y1:=
fun a b c d=>
DR c fun e=>
Ld e b fun f=>
Ld e b fun b=>
lM 1 b e fun b=>
∀e:Hp,
CN (a.add e) 182 #[f,b,(iv 1)] c fun a b=>
rt d a b
theorem tY(h:L181 g a0 H R):sc g 181 #[a0] H R:=
  sd (.n .e (.n (.h 1 [] [] (hr 0 [1] 0 7 .e) .e) .e)) Tryz.func181 h
def L182:Y3:=
fun a b c d e f=>
lM 0 b e fun g=>
CR f a 17 #[g,c] e fun a c=>
∀e:Jt,(∀g:Hp,(∀_:Fr,
rt f a g)→e [] g)→
lE a (iv 0) fun a=>
Br a (
lM 5 b c fun a=>
lA a (iv 1) fun a=>
lC 5 b fun f=>
St 1 c f a fun a=>
lM 1 b a fun f=>
lA f d fun d=>
lC 1 b fun b=>
St 1 a b d fun a=>
JE e [] a) (
JE e [] c)
theorem tX(h:L182 g a0 a1 a2 H R):sc g 182 #[a0,a1,a2] H R:=
  sd (.n .e (.n .e (.h 1 [] [7] .e .e))) Tryz.func182 h
def L183:Y1:=
fun a b c d=>
DR c fun e=>
Ld e b fun f=>
Ld e b fun b=>
lM 1 b e fun b=>
lS b (iv 1) fun b=>
∀e:Hp,
CN (a.add e) 182 #[f,b,(iv (-1))] c fun a b=>
rt d a b
theorem tW(h:L183 g a0 H R):sc g 183 #[a0] H R:=
  sd (.n .e (.n (.h 1 [] [] (hr 0 [1] 0 8 .e) .e) .e)) Tryz.func183 h
def L184:Y1:=
fun _ a b c=>
aa .ptr .eql a (.pointer none) fun d=>
Br d (
rt c (iv 0) b) (
lM 0 a b fun a=>
aF a fun a=>
rt c a b)
theorem Ei(h:L184 g a0 H R):sc g 184 #[a0] H R:=
  sd .e Tryz.func184 h
def L185:Y1:=
fun _ a b c=>
cO 3 1 8 (iv 0) b a a fun b d=>
∃(e:Jt) (f:Mt),JE e [(iv 0)] d∧∀d:Value,∀g:Hp,e [d] g→∀_:Fr,
lL d a fun a=>
Br a (
an 1 b d fun a=>
St 1 g a d fun a=>
lA d (iv 1) fun h=>
aB e f [h] a [d] g) (
rt c b g)
theorem Eh(h:L185 g a0 H R):sc g 185 #[a0] H R:=
  sd (.n .e (.n .e (.n (.n .e (.n (.h 0 [8] [3,7] .e .e) .e)) .e))) Tryz.func185 h
def L186:Y1:=
fun _ a b c=>
lL a (iv 2) fun d=>
lO d (fun d=>
lG a (iv 1048576) fun e=>
(lV b e d)) fun d=>
Br (Value.bool d) (
rt c (tP (.pointer none) (iv 1)) b) (
Build Tryz.prog 198 [(0,a),(3,(iv 2))] fun a=>
cW b (.cells (Value.cells a) 198 (0,0)) fun a b=>
∃(d:Jt) (e:Mt),JE d [(ui 0)] b∧∀b:Value,∀f:Hp,d [b] f→∀_:Fr,
lL b (ui 2) fun g=>
Br g (
lM 1 (pt a) f fun g=>
Build Tryz.prog 161 [(0,(iv (-1))),(1,b),(2,b)] fun h=>
Build Tryz.prog 291 [(0,h),(1,vT),(2,(bi 255))] fun h=>
aq Tryz.prog 196 1 [(0,h)] f fun h i=>
App Tryz.prog 291 5 24 (.agg #[(iv 0),(ui 0),(ui 0),vF,(bi 0)]) i g h fun g h=>
lC 1 (pt a) fun i=>
St 1 h i g fun g=>
lA b (ui 1) fun h=>
aB d e [h] g [b] f) (
rt c (tP (pt a) (iv 0)) f))
theorem Eg(h:L186 g a0 H R):sc g 186 #[a0] H R:=
  sd (.n .e (.n (.n (.h 0 [] [1] .e .e) .e) (.n .e (.n (.n .e (.n (.h 0 [15] [4] .e .e) .e)) .e)))) Tryz.func186 h
def L193:Y1:=
fun a b c d=>
cW c (.cells (Value.cells b) 57 (0,0)) fun b c=>
lW c #[(iv 0),(.slice none 0 0)] 57 fun c e=>
av 2 e (pt b) fun f=>
aq Tryz.prog 28 1 [(0,f)] e fun e f=>
CR d a 220 #[e] f fun e f=>
Un .not e fun e=>
Br e (
Build Tryz.prog 57 [] fun e=>
St 2 f (pt c) e fun e=>
av 2 e (pt c) fun g=>
rt d (tP g (iv 5)) e) (
lD 0 (pt b) f fun e=>
CR d a 212 #[e,(.func (.func 238) #[] #[(pt b)])] f fun a b=>
St 2 b (pt c) a fun a=>
av 2 a (pt c) fun b=>
rt d (tP b (iv 0)) a)
theorem Ef(h:L193 g a0 H R):sc g 193 #[a0] H R:=
  sd .e Tryz.func193 h
def L194:Y3:=
fun a b c d e f=>
cW e (.cells (Value.cells b) 5 (0,0)) fun b e=>
cW e (.cells (Value.cells c) 57 (0,0)) fun c e=>
cW e (.cells (Value.cells d) 57 (0,0)) fun d e=>
lW e #[(iv 0),(.slice none 0 0)] 57 fun e g=>
Ld g (pt b) fun h=>
lG h (bi 15) fun h=>
Br h (
Build Tryz.prog 57 [] fun h=>
St 2 g (pt e) h fun h=>
av 2 h (pt e) fun i=>
rt f (tP i (iv 1)) h) (
av 2 g (pt c) fun h=>
av 2 g (pt d) fun i=>
aq Tryz.prog 28 2 [(0,h),(1,i)] g fun g h=>
CR f a 220 #[g] h fun g h=>
Un .not g fun g=>
Br g (
Build Tryz.prog 57 [] fun g=>
St 2 h (pt e) g fun g=>
av 2 g (pt e) fun i=>
rt f (tP i (iv 5)) g) (
lD 0 (pt c) h fun g=>
CR f a 212 #[g,(.func (.func 239) #[] #[(pt c),(pt d),(pt b)])] h fun a b=>
St 2 b (pt e) a fun a=>
av 2 a (pt e) fun b=>
rt f (tP b (iv 0)) a))
theorem Ee(h:L194 g a0 a1 a2 H R):sc g 194 #[a0,a1,a2] H R:=
  sd .e Tryz.func194 h
def L195:Y2:=
fun a b c d e=>
aa .ptr .eql b (.pointer none) fun f=>
Br f (
rt e (tP (ui 0) (iv 10)) d) (
CR e a 164 #[b,c,(ui 0),(ui 1)] d fun a b=>
lX a fun a c=>
rt e (tP a c) b)
theorem Ed(h:L195 g a0 a1 H R):sc g 195 #[a0,a1] H R:=
  sd .e Tryz.func195 h
def L196:Y2:=
fun a b c d e=>
CR e a 197 #[b,(bi 3),c,(ui 0)] d fun a b=>
lX a fun a c=>
rt e (tP a c) b
theorem Ec(h:L196 g a0 a1 H R):sc g 196 #[a0,a1] H R:=
  sd .e Tryz.func196 h
def L197:Y4:=
fun a b c d e f g=>
cW f (.cells (Value.cells c) 5 (0,0)) fun c f=>
aa .ptr .eql b (.pointer none) fun h=>
Br h (
rt g (tP (ui 0) (iv 10)) f) (
Ld f (pt c) fun h=>
lG h (bi 15) fun h=>
Br h (
rt g (tP (ui 0) (iv 1)) f) (
aq Tryz.prog 27 2 [(0,d),(1,e)] f fun f h=>
CR g a 240 #[b,f] h fun b f=>
lX b fun b h=>
lN h (iv 0) fun i=>
Br i (
rt g (tP (ui 0) h) f) (
Build Tryz.prog 318 [(0,d),(1,e)] fun d=>
CR g a 241 #[b,d,(.func (.func 242) #[] #[(pt c)])] f fun a b=>
lX a fun a c=>
rt g (tP a c) b)))
theorem Eb(h:L197 g a0 a1 a2 a3 H R):sc g 197 #[a0,a1,a2,a3] H R:=
  sd .e Tryz.func197 h
def L198:Y4:=
fun a b c d e f g=>
aq Tryz.prog 27 3 [(0,c),(1,d),(2,e)] f fun f h=>
CR g a 240 #[b,f] h fun b f=>
lX b fun b h=>
lN h (iv 0) fun i=>
Br i (
rt g (tP (ui 0) h) f) (
Build Tryz.prog 318 [(0,c),(1,d),(2,e)] fun c=>
CR g a 241 #[b,c,(.func (.func 244) #[] #[])] f fun a b=>
lX a fun a c=>
rt g (tP a c) b)
theorem Ea(h:L198 g a0 a1 a2 a3 H R):sc g 198 #[a0,a1,a2,a3] H R:=
  sd .e Tryz.func198 h
def L199:Y4:=
fun a b c d e f g=>
CR g a 245 #[b,d] f fun f h=>
lX f fun f i=>
aa .ptr .neq b (.pointer none) fun j=>
lU j (fun j=>
Un .not i fun i=>
(lV h i j)) fun j=>
Br (Value.bool j) (
rt g (tP (ui 0) (iv 2)) h) (
aq Tryz.prog 27 1 [(0,c)] h fun h i=>
CR g a 246 #[b,f,h] i fun f h=>
lN f (iv 0) fun i=>
Br i (
rt g (tP (ui 0) f) h) (
CR g a 248 #[b,c,d,e] h fun b c=>
lX b fun d e=>
Ext 2 b fun b=>
CR g a 247 #[d,e,b] c fun a b=>
lX a fun a c=>
rt g (tP a c) b))
theorem D9(h:L199 g a0 a1 a2 a3 H R):sc g 199 #[a0,a1,a2,a3] H R:=
  sd (.n .e (.n .e (.n (.n (.h 0 [] [1] .e .e) .e) .e))) Tryz.func199 h
def L200:Y3:=
fun a b c d e f=>
CR f a 249 #[b,c,d,vT] e fun a b=>
lX a fun a c=>
rt f (tP a c) b
theorem D8(h:L200 g a0 a1 a2 H R):sc g 200 #[a0,a1,a2] H R:=
  sd .e Tryz.func200 h
def L201:Y3:=
fun a b c d e f=>
CR f a 249 #[b,c,d,vF] e fun a b=>
lX a fun a c=>
rt f (tP a c) b
theorem D7(h:L201 g a0 a1 a2 H R):sc g 201 #[a0,a1,a2] H R:=
  sd .e Tryz.func201 h
def L202:Y4:=
fun a b c d e f g=>
CF a 245 #[b,d] f (fun f h=>
lX f fun f i=>
aa .ptr .neq b (.pointer none) fun j=>
lU j (fun j=>
Un .not i fun i=>
(lV h i j)) fun j=>
Br (Value.bool j) (
rt g (tP (ui 0) (iv 2)) h) (
aq Tryz.prog 27 2 [(0,c),(1,e)] h fun h i=>
CF a 246 #[b,f,h] i (fun f h=>
lN f (iv 0) fun i=>
Br i (
rt g (tP (ui 0) f) h) (
CF a 248 #[b,c,d,vF] h (fun f h=>
lX f fun i j=>
Ext 2 f fun f=>
CF a 247 #[i,j,f] h (fun f h=>
lX f fun f i=>
lN i (iv 0) fun j=>
Br j (
rt g (tP (ui 0) i) h) (
CF a 248 #[b,c,d,vT] h (fun c d=>
lX c fun h i=>
Ext 2 c fun c=>
CF a 247 #[h,i,c] d (fun c d=>
lX c fun c h=>
lN h (iv 0) fun i=>
Br i (
jU Tryz.prog a 131 #[b,f] d fun i=>
rt g (tP (ui 0) h) i) (
CF a 198 #[b,e,c,f] d (fun d e=>
lX d fun d h=>
jU Tryz.prog a 131 #[b,c] e fun c=>
jU Tryz.prog a 131 #[b,f] c fun a=>
rt g (tP d h) a) Ik)) Ik) Ik)) Ik) Ik)) Ik)) Ik
theorem D6(h:L202 g a0 a1 a2 a3 H R):sc g 202 #[a0,a1,a2,a3] H R:=
 wP (hn:=(.n .e (.n .e (.n (.n (.h 0 [] [1] .e .e) .e) (hN 7 .e))))) Tryz.func202 h (by kernel_rfl)
def L203:Y2:=
fun a b c d e=>
CR e a 206 #[b,c] d fun d f=>
lN d (iv 0) fun g=>
Br g (
rt e (tP (.slice none 0 0) d) f) (
lM 0 b f fun b=>
lI 1 b c f fun b=>
CR e a 251 #[b] f fun b c=>
CR e a 250 #[b] c fun a b=>
rt e (tP a (iv 0)) b)
theorem D5(h:L203 g a0 a1 H R):sc g 203 #[a0,a1] H R:=
  sd .e Tryz.func203 h
def L204:Y3:=
fun a b c d e f=>
lC 0 b fun b=>
CR f a 174 #[b,c] e fun a b=>
lQ 3 b #[(iv 0),(ui 0),(ui 0)] 161 a fun a b=>
lD 0 (pt a) b fun e=>
lE e d fun d=>
Br d (
lD 1 (pt a) b fun d=>
lD 2 (pt a) b fun a=>
rt f (tP d a) b) (
rt f (tP c c) b)
theorem D4(h:L204 g a0 a1 a2 H R):sc g 204 #[a0,a1,a2] H R:=
  sd .e Tryz.func204 h
def L205:Y2:=
fun a b c d e=>
cW d (.cells (Value.cells c) 161 (0,0)) fun c d=>
lD 0 (pt c) d fun f=>
CR e a 206 #[b,f] d fun a d=>
lN a (iv 0) fun a=>
Br a (
rt e (tP (ui 0) vF) d) (
lM 0 b d fun a=>
lD 0 (pt c) d fun b=>
lI 1 a b d fun a=>
av 3 d (pt c) fun b=>
iI Tryz.prog 161 (ui 0) true d a b fun a=>
lX a fun a b=>
rt e (tP a b) d)
theorem D3(h:L205 g a0 a1 H R):sc g 205 #[a0,a1] H R:=
  sd .e Tryz.func205 h
def L206:Y2:=
fun _ a b c d=>
aa .ptr .eql a (.pointer none) fun e=>
Br e (
rt d (iv 10) c) (
lL b (iv 0) fun e=>
lO e (fun e=>
lM 0 a c fun a=>
aF a fun a=>
aa .num .geq b a fun a=>
(lV c a e)) fun e=>
Br (Value.bool e) (
rt d (iv 2) c) (
rt d (iv 0) c))
theorem D2(h:L206 g a0 a1 H R):sc g 206 #[a0,a1] H R:=
  sd (.n .e (.n (.n (.n .e (.n .e (.n (.h 0 [] [1] .e .e) .e))) .e) .e)) Tryz.func206 h
def L207:Y2:=
fun a b c d e=>
cW d (.cells (Value.cells c) 161 (0,0)) fun c d=>
DR d fun f=>
lM 0 b f fun g=>
av 3 f (pt c) fun h=>
CN a 252 #[g,h] d fun d g=>
aM g f∧
lX d fun d _=>
∃(f:Jt) (h:Mt),JE f [] g∧∀g:Hp,f [] g→∀_:Fr,
aQ .i64 d fun i=>
lM 2 b g fun j=>
aF j fun j=>
aa .num .geq i j fun i=>
Br i (
lM 2 b g fun i=>
aq Tryz.prog 113 1 [(0,(Value.int .i32 0))] g fun j k=>
App Tryz.prog 21 1 4 (Value.int .i32 0) k i j fun i j=>
lC 2 b fun k=>
St 1 j k i fun i=>
lM 3 b i fun j=>
aq Tryz.prog 113 1 [(0,(Value.int .i32 0))] i fun i k=>
App Tryz.prog 21 1 4 (Value.int .i32 0) k j i fun i j=>
lC 3 b fun k=>
St 1 j k i fun i=>
aB f h [] i [] g) (
DR g fun f=>
lM 2 b f fun h=>
lM 3 b f fun f=>
an 1 h d fun h=>
St 1 g h (Value.int .i32 0) fun g=>
an 1 f d fun f=>
St 1 g f (Value.int .i32 0) fun f=>
lD 1 (pt c) f fun g=>
CR e a 139 #[b,g] f fun _ f=>
lD 2 (pt c) f fun g=>
CR e a 139 #[b,g] f fun _ f=>
DR f fun g=>
lM 1 b g fun b=>
av 3 g (pt c) fun c=>
CN a 141 #[b,c,d] f fun _ a=>
rt e d a)
theorem D1(h:L207 g a0 a1 H R):sc g 207 #[a0,a1] H R:=
  sd (.n .e (.n (.h 0 [0,1,2,3,4,5,6,7,8,9,10] [] .e .e) (.n (.n (.h 0 [] [0,3,5] .e .e) .e) (.n (.h 0 [0,1,2,3,4,5,6,7,8,9,10,11,12,13] [] .e .e) (.n .e (.n .e (.n (.h 0 [0,1,2,3,4,5,6] [] .e .e) .e))))))) Tryz.func207 h
def L208:Y2:=
fun a b c d e=>
cW d (.cells (Value.cells c) 161 (0,0)) fun c d=>
lD 0 (pt c) d fun f=>
lL f (iv 0) fun f=>
lO f (fun f=>
lD 0 (pt c) d fun g=>
aa .num .geq g (iv 64) fun g=>
(lV d g f)) fun f=>
Br (Value.bool f) (
rt e (iv 2) d) (
∀f:Jt,(∀g:Value,∀h:Hp,(∀_:Fr,
Br g (
rt e (iv 3) h) (
rt e (iv 0) h))→f [g] h)→
lD 1 (pt c) d fun g=>
CR e a 253 #[b,g] d fun d g=>
Un .not d fun d=>
Split d false (
lD 2 (pt c) g fun c=>
CR e a 253 #[b,c] g fun a b=>
Un .not a fun a=>
ay vF vT a fun a=>
JE f [a] b) (
ay vT vT undef fun a=>
JE f [a] g))
theorem D0(h:L208 g a0 a1 H R):sc g 208 #[a0,a1] H R:=
  sd (.n .e (.n (.n (.n (.h 0 [] [1] .e .e) (.n .e (.h 1 [14] [] .e .e))) .e) .e)) Tryz.func208 h
def L209:Y2:=
fun a b c d e=>
∀f:Jt,(∀g:Value,∀h:Hp,(∀_:Fr,
Br g (
rt e (iv 3) h) (
rt e (iv 0) h))→f [g] h)→
aa .num .leq c (ui 1) fun g=>
Split g false (
CR e a 253 #[b,c] d fun a b=>
Un .not a fun a=>
ay vF vT a fun a=>
JE f [a] b) (
ay vT vT undef fun a=>
JE f [a] d)
theorem DZ(h:L209 g a0 a1 H R):sc g 209 #[a0,a1] H R:=
  sd (.n .e (.n (.h 1 [12] [] .e .e) .e)) Tryz.func209 h
def L210:Y2:=
fun a b c d e=>
aa .ptr .eql b (.pointer none) fun f=>
Br f (
rt e (iv 10) d) (
CR e a 209 #[b,c] d fun a d=>
lN a (iv 0) fun f=>
Br f (
rt e a d) (
lM 1 b d fun a=>
Build Tryz.prog 291 [] fun f=>
an 5 a c fun a=>
St 5 d a f fun a=>
lM 2 b a fun d=>
aq Tryz.prog 27 1 [(0,c)] a fun a c=>
App Tryz.prog 77 1 4 (ui 0) c d a fun a c=>
lC 2 b fun d=>
St 1 c d a fun a=>
lM 3 b a fun c=>
lS c (iv 1) fun c=>
lC 3 b fun b=>
St 1 a b c fun a=>
rt e (iv 0) a))
theorem DY(h:L210 g a0 a1 H R):sc g 210 #[a0,a1] H R:=
  sd .e Tryz.func210 h
def L211:Y1:=
fun _ a b c=>
lL a (iv 0) fun d=>
Br d (
rt c (iv 1) b) (
lG a (iv 16) fun a=>
Br a (
rt c (iv 6) b) (
rt c (iv 0) b))
theorem DX(h:L211 g a0 H R):sc g 211 #[a0] H R:=
  sd .e Tryz.func211 h
def L212:Y2:=
fun a b c d e=>
lW d #[(iv 0),(.slice none 0 0)] 57 fun d f=>
CR e a 254 #[b] f fun f g=>
cO 50 1 8 (wi 0) g f f fun f g=>
Build Tryz.prog 57 [(0,b),(1,f)] fun f=>
lQ 2 g #[(iv 0),(.slice none 0 0)] 57 f fun f g=>
lD 1 (pt f) g fun h=>
aF h fun h=>
∃(i:Jt) (j:Mt),JE i [(iv 0)] g∧∀g:Value,∀k:Hp,i [g] k→∀_:Fr,
lL g h fun h=>
Br h (
DR k fun h=>
lD 1 (pt f) h fun l=>
bI Tryz.prog a c #[g] k (fun c m=>
aM m h∧
CN a 255 #[b] m fun a b=>
aM b h∧
aa .num .and c a fun a=>
an 1 l g fun c=>
St 1 b c a fun a=>
lA g (iv 1) fun b=>
aB i j [b] a [g] k) uQ) (
av 2 k (pt f) fun a=>
St 2 k (pt d) a fun a=>
av 2 a (pt d) fun b=>
rt e b a)
theorem DW(h:L212 g a0 a1 H R):sc g 212 #[a0,a1] H R:=
  sd (.n .e (.n .e (.n (.n .e (.n (.h 0 [15] [0,1,4,5,14] (.n .e (.n .e (.n (.n (.n .e (.h 0 [0,1,2,3,4,6,5,7,8,9,10] [] .e .e)) .e) .e))) .e) .e)) .e))) Tryz.func212 h
def L213:Y2:=
fun _ _ a b c=>
Ld b a fun a=>
Br a (
rt c (wi 18446744073709551615) b) (
rt c (wi 0) b)
theorem DV(h:L213 g a0 a1 H R):sc g 213 #[a0,a1] H R:=
  sd .e Tryz.func213 h
def L214:Y2:=
fun a b c d e=>
cW d (.cells (Value.cells b) 57 (0,0)) fun b d=>
av 2 d (pt b) fun f=>
aq Tryz.prog 28 1 [(0,f)] d fun d f=>
CR e a 220 #[d] f fun a d=>
Un .not a fun a=>
Br a (
rt e (iv 5) d) (
lL c (iv 0) fun a=>
lO a (fun a=>
lD 0 (pt b) d fun b=>
aa .num .geq c b fun b=>
(lV d b a)) fun a=>
Br (Value.bool a) (
rt e (iv 2) d) (
rt e (iv 0) d))
theorem DU(h:L214 g a0 a1 H R):sc g 214 #[a0,a1] H R:=
  sd (.n .e (.n (.n (.n .e (.n .e (.n (.h 0 [] [1] .e .e) .e))) .e) .e)) Tryz.func214 h
def L215:Y3:=
fun a b c d e f=>
cW e (.cells (Value.cells b) 57 (0,0)) fun b e=>
cW e (.cells (Value.cells c) 3 (0,0)) fun c e=>
cW e (.cells (Value.cells d) 4 (0,0)) fun d e=>
lW e #[(iv 0),(.slice none 0 0)] 57 fun e g=>
lD 0 (pt b) g fun h=>
CR f a 212 #[h,(.func (.func 256) #[] #[(pt c),(pt d),(pt b)])] g fun a b=>
St 2 b (pt e) a fun a=>
av 2 a (pt e) fun b=>
rt f b a
theorem DS(h:L215 g a0 a1 a2 H R):sc g 215 #[a0,a1,a2] H R:=
  sd .e Tryz.func215 h
def L216:Y5:=
fun a b c d e f g h=>
lW g #[(iv 0),(.slice none 0 0)] 57 fun g i=>
Ld i c fun j=>
mK (.int .u32) (.agg #[(iv 0),(.slice none 0 0)]) true i j b fun j=>
lX j fun j k=>
lQ 2 i #[(iv 0),(.slice none 0 0)] 57 j fun i j=>
Br k (
av 2 j (pt i) fun i=>
St 2 j (pt g) i fun i=>
av 2 i (pt g) fun k=>
rt h k i) (
Ld j d fun d=>
CR h a 217 #[d,b] j fun d i=>
lQ 3 i #[(iv 0),(ui 0),(ui 0)] 161 d fun d i=>
DR i fun j=>
Ld j e fun e=>
av 3 j (pt d) fun k=>
Ld j f fun l=>
lD 1 (pt d) j fun m=>
Ld j f fun f=>
lD 2 (pt d) j fun d=>
∀n:Hp,
bI Tryz.prog (a.add n) l #[m] i (fun i l=>
aM l j∧
∀m:Hp,
bI Tryz.prog (a.add m) f #[d] l (fun d f=>
aM f j∧
∀l:Hp,
bI Tryz.prog (a.add l) e #[k,i,d] f (fun a d=>
aM d j∧
lW d #[(iv 0),(.slice none 0 0)] 57 fun d e=>
∀_:Hp,
St 2 e (pt d) a fun a=>
Ld a c fun c=>
av 2 a (pt d) fun e=>
ei (.int .u32) a c b e fun a=>
av 2 a (pt d) fun b=>
St 2 a (pt g) b fun a=>
av 2 a (pt g) fun b=>
rt h b a) uQ) uQ) uQ)
theorem tV(h:L216 g a0 a1 a2 a3 a4 H R):sc g 216 #[a0,a1,a2,a3,a4] H R:=
  sd (hN 3 (.n (.h 1 [] [] (hr 0 [] 0 5 (hr 0 [] 6 3 (.h 1 [11] [] (.h 0 [5] [] (hr 0 [] 9 4 .e) .e) .e))) .e) .e)) Tryz.func216 h
def L217:Y2:=
fun a b c d e=>
lW d #[(iv 0),(ui 0),(ui 0)] 161 fun d f=>
CR e a 97 #[b,c] f fun a b=>
lX a fun a _=>
lQ 3 b #[(iv 0),(ui 0),(ui 0)] 161 a fun a b=>
av 3 b (pt a) fun a=>
St 3 b (pt d) a fun a=>
av 3 a (pt d) fun b=>
rt e b a
theorem DQ(h:L217 g a0 a1 H R):sc g 217 #[a0,a1] H R:=
  sd .e Tryz.func217 h
def L218:Y2:=
fun a b c d e=>
Ld d c fun c=>
CR e a 219 #[c,b] d fun a b=>
rt e a b
theorem DP(h:L218 g a0 a1 H R):sc g 218 #[a0,a1] H R:=
  sd .e Tryz.func218 h
def L219:Y2:=
fun _ a b c d=>
aa .num .geq a (iv 6) fun e=>
Br e (
aQ .u64 b fun b=>
lS a (iv 6) fun e=>
aa .num .shr b e fun b=>
aa .num .and b (wi 1) fun b=>
Un .neg b fun b=>
rt d b c) (
∃(b:Jt) (e:Mt),JE b [(wi 0),(iv 0)] c∧∀c f:Value,∀g:Hp,b [c,f] g→∀_:Fr,
lL f (iv 64) fun h=>
Br h (
aa .num .shr f a fun a=>
aa .num .and a (iv 1) fun a=>
aQ .u64 a fun a=>
aa .num .shl a f fun a=>
aa .num .or c a fun a=>
lA f (iv 1) fun h=>
aB b e [a,h] g [c,f] g) (
rt d c g))
theorem DO(h:L219 g a0 a1 H R):sc g 219 #[a0,a1] H R:=
  sd (hN 3 (.n (.n .e (.n (.h 0 [5,16] [0] .e .e) .e)) .e)) Tryz.func219 h
def L220:Y1:=
fun a b c d=>
aF b fun e=>
∃(f:Jt) (g:Mt),JE f [(iv 0)] c∧∀c:Value,∀h:Hp,f [c] h→∀_:Fr,
lL c e fun e=>
Br e (
an 2 b c fun e=>
av 2 h e fun e=>
lQ 2 h #[(iv 0),(.slice none 0 0)] 57 e fun e i=>
∀j:Jt,(∀k:Value,∀l:Hp,(∀_:Fr,
Br k (
rt d vF l) (
lA c (iv 1) fun m=>
aB f g [m] l [c] h))→j [k] l)→
DR i fun c=>
av 2 c (pt e) fun f=>
∀g:Hp,
CN (a.add g) 232 #[f] i fun a f=>
aM f c∧
Un .not a fun a=>
Br a (
JE j [vT] f) (
lD 0 (pt e) c fun a=>
an 2 b (iv 0) fun b=>
ag 0 b fun b=>
Ld c b fun b=>
lN a b fun a=>
ay vF vT a fun a=>
JE j [a] f)) (
rt d vT h)
theorem DN(h:L220 g a0 H R):sc g 220 #[a0] H R:=
  sd (.n .e (.n (.n .e (.n (.h 0 [7] [0,5,6] (.n .e (.n .e (.n (.n (.n .e (.h 1 [22] [0,5,6,7] (.h 1 [] [] (hr 0 [] 0 3 (.h 2 [3] [] (hr 0 [] 4 7 (.h 3 [11] [] .e .e)) (hr 0 [] 4 8 .e))) .e) .e)) .e) .e))) .e) .e)) .e)) Tryz.func220 h
def L221:Y4:=
fun _ a b c d e f=>
ag 1 b fun g=>
Ld e g fun g=>
lI 1 g a e fun g=>
ag 1 c fun c=>
Ld e c fun c=>
lI 1 c a e fun c=>
aa .num .and g c fun c=>
ag 1 b fun b=>
Ld e b fun b=>
lI 1 b a e fun b=>
Un .xor b fun b=>
ag 1 d fun d=>
Ld e d fun d=>
lI 1 d a e fun a=>
aa .num .and b a fun a=>
aa .num .or c a fun a=>
rt f a e
theorem DM(h:L221 g a0 a1 a2 a3 H R):sc g 221 #[a0,a1,a2,a3] H R:=
  sd .e Tryz.func221 h
def L222:Y2:=
fun _ a b c d=>
aF a fun e=>
aF b fun f=>
lN e f fun e=>
Br e (
rt d vF c) (
aF a fun e=>
∃(f:Jt) (g:Mt),JE f [(iv 0)] c∧∀c:Value,∀h:Hp,f [c] h→∀_:Fr,
lL c e fun e=>
Br e (
lI 1 a c h fun a=>
lI 1 b c h fun b=>
lN a b fun a=>
Br a (
rt d vF h) (
lA c (iv 1) fun a=>
aB f g [a] h [c] h)) (
rt d vT h))
theorem DL(h:L222 g a0 a1 H R):sc g 222 #[a0,a1] H R:=
  sd (.n .e (.n .e (.n (.n .e (.n (.h 0 [13] [0,1,12] .e .e) .e)) .e))) Tryz.func222 h
def L223:Y2:=
fun _ a b c d=>
cW c (.cells (Value.cells a) 233 (0,0)) fun a c=>
cW c (.cells (Value.cells b) 233 (0,0)) fun b c=>
lD 1 (pt a) c fun e=>
lD 1 (pt b) c fun f=>
lL e f fun e=>
lO e (fun e=>
lD 1 (pt a) c fun f=>
lD 1 (pt b) c fun g=>
lE f g fun f=>
df f true (fun f=>
lD 0 (pt a) c fun a=>
lD 0 (pt b) c fun b=>
lL a b fun a=>
(lV c a f)) (fun f=>vF=Value.bool f) fun f=>∀_:Fr,
(lV c (Value.bool f) e)) fun e=>
rt d (Value.bool e) c
theorem DK(h:L223 g a0 a1 H R):sc g 223 #[a0,a1] H R:=
  sd (.n .e (.n (.h 0 [] [1] .e .e) .e)) Tryz.func223 h
def L225:Y4:=
fun a b c d e f g=>
CR g a 113 #[b,c] f fun f h=>
Un .not f fun f=>
Br f (
rt g (iv 2) h) (
∀f:Jt,(∀i:Value,∀j:Hp,(∀_:Fr,
Br i (
rt g (iv 3) j) (
∀k:Jt,(∀l:Value,∀m:Hp,(∀_:Fr,
Br l (
rt g (iv 4) m) (
rt g (iv 0) m))→k [l] m)→
DR j fun l=>
lN d e fun m=>
Br m (
lM 6 b l fun m=>
lI 1 m c l fun c=>
∀m:Hp,
CN (a.add m) 257 #[b,d] j fun m n=>
aM n l∧
∀o:Hp,
CN (a.add o) 257 #[b,e] n fun n o=>
aM o l∧
S7 m n fun l=>
aa .num .geq c l fun c=>
ay vT c vF fun c=>
JE k [c] o) (
JE k [vF] j)))→f [i] j)→
lC 0 b fun c=>
CR g a 173 #[c,d] h fun c d=>
Un .not c fun c=>
Split c false (
lC 0 b fun b=>
CR g a 173 #[b,e] d fun a b=>
Un .not a fun a=>
ay vF vT a fun a=>
JE f [a] b) (
ay vT vT undef fun a=>
JE f [a] d))
theorem DJ(h:L225 g a0 a1 a2 a3 H R):sc g 225 #[a0,a1,a2,a3] H R:=
  sd (.n .e (.n (.n (.n .e (.n .e (.h 1 [14] [0,1,2,3] .e (.n .e (.h 1 [29] [] (.h 1 [] [] (hr 0 [] 0 3 (.h 2 [3] [] (hr 0 [] 4 9 (hr 0 [] 14 2 (.h 0 [13] [] (hr 0 [] 16 5 .e) .e))) (hr 0 [] 4 15 (hr 3 [] 19 2 .e)))) .e) .e))))) .e) .e)) Tryz.func225 h
def L226:Y4:=
fun a b c d e f g=>
lE d e fun h=>
Br h (
rt g (tP d vT) f) (
lC 0 b fun b=>
ag 1 b fun b=>
Ld f b fun b=>
Build Tryz.prog 161 [(0,c),(1,d),(2,e)] fun c=>
CR g a 205 #[b,c] f fun a b=>
lX a fun a c=>
rt g (tP a c) b)
theorem DI(h:L226 g a0 a1 a2 a3 H R):sc g 226 #[a0,a1,a2,a3] H R:=
  sd .e Tryz.func226 h
def L231:Y2:=
fun a b c d e=>
lW d #[(iv 0),(ui 0),(ui 0)] 161 fun d f=>
aa .ptr .eql b (.pointer none) fun g=>
Br g (
Build Tryz.prog 161 [] fun g=>
St 3 f (pt d) g fun g=>
av 3 g (pt d) fun h=>
rt e (tP h (iv 10)) g) (
CR e a 253 #[b,c] f fun a f=>
Un .not a fun a=>
Br a (
Build Tryz.prog 161 [] fun a=>
St 3 f (pt d) a fun a=>
av 3 a (pt d) fun g=>
rt e (tP g (iv 3)) a) (
lM 1 b f fun a=>
an 5 a c fun a=>
ag 0 a fun a=>
av 3 f a fun a=>
St 3 f (pt d) a fun a=>
av 3 a (pt d) fun b=>
rt e (tP b (iv 0)) a))
theorem DH(h:L231 g a0 a1 H R):sc g 231 #[a0,a1] H R:=
  sd .e Tryz.func231 h
def L232:Y1:=
fun a b c d=>
cW c (.cells (Value.cells b) 57 (0,0)) fun b c=>
∀e:Jt,(∀f:Value,∀g:Hp,(∀_:Fr,
Br f (
rt d vF g) (
DR g fun h=>
lD 1 (pt b) h fun i=>
lD 1 (pt b) h fun j=>
aF j fun j=>
lS j (iv 1) fun j=>
lI 1 i j h fun i=>
lD 0 (pt b) h fun j=>
CN a 255 #[j] g fun j k=>
aM k h∧
aa .num .andNot i j fun h=>
lE h (wi 0) fun h=>
rt d h k))→e [f] g)→
DR c fun d=>
lD 0 (pt b) d fun f=>
lL f (iv 0) fun f=>
Br f (
JE e [vT] c) (
lD 0 (pt b) d fun f=>
lG f (iv 16) fun f=>
ay vF vT f fun f=>
Br f (
JE e [vT] c) (
lD 1 (pt b) d fun f=>
aF f fun f=>
lD 0 (pt b) d fun b=>
∀g:Hp,
CN (a.add g) 254 #[b] c fun a b=>
aM b d∧
lN f a fun a=>
ay vF vT a fun a=>
JE e [a] b))
theorem DG(h:L232 g a0 H R):sc g 232 #[a0] H R:=
  sd (.n .e (.n (.h 1 [19] [1] (.h 1 [] [] (hr 0 [] 0 3 (.h 2 [3] [] (hr 0 [] 4 3 (hr 3 [] 7 2 (hr 0 [] 9 7 (.h 3 [16] [] .e .e)))) (hr 0 [] 4 4 (.h 2 [8] [] (hr 0 [] 9 7 (.h 3 [16] [] .e .e)) (hr 0 [] 9 8 .e))))) .e) .e) (.n (.h 0 [0,1,2,3,4,5,6,7,8,9,10,11,12,13] [] .e .e) .e))) Tryz.func232 h
def L233:Y2:=
fun a b c d e=>
cW d (.cells (Value.cells c) 57 (0,0)) fun c d=>
DR d fun f=>
av 2 f (pt c) fun g=>
av 2 f (pt c) fun c=>
CN a 234 #[g] d fun a d=>
aM d f∧
ei (.string) d b a c fun a=>
rt e (.tuple #[]) a
theorem DF(h:L233 g a0 a1 H R):sc g 233 #[a0,a1] H R:=
  sd (.n .e (.h 0 [0,1,3,2,4] [] .e .e)) Tryz.func233 h
def L234:Y1:=
fun _ a b c=>
cW b (.cells (Value.cells a) 57 (0,0)) fun a b=>
lD 1 (pt a) b fun a=>
aF a fun d=>
∃(e:Jt) (f:Mt),JE e [(.slice none 0 0),(iv 0)] b∧∀b g:Value,∀h:Hp,e [b,g] h→∀_:Fr,
lL g d fun d=>
Br d (
lI 1 a g h fun a=>
∃(d:Jt) (i:Mt),JE d [b,(iv 0)] h∧∀j k:Value,∀l:Hp,d [j,k] l→∀_:Fr,
lL k (iv 8) fun m=>
Br m (
aa .num .mul (iv 8) k fun m=>
aa .num .shr a m fun a=>
aQ .u8 a fun a=>
aq Tryz.prog 87 1 [(0,a)] l fun a m=>
App Tryz.prog 5 1 1 (bi 0) m j a fun a m=>
lA k (iv 1) fun n=>
aB d i [a,n] m [j,k] l) (
lA g (iv 1) fun a=>
aB e f [j,a] l [b,g] h)) (
ji h b fun a=>
rt c a h)
theorem DE(h:L234 g a0 H R):sc g 234 #[a0] H R:=
  sd (.n .e (.n .e (.n (.n .e (.n (.h 0 [3,10] [8,9] (.n .e (.n .e (.n (.n (.n .e (.n .e (.n (.h 0 [3,14] [5,8,9,10] .e .e) .e))) .e) .e))) .e) .e)) .e))) Tryz.func234 h
def L238:Y2:=
fun _ a b c d=>
ag 1 b fun b=>
Ld c b fun b=>
lI 1 b a c fun a=>
Un .xor a fun a=>
rt d a c
theorem DD(h:L238 g a0 a1 H R):sc g 238 #[a0,a1] H R:=
  sd .e Tryz.func238 h
def L239:Y4:=
fun _ a b c d e f=>
ag 1 b fun b=>
Ld e b fun b=>
lI 1 b a e fun b=>
ag 1 c fun c=>
Ld e c fun c=>
lI 1 c a e fun a=>
Un .xor b fun c=>
Un .xor a fun g=>
aa .num .and c g fun c=>
Un .xor b fun g=>
aa .num .and g a fun g=>
Un .xor a fun h=>
aa .num .and b h fun h=>
aa .num .and b a fun a=>
aq Tryz.prog 55 4 [(0,c),(1,g),(2,h),(3,a)] e fun a b=>
aF a fun c=>
∃(e:Jt) (g:Mt),JE e [(wi 0),(iv 0)] b∧∀b h:Value,∀i:Hp,e [b,h] i→∀_:Fr,
lL h c fun c=>
Br c (
∀c:Jt,(∀j:Value,∀k:Hp,(∀_:Fr,
lA h (iv 1) fun l=>
aB e g [j,l] k [b,h] i)→c [j] k)→
lI 1 a h i fun a=>
Ld i d fun d=>
aa .num .shr d h fun d=>
aa .num .and d (bi 1) fun d=>
lE d (bi 1) fun d=>
Br d (
aa .num .or b a fun a=>
JE c [a] i) (
JE c [b] i)) (
rt f b i)
theorem DC(h:L239 g a0 a1 a2 a3 H R):sc g 239 #[a0,a1,a2,a3] H R:=
  sd (hN 3 (.n (.n .e (.n (.h 0 [8,39] [3,37,38] (.n .e (.n .e (.h 1 [8] [3,37,38,39] .e .e))) .e) .e)) .e)) Tryz.func239 h
def L240:Y2:=
fun a b c d e=>
aa .ptr .eql b (.pointer none) fun f=>
Br f (
rt e (tP (.pointer none) (iv 10)) d) (
aF c fun f=>
∃(g:Jt) (h:Mt),JE g [(iv 0)] d∧∀d:Value,∀i:Hp,g [d] i→∀_:Fr,
lL d f fun f=>
Br f (
lI 1 c d i fun c=>
CR e a 97 #[b,c] i fun c f=>
lX c fun c j=>
lQ 3 f #[(iv 0),(ui 0),(ui 0)] 161 c fun _ c=>
lN j (iv 0) fun f=>
Br f (
rt e (tP (.pointer none) j) c) (
lA d (iv 1) fun f=>
aB g h [f] c [d] i)) (
CR e a 61 #[b] i fun c d=>
cO 3 1 8 (iv 0) d c c fun c d=>
Build Tryz.prog 337 [(0,b),(1,c)] fun c=>
cW d (.cells (Value.cells c) 337 (0,0)) fun c d=>
CR e a 13 #[b] d fun a b=>
aF a fun d=>
∃(f:Jt) (g:Mt),JE f [(iv 0)] b∧∀b:Value,∀h:Hp,f [b] h→∀_:Fr,
lL b d fun d=>
Br d (
lI 1 a b h fun a=>
lM 1 (pt c) h fun d=>
an 1 d a fun a=>
St 1 h a b fun a=>
lA b (iv 1) fun d=>
aB f g [d] a [b] h) (
rt e (tP (pt c) (iv 0)) h)))
theorem DB(h:L240 g a0 a1 H R):sc g 240 #[a0,a1] H R:=
  sd (.n .e (.n .e (.n (.n .e (.n (.h 0 [17] [0,15,16] .e .e) .e)) (.n .e (.n (.n .e (.n (.h 0 [40] [10,38,39] .e .e) .e)) .e))))) Tryz.func240 h
def L241:Y3:=
fun a b c d e f=>
cW e (.cells (Value.cells b) 313 (0,0)) fun b e=>
cW e (.cells (Value.cells c) 318 (0,0)) fun c e=>
cW e (.cells (Value.cells d) 320 (0,0)) fun d e=>
lW e #[(ui 0)] 77 fun e g=>
lW g #[(iv 0)] 32 fun g h=>
jQ h fun h i=>
lQ 1 i #[(.map none)] 339 h fun h i=>
lW i #[.nilFunc] 340 fun i j=>
St 1 j (pt i) (.func (.func 264) #[] #[(pt h),(pt b),(pt d),(pt i)]) fun d=>
Ld d (pt i) fun h=>
av 3 d (pt c) fun c=>
bI Tryz.prog a h #[c] d (fun c d=>
lX c fun c h=>
St 1 d (pt e) c fun c=>
St 1 c (pt g) h fun c=>
jU Tryz.prog a 262 #[(pt b),(pt e),(pt g)] c fun a=>
Ld a (pt e) fun b=>
Ld a (pt g) fun c=>
rt f (tP b c) a) Ik
theorem DA(h:L241 g a0 a1 a2 H R):sc g 241 #[a0,a1,a2] H R:=
 wP (hn:=(.n .e (.n .e .e))) Tryz.func241 h (by kernel_rfl)
def L242:Y4:=
fun a b c _ d e f=>
DR e fun g=>
Ld g d fun d=>
CN a 243 #[b] e fun b e=>
aM e g∧
aa .num .mul (bi 2) b fun b=>
CN a 243 #[c] e fun a c=>
aM c g∧
lA b a fun a=>
aa .num .shr d a fun a=>
aa .num .and a (bi 1) fun a=>
lE a (bi 1) fun a=>
rt f a c
theorem Dz(h:L242 g a0 a1 a2 a3 H R):sc g 242 #[a0,a1,a2,a3] H R:=
  sd (.n .e (.n (.h 0 [0,1,4,2,3,5,6,7,8,9,10] [] .e .e) .e)) Tryz.func242 h
def L243:Y1:=
fun _ a b c=>
Br a (
rt c (bi 1) b) (
rt c (bi 0) b)
theorem Dy(h:L243 g a0 H R):sc g 243 #[a0] H R:=
  sd .e Tryz.func243 h
def L244:Y3:=
fun _ a b c d e=>
lU a (fun f=>
(lV d b f)) fun f=>
lO (Value.bool f) (fun b=>
Un .not a fun a=>
df a true (fun a=>
(lV d c a)) (fun a=>vF=Value.bool a) fun a=>∀_:Fr,
(lV d (Value.bool a) b)) fun b=>
rt e (Value.bool b) d
theorem Dx(h:L244 g a0 a1 a2 H R):sc g 244 #[a0,a1,a2] H R:=
  sd (.n .e (.n (.h 0 [] [1] .e .e) .e)) Tryz.func244 h
def L245:Y2:=
fun a b c d e=>
∀f:Jt,(∀g:Value,∀h:Hp,(∀_:Fr,
Br g (
rt e (tP (wi 0) vF) h) (
aa .num .shl (wi 1) c fun i=>
rt e (tP i vT) h))→f [g] h)→
lL c (iv 0) fun g=>
Split g false (
aa .ptr .neq b (.pointer none) fun g=>
Split g true (
CR e a 61 #[b] d fun a b=>
aa .num .geq c a fun a=>
ay vT a vF fun a=>
ay vF vT a fun a=>
JE f [a] b) (
ay vF undef vF fun a=>
ay vF vT a fun a=>
JE f [a] d)) (
ay vT vT undef fun a=>
JE f [a] d)
theorem Dw(h:L245 g a0 a1 H R):sc g 245 #[a0,a1] H R:=
  sd (.n .e (.n (.h 1 [17] [1] .e .e) .e)) Tryz.func245 h
def L246:Y3:=
fun a b c d e f=>
aa .ptr .eql b (.pointer none) fun g=>
Br g (
rt f (iv 10) e) (
CR f a 61 #[b] e fun e g=>
aa .num .shr c e fun c=>
lN c (wi 0) fun c=>
Br c (
rt f (iv 2) g) (
aF d fun c=>
∃(e:Jt) (h:Mt),JE e [(iv 0)] g∧∀g:Value,∀i:Hp,e [g] i→∀_:Fr,
lL g c fun c=>
Br c (
lI 1 d g i fun c=>
CR f a 97 #[b,c] i fun a b=>
lX a fun a c=>
lQ 3 b #[(iv 0),(ui 0),(ui 0)] 161 a fun _ a=>
lN c (iv 0) fun b=>
Br b (
rt f (iv 3) a) (
lA g (iv 1) fun b=>
aB e h [b] a [g] i)) (
rt f (iv 0) i)))
theorem Dv(h:L246 g a0 a1 a2 H R):sc g 246 #[a0,a1,a2] H R:=
  sd (hN 3 (.n (.n .e (.n (.h 0 [20] [0,18,19] .e .e) .e)) .e)) Tryz.func246 h
def L247:Y3:=
fun _ a b c d e=>
lN c (iv 0) fun f=>
Br f (
rt e (tP (ui 0) c) d) (
Un .not b fun b=>
Br b (
rt e (tP (ui 0) (iv 8)) d) (
rt e (tP a (iv 0)) d))
theorem tU(h:L247 g a0 a1 a2 H R):sc g 247 #[a0,a1,a2] H R:=
  sd .e Tryz.func247 h
def L248:Y4:=
fun a b c d e f g=>
cW f (.cells (Value.cells c) 77 (0,0)) fun c f=>
cW f (.cells (Value.cells d) 3 (0,0)) fun d f=>
cW f (.cells (Value.cells e) 4 (0,0)) fun e f=>
CR g a 268 #[b,(.func (.func 269) #[] #[(pt c),(pt d),(pt e)])] f fun a b=>
lX a fun c d=>
Ext 2 a fun a=>
rt g (.tuple #[c,d,a]) b
theorem Du(h:L248 g a0 a1 a2 a3 H R):sc g 248 #[a0,a1,a2,a3] H R:=
  sd .e Tryz.func248 h
def L249:Y4:=
fun a b c d e f g=>
aq Tryz.prog 27 1 [(0,c)] f fun f h=>
CR g a 246 #[b,d,f] h fun f h=>
lN f (iv 0) fun i=>
Br i (
rt g (tP (ui 0) f) h) (
lE d (wi 0) fun f=>
Br f (
CR g a 121 #[b,c] h fun f i=>
lN f (iv 0) fun j=>
Br j (
rt g (tP (ui 0) f) i) (
rt g (tP c (iv 0)) i)) (
CR g a 61 #[b] h fun f h=>
∃(i:Jt) (j:Mt),JE i [c,vF,(iv 0)] h∧∀c h k:Value,∀l:Hp,i [c,h,k] l→∀_:Fr,
lL k f fun f=>
Br f (
∀f:Jt,(∀m n:Value,∀o:Hp,(∀_:Fr,
lA k (iv 1) fun p=>
aB i j [m,n,p] o [c,h,k] l)→f [m,n] o)→
aa .num .shr d k fun d=>
aa .num .and d (wi 1) fun d=>
lE d (wi 0) fun d=>
Br d (
JE f [c,h] l) (
CR g a 272 #[b,c,k,e] l fun d e=>
lX d fun i j=>
Ext 2 d fun d=>
CR g a 247 #[i,j,d] e fun d e=>
lX d fun d i=>
∀j:Jt,(∀k:Hp,(∀_:Fr,
lN i (iv 0) fun m=>
Br m (
rt g (tP (ui 0) i) k) (
JE f [d,vT] k))→j [] k)→
Br h (
CR g a 131 #[b,c] e fun _ a=>
JE j [] a) (
JE j [] e))) (
rt g (tP c (iv 0)) l)))
theorem Ds(h:L249 g a0 a1 a2 a3 H R):sc g 249 #[a0,a1,a2,a3] H R:=
  sd (hN 4 (.n (.n .e (.n (.h 0 [12,13,37] [0,2,3,36] (.n .e (.n .e (.h 1 [12,13] [0,2,3,36,37] (.n (hN 3 (.h 1 [] [0,2,3,15,16,36,37] .e .e)) .e) .e))) .e) .e)) .e)) Tryz.func249 h
variable {g:Gh} {a0 a1 a2 a3 a4 a5 a6 a7 a8 a9 rD rC Wh Wg Wf We:Value} {H:Hp} {R:Rt}
def L250:Y1:=
fun a b c d=>
CR d a 273 #[b] c fun b c=>
CR d a 274 #[b] c fun _ a=>
rt d b a
theorem Dr(h:L250 g a0 H R):sc g 250 #[a0] H R:=
  sd .e Tryz.func250 h
def L251:Y1:=
fun _ a b c=>
cW b (.cells (Value.cells a) 266 (0,0)) fun a b=>
c (.returned (.func (.func 275) #[] #[(pt a)])) b
theorem Dq(h:L251 g a0 H R):sc g 251 #[a0] H R:=
  sd .e Tryz.func251 h
def L252:Y2:=
fun a b c d e=>
cW d (.cells (Value.cells c) 161 (0,0)) fun c d=>
aa .ptr .eql b (.pointer none) fun f=>
Br f (
rt e (tP (ui 0) (iv 10)) d) (
av 3 d (pt c) fun f=>
CR e a 208 #[b,f] d fun a d=>
lN a (iv 0) fun f=>
Br f (
rt e (tP (ui 0) a) d) (
lM 2 b d fun a=>
aF a fun a=>
lG a (iv 0) fun f=>
Br f (
lM 2 b d fun f=>
lS a (iv 1) fun g=>
lI 1 f g d fun f=>
lM 2 b d fun g=>
lS a (iv 1) fun a=>
ef 1 g none (some a) fun a=>
lC 2 b fun g=>
St 1 d g a fun a=>
DR a fun g=>
lM 1 b g fun h=>
av 3 g (pt c) fun g=>
Build Tryz.prog 291 [(0,g),(1,vT)] fun g=>
an 5 h f fun h=>
St 5 a h g fun a=>
lM 3 b a fun g=>
lA g (iv 1) fun g=>
lC 3 b fun h=>
St 1 a h g fun a=>
rt e (tP f (iv 0)) a) (
lM 1 b d fun a=>
aF a fun a=>
lM 0 b d fun f=>
aa .num .geq a f fun a=>
Br a (
rt e (tP (ui 0) (iv 9)) d) (
DR d fun a=>
lM 1 b a fun f=>
av 3 a (pt c) fun c=>
Build Tryz.prog 291 [(0,c),(1,vT)] fun c=>
aq Tryz.prog 196 1 [(0,c)] d fun c d=>
aM d a∧
App Tryz.prog 291 5 24 (.agg #[(iv 0),(ui 0),(ui 0),vF,(bi 0)]) d f c fun c d=>
aM d a∧
lC 1 b fun a=>
St 1 d a c fun a=>
lM 3 b a fun c=>
lA c (iv 1) fun c=>
lC 3 b fun d=>
St 1 a d c fun a=>
lM 1 b a fun b=>
aF b fun b=>
lS b (iv 1) fun b=>
aQ .u32 b fun b=>
rt e (tP b (iv 0)) a))))
theorem Dp(h:L252 g a0 a1 H R):sc g 252 #[a0,a1] H R:=
  sd (hN 3 (.n (.n .e (.n .e (.n (.n .e (.n .e (.n (.h 0 [0,1,2,3,4,5,6,7,8] [] .e .e) .e))) .e))) (.n .e (.n (.h 0 [0,1,2,3,4,5,6,7,8,9,10,11] [] .e .e) .e)))) Tryz.func252 h
def L253:Y2:=
fun _ a b c d=>
aQ .i64 b fun e=>
lM 1 a c fun f=>
aF f fun f=>
lL e f fun e=>
lU e (fun e=>
lM 1 a c fun a=>
an 5 a b fun a=>
ag 3 a fun a=>
Ld c a fun a=>
(lV c a e)) fun e=>
rt d (Value.bool e) c
theorem Dn(h:L253 g a0 a1 H R):sc g 253 #[a0,a1] H R:=
  sd (.n .e (.n (.h 0 [] [1] .e .e) .e)) Tryz.func253 h
def L254:Y1:=
fun _ a b c=>
aa .num .shl (iv 1) a fun a=>
aa .num .shr a (wi 6) fun a=>
An (iv 1) a fun a=>
rt c a b
theorem Dm(h:L254 g a0 H R):sc g 254 #[a0] H R:=
  sd .e Tryz.func254 h
def L255:Y1:=
fun _ a b c=>
aa .num .geq a (iv 6) fun d=>
Br d (
rt c (wi 18446744073709551615) b) (
aa .num .shl (wi 1) a fun a=>
aa .num .shl (wi 1) a fun a=>
lS a (wi 1) fun a=>
rt c a b)
theorem Dl(h:L255 g a0 H R):sc g 255 #[a0] H R:=
  sd .e Tryz.func255 h
def L256:Y4:=
fun a b c d e f g=>
Ld f c fun h=>
aa .num .geq h (iv 6) fun h=>
Br h (
Ld f c fun h=>
lS h (iv 6) fun h=>
aa .num .shl (iv 1) h fun h=>
aa .num .andNot b h fun h=>
∀i:Jt,(∀j:Value,∀k:Hp,(∀_:Fr,
ag 1 e fun l=>
Ld k l fun l=>
lI 1 l j k fun l=>
rt g l k)→i [j] k)→
Ld f d fun j=>
Br j (
Ld f c fun j=>
lS j (iv 6) fun j=>
aa .num .shl (iv 1) j fun j=>
aa .num .or h j fun j=>
JE i [j] f) (
JE i [h] f)) (
DR f fun h=>
Ld h c fun i=>
Ld h c fun c=>
aa .num .shl (iv 1) c fun c=>
CN a 219 #[i,(iv 0)] f fun a f=>
aM f h∧
Ld f d fun d=>
Br d (
ag 1 e fun d=>
Ld f d fun d=>
lI 1 d b f fun d=>
aa .num .and d a fun d=>
aa .num .shr d c fun h=>
aa .num .or d h fun d=>
rt g d f) (
ag 1 e fun d=>
Ld f d fun d=>
lI 1 d b f fun b=>
aa .num .andNot b a fun a=>
aa .num .shl a c fun b=>
aa .num .or a b fun a=>
rt g a f))
theorem Dk(h:L256 g a0 a1 a2 a3 H R):sc g 256 #[a0,a1,a2,a3] H R:=
  sd (.n .e (.n (.n .e (.n (.n .e (.h 1 [6] [3] .e .e)) .e)) (.n (.h 0 [0,2,3,1,4,5] [] .e .e) .e))) Tryz.func256 h
def L257:Y2:=
fun a b c d e=>
lC 0 b fun f=>
CR e a 174 #[f,c] d fun a c=>
lQ 3 c #[(iv 0),(ui 0),(ui 0)] 161 a fun a c=>
lD 0 (pt a) c fun d=>
aa .num .geq d (iv 0) fun d=>
Br d (
lM 6 b c fun d=>
lD 0 (pt a) c fun a=>
lI 1 d a c fun a=>
rt e a c) (
lM 4 b c fun a=>
rt e a c)
theorem Dj(h:L257 g a0 a1 H R):sc g 257 #[a0,a1] H R:=
  sd .e Tryz.func257 h
def L262:Y3:=
fun a b c d e f=>
Ld e b fun b=>
Ld e c fun g=>
Ld e d fun h=>
CR f a 263 #[b,g,h] e fun a b=>
lX a fun a e=>
St 1 b c a fun a=>
St 1 a d e fun a=>
rt f (.tuple #[]) a
theorem Ap(h:L262 g a0 a1 a2 H R):iY Tryz.prog g 262 #[a0,a1,a2] H R:=
 wQ (hn:=.e) Tryz.func262 h (by kernel_rfl)
def L263:Y3:=
fun a b c d e f=>
lE c (ui 0) fun g=>
lO g (fun g=>
lE c (ui 1) fun h=>
(lV e h g)) fun g=>
lM 2 b e fun h=>
aF h fun i=>
∃(j:Jt) (k:Mt),JE j [(Value.bool g),(iv 0)] e∧∀e g:Value,∀l:Hp,j [e,g] l→∀_:Fr,
lL g i fun i=>
Br i (
∀i:Jt,(∀m:Value,∀n:Hp,(∀_:Fr,
lA g (iv 1) fun o=>
aB j k [m,o] n [e,g] l)→i [m] n)→
lI 1 h g l fun g=>
lE g c fun h=>
lU h (fun h=>
Un .not e fun j=>
(lV l j h)) fun h=>
lU (Value.bool h) (fun h=>
lE d (iv 0) fun j=>
(lV l j h)) fun h=>
Br (Value.bool h) (
JE i [vT] l) (
lM 0 b l fun h=>
CR f a 131 #[h,g] l fun _ g=>
JE i [e] g)) (
lC 2 b fun g=>
St 1 l g (.slice none 0 0) fun g=>
∀h:Jt,(∀i:Hp,(∀_:Fr,
rt f (tP c (iv 0)) i)→h [] i)→
lN d (iv 0) fun i=>
Br i (
rt f (tP (ui 0) d) g) (
Un .not e fun d=>
Br d (
rt f (tP (ui 0) (iv 8)) g) (
lE c (ui 0) fun d=>
lO d (fun d=>
lE c (ui 1) fun e=>
(lV g e d)) fun d=>
Br (Value.bool d) (
lM 0 b g fun b=>
CR f a 121 #[b,c] g fun _ a=>
JE h [] a) (
JE h [] g))))
theorem Di(h:L263 g a0 a1 a2 H R):sc g 263 #[a0,a1,a2] H R:=
  sd (.n .e (.n (.h 0 [] [1] .e .e) (.n (.n .e (.n (.h 0 [8,22] [0,1,2,20,21] (.n .e (.n .e (.h 1 [8] [0,1,2,20,21,22] (.n (.n .e (.n (.n (.h 0 [] [1] .e .e) .e) .e)) .e) .e))) .e) .e)) (.n .e (.h 1 [] [1] (.n (hN 4 (.n (.h 0 [] [1] .e .e) .e)) .e) .e))))) Tryz.func263 h
def L264:Y5:=
fun a b c d e f g h=>
cW g (.cells (Value.cells b) 318 (0,0)) fun b g=>
Ld g c fun i=>
av 3 g (pt b) fun j=>
iI Tryz.prog 318 (ui 0) true g i j fun i=>
lX i fun i j=>
Br j (
rt h (tP i (iv 0)) g) (
Ld g d fun i=>
av 3 g (pt b) fun j=>
CR h a 265 #[i,j] g fun g i=>
Ld i d fun j=>
CR h a 266 #[j,g] i fun i j=>
lL i (iv 0) fun k=>
Br k (
Ld j e fun e=>
gD 3 1 (pt b) (iv 0) fun k=>
Ld j k fun k=>
lE k (ui 1) fun k=>
gD 3 1 (pt b) (iv 1) fun l=>
Ld j l fun l=>
lE l (ui 1) fun l=>
gD 3 1 (pt b) (iv 2) fun m=>
Ld j m fun m=>
lE m (ui 1) fun m=>
bI Tryz.prog a e #[k,l,m] j (fun e k=>
Br e (
rt h (tP (ui 1) (iv 0)) k) (
rt h (tP (ui 0) (iv 0)) k)) (rF h)) (
DR j fun e=>
av 3 e (pt b) fun k=>
av 3 e (pt b) fun l=>
lW j #[(ui 0),(ui 0),(ui 0)] 318 fun j m=>
lW m #[(ui 0),(ui 0),(ui 0)] 318 fun m n=>
∀_:Hp,
St 3 n (pt j) k fun k=>
aM k e∧
∀_:Hp,
St 3 k (pt m) l fun e=>
aF g fun k=>
∃(l:Jt) (n:Mt),JE l [(iv 0)] e∧∀e:Value,∀o:Hp,l [e] o→∀_:Fr,
lL e k fun k=>
Br k (
∀k:Jt,(∀p:Hp,(∀_:Fr,
lA e (iv 1) fun q=>
aB l n [q] p [e] o)→k [] p)→
an 3 g e fun g=>
av 3 o g fun g=>
lQ 3 o #[(iv 0),(ui 0),(ui 0)] 161 g fun g l=>
lD 0 (pt g) l fun n=>
lE n i fun n=>
Br n (
DR l fun n=>
lD 1 (pt g) n fun p=>
lD 2 (pt g) n fun g=>
gD 3 1 (pt j) e fun q=>
St 1 l q p fun p=>
aM p n∧
gD 3 1 (pt m) e fun e=>
St 1 p e g fun e=>
JE k [] e) (
JE k [] l)) (
Ld o f fun e=>
av 3 o (pt j) fun g=>
bI Tryz.prog a e #[g] o (fun e g=>
lX e fun e j=>
lN j (iv 0) fun k=>
Br k (
rt h (tP (ui 0) j) g) (
Ld g f fun f=>
av 3 g (pt m) fun j=>
bI Tryz.prog a f #[j] g (fun f g=>
lX f fun f j=>
lN j (iv 0) fun k=>
Br k (
rt h (tP (ui 0) j) g) (
Ld g d fun d=>
CR h a 267 #[d,i,e,f] g fun a d=>
lX a fun a e=>
∀f:Jt,(∀g:Hp,(∀_:Fr,
rt h (tP a e) g)→f [] g)→
lE e (iv 0) fun e=>
Br e (
Ld d c fun c=>
av 3 d (pt b) fun b=>
gn Tryz.prog 318 d c b a fun a=>
JE f [] a) (
JE f [] d))) (rF h))) (rF h))))
theorem tT(h:L264 g a0 a1 a2 a3 a4 H R):sc g 264 #[a0,a1,a2,a3,a4] H R:=
  sd (hN 5 (.n (.h 1 [] [] (hr 0 [] 0 2 (hr 1 [] 2 2 (hr 0 [] 2 4 .e))) .e) (.n (.n .e (.n (.h 0 [51] [1,2,4,5,11,12,13,49,50] (.n .e (.n .e (.h 1 [] [1,2,4,5,11,12,13,49,50,51] (.n (.n .e (.n .e (.n (.h 0 [0,1,2,3,4,5,6,7,8,9] [] .e .e) .e))) .e) .e))) .e) .e)) (hN 5 (.h 1 [] [17,19] .e .e))))) Tryz.func264 h
def L265:Y2:=
fun a b c d e=>
cW d (.cells (Value.cells c) 318 (0,0)) fun c d=>
av 3 d (pt c) fun c=>
∃(f:Jt) (g:Mt),JE f [(.slice none 0 0),(iv 0)] d∧∀d h:Value,∀i:Hp,f [d,h] i→∀_:Fr,
lL h (iv 3) fun j=>
Br j (
kJ Tryz.prog a (fI Tryz.f265 4 0) (ev (fun j=>cond (Nat.beq j 10) c (cond (Nat.beq j 11) h (undef)))) i fun c=>
lM 0 b i fun b=>
CR e a 97 #[b,c] i fun a b=>
lX a fun a _=>
lQ 3 b #[(iv 0),(ui 0),(ui 0)] 161 a fun a b=>
av 3 b (pt a) fun a=>
aq Tryz.prog 286 1 [(0,a)] b fun a b=>
App Tryz.prog 161 3 16 (.agg #[(iv 0),(ui 0),(ui 0)]) b d a fun a b=>
lA h (iv 1) fun c=>
aB f g [a,c] b [d,h] i) (
rt e d i)
theorem Dh(h:L265 g a0 a1 H R):sc g 265 #[a0,a1] H R:=
  sd (.n .e (.n .e (.n (.n .e (.n (.h 0 [5,11] [0,10] .e .e) .e)) .e))) Tryz.func265 h
def L266:Y2:=
fun _ a b c d=>
aF b fun e=>
∃(f:Jt) (g:Mt),JE f [(iv (-1)),(iv 0)] c∧∀c h:Value,∀i:Hp,f [c,h] i→∀_:Fr,
lL h e fun e=>
Br e (
∀e:Jt,(∀j:Value,∀k:Hp,(∀_:Fr,
lA h (iv 1) fun l=>
aB f g [j,l] k [c,h] i)→e [j] k)→
an 3 b h fun b=>
av 3 i b fun b=>
lQ 3 i #[(iv 0),(ui 0),(ui 0)] 161 b fun b f=>
lD 0 (pt b) f fun g=>
aa .num .geq g (iv 0) fun g=>
lU g (fun g=>
lL c (iv 0) fun h=>
df h false (fun h=>
lM 1 a f fun j=>
lD 0 (pt b) f fun k=>
lI 1 j k f fun j=>
lM 1 a f fun a=>
lI 1 a c f fun a=>
lL j a fun a=>
(lV f a h)) (fun h=>vT=Value.bool h) fun h=>∀_:Fr,
(lV f (Value.bool h) g)) fun g=>
Br (Value.bool g) (
lD 0 (pt b) f fun a=>
JE e [a] f) (
JE e [c] f)) (
rt d c i)
theorem Dg(h:L266 g a0 a1 H R):sc g 266 #[a0,a1] H R:=
  sd (.n .e (.n .e (.n (.n .e (.n (.h 0 [5,10] [0,8,9] (.n .e (.n .e (.h 1 [5] [0,8,9,10] .e .e))) .e) .e)) .e))) Tryz.func266 h
def L267:Y4:=
fun a b c d e f g=>
lE d e fun h=>
Br h (
rt g (tP d (iv 0)) f) (
lM 0 b f fun h=>
CR g a 164 #[h,c,d,e] f fun f h=>
lX f fun f i=>
∀j:Jt,(∀k:Hp,(∀_:Fr,
rt g (tP (ui 0) i) k)→j [] k)→
lE i (iv 0) fun k=>
Br k (
lM 2 b h fun k=>
aq Tryz.prog 27 1 [(0,f)] h fun l m=>
App Tryz.prog 77 1 4 (ui 0) m k l fun k l=>
lC 2 b fun m=>
St 1 l m k fun k=>
rt g (tP f (iv 0)) k) (
lE i (iv 8) fun f=>
Br f (
lM 0 b h fun b=>
CR g a 276 #[b,c,d,e] h fun a b=>
lX a fun a c=>
Br c (
rt g (tP a (iv 0)) b) (
JE j [] b)) (
JE j [] h)))
theorem tS(h:L267 g a0 a1 a2 a3 H R):sc g 267 #[a0,a1,a2,a3] H R:=
  sd (hN 3 (.h 1 [] [11] .e .e)) Tryz.func267 h
def L268:Y2:=
fun a b c d e=>
cW d (.cells (Value.cells b) 26 (0,0)) fun b d=>
Ld d (pt b) fun f=>
jQ d fun d g=>
Build Tryz.prog 350 [(0,f),(1,d)] fun d=>
cW g (.cells (Value.cells d) 350 (0,0)) fun d f=>
lQ 1 f #[(.pointer none)] 344 (pt d) fun d f=>
Ld f (pt b) fun g=>
CF a 121 #[g,(ui 1)] f (fun _ f=>
Ld f (pt d) fun g=>
bI Tryz.prog a c #[g] f (fun c f=>
Ld f (pt d) fun g=>
lM 2 g f fun g=>
lN g (iv 0) fun g=>
Br g (
Ld f (pt d) fun g=>
lM 2 g f fun g=>
jU Tryz.prog a 277 #[(pt d),(pt b)] f fun h=>
rt e (.tuple #[(ui 0),vF,g]) h) (
Ld f (pt d) fun g=>
lM 1 g f fun g=>
mK (.int .u32) (iv 0) false f g c fun g=>
lG g (iv 0) fun g=>
Br g (
Ld f (pt d) fun g=>
lM 1 g f fun g=>
oF (.int .u32) f g c fun g=>
jU Tryz.prog a 277 #[(pt d),(pt b)] g fun g=>
rt e (.tuple #[c,vT,(iv 0)]) g) (
Ld f (pt b) fun g=>
CF a 121 #[g,c] f (fun f g=>
lE f (iv 0) fun f=>
jU Tryz.prog a 277 #[(pt d),(pt b)] g fun a=>
rt e (.tuple #[c,f,(iv 0)]) a) Ik))) Ik) Ik
theorem Df(h:L268 g a0 a1 H R):sc g 268 #[a0,a1] H R:=
 wP (hn:=(hN 4 .e)) Tryz.func268 h (by kernel_rfl)
def L269:Y4:=
fun a b c d e f g=>
Ld f c fun c=>
Ld f d fun d=>
CR g a 270 #[b,c,d,(.func (.func 271) #[] #[e])] f fun a b=>
rt g a b
theorem De(h:L269 g a0 a1 a2 a3 H R):sc g 269 #[a0,a1,a2,a3] H R:=
  sd .e Tryz.func269 h
def L270:Y4:=
fun a b c d e f g=>
cW f (.cells (Value.cells b) 344 (0,0)) fun b f=>
cW f (.cells (Value.cells e) 289 (0,0)) fun e f=>
Ld f (pt b) fun h=>
lM 0 h f fun h=>
CR g a 46 #[h,d] f fun d f=>
lX d fun d _=>
lQ 1 f #[(iv 0)] 3 d fun d f=>
jQ f fun f h=>
lQ 1 h #[(.map none)] 351 f fun f h=>
lW h #[.nilFunc] 352 fun h i=>
St 1 i (pt h) (.func (.func 278) #[] #[(pt b),(pt d),(pt f),(pt e),(pt h)]) fun b=>
Ld b (pt h) fun d=>
bI Tryz.prog a d #[c] b (fun a b=>
rt g a b) (rF g)
theorem Dd(h:L270 g a0 a1 a2 a3 H R):sc g 270 #[a0,a1,a2,a3] H R:=
  sd .e Tryz.func270 h
def L271:Y2:=
fun _ a b c d=>
cW c (.cells (Value.cells a) 161 (0,0)) fun a c=>
Ld c b fun b=>
Br b (
lD 2 (pt a) c fun b=>
rt d b c) (
lD 1 (pt a) c fun a=>
rt d a c)
theorem Dc(h:L271 g a0 a1 H R):sc g 271 #[a0,a1] H R:=
  sd .e Tryz.func271 h
def L272:Y4:=
fun a b c d e f g=>
cW f (.cells (Value.cells c) 77 (0,0)) fun c f=>
cW f (.cells (Value.cells d) 3 (0,0)) fun d f=>
cW f (.cells (Value.cells e) 4 (0,0)) fun e f=>
CR g a 268 #[b,(.func (.func 281) #[] #[(pt c),(pt d),(pt e)])] f fun a b=>
lX a fun c d=>
Ext 2 a fun a=>
rt g (.tuple #[c,d,a]) b
theorem Db(h:L272 g a0 a1 a2 a3 H R):sc g 272 #[a0,a1,a2,a3] H R:=
  sd .e Tryz.func272 h
def L273:Y1:=
fun a b c d=>
CR d a 284 #[(.slice none 0 0),b] c fun a b=>
rt d a b
theorem Da(h:L273 g a0 H R):sc g 273 #[a0] H R:=
  sd .e Tryz.func273 h
def L274:Y1:=
fun a b c d=>
aF b fun e=>
aQ .u64 e fun f=>
CR d a 286 #[f] c fun c f=>
CR d a 285 #[b,(iv 0),e,c] f fun _ a=>
rt d (.tuple #[]) a
theorem C9(h:L274 g a0 H R):sc g 274 #[a0] H R:=
  sd .e Tryz.func274 h
def L277:Y2:=
fun a b c d e=>
Ld d b fun b=>
lM 1 b d fun b=>
TU d b fun b d=>
∃(f:Jt) (g:Mt),JE f [] d∧∀d:Hp,f [] d→∀_:Fr,
S6 d b fun h i=>
Ext 0 h fun h=>
Br h (
I8 i b fun b=>
Ext 0 b fun b=>
Ld i c fun c=>
CR e a 131 #[c,b] i fun _ a=>
aB f g [] a [] d) (
rt e (.tuple #[]) i)
theorem Ao(h:L277 g a0 a1 H R):iY Tryz.prog g 277 #[a0,a1] H R:=
 wQ (hn:=(.n .e (.n (.h 0 [] [1,7] .e .e) .e))) Tryz.func277 h (by kernel_rfl)
def L278(g:Gh)(a0 a1 a2 a3 a4 a5:Value)(H:Hp)(R:Rt):Prop:=
Ld H a1 fun a=>
CR R g 279 #[a,a0] H fun a b=>
lX a fun a c=>
lQ 3 b #[(iv 0),(ui 0),(ui 0)] 161 a fun a b=>
Ld b a2 fun d=>
lG c d fun d=>
lO d (fun d=>
Ld b a1 fun e=>
lM 2 e b fun e=>
lN e (iv 0) fun e=>
(lV b e d)) fun d=>
Br (Value.bool d) (
rt R a0 b) (
Ld b a3 fun d=>
mK (.int .u32) (ui 0) true b d a0 fun d=>
lX d fun d e=>
Br e (
rt R d b) (
∀d:Jt,(∀e:Value,∀f:Hp,(∀_:Fr,
Ld f a3 fun h=>
ei (.int .u32) f h a0 e fun h=>
rt R e h)→d [e] f)→
Ld b a2 fun e=>
lE c e fun c=>
Br c (
Ld b a4 fun c=>
av 3 b (pt a) fun e=>
bI Tryz.prog g c #[e] b (fun c e=>
JE d [c] e) (rF R)) (
Ld b a5 fun c=>
lD 1 (pt a) b fun e=>
bI Tryz.prog g c #[e] b (fun b c=>
DR c fun e=>
Ld e a1 fun f=>
lD 0 (pt a) e fun h=>
Ld e a5 fun i=>
lD 2 (pt a) e fun a=>
bI Tryz.prog g i #[a] c (fun a c=>
aM c e∧
CN g 280 #[f,h,b,a] c fun a b=>
aM b e∧
JE d [a] b) uQ) (rF R))))
theorem C7(h:L278 g a0 a1 a2 a3 a4 a5 H R):sc g 278 #[a0,a1,a2,a3,a4,a5] H R:=
  sd (.n .e (.n .e (.n (.n (.h 0 [] [1] .e .e) .e) (.n .e (.n .e (.h 1 [12] [0,3] (hN 3 (.h 0 [0,1,2,3,4,5,6,7,8,9] [] .e .e)) .e)))))) Tryz.func278 h
def L279:Y2:=
fun a b c d e=>
lW d #[(iv 0),(ui 0),(ui 0)] 161 fun d f=>
lM 0 b f fun g=>
CR e a 97 #[g,c] f fun c f=>
lX c fun c _=>
lQ 3 f #[(iv 0),(ui 0),(ui 0)] 161 c fun c f=>
DR f fun g=>
av 3 g (pt c) fun h=>
av 3 g (pt c) fun c=>
CN a 287 #[b,c] f fun a b=>
aM b g∧
St 3 b (pt d) h fun b=>
aM b g∧
av 3 b (pt d) fun c=>
rt e (tP c a) b
theorem CZ(h:L279 g a0 a1 H R):sc g 279 #[a0,a1] H R:=
  sd (.n .e (.n .e (.n (.h 0 [0,1,2,3,4,5] [] .e .e) .e))) Tryz.func279 h
def L280:Y4:=
fun a b c d e f g=>
lM 2 b f fun h=>
lN h (iv 0) fun h=>
Br h (
rt g (ui 0) f) (
lM 0 b f fun h=>
CR g a 164 #[h,c,d,e] f fun f h=>
lX f fun f i=>
∀j:Jt,(∀k:Value,∀l:Hp,(∀_:Fr,
rt g k l)→j [k] l)→
lE i (iv 8) fun k=>
Br k (
lM 0 b h fun k=>
CR g a 276 #[k,c,d,e] h fun c d=>
lX c fun c _=>
JE j [c] d) (
lN i (iv 0) fun c=>
Br c (
lC 2 b fun c=>
St 1 h c i fun c=>
JE j [f] c) (
aa .num .leq f (ui 1) fun c=>
lO c (fun c=>
lM 1 b h fun d=>
mK (.int .u32) (iv 0) false h d f fun d=>
lG d (iv 0) fun d=>
(lV h d c)) fun c=>
Br (Value.bool c) (
lM 0 b h fun c=>
CR g a 131 #[c,f] h fun _ a=>
JE j [f] a) (
lM 1 b h fun a=>
ei (.int .u32) h a f (iv 1) fun a=>
JE j [f] a))))
theorem tR(h:L280 g a0 a1 a2 a3 H R):sc g 280 #[a0,a1,a2,a3] H R:=
  sd (hN 3 (.h 1 [9] [] (.n (hN 4 (.n (.h 0 [] [1] .e .e) .e)) .e) .e)) Tryz.func280 h
def L281:Y4:=
fun a b c d e f g=>
cW f (.cells (Value.cells b) 344 (0,0)) fun b f=>
Ld f (pt b) fun h=>
Ld f c fun c=>
Ld f d fun d=>
CR g a 270 #[h,c,d,(.func (.func 282) #[] #[(pt b),e])] f fun a b=>
rt g a b
theorem CY(h:L281 g a0 a1 a2 a3 H R):sc g 281 #[a0,a1,a2,a3] H R:=
  sd .e Tryz.func281 h
def L282:Y3:=
fun a b c d e f=>
cW e (.cells (Value.cells b) 161 (0,0)) fun b e=>
Ld e c fun c=>
lD 1 (pt b) e fun g=>
lD 2 (pt b) e fun b=>
Ld e d fun d=>
CR f a 283 #[c,g,b,d] e fun a b=>
rt f a b
theorem CX(h:L282 g a0 a1 a2 H R):sc g 282 #[a0,a1,a2] H R:=
  sd .e Tryz.func282 h
def L283:Y4:=
fun a b c d e f g=>
cW f (.cells (Value.cells b) 344 (0,0)) fun b f=>
lW f #[(ui 0)] 77 fun f h=>
lW h #[(ui 0)] 77 fun h i=>
St 1 i (pt f) (ui 0) fun i=>
St 1 i (pt h) (ui 1) fun i=>
∀j:Jt,(∀k:Hp,(∀_:Fr,
jQ k fun l m=>
lQ 1 m #[(.map none)] 360 l fun l m=>
lW m #[.nilFunc] 361 fun m n=>
St 1 n (pt m) (.func (.func 288) #[] #[(pt f),(pt h),(pt b),(pt l),(pt m)]) fun b=>
Ld b (pt m) fun l=>
bI Tryz.prog a l #[c,d] b (fun a b=>
rt g a b) (rF g))→j [] k)→
Br e (
St 1 i (pt f) (ui 1) fun a=>
St 1 a (pt h) (ui 0) fun a=>
JE j [] a) (
JE j [] i)
theorem CW(h:L283 g a0 a1 a2 a3 H R):sc g 283 #[a0,a1,a2,a3] H R:=
  sd (.n .e (.n .e (.h 1 [] [1,2,4,9,10] .e .e))) Tryz.func283 h
def L285:Y4:=
fun a b c d e f g=>
∃(h:Jt) (i:Mt),JE h [c,d,e,vT,vT] f∧∀c d e f j:Value,∀k:Hp,h [c,d,e,f,j] k→∀_:Fr,
lS d c fun l=>
aa .num .leq l (iv 12) fun m=>
Br m (
CR g a 289 #[b,c,d] k fun _ m=>
rt g (.tuple #[]) m) (
lE e (iv 0) fun m=>
Br m (
CR g a 290 #[b,c,d] k fun _ m=>
rt g (.tuple #[]) m) (
∀m:Jt,(∀n:Value,∀o:Hp,(∀_:Fr,
CR g a 292 #[b,c,d] o fun p q=>
lX p fun p r=>
∀s:Jt,(∀t u:Value,∀v:Hp,(∀_:Fr,
∀w:Jt,(∀x:Hp,(∀_:Fr,
∀y:Jt,(∀z:Value,∀A:Hp,(∀_:Fr,
Br z (
CR g a 296 #[b,c,d,t] A fun B C=>
aB h i [B,d,n,f,j] C [c,d,e,f,j] k) (
CR g a 297 #[b,c,d,t] A fun B C=>
lX B fun B D=>
lS B c fun E=>
lS d B fun F=>
aa .num .quo l (iv 8) fun l=>
lL E F fun G=>
Br G (
aa .num .geq E l fun E=>
CR g a 285 #[b,c,B,n] C fun _ G=>
lA B (iv 1) fun H=>
aB h i [H,d,n,E,D] G [c,d,e,f,j] k) (
aa .num .geq F l fun l=>
lA B (iv 1) fun E=>
CR g a 285 #[b,E,d,n] C fun _ C=>
aB h i [c,B,n,l,D] C [c,d,e,f,j] k)))→y [z] A)→
DR x fun h=>
lG c (iv 0) fun i=>
Br i (
lS c (iv 1) fun i=>
lI 1 b i h fun i=>
lI 1 b t h fun h=>
∀l:Hp,
CN (a.add l) 295 #[i,h] x fun h i=>
Un .not h fun h=>
ay vT h vF fun h=>
JE y [h] i) (
JE y [vF] x))→w [] x)→
lU f (fun h=>
(lV v j h)) fun h=>
lU (Value.bool h) (fun h=>
lE u (iv 1) fun i=>
(lV v i h)) fun h=>
Br (Value.bool h) (
CR g a 294 #[b,c,d] v fun h i=>
Br h (
rt g (.tuple #[]) i) (
JE w [] i)) (
JE w [] v))→s [t,u] v)→
lE r (iv 2) fun h=>
Br h (
CR g a 293 #[b,c,d] q fun _ h=>
lS d (iv 1) fun i=>
lS p c fun j=>
lS i j fun i=>
JE s [i,(iv 1)] h) (
JE s [p,r] q))→m [n] o)→
Un .not f fun f=>
Br f (
CR g a 291 #[b,c,d] k fun _ a=>
lS e (iv 1) fun b=>
JE m [b] a) (
JE m [e] k)))
theorem tQ(h:L285 g a0 a1 a2 a3 H R):sc g 285 #[a0,a1,a2,a3] H R:=
  sd (.n .e (.n .e (.n (.h 0 [1,2,3,8,9] [0] (.n (hN 3 (.h 1 [3] [0,1,2,8,9,10] .e (.n .e (.h 1 [11,12] [0,1,2,3,8,9,10] .e (.h 1 [] [0,1,2,3,8,9,10,11] (.n (.h 0 [] [1] .e .e) .e) (.n (.h 1 [87] [0,1,2,3,8,9,10,11] (.h 1 [] [] (hr 0 [] 0 2 (.h 2 [2] [] (hr 0 [] 3 12 .e) (hr 0 [] 3 11 (.h 3 [14] [] .e .e)))) .e) .e) .e)))))) .e) .e) .e))) Tryz.func285 h
def L286:Y1:=
fun a b c d=>
Br vF (
aQ .u32 b fun e=>
CR d a 298 #[e] c fun e f=>
rt d e f) (
CR d a 75 #[b] c fun a b=>
rt d a b)
theorem CV(h:L286 g a0 H R):sc g 286 #[a0] H R:=
  sd .e Tryz.func286 h
def L287:Y2:=
fun a b c d e=>
cW d (.cells (Value.cells c) 161 (0,0)) fun c d=>
lD 0 (pt c) d fun f=>
lL f (iv 0) fun f=>
Br f (
lM 0 b d fun f=>
CR e a 61 #[f] d fun f g=>
rt e f g) (
DR d fun f=>
lM 0 b f fun b=>
lD 0 (pt c) f fun c=>
CN a 46 #[b,c] d fun a b=>
aM b f∧
lX a fun a _=>
rt e a b)
theorem CQ(h:L287 g a0 a1 H R):sc g 287 #[a0,a1] H R:=
  sd (.n .e (.n .e (.n (.h 0 [0,1,2,3,4,5,6,7,8,9,10,11] [] .e .e) .e))) Tryz.func287 h
def L288(g:Gh)(a0 a1 a2 a3 a4 a5 a6:Value)(H:Hp)(R:Rt):Prop:=
Ld H a2 fun a=>
lE a0 a fun a=>
lO a (fun a=>
Ld H a2 fun b=>
lE a1 b fun b=>
(lV H b a)) fun a=>
Br (Value.bool a) (
Ld H a2 fun a=>
rt R a H) (
Ld H a3 fun a=>
lE a0 a fun a=>
lO a (fun a=>
lE a0 a1 fun b=>
(lV H b a)) fun a=>
Br (Value.bool a) (
rt R a1 H) (
Ld H a3 fun a=>
lE a1 a fun a=>
Br a (
rt R a0 H) (
Ld H a4 fun a=>
lM 2 a H fun a=>
lN a (iv 0) fun a=>
Br a (
rt R (ui 0) H) (
S7 a0 a1 fun a=>
An a0 a1 fun b=>
Build Tryz.prog 363 [(0,a),(1,b)] fun a=>
lQ 2 H #[(ui 0),(ui 0)] 363 a fun a b=>
Ld b a5 fun c=>
av 2 b (pt a) fun d=>
iI Tryz.prog 363 (ui 0) true b c d fun c=>
lX c fun c d=>
Br d (
rt R c b) (
Ld b a4 fun c=>
CR R g 279 #[c,a0] b fun b c=>
lX b fun b d=>
lQ 3 c #[(iv 0),(ui 0),(ui 0)] 161 b fun b c=>
Ld c a4 fun e=>
CR R g 279 #[e,a1] c fun c e=>
lX c fun c f=>
lQ 3 e #[(iv 0),(ui 0),(ui 0)] 161 c fun c e=>
lD 0 (pt b) e fun h=>
∀i:Jt,(∀j:Value,∀k:Hp,(∀_:Fr,
∀l:Jt,(∀m:Hp,(∀_:Fr,
∀n:Jt,(∀o:Hp,(∀_:Fr,
Ld o a6 fun p=>
lD 1 (pt b) o fun q=>
lD 1 (pt c) o fun r=>
bI Tryz.prog g p #[q,r] o (fun p q=>
DR q fun r=>
Ld r a4 fun s=>
Ld r a6 fun t=>
lD 2 (pt b) r fun u=>
lD 2 (pt c) r fun v=>
bI Tryz.prog g t #[u,v] q (fun q t=>
aM t r∧
CN g 280 #[s,j,p,q] t fun p q=>
aM q r∧
Ld q a5 fun r=>
av 2 q (pt a) fun a=>
gn Tryz.prog 363 q r a p fun a=>
rt R p a) uQ) (rF R))→n [] o)→
lG f d fun a=>
Br a (
ag 1 (pt c) fun a=>
St 1 m a a1 fun a=>
ag 2 (pt c) fun o=>
St 1 a o a1 fun a=>
JE n [] a) (
JE n [] m))→l [] m)→
lG d f fun a=>
Br a (
ag 1 (pt b) fun a=>
St 1 k a a0 fun a=>
ag 2 (pt b) fun b=>
St 1 a b a0 fun a=>
JE l [] a) (
JE l [] k))→i [j] k)→
lL f d fun a=>
Br a (
lD 0 (pt c) e fun a=>
JE i [a] e) (
JE i [h] e))))))
theorem CK(h:L288 g a0 a1 a2 a3 a4 a5 a6 H R):sc g 288 #[a0,a1,a2,a3,a4,a5,a6] H R:=
  sd (.n .e (.n (.n (.n (.h 0 [] [1] .e .e) (.n .e (.n (.h 0 [] [1] .e .e) .e))) .e) (hN 5 (.h 1 [17] [0,1,4,5,6,10,13,14,15,16] .e (.h 1 [] [1,4,5,6,10,13,14,15,16,17] .e (.h 1 [] [4,5,6,10,13,15,17] .e (.n .e (.n (.h 0 [0,1,2,3,4,5,6,7,8,9,10] [] .e .e) .e)))))))) Tryz.func288 h
def L289:Y3:=
fun a b c d e f=>
lA c (iv 1) fun g=>
∃(h:Jt) (i:Mt),JE h [g] e∧∀e:Value,∀g:Hp,h [e] g→∀_:Fr,
lL e d fun d=>
Br d (
∃(d:Jt) (j:Mt),JE d [e] g∧∀k:Value,∀l:Hp,d [k] l→∀_:Fr,
∀m:Jt,(∀n:Value,∀o:Hp,(∀_:Fr,
Br n (
DR o fun p=>
lS k (iv 1) fun q=>
lS k (iv 1) fun r=>
lI 1 b r p fun r=>
lI 1 b k p fun p=>
an 1 b k fun s=>
St 1 o s r fun r=>
an 1 b q fun q=>
St 1 r q p fun p=>
lS k (iv 1) fun q=>
aB d j [q] p [k] l) (
lA e (iv 1) fun d=>
aB h i [d] o [e] g))→m [n] o)→
DR l fun d=>
lG k c fun c=>
Br c (
lI 1 b k d fun c=>
lS k (iv 1) fun e=>
lI 1 b e d fun b=>
∀d:Hp,
CN (a.add d) 295 #[c,b] l fun a b=>
ay vT a vF fun a=>
JE m [a] b) (
JE m [vF] l)) (
rt f (.tuple #[]) g)
theorem CJ(h:L289 g a0 a1 a2 H R):sc g 289 #[a0,a1,a2] H R:=
  sd (.n .e (.n (.h 0 [6] [0,1,2] (.n .e (.n (.n (.n .e (.n (.h 0 [7] [0,1,2,6] (.n (.h 1 [30] [0,1,2,6,7] (.h 1 [] [] (hr 0 [] 0 3 (.h 2 [3] [] (hr 0 [] 4 11 .e) (hr 0 [] 4 10 (.h 3 [14] [] .e .e)))) .e) .e) (.n (.n (.h 0 [0,1,2,3,4,5,6,7,8,9,10,11,12,13,14,15,16,17] [] .e .e) .e) .e)) .e) .e)) .e) .e)) .e) .e)) Tryz.func289 h
def L290:Y3:=
fun a b c d e f=>
lS d c fun d=>
lS d (iv 1) fun g=>
aa .num .quo g (iv 2) fun g=>
∃(h:Jt) (i:Mt),JE h [g] e∧∀e:Value,∀g:Hp,h [e] g→∀_:Fr,
aa .num .geq e (iv 0) fun j=>
Br j (
CR f a 299 #[b,e,d,c] g fun _ j=>
lS e (iv 1) fun k=>
aB h i [k] j [e] g) (
lS d (iv 1) fun d=>
∃(e:Jt) (h:Mt),JE e [d] g∧∀d:Value,∀g:Hp,e [d] g→∀_:Fr,
aa .num .geq d (iv 0) fun i=>
Br i (
DR g fun i=>
lA c d fun j=>
lA c d fun k=>
lI 1 b k i fun k=>
lI 1 b c i fun i=>
an 1 b c fun l=>
St 1 g l k fun k=>
an 1 b j fun j=>
St 1 k j i fun i=>
CR f a 299 #[b,(iv 0),d,c] i fun _ a=>
lS d (iv 1) fun b=>
aB e h [b] a [d] g) (
rt f (.tuple #[]) g))
theorem CI(h:L290 g a0 a1 a2 H R):sc g 290 #[a0,a1,a2] H R:=
  sd (hN 3 (.n (.n .e (.n (.h 0 [9] [0,6,7,8] .e .e) .e)) (.n .e (.n (.h 0 [10] [0,6,7] (.n .e (.n (.n (.n (.h 0 [0,1,2,3,4,5,6,7,8,9,10,11,12,13,14,15,16,17,18,19] [] .e .e) .e) .e) .e)) .e) .e)))) Tryz.func290 h
def L291:Y3:=
fun a b c d e f=>
lS d c fun d=>
aa .num .geq d (iv 8) fun g=>
Br g (
aQ .u64 d fun g=>
lQ 1 e #[(wi 0)] 373 g fun g h=>
CR f a 300 #[d] h fun h i=>
aa .num .quo d (iv 4) fun j=>
aa .num .mul j (iv 2) fun j=>
lA c j fun j=>
lS j (iv 1) fun j=>
∃(k:Jt) (l:Mt),JE k [j] i∧∀i:Value,∀j:Hp,k [i] j→∀_:Fr,
aa .num .quo d (iv 4) fun m=>
aa .num .mul m (iv 2) fun m=>
lA c m fun m=>
lA m (iv 1) fun m=>
aa .num .leq i m fun m=>
Br m (
CR f a 301 #[(pt g)] j fun a g=>
lS h (wi 1) fun h=>
aa .num .and a h fun a=>
aQ .i64 a fun a=>
∀h:Jt,(∀m:Value,∀n:Hp,(∀_:Fr,
DR n fun o=>
lA c m fun p=>
lA c m fun c=>
lI 1 b c o fun c=>
lI 1 b i o fun o=>
an 1 b i fun q=>
St 1 n q c fun c=>
an 1 b p fun b=>
St 1 c b o fun b=>
lA i (iv 1) fun c=>
aB k l [c] b [i] j)→h [m] n)→
aa .num .geq a d fun b=>
Br b (
lS a d fun b=>
JE h [b] g) (
JE h [a] g)) (
rt f (.tuple #[]) j)) (
rt f (.tuple #[]) e)
theorem CG(h:L291 g a0 a1 a2 H R):sc g 291 #[a0,a1,a2] H R:=
  sd (.n .e (.n .e (.n (hN 3 (.n (.h 0 [9] [0,1,6,7,8] (.n .e (.n (.n (.n .e (.h 1 [10] [0,1,6,7,8,9] .e (.h 0 [0,1,2,3,4,5,6,7,8,9,10,11,12,13,14,15,16,17,18,19] [] .e .e))) .e) .e)) .e) .e)) .e))) Tryz.func291 h
def L292:Y3:=
fun a b c d e f=>
lS d c fun d=>
lW e #[(iv 0)] 3 fun e g=>
aa .num .quo d (iv 4) fun h=>
aa .num .mul h (iv 1) fun h=>
lA c h fun h=>
aa .num .quo d (iv 4) fun i=>
aa .num .mul i (iv 2) fun i=>
lA c i fun i=>
aa .num .quo d (iv 4) fun j=>
aa .num .mul j (iv 3) fun j=>
lA c j fun c=>
∀j:Jt,(∀k:Value,∀l:Hp,(∀_:Fr,
Ld l (pt e) fun m=>
lE m (iv 0) fun n=>
Br n (
rt f (tP k (iv 1)) l) (
lE m (iv 12) fun m=>
Br m (
rt f (tP k (iv 2)) l) (
rt f (tP k (iv 0)) l)))→j [k] l)→
aa .num .geq d (iv 8) fun k=>
Br k (
∀k:Jt,(∀l m n:Value,∀o:Hp,(∀_:Fr,
CR f a 303 #[b,l,m,n,(pt e)] o fun p q=>
JE j [p] q)→k [l,m,n] o)→
aa .num .geq d (iv 50) fun d=>
Br d (
CR f a 302 #[b,h,(pt e)] g fun d l=>
CR f a 302 #[b,i,(pt e)] l fun l m=>
CR f a 302 #[b,c,(pt e)] m fun a b=>
JE k [d,l,a] b) (
JE k [h,i,c] g)) (
JE j [i] g)
theorem CE(h:L292 g a0 a1 a2 H R):sc g 292 #[a0,a1,a2] H R:=
  sd (hN 6 (.h 1 [11] [9] (.n .e (.n (.h 1 [10,11,12] [0,9] .e .e) .e)) .e)) Tryz.func292 h
def L293:Y3:=
fun _ a b c d e=>
lS c (iv 1) fun c=>
∃(f:Jt) (g:Mt),JE f [b,c] d∧∀b c:Value,∀d:Hp,f [b,c] d→∀_:Fr,
lL b c fun h=>
Br h (
DR d fun h=>
lI 1 a c h fun i=>
lI 1 a b h fun h=>
an 1 a b fun j=>
St 1 d j i fun i=>
an 1 a c fun a=>
St 1 i a h fun a=>
lA b (iv 1) fun h=>
lS c (iv 1) fun i=>
aB f g [h,i] a [b,c] d) (
rt e (.tuple #[]) d)
theorem CD(h:L293 g a0 a1 a2 H R):sc g 293 #[a0,a1,a2] H R:=
  sd (.n .e (.n .e (.n (.h 0 [6,7] [0] (.n .e (.n (.n (.h 0 [0,1,2,3,4,5,6,7,8,9,10,11,12,13,14,15] [] .e .e) .e) .e)) .e) .e))) Tryz.func293 h
def L294:Y3:=
fun a b c d e f=>
lA c (iv 1) fun g=>
∃(h:Jt) (i:Mt),JE h [g,(iv 0)] e∧∀e g:Value,∀j:Hp,h [e,g] j→∀_:Fr,
lL g (iv 5) fun k=>
Br k (
∀k:Jt,(∀l:Value,∀m:Hp,(∀_:Fr,
lA g (iv 1) fun n=>
aB h i [l,n] m [e,g] j)→k [l] m)→
∃(g:Jt) (h:Mt),JE g [e] j∧∀e:Value,∀i:Hp,g [e] i→∀_:Fr,
∀l:Jt,(∀m:Value,∀n:Hp,(∀_:Fr,
Br m (
lA e (iv 1) fun o=>
aB g h [o] n [e] i) (
lE e d fun g=>
Br g (
rt f vT n) (
lS d c fun g=>
lL g (iv 50) fun g=>
Br g (
rt f vF n) (
DR n fun g=>
lS e (iv 1) fun h=>
lS e (iv 1) fun o=>
lI 1 b o g fun o=>
lI 1 b e g fun g=>
an 1 b e fun p=>
St 1 n p o fun o=>
an 1 b h fun h=>
St 1 o h g fun g=>
∀h:Jt,(∀o:Hp,(∀_:Fr,
lS d e fun p=>
aa .num .geq p (iv 2) fun p=>
Br p (
lA e (iv 1) fun p=>
∃(q:Jt) (r:Mt),JE q [p] o∧∀p:Value,∀s:Hp,q [p] s→∀_:Fr,
lL p d fun t=>
Br t (
DR s fun t=>
lI 1 b p t fun u=>
lS p (iv 1) fun v=>
lI 1 b v t fun t=>
CN a 295 #[u,t] s fun t u=>
Un .not t fun t=>
Br t (
JE k [e] u) (
DR u fun t=>
lS p (iv 1) fun v=>
lS p (iv 1) fun w=>
lI 1 b w t fun w=>
lI 1 b p t fun t=>
an 1 b p fun x=>
St 1 u x w fun u=>
an 1 b v fun v=>
St 1 u v t fun t=>
lA p (iv 1) fun u=>
aB q r [u] t [p] s)) (
JE k [e] s)) (
JE k [e] o))→h [] o)→
lS e c fun c=>
aa .num .geq c (iv 2) fun c=>
Br c (
lS e (iv 1) fun c=>
∃(k:Jt) (o:Mt),JE k [c] g∧∀c:Value,∀p:Hp,k [c] p→∀_:Fr,
aa .num .geq c (iv 1) fun q=>
Br q (
DR p fun q=>
lI 1 b c q fun r=>
lS c (iv 1) fun s=>
lI 1 b s q fun q=>
CN a 295 #[r,q] p fun q r=>
Un .not q fun q=>
Br q (
JE h [] r) (
DR r fun q=>
lS c (iv 1) fun s=>
lS c (iv 1) fun t=>
lI 1 b t q fun t=>
lI 1 b c q fun q=>
an 1 b c fun u=>
St 1 r u t fun r=>
an 1 b s fun s=>
St 1 r s q fun q=>
lS c (iv 1) fun r=>
aB k o [r] q [c] p)) (
JE h [] p)) (
JE h [] g)))))→l [m] n)→
DR i fun c=>
lL e d fun d=>
Br d (
lI 1 b e c fun d=>
lS e (iv 1) fun e=>
lI 1 b e c fun b=>
∀c:Hp,
CN (a.add c) 295 #[d,b] i fun a b=>
Un .not a fun a=>
ay vT a vF fun a=>
JE l [a] b) (
JE l [vF] i)) (
rt f vF j)
theorem CC(h:L294 g a0 a1 a2 H R):sc g 294 #[a0,a1,a2] H R:=
  sd (.n .e (.n .e (.n (.n .e (.n (.h 0 [7,8] [0,1,2] (.n .e (.h 1 [7] [0,1,2,8] (.n (.n (.n (.h 0 [7] [0,1,2,8] (.n (.h 1 [32] [0,1,2,7,8] (.h 1 [] [] (hr 0 [] 0 3 (.h 2 [3] [] (hr 0 [] 4 12 .e) (hr 0 [] 4 11 (.h 3 [15] [] .e .e)))) .e) .e) .e) .e) .e) (.n .e (.n .e (.n (.h 0 [0,1,2,3,4,5,6,7,8,9,10,11,12,13,14,15,16,17] [] .e .e) (.h 1 [] [0,1,2,7,8] (.n .e (.n (.n .e (.n (.h 0 [9] [0,1,2,7,8] (.n .e (.n (.n (.n (.n (.h 0 [0,1,2,3,4,5,6,7,8,9,10] [] .e .e) .e) (.h 0 [0,1,2,3,4,5,6,7,8,9,10,11,12,13,14,15,16,17] [] .e .e)) .e) .e)) .e) .e)) .e)) (.n .e (.n (.n .e (.n (.h 0 [10] [0,1,2,7,8] (.n .e (.n (.n (.n (.n (.h 0 [0,1,2,3,4,5,6,7,8,9,10] [] .e .e) .e) (.h 0 [0,1,2,3,4,5,6,7,8,9,10,11,12,13,14,15,16,17] [] .e .e)) .e) .e)) .e) .e)) .e))))))) .e) .e)) .e) .e)) .e))) Tryz.func294 h
def L295:Y2:=
fun a b c d e=>
∀f:Jt,(∀g:Value,∀h:Hp,(∀_:Fr,
rt e g h)→f [g] h)→
CR e a 304 #[b] d fun d g=>
Split d true (
CR e a 304 #[c] g fun a d=>
Un .not a fun a=>
ay vT a vF fun a=>
Split a false (
lL b c fun a=>
ay vF vT a fun a=>
JE f [a] d) (
ay vT vT undef fun a=>
JE f [a] d)) (
ay vF undef vF fun a=>
lL b c fun b=>
ay a vT b fun a=>
JE f [a] g)
theorem CB(h:L295 g a0 a1 H R):sc g 295 #[a0,a1] H R:=
  sd (.n .e (.h 1 [4] [] .e .e)) Tryz.func295 h
def L296:Y4:=
fun a b c d e f g=>
DR f fun h=>
lI 1 b e h fun i=>
lI 1 b c h fun h=>
an 1 b c fun j=>
St 1 f j i fun f=>
an 1 b e fun e=>
St 1 f e h fun e=>
lA c (iv 1) fun f=>
lS d (iv 1) fun d=>
∃(h:Jt) (i:Mt),JE h [f,d] e∧∀d e:Value,∀f:Hp,h [d,e] f→∀_:Fr,
∃(j:Jt) (k:Mt),JE j [d] f∧∀l:Value,∀m:Hp,j [l] m→∀_:Fr,
∀n:Jt,(∀o:Value,∀p:Hp,(∀_:Fr,
Br o (
lA l (iv 1) fun q=>
aB j k [q] p [l] m) (
∃(j:Jt) (k:Mt),JE j [e] p∧∀q:Value,∀r:Hp,j [q] r→∀_:Fr,
∀s:Jt,(∀t:Value,∀u:Hp,(∀_:Fr,
Br t (
lS q (iv 1) fun v=>
aB j k [v] u [q] r) (
lG l q fun j=>
Br j (
rt g l u) (
DR u fun g=>
lI 1 b q g fun j=>
lI 1 b l g fun g=>
an 1 b l fun k=>
St 1 u k j fun j=>
an 1 b q fun k=>
St 1 j k g fun g=>
lA l (iv 1) fun j=>
lS q (iv 1) fun k=>
aB h i [j,k] g [d,e] f)))→s [t] u)→
DR r fun d=>
aa .num .leq l q fun f=>
Br f (
lI 1 b c d fun f=>
lI 1 b q d fun d=>
∀g:Hp,
CN (a.add g) 295 #[f,d] r fun d f=>
ay vT d vF fun d=>
JE s [d] f) (
JE s [vF] r)))→n [o] p)→
DR m fun d=>
aa .num .leq l e fun e=>
Br e (
lI 1 b c d fun c=>
lI 1 b l d fun b=>
∀d:Hp,
CN (a.add d) 295 #[c,b] m fun a b=>
Un .not a fun a=>
ay vT a vF fun a=>
JE n [a] b) (
JE n [vF] m)
theorem Cz(h:L296 g a0 a1 a2 a3 H R):sc g 296 #[a0,a1,a2,a3] H R:=
  sd (.n .e (.n (.h 0 [0,1,2,3,4,5,6,7,8,9,10,11,12,13,14,15] [] .e .e) (.n .e (.n (.n (.h 0 [9,10] [0,1] (.n (.n (.n (.h 0 [9] [0,1,10] (.n (.h 1 [43] [0,1,9,10] (.h 1 [] [] (hr 0 [] 0 3 (.h 2 [3] [] (hr 0 [] 4 11 .e) (hr 0 [] 4 10 (.h 3 [14] [] .e .e)))) .e) .e) .e) .e) .e) (.n (.n (.h 0 [10] [0,1,9] (.n (.h 1 [59] [0,1,9,10] (.h 1 [] [] (hr 0 [] 0 3 (.h 2 [3] [] (hr 0 [] 4 10 .e) (hr 0 [] 4 9 (.h 3 [13] [] .e .e)))) .e) .e) .e) .e) .e) (.n .e (.n (.h 0 [0,1,2,3,4,5,6,7,8,9,10,11,12,13,14,15] [] .e .e) .e)))) .e) .e) .e) .e)))) Tryz.func296 h
def L297:Y4:=
fun a b c d e f g=>
DR f fun h=>
lI 1 b e h fun i=>
lI 1 b c h fun h=>
an 1 b c fun j=>
St 1 f j i fun f=>
an 1 b e fun e=>
St 1 f e h fun e=>
lA c (iv 1) fun f=>
lS d (iv 1) fun d=>
∃(h:Jt) (i:Mt),JE h [f] e∧∀e:Value,∀f:Hp,h [e] f→∀_:Fr,
∀j:Jt,(∀k:Value,∀l:Hp,(∀_:Fr,
Br k (
lA e (iv 1) fun m=>
aB h i [m] l [e] f) (
∃(h:Jt) (i:Mt),JE h [d] l∧∀m:Value,∀n:Hp,h [m] n→∀_:Fr,
∀o:Jt,(∀p:Value,∀q:Hp,(∀_:Fr,
Br p (
lS m (iv 1) fun r=>
aB h i [r] q [m] n) (
lG e m fun h=>
Br h (
DR q fun h=>
lI 1 b c h fun i=>
lI 1 b m h fun h=>
an 1 b m fun r=>
St 1 q r i fun i=>
an 1 b c fun r=>
St 1 i r h fun h=>
rt g (tP m vT) h) (
DR q fun h=>
lI 1 b m h fun i=>
lI 1 b e h fun h=>
an 1 b e fun r=>
St 1 q r i fun i=>
an 1 b m fun r=>
St 1 i r h fun h=>
lA e (iv 1) fun i=>
lS m (iv 1) fun r=>
∃(s:Jt) (t:Mt),JE s [i,r] h∧∀h i:Value,∀r:Hp,s [h,i] r→∀_:Fr,
∃(u:Jt) (v:Mt),JE u [h] r∧∀w:Value,∀x:Hp,u [w] x→∀_:Fr,
∀y:Jt,(∀z:Value,∀A:Hp,(∀_:Fr,
Br z (
lA w (iv 1) fun B=>
aB u v [B] A [w] x) (
∃(u:Jt) (v:Mt),JE u [i] A∧∀B:Value,∀C:Hp,u [B] C→∀_:Fr,
∀D:Jt,(∀E:Value,∀F:Hp,(∀_:Fr,
Br E (
lS B (iv 1) fun G=>
aB u v [G] F [B] C) (
lG w B fun u=>
Br u (
DR F fun u=>
lI 1 b c u fun v=>
lI 1 b B u fun u=>
an 1 b B fun G=>
St 1 F G v fun v=>
an 1 b c fun G=>
St 1 v G u fun u=>
rt g (tP B vF) u) (
DR F fun g=>
lI 1 b B g fun u=>
lI 1 b w g fun g=>
an 1 b w fun v=>
St 1 F v u fun u=>
an 1 b B fun v=>
St 1 u v g fun g=>
lA w (iv 1) fun u=>
lS B (iv 1) fun v=>
aB s t [u,v] g [h,i] r)))→D [E] F)→
DR C fun g=>
aa .num .leq w B fun h=>
Br h (
lI 1 b B g fun h=>
lI 1 b c g fun g=>
∀r:Hp,
CN (a.add r) 295 #[h,g] C fun g h=>
Un .not g fun g=>
ay vT g vF fun g=>
JE D [g] h) (
JE D [vF] C)))→y [z] A)→
DR x fun g=>
aa .num .leq w i fun h=>
Br h (
lI 1 b w g fun h=>
lI 1 b c g fun g=>
∀i:Hp,
CN (a.add i) 295 #[h,g] x fun g h=>
ay vT g vF fun g=>
JE y [g] h) (
JE y [vF] x))))→o [p] q)→
DR n fun g=>
aa .num .leq e m fun h=>
Br h (
lI 1 b m g fun h=>
lI 1 b c g fun g=>
∀i:Hp,
CN (a.add i) 295 #[h,g] n fun g h=>
Un .not g fun g=>
ay vT g vF fun g=>
JE o [g] h) (
JE o [vF] n)))→j [k] l)→
DR f fun g=>
aa .num .leq e d fun d=>
Br d (
lI 1 b e g fun d=>
lI 1 b c g fun b=>
∀c:Hp,
CN (a.add c) 295 #[d,b] f fun a b=>
ay vT a vF fun a=>
JE j [a] b) (
JE j [vF] f)
theorem Cy(h:L297 g a0 a1 a2 a3 H R):sc g 297 #[a0,a1,a2,a3] H R:=
  sd (.n .e (.n (.h 0 [0,1,2,3,4,5,6,7,8,9,10,11,12,13,14,15] [] .e .e) (.n .e (.n (.n (.h 0 [10] [0,1,11] (.n (.h 1 [43] [0,1,10,11] (.h 1 [] [] (hr 0 [] 0 3 (.h 2 [3] [] (hr 0 [] 4 10 .e) (hr 0 [] 4 9 (.h 3 [13] [] .e .e)))) .e) .e) .e) .e) .e) (.n (.n (.h 0 [11] [0,1,10] (.n (.h 1 [60] [0,1,10,11] (.h 1 [] [] (hr 0 [] 0 3 (.h 2 [3] [] (hr 0 [] 4 11 .e) (hr 0 [] 4 10 (.h 3 [14] [] .e .e)))) .e) .e) .e) .e) .e) (.n (.n .e (.n (.n (.h 0 [0,1,2,3,4,5,6,7,8,9,10,11,12,13,14,15] [] .e .e) .e) .e)) (.n (.h 0 [0,1,2,3,4,5,6,7,8,9,10,11,12,13,14,15] [] .e .e) (.n .e (.n .e (.n (.n (.h 0 [10,11] [0,1] (.n (.n (.n (.h 0 [10] [0,1,11] (.n (.h 1 [112] [0,1,10,11] (.h 1 [] [] (hr 0 [] 0 3 (.h 2 [3] [] (hr 0 [] 4 10 .e) (hr 0 [] 4 9 (.h 3 [13] [] .e .e)))) .e) .e) .e) .e) .e) (.n (.n (.h 0 [11] [0,1,10] (.n (.h 1 [129] [0,1,10,11] (.h 1 [] [] (hr 0 [] 0 3 (.h 2 [3] [] (hr 0 [] 4 11 .e) (hr 0 [] 4 10 (.h 3 [14] [] .e .e)))) .e) .e) .e) .e) .e) (.n .e (.n (.h 0 [0,1,2,3,4,5,6,7,8,9,10,11,12,13,14,15] [] .e .e) .e)))) .e) .e) .e) (.n (.h 0 [0,1,2,3,4,5,6,7,8,9,10,11,12,13,14,15] [] .e .e) .e))))))))))) Tryz.func297 h
def L299:Y4:=
fun a b c d e f g=>
∃(h:Jt) (i:Mt),JE h [c] f∧∀c:Value,∀f:Hp,h [c] f→∀_:Fr,
aa .num .mul (iv 2) c fun j=>
lA j (iv 1) fun j=>
aa .num .geq j d fun k=>
Br k (
rt g (.tuple #[]) f) (
∀k:Jt,(∀l:Value,∀m:Hp,(∀_:Fr,
DR m fun n=>
lA e c fun o=>
lI 1 b o n fun o=>
lA e l fun p=>
lI 1 b p n fun n=>
CN a 295 #[o,n] m fun n o=>
Un .not n fun n=>
Br n (
rt g (.tuple #[]) o) (
DR o fun g=>
lA e c fun n=>
lA e l fun p=>
lA e l fun q=>
lI 1 b q g fun q=>
lA e c fun r=>
lI 1 b r g fun g=>
an 1 b n fun n=>
St 1 o n q fun n=>
an 1 b p fun o=>
St 1 n o g fun g=>
aB h i [l] g [c] f))→k [l] m)→
∀c:Jt,(∀g:Value,∀h:Hp,(∀_:Fr,
Br g (
lA j (iv 1) fun i=>
JE k [i] h) (
JE k [j] h))→c [g] h)→
DR f fun g=>
lA j (iv 1) fun h=>
lL h d fun d=>
Br d (
lA e j fun d=>
lI 1 b d g fun d=>
lA e j fun e=>
lA e (iv 1) fun e=>
lI 1 b e g fun b=>
∀e:Hp,
CN (a.add e) 295 #[d,b] f fun a b=>
ay vT a vF fun a=>
JE c [a] b) (
JE c [vF] f))
theorem Cw(h:L299 g a0 a1 a2 a3 H R):sc g 299 #[a0,a1,a2,a3] H R:=
  sd (.n .e (.n (.h 0 [8] [0,2,3] (.n (.n .e (.n .e (.h 1 [9] [0,2,3,8] (.h 1 [36] [0,2,3,8,9] (.h 1 [] [] (hr 0 [] 0 4 (.h 2 [4] [] (hr 0 [] 5 15 .e) (hr 0 [] 5 14 (.h 3 [19] [] .e .e)))) .e) .e) (.n (.n (.h 0 [0,1,2,3,4,5,6,7,8,9,10,11,12,13] [] .e .e) .e) (.n (.h 0 [0,1,2,3,4,5,6,7,8,9,10,11,12,13,14,15,16,17,18,19,20,21,22,23] [] .e .e) .e))))) .e) .e) .e)) Tryz.func299 h
def L300:Y1:=
fun a b c d=>
aQ .u64 b fun b=>
CR d a 286 #[b] c fun a b=>
aa .num .shl (wi 1) a fun a=>
rt d a b
theorem Cv(h:L300 g a0 H R):sc g 300 #[a0] H R:=
  sd .e Tryz.func300 h
def L301:Y1:=
fun _ a b c=>
DR b fun d=>
Nil a fun e=>
Ld d e fun e=>
Nil a fun f=>
Ld d f fun d=>
aa .num .shl d (wi 13) fun d=>
aa .num .xor e d fun d=>
Nil a fun e=>
St 1 b e d fun b=>
DR b fun d=>
Nil a fun e=>
Ld d e fun e=>
Nil a fun f=>
Ld d f fun d=>
aa .num .shr d (wi 7) fun d=>
aa .num .xor e d fun d=>
Nil a fun e=>
St 1 b e d fun b=>
DR b fun d=>
Nil a fun e=>
Ld d e fun e=>
Nil a fun f=>
Ld d f fun d=>
aa .num .shl d (wi 17) fun d=>
aa .num .xor e d fun d=>
Nil a fun e=>
St 1 b e d fun b=>
Nil a fun a=>
Ld b a fun a=>
rt c a b
theorem Cu(h:L301 g a0 H R):sc g 301 #[a0] H R:=
  sd (.n .e (.n (.h 0 [0,1,2,3,4,5,6,7,8,9] [] .e .e) (.n (.h 0 [0,1,2,3,4,5,6,7,8,9] [] .e .e) (.n (.h 0 [0,1,2,3,4,5,6,7,8,9] [] .e .e) .e)))) Tryz.func301 h
def L302:Y3:=
fun a b c d e f=>
lS c (iv 1) fun g=>
lA c (iv 1) fun h=>
CR f a 303 #[b,g,c,h,d] e fun a b=>
rt f a b
theorem Cr(h:L302 g a0 a1 a2 H R):sc g 302 #[a0,a1,a2] H R:=
  sd .e Tryz.func302 h
def L303:Y5:=
fun a b c d e f g h=>
CR h a 305 #[b,c,d,f] g fun c d=>
lX c fun c g=>
CR h a 305 #[b,g,e,f] d fun d e=>
lX d fun d _=>
CR h a 305 #[b,c,d,f] e fun a b=>
lX a fun _ a=>
rt h a b
theorem Cq(h:L303 g a0 a1 a2 a3 a4 H R):sc g 303 #[a0,a1,a2,a3,a4] H R:=
  sd .e Tryz.func303 h
def L304:Y1:=
fun _ a b c=>
lN a a fun a=>
rt c a b
theorem Cp(h:L304 g a0 H R):sc g 304 #[a0] H R:=
  sd .e Tryz.func304 h
def L305:Y4:=
fun a b c d e f g=>
DR f fun h=>
lI 1 b d h fun i=>
lI 1 b c h fun b=>
CN a 295 #[i,b] f fun a b=>
Br a (
Nil e fun a=>
Ld b a fun a=>
lA a (iv 1) fun a=>
Nil e fun e=>
St 1 b e a fun a=>
rt g (tP d c) a) (
rt g (tP c d) b)
theorem Co(h:L305 g a0 a1 a2 a3 H R):sc g 305 #[a0,a1,a2,a3] H R:=
  sd (.n .e (.n (.n (.h 0 [0,1,2,3,4,5,6,7,8] [] .e .e) .e) .e)) Tryz.func305 h
end Go.Proofs
namespace Go.Sx
open Go
section
variable {P:Program} {g:Gh} {H:Hp}
theorem aR{f:FuncId}{args:Array Value}{C:Hp}{Q:Value→Hp→Prop}(h:∀g,bW P g f args C (aS Q)):Fc P f args C Q:=h
theorem Ld.q{b off:Nat}{c:Array Value}{T:TypeId}{fz:Nat×Nat}{v:Value}{k:Value→Prop}(h:k v)(hm:(b,Obj.cells c T fz)∈H:=by repeat (first|exact List.Mem.head _|apply List.Mem.tail|apply List.mem_append_right))(hc:c[off]? =some v:=by rfl):Ld H (.pointer (some ⟨b,off,none⟩)) k:=.mk hm hc h
theorem Ld.f{b o off:Nat}{c:Array Value}{T:TypeId}{fz:Nat×Nat}{v:Value}{k:Value→Prop}(h:k v)(hm:(b,Obj.cells c T fz)∈H:=by repeat (first|exact List.Mem.head _|apply List.Mem.tail|apply List.mem_append_right))(hc:c[o+off]? =some v:=by rfl):ag off (.pointer (some ⟨b,o,none⟩)) fun p=>Ld H p k:=.mk (.mk hm hc h)
theorem Ld.n{b o off:Nat}{c:Array Value}{T:TypeId}{fz:Nat×Nat}{v:Value}{k:Value→Prop}(h:k v)(hm:(b,Obj.cells c T fz)∈H:=by repeat (first|exact List.Mem.head _|apply List.Mem.tail|apply List.mem_append_right))(hc:c[o+off]? =some v:=by rfl):Nil (.pointer (some ⟨b,o,none⟩)) fun q=>ag off q fun p=>Ld H p k:=.ptr (.mk (.mk hm hc h))
theorem Ld.u{b o off:Nat}{c:Array Value}{T:TypeId}{fz:Nat×Nat}{v:Value}{k:Value→Prop}(hm:(b,Obj.cells c T fz)∈H)(h:k v)(hc:c[o+off]? =some v:=by rfl):ag off (.pointer (some ⟨b,o,none⟩)) fun p=>Ld H p k:=.mk (.mk hm hc h)
theorem Ld.v{b o off:Nat}{c:Array Value}{T:TypeId}{fz:Nat×Nat}{v:Value}{k:Value→Prop}(hm:(b,Obj.cells c T fz)∈H)(h:k v)(hc:c[o+off]? =some v:=by rfl):Nil (.pointer (some ⟨b,o,none⟩)) fun q=>ag off q fun p=>Ld H p k:=.ptr (.mk (.mk hm hc h))
theorem av.q{b n:Nat}{r:List Value}{T:TypeId}{fz:Nat×Nat}{K:Value→Prop}(h:K (.agg r.toArray))(hm:(b,Obj.cells r.toArray T fz)∈H:=by repeat (first|exact List.Mem.head _|apply List.Mem.tail|apply List.mem_append_right))(hr:r.length=n:=by rfl):av n H (.pointer (some ⟨b,0,none⟩)) K:=.whole hm hr h
theorem St.q{b n:Nat}{c:Array Value}{T:TypeId}{r:List Value}{H':Hp}{K:Hp→Prop}(h:K H')(hu:cD b (.cells c T (0,0)) (.cells r.toArray T (0,0)) H H':=by repeat (first|exact cD.head _|apply cD.tail|apply cD.bO))(hs:c.size=n:=by rfl)(hr:r.length=n:=by rfl)(h1:∀v∈r,v.oneCell'=true:=by simp[Value.oneCell']):
  St n H (.pointer (some ⟨b,0,none⟩)) (.agg r.toArray) K:=.whole hu hs hr h1 h
theorem St.p{b n:Nat}{c:Array Value}{T:TypeId}{r:List Value}{H':Hp}{K:Hp→Prop}(h1:∀v∈r,v.oneCell'=true)(h:K H')(hu:cD b (.cells c T (0,0)) (.cells r.toArray T (0,0)) H H':=by repeat (first|exact cD.head _|apply cD.tail|apply cD.bO))(hs:c.size=n:=by rfl)(hr:r.length=n:=by rfl):
  St n H (.pointer (some ⟨b,0,none⟩)) (.agg r.toArray) K:=.whole hu hs hr h1 h
section
variable {kd uE:IntKind} {a b:Nat} {k:Value→Prop}
theorem aa.dx(h:k (.int kd ((a+b:Nat):Int)))(hr:a+b<bA kd:=by first|(simp[bA];omega)|(simp only[bA];omega)|simp[bA]):aa .num .add (.int kd a) (.int kd b) k:=.PM hr h
theorem aa.inc(h:k (.int kd ((a+1:Nat):Int)))(hr:a+1<bA kd:=by first|(simp[bA];omega)|(simp only[bA];omega)|simp[bA]):aa .num .add (.int kd a) (.int kd 1) k:=.PM hr h
theorem aa.bE(h:k (.int kd ((a-b:Nat):Int)))(ha:a<bA kd:=by first|(simp[bA];omega)|(simp only[bA];omega)|simp[bA])(hb:b≤a:=by omega):aa .num .sub (.int kd a) (.int kd b) k:=.ux ha hb h
theorem aa.jx(h:k (.int kd ((a*b:Nat):Int)))(hr:a*b<bA kd:=by first|(simp[bA];omega)|(simp only[bA];omega)|simp[bA]):aa .num .mul (.int kd a) (.int kd b) k:=.XC hr h
theorem aQ.q(h:k (.int kd (a:Int)))(ha:a<bA kd:=by first|(simp[bA];omega)|(simp only[bA];omega)|simp[bA]):aQ kd (.int uE a) k:=.nat ha h
end
theorem Br.T{p:Prop}[Decidable p]{t f:Prop}(h:t)(hp:p:=by first|omega|decide|simp):Br (.bool (decide p)) t f:=.SP hp h
theorem Br.F{p:Prop}[Decidable p]{t f:Prop}(h:f)(hp:¬p:=by first|omega|decide|simp):Br (.bool (decide p)) t f:=.Md hp h
theorem ae.fq{f:FuncId}{args:Array Value}{C H:Hp}{c:Hp→Hp}{Q:Value→Hp→Prop}{K:Value→Hp→Prop}{KP:List PanicEntry→Hp→Prop}(hc:Fc P f args C Q)
 (hk:∀v C',Q v C'→K v (c C'))(hh:aZ C H c:=by repeat (first|exact aZ.here|exact aZ.left|apply aZ.cons|apply aZ.app)):ae P g f args H K KP:=.fn hh hc hk
theorem ae.rq{f:FuncId}{args:Array Value}{B H:Hp}{c:Hp→Hp}{Q:Value→Prop}{K:Value→Hp→Prop}{KP:List PanicEntry→Hp→Prop}(hc:Rd P f args B Q)
 (hk:∀v,Q v→K v H)(hh:aZ B H c:=by repeat (first|exact aZ.here|exact aZ.left|apply aZ.cons|apply aZ.app)):ae P g f args H K KP:=.rd hh hc hk
theorem ae.eq{f:FuncId}{args:Array Value}{B H:Hp}{c:Hp→Hp}{v:Value}{K:Value→Hp→Prop}{KP:List PanicEntry→Hp→Prop}(hc:Rd P f args B (· =v))
 (hk:K v H)(hh:aZ B H c:=by repeat (first|exact aZ.here|exact aZ.left|apply aZ.cons|apply aZ.app)):ae P g f args H K KP:=.rd hh hc fun _ h=>by subst h;exact hk
theorem ae.eh{f:FuncId}{args:Array Value}{B H:Hp}{c:Hp→Hp}{v:Value}{K:Value→Hp→Prop}{KP:List PanicEntry→Hp→Prop}(hh:aZ B H c)(hc:Rd P f args B (· =v))
 (hk:K v H):ae P g f args H K KP:=.rd hh hc fun _ h=>by subst h;exact hk
theorem ae.pq{f:FuncId}{args:Array Value}{B H:Hp}{c:Hp→Hp}{Q:Value→Hp→Prop}{K:Value→Hp→Prop}{KP:List PanicEntry→Hp→Prop}(hc:Px P f args B Q)
 (hk:∀v N,Q v (N++B)→K v (c (N++B)))(hh:aZ B H c:=by repeat (first|exact aZ.here|exact aZ.left|apply aZ.cons|apply aZ.app)):ae P g f args H K KP:=.px hh hc hk
theorem Ext.two{x y:Value}{k:Value→Value→Prop}(h:k x y):Ext 0 (.tuple #[x,y]) fun a=>Ext 1 (.tuple #[x,y]) fun b=>k a b:=.mk rfl (.mk rfl h)
end
end Go.Sx
set_option maxRecDepth 100000
namespace Go.Proofs
open Go Go.Sx
theorem jO{B:Hp}{s:Value}{n:Int}{K:Value→Hp→Prop}(h:∀b,K (.slice (some ⟨b,0,none⟩) 1 1) ((b,.cells #[.int .i64 n,s] 57 (0,0))::B)):
  aq Tryz.prog 28 1 [(0,.agg #[.int .i64 n,s])] B K:=
 aq.one (r:=[.int .i64 n,s]) (e:=57) (k:=2) (z:=.agg #[.int .i64 0,.slice none 0 0]) (by kernel_rfl) (by kernel_rfl) (by kernel_rfl) (by decide) rfl h
theorem A8{G:Nat→Nat}{W:Nat}:((List.range W).map fun k=>if k<W then G k else 0)=(List.range W).map G:=by
 apply List.map_congr_left
 intro k hk
 rw[if_pos (List.mem_range.1 hk)]
theorem rO{n:Nat}{ws:List Nat}(h:aj.dh n ws):ws.length≤4294967296:=by have:=h.len;have:=aj.rX h.qd;omega
theorem aG{B:Hp}{s:Value}{ws:List Nat}(h:Words B s ws):s.oneCell'=true:=by obtain⟨a,c,rfl,_⟩:=h.1.shape;rfl
theorem G7{G:Nat→Nat}{W i:Nat}(hi:i<W):(iw ((List.range W).map fun k=>if k<i then G k else 0)).set i ((G i:Nat):Int)=iw ((List.range W).map fun k=>if k<i+1 then G k else 0):=by
 apply List.ext_getElem?
 intro j
 unfold iw
 by_cases e:i=j
 ·subst e;simp[hi]
 ·rw[List.getElem?_set_ne e]
  by_cases hj:j<W
  ·simp only[List.getElem?_map,List.getElem?_range hj,Option.map_some]
   by_cases h2:j<i
   ·rw[if_pos h2,if_pos (by omega)]
   ·rw[if_neg h2,if_neg (by omega)]
  ·rw[List.getElem?_eq_none (by simp;omega),List.getElem?_eq_none (by simp;omega)]
theorem range_zero{G:Nat→Nat}{W:Nat}:List.replicate W (0:Int)=iw ((List.range W).map fun k=>if k<0 then G k else 0):=by
 apply List.ext_getElem?
 intro j
 unfold iw
 by_cases hj:j<W
 ·simp[hj]
 ·rw[List.getElem?_eq_none (by simp;omega),List.getElem?_eq_none (by simp;omega)]
theorem jg{n:Nat}(hn:n≤16):aj.wN n≤9223372036854775807∧aj.wN n*8≤281474976710656:=by have:=aj.rX hn;omega
end Go.Proofs
set_option maxRecDepth 100000
namespace Go.Proofs
open Go Go.Sx
def dW(l:List Bool):Array Value:=(l.map Value.bool).toArray
theorem Cb(l:List Bool)(i:Nat)(b:Bool):(dW l).setIfInBounds i (.bool b)=dW (l.set i b):=by simp[dW,List.map_set]
theorem Bl(n:Nat):madeCells (Value.cells (.bool false)) (n*1)=dW (List.replicate n false):=by
 apply Array.ext
 ·simp[madeCells,dW]
 ·intro i h1 h2
  simp[madeCells,dW,Value.cells,Nat.mod_one]
def As(B:Hp)(v:Value)(l:List Bool):Prop:=Sl 1 B v (l.map fun b=>[Value.bool b])
theorem As.block{B:Hp}{b cap:Nat}{l:List Bool}{T:TypeId}{fz:Nat×Nat}(hm:(b,Obj.cells (dW l) T fz)∈B)(hc:l.length≤cap):As B (.slice (some ⟨b,0,none⟩) l.length cap) l:=by
 refine⟨fun r hr=>by obtain⟨b,_,rfl⟩:=List.mem_map.1 hr;rfl,.inr ⟨b,0,cap,_,T,fz,by simp,by simpa using hc,hm,by simp[dW],fun i r hi j v hj=>?_⟩⟩
 rw[List.getElem?_map]at hi
 cases hl:l[i]? with
 |none=>rw[hl]at hi;simp at hi
 |some n=>
  rw[hl]at hi
  simp only[Option.map_some,Option.some.injEq]at hi
  subst hi
  cases j with
  |zero=>
   simp only[List.getElem?_cons_zero,Option.some.injEq]at hj
   subst hj
   simp[dW,hl]
  |succ j=>simp at hj
theorem As.ld{kd:IntKind}{B H:Hp}{v:Value}{l:List Bool}(h:As B v l){i:Nat}{b:Bool}(hi:l[i]? =some b)(hs:∀x∈B,x∈H){K:Value→Prop}(hk:K (.bool b)):an 1 v (.int kd (i:Int)) (fun p=>Ld H p K):=
 an.sl h (by rw[List.getElem?_map,hi];rfl) fun p hp=>Ld.at hp hs hk
theorem cO.Ms{H:Hp}{T:TypeId}{kl:IntKind}{n:Nat}{K:Value→Hp→Prop}(bH:n≤281474976710656)
 (h:∀b,K (.slice (some ⟨b,0,none⟩) n n) ((b,.cells (dW (List.replicate n false)) T (0,0))::H)):cO T 1 1 (.bool false) H (.int kl n) (.int kl n) K:=
 ⟨kl,kl,n,n,rfl,rfl,Nat.le_refl _,by omega,by omega,fun b _=>by rw[Bl];exact h b⟩
theorem St.Ms{H:Hp}{b i:Nat}{l:List Bool}{x:Bool}{T:TypeId}{H':Hp}{K:Hp→Prop}(hu:cD b (.cells (dW l) T (0,0)) (.cells (dW (l.set i x)) T (0,0)) H H')(hi:i<l.length)(h:K H'):
  St 1 H (.pointer (some ⟨b,0+i*1,none⟩)) (.bool x) K:=
 St.one (c:=dW l) (c':=dW (l.set i x)) hu rfl (by simpa[dW]using hi) (by rw[Nat.zero_add,Nat.mul_one];exact Cb l i x) h
def GR(n:Nat)(L:List (List Nat)):List Tb:=L.map fun ws=>⟨n,ws⟩
theorem nV(n:Nat)(L:List (List Nat)):(GR n L).length=L.length:=by simp[GR]
theorem GN(L:List (List Nat)):(aj.ik L).length≤L.length:=by
 have:=aj.dr (fun a l=>aj.add l a) 1 (fun a l=>aj.gh l a) L []
 simpa[aj.ik]using this
theorem LW(n u:Nat)(L:List (List Nat)):(aj.given n L u).length≤2*L.length:=by
 have h:=aj.dr (fun t acc=>aj.add (aj.add acc (aj.eV n t u false)) (aj.eV n t u true)) 2 (fun a l=>by have h1:=aj.gh (aj.add l (aj.eV n a u false)) (aj.eV n a u true);have h2:=aj.gh l (aj.eV n a u false);omega) L []
 simpa[aj.given]using h
end Go.Proofs
namespace aC
open aj
theorem cX{x u v:Nat}{b c:Bool}(h:u≠v):aA (aA x u b) v c=aA (aA x v c) u b:=by
 apply Nat.eq_of_testBit_eq;intro k
 rw[ak,ak,ak,ak]
 by_cases e1:k=u<;>by_cases e2:k=v
 ·exact absurd (e1.symm.trans e2) h
 ·simp[e1,h]
 ·simp[e2,Ne.symm h]
 ·simp[e1,e2]
structure Nd where
 v:Nat
 lo:Nat
 hi:Nat
deriving DecidableEq
abbrev dQ:=Nat→Option Nd
abbrev Fn:=Nat→Bool
def live(N:dQ)(r:Nat):Prop:=r<2∨∃d,N r=some d
def dep(n:Nat)(ah:Nat→Nat)(N:dQ)(r:Nat):Nat:=match N r with|some d=>ah d.v|none=>n
structure WF(n:Nat)(ah:Nat→Nat)(N:dQ):Prop where
 two:∀{r d},N r=some d→2≤r
 var:∀{r d},N r=some d→d.v<n
 ne:∀{r d},N r=some d→d.lo≠d.hi
 lo:∀{r d},N r=some d→live N d.lo∧ah d.v<dep n ah N d.lo
 hi:∀{r d},N r=some d→live N d.hi∧ah d.v<dep n ah N d.hi
 uq:∀{r r' d},N r=some d→N r'=some d→r=r'
structure jR(n:Nat)(ah:Nat→Nat):Prop where
 lt:∀v,v<n→ah v<n
 inj:∀u v,u<n→v<n→ah u=ah v→u=v
structure Interp(N:dQ)(S:Nat→Fn):Prop where
 zero:∀x,S 0 x=false
 one:∀x,S 1 x=true
 node:∀{r d},N r=some d→∀x,S r x=if x.testBit d.v then S d.hi x else S d.lo x
variable {n:Nat} {ah:Nat→Nat} {N:dQ} {S:Nat→Fn}
theorem aW{r:Nat}(h:N r=none):dep n ah N r=n:=by unfold dep;rw[h]
theorem az{r:Nat}{d:Nd}(h:N r=some d):dep n ah N r=ah d.v:=by unfold dep;rw[h]
theorem WF.je(h:WF n ah N)(hl:jR n ah)(r:Nat):dep n ah N r≤n:=by
 cases e:N r with
 |none=>rw[aW e];exact Nat.le_refl _
 |some d=>rw[az e];exact Nat.le_of_lt (hl.lt _ (h.var e))
theorem WF.const(h:WF n ah N){r:Nat}(hr:r<2):N r=none:=by
 cases e:N r with
 |none=>rfl
 |some d=>have:=h.two e;omega
theorem WF.indep(h:WF n ah N)(hl:jR n ah)(hi:Interp N S):∀(k r:Nat),n-dep n ah N r≤k→live N r→∀v,v<n→ah v<dep n ah N r→∀x b,S r (aA x v b)=S r x:=by
 intro k
 induction k with
 |zero=>
  intro r hk hr v hv hlt x b
  rcases hr with hr|⟨d,hd⟩
  ·have:r=0∨r=1:=by omega
   rcases this with rfl|rfl
   ·rw[hi.zero,hi.zero]
   ·rw[hi.one,hi.one]
  ·have h1:=hl.lt _ (h.var hd)
   rw[az hd]at hk;omega
 |succ k ih=>
  intro r hk hr v hv hlt x b
  rcases hr with hr|⟨d,hd⟩
  ·have:r=0∨r=1:=by omega
   rcases this with rfl|rfl
   ·rw[hi.zero,hi.zero]
   ·rw[hi.one,hi.one]
  ·rw[az hd]at hk hlt
   have h1:=hl.lt _ (h.var hd)
   obtain⟨l1,l2⟩:=h.lo hd
   obtain⟨m1,m2⟩:=h.hi hd
   have hne:d.v≠v:=fun e=>by rw[e]at hlt;omega
   rw[hi.node hd,hi.node hd,ak,if_neg hne,ih d.lo (by omega) l1 v hv (by omega),ih d.hi (by omega) m1 v hv (by omega)]
theorem WF.bT(h:WF n ah N)(hl:jR n ah)(hi:Interp N S){r:Nat}(hr:live N r){v:Nat}(hv:v<n)(hlt:ah v<dep n ah N r)(x:Nat)(b:Bool):S r (aA x v b)=S r x:=
 h.indep hl hi _ r (Nat.le_refl _) hr v hv hlt x b
theorem WF.child(h:WF n ah N)(hl:jR n ah)(hi:Interp N S){r:Nat}{d:Nd}(hd:N r=some d)(x:Nat)(b:Bool):S r (aA x d.v b)=S (if b then d.hi else d.lo) x:=by
 obtain⟨l1,l2⟩:=h.lo hd
 obtain⟨m1,m2⟩:=h.hi hd
 rw[hi.node hd,ak,if_pos rfl]
 cases b
 ·simp only[Bool.false_eq_true,if_false];exact h.bT hl hi l1 (h.var hd) l2 x false
 ·simp only[if_true];exact h.bT hl hi m1 (h.var hd) m2 x true
theorem WF.canon(h:WF n ah N)(hl:jR n ah)(hi:Interp N S):∀(k r r':Nat),(n-dep n ah N r)+(n-dep n ah N r')≤k→live N r→live N r'→(∀x,S r x=S r' x)→r=r':=by
 intro k
 induction k with
 |zero=>
  intro r r' hk hr hr' he
  have hc:∀{r},n-dep n ah N r=0→live N r→r<2:=by
   intro r hk hr
   rcases hr with hr|⟨d,hd⟩
   ·exact hr
   ·have h1:=hl.lt _ (h.var hd)
    rw[az hd]at hk;omega
  have h1:=hc (by omega) hr
  have h2:=hc (by omega) hr'
  have e0:=he 0
  have:r=0∨r=1:=by omega
  have h3:r'=0∨r'=1:=by omega
  rcases this with rfl|rfl<;>rcases h3 with rfl|rfl<;>simp[hi.zero,hi.one]at e0<;>rfl
 |succ k ih=>
  have MM:∀r r',(n-dep n ah N r)+(n-dep n ah N r')≤k+1→live N r'→(∀x,S r x=S r' x)→∀d,N r=some d→ah d.v<dep n ah N r'→False:=by
   intro r r' hk hr' he d hd hlt
   obtain⟨l1,l2⟩:=h.lo hd
   obtain⟨m1,m2⟩:=h.hi hd
   have hv:=h.var hd
   have h1:=hl.lt _ hv
   have d1:=h.je hl d.lo
   have d2:=h.je hl d.hi
   have d3:=h.je hl r'
   rw[az hd]at hk
   have a1:d.lo=r':=ih d.lo r' (by omega) l1 hr' fun x=>by
    have:=h.child hl hi hd x false
    simp only[Bool.false_eq_true,if_false]at this
    rw[←this,he,h.bT hl hi hr' hv hlt]
   have a2:d.hi=r':=ih d.hi r' (by omega) m1 hr' fun x=>by
    have:=h.child hl hi hd x true
    simp only[if_true]at this
    rw[←this,he,h.bT hl hi hr' hv hlt]
   exact h.ne hd (a1.trans a2.symm)
  intro r r' hk hr hr' he
  rcases hr with hr|⟨d,hd⟩
  ·rcases hr' with hr'|⟨d',cN⟩
   ·have e0:=he 0
    have:r=0∨r=1:=by omega
    have h3:r'=0∨r'=1:=by omega
    rcases this with rfl|rfl<;>rcases h3 with rfl|rfl<;>simp[hi.zero,hi.one]at e0<;>rfl
   ·refine(MM r' r (by omega) (.inl hr) (fun x=>(he x).symm) d' cN ?_).elim
    rw[aW (h.const hr)];exact hl.lt _ (h.var cN)
  ·rcases Nat.lt_trichotomy (ah d.v) (dep n ah N r')with hlt|heq|hgt
   ·exact(MM r r' hk hr' he d hd hlt).elim
   ·rcases hr' with hr'|⟨d',cN⟩
    ·rw[aW (h.const hr')]at heq
     have:=hl.lt _ (h.var hd);omega
    ·rw[az cN]at heq
     have hv:=hl.inj _ _ (h.var hd) (h.var cN) heq
     obtain⟨l1,l2⟩:=h.lo hd
     obtain⟨m1,m2⟩:=h.hi hd
     obtain⟨RH,l2'⟩:=h.lo cN
     obtain⟨XF,m2'⟩:=h.hi cN
     have h1:=hl.lt _ (h.var hd)
     have d1:=h.je hl d.lo
     have d2:=h.je hl d.hi
     have d1':=h.je hl d'.lo
     have d2':=h.je hl d'.hi
     rw[az hd,az cN]at hk
     have c1:=fun x=>h.child hl hi hd x false
     have c2:=fun x=>h.child hl hi hd x true
     have c1':=fun x=>h.child hl hi cN x false
     have c2':=fun x=>h.child hl hi cN x true
     simp only[Bool.false_eq_true,if_false,if_true]at c1 c2 c1' c2'
     have a1:d.lo=d'.lo:=ih d.lo d'.lo (by omega) l1 RH fun x=>by rw[←c1,←c1',he,hv]
     have a2:d.hi=d'.hi:=ih d.hi d'.hi (by omega) m1 XF fun x=>by rw[←c2,←c2',he,hv]
     have:d=d':=by cases d;cases d';simp_all
     subst this
     exact h.uq hd cN
   ·rcases hr' with hr'|⟨d',cN⟩
    ·rw[aW (h.const hr')]at hgt
     have:=hl.lt _ (h.var hd);omega
    ·rw[az cN]at hgt
     refine(MM r' r (by omega) (.inr ⟨d,hd⟩) (fun x=>(he x).symm) d' cN ?_).elim
     rw[az hd];exact hgt
theorem WF.same(h:WF n ah N)(hl:jR n ah)(hi:Interp N S){r r':Nat}(hr:live N r)(hr':live N r')(he:∀x,S r x=S r' x):r=r':=h.canon hl hi _ r r' (Nat.le_refl _) hr hr' he
end aC
namespace aC
open aj
variable {n:Nat} {ah:Nat→Nat} {N:dQ} {S:Nat→Fn} {ord:List Nat}
def dm(g:Fn)(v:Nat):Prop:=∃x,g (aA x v false)≠g (aA x v true)
def fs(ord:List Nat)(F:Fn→Prop):Nat→Fn→Prop
 |0,g=>F g
 |l+1,g=>∃f,fs ord F l f∧∃b,g=fun x=>f (aA x (ord.getD l 0) b)
def aP(n:Nat)(ord:List Nat)(F:Fn→Prop)(g:Fn):Prop:=∃l,l<n∧fs ord F l g∧dm g (ord.getD l 0)
structure Ord(n:Nat)(ah:Nat→Nat)(ord:List Nat):Prop where
 len:ord.length=n
 aY:∀l,l<n→ord.getD l 0<n∧ah (ord.getD l 0)=l
theorem Ord.of(h:Ord n ah ord)(hl:jR n ah){v:Nat}(hv:v<n):ord.getD (ah v) 0=v:=by
 obtain⟨h1,h2⟩:=h.aY _ (hl.lt v hv)
 exact hl.inj _ _ h1 hv h2
def Fs(S:Nat→Fn)(R:Nat→Prop)(g:Fn):Prop:=∃r,R r∧g=S r
def A(N:dQ)(ah:Nat→Nat)(n:Nat)(R:Nat→Prop):Nat→Nat→Prop
 |0,r=>R r
 |l+1,r=>(A N ah n R l r∧dep n ah N r≠l)∨∃p d,A N ah n R l p∧N p=some d∧ah d.v=l∧(r=d.lo∨r=d.hi)
variable {R:Nat→Prop}
theorem qD(h:WF n ah N)(hR:∀r,R r→live N r):∀l r,A N ah n R l r→live N r∧l≤dep n ah N r
 |0,r,ha=>⟨hR r ha,Nat.zero_le _⟩
 |l+1,r,ha=>by
  rcases ha with⟨h1,h2⟩|⟨p,d,h1,h2,h3,h4⟩
  ·have:=qD h hR l r h1
   exact⟨this.1,by omega⟩
  ·rcases h4 with rfl|rfl
   ·have:=h.lo h2;exact⟨this.1,by omega⟩
   ·have:=h.hi h2;exact⟨this.1,by omega⟩
theorem Fl{r:Nat}:∀k l,A N ah n R l r→l+k≤dep n ah N r→A N ah n R (l+k) r
 |0,l,ha,_=>ha
 |k+1,l,ha,hk=>by
  have h1:=Fl k l ha (by omega)
  have h2:dep n ah N r≠l+k:=by omega
  exact .inl ⟨h1,h2⟩
def Reach(N:dQ)(R:Nat→Prop):Prop:=∀r d,N r=some d→R r∨∃p e,N p=some e∧(e.lo=r∨e.hi=r)
theorem Q4(h:WF n ah N)(hr:Reach N R):∀k r d,N r=some d→ah d.v≤k→A N ah n R (ah d.v) r:=by
 intro k
 induction k with
 |zero=>
  intro r d hd hk
  rcases hr r d hd with h1|⟨p,e,h1,h2⟩
  ·rw[show ah d.v=0 by omega];exact h1
  ·have:=h.lo h1
   have h3:=h.hi h1
   rcases h2 with rfl|rfl
   ·rw[az hd]at this;omega
   ·rw[az hd]at h3;omega
 |succ k ih=>
  intro r d hd hk
  rcases hr r d hd with h1|⟨p,e,h1,h2⟩
  ·have:=Fl (N:=N) (ah:=ah) (n:=n) (R:=R) (r:=r) (ah d.v) 0 h1 (by rw[az hd];omega)
   rwa [Nat.zero_add]at this
  ·have hlt:ah e.v<ah d.v:=by
    have:=h.lo h1
    have h3:=h.hi h1
    rcases h2 with rfl|rfl
    ·rw[az hd]at this;omega
    ·rw[az hd]at h3;omega
   have ha:=ih p e h1 (by omega)
   have hb:A N ah n R (ah e.v+1) r:=.inr ⟨p,e,ha,h1,rfl,by rcases h2 with rfl|rfl;exact .inl rfl;exact .inr rfl⟩
   have:=Fl (ah d.v-(ah e.v+1)) _ hb (by rw[az hd];omega)
   rwa [show ah e.v+1+(ah d.v-(ah e.v+1))=ah d.v by omega]at this
theorem Pj(h:WF n ah N)(hl:jR n ah)(ho:Ord n ah ord)(hi:Interp N S)(hR:∀r,R r→live N r):∀l,l≤n→∀g,fs ord (Fs S R) l g↔∃r,A N ah n R l r∧g=S r
 |0,_,g=>Iff.rfl
 |l+1,Lf,g=>by
  obtain⟨v1,v2⟩:=ho.aY l Lf
  have ih:=Pj h hl ho hi hR l (by omega)
  constructor
  ·rintro⟨f,hf,b,rfl⟩
   obtain⟨r,ha,rfl⟩:=(ih f).1 hf
   obtain⟨hlv,hle⟩:=qD h hR l r ha
   by_cases e:dep n ah N r=l
   ·rcases hlv with hc|⟨d,hd⟩
    ·rw[aW (h.const hc)]at e;omega
    ·rw[az hd]at e
     have hv:d.v=ord.getD l 0:=hl.inj _ _ (h.var hd) v1 (by omega)
     refine⟨if b then d.hi else d.lo,.inr ⟨r,d,ha,hd,e,by cases b<;>simp⟩,?_⟩
     funext x
     rw[←hv];exact h.child hl hi hd x b
   ·refine⟨r,.inl ⟨ha,e⟩,?_⟩
    funext x
    exact h.bT hl hi hlv v1 (by omega) x b
  ·rintro⟨r,ha,rfl⟩
   rcases ha with⟨h1,h2⟩|⟨p,d,h1,h2,h3,h4⟩
   ·obtain⟨hlv,hle⟩:=qD h hR l r h1
    refine⟨S r,(ih _).2 ⟨r,h1,rfl⟩,false,?_⟩
    funext x
    exact(h.bT hl hi hlv v1 (by omega) x false).symm
   ·have hv:d.v=ord.getD l 0:=hl.inj _ _ (h.var h2) v1 (by omega)
    rcases h4 with rfl|rfl
    ·refine⟨S p,(ih _).2 ⟨p,h1,rfl⟩,false,?_⟩
     funext x
     rw[←hv];exact(h.child hl hi h2 x false).symm
    ·refine⟨S p,(ih _).2 ⟨p,h1,rfl⟩,true,?_⟩
     funext x
     rw[←hv];exact(h.child hl hi h2 x true).symm
theorem lT(h:WF n ah N)(hl:jR n ah)(ho:Ord n ah ord)(hi:Interp N S)(hR:∀r,R r→live N r)(hr:Reach N R)(g:Fn):aP n ord (Fs S R) g↔∃r d,N r=some d∧g=S r:=by
 constructor
 ·rintro⟨l,Lf,hf,x,hx⟩
  obtain⟨v1,v2⟩:=ho.aY l Lf
  obtain⟨r,ha,rfl⟩:=(Pj h hl ho hi hR l (by omega) g).1 hf
  obtain⟨hlv,hle⟩:=qD h hR l r ha
  by_cases e:dep n ah N r=l
  ·rcases hlv with hc|⟨d,hd⟩
   ·rw[aW (h.const hc)]at e;omega
   ·exact⟨r,d,hd,rfl⟩
  ·exact absurd (by rw[h.bT hl hi hlv v1 (by omega),h.bT hl hi hlv v1 (by omega)]) hx
 ·rintro⟨r,d,hd,rfl⟩
  have hv:=h.var hd
  have hlt:=hl.lt _ hv
  refine⟨ah d.v,hlt,(Pj h hl ho hi hR _ (by omega) _).2 ⟨r,Q4 h hr _ r d hd (Nat.le_refl _),rfl⟩,?_⟩
  rw[ho.of hl hv]
  refine Classical.byContradiction fun hno=>h.ne hd (h.same hl hi (h.lo hd).1 (h.hi hd).1 fun x=>?_)
  have c1:=h.child hl hi hd x false
  have c2:=h.child hl hi hd x true
  simp only[Bool.false_eq_true,if_false,if_true]at c1 c2
  rw[←c1,←c2]
  exact Classical.byContradiction fun hne=>hno ⟨x,hne⟩
def qC(P:Fn→Prop)(k:Nat):Prop:=∃l:List Fn,l.Nodup∧l.length=k∧∀g,P g↔g∈l
theorem qC.congr{P Q:Fn→Prop}{k:Nat}(h:qC P k)(e:∀g,P g↔Q g):qC Q k:=let ⟨l,h1,h2,h3⟩:=h;⟨l,h1,h2,fun g=>(e g).symm.trans (h3 g)⟩
theorem cf{α:Type}:∀{l l':List α},l.Nodup→(∀x∈l,x∈l')→l.length≤l'.length
 | [],l',_,_=>Nat.zero_le _
 |x::l,l',hn,hs=>by
  obtain⟨h1,h2⟩:=List.nodup_cons.1 hn
  obtain⟨a,b,rfl⟩:=List.append_of_mem (hs x (by simp))
  have:=cf (l':=a++b) h2 fun y hy=>by
   have:=hs y (by simp[hy])
   rcases List.mem_append.1 this with h|h
   ·exact List.mem_append_left _ h
   ·rcases List.mem_cons.1 h with rfl|h
    ·exact absurd hy h1
    ·exact List.mem_append_right _ h
  simp at this⊢;omega
theorem qC.le{P Q:Fn→Prop}{k k':Nat}(h:qC P k)(h':qC Q k')(e:∀g,P g→Q g):k≤k':=by
 obtain⟨l,h1,h2,h3⟩:=h
 obtain⟨l',zC,me,yb⟩:=h'
 rw[←h2,←me]
 exact cf h1 fun x hx=>(yb x).1 (e x ((h3 x).2 hx))
theorem qC.uniq{P:Fn→Prop}{k k':Nat}(h:qC P k)(h':qC P k'):k=k':=Nat.le_antisymm (h.le h' fun _=>id) (h'.le h fun _=>id)
theorem qC.or{P Q:Fn→Prop}{k k':Nat}(h:qC P k)(h':qC Q k')(e:∀g,P g→¬Q g):qC (fun g=>P g∨Q g) (k+k'):=by
 obtain⟨l,h1,h2,h3⟩:=h
 obtain⟨l',zC,me,yb⟩:=h'
 refine⟨l++l',List.nodup_append.2 ⟨h1,zC,fun a ha b hb e'=>?_⟩,by rw[List.length_append,h2,me],fun g=>by rw[List.mem_append,←h3,←yb]⟩
 subst e'
 exact e a ((h3 a).2 ha) ((yb a).2 hb)
theorem wc(h:WF n ah N)(hl:jR n ah)(hi:Interp N S){dom:List Nat}(hd:dom.Nodup)(hm:∀r,r∈dom↔∃d,N r=some d):qC (fun g=>∃r d,N r=some d∧g=S r) dom.length:=by
 refine⟨dom.map S,?_,by simp,fun g=>?_⟩
 ·refine List.pairwise_map.2 (hd.imp_of_mem fun{a b} ha hb hne heq=>hne ?_)
  exact h.same hl hi (.inr ((hm a).1 ha)) (.inr ((hm b).1 hb)) fun x=>by rw[heq]
 ·rw[List.mem_map]
  constructor
  ·rintro⟨r,d,h1,rfl⟩;exact⟨r,(hm r).2 ⟨d,h1⟩,rfl⟩
  ·rintro⟨r,h1,rfl⟩;obtain⟨d,h2⟩:=(hm r).1 h1;exact⟨r,d,h2,rfl⟩
end aC
namespace aC
open aj
def up{α:Type}(N:Nat→α)(r:Nat)(o:α):Nat→α:=fun s=>if s=r then o else N s
@[simp] theorem aI{α:Type}{N:Nat→α}{r:Nat}{o:α}:up N r o r=o:=if_pos rfl
theorem aL{α:Type}{N:Nat→α}{r s:Nat}{o:α}(h:s≠r):up N r o s=N s:=if_neg h
def oJ(T:Nd→Option Nat)(d:Nd)(o:Option Nat):Nd→Option Nat:=fun e=>if e=d then o else T e
@[simp] theorem ij{T:Nd→Option Nat}{d:Nd}{o:Option Nat}:oJ T d o d=o:=if_pos rfl
theorem nT{T:Nd→Option Nat}{d e:Nd}{o:Option Nat}(h:e≠d):oJ T d o e=T e:=if_neg h
def e1:Option Nd→Nat→Nat
 |none,_=>0
 |some d,r=>(if d.lo=r then 1 else 0)+(if d.hi=r then 1 else 0)
theorem dD(d:Nd)(r:Nat):e1 (some d) r=(if d.lo=r then 1 else 0)+(if d.hi=r then 1 else 0):=rfl
def cK(N:dQ)(r:Nat):Nat→Nat
 |0=>0
 |k+1=>cK N r k+e1 (N k) r
def kY(N:dQ):Nat→Nat
 |0=>0
 |k+1=>kY N k+(if(N k).isSome then 1 else 0)
theorem vZ{N:dQ}{s r:Nat}{o:Option Nd}:∀{k},(s<k→cK (up N s o) r k+e1 (N s) r=cK N r k+e1 o r)∧(k≤s→cK (up N s o) r k=cK N r k)
 |0=>⟨fun h=>by omega,fun _=>rfl⟩
 |k+1=>by
  obtain⟨i1,i2⟩:=vZ (N:=N) (s:=s) (r:=r) (o:=o) (k:=k)
  refine⟨fun h=>?_,fun h=>?_⟩
  ·rw[cK,cK]
   by_cases e:s=k
   ·subst e;rw[aI,i2 (Nat.le_refl _)];omega
   ·have:=i1 (by omega);rw[aL (fun h=>e h.symm)];omega
  ·rw[cK,cK,i2 (by omega),aL (by omega)]
theorem tt{N:dQ}{s r k:Nat}{o:Option Nd}(h:s<k):cK (up N s o) r k+e1 (N s) r=cK N r k+e1 o r:=vZ.1 h
theorem pK{N:dQ}{s:Nat}{o:Option Nd}:∀{k},(s<k→kY (up N s o) k+(if(N s).isSome then 1 else 0)=kY N k+(if o.isSome then 1 else 0))∧(k≤s→kY (up N s o) k=kY N k)
 |0=>⟨fun h=>by omega,fun _=>rfl⟩
 |k+1=>by
  obtain⟨i1,i2⟩:=pK (N:=N) (s:=s) (o:=o) (k:=k)
  refine⟨fun h=>?_,fun h=>?_⟩
  ·rw[kY,kY]
   by_cases e:s=k
   ·subst e;rw[aI,i2 (Nat.le_refl _)];omega
   ·have:=i1 (by omega);rw[aL (fun h=>e h.symm)];omega
  ·rw[kY,kY,i2 (by omega),aL (by omega)]
theorem iF{N:dQ}{r:Nat}:∀{k},cK N r k=0→∀s,s<k→∀d,N s=some d→d.lo≠r∧d.hi≠r
 |0,_,s,hs,_,_=>by omega
 |k+1,h,s,hs,d,hd=>by
  rw[cK]at h
  by_cases e:s=k
  ·subst e
   rw[hd,dD]at h
   constructor
   ·intro h1;rw[if_pos h1]at h;omega
   ·intro h1;rw[if_pos h1]at h;omega
  ·exact iF (k:=k) (by omega) s (by omega) d hd
theorem qu{N:dQ}{r:Nat}:∀{k},0<cK N r k→∃s d,s<k∧N s=some d∧(d.lo=r∨d.hi=r)
 |0,h=>by simp[cK]at h
 |k+1,h=>by
  rw[cK]at h
  by_cases hk:0<cK N r k
  ·obtain⟨s,d,h1,h2,h3⟩:=qu hk;exact⟨s,d,by omega,h2,h3⟩
  ·cases hd:N k with
   |none=>rw[hd]at h;simp[e1]at h;omega
   |some d=>
    refine⟨k,d,by omega,hd,?_⟩
    rw[hd,dD]at h
    by_cases h1:d.lo=r
    ·exact .inl h1
    ·by_cases h2:d.hi=r
     ·exact .inr h2
     ·rw[if_neg h1,if_neg h2]at h;omega
theorem zV{N:dQ}{r:Nat}:∀k,cK N r k≤2*k
 |0=>Nat.le_refl _
 |k+1=>by
  have:=zV (N:=N) (r:=r) k
  rw[cK]
  have:e1 (N k) r≤2:=by
   cases N k with
   |none=>simp[e1]
   |some d=>rw[dD];split<;>split<;>omega
  omega
theorem z8(N:dQ):∀k,((List.range k).filter fun r=>(N r).isSome).length=kY N k
 |0=>rfl
 |k+1=>by
  rw[List.range_succ,List.filter_append,List.length_append,z8 N k,kY]
  congr 1
  cases h:N k<;>simp[h]
structure Kd where
 n:Nat
 cap:Nat
 used:Nat
 N:dQ
 T:Nd→Option Nat
 us:List Nat
 ho:List Nat
def Kd.hold(K:Kd)(r:Nat):Nat:=K.ho.getD r 0
def Kd.use(K:Kd)(r:Nat):Nat:=K.us.getD r 0
structure ig(K:Kd)(S:Nat→Fn)(E:Nat→Prop)(P:Nat→Nat):Prop where
 two:∀{r d},K.N r=some d→2≤r∧r<K.cap
 var:∀{r d},K.N r=some d→d.v<K.n
 ne:∀{r d},K.N r=some d→d.lo≠d.hi
 lo:∀{r d},K.N r=some d→live K.N d.lo
 hi:∀{r d},K.N r=some d→live K.N d.hi
 int:Interp K.N S
 g8:∀d r,K.T d=some r↔K.N r=some d∧¬E r
 use:∀{r d},K.N r=some d→K.use r=cK K.N r K.cap+(if K.hold r=0 then 0 else 1)+P r
 len:K.us.length=K.ho.length
 fit:∀{r d},K.N r=some d→r<K.us.length
 held:∀r,K.hold r≠0→∃d,K.N r=some d
 mx:∀r,K.hold r≤65535
 room:K.used=2+kY K.N K.cap
 cap:K.used≤K.cap∧K.cap≤1048576
variable {K:Kd} {S:Nat→Fn} {E:Nat→Prop} {P:Nat→Nat}
theorem iQ{N:dQ}{r s:Nat}{d:Nd}(h:live N s):live (up N r (some d)) s:=by
 rcases h with h|⟨e,h⟩
 ·exact .inl h
 ·by_cases e2:s=r
  ·subst e2;exact .inr ⟨d,aI⟩
  ·exact .inr ⟨e,by rw[aL e2];exact h⟩
theorem vw{N:dQ}{r s:Nat}(h:live N s)(hne:s≠r):live (up N r none) s:=by
 rcases h with h|⟨e,h⟩
 ·exact .inl h
 ·exact .inr ⟨e,by rw[aL hne];exact h⟩
def Pos(K:Kd):Prop:=∀r d,K.N r=some d→0<K.use r
theorem ig.less(h:ig K S E P){r:Nat}{cT:List Nat}(hP:0<P r)(hl:cT.length=K.us.length)(h1:cT.getD r 0+1=K.use r)(h2:∀s,s≠r→cT.getD s 0=K.use s):
  ig {K with us:=cT} S E (up P r (P r-1)) where
 two:=h.two
 var:=h.var
 ne:=h.ne
 lo:=h.lo
 hi:=h.hi
 int:=h.int
 g8:=h.g8
 use:=fun{s d} hd=>by
  have:=h.use hd
  show cT.getD s 0=cK K.N s K.cap+(if K.hold s=0 then 0 else 1)+up P r (P r-1) s
  by_cases e:s=r
  ·subst e
   rw[aI]
   omega
  ·rw[h2 s e,aL e];exact this
 len:=by show cT.length=_;rw[hl];exact h.len
 fit:=fun{s d} hd=>by show s<cT.length;rw[hl];exact h.fit hd
 held:=h.held
 mx:=h.mx
 room:=h.room
 cap:=h.cap
theorem ig.free(h:ig K S E P){r:Nat}{d:Nd}(hd:K.N r=some d)(hE:¬E r)(h0:K.use r=0):
  ig {K with N:=up K.N r none,T:=oJ K.T d none,used:=K.used-1} S E (fun s=>P s+e1 (some d) s) where
 two:=fun{s e} hs=>by
  have hs':up K.N r none s=some e:=hs
  by_cases e2:s=r
  ·subst e2;rw[aI]at hs';cases hs'
  ·rw[aL e2]at hs';exact h.two hs'
 var:=fun{s e} hs=>by
  have hs':up K.N r none s=some e:=hs
  by_cases e2:s=r
  ·subst e2;rw[aI]at hs';cases hs'
  ·rw[aL e2]at hs';exact h.var hs'
 ne:=fun{s e} hs=>by
  have hs':up K.N r none s=some e:=hs
  by_cases e2:s=r
  ·subst e2;rw[aI]at hs';cases hs'
  ·rw[aL e2]at hs';exact h.ne hs'
 lo:=fun{s e} hs=>by
  have hs':up K.N r none s=some e:=hs
  by_cases e2:s=r
  ·subst e2;rw[aI]at hs';cases hs'
  ·rw[aL e2]at hs'
   have hu:=h.use hd
   exact vw (h.lo hs') (iF (by omega) s (h.two hs').2 e hs').1
 hi:=fun{s e} hs=>by
  have hs':up K.N r none s=some e:=hs
  by_cases e2:s=r
  ·subst e2;rw[aI]at hs';cases hs'
  ·rw[aL e2]at hs'
   have hu:=h.use hd
   exact vw (h.hi hs') (iF (by omega) s (h.two hs').2 e hs').2
 int:=⟨h.int.zero,h.int.one,fun{s e} hs x=>by
  have hs':up K.N r none s=some e:=hs
  by_cases e2:s=r
  ·subst e2;rw[aI]at hs';cases hs'
  ·rw[aL e2]at hs';exact h.int.node hs' x⟩
 g8:=fun e s=>by
  show oJ K.T d none e=some s↔up K.N r none s=some e∧_
  by_cases e2:e=d
  ·subst e2
   rw[ij]
   constructor
   ·intro h;cases h
   ·rintro⟨h1,h2⟩
    by_cases e3:s=r
    ·subst e3;rw[aI]at h1;cases h1
    ·rw[aL e3]at h1
     have a:=(h.g8 e s).2 ⟨h1,h2⟩
     have b:=(h.g8 e r).2 ⟨hd,hE⟩
     rw[a]at b;cases b;exact absurd rfl e3
  ·rw[nT e2,h.g8]
   by_cases e3:s=r
   ·subst e3
    rw[aI]
    constructor
    ·rintro⟨h1,_⟩;rw[hd]at h1;cases h1;exact absurd rfl e2
    ·rintro⟨h1,_⟩;cases h1
   ·rw[aL e3]
 use:=fun{s e} hs=>by
  have hs':up K.N r none s=some e:=hs
  by_cases e2:s=r
  ·subst e2;rw[aI]at hs';cases hs'
  ·rw[aL e2]at hs'
   have hu:=h.use hs'
   have he:=tt (N:=K.N) (s:=r) (r:=s) (k:=K.cap) (o:=none) (h.two hd).2
   show K.use s=cK (up K.N r none) s K.cap+(if K.hold s=0 then 0 else 1)+(P s+e1 (some d) s)
   rw[hd]at he
   have:e1 none s=0:=rfl
   omega
 len:=h.len
 fit:=fun{s e} hs=>by
  have hs':up K.N r none s=some e:=hs
  by_cases e2:s=r
  ·subst e2;rw[aI]at hs';cases hs'
  ·rw[aL e2]at hs';exact h.fit hs'
 held:=fun s hs=>by
  obtain⟨e,he⟩:=h.held s hs
  have hne:s≠r:=fun e2=>by
   subst e2
   have hu:=h.use hd
   have hs':K.hold s≠0:=hs
   rw[if_neg hs']at hu;omega
  exact⟨e,by show up K.N r none s=_;rw[aL hne];exact he⟩
 mx:=h.mx
 room:=by
  have:=(pK (N:=K.N) (s:=r) (o:=none) (k:=K.cap)).1 (h.two hd).2
  have hr:=h.room
  rw[hd]at this
  show K.used-1=2+kY (up K.N r none) K.cap
  simp at this;omega
 cap:=⟨by have:=h.cap.1;show K.used-1≤K.cap;omega,h.cap.2⟩
theorem ig.more(h:ig K S E P){r:Nat}{cT:List Nat}(hl:cT.length=K.us.length)(h1:cT.getD r 0=K.use r+1)(h2:∀s,s≠r→cT.getD s 0=K.use s):
  ig {K with us:=cT} S E (up P r (P r+1)) where
 two:=h.two
 var:=h.var
 ne:=h.ne
 lo:=h.lo
 hi:=h.hi
 int:=h.int
 g8:=h.g8
 use:=fun{s d} hd=>by
  have:=h.use hd
  show cT.getD s 0=cK K.N s K.cap+(if K.hold s=0 then 0 else 1)+up P r (P r+1) s
  by_cases e:s=r
  ·subst e
   rw[aI]
   omega
  ·rw[h2 s e,aL e];exact this
 len:=by show cT.length=_;rw[hl];exact h.len
 fit:=fun{s d} hd=>by show s<cT.length;rw[hl];exact h.fit hd
 held:=h.held
 mx:=h.mx
 room:=h.room
 cap:=h.cap
end aC
namespace aC
open aj
variable {K:Kd} {S:Nat→Fn} {E:Nat→Prop} {P:Nat→Nat}
def ite(S:Nat→Fn)(d:Nd):Fn:=fun x=>if x.testBit d.v then S d.hi x else S d.lo x
theorem e9{N:dQ}{r s:Nat}(h:live N s)(h2:2≤r)(hr:N r=none):s≠r:=fun e=>by
 subst e
 rcases h with h|⟨d,h⟩
 ·omega
 ·rw[hr]at h;cases h
theorem ig.lay(h:ig K S E P){r:Nat}{d:Nd}{cT cj:List Nat}(hr:K.N r=none)(h2:2≤r∧r<K.cap)(hv:d.v<K.n)(hne:d.lo≠d.hi)(hlo:live K.N d.lo)(hhi:live K.N d.hi)(hT:K.T d=none)(hE:¬E r)
 (hP:P r=0)(hro:K.used<K.cap)(hl:cT.length=cj.length)(hf:r<cT.length∧K.us.length≤cT.length)(u0:cT.getD r 0=0)(u1:∀s,2≤s→s≠r→cT.getD s 0=K.use s+e1 (some d) s)(o0:cj.getD r 0=0)(o1:∀s,s≠r→cj.getD s 0=K.hold s):
  ig {K with N:=up K.N r (some d),T:=oJ K.T d (some r),used:=K.used+1,us:=cT,ho:=cj} (up S r (ite S d)) E P where
 two:=fun{s e} hs=>by
  have hs':up K.N r (some d) s=some e:=hs
  by_cases e2:s=r
  ·subst e2;exact h2
  ·rw[aL e2]at hs';exact h.two hs'
 var:=fun{s e} hs=>by
  have hs':up K.N r (some d) s=some e:=hs
  by_cases e2:s=r
  ·subst e2;rw[aI]at hs';cases hs';exact hv
  ·rw[aL e2]at hs';exact h.var hs'
 ne:=fun{s e} hs=>by
  have hs':up K.N r (some d) s=some e:=hs
  by_cases e2:s=r
  ·subst e2;rw[aI]at hs';cases hs';exact hne
  ·rw[aL e2]at hs';exact h.ne hs'
 lo:=fun{s e} hs=>by
  have hs':up K.N r (some d) s=some e:=hs
  by_cases e2:s=r
  ·subst e2;rw[aI]at hs';cases hs';exact iQ hlo
  ·rw[aL e2]at hs';exact iQ (h.lo hs')
 hi:=fun{s e} hs=>by
  have hs':up K.N r (some d) s=some e:=hs
  by_cases e2:s=r
  ·subst e2;rw[aI]at hs';cases hs';exact iQ hhi
  ·rw[aL e2]at hs';exact iQ (h.hi hs')
 int:=⟨fun x=>by rw[aL (by omega)];exact h.int.zero x,fun x=>by rw[aL (by omega)];exact h.int.one x,fun{s e} hs x=>by
  have hs':up K.N r (some d) s=some e:=hs
  by_cases e2:s=r
  ·subst e2;rw[aI]at hs';cases hs'
   rw[aI,aL (e9 hlo h2.1 hr),aL (e9 hhi h2.1 hr)];rfl
  ·rw[aL e2]at hs'
   rw[aL e2,aL (e9 (h.lo hs') h2.1 hr),aL (e9 (h.hi hs') h2.1 hr)]
   exact h.int.node hs' x⟩
 g8:=fun e s=>by
  show oJ K.T d (some r) e=some s↔up K.N r (some d) s=some e∧_
  by_cases e2:e=d
  ·subst e2
   rw[ij]
   constructor
   ·intro h;cases h;exact⟨aI,hE⟩
   ·rintro⟨h1,me⟩
    by_cases e3:s=r
    ·rw[e3]
    ·rw[aL e3]at h1
     have a:=(h.g8 e s).2 ⟨h1,me⟩
     rw[hT]at a;cases a
  ·rw[nT e2,h.g8]
   by_cases e3:s=r
   ·subst e3
    rw[aI,hr]
    constructor
    ·rintro⟨h1,_⟩;cases h1
    ·rintro⟨h1,_⟩;cases h1;exact absurd rfl e2
   ·rw[aL e3]
 use:=fun{s e} hs=>by
  have hs':up K.N r (some d) s=some e:=hs
  have he:=tt (N:=K.N) (s:=r) (r:=s) (k:=K.cap) (o:=some d) h2.2
  rw[hr]at he
  have h0:e1 none s=0:=rfl
  show cT.getD s 0=cK (up K.N r (some d)) s K.cap+(if cj.getD s 0=0 then 0 else 1)+P s
  by_cases e2:s=r
  ·subst e2
   have hz:cK K.N s K.cap=0:=by
    refine Nat.eq_zero_of_not_pos fun hp=>?_
    obtain⟨t,e',_,ht,hc⟩:=qu hp
    have AE:=e9 (h.lo ht) h2.1 hr
    have qQ:=e9 (h.hi ht) h2.1 hr
    rcases hc with hc|hc
    ·exact AE hc
    ·exact qQ hc
   have hd0:e1 (some d) s=0:=by
    rw[dD,if_neg (e9 hlo h2.1 hr),if_neg (e9 hhi h2.1 hr)]
   rw[u0,o0,if_pos rfl];omega
  ·rw[aL e2]at hs'
   have hu:=h.use hs'
   have h3:cj.getD s 0=K.hold s:=o1 s e2
   rw[u1 s (h.two hs').1 e2,h3];omega
 len:=hl
 fit:=fun{s e} hs=>by
  have hs':up K.N r (some d) s=some e:=hs
  show s<cT.length
  by_cases e2:s=r
  ·subst e2;exact hf.1
  ·rw[aL e2]at hs';exact Nat.lt_of_lt_of_le (h.fit hs') hf.2
 held:=fun s hs=>by
  have hs':cj.getD s 0≠0:=hs
  by_cases e2:s=r
  ·subst e2;exact⟨d,aI⟩
  ·rw[o1 s e2]at hs'
   obtain⟨e,he⟩:=h.held s hs'
   exact⟨e,by show up K.N r (some d) s=_;rw[aL e2];exact he⟩
 mx:=fun s=>by
  show cj.getD s 0≤65535
  by_cases e2:s=r
  ·subst e2;rw[o0];decide
  ·rw[o1 s e2];exact h.mx s
 room:=by
  have:=(pK (N:=K.N) (s:=r) (o:=some d) (k:=K.cap)).1 h2.2
  have hr':=h.room
  rw[hr]at this
  show K.used+1=2+kY (up K.N r (some d)) K.cap
  simp at this;omega
 cap:=⟨by show K.used+1≤K.cap;omega,h.cap.2⟩
theorem ig.Yp(h:ig K S E P){r:Nat}{d:Nd}(hd:K.N r=some d)(hE:¬E r):ig {K with T:=oJ K.T d none} S (fun s=>E s∨s=r) P where
 two:=h.two
 var:=h.var
 ne:=h.ne
 lo:=h.lo
 hi:=h.hi
 int:=h.int
 g8:=fun e s=>by
  show oJ K.T d none e=some s↔_
  by_cases e2:e=d
  ·subst e2
   rw[ij]
   constructor
   ·intro h;cases h
   ·rintro⟨h1,h2⟩
    have a:=(h.g8 e s).2 ⟨h1,fun x=>h2 (.inl x)⟩
    have b:=(h.g8 e r).2 ⟨hd,hE⟩
    rw[a]at b;cases b;exact absurd (.inr rfl) h2
  ·rw[nT e2,h.g8]
   constructor
   ·rintro⟨h1,h2⟩
    refine⟨h1,fun x=>?_⟩
    rcases x with x|rfl
    ·exact h2 x
    ·have zC:K.N s=some e:=h1
     rw[hd]at zC;cases zC;exact e2 rfl
   ·rintro⟨h1,h2⟩;exact⟨h1,fun x=>h2 (.inl x)⟩
 use:=h.use
 len:=h.len
 fit:=h.fit
 held:=h.held
 mx:=h.mx
 room:=h.room
 cap:=h.cap
theorem ig.wG(h:ig K S E P){r:Nat}{d d':Nd}{P':Nat→Nat}(hd:K.N r=some d)(hE:E r)(hv:d'.v<K.n)(hne:d'.lo≠d'.hi)(hlo:live K.N d'.lo)(hhi:live K.N d'.hi)(hT:K.T d'=none)(hS:∀x,S r x=ite S d' x)
 (hP:∀s,2≤s→P' s+e1 (some d') s=P s+e1 (some d) s):ig {K with N:=up K.N r (some d'),T:=oJ K.T d' (some r)} S (fun s=>E s∧s≠r) P' where
 two:=fun{s e} hs=>by
  have hs':up K.N r (some d') s=some e:=hs
  by_cases e2:s=r
  ·subst e2;exact h.two hd
  ·rw[aL e2]at hs';exact h.two hs'
 var:=fun{s e} hs=>by
  have hs':up K.N r (some d') s=some e:=hs
  by_cases e2:s=r
  ·subst e2;rw[aI]at hs';cases hs';exact hv
  ·rw[aL e2]at hs';exact h.var hs'
 ne:=fun{s e} hs=>by
  have hs':up K.N r (some d') s=some e:=hs
  by_cases e2:s=r
  ·subst e2;rw[aI]at hs';cases hs';exact hne
  ·rw[aL e2]at hs';exact h.ne hs'
 lo:=fun{s e} hs=>by
  have hs':up K.N r (some d') s=some e:=hs
  by_cases e2:s=r
  ·subst e2;rw[aI]at hs';cases hs';exact iQ hlo
  ·rw[aL e2]at hs';exact iQ (h.lo hs')
 hi:=fun{s e} hs=>by
  have hs':up K.N r (some d') s=some e:=hs
  by_cases e2:s=r
  ·subst e2;rw[aI]at hs';cases hs';exact iQ hhi
  ·rw[aL e2]at hs';exact iQ (h.hi hs')
 int:=⟨h.int.zero,h.int.one,fun{s e} hs x=>by
  have hs':up K.N r (some d') s=some e:=hs
  by_cases e2:s=r
  ·subst e2;rw[aI]at hs';cases hs';exact hS x
  ·rw[aL e2]at hs';exact h.int.node hs' x⟩
 g8:=fun e s=>by
  show oJ K.T d' (some r) e=some s↔up K.N r (some d') s=some e∧¬(E s∧s≠r)
  by_cases e2:e=d'
  ·subst e2
   rw[ij]
   constructor
   ·intro h;cases h;exact⟨aI,fun x=>x.2 rfl⟩
   ·rintro⟨h1,me⟩
    by_cases e3:s=r
    ·rw[e3]
    ·rw[aL e3]at h1
     have a:=(h.g8 e s).2 ⟨h1,fun x=>me ⟨x,e3⟩⟩
     rw[hT]at a;cases a
  ·rw[nT e2,h.g8]
   by_cases e3:s=r
   ·subst e3
    rw[aI]
    constructor
    ·rintro⟨_,h1⟩;exact absurd hE h1
    ·rintro⟨h1,_⟩;cases h1;exact absurd rfl e2
   ·rw[aL e3]
    constructor
    ·rintro⟨h1,h2⟩;exact⟨h1,fun x=>h2 x.1⟩
    ·rintro⟨h1,h2⟩;exact⟨h1,fun x=>h2 ⟨x,e3⟩⟩
 use:=fun{s e} hs=>by
  have hs':up K.N r (some d') s=some e:=hs
  have he:=tt (N:=K.N) (s:=r) (r:=s) (k:=K.cap) (o:=some d') (h.two hd).2
  rw[hd]at he
  show K.use s=cK (up K.N r (some d')) s K.cap+(if K.hold s=0 then 0 else 1)+P' s
  by_cases e2:s=r
  ·subst e2
   have hu:=h.use hd
   have:=hP s (h.two hd).1
   omega
  ·rw[aL e2]at hs'
   have hu:=h.use hs'
   have:=hP s (h.two hs').1
   omega
 len:=h.len
 fit:=fun{s e} hs=>by
  have hs':up K.N r (some d') s=some e:=hs
  by_cases e2:s=r
  ·subst e2;exact h.fit hd
  ·rw[aL e2]at hs';exact h.fit hs'
 held:=fun s hs=>by
  obtain⟨e,he⟩:=h.held s hs
  by_cases e2:s=r
  ·subst e2;exact⟨d',aI⟩
  ·exact⟨e,by show up K.N r (some d') s=_;rw[aL e2];exact he⟩
 mx:=h.mx
 room:=by
  have:=(pK (N:=K.N) (s:=r) (o:=some d') (k:=K.cap)).1 (h.two hd).2
  have hr':=h.room
  rw[hd]at this
  show K.used=2+kY (up K.N r (some d')) K.cap
  simp at this;omega
 cap:=h.cap
theorem ig.keep(h:ig K S E P){r:Nat}{cT cj:List Nat}(hr:∃d,K.N r=some d)(hm:K.hold r<65535)(hl:cT.length=K.us.length∧cj.length=K.ho.length)(o0:cj.getD r 0=K.hold r+1)(o1:∀s,s≠r→cj.getD s 0=K.hold s)
 (u0:cT.getD r 0=K.use r+(if K.hold r=0 then 1 else 0))(u1:∀s,s≠r→cT.getD s 0=K.use s):ig {K with us:=cT,ho:=cj} S E P where
 two:=h.two
 var:=h.var
 ne:=h.ne
 lo:=h.lo
 hi:=h.hi
 int:=h.int
 g8:=h.g8
 use:=fun{s e} hs=>by
  have hu:=h.use hs
  show cT.getD s 0=cK K.N s K.cap+(if cj.getD s 0=0 then 0 else 1)+P s
  by_cases e2:s=r
  ·subst e2
   rw[u0,o0,if_neg (by omega:¬K.hold s+1=0)]
   by_cases e3:K.hold s=0
   ·rw[if_pos e3]at hu⊢;omega
   ·rw[if_neg e3]at hu⊢;omega
  ·rw[u1 s e2,o1 s e2];exact hu
 len:=by show cT.length=cj.length;rw[hl.1,hl.2];exact h.len
 fit:=fun{s e} hs=>by show s<cT.length;rw[hl.1];exact h.fit hs
 held:=fun s hs=>by
  have hs':cj.getD s 0≠0:=hs
  by_cases e2:s=r
  ·subst e2;exact hr
  ·rw[o1 s e2]at hs';exact h.held s hs'
 mx:=fun s=>by
  show cj.getD s 0≤65535
  by_cases e2:s=r
  ·subst e2;rw[o0];omega
  ·rw[o1 s e2];exact h.mx s
 room:=h.room
 cap:=h.cap
theorem ig.drop(h:ig K S E P){r:Nat}{cj:List Nat}(hr:0<K.hold r)(hl:cj.length=K.ho.length)(o0:cj.getD r 0+1=K.hold r)(o1:∀s,s≠r→cj.getD s 0=K.hold s):
  ig {K with ho:=cj} S E (if K.hold r=1 then up P r (P r+1)else P) where
 two:=h.two
 var:=h.var
 ne:=h.ne
 lo:=h.lo
 hi:=h.hi
 int:=h.int
 g8:=h.g8
 use:=fun{s e} hs=>by
  have hu:=h.use hs
  show K.use s=cK K.N s K.cap+(if cj.getD s 0=0 then 0 else 1)+(if K.hold r=1 then up P r (P r+1)else P) s
  by_cases e2:s=r
  ·subst e2
   rw[if_neg (by omega:¬K.hold s=0)]at hu
   by_cases e3:K.hold s=1
   ·rw[if_pos e3,aI,if_pos (by omega)];omega
   ·rw[if_neg e3,if_neg (by omega)];omega
  ·rw[o1 s e2]
   by_cases e3:K.hold r=1
   ·rw[if_pos e3,aL e2];exact hu
   ·rw[if_neg e3];exact hu
 len:=by show K.us.length=cj.length;rw[hl];exact h.len
 fit:=h.fit
 held:=fun s hs=>by
  have hs':cj.getD s 0≠0:=hs
  by_cases e2:s=r
  ·subst e2;exact h.held s (by omega)
  ·rw[o1 s e2]at hs';exact h.held s hs'
 mx:=fun s=>by
  show cj.getD s 0≤65535
  have:=h.mx r
  by_cases e2:s=r
  ·subst e2;omega
  ·rw[o1 s e2];exact h.mx s
 room:=h.room
 cap:=h.cap
theorem ig.congr(h:ig K S E P){E':Nat→Prop}{P':Nat→Nat}(hE:∀s,E s↔E' s)(hP:∀s,2≤s→P s=P' s):ig K S E' P' where
 two:=h.two
 var:=h.var
 ne:=h.ne
 lo:=h.lo
 hi:=h.hi
 int:=h.int
 g8:=fun d r=>by rw[h.g8,hE]
 use:=fun{s e} hs=>by rw[←hP s (h.two hs).1];exact h.use hs
 len:=h.len
 fit:=h.fit
 held:=h.held
 mx:=h.mx
 room:=h.room
 cap:=h.cap
def gv:Nat→Prop:=fun _=>False
def zero':Nat→Nat:=fun _=>0
structure Ok(K:Kd)(S:Nat→Fn)(ah:Nat→Nat):Prop where
 mid:ig K S gv zero'
 pos:Pos K
 lv:jR K.n ah
 wf:WF K.n ah K.N
theorem ig.uq(h:ig K S gv P){r r':Nat}{d:Nd}(h1:K.N r=some d)(h2:K.N r'=some d):r=r':=by
 have a:=(h.g8 d r).2 ⟨h1,fun x=>x⟩
 have b:=(h.g8 d r').2 ⟨h2,fun x=>x⟩
 rw[a]at b;cases b;rfl
theorem ig.wf(h:ig K S gv P){ah:Nat→Nat}(hl:∀{r d},K.N r=some d→ah d.v<dep K.n ah K.N d.lo∧ah d.v<dep K.n ah K.N d.hi):WF K.n ah K.N:=
 ⟨fun hd=>(h.two hd).1,h.var,h.ne,fun hd=>⟨h.lo hd,(hl hd).1⟩,fun hd=>⟨h.hi hd,(hl hd).2⟩,h.uq⟩
theorem Ok.reach{ah:Nat→Nat}(h:Ok K S ah):Reach K.N (fun r=>K.hold r≠0):=fun r d hd=>by
 have hu:=h.mid.use hd
 have hp:=h.pos r d hd
 by_cases e:K.hold r=0
 ·rw[if_pos e]at hu
  have:zero' r=0:=rfl
  obtain⟨s,e',_,h1,h2⟩:=qu (N:=K.N) (r:=r) (k:=K.cap) (by omega)
  exact .inr ⟨s,e',h1,h2⟩
 ·exact .inl e
theorem Ok.dom{ah:Nat→Nat}(h:Ok K S ah):∃dom:List Nat,dom.Nodup∧dom.length+2=K.used∧∀r,r∈dom↔∃d,K.N r=some d:=by
 refine⟨(List.range K.cap).filter fun r=>(K.N r).isSome,List.nodup_range.filter _,by rw[z8,h.mid.room];omega,fun r=>?_⟩
 rw[List.mem_filter,List.mem_range,Option.isSome_iff_exists]
 exact⟨fun h=>h.2,fun⟨d,hd⟩=>⟨(h.mid.two hd).2,d,hd⟩⟩
def Kd.held(K:Kd)(S:Nat→Fn):Fn→Prop:=Fs S fun r=>K.hold r≠0
theorem Ok.size{ah:Nat→Nat}{ord:List Nat}(h:Ok K S ah)(ho:Ord K.n ah ord):qC (aP K.n ord (K.held S)) (K.used-2):=by
 obtain⟨dom,h1,h2,h3⟩:=h.dom
 have hc:=wc h.wf h.lv h.mid.int h1 h3
 rw[show dom.length=K.used-2 by omega]at hc
 refine hc.congr fun g=>?_
 exact(lT h.wf h.lv ho h.mid.int (fun r hr=>.inr (h.mid.held r hr)) h.reach g).symm
end aC
namespace aC
open aj
variable {n:Nat} {ah:Nat→Nat} {N:dQ} {S:Nat→Fn} {ord:List Nat} {K:Kd}
def pl(N:dQ)(y r:Nat):Nat:=match N r with|some e=>if e.v=y then e.lo else r|none=>r
def ph(N:dQ)(y r:Nat):Nat:=match N r with|some e=>if e.v=y then e.hi else r|none=>r
theorem NY{y r:Nat}{e:Nd}(h:N r=some e)(hv:e.v=y):pl N y r=e.lo∧ph N y r=e.hi:=by simp[pl,ph,h,hv]
theorem NZ{y r:Nat}(h:∀e,N r=some e→e.v≠y):pl N y r=r∧ph N y r=r:=by
 unfold pl ph
 cases hr:N r with
 |none=>exact⟨rfl,rfl⟩
 |some e=>simp[h e hr]
theorem WF.half(h:WF n ah N)(hl:jR n ah)(hi:Interp N S){y l r:Nat}(hy:y<n∧ah y=l+1)(hr:live N r)(hd:l<dep n ah N r):
  (live N (pl N y r)∧l+1<dep n ah N (pl N y r))∧(live N (ph N y r)∧l+1<dep n ah N (ph N y r))∧∀z,S r z=if z.testBit y then S (ph N y r) z else S (pl N y r) z:=by
 by_cases e:∃e,N r=some e∧e.v=y
 ·obtain⟨e,he,hv⟩:=e
  obtain⟨p1,p2⟩:=NY he hv
  rw[p1,p2]
  have h1:=h.lo he
  have h2:=h.hi he
  rw[hv,hy.2]at h1 h2
  exact⟨h1,h2,fun z=>by rw[hi.node he,hv]⟩
 ·have ho:∀e',N r=some e'→e'.v≠y:=fun e' h1 h2=>e ⟨e',h1,h2⟩
  obtain⟨p1,p2⟩:=NZ ho
  rw[p1,p2]
  have vM:l+1<dep n ah N r:=by
   rcases hr with hr|⟨e',he⟩
   ·rw[aW (h.const hr)]
    have:=hl.lt y hy.1;omega
   ·rw[az he]at hd⊢
    have h1:=ho e' he
    refine Nat.lt_of_le_of_ne hd fun e2=>h1 (hl.inj _ _ (h.var he) hy.1 (by omega))
  exact⟨⟨hr,vM⟩,⟨hr,vM⟩,fun z=>by split<;>rfl⟩
theorem WF.OY(h:WF n ah N)(hl:jR n ah)(hi:Interp N S){y l a b:Nat}(hy:y<n∧ah y=l+1)(ha:live N a)(hb:live N b)(da:l<dep n ah N a)(db:l<dep n ah N b)
 (h1:pl N y a=pl N y b)(h2:ph N y a=ph N y b):a=b:=by
 refine h.same hl hi ha hb fun z=>?_
 rw[(h.half hl hi hy ha da).2.2 z,(h.half hl hi hy hb db).2.2 z,h1,h2]
structure Cx where
 r:Nat
 d:Nd
 uN:Nat
 uM:Nat
 rD:Nat
 rC:Nat
def kH(N:dQ)(x y r:Nat)(d:Nd):Prop:=N r=some d∧d.v=x∧((∃e,N d.lo=some e∧e.v=y)∨∃e,N d.hi=some e∧e.v=y)
def mw(N:dQ)(y r:Nat)(d:Nd):Cx:=⟨r,d,pl N y d.lo,ph N y d.lo,pl N y d.hi,ph N y d.hi⟩
structure Gz(N:dQ)(x y:Nat)(l:List Cx):Prop where
 nd:(l.map Cx.r).Nodup
 mem:∀c,c∈l↔kH N x y c.r c.d∧c=mw N y c.r c.d
def keys(x:Nat)(c:Cx):List Nd:=[⟨x,c.uN,c.rD⟩,⟨x,c.uM,c.rC⟩]
structure Made(K:Kd)(x:Nat)(l:List Cx)(made:List Nd):Prop where
 nd:made.Nodup
 mem:∀k,k∈made↔(∃c∈l,k∈keys x c)∧K.T k=none∧k.lo≠k.hi
structure Nb(n:Nat)(ah:Nat→Nat)(x y l:Nat):Prop where
 xn:x<n
 yn:y<n
 lx:ah x=l
 ly:ah y=l+1
variable {x y l:Nat}
theorem Nb.ne(h:Nb n ah x y l):x≠y:=fun e=>by have h1:=h.lx;have h2:=h.ly;rw[e]at h1;omega
theorem Nb.yy(h:Nb n ah x y l):y<n∧ah y=l+1:=⟨h.yn,h.ly⟩
theorem jD(h:WF n ah N)(hl:jR n ah)(hi:Interp N S)(hb:Nb n ah x y l){r:Nat}{d:Nd}(hd:N r=some d)(hx:d.v=x){k:Nd}(hk:k∈keys x (mw N y r d)):
  k.v=x∧(live N k.lo∧l+1<dep n ah N k.lo)∧(live N k.hi∧l+1<dep n ah N k.hi):=by
 have h1:=h.lo hd
 have h2:=h.hi hd
 rw[hx,hb.lx]at h1 h2
 have a:=h.half hl hi hb.yy h1.1 h1.2
 have b:=h.half hl hi hb.yy h2.1 h2.2
 simp only[keys,mw,List.mem_cons,List.not_mem_nil,or_false]at hk
 rcases hk with rfl|rfl
 ·exact⟨rfl,a.1,b.1⟩
 ·exact⟨rfl,a.2.1,b.2.1⟩
theorem tw(h:WF n ah N)(hl:jR n ah)(hi:Interp N S)(hb:Nb n ah x y l){r:Nat}{d:Nd}(hd:N r=some d)(hx:d.v=x)(z:Nat):
  S r z=if z.testBit y then ite S ⟨x,ph N y d.lo,ph N y d.hi⟩ z else ite S ⟨x,pl N y d.lo,pl N y d.hi⟩ z:=by
 have h1:=h.lo hd
 have h2:=h.hi hd
 rw[hx,hb.lx]at h1 h2
 have a:=(h.half hl hi hb.yy h1.1 h1.2).2.2 z
 have b:=(h.half hl hi hb.yy h2.1 h2.2).2.2 z
 rw[hi.node hd,hx,a,b]
 unfold ite
 simp only
 cases z.testBit x<;>cases z.testBit y<;>rfl
theorem gX(h:WF n ah N)(hl:jR n ah)(hi:Interp N S)(hb:Nb n ah x y l){k:Nd}(hk:k.v=x)(h1:live N k.lo∧l+1<dep n ah N k.lo)(h2:live N k.hi∧l+1<dep n ah N k.hi)(z:Nat)(b:Bool):
  ite S k (aA z x b)=S (if b then k.hi else k.lo) z:=by
 unfold ite
 rw[hk,ak,if_pos rfl]
 cases b
 ·simp only[Bool.false_eq_true,if_false];exact h.bT hl hi h1.1 hb.xn (by rw[hb.lx];omega) z false
 ·simp only[if_true];exact h.bT hl hi h2.1 hb.xn (by rw[hb.lx];omega) z true
theorem ia(h:WF n ah N)(hl:jR n ah)(hi:Interp N S)(hb:Nb n ah x y l){k:Nd}(hk:k.v=x)(h1:live N k.lo∧l+1<dep n ah N k.lo)(h2:live N k.hi∧l+1<dep n ah N k.hi){u:Nat}(hu:u<n)(HF:ah u≤l+1)(hne:u≠x)(z:Nat)(b:Bool):
  ite S k (aA z u b)=ite S k z:=by
 unfold ite
 rw[hk,ak,if_neg (Ne.symm hne),h.bT hl hi h1.1 hu (by omega),h.bT hl hi h2.1 hu (by omega)]
theorem ou(h:WF n ah N)(hl:jR n ah)(hi:Interp N S){r:Nat}{d:Nd}(hd:N r=some d):∃z,S r (aA z d.v false)≠S r (aA z d.v true):=by
 refine Classical.byContradiction fun hno=>h.ne hd (h.same hl hi (h.lo hd).1 (h.hi hd).1 fun z=>?_)
 have c1:=h.child hl hi hd z false
 have c2:=h.child hl hi hd z true
 simp only[Bool.false_eq_true,if_false,if_true]at c1 c2
 rw[←c1,←c2]
 exact Classical.byContradiction fun hne=>hno ⟨z,hne⟩
theorem KK(h:WF n ah N)(hl:jR n ah)(hi:Interp N S)(hb:Nb n ah x y l){k:Nd}(hk:k.v=x)(hne:k.lo≠k.hi)(h1:live N k.lo∧l+1<dep n ah N k.lo)(h2:live N k.hi∧l+1<dep n ah N k.hi)
 {r:Nat}{d:Nd}(hd:N r=some d)(he:ite S k=S r):d=k:=by
 have hv:=h.var hd
 have hvx:d.v=x:=by
  rcases Nat.lt_trichotomy (ah d.v) l with hlt|heq|hgt
  ·obtain⟨z,hz⟩:=ou h hl hi hd
   have UY:d.v≠x:=fun e=>by rw[e,hb.lx]at hlt;omega
   rw[←he,ia h hl hi hb hk h1 h2 hv (by omega) UY,ia h hl hi hb hk h1 h2 hv (by omega) UY]at hz
   exact absurd rfl hz
  ·exact hl.inj _ _ hv hb.xn (by rw[hb.lx];exact heq)
  ·refine absurd (h.same hl hi h1.1 h2.1 fun z=>?_) hne
   have c1:=gX h hl hi hb hk h1 h2 z false
   have c2:=gX h hl hi hb hk h1 h2 z true
   simp only[Bool.false_eq_true,if_false,if_true]at c1 c2
   have hdp:ah x<dep n ah N r:=by rw[az hd,hb.lx];exact hgt
   rw[←c1,←c2,he,h.bT hl hi (.inr ⟨d,hd⟩) hb.xn hdp,h.bT hl hi (.inr ⟨d,hd⟩) hb.xn hdp]
 have c:∀(b:Bool) z,S (if b then k.hi else k.lo) z=S (if b then d.hi else d.lo) z:=fun(b:Bool) z=>by
  rw[←gX h hl hi hb hk h1 h2 z b,he,←hvx,h.child hl hi hd z b]
 have e1:=h.same hl hi h1.1 (h.lo hd).1 (fun z=>by simpa using c false z)
 have e2:=h.same hl hi h2.1 (h.hi hd).1 (fun z=>by simpa using c true z)
 cases d;cases k;simp_all
theorem Oz(h:WF n ah N)(hl:jR n ah)(hi:Interp N S)(hb:Nb n ah x y l){k k':Nd}(hk:k.v=x)(hk':k'.v=x)(h1:live N k.lo∧l+1<dep n ah N k.lo)(h2:live N k.hi∧l+1<dep n ah N k.hi)
 (zC:live N k'.lo∧l+1<dep n ah N k'.lo)(me:live N k'.hi∧l+1<dep n ah N k'.hi)(he:ite S k=ite S k'):k=k':=by
 have c:∀(b:Bool) z,S (if b then k.hi else k.lo) z=S (if b then k'.hi else k'.lo) z:=fun(b:Bool) z=>by
  rw[←gX h hl hi hb hk h1 h2 z b,he,gX h hl hi hb hk' zC me z b]
 have e1:=h.same hl hi h1.1 zC.1 (fun z=>by simpa using c false z)
 have e2:=h.same hl hi h2.1 me.1 (fun z=>by simpa using c true z)
 cases k;cases k';simp_all
def iJ(ord:List Nat)(l:Nat):List Nat:=(ord.set l (ord.getD (l+1) 0)).set (l+1) (ord.getD l 0)
theorem j6(ord:List Nat)(l:Nat):(iJ ord l).length=ord.length:=by simp[iJ]
theorem eo{i:Nat}(hl:l+1<ord.length):(iJ ord l).getD i 0=if i=l then ord.getD (l+1) 0 else if i=l+1 then ord.getD l 0 else ord.getD i 0:=by
 unfold iJ
 rw[List.getD_eq_getElem?_getD,List.getElem?_set,List.getElem?_set]
 by_cases e1:l+1=i
 ·subst e1
  rw[if_pos rfl,if_pos (by simp;omega),if_neg (by omega),if_pos rfl];rfl
 ·rw[if_neg e1]
  by_cases e2:l=i
  ·subst e2;rw[if_pos rfl,if_pos (by omega),if_pos rfl];rfl
  ·rw[if_neg e2,if_neg (fun e=>e2 e.symm),if_neg (fun e=>e1 e.symm),←List.getD_eq_getElem?_getD]
def ri(ah:Nat→Nat)(x y l:Nat):Nat→Nat:=fun v=>if v=x then l+1 else if v=y then l else ah v
theorem NG(hl:jR n ah)(hb:Nb n ah x y l):jR n (ri ah x y l):=by
 have RO:=hl.lt y hb.yn
 rw[hb.ly]at RO
 have key:∀v,v<n→v≠x→v≠y→ah v≠l∧ah v≠l+1:=fun v hv h1 h2=>⟨fun e=>h1 (hl.inj _ _ hv hb.xn (by rw[hb.lx];exact e)),fun e=>h2 (hl.inj _ _ hv hb.yn (by rw[hb.ly];exact e))⟩
 refine⟨fun v hv=>?_,fun u v hu hv he=>?_⟩
 ·unfold ri
  split
  ·exact RO
  ·split
   ·omega
   ·exact hl.lt v hv
 ·unfold ri at he
  by_cases u1:u=x
  ·by_cases v1:v=x
   ·rw[u1,v1]
   ·rw[if_pos u1,if_neg v1]at he
    by_cases v2:v=y
    ·rw[if_pos v2]at he;omega
    ·rw[if_neg v2]at he;exact absurd he.symm (key v hv v1 v2).2
  ·rw[if_neg u1]at he
   by_cases u2:u=y
   ·rw[if_pos u2]at he
    by_cases v1:v=x
    ·rw[if_pos v1]at he;omega
    ·rw[if_neg v1]at he
     by_cases v2:v=y
     ·rw[u2,v2]
     ·rw[if_neg v2]at he;exact absurd he.symm (key v hv v1 v2).1
   ·rw[if_neg u2]at he
    by_cases v1:v=x
    ·rw[if_pos v1]at he;exact absurd he (key u hu u1 u2).2
    ·rw[if_neg v1]at he
     by_cases v2:v=y
     ·rw[if_pos v2]at he;exact absurd he (key u hu u1 u2).1
     ·rw[if_neg v2]at he;exact hl.inj _ _ hu hv he
theorem Ord.nb(ho:Ord n ah ord)(hl:l+1<n):Nb n ah (ord.getD l 0) (ord.getD (l+1) 0) l:=
 ⟨(ho.aY l (by omega)).1,(ho.aY (l+1) hl).1,(ho.aY l (by omega)).2,(ho.aY (l+1) hl).2⟩
theorem NF(ho:Ord n ah ord)(hl:l+1<n):Ord n (ri ah (ord.getD l 0) (ord.getD (l+1) 0) l) (iJ ord l):=by
 have hb:=ho.nb hl
 refine⟨by rw[j6,ho.len],fun i hi=>?_⟩
 rw[eo (by rw[ho.len];exact hl)]
 unfold ri
 by_cases e1:i=l
 ·subst e1;rw[if_pos rfl];refine⟨hb.yn,?_⟩;rw[if_neg (Ne.symm hb.ne),if_pos rfl]
 ·rw[if_neg e1]
  by_cases e2:i=l+1
  ·subst e2;rw[if_pos rfl];refine⟨hb.xn,?_⟩;rw[if_pos rfl]
  ·rw[if_neg e2]
   obtain⟨h1,h2⟩:=ho.aY i hi
   refine⟨h1,?_⟩
   rw[if_neg,if_neg]
   ·exact h2
   ·intro e;rw[e,hb.ly]at h2;omega
   ·intro e;rw[e,hb.lx]at h2;omega
variable {F:Fn→Prop}
theorem BQ(hl:l+1<ord.length)(hne:ord.getD l 0≠ord.getD (l+1) 0):∀m,m≠l+1→∀g,fs (iJ ord l) F m g↔fs ord F m g
 |0,_,g=>Iff.rfl
 |m+1,hm,g=>by
  by_cases e:m=l+1
  ·subst e
   have g1:(iJ ord l).getD (l+1) 0=ord.getD l 0:=by rw[eo hl,if_neg (by omega),if_pos rfl]
   have g2:(iJ ord l).getD l 0=ord.getD (l+1) 0:=by rw[eo hl,if_pos rfl]
   have ih:=BQ hl hne l (by omega)
   constructor
   ·rintro⟨f,⟨f',h,b,rfl⟩,b',rfl⟩
    refine⟨_,⟨f',(ih f').1 h,b',rfl⟩,b,?_⟩
    funext z
    rw[g1,g2]
    show f' _=f' _
    rw[cX hne]
   ·rintro⟨f,⟨f',h,b,rfl⟩,b',rfl⟩
    refine⟨_,⟨f',(ih f').2 h,b',rfl⟩,b,?_⟩
    funext z
    rw[g1,g2]
    show f' _=f' _
    rw[cX (Ne.symm hne)]
  ·have ih:=BQ hl hne m e
   have hg:(iJ ord l).getD m 0=ord.getD m 0:=by rw[eo hl,if_neg (by omega),if_neg e]
   constructor
   ·rintro⟨f,h,b,rfl⟩;exact⟨f,(ih f).1 h,b,by rw[hg]⟩
   ·rintro⟨f,h,b,rfl⟩;exact⟨f,(ih f).2 h,b,by rw[hg]⟩
theorem JC(h:Ok K S ah)(ho:Ord K.n ah ord)(Lf:l+1<K.n){all:List Cx}(hc:Gz K.N (ord.getD l 0) (ord.getD (l+1) 0) all){made:List Nd}(hm:Made K (ord.getD l 0) all made):
  qC (fun g=>aP K.n ord (K.held S) g∨aP K.n (iJ ord l) (K.held S) g) (K.used-2+made.length):=by
 have hb:=ho.nb Lf
 have hlen:l+1<ord.length:=by rw[ho.len];exact Lf
 have hw:=h.wf
 have hlv:=h.lv
 have hi:=h.mid.int
 have hR:∀r,K.hold r≠0→live K.N r:=fun r hr=>.inr (h.mid.held r hr)
 generalize hx:ord.getD l 0=x at*
 generalize hy:ord.getD (l+1) 0=y at*
 have kG:∀k∈made,k.v=x∧(live K.N k.lo∧l+1<dep K.n ah K.N k.lo)∧(live K.N k.hi∧l+1<dep K.n ah K.N k.hi):=fun k hk=>by
  obtain⟨⟨c,FX,hkc⟩,_⟩:=(hm.mem k).1 hk
  obtain⟨⟨hd,Lu,_⟩,e⟩:=(hc.mem c).1 FX
  rw[e]at hkc
  exact jD hw hlv hi hb hd Lu hkc
 obtain⟨dom,d1,d2,d3⟩:=h.dom
 have c1:=wc hw hlv hi d1 d3
 rw[show dom.length=K.used-2 by omega]at c1
 have c2:qC (fun g=>∃k∈made,g=ite S k) made.length:=by
  refine⟨made.map (ite S),?_,by simp,fun g=>?_⟩
  ·refine List.pairwise_map.2 (hm.nd.imp_of_mem fun{a b} ha hb' hne heq=>hne ?_)
   obtain⟨a1,a2,a3⟩:=kG a ha
   obtain⟨b1,b2,b3⟩:=kG b hb'
   exact Oz hw hlv hi hb a1 b1 a2 a3 b2 b3 heq
  ·rw[List.mem_map]
   constructor
   ·rintro⟨k,hk,rfl⟩;exact⟨k,hk,rfl⟩
   ·rintro⟨k,hk,rfl⟩;exact⟨k,hk,rfl⟩
 refine(c1.or c2 ?_).congr fun g=>?_
 ·rintro g ⟨r,d,hd,rfl⟩ ⟨k,hk,he⟩
  obtain⟨a1,a2,a3⟩:=kG k hk
  obtain⟨_,hT,hne⟩:=(hm.mem k).1 hk
  have:=KK hw hlv hi hb a1 hne a2 a3 hd he.symm
  subst this
  rw[(h.mid.g8 d r).2 ⟨hd,fun x=>x⟩]at hT;cases hT
 ·have UW:=lT hw hlv ho hi hR h.reach
  have oN:=fun m (hmn:m≤K.n) g=>Pj hw hlv ho hi hR m hmn g
  have hne:ord.getD l 0≠ord.getD (l+1) 0:=by rw[hx,hy];exact hb.ne
  have vH:=BQ (F:=K.held S) hlen hne
  have gl:(iJ ord l).getD l 0=y:=by rw[eo hlen,if_pos rfl,hy]
  have gl1:(iJ ord l).getD (l+1) 0=x:=by rw[eo hlen,if_neg (by omega),if_pos rfl,hx]
  have go:∀m,m≠l→m≠l+1→(iJ ord l).getD m 0=ord.getD m 0:=fun m h1 h2=>by rw[eo hlen,if_neg h1,if_neg h2]
  constructor
  ·rintro(⟨r,d,hd,rfl⟩|⟨k,hk,rfl⟩)
   ·exact .inl ((UW _).2 ⟨r,d,hd,rfl⟩)
   ·obtain⟨a1,a2,a3⟩:=kG k hk
    obtain⟨⟨c,FX,hkc⟩,hT,Sb⟩:=(hm.mem k).1 hk
    obtain⟨⟨hd,Lu,_⟩,e⟩:=(hc.mem c).1 FX
    refine .inr ⟨l+1,Lf,?_,?_⟩
    ·have hA:=Q4 hw h.reach _ c.r c.d hd (Nat.le_refl _)
     rw[Lu,hb.lx]at hA
     refine⟨S c.r,(vH l (by omega) _).2 ((oN l (by omega) _).2 ⟨c.r,hA,rfl⟩),?_⟩
     have OU:=tw hw hlv hi hb hd Lu
     rw[e]at hkc
     simp only[keys,mw,List.mem_cons,List.not_mem_nil,or_false]at hkc
     rw[gl]
     rcases hkc with rfl|rfl
     ·refine⟨false,?_⟩
      funext z
      rw[OU,ak,if_pos rfl,if_neg (by simp),ia hw hlv hi hb rfl a2 a3 hb.yn (by rw[hb.ly];exact Nat.le_refl _) (Ne.symm hb.ne)]
     ·refine⟨true,?_⟩
      funext z
      rw[OU,ak,if_pos rfl,if_pos rfl,ia hw hlv hi hb rfl a2 a3 hb.yn (by rw[hb.ly];exact Nat.le_refl _) (Ne.symm hb.ne)]
    ·rw[gl1]
     refine Classical.byContradiction fun hno=>Sb (hw.same hlv hi a2.1 a3.1 fun z=>?_)
     have c1:=gX hw hlv hi hb a1 a2 a3 z false
     have c2:=gX hw hlv hi hb a1 a2 a3 z true
     simp only[Bool.false_eq_true,if_false,if_true]at c1 c2
     rw[←c1,←c2]
     exact Classical.byContradiction fun hne=>hno ⟨z,hne⟩
  ·rintro(hg|⟨m,hmn,hf,hh⟩)
   ·exact .inl ((UW g).1 hg)
   ·by_cases e1:m=l+1
    ·subst e1
     rw[gl1]at hh
     obtain⟨f,hf,b,rfl⟩:=hf
     rw[gl]at hh⊢
     obtain⟨r,hA,rfl⟩:=(oN l (by omega) f).1 ((vH l (by omega) f).1 hf)
     obtain⟨hlr,hle⟩:=qD hw hR l r hA
     have hgt:dep K.n ah K.N r=l:=by
      refine Nat.le_antisymm (Nat.le_of_not_lt fun hlt=>?_) hle
      obtain⟨z,hz⟩:=hh
      refine hz ?_
      show S r (aA (aA z x false) y b)=S r (aA (aA z x true) y b)
      rw[cX hb.ne,cX hb.ne,hw.bT hlv hi hlr hb.xn (by rw[hb.lx];exact hlt),hw.bT hlv hi hlr hb.xn (by rw[hb.lx];exact hlt)]
     rcases hlr with HL|⟨d,hd⟩
     ·rw[aW (hw.const HL)]at hgt;omega
     ·rw[az hd]at hgt
      have Lu:d.v=x:=hlv.inj _ _ (hw.var hd) hb.xn (by rw[hb.lx];exact hgt)
      have OU:=tw hw hlv hi hb hd Lu
      have hkk:∃k∈keys x (mw K.N y r d),(fun z=>S r (aA z y b))=ite S k:=by
       cases b
       ·refine⟨_,List.mem_cons_self,?_⟩
        obtain⟨a1,a2,a3⟩:=jD hw hlv hi hb hd Lu (k:=⟨x,pl K.N y d.lo,pl K.N y d.hi⟩) List.mem_cons_self
        funext z
        rw[OU,ak,if_pos rfl,if_neg (by simp),ia hw hlv hi hb rfl a2 a3 hb.yn (by rw[hb.ly];exact Nat.le_refl _) (Ne.symm hb.ne)];rfl
       ·refine⟨_,List.mem_cons_of_mem _ List.mem_cons_self,?_⟩
        obtain⟨a1,a2,a3⟩:=jD hw hlv hi hb hd Lu (k:=⟨x,ph K.N y d.lo,ph K.N y d.hi⟩) (List.mem_cons_of_mem _ List.mem_cons_self)
        funext z
        rw[OU,ak,if_pos rfl,if_pos rfl,ia hw hlv hi hb rfl a2 a3 hb.yn (by rw[hb.ly];exact Nat.le_refl _) (Ne.symm hb.ne)];rfl
      obtain⟨k,hkm,hke⟩:=hkk
      obtain⟨a1,a2,a3⟩:=jD hw hlv hi hb hd Lu hkm
      rw[hke]at hh⊢
      have Sb:k.lo≠k.hi:=fun e=>by
       obtain⟨z,hz⟩:=hh
       have c1:=gX hw hlv hi hb a1 a2 a3 z false
       have c2:=gX hw hlv hi hb a1 a2 a3 z true
       simp only[Bool.false_eq_true,if_false,if_true]at c1 c2
       rw[c1,c2,e]at hz;exact hz rfl
      cases hT:K.T k with
      |some s=>
       have hs:=((h.mid.g8 k s).1 hT).1
       refine .inl ⟨s,k,hs,?_⟩
       funext z
       exact(hi.node hs z).symm
      |none=>
       by_cases Ss:kH K.N x y r d
       ·exact .inr ⟨k,(hm.mem k).2 ⟨⟨mw K.N y r d,(hc.mem _).2 ⟨Ss,rfl⟩,hkm⟩,hT,Sb⟩,rfl⟩
       ·have hno:∀t,t=d.lo∨t=d.hi→pl K.N y t=t∧ph K.N y t=t:=fun t ht=>NZ fun e he hv=>Ss ⟨hd,Lu,by
         rcases ht with rfl|rfl
         ·exact .inl ⟨e,he,hv⟩
         ·exact .inr ⟨e,he,hv⟩⟩
        have e1:=hno d.lo (.inl rfl)
        have e2:=hno d.hi (.inr rfl)
        have:k=d:=by
         simp only[keys,mw,e1.1,e1.2,e2.1,e2.2,List.mem_cons,List.not_mem_nil,or_false,or_self]at hkm
         rw[hkm,←Lu]
        rw[this,(h.mid.g8 d r).2 ⟨hd,fun x=>x⟩]at hT;cases hT
    ·by_cases e2:m=l
     ·subst e2
      rw[gl]at hh
      obtain⟨r,hA,rfl⟩:=(oN m (by omega) g).1 ((vH m e1 g).1 hf)
      obtain⟨hlr,hle⟩:=qD hw hR m r hA
      rcases hlr with HL|⟨d,hd⟩
      ·obtain⟨z,hz⟩:=hh
       have:∀z,S r z=S r 0:=fun z=>by
        have:r=0∨r=1:=by omega
        rcases this with rfl|rfl
        ·rw[hi.zero,hi.zero]
        ·rw[hi.one,hi.one]
       rw[this (aA z y false),this (aA z y true)]at hz
       exact absurd rfl hz
      ·exact .inl ⟨r,d,hd,rfl⟩
     ·refine .inl ((UW g).1 ⟨m,hmn,(vH m e1 g).1 hf,?_⟩)
      rw[go m e2 e1]at hh;exact hh
end aC
