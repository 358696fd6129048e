import Derived.Test.YtfgkdmbicjdeoaaGreatS4
import Derived.Test.YtfgkdmbicjdeoaaGreatS2
import Derived.Test.YtfgkdmbicjdeoaaGreatS3
import Derived.Test.YtfgkdmbicjdeoaaGreatS1
import Derived.Deep.Slices
import Derived.SizedLaws
set_option linter.unusedVariables false
set_option linter.unusedSimpArgs false
set_option linter.unusedSectionVars false
namespace bc
open aj
variable {n:Nat} {F:Nat→Nat} {ws us rs:List Nat}
def vK(n:Nat)(F:Nat→Nat):List Nat:=(List.range (wN n)).map fun i=>F i&&&cj n
theorem nq(hn:n≤16):cw n (vK n F):=by
 refine⟨hn,by simp[vK],fun w hw=>?_⟩
 obtain⟨i,_,rfl⟩:=List.mem_map.1 hw
 exact Nat.and_le_right
theorem HA{x:Nat}(hx:x<2^n):bit (vK n F) x=(F (x/64)).testBit (x%64):=by
 have hi:=pq hx
 unfold bit
 have gS:(vK n F).getD (x/64) 0=F (x/64) &&&cj n:=by simp[vK,hi]
 rw[gS,Nat.testBit_and,e9]
 have WI:decide (x%64<if 6≤n then 64 else 2^n)=true:=by
  rw[decide_eq_true_eq]
  split
  ·exact Nat.mod_lt _ (by decide)
  ·have h1:2^n≤32:=Nat.pow_le_pow_right (n:=2) (by decide) (by omega:n≤5)
   omega
 rw[WI,Bool.and_true]
theorem pL{f:Fn}(h:∀x,x<2^n→(F (x/64)).testBit (x%64)=f x)(hf:∀x,f (x%2^n)=f x):eC n (vK n F)=f:=by
 funext x
 unfold eC
 have hx:x%2^n<2^n:=Nat.mod_lt _ (Nat.two_pow_pos n)
 rw[HA hx,h _ hx,hf]
theorem pK(x:Nat):eC n ws (x%2^n)=eC n ws x:=by unfold eC;rw[Nat.mod_mod]
theorem lV{x:Nat}(hx:x<2^n):(ws.getD (x/64) 0).testBit (x%64)=eC n ws x:=by
 unfold eC bit;rw[Nat.mod_eq_of_lt hx]
theorem yN{j:Nat}(hj:j<64):(18446744073709551615:Nat).testBit j=true:=by
 have:(18446744073709551615:Nat)=2^64-1:=by decide
 rw[this,Nat.testBit_two_pow_sub_one];simpa using hj
theorem wV{w j:Nat}(hw:w<18446744073709551616)(hj:j<64):(18446744073709551615-w).testBit j= !w.testBit j:=by
 have e:(18446744073709551615-w)=2^64-(w+1):=by
  have:(2:Nat)^64=18446744073709551616:=by decide
  omega
 rw[e,Nat.testBit_two_pow_sub_succ (by
  have:(2:Nat)^64=18446744073709551616:=by decide
  omega)]
 simp[hj]
end bc
set_option maxRecDepth 100000
namespace Go.Proofs
open Go Go.Sx
open bc
section
variable {B:Hp}
def ir(B:Hp)(v:Value)(n:Nat)(f:bc.Fn):Prop:=∃ws,jS B v ⟨n,ws⟩∧aj.cw n ws∧eC n ws=f
theorem ir.mono{B B':Hp}{v:Value}{n:Nat}{f:bc.Fn}(h:ir B v n f)(hs:∀x∈B,x∈B'):ir B' v n f:=let ⟨ws,h1,h2,h3⟩:=h;⟨ws,h1.mono hs,h2,h3⟩
theorem zW{n:Nat}(hn:n≤16)(B:Hp):Rd Tryz.prog 211 #[.int .i64 (n:Int)] B (· =.int .i64 0):=by
 intro g
 refine DF (R:=aE _) ?_
 unfold L211
 exact ae.lss (Br.cq (by omega) (ae.lQ (b:=16) (Br.cq (by omega) (bL.mk (.refl _) rfl))))
theorem A0{b:Bool}{p:Value}{i:Int}(hb:Go.Sx.At B p [.bool b]):Rd Tryz.prog 213 #[.int .i64 i,p] B (· =.int .u64 (((if b then 18446744073709551615 else 0:Nat)):Int)):=by
 intro g
 refine DD (R:=aE _) ?_
 unfold L213
 refine Ld.at hb (fun _ h=>h) ?_
 cases b
 ·exact Br.no (bL.mk (.refl _) rfl)
 ·exact Br.yes (bL.mk (.refl _) rfl)
theorem vw{n:Nat}(hn:n≤16)(b:Bool)(B:Hp):Px Tryz.prog 147 #[.int .i64 (n:Int),.bool b] B (fun r H=>∃v,r=.tuple #[v,.int .i64 0]∧ir H v n (fun _=>b)):=by
 intro g
 refine Es (R:=aE _) ?_
 unfold L147
 intro b1 _ b3 _
 refine ag.rd .here (zW hn _) ?_
 rintro w rfl
 refine ae.gj (Br.cq (by decide) ?_)
 refine ag.px (.cons .here) (pz hn rfl (by kernel_rfl) (F:=fun _=>if b then 18446744073709551615 else 0) (fun i _=>by cases b<;>decide) (B:=(b1,.cells #[.bool b] 4 (0,0))::B) fun i _=>A0 (Go.Sx.At.block (l:=[.bool b]) zM)) ?_
 rintro v N ⟨s,rfl,hw⟩
 refine St.whole (r:=[.int .i64 (n:Int),s]) (by exact .head _) rfl rfl ?_ ?_
 ·have:=aB hw;simpa[Value.oneCell']using this
 refine aA.whole (r:=[.int .i64 (n:Int),s]) (by exact .head _) rfl ?_
 refine oG.mk (by repeat (first|exact aV.refl _|apply aV.cons|apply aV.app)) ⟨_,rfl,_,⟨s,rfl,hw.mono zS⟩,nq hn,pL (fun x hx=>?_) (fun x=>rfl)⟩
 cases b
 ·exact Nat.zero_testBit _
 ·exact yN (Nat.mod_lt _ (by decide))
theorem Kt{v i:Nat}{p:Value}(hv:v<64)(hi:i<9223372036854775808)(hb:Go.Sx.At B p [.int .i64 (v:Int)]):Rd Tryz.prog 218 #[.int .i64 (i:Int),p] B (· =.int .u64 ((if 6≤v then(if(i>>>(v-6)).testBit 0 then 18446744073709551615 else 0)else aj.mask v:Nat):Int)):=by
 intro g
 refine Dz (R:=aE _) ?_
 unfold L218
 refine Ld.at hb (fun _ h=>h) ?_
 refine ag.rd .here (we hv (by omega) hi B) ?_
 rintro w rfl
 exact bL.mk (.refl _) rfl
theorem OO{n v:Nat}(hn:n≤16)(hv:v<n)(B:Hp):Px Tryz.prog 153 #[.int .i64 (n:Int),.int .i64 (v:Int)] B (fun r H=>∃t,r=.tuple #[t,.int .i64 0]∧ir H t n (fun x=>x.testBit v)):=by
 intro g
 refine Em (R:=aE _) ?_
 unfold L153
 intro b1 _ b3 _
 refine ag.rd .here (zW hn _) ?_
 rintro w rfl
 refine ae.gj (Br.cq (by decide) ?_)
 refine Ld.mk (v:=.int .i64 (v:Int)) (by exact .tail _ (.head _)) rfl ?_
 refine ae.lss ?_
 rw[decide_eq_false (by omega)]
 refine cv.or (a:=false) false (fun _=>?_) rfl fun gs=>Br.no ?_
 ·refine Ld.mk (v:=.int .i64 (v:Int)) (by exact .tail _ (.head _)) rfl ?_
  exact ae.qz ⟨rfl,by rw[decide_eq_false (by omega)]⟩
 have LI:=aj.qO hn
 refine ag.px (.cons .here) (pz hn rfl (by kernel_rfl) (F:=fun i=>if 6≤v then(if(i>>>(v-6)).testBit 0 then 18446744073709551615 else 0)else aj.mask v) (fun i _=>by
  have:=aj.rZ v
  split
  ·split<;>decide
  ·exact this) (B:=(b1,.cells #[.int .i64 (v:Int)] 3 (0,0))::B) fun i hi=>Kt (by omega) (by omega) (Go.Sx.At.block (l:=[.int .i64 (v:Int)]) zM)) ?_
 rintro w N ⟨s,rfl,hw⟩
 refine St.whole (r:=[.int .i64 (n:Int),s]) (by exact .head _) rfl rfl ?_ ?_
 ·have:=aB hw;simpa[Value.oneCell']using this
 refine aA.whole (r:=[.int .i64 (n:Int),s]) (by exact .head _) rfl ?_
 refine oG.mk (by repeat (first|exact aV.refl _|apply aV.cons|apply aV.app)) ⟨_,rfl,_,⟨s,rfl,hw.mono zS⟩,nq hn,pL (fun x hx=>?_) (fun x=>?_)⟩
 ·have hj:x%64<64:=Nat.mod_lt _ (by decide)
  have agp:x=64*(x/64)+x%64:=by omega
  by_cases h6:6≤v
  ·rw[if_pos h6]
   have e:x.testBit v=((x/64)>>>(v-6)).testBit 0:=by
    rw[Nat.testBit_shiftRight,Nat.add_zero]
    have:=Nat.testBit_div_two_pow (n:=6) x (v-6)
    rw[show(2:Nat)^6=64 from rfl]at this
    rw[this];congr 1;omega
   rw[e]
   cases ((x/64)>>>(v-6)).testBit 0
   ·exact Nat.zero_testBit _
   ·exact yN hj
  ·rw[if_neg h6,aj.dy]
   have:=Nat.testBit_mod_two_pow x 6 v
   rw[show(2:Nat)^6=64 from rfl]at this
   rw[this]
   simp[hj];omega
 ·rw[Nat.testBit_mod_two_pow];simp[hv]
end
section
variable {B:Hp}
theorem fL{n i:Nat}{ws:List Nat}(hf:aj.cw n ws):ws.getD i 0<18446744073709551616:=by
 by_cases h:i<ws.length
 ·rw[List.getD_eq_getElem?_getD,List.getElem?_eq_getElem h];exact hf.lt (List.getElem_mem h)
 ·rw[List.getD_eq_getElem?_getD,List.getElem?_eq_none (by omega)];decide
theorem kq{n i:Nat}{ws:List Nat}(hf:aj.cw n ws)(hi:i<aj.wN n):ws[i]? =some (ws.getD i 0):=by
 rw[List.getD_eq_getElem?_getD,List.getElem?_eq_getElem (by rw[hf.len];exact hi)];rfl
def tW(op w u:Nat):Nat→Nat
 |0=>0
 |k+1=>if op.testBit k then tW op w u k|||([(18446744073709551615-w) &&& (18446744073709551615-u),(18446744073709551615-w) &&&u,w&&& (18446744073709551615-u),w&&&u].getD k 0)else tW op w u k
theorem Fz{w u k:Nat}(hw:w<18446744073709551616)(hu:u<18446744073709551616):[(18446744073709551615-w) &&& (18446744073709551615-u),(18446744073709551615-w) &&&u,w&&& (18446744073709551615-u),w&&&u].getD k 0<18446744073709551616:=by
 have h1:∀a b:Nat,a<18446744073709551616→a&&&b<18446744073709551616:=fun a b h=>Nat.lt_of_le_of_lt Nat.and_le_left h
 match k with
 |0=>exact h1 _ _ (by omega)
 |1=>exact h1 _ _ (by omega)
 |2=>exact h1 _ _ hw
 |3=>exact h1 _ _ hw
 |k+4=>exact(by decide:(0:Nat)<18446744073709551616)
theorem r9{op w u:Nat}(hw:w<18446744073709551616)(hu:u<18446744073709551616):∀k,tW op w u k<18446744073709551616
 |0=>by show(0:Nat)<18446744073709551616;decide
 |k+1=>by
  unfold tW
  split
  ·exact Nat.or_lt_two_pow (n:=64) (r9 hw hu k) (Fz hw hu)
  ·exact r9 hw hu k
theorem Nc{op w u j:Nat}(hw:w<18446744073709551616)(hu:u<18446744073709551616)(hj:j<64):(tW op w u 4).testBit j=opB op (w.testBit j) (u.testBit j):=by
 have nw:=wV hw hj
 have nu:=wV hu hj
 simp only[tW,List.getD_cons_zero,List.getD_cons_succ]
 unfold opB
 cases h0:op.testBit 0<;>cases h1:op.testBit 1<;>cases h2:op.testBit 2<;>cases h3:op.testBit 3<;>
  simp only[if_true,Bool.false_eq_true,if_false,Nat.testBit_or,Nat.testBit_and,nw,nu,Nat.zero_testBit]<;>
  cases w.testBit j<;>cases u.testBit j<;>simp[h0,h1,h2,h3]
theorem Kx{p1 p2 p3 s1 s2:Value}{n i op:Nat}{ws us:List Nat}(h1:Go.Sx.At B p1 [.int .i64 (n:Int),s1])(h2:Go.Sx.At B p2 [.int .i64 (n:Int),s2])(h3:Go.Sx.At B p3 [.int .u8 (op:Int)])(hw:Words B s1 ws)(hu:Words B s2 us)(hf:aj.cw n ws)(hg:aj.cw n us)(hop:op<16)(hi:i<aj.wN n):
  Rd Tryz.prog 239 #[.int .i64 (i:Int),p1,p2,p3] B (· =.int .u64 ((tW op (ws.getD i 0) (us.getD i 0) 4:Nat):Int)):=by
 have lw:=fL (i:=i) hf
 have lu:=fL (i:=i) hg
 intro g
 refine De (R:=aE _) ?_
 unfold L239
 refine aa.at h1 fun q hq=>Ld.at hq (fun _ h=>h) ?_
 refine hw.1.ld (cy (kq hf hi)) (fun _ h=>h) ?_
 refine aa.at h2 fun q hq=>Ld.at hq (fun _ h=>h) ?_
 refine hu.1.ld (cy (kq hg hi)) (fun _ h=>h) ?_
 generalize ws.getD i 0=w at*
 generalize us.getD i 0=u at*
 refine Un.JP lw (Un.JP lu ?_)
 refine ae.jg (by simp only[az];omega) (by simp only[az];omega) ?_
 refine Un.JP lw ?_
 refine ae.jg (by simp only[az];omega) (by simp only[az];omega) ?_
 refine Un.JP lu ?_
 refine ae.jg (by simp only[az];omega) (by simp only[az];omega) ?_
 refine ae.jg (by simp only[az];omega) (by simp only[az];omega) ?_
 refine ax.VT (e:=50) (by kernel_rfl) (by kernel_rfl) (by kernel_rfl) fun bx=>?_
 obtain⟨ps,hps⟩:∃ps,ps=[(18446744073709551615-w) &&& (18446744073709551615-u),(18446744073709551615-w) &&&u,w&&& (18446744073709551615-u),w&&&u]:=⟨_,rfl⟩
 have hI:cE .u64 [(bx,Obj.cells (aF .u64 (iw ps)) 50 (0,0))] (.slice (some ⟨bx,0,none⟩) 4 4) (iw ps):=by
  have:=(aQ.made (T:=50) (kd:=.u64) (b:=bx) (iw ps)).ints
  have hl:(iw ps).length=4:=by rw[hps];rfl
  rw[hl]at this;exact this
 have qt:ps.length=4:=by rw[hps];rfl
 have hH:(bx,Obj.cells (aF .u64 [((((18446744073709551615-w) &&& (18446744073709551615-u):Nat)):Int),((((18446744073709551615-w) &&&u:Nat)):Int),(((w&&& (18446744073709551615-u):Nat)):Int),((w&&&u:Nat):Int)]) 50 (0,0))=(bx,Obj.cells (aF .u64 (iw ps)) 50 (0,0)):=by rw[hps];rfl
 rw[hH]
 refine aG.mk ?_
 refine⟨fun vs H=>∃k:Nat,vs=[.int .u64 ((tW op w u k:Nat):Int),.int .i64 (k:Int)]∧k≤4∧H=(bx,Obj.cells (aF .u64 (iw ps)) 50 (0,0))::B,fun vs _=>4-bg vs 1,JE.mk ⟨0,rfl,by omega,rfl⟩,?_⟩
 rintro Fh sn H ⟨k,hv,hk,rfl⟩ gs
 simp only[List.cons.injEq,and_true]at hv
 obtain⟨rfl,rfl⟩:=hv
 refine ae.dL (b:=4) (Br.dec (fun hlt=>?_) (fun hlt=>?_))
 ·intro J hJ
  refine hI.ld (n:=((ps.getD k 0:Nat):Int)) (bE (by omega)) (fun _ h=>by simp at h;rw[h];exact .head _) ?_
  refine Ld.at h3 (fun _ h=>.tail _ h) ?_
  refine ae.jJ (by simp only[az];omega) ?_
  refine ae.jg (b:=1) (by have:=Nat.shiftRight_le op k;simp only[az];omega) (by decide) ?_
  have tA:(op>>>k) &&&1=(op.testBit k).toNat:=by
   rw[aj.eW,Nat.testBit_shiftRight,Nat.add_zero]
   cases op.testBit k<;>rfl
  rw[tA]
  refine ae.gp (b:=1) ?_
  have aa4:ps.getD k 0<18446744073709551616:=by rw[hps];exact Fz lw lu
  cases hb:op.testBit k with
  |true=>
   refine Br.gI rfl ?_
   refine ae.FB (by simpa only[az]using r9 lw lu k) (by simpa only[az]using aa4) ?_
   refine JE.mk (hJ _ _ fun gs=>?_)
   refine ae.aH (b:=1) (by simp[az];omega) ?_
   exact ay.mk ⟨k+1,by rw[tW,if_pos hb,hps],by omega,rfl⟩ (by simp only[bg];omega)
  |false=>
   refine Br.cq (by decide) ?_
   refine JE.mk (hJ _ _ fun gs=>?_)
   refine ae.aH (b:=1) (by simp[az];omega) ?_
   exact ay.mk ⟨k+1,by rw[tW,if_neg (by rw[hb];decide)],by omega,rfl⟩ (by simp only[bg];omega)
 ·obtain rfl:k=4:=by omega
  exact bL.mk .tail rfl
theorem Vy{bx n:Nat}{s1 s2:Value}{ws us:List Nat}(h1:Words B s1 ws)(h2:Words B s2 us):cV ((bx,.cells (rows [[.int .i64 (n:Int),s1],[.int .i64 (n:Int),s2]]) 57 (0,0))::B) (.slice (some ⟨bx,0,none⟩) 2 2) [⟨n,ws⟩,⟨n,us⟩]:=by
 refine⟨[[.int .i64 (n:Int),s1],[.int .i64 (n:Int),s2]],(Sl.qV (aR.made (T:=57) (k:=2) (b:=bx) _ (by simp)) (by decide)).mono fun _ h=>by simp at h;rw[h];exact .head _,rfl,fun i r x hr hx=>?_⟩
 match i with
 |0=>simp at hr hx;subst hr;subst hx;exact⟨s1,rfl,h1.mono fun _ h=>.tail _ h⟩
 |1=>simp at hr hx;subst hr;subst hx;exact⟨s2,rfl,h2.mono fun _ h=>.tail _ h⟩
 |i+2=>simp at hr
theorem YA{v1 v2:Value}{n op:Nat}{f1 f2:bc.Fn}(hop:op<16)(h1:ir B v1 n f1)(h2:ir B v2 n f2):Px Tryz.prog 194 #[.int .u8 (op:Int),v1,v2] B (fun r H=>∃t,r=.tuple #[t,.int .i64 0]∧ir H t n (fun x=>opB op (f1 x) (f2 x))):=by
 obtain⟨ws,⟨s1,rfl,hw⟩,hf,rfl⟩:=h1
 obtain⟨us,⟨s2,rfl,hu⟩,hg,rfl⟩:=h2
 intro g
 refine DO (R:=aE _) ?_
 unfold L194
 intro b1 _ b3 _ b5 _ b7 _
 refine Ld.mk (v:=.int .u8 (op:Int)) (by exact .tail _ (.tail _ (.tail _ (.head _)))) rfl ?_
 refine ae.lQ (b:=15) (Br.cq (by omega) ?_)
 refine aA.whole (r:=[.int .i64 (n:Int),s1]) (by exact .tail _ (.tail _ (.head _))) rfl ?_
 refine aA.whole (r:=[.int .i64 (n:Int),s2]) (by exact .tail _ (.head _)) rfl ?_
 refine ax.S7 (e:=57) (z:=.agg #[.int .i64 0,.slice none 0 0]) (by kernel_rfl) (by kernel_rfl) (by kernel_rfl) fun bx=>?_
 refine ag.rd .here (tI (Vy (n:=n) (hw.mono zS) (hu.mono zS)) (by show 2<2^62;decide)) ?_
 rintro w rfl
 rw[decide_eq_true (by
  intro t ht
  simp only[List.mem_cons,List.not_mem_nil,or_false]at ht
  rcases ht with rfl|rfl
  ·exact⟨⟨by simp,by simpa using hf⟩,rfl⟩
  ·exact⟨⟨by simp,by simpa using hg⟩,rfl⟩)]
 refine Un.not (Br.no ?_)
 refine aa.mk (Ld.mk (v:=.int .i64 (n:Int)) (by exact .tail _ (.tail _ (.tail _ (.head _)))) rfl ?_)
 refine ag.pre (H':=(b7,.cells #[.int .i64 0,.slice none 0 0] 57 (0,0))::(b5,.cells #[.int .i64 (n:Int),s2] 57 (0,0))::(b3,.cells #[.int .i64 (n:Int),s1] 57 (0,0))::(b1,.cells #[.int .u8 (op:Int)] 5 (0,0))::B) .tail ?_
 refine ag.px (.cons .here) (pz hf.lD rfl (by kernel_rfl) (F:=fun i=>tW op (ws.getD i 0) (us.getD i 0) 4) (fun i _=>r9 (fL hf) (fL hg) 4) (B:=(b5,.cells #[.int .i64 (n:Int),s2] 57 (0,0))::(b3,.cells #[.int .i64 (n:Int),s1] 57 (0,0))::(b1,.cells #[.int .u8 (op:Int)] 5 (0,0))::B)
  fun i hi=>Kx (Go.Sx.At.block (l:=[.int .i64 (n:Int),s1]) zM) (Go.Sx.At.block (l:=[.int .i64 (n:Int),s2]) zM) (Go.Sx.At.block (l:=[.int .u8 (op:Int)]) zM) (hw.mono zS) (hu.mono zS) hf hg hop hi) ?_
 rintro w N ⟨s',rfl,dr⟩
 refine St.whole (r:=[.int .i64 (n:Int),s']) (by exact .head _) rfl rfl ?_ ?_
 ·have:=aB dr;simpa[Value.oneCell']using this
 refine aA.whole (r:=[.int .i64 (n:Int),s']) (by exact .head _) rfl ?_
 refine oG.mk (by repeat (first|exact aV.refl _|apply aV.cons|apply aV.app)) ⟨_,rfl,_,⟨s',rfl,dr.mono zS⟩,nq hf.lD,pL (fun x hx=>?_) (fun x=>by rw[pK,pK])⟩
 rw[Nc (fL hf) (fL hg) (Nat.mod_lt _ (by decide)),lV hx,lV hx]
theorem Kw{p1 p2 p3 s1 s2 s3:Value}{n i:Nat}{ws us rs:List Nat}(h1:Go.Sx.At B p1 [.int .i64 (n:Int),s1])(h2:Go.Sx.At B p2 [.int .i64 (n:Int),s2])(h3:Go.Sx.At B p3 [.int .i64 (n:Int),s3])(hw:Words B s1 ws)(hu:Words B s2 us)(hr:Words B s3 rs)(hf:aj.cw n ws)(hg:aj.cw n us)(hh:aj.cw n rs)(hi:i<aj.wN n):
  Rd Tryz.prog 221 #[.int .i64 (i:Int),p1,p2,p3] B (· =.int .u64 (((ws.getD i 0&&&us.getD i 0)|||((18446744073709551615-ws.getD i 0) &&&rs.getD i 0):Nat):Int)):=by
 have lw:=fL (i:=i) hf
 have lu:=fL (i:=i) hg
 have lr:=fL (i:=i) hh
 intro g
 refine Dw (R:=aE _) ?_
 unfold L221
 refine aa.at h1 fun q hq=>Ld.at hq (fun _ h=>h) ?_
 refine hw.1.ld (cy (kq hf hi)) (fun _ h=>h) ?_
 refine aa.at h2 fun q hq=>Ld.at hq (fun _ h=>h) ?_
 refine hu.1.ld (cy (kq hg hi)) (fun _ h=>h) ?_
 refine ae.jg (by simpa only[az]using lw) (by simpa only[az]using lu) ?_
 refine aa.at h1 fun q hq=>Ld.at hq (fun _ h=>h) ?_
 refine hw.1.ld (cy (kq hf hi)) (fun _ h=>h) ?_
 refine Un.JP lw ?_
 refine aa.at h3 fun q hq=>Ld.at hq (fun _ h=>h) ?_
 refine hr.1.ld (cy (kq hh hi)) (fun _ h=>h) ?_
 refine ae.jg (by simp only[az];omega) (by simpa only[az]using lr) ?_
 refine ae.FB (Nat.lt_of_le_of_lt Nat.and_le_left (by simpa only[az]using lw)) (Nat.lt_of_le_of_lt Nat.and_le_left (by simp only[az];omega)) ?_
 exact bL.mk (.refl _) rfl
theorem Vx{bx n:Nat}{s1 s2 s3:Value}{ws us rs:List Nat}(h1:Words B s1 ws)(h2:Words B s2 us)(h3:Words B s3 rs):cV ((bx,.cells (rows [[.int .i64 (n:Int),s1],[.int .i64 (n:Int),s2],[.int .i64 (n:Int),s3]]) 57 (0,0))::B) (.slice (some ⟨bx,0,none⟩) 3 3) [⟨n,ws⟩,⟨n,us⟩,⟨n,rs⟩]:=by
 refine⟨[[.int .i64 (n:Int),s1],[.int .i64 (n:Int),s2],[.int .i64 (n:Int),s3]],(Sl.qV (aR.made (T:=57) (k:=2) (b:=bx) _ (by simp)) (by decide)).mono fun _ h=>by simp at h;rw[h];exact .head _,rfl,fun i r x hr hx=>?_⟩
 match i with
 |0=>simp at hr hx;subst hr;subst hx;exact⟨s1,rfl,h1.mono fun _ h=>.tail _ h⟩
 |1=>simp at hr hx;subst hr;subst hx;exact⟨s2,rfl,h2.mono fun _ h=>.tail _ h⟩
 |2=>simp at hr hx;subst hr;subst hx;exact⟨s3,rfl,h3.mono fun _ h=>.tail _ h⟩
 |i+3=>simp at hr
theorem OR{v1 v2 v3:Value}{n:Nat}{f1 f2 f3:bc.Fn}(h1:ir B v1 n f1)(h2:ir B v2 n f2)(h3:ir B v3 n f3):Px Tryz.prog 154 #[v1,v2,v3] B (fun r H=>∃t,r=.tuple #[t,.int .i64 0]∧ir H t n (fun x=>if f1 x then f2 x else f3 x)):=by
 obtain⟨ws,⟨s1,rfl,hw⟩,hf,rfl⟩:=h1
 obtain⟨us,⟨s2,rfl,hu⟩,hg,rfl⟩:=h2
 obtain⟨rs,⟨s3,rfl,hr⟩,hh,rfl⟩:=h3
 intro g
 refine El (R:=aE _) ?_
 unfold L154
 intro b1 _ b3 _ b5 _ b7 _
 refine aA.whole (r:=[.int .i64 (n:Int),s1]) (by exact .tail _ (.tail _ (.tail _ (.head _)))) rfl ?_
 refine aA.whole (r:=[.int .i64 (n:Int),s2]) (by exact .tail _ (.tail _ (.head _))) rfl ?_
 refine aA.whole (r:=[.int .i64 (n:Int),s3]) (by exact .tail _ (.head _)) rfl ?_
 refine ax.S6 (e:=57) (z:=.agg #[.int .i64 0,.slice none 0 0]) (by kernel_rfl) (by kernel_rfl) (by kernel_rfl) fun bx=>?_
 refine ag.rd .here (tI (Vx (n:=n) (hw.mono zS) (hu.mono zS) (hr.mono zS)) (by show 3<2^62;decide)) ?_
 rintro w rfl
 rw[decide_eq_true (by
  intro t ht
  simp only[List.mem_cons,List.not_mem_nil,or_false]at ht
  rcases ht with rfl|rfl|rfl
  ·exact⟨⟨by simp,by simpa using hf⟩,rfl⟩
  ·exact⟨⟨by simp,by simpa using hg⟩,rfl⟩
  ·exact⟨⟨by simp,by simpa using hh⟩,rfl⟩)]
 refine Un.not (Br.no ?_)
 refine aa.mk (Ld.mk (v:=.int .i64 (n:Int)) (by exact .tail _ (.tail _ (.tail _ (.tail _ (.head _))))) rfl ?_)
 refine ag.pre (H':=(b7,.cells #[.int .i64 0,.slice none 0 0] 57 (0,0))::(b5,.cells #[.int .i64 (n:Int),s3] 57 (0,0))::(b3,.cells #[.int .i64 (n:Int),s2] 57 (0,0))::(b1,.cells #[.int .i64 (n:Int),s1] 57 (0,0))::B) .tail ?_
 have ol:∀i,(ws.getD i 0&&&us.getD i 0)|||((18446744073709551615-ws.getD i 0) &&&rs.getD i 0)<18446744073709551616:=fun i=>
  Nat.or_lt_two_pow (n:=64) (Nat.lt_of_le_of_lt Nat.and_le_left (fL hf)) (Nat.lt_of_le_of_lt Nat.and_le_right (fL hh))
 refine ag.px (.cons .here) (pz hf.lD rfl (by kernel_rfl) (F:=fun i=>(ws.getD i 0&&&us.getD i 0)|||((18446744073709551615-ws.getD i 0) &&&rs.getD i 0)) (fun i _=>ol i) (B:=(b5,.cells #[.int .i64 (n:Int),s3] 57 (0,0))::(b3,.cells #[.int .i64 (n:Int),s2] 57 (0,0))::(b1,.cells #[.int .i64 (n:Int),s1] 57 (0,0))::B)
  fun i hi=>Kw (Go.Sx.At.block (l:=[.int .i64 (n:Int),s1]) zM) (Go.Sx.At.block (l:=[.int .i64 (n:Int),s2]) zM) (Go.Sx.At.block (l:=[.int .i64 (n:Int),s3]) zM) (hw.mono zS) (hu.mono zS) (hr.mono zS) hf hg hh hi) ?_
 rintro w N ⟨s',rfl,dr⟩
 refine St.whole (r:=[.int .i64 (n:Int),s']) (by exact .head _) rfl rfl ?_ ?_
 ·have:=aB dr;simpa[Value.oneCell']using this
 refine aA.whole (r:=[.int .i64 (n:Int),s']) (by exact .head _) rfl ?_
 refine oG.mk (by repeat (first|exact aV.refl _|apply aV.cons|apply aV.app)) ⟨_,rfl,_,⟨s',rfl,dr.mono zS⟩,nq hf.lD,pL (fun x hx=>?_) (fun x=>by rw[pK,pK,pK])⟩
 rw[Nat.testBit_or,Nat.testBit_and,Nat.testBit_and,wV (fL hf) (Nat.mod_lt _ (by decide)),lV hx,lV hx,lV hx]
 cases eC n ws x<;>cases eC n us x<;>cases eC n rs x<;>rfl
end
end Go.Proofs
namespace Go.Sx
open Go
section
variable {P:Program} {g:Gh} {H B:Hp} {c:Hp→Hp}
theorem aO.Ta{x:Nat×Obj}(h:x∈H):aO H [x]:=by
 obtain⟨A,D,rfl⟩:=List.append_of_mem h
 exact .bQ (aO.left (A:=[x]))
end
end Go.Sx
set_option maxRecDepth 100000
namespace Go.Proofs
open Go Go.Sx
open bc
theorem KZ{B:Hp}{v1 v2:Value}{p q:List Nat}{n:Nat}(h1:cE .i64 B v1 (iw p))(h2:cE .i64 B v2 (iw q))(hp:p.Perm (List.range n))(hq:q.Perm (List.range n))(hn:n≤64):
  Fc Tryz.prog 102 #[v1,v2] B (fun r H=>∃s C,r=.tuple #[s,.int .i64 0]∧H=C++B∧aQ 3 .i64 s (iw (path p q)) C):=by
 have e1:p.length=n:=by rw[hp.length_eq,List.length_range]
 have e2:q.length=n:=by rw[hq.length_eq,List.length_range]
 have gW:q.Nodup:=hq.nodup_iff.2 List.nodup_range
 have hpq:=hp.trans hq.symm
 intro g
 refine EW (R:=aE _) ?_
 unfold L102
 refine ag.rd .here (Qu h1 h2 hp hq hn) ?_
 rintro v rfl
 refine ae.gj (Br.cq (by decide) ?_)
 refine ag.fn .here (tS h1 (by rw[an];omega)) ?_
 rintro va H ⟨CA,rfl,hA⟩
 refine h2.aS ?_
 rw[an]
 refine⟨fun vs H=>∃(i:Nat) (w9:Value) (C N:Hp),vs=[w9,.int .i64 (i:Int)]∧i≤n∧H=C++(N++B)∧aQ 3 .i64 w9 (iw (de p q i)) C∧aQ 3 .i64 va (iw (aC p (de p q i))) N,fun vs _=>n-bg vs 1,
  JE.mk ⟨0,_,[],CA,rfl,Nat.zero_le _,rfl,aQ.nil,hA⟩,?_⟩
 rintro w9 eY H ⟨i,u9,C,N,hv,hi,rfl,ho,hw⟩ gs
 simp only[List.cons.injEq,and_true]at hv
 obtain⟨rfl,rfl⟩:=hv
 refine ae.dL (Br.dec (fun hlt=>?_) (fun hlt=>?_))
 rotate_left
 ·obtain rfl:i=q.length:=by omega
  exact aE.mk (.cJ .right _) ⟨w9,C,rfl,rfl,ho⟩
 have spec:=gO gW hpq i (by omega)
 obtain⟨s1,s2,s3⟩:=spec
 obtain⟨s4,s5⟩:=s3 hlt
 have Ww:=j3 gW hpq (i+1) (by omega)
 have q6:(i+1)*p.length≤64*64:=Nat.mul_le_mul (by omega) (by omega)
 refine h2.ld (n:=((q.getD i 0:Nat):Int)) (bE hlt) (fun _ h=>List.mem_append_right _ (List.mem_append_right _ h)) ?_
 have hmem:q.getD i 0∈aC p (de p q i):=by
  have:q.getD i 0∈q:=by rw[List.getD_eq_getElem?_getD,List.getElem?_eq_getElem hlt];exact List.getElem_mem _
  exact((gM s1).trans hpq).mem_iff.2 this
 refine ag.rd (.app .left) (GR hw.ints (by rw[an,dQ];omega)) ?_
 rintro v rfl
 rw[if_pos (Bf.2 hmem),LG]
 refine⟨fun vs H=>∃(j:Nat) (u9:Value) (P:List Nat) (C N:Hp),vs=[u9,.int .i64 (j:Int)]∧i≤j∧j<n∧P++Aw i j=de p q (i+1)∧H=C++(N++B)∧aQ 3 .i64 u9 (iw P) C∧aQ 3 .i64 va (iw (aC p P)) N,fun vs _=>bg vs 1,
  JE.mk ⟨SW (aC p (de p q i)) (q.getD i 0),w9,de p q i,C,N,rfl,s4,by omega,rfl,rfl,ho,hw⟩,?_⟩
 rintro jz lN H ⟨j,u9,P,C2,N2,hv,hij,PT,hP,rfl,nr,mr⟩ gs
 simp only[List.cons.injEq,and_true]at hv
 obtain⟨rfl,rfl⟩:=hv
 refine ae.lQ (Br.dec (fun hgt=>?_) (fun hgt=>?_))
 ·obtain⟨j,rfl⟩:∃k,j=k+1:=⟨j-1,by omega⟩
  have hPl:P.length≤4096:=by
   have:=congrArg List.length hP
   rw[List.length_append]at this;omega
  have hlen:(aC p P).length=n:=by rw[dQ,e1]
  refine DR.self ?_
  refine ae.bC (b:=1) (by simp[az];omega) (by omega) ?_
  rw[Nat.add_sub_cancel]
  refine mr.ld (x:=(((aC p P).getD (j+1) 0:Nat):Int)) (bE (by omega)) (fun _ h=>List.mem_append_right _ (List.mem_append_left _ h)) ?_
  refine ae.bC (b:=1) (by simp[az];omega) (by omega) ?_
  rw[Nat.add_sub_cancel]
  refine mr.ld (x:=(((aC p P).getD j 0:Nat):Int)) (bE (by omega)) (fun _ h=>List.mem_append_right _ (List.mem_append_left _ h)) ?_
  refine mr.ju (x:=(((aC p P).getD (j+1) 0:Nat):Int)) (.app .left) (by rw[an];omega) fun N3 Tp=>?_
  refine Tp.ju (x:=(((aC p P).getD j 0:Nat):Int)) (.app .left) (by rw[List.length_set,an];omega) fun N4 hw4=>?_
  have e:((iw (aC p P)).set j (((aC p P).getD (j+1) 0:Nat):Int)).set (j+1) (((aC p P).getD j 0:Nat):Int)=iw (aC p (P++[j])):=by
   rw[dP];unfold ez;rw[fS,fS]
  rw[e]at hw4
  refine ae.bC (b:=1) (by simp[az];omega) (by omega) ?_
  rw[Nat.add_sub_cancel]
  refine ax.int (e:=3) (by kernel_rfl) (by kernel_rfl) (by kernel_rfl) fun bx=>?_
  refine nr.mK (.cons .left) (by exact .head _) (by rw[an];omega) (by rw[an];omega) fun v' C3 x6=>?_
  refine ae.bC (b:=1) (by simp[az];omega) (by omega) ?_
  rw[Nat.add_sub_cancel]
  refine ay.of .tail ⟨j,v',P++[j],C3,N4,rfl,by omega,by omega,?_,rfl,by rw[bO];exact x6,hw4⟩ ?_
  ·rw[←hP,mH (show i≤j by omega),List.append_assoc];rfl
  ·simp only[bg];omega
 ·obtain rfl:j=i:=by omega
  rw[tU (Nat.le_refl _),List.append_nil]at hP
  subst hP
  refine ae.aH (b:=1) (by simp[az];omega) ?_
  exact ay.of (.refl _) ⟨j+1,jz,C2,N2,rfl,by omega,rfl,nr,mr⟩ (by simp only[bg];omega)
end Go.Proofs
set_option maxRecDepth 100000
namespace Go.Proofs
open Go Go.Sx
open bc
def wk(b kp f d:Nat)(ok:Bool):Nat×Obj:=(b,.cells #[ptr kp,.int .i64 (f:Int),.int .i64 (d:Int),.bool ok] 260 (0,0))
section
variable {kp b f d:Nat} {K:Kd} {S:Nat→bc.Fn} {ord tr:List Nat} {C:Hp}
theorem GC(h:At kp K S ord tr C):Fc Tryz.prog 104 #[ptr kp] C (fun r H=>∃b,r=ptr b∧H=wk b kp tr.length 0 false::C):=by
 intro g
 refine EU (R:=aE _) ?_
 unfold L104
 refine ag.rd .here (mJ h) ?_
 rintro v rfl
 refine Build.mk (cs:=[ptr kp,.int .i64 ((tr.length:Nat):Int),.int .i64 0,.bool false]) (by kernel_rfl) ?_
 intro b _
 exact aE.here ⟨b,rfl,rfl⟩
theorem JR(h:At kp K S ord tr C){l:Nat}(hl:l+1<K.n)(g7:tr.length<1099511627776)(hf:gR K S ord l)(hd:d<4611686018427387904):
  Fc Tryz.prog 107 #[ptr b,.int .i64 (l:Int)] (wk b kp f d false::C) (fun r H=>r=.int .i64 0∧∃C',H=wk b kp f (d+1) false::C'∧At kp K S (ez ord l) (tr++[l]) C'):=by
 intro g
 refine uB (R:=aE _) ?_
 unfold L107
 refine Nil.ptr (aa.mk (Ld.mk (v:=ptr kp) (by exact .head _) rfl ?_))
 refine ag.fn (.cons .here) (sg h hl g7 hf) ?_
 rintro v C' ⟨rfl,h'⟩
 intro J hJ
 refine ae.kJ (Br.gI rfl ?_)
 refine Nil.ptr (aa.mk (Ld.mk (v:=.int .i64 (d:Int)) (by exact .head _) rfl ?_))
 refine ae.aH (b:=1) (by simp[az];omega) ?_
 refine Nil.ptr (aa.mk (St.one (by exact .head _) rfl (by simp) rfl ?_))
 exact JE.mk (hJ _ fun gs=>aE.here ⟨rfl,C',rfl,h'⟩)
theorem JS(h:At kp K S ord tr C){l:Nat}(hl:l+1<K.n)(g7:tr.length<1099511627776)(hf:¬gR K S ord l):
  Rd Tryz.prog 107 #[ptr b,.int .i64 (l:Int)] (wk b kp f d false::C) (· =.int .i64 9):=by
 intro g
 refine uB (R:=aE _) ?_
 unfold L107
 refine Nil.ptr (aa.mk (Ld.mk (v:=ptr kp) (by exact .head _) rfl ?_))
 refine ag.rd (.cons .here) (oE h hl g7 hf) ?_
 rintro v rfl
 intro J hJ
 refine ae.kJ (Br.cq (by decide) ?_)
 exact JE.mk (hJ _ fun gs=>bL.mk (.refl _) rfl)
theorem JU{ok:Bool}{path:List Nat}(h:At kp K S (aC ord path) (tr++path) C)(hp:∀l∈path,l+1<K.n)(g7:(tr++path).length<1099511627776)(hd:d<4611686018427387904):
  Fc Tryz.prog 108 #[ptr b] (wk b kp tr.length d ok::C) (fun r H=>r=.tuple #[]∧∃C',H=wk b kp tr.length (d+path.length) ok::C'∧At kp K S ord tr C'):=by
 have qt:path.length<1099511627776:=by rw[List.length_append]at g7;omega
 intro g
 refine ET (R:=aE _) ?_
 unfold L108
 refine DR.of (R:=[wk b kp tr.length d ok]) (aO.left (A:=[_]) (B:=C)) ?_
 refine Nil.ptr (aa.mk (Ld.mk (v:=ptr kp) (by exact .head _) rfl ?_))
 refine Nil.ptr (aa.mk (Ld.mk (v:=.int .i64 ((tr.length:Nat):Int)) (by exact .head _) rfl ?_))
 refine ag.fn (args:=#[ptr kp,.int .i64 ((tr.length+0:Nat):Int)]) (.cons .here) (Gj h hp (Nat.zero_le _) g7) ?_
 rintro v C' ⟨rfl,h'⟩
 rw[List.take_zero,List.append_nil]at h'
 refine⟨aO.left (A:=[_]) (B:=C'),?_⟩
 refine Ext.mk rfl (Ext.mk rfl ?_)
 refine Nil.ptr (aa.mk (Ld.mk (v:=.int .i64 (d:Int)) (by exact .head _) rfl ?_))
 refine ae.aH (by simp[az];omega) ?_
 refine Nil.ptr (aa.mk (St.one (by exact .head _) rfl (by simp) rfl ?_))
 exact aE.here ⟨rfl,C',rfl,h'⟩
theorem Gz:Rd Tryz.prog 105 #[ptr b] (wk b kp f d true::C) (· =.tuple #[]):=by
 intro g
 refine uC (R:=aE _) ?_
 unfold L105
 refine Nil.ptr (aa.mk (Ld.mk (v:=.bool true) (by exact .head _) rfl ?_))
 exact Un.not (Br.no (bL.mk (.refl _) rfl))
theorem GA{path:List Nat}(h:At kp K S (aC ord path) (tr++path) C)(hp:∀l∈path,l+1<K.n)(g7:(tr++path).length<1099511627776)(hd:d<4611686018427387904):
  Fc Tryz.prog 105 #[ptr b] (wk b kp tr.length d false::C) (fun r H=>r=.tuple #[]∧∃C',H=wk b kp tr.length (d+path.length) false::C'∧At kp K S ord tr C'):=by
 intro g
 refine uC (R:=aE _) ?_
 unfold L105
 refine Nil.ptr (aa.mk (Ld.mk (v:=.bool false) (by exact .head _) rfl ?_))
 refine Un.not (Br.yes ?_)
 refine ag.fn .here (JU h hp g7 hd) ?_
 rintro v H ⟨rfl,C',rfl,h'⟩
 exact aE.here ⟨rfl,C',rfl,h'⟩
theorem Nl(h:At kp K S ord tr C){v:Nat}(hv:v<K.n):Rd Tryz.prog 46 #[ptr kp,.int .i64 (v:Int)] C (fun r=>∃p,p<K.n∧ord.getD p 0=v∧r=.tuple #[.int .i64 (p:Int),.int .i64 0]):=by
 obtain⟨K',S',fu,h,hk⟩:=h
 obtain⟨b,rfl,hO⟩:=h.rep
 have hn:=hO.uH
 have xj:v<K'.n:=by rw[hk.n];exact hv
 have hlen:v<fu.length:=by rw[hO.ol.2];exact xj
 intro g
 refine Ja (R:=aE _) ?_
 unfold L46
 refine ae.aJ (Br.no ?_)
 refine ag.rd .here (xe h.rep (v:Int)) ?_
 rintro r rfl
 rw[decide_eq_true (by omega)]
 refine Un.not (Br.no ?_)
 refine Nil.ptr (aa.mk (Ld.mk (v:=b.vl) (by exact .head _) rfl ?_))
 refine hO.lv.ld (x:=((fu.getD v 0:Nat):Int)) (bE hlen) (cz.sub (.cons (.app (.app (.app (.app (.app .left))))))) ?_
 refine bL.mk (.refl _) ⟨fu.getD v 0,?_,?_,rfl⟩
 ·rw[←hk.n];exact h.ok.lv.lt v xj
 ·exact h.od.of h.ok.lv xj
def Gn(kp:Nat)(K:Kd)(S:Nat→bc.Fn)(ord tr ls:List Nat)(r:Value)(C:Hp):Prop:=
 ((rm K S).can ord ls=true∧r=.tuple #[.int .i64 ((ls.length:Nat):Int),.int .i64 0]∧At kp K S (aC ord ls) (tr++ls) C)∨
 ((rm K S).can ord ls=false∧r=.tuple #[.int .i64 ((2*((rm K S).cH 0 ls ord).length:Nat):Int),.int .i64 9]∧At kp K S ord tr C)
theorem Pf{Y:Hp}{v:Value}{ls:List Nat}(h:At kp K S ord tr C)(hI:cE .i64 Y v (iw ls))(hp:∀l∈ls,l+1<K.n)(g7:tr.length+ls.length<1099511627776):
  Fc Tryz.prog 103 #[ptr kp,v] (Y++C) (fun r H=>∃C',H=Y++C'∧Gn kp K S ord tr ls r C'):=by
 let m:=rm K S
 have hgl:=m.pG 0 ls ord
 have hpt:∀i,∀l∈ls.take i,l+1<K.n:=fun i l hl=>hp l (List.mem_of_mem_take hl)
 intro g
 refine EV (R:=aE _) ?_
 unfold L103
 intro b1 _
 refine ag.fn (.cons (.app .here)) (GC h) ?_
 rintro v3 H ⟨b,rfl,rfl⟩
 intro b5 _
 refine St.one (by exact .head _) rfl (by simp) rfl ?_
 refine hI.aS ?_
 rw[an]
 refine⟨fun vs H=>∃i C2,i≤(m.cH 0 ls ord).length∧vs=[.int .i64 (i:Int)]∧H=(b5,.cells #[ptr b] 169 (0,0))::(b1,.cells #[.int .i64 0] 3 (0,0))::(Y++(wk b kp tr.length i false::C2))∧At kp K S (aC ord (ls.take i)) (tr++ls.take i) C2,
  fun vs _=>ls.length-bg vs 0,JE.mk ⟨0,C,Nat.zero_le _,rfl,rfl,by simpa[aC]using h⟩,?_⟩
 rintro nJ H ⟨i,C2,hi,hv,rfl,h2⟩ gs
 simp only[List.cons.injEq,and_true]at hv
 subst hv
 have L6:(tr++ls.take i).length<1099511627776:=by rw[List.length_append,List.length_take];omega
 refine ae.dL (Br.dec (fun hlt=>?_) (fun hlt=>?_))
 ·refine hI.ld (n:=((ls.getD i 0:Nat):Int)) (bE hlt) (fun _ h=>.tail _ (.tail _ (List.mem_append_left _ h))) ?_
  have eg:ls.getD i 0=ls[i]:=by rw[List.getD_eq_getElem?_getD,List.getElem?_eq_getElem hlt];rfl
  have BC:ls.getD i 0+1<K.n:=by rw[eg];exact hp _ (List.getElem_mem hlt)
  have eq:ls[i]? =some (ls.getD i 0):=by rw[eg];exact List.getElem?_eq_getElem hlt
  refine Ld.mk (v:=ptr b) (by exact .head _) rfl ?_
  by_cases hg:i<(m.cH 0 ls ord).length
  ·have hf:gR K S (aC ord (ls.take i)) (ls.getD i 0):=ob.1 (m.MF hg eq)
   refine ag.fn (.cons (.cons (.app .here))) (JR h2 BC L6 hf (by omega)) ?_
   rintro r H ⟨rfl,C3,rfl,h3⟩
   refine ae.gj (Br.cq (by decide) ?_)
   refine ae.aH (b:=1) (by simp[az];omega) ?_
   refine ay.mk ⟨i+1,C3,hg,rfl,rfl,?_⟩ (by simp only[bg];omega)
   have e:ls.take (i+1)=ls.take i++[ls.getD i 0]:=by rw[List.take_add_one,eq];rfl
   rw[e,dP,←List.append_assoc];exact h3
  ·obtain rfl:i=(m.cH 0 ls ord).length:=by omega
   have hf:¬gR K S (aC ord (ls.take (m.cH 0 ls ord).length)) (ls.getD (m.cH 0 ls ord).length 0):=fun hf=>by
    have h8:=m.HW eq
    have h9:=ob.2 hf
    rw[show(rm K S).fit _ _=false from h8]at h9;cases h9
   refine ag.rd (.cons (.cons (.app .here))) (JS h2 BC L6 hf) ?_
   rintro r rfl
   refine ae.gj (Br.gI (by decide) ?_)
   refine St.one (by exact .tail (.head _)) rfl (by simp) rfl ?_
   refine rC (R:=_) ?_
   unfold L180
   refine Ld.mk (v:=ptr b) (by exact .head _) rfl ?_
   refine ag.fn (.cons (.cons (.app .here))) (GA h2 (hpt _) L6 (by omega)) ?_
   rintro r H ⟨rfl,C3,rfl,h3⟩
   refine Ld.mk (v:=ptr b) (by exact .head _) rfl ?_
   have eD:(m.cH 0 ls ord).length+(ls.take (m.cH 0 ls ord).length).length=2*(m.cH 0 ls ord).length:=by rw[List.length_take];omega
   rw[eD]
   refine Nil.ptr (aa.mk (Ld.mk (v:=.int .i64 ((2*(m.cH 0 ls ord).length:Nat):Int)) (by exact .tail _ (.tail _ (List.mem_append_right _ (.head _)))) rfl ?_))
   refine St.one (by exact .tail (.head _)) rfl (by simp) rfl ?_
   refine⟨⟨_,rfl⟩,?_⟩
   refine Ld.mk (v:=.int .i64 ((2*(m.cH 0 ls ord).length:Nat):Int)) (by exact .tail _ (.head _)) rfl ?_
   refine aE.mk (.skip (.skip (.cJ .tail _))) ⟨C3,rfl,.inr ⟨decide_eq_false (show¬(m.cH 0 ls ord).length=ls.length by omega),rfl,h3⟩⟩
 ·have BE:i=ls.length:=by omega
  subst BE
  rw[List.take_length]at h2
  have hcan:(rm K S).can ord ls=true:=decide_eq_true (show(m.cH 0 ls ord).length=ls.length by omega)
  refine Ld.mk (v:=ptr b) (by exact .head _) rfl ?_
  refine Nil.ptr (aa.mk (St.one (cK.tail (cK.tail (cK.bP (.head _) _))) rfl (by simp) rfl ?_))
  refine St.one (by exact .tail (.head _)) rfl (by simp) rfl ?_
  refine rC (R:=_) ?_
  unfold L180
  refine Ld.mk (v:=ptr b) (by exact .head _) rfl ?_
  refine ag.rd (B:=wk b kp tr.length ls.length true::C2) (.cons (.cons (.app .here))) Gz ?_
  rintro r rfl
  refine Ld.mk (v:=ptr b) (by exact .head _) rfl ?_
  refine Nil.ptr (aa.mk (Ld.mk (v:=.int .i64 ((ls.length:Nat):Int)) (by exact .tail _ (.tail _ (List.mem_append_right _ (.head _)))) rfl ?_))
  refine St.one (by exact .tail (.head _)) rfl (by simp) rfl ?_
  refine⟨⟨_,rfl⟩,?_⟩
  refine Ld.mk (v:=.int .i64 ((ls.length:Nat):Int)) (by exact .tail _ (.head _)) rfl ?_
  refine aE.mk (.skip (.skip (.cJ .tail _))) ⟨C2,rfl,.inl ⟨hcan,rfl,h2⟩⟩
end
section
variable {kp b f d:Nat} {K:Kd} {S:Nat→bc.Fn} {ord tr:List Nat} {C:Hp}
theorem Gn.tup{ls:List Nat}{r:Value}(h:Gn kp K S ord tr ls r C):∃x y,r=.tuple #[x,y]:=by
 rcases h with⟨_,rfl,_⟩|⟨_,rfl,_⟩<;>exact⟨_,_,rfl⟩
theorem Lb{Y:Hp}{v:Value}{q:List Nat}(h:At kp K S ord tr C)(hI:cE .i64 Y v (iw q))(N7:ord.Perm (List.range K.n))(hpq:q.Perm (List.range K.n))(g7:tr.length<549755813888):
  Fc Tryz.prog 42 #[ptr kp,v] (Y++C) (fun r H=>∃C',H=Y++C'∧Gn kp K S ord tr (path ord q) r C'):=by
 have hn:=h.uH
 have zj:ord.length=K.n:=by rw[N7.length_eq,List.length_range]
 have hql:q.length=K.n:=by rw[hpq.length_eq,List.length_range]
 have gW:q.Nodup:=hpq.nodup_iff.2 List.nodup_range
 intro g
 refine Jc (R:=aE _) ?_
 unfold L42
 refine ae.aJ (Br.no ?_)
 intro J2 Au
 refine ag.rd .left (qi hI (by rw[an];omega)) ?_
 rintro r (⟨rfl,ha,hl⟩|⟨_,_,hl⟩|⟨_,hno⟩)
 rotate_left
 ·rw[an]at hl;omega
 ·exact absurd (mP hpq) hno
 refine ae.gj (Split.go (by decide) ?_)
 refine hI.aS ?_
 refine ag.rd (.app .here) (lj h) ?_
 rintro r rfl
 refine ae.ql ?_
 rw[decide_eq_false (by rw[an];omega)]
 refine aD.mk (JE.mk (Au _ _ fun gs=>Br.no ?_))
 refine ag.fn (.app .here) (z8 h) ?_
 rintro vo H ⟨N,rfl,ho⟩
 refine ag.pre (H':=(N++Y)++C) (.perm (by rw[List.append_assoc,←List.append_assoc,←List.append_assoc];exact List.perm_append_comm.append_right C)) ?_
 refine ag.fn .left (KZ (ho.ints.mono fun _ h=>List.mem_append_left _ h) (hI.mono fun _ h=>List.mem_append_right _ h) N7 hpq hn) ?_
 rintro r H ⟨s,CP,rfl,rfl,hP⟩
 refine Ext.mk rfl (Ext.mk rfl (ae.gj (Br.cq (by decide) ?_)))
 obtain⟨_,qt⟩:=rX gW (N7.trans hpq.symm)
 have Wf:(path ord q).length≤4096:=by
  have:=j3 gW (N7.trans hpq.symm) q.length (Nat.le_refl _)
  have h2:q.length*ord.length≤64*64:=Nat.mul_le_mul (by omega) (by omega)
  unfold path;omega
 refine ag.fn .here (Pf h (hP.ints.mono fun _ h=>List.mem_append_left _ h) (fun x hx=>by have:=qt x hx;omega) (by omega)) ?_
 rintro r H ⟨C',rfl,hM⟩
 obtain⟨x,y,rfl⟩:=hM.tup
 refine Ext.mk rfl (Ext.mk rfl ?_)
 refine aE.mk ?_ ⟨C',rfl,hM⟩
 rw[List.append_assoc,List.append_assoc]
 exact aO.right.trans .right
def Pm(p:Nat):Nat→Nat→Nat
 |0,_=>p
 |_,k=>p-k
def HL(n p:Nat):Nat→Nat→Nat
 |0,k=>p+k
 |_,_=>n-1
end
end Go.Proofs
namespace bc
theorem qf{p j:Nat}(h:p≤j):road p (j+1)=road p j++[j]:=by
 unfold road
 rw[show p-(j+1)=0 by omega,show p-j=0 by omega,show j+1-p=(j-p)+1 by omega,List.range'_concat]
 simp;omega
theorem qg{p j:Nat}(h:j<p):road p j=road p (j+1)++[j]:=by
 unfold road
 rw[show j-p=0 by omega,show j+1-p=0 by omega,show p-j=(p-(j+1))+1 by omega,List.range'_succ]
 simp
theorem gN(p:Nat):road p p=[]:=by unfold road;simp
theorem Gd(m:Rm){Q:List Nat→Prop}(hs:∀ord l,Q ord→l+1<m.n→Q (ez ord l))(hf:∀ord l,Q ord→l+1<m.n→m.fit ord l=true):∀{ls:List Nat} {ord:List Nat},Q ord→(∀x∈ls,x+1<m.n)→m.can ord ls=true
 | [],_,_,_=>decide_eq_true rfl
 |l::ls,ord,hq,hl=>by
  have h1:=hl l (by simp)
  have ih:=Gd m hs hf (ls:=ls) (hs ord l hq h1) (fun x hx=>hl x (by simp[hx]))
  unfold Rm.can at ih⊢
  have:=of_decide_eq_true ih
  rw[Rm.cH,Nat.zero_add,if_pos (hf ord l hq h1),List.length_cons,List.length_cons,this]
  exact decide_eq_true rfl
end bc
set_option maxRecDepth 100000
namespace Go.Proofs
open Go Go.Sx
open bc
section
variable {kp gb n:Nat} {vr vf:Value} {refs:List Nat} {fs:List (List Nat)} {K:Kd} {S:Nat→bc.Fn} {ord tr:List Nat} {C Z:Hp}
theorem Fw{ord:List Nat}(hp:ord.Perm (List.range n)):∀i,i<n→ord.getD i 0<n:=fun i hi=>by
 have zj:ord.length=n:=by rw[hp.length_eq,List.length_range]
 have:ord.getD i 0∈ord:=by rw[List.getD_eq_getElem?_getD,List.getElem?_eq_getElem (by omega)];exact List.getElem_mem _
 exact List.mem_range.1 (hp.mem_iff.1 this)
end
end Go.Proofs
set_option maxRecDepth 100000
namespace Go.Proofs
open Go Go.Sx
section
open Go.ChangeShapes Go.WideShapes Go.Deep
variable {H:Type} {enc:TypeId×Value→H} {W:World} {base:Nat} {spare:Nat→Bool} {held:Bool}
theorem Pq{f:FuncId}{args:Array Value}{W:World}(h:Rd Tryz.prog f args (whole W) (· =.bool true)):
  Calls Tryz.prog f args W fun e W'=>e=.returned (.bool true)∧Go.RowKit.Below W.heap.size W W':=
 Th (h.mono fun _ _ ⟨h1,h2⟩=>⟨by rw[h1];exact .refl _,h2⟩)
end
end Go.Proofs
namespace bc
def Rm.uJ(m:Rm)(g:Nat)(ord:List Nat)(p:Nat)(dn:Bool):Nat→Nat→Nat→Nat→Nat×Nat×Nat
 |0,j,b,q=>(j,b,q)
 |k+1,j,b,q=>
  if m.fit (aC ord (road p j)) (bif dn then j else j-1)=true then
   if(if m.size (aC ord (road p (bif dn then j+1 else j-1)))<b then m.size (aC ord (road p (bif dn then j+1 else j-1)))else b)*g<m.size (aC ord (road p (bif dn then j+1 else j-1)))*100 then
    (bif dn then j+1 else j-1,if m.size (aC ord (road p (bif dn then j+1 else j-1)))<b then m.size (aC ord (road p (bif dn then j+1 else j-1)))else b,if m.size (aC ord (road p (bif dn then j+1 else j-1)))<b then(bif dn then j+1 else j-1)else q)
   else m.uJ g ord p dn k (bif dn then j+1 else j-1) (if m.size (aC ord (road p (bif dn then j+1 else j-1)))<b then m.size (aC ord (road p (bif dn then j+1 else j-1)))else b) (if m.size (aC ord (road p (bif dn then j+1 else j-1)))<b then(bif dn then j+1 else j-1)else q)
  else(j,b,q)
def dst(x y:Nat):Nat:=(x-y)+(y-x)
def Rm.rest(m:Rm)(dn:Bool)(j:Nat):Nat:=bif dn then m.n-1-j else j
def Rm.o6(m:Rm)(g:Nat)(ord:List Nat)(p:Nat):Nat×Nat:=
 let dn:=decide (m.n-1-p≤p)
 let a:=m.uJ g ord p dn (m.rest dn p) p (m.size ord) p
 let b:=m.uJ g ord p (!dn) (m.rest (!dn) p) p a.2.1 a.2.2
 (b.2.2,dst a.1 p+dst a.1 p+dst b.1 p+if b.2.2≠a.2.2 then dst b.1 b.2.2 else dst b.1 p+dst p b.2.2)
def Rm.cS(m:Rm)(g:Nat)(ord:List Nat):List Nat→List Nat×Nat
 | []=>([],0)
 |v::r=>let p:=ord.idxOf v;let a:=m.o6 g ord p;let b:=m.cS g (aC ord (road p a.1)) r;(road p a.1++b.1,a.2+b.2)
structure X5(m:Rm)(ord:List Nat)(p:Nat)(dn:Bool)(k j b q:Nat)(r:Nat×Nat×Nat):Prop where
 way:bif dn then j≤r.1∧r.1≤j+k else r.1≤j∧j≤r.1+k
 size:r.2.1=m.size (aC ord (road p r.2.2))
 new:(r.2.1=b∧r.2.2=q)∨(r.2.1<b∧bif dn then j<r.2.2∧r.2.2≤r.1 else r.1≤r.2.2∧r.2.2<j)
 fit:∀i,(bif dn then j≤i∧i<r.1 else r.1<i∧i≤j)→m.fit (aC ord (road p i)) (bif dn then i else i-1)=true
theorem Rm.tc(m:Rm)(g:Nat)(ord:List Nat)(p:Nat)(dn:Bool):∀k j b q,(dn=false→k≤j)→b=m.size (aC ord (road p q))→X5 m ord p dn k j b q (m.uJ g ord p dn k j b q)
 |0,j,b,q,hk,hb=>⟨by cases dn<;>simp[uJ],hb,.inl ⟨rfl,rfl⟩,fun i hi=>by cases dn<;>simp[uJ]at hi<;>omega⟩
 |k+1,j,b,q,hk,hb=>by
  rw[uJ]
  by_cases hf:m.fit (aC ord (road p j)) (bif dn then j else j-1)=true
  ·rw[if_pos hf]
   obtain⟨J,hJ⟩:∃J,J=bif dn then j+1 else j-1:=⟨_,rfl⟩
   rw[←hJ]
   obtain⟨s,hs⟩:∃s,s=m.size (aC ord (road p J)):=⟨_,rfl⟩
   rw[←hs]
   obtain⟨B,hB⟩:∃B,B=if s<b then s else b:=⟨_,rfl⟩
   obtain⟨Q,hQ⟩:∃Q,Q=if s<b then J else q:=⟨_,rfl⟩
   rw[←hB,←hQ]
   have hbq:(B=b∧Q=q)∨(B<b∧Q=J):=by
    by_cases h:s<b
    ·rw[if_pos h]at hB hQ;exact .inr ⟨by omega,hQ⟩
    ·rw[if_neg h]at hB hQ;exact .inl ⟨hB,hQ⟩
   have hb':B=m.size (aC ord (road p Q)):=by
    by_cases h:s<b
    ·rw[if_pos h]at hB hQ;rw[hB,hQ,hs]
    ·rw[if_neg h]at hB hQ;rw[hB,hQ,hb]
   clear hB hQ
   by_cases hg:B*g<s*100
   ·rw[if_pos hg]
    refine⟨?_,hb',?_,fun i hi=>?_⟩
    ·cases dn
     ·simp only[cond_false]at hJ⊢;have:=hk rfl;omega
     ·simp only[cond_true]at hJ⊢;omega
    ·cases dn
     ·simp only[cond_false]at hJ⊢;have:=hk rfl;omega
     ·simp only[cond_true]at hJ⊢;omega
    ·have:i=j:=by
      cases dn
      ·simp only[cond_false]at hi hJ;omega
      ·simp only[cond_true]at hi hJ;omega
     subst this;exact hf
   ·rw[if_neg hg]
    have ih:=m.tc g ord p dn k J B Q (fun h=>by subst h;have:=hk rfl;simp only[cond_false]at hJ;omega) hb'
    obtain⟨w1,w2,w3,w4⟩:=ih
    refine⟨?_,w2,?_,fun i hi=>?_⟩
    ·cases dn
     ·simp only[cond_false]at w1 hJ⊢;have:=hk rfl;omega
     ·simp only[cond_true]at w1 hJ⊢;omega
    ·cases dn
     ·simp only[cond_false]at w3 w1 hJ⊢
      have:=hk rfl
      omega
     ·simp only[cond_true]at w3 w1 hJ⊢
      omega
    ·by_cases e:i=j
     ·subst e;exact hf
     ·refine w4 i ?_
      cases dn
      ·simp only[cond_false]at hi hJ⊢;omega
      ·simp only[cond_true]at hi hJ⊢;omega
  ·rw[if_neg hf]
   exact⟨by cases dn<;>simp,hb,.inl ⟨rfl,rfl⟩,fun i hi=>by cases dn<;>simp at hi<;>omega⟩
structure XO(m:Rm)(ord:List Nat)(p:Nat)(r:Nat×Nat):Prop where
 lt:r.1<m.n
 le:m.size (aC ord (road p r.1))≤m.size ord
 stay:m.size (aC ord (road p r.1))=m.size ord→r.1=p
 KC:r.2≤3*(m.n-1)
theorem Rm.wR(m:Rm)(g:Nat){ord:List Nat}{p:Nat}(hp:p<m.n):XO m ord p (m.o6 g ord p):=by
 have ha:=m.tc g ord p (decide (m.n-1-p≤p)) (m.rest (decide (m.n-1-p≤p)) p) p (m.size ord) p (fun h=>by unfold Rm.rest;rw[h];exact Nat.le_refl _) (by rw[gN];rfl)
 unfold o6
 simp only
 generalize decide (m.n-1-p≤p)=dn at*
 generalize m.uJ g ord p dn (m.rest dn p) p (m.size ord) p=a at*
 have hb:=m.tc g ord p (!dn) (m.rest (!dn) p) p a.2.1 a.2.2 (fun h=>by unfold Rm.rest;rw[h];exact Nat.le_refl _) ha.size
 generalize m.uJ g ord p (!dn) (m.rest (!dn) p) p a.2.1 a.2.2=b at*
 obtain⟨a1,a2,a3,a4⟩:=ha
 obtain⟨b1,b2,b3,b4⟩:=hb
 unfold Rm.rest at a1 b1
 refine⟨?_,?_,fun h=>?_,?_⟩
 ·cases dn<;>simp only[cond_false,cond_true,Bool.not_false,Bool.not_true]at a1 b1 a3 b3<;>simp only<;>omega
 ·simp only;rw[←b2]
  cases dn<;>simp only[cond_false,cond_true,Bool.not_false,Bool.not_true]at a1 b1 a3 b3<;>omega
 ·simp only at h⊢;rw[←b2]at h
  cases dn<;>simp only[cond_false,cond_true,Bool.not_false,Bool.not_true]at a1 b1 a3 b3<;>omega
 ·unfold dst
  cases dn<;>simp only[cond_false,cond_true,Bool.not_false,Bool.not_true]at a1 b1 a3 b3<;>simp only<;>split<;>omega
end bc
namespace bc
section
variable {m:Rm} {g:Nat}
theorem Fu{p q:Nat}(hp:p<m.n)(hq:q<m.n):∀x∈road p q,x+1<m.n:=fun x hx=>yF hp hq hx
theorem Bw{ord:List Nat}{v n:Nat}(hp:ord.Perm (List.range n))(hv:v<n):ord.idxOf v<n:=by
 have h1:v∈ord:=hp.mem_iff.2 (List.mem_range.2 hv)
 have h2:=List.idxOf_lt_length_of_mem h1
 rwa [hp.length_eq,List.length_range]at h2
theorem oX{ord path:List Nat}{n:Nat}(hp:ord.Perm (List.range n))(h:∀x∈path,x+1<n):(aC ord path).Perm (List.range n):=
 (gM fun x hx=>by rw[hp.length_eq,List.length_range];exact h x hx).trans hp
structure Ug(m:Rm)(g:Nat)(ord l:List Nat)(r:List Nat×Nat):Prop where
 mem:∀x∈r.1,x+1<m.n
 le:m.size (aC ord r.1)≤m.size ord
 stay:m.size (aC ord r.1)=m.size ord→r.1=[]∧∀v∈l,(m.o6 g ord (ord.idxOf v)).1=ord.idxOf v
 KC:r.2≤3*(m.n-1)*l.length
 len:r.1.length≤m.n*l.length
theorem wQ:∀{l ord:List Nat},ord.Perm (List.range m.n)→(∀v∈l,v<m.n)→Ug m g ord l (m.cS g ord l)
 | [],ord,hp,hl=>⟨by simp[Rm.cS],Nat.le_refl _,fun _=>⟨rfl,by simp⟩,by simp[Rm.cS],by simp[Rm.cS]⟩
 |v::l,ord,hp,hl=>by
  have hv:=Bw hp (hl v (by simp))
  have h1:=m.wR g (ord:=ord) hv
  rw[Rm.cS]
  generalize hq:ord.idxOf v=p at*
  generalize hr:m.o6 g ord p=a at*
  obtain⟨a1,a2,a3,a4⟩:=h1
  have hin:=Fu hv a1
  have h2:=wQ (l:=l) (ord:=aC ord (road p a.1)) (oX hp hin) (fun x hx=>hl x (by simp[hx]))
  generalize m.cS g (aC ord (road p a.1)) l=b at*
  obtain⟨b1,b2,b3,b4,b5⟩:=h2
  have uL:=yG p a.1
  refine⟨fun x hx=>?_,?_,fun h=>?_,?_,?_⟩
  ·rcases List.mem_append.1 hx with h|h
   ·exact hin x h
   ·exact b1 x h
  ·rw[iV];omega
  ·rw[iV]at h
   have e:=a3 (by omega)
   rw[e,gN]at b3 h⊢
   obtain⟨c1,c2⟩:=b3 h
   refine⟨by rw[c1];rfl,fun u hu=>?_⟩
   rcases List.mem_cons.1 hu with rfl|hu
   ·rw[hq,hr];exact e
   ·exact c2 u hu
  ·rw[List.length_cons,Nat.mul_add,Nat.mul_one]
   show a.2+b.2≤_
   omega
  ·rw[List.length_append,List.length_cons,Nat.mul_add,Nat.mul_one];omega
theorem vB{v:Nat}:∀{l ord:List Nat},m.cS g ord (l++[v])=((m.cS g ord l).1++road ((aC ord (m.cS g ord l).1).idxOf v) (m.o6 g (aC ord (m.cS g ord l).1) ((aC ord (m.cS g ord l).1).idxOf v)).1,(m.cS g ord l).2+(m.o6 g (aC ord (m.cS g ord l).1) ((aC ord (m.cS g ord l).1).idxOf v)).2)
 | [],ord=>by simp[Rm.cS,aC]
 |u::l,ord=>by
  rw[List.cons_append,Rm.cS,Rm.cS]
  simp only
  rw[vB (l:=l)]
  simp only[iV,List.append_assoc,Nat.add_assoc]
end
end bc
set_option maxRecDepth 100000
namespace Go.Proofs
open Go Go.Sx
open bc
def gD(kp a b q gr sw:Nat)(la:Int)(st:Value):Array Value:=#[ptr kp,.int .i64 (a:Int),.int .i64 (b:Int),.int .i64 (q:Int),.int .i64 (gr:Int),.int .i64 (sw:Int),.int .i64 la,st]
def fb(wp:Nat)(c:Array Value):Nat×Obj:=(wp,.cells c 175 (0,0))
def n4(bx wp:Nat):Nat×Obj:=(bx,.cells #[ptr wp] 172 (0,0))
def UI(dn:Bool):Nat:=bif dn then 181 else 183
def vA(dn:Bool)(bx:Nat):Value:=.func (.func (UI dn)) #[] #[ptr bx]
def Aj:Hp→Nat
 |(_,.cells c _ _)::_=>bg c.toList 1
 |_=>0
section
variable {kp wp bx a b q gr sw p:Nat} {la:Int} {st:Value} {K:Kd} {S:Nat→bc.Fn} {ord o tr:List Nat} {C:Hp} {dn:Bool}
theorem KA{l a':Nat}{d:Int}(h:At kp K S ord tr C)(hl:l+1<K.n)(g7:tr.length<1099511627776)(hf:gR K S ord l)(ha:(a:Int)+d=(a':Int))(hb:a'<1024)(FM:sw<4611686018427387904):
  Fc Tryz.prog 182 #[ptr wp,.int .i64 (l:Int),.int .i64 d] (fb wp (gD kp a b q gr sw la st)::C) (fun v H=>v=.int .i64 0∧∃C',H=fb wp (gD kp a' b q gr (sw+1) la st)::C'∧At kp K S (ez ord l) (tr++[l]) C'):=by
 intro g
 refine ur (R:=aE _) ?_
 unfold L182
 refine Nil.ptr (aa.mk (Ld.mk (v:=ptr kp) (by exact .head _) rfl ?_))
 refine ag.fn (.cons .here) (sg h hl g7 hf) ?_
 rintro v C' ⟨rfl,h'⟩
 intro J6 h6
 refine ae.kJ (Br.gI rfl ?_)
 refine Nil.ptr (aa.mk (Ld.mk (v:=.int .i64 (sw:Int)) (by exact .head _) rfl ?_))
 refine ae.aH (b:=1) (by simp[az];omega) ?_
 refine Nil.ptr (aa.mk (St.one (c':=gD kp a b q gr (sw+1) la st) (by exact .head _) rfl (by simp[gD]) rfl ?_))
 refine Nil.ptr (aa.mk (Ld.mk (v:=.int .i64 (a:Int)) (by exact .head _) rfl ?_))
 refine ae.wm (c:=(a':Int)) ha (by omega) ?_
 refine Nil.ptr (aa.mk (St.one (c':=gD kp a' b q gr (sw+1) la st) (by exact .head _) rfl (by simp[gD]) rfl ?_))
 exact JE.mk (h6 _ fun gs=>aE.here ⟨rfl,C',rfl,h'⟩)
theorem Q0{l:Nat}{d:Int}(h:At kp K S ord tr C)(hl:l+1<K.n)(g7:tr.length<1099511627776)(hf:¬gR K S ord l):
  Rd Tryz.prog 182 #[ptr wp,.int .i64 (l:Int),.int .i64 d] (fb wp (gD kp a b q gr sw la st)::C) (· =.int .i64 9):=by
 intro g
 refine ur (R:=aE _) ?_
 unfold L182
 refine Nil.ptr (aa.mk (Ld.mk (v:=ptr kp) (by exact .head _) rfl ?_))
 refine ag.rd (.cons .here) (oE h hl g7 hf) ?_
 rintro v rfl
 intro J6 h6
 refine ae.kJ (Br.cq (by decide) ?_)
 exact JE.mk (h6 _ fun gs=>bL.mk (.refl _) rfl)
theorem qc(h:At kp K S ord tr C)(PR:1≤K.n):
  Fc Tryz.prog 110 #[ptr wp,.bool dn] (fb wp (gD kp a b q gr sw la st)::C) (fun v H=>v=.tuple #[]∧∃bx,H=fb wp (gD kp a b q gr sw (bif dn then((K.n-1:Nat):Int)else 0) (vA dn bx))::n4 bx wp::C):=by
 have hn:=h.uH
 intro g
 refine ER (R:=aE _) ?_
 unfold L110
 intro b1 _
 cases dn
 ·refine Br.no ?_
  refine Ld.mk (v:=ptr wp) (by exact .head _) rfl ?_
  refine Nil.ptr (aa.mk (St.one (c':=gD kp a b q gr sw 0 st) (by exact .tail (.head _)) rfl (by simp[gD]) rfl ?_))
  refine Ld.mk (v:=ptr wp) (by exact .head _) rfl ?_
  refine Nil.ptr (aa.mk (St.one (c':=gD kp a b q gr sw 0 (vA false b1)) (by exact .tail (.head _)) rfl (by simp[gD]) rfl ?_))
  exact aE.mk .swap ⟨rfl,b1,rfl⟩
 ·refine Br.yes ?_
  refine DR.self ?_
  refine Ld.mk (v:=ptr wp) (by exact .head _) rfl ?_
  refine Ld.mk (v:=ptr wp) (by exact .head _) rfl ?_
  refine Nil.ptr (aa.mk (Ld.mk (v:=ptr kp) (by exact .tail _ (.head _)) rfl ?_))
  intro F
  refine ag.rd (.cons (.cons .here)) (lj h) ?_
  rintro v rfl
  refine⟨.refl _,?_⟩
  refine ae.bC (b:=1) (by simp[az];omega) (by omega) ?_
  refine Nil.ptr (aa.mk fun F=>?_)
  refine St.one (c':=gD kp a b q gr sw ((K.n-1:Nat):Int) st) (by exact .tail (.head _)) rfl (by simp[gD]) rfl ?_
  refine Ld.mk (v:=ptr wp) (by exact .head _) rfl ?_
  refine Nil.ptr (aa.mk (St.one (c':=gD kp a b q gr sw ((K.n-1:Nat):Int) (vA true b1)) (by exact .tail (.head _)) rfl (by simp[gD]) rfl ?_))
  exact aE.mk .swap ⟨rfl,b1,rfl⟩
def nh(dn:Bool)(j:Nat):Nat:=bif dn then j+1 else j-1
def SN(dn:Bool)(j:Nat):Nat:=bif dn then j else j-1
theorem KR{j:Nat}(hs:bif dn then p≤j else 0<j∧j≤p):road p (nh dn j)=road p j++[SN dn j]:=by
 cases dn
 ·simp only[cond_false]at hs
  obtain⟨i,rfl⟩:∃i,j=i+1:=⟨j-1,by omega⟩
  exact qg hs.2
 ·exact qf hs
theorem yz{j:Nat}(h:At kp K S (aC o (road p j)) (tr++road p j) C)(hp:p<K.n)(hs:bif dn then p≤j∧j+1<K.n else 0<j∧j≤p)(g7:(tr++road p j).length<1099511627776)(hf:gR K S (aC o (road p j)) (SN dn j))(FM:sw<4611686018427387904):
  Fc Tryz.prog (UI dn) #[ptr bx] (fb wp (gD kp j b q gr sw la st)::n4 bx wp::C) (fun v H=>v=.int .i64 0∧∃C',H=fb wp (gD kp (nh dn j) b q gr (sw+1) la st)::n4 bx wp::C'∧At kp K S (aC o (road p (nh dn j))) (tr++road p (nh dn j)) C'):=by
 have hn:=h.uH
 have hr:=KR (p:=p) (dn:=dn) (j:=j) (by cases dn<;>simp only[cond_false,cond_true]at hs⊢ <;>omega)
 intro g
 rw[hr,dP,←List.append_assoc]
 cases dn
 ·simp only[cond_false]at hs
  refine uo (R:=aE _) ?_
  unfold L183
  refine DR.self ?_
  refine Ld.mk (v:=ptr wp) (by exact .tail _ (.head _)) rfl ?_
  refine Ld.mk (v:=ptr wp) (by exact .tail _ (.head _)) rfl ?_
  refine Nil.ptr (aa.mk (Ld.mk (v:=.int .i64 (j:Int)) (by exact .head _) rfl ?_))
  refine ae.bC (b:=1) (by simp[az];omega) (by omega) ?_
  intro F
  refine ag.pre .swap ?_
  refine ag.fn (.cons .here) (KA (a':=j-1) h (by omega) g7 hf (by omega) (by omega) FM) ?_
  rintro v H ⟨rfl,C',rfl,h'⟩
  exact aE.mk .swap ⟨rfl,C',rfl,h'⟩
 ·simp only[cond_true]at hs
  refine uu (R:=aE _) ?_
  unfold L181
  refine DR.self ?_
  refine Ld.mk (v:=ptr wp) (by exact .tail _ (.head _)) rfl ?_
  refine Ld.mk (v:=ptr wp) (by exact .tail _ (.head _)) rfl ?_
  refine Nil.ptr (aa.mk (Ld.mk (v:=.int .i64 (j:Int)) (by exact .head _) rfl ?_))
  intro F
  refine ag.pre .swap ?_
  refine ag.fn (.cons .here) (KA (a':=j+1) h (by omega) g7 hf (by omega) (by omega) FM) ?_
  rintro v H ⟨rfl,C',rfl,h'⟩
  exact aE.mk .swap ⟨rfl,C',rfl,h'⟩
theorem OW{j:Nat}(h:At kp K S ord tr C)(hs:bif dn then j+1<K.n else 0<j∧j<K.n)(g7:tr.length<1099511627776)(hf:¬gR K S ord (SN dn j)):
  Rd Tryz.prog (UI dn) #[ptr bx] (fb wp (gD kp j b q gr sw la st)::n4 bx wp::C) (· =.int .i64 9):=by
 have hn:=h.uH
 intro g
 cases dn
 ·simp only[cond_false]at hs
  refine uo (R:=aE _) ?_
  unfold L183
  refine DR.self ?_
  refine Ld.mk (v:=ptr wp) (by exact .tail _ (.head _)) rfl ?_
  refine Ld.mk (v:=ptr wp) (by exact .tail _ (.head _)) rfl ?_
  refine Nil.ptr (aa.mk (Ld.mk (v:=.int .i64 (j:Int)) (by exact .head _) rfl ?_))
  refine ae.bC (b:=1) (by simp[az];omega) (by omega) ?_
  intro F
  refine ag.pre .swap ?_
  refine ag.rd (.cons .here) (Q0 h (by omega) g7 hf) ?_
  rintro v rfl
  exact bL.mk .swap rfl
 ·simp only[cond_true]at hs
  refine uu (R:=aE _) ?_
  unfold L181
  refine DR.self ?_
  refine Ld.mk (v:=ptr wp) (by exact .tail _ (.head _)) rfl ?_
  refine Ld.mk (v:=ptr wp) (by exact .tail _ (.head _)) rfl ?_
  refine Nil.ptr (aa.mk (Ld.mk (v:=.int .i64 (j:Int)) (by exact .head _) rfl ?_))
  intro F
  refine ag.pre .swap ?_
  refine ag.rd (.cons .here) (Q0 h (by omega) g7 hf) ?_
  rintro v rfl
  exact bL.mk .swap rfl
theorem yx(dn:Bool):cP Tryz.prog (UI dn)=true:=by cases dn<;>kernel_rfl
theorem oa{n j:Nat}(hn:n≤64)(hp:p<n)(hj:j<n):(road p j).length≤64:=by rw[yG];omega
theorem KM(h0:At kp K S o tr C)(hp:p<K.n)(q7:100≤gr∧gr≤1000)(hb:b≤1048576)(FM:sw<1099511627776)(g7:tr.length<549755813888)(hla:la=bif dn then((K.n-1:Nat):Int)else 0){r:Nat×Nat×Nat}(hr:(rm K S).uJ gr o p dn ((rm K S).rest dn p) p b q=r):
  Fc Tryz.prog 111 #[ptr wp] (fb wp (gD kp p b q gr sw la (vA dn bx))::n4 bx wp::C) (fun v H=>v=.tuple #[]∧∃C',H=fb wp (gD kp r.1 r.2.1 r.2.2 gr (sw+dst r.1 p) la (vA dn bx))::n4 bx wp::C'∧At kp K S (aC o (road p r.1)) (tr++road p r.1) C'):=by
 have hn:=h0.uH
 intro g
 refine EP (R:=aE _) ?_
 unfold L111
 refine⟨fun vs H=>∃(k j b' q':Nat) (C':Hp),vs=[]∧H=fb wp (gD kp j b' q' gr (sw+dst j p) la (vA dn bx))::n4 bx wp::C'∧At kp K S (aC o (road p j)) (tr++road p j) C'∧k=(rm K S).rest dn j∧(bif dn then p≤j∧j<K.n else j≤p)∧b'≤1048576∧(rm K S).uJ gr o p dn k j b' q'=r,
  fun _ H=>bif dn then K.n-Aj H else Aj H,JE.mk ⟨_,p,b,q,C,rfl,by simp[dst],by rw[gN,List.append_nil];exact h0,rfl,by cases dn<;>simp[hp],hb,hr⟩,?_⟩
 rintro H ⟨k,j,b',q',C',_,rfl,hA,hk,hs,hb',rM⟩ gs
 have PT:j<K.n:=by cases dn<;>simp only[cond_false,cond_true]at hs<;>omega
 have BM:dst j p≤64:=by unfold dst;omega
 have uL:=oa hn hp PT
 have LJ:(tr++road p j).length<1099511627776:=by rw[List.length_append];omega
 have LP:(rm K S).n=K.n:=rfl
 have hsz:∀o:List Nat,(rm K S).size o=bW K S o:=fun _=>rfl
 intro J5 h5
 have fin:r=(j,b',q')→J5 [.bool false] (fb wp (gD kp j b' q' gr (sw+dst j p) la (vA dn bx))::n4 bx wp::C'):=fun e=>h5 _ _ fun gs=>Br.no (aE.here ⟨rfl,C',by rw[e],by rw[e];exact hA⟩)
 refine DR.self ?_
 refine Nil.ptr (aa.mk (Ld.mk (v:=.int .i64 (j:Int)) (by exact .head _) rfl ?_))
 refine Nil.ptr (aa.mk (Ld.mk (v:=.int .i64 la) (by exact .head _) rfl ?_))
 refine ae.gj (Br.dec (fun hne=>?_) (fun heq=>?_))
 rotate_left
 ·have hk0:k=0:=by
   rw[hk];unfold Rm.rest
   cases dn<;>simp only[cond_false,cond_true]at hla⊢ <;>omega
  subst hk0
  exact JE.mk (fin rM.symm)
 have mw:bif dn then j+1<K.n else 0<j:=by
  cases dn<;>simp only[cond_false,cond_true]at hla⊢ <;>omega
 obtain⟨k',hk'⟩:∃k',k=k'+1:=by
  refine⟨k-1,?_⟩
  rw[hk];unfold Rm.rest
  cases dn<;>simp only[cond_false,cond_true]at mw⊢ <;>omega
 subst hk'
 rw[Rm.uJ]at rM
 change (if(rm K S).fit (aC o (road p j)) (SN dn j)=true then _ else _)=r at rM
 refine Nil.ptr (aa.mk (Ld.mk (v:=vA dn bx) (by exact .head _) rfl ?_))
 intro F
 refine fm.of (f:=UI dn) rfl (yx dn) ?_
 by_cases hf:gR K S (aC o (road p j)) (SN dn j)
 rotate_left
 ·refine ag.rd (args:=#[ptr bx]) .here (OW hA (by cases dn<;>simp only[cond_false,cond_true]at mw⊢ <;>omega) LJ hf) ?_
  rintro v rfl
  refine ae.kJ (aD.mk ?_)
  rw[if_neg (fun h=>hf (ob.1 h))]at rM
  exact JE.mk (fin rM.symm)
 refine ag.fn (args:=#[ptr bx]) .here (yz hA hp (by cases dn<;>simp only[cond_false,cond_true]at mw hs⊢ <;>omega) LJ hf (by omega)) ?_
 rintro v H ⟨rfl,C2,rfl,qv⟩
 refine ae.kJ (aD.mk ?_)
 rw[if_pos (show(rm K S).fit (aC o (road p j)) (SN dn j)=true from ob.2 hf)]at rM
 change (if(if(rm K S).size (aC o (road p (nh dn j)))<b' then(rm K S).size (aC o (road p (nh dn j)))else b')*gr<(rm K S).size (aC o (road p (nh dn j)))*100 then(nh dn j,if(rm K S).size (aC o (road p (nh dn j)))<b' then(rm K S).size (aC o (road p (nh dn j)))else b',if(rm K S).size (aC o (road p (nh dn j)))<b' then nh dn j else q')else(rm K S).uJ gr o p dn k' (nh dn j) (if(rm K S).size (aC o (road p (nh dn j)))<b' then(rm K S).size (aC o (road p (nh dn j)))else b') (if(rm K S).size (aC o (road p (nh dn j)))<b' then nh dn j else q'))=r at rM
 have hle:=tX qv
 rw[hsz]at rM
 have aaU:sw+dst j p+1=sw+dst (nh dn j) p:=by unfold dst nh;cases dn<;>simp only[cond_false,cond_true]at mw hs⊢ <;>omega
 rw[aaU]
 have hnk:k'=(rm K S).rest dn (nh dn j):=by
  unfold Rm.rest at hk⊢;unfold nh
  cases dn<;>simp only[cond_false,cond_true]at mw hk⊢ <;>omega
 have Wm:bif dn then p≤nh dn j∧nh dn j<K.n else nh dn j≤p:=by
  unfold nh
  cases dn<;>simp only[cond_false,cond_true]at mw hs⊢ <;>omega
 have YQ:(bif dn then K.n-nh dn j else nh dn j)<(bif dn then K.n-j else j):=by
  unfold nh
  cases dn<;>simp only[cond_false,cond_true]at mw⊢ <;>omega
 generalize hj':nh dn j=j' at*
 generalize hs':bW K S (aC o (road p j'))=s at*
 have Wn:∀b2 q2,Aj (fb wp (gD kp j b' q' gr (sw+dst j p) la (vA dn bx))::n4 bx wp::C')=j∧∀C2,Aj (fb wp (gD kp j' b2 q2 gr (sw+dst j' p) la (vA dn bx))::n4 bx wp::C2)=j':=fun b2 q2=>⟨by simp[Aj,fb,gD,bg],fun C2=>by simp[Aj,fb,gD,bg]⟩
 refine JE.mk (h5 _ _ fun gs=>Br.yes ?_)
 refine Nil.ptr (aa.mk (Ld.mk (v:=ptr kp) (by exact .head _) rfl ?_))
 refine ag.rd (.cons (.cons .here)) (dF qv) ?_
 rintro v rfl
 rw[hs']
 intro rS h14
 have next:∀b2 q2,b2≤1048576→(if b2*gr<s*100 then(j',b2,q2)else(rm K S).uJ gr o p dn k' j' b2 q2)=r→rS [] (fb wp (gD kp j' b2 q2 gr (sw+dst j' p) la (vA dn bx))::n4 bx wp::C2):=by
  intro b2 q2 U2 q6
  refine h14 _ fun gs=>?_
  have FN:b2*gr≤1048576*1000:=Nat.mul_le_mul U2 q7.2
  refine ae.g6 (b:=100) (by simp only[az];omega) ?_
  refine Nil.ptr (aa.mk (Ld.mk (v:=.int .i64 (b2:Int)) (by exact .head _) rfl ?_))
  refine Nil.ptr (aa.mk (Ld.mk (v:=.int .i64 (gr:Int)) (by exact .head _) rfl ?_))
  refine ae.g6 (by simp only[az];omega) ?_
  refine ae.lQ (Br.dec (fun hgt=>?_) (fun hgt=>?_))
  ·rw[if_pos hgt]at q6
   subst q6
   exact aE.here ⟨rfl,C2,rfl,qv⟩
  ·rw[if_neg hgt]at q6
   refine ay.mk ⟨k',j',b2,q2,C2,rfl,rfl,qv,hnk,Wm,U2,q6⟩ ?_
   rw[(Wn b2 q2).1,(Wn b2 q2).2]
   exact YQ
 refine Nil.ptr (aa.mk (Ld.mk (v:=.int .i64 (b':Int)) (by exact .head _) rfl ?_))
 refine ae.dL (Br.dec (fun hlt=>?_) (fun hlt=>?_))
 ·rw[if_pos hlt,if_pos hlt]at rM
  refine Nil.ptr (aa.mk (Ld.mk (v:=.int .i64 (j':Int)) (by exact .head _) rfl ?_))
  refine Nil.ptr (aa.mk (St.one (c':=gD kp j' s q' gr (sw+dst j' p) la (vA dn bx)) (by exact .head _) rfl (by simp[gD]) rfl ?_))
  refine Nil.ptr (aa.mk (St.one (c':=gD kp j' s j' gr (sw+dst j' p) la (vA dn bx)) (by exact .head _) rfl (by simp[gD]) rfl ?_))
  exact JE.mk (next _ _ (by omega) rM)
 ·rw[if_neg hlt,if_neg hlt]at rM
  exact JE.mk (next _ _ hb' rM)
theorem wI{j t:Nat}(h:At kp K S (aC o (road p j)) (tr++road p j) C)(zj:o.length=K.n)(hp:p<K.n)(hjt:(p≤t∧t≤j∧j<K.n)∨(j≤t∧t≤p))(FM:sw<1099511627776)(g7:tr.length<549755813888):
  Fc Tryz.prog 112 #[ptr wp,.int .i64 (t:Int)] (fb wp (gD kp j b q gr sw la st)::C) (fun v H=>v=.tuple #[]∧∃C',H=fb wp (gD kp t b q gr (sw+dst j t) la st)::C'∧At kp K S (aC o (road p t)) (tr++road p t) C'):=by
 have hn:=h.uH
 intro g
 refine EO (R:=aE _) ?_
 unfold L112
 refine⟨fun vs H=>∃(i:Nat) (C':Hp),vs=[]∧H=fb wp (gD kp i b q gr (sw+dst j i) la st)::C'∧At kp K S (aC o (road p i)) (tr++road p i) C'∧((p≤t∧t≤i∧i≤j∧j<K.n)∨(j≤i∧i≤t∧t≤p)),
  fun _ H=>dst (Aj H) t,JE.mk ⟨j,C,rfl,by simp[dst],h,by omega⟩,?_⟩
 rintro H ⟨i,C',_,rfl,hA,hs⟩ gs
 have hin:i<K.n:=by omega
 have hdi:dst j i≤64:=by unfold dst;omega
 have uL:=oa hn hp hin
 have By:∀i sw C',Aj (fb wp (gD kp i b q gr sw la st)::C')=i:=fun i sw C'=>by simp[Aj,fb,gD,bg]
 refine Nil.ptr (aa.mk (Ld.mk (v:=.int .i64 (i:Int)) (by exact .head _) rfl ?_))
 refine ae.ql (Br.dec (fun hne=>?_) (fun heq=>?_))
 rotate_left
 ·obtain rfl:i=t:=by omega
  exact aE.here ⟨rfl,C',rfl,hA⟩
 refine Nil.ptr (aa.mk (Ld.mk (v:=ptr kp) (by exact .head _) rfl ?_))
 rcases hs with hs|hs
 ·obtain⟨i,rfl⟩:∃i',i=i'+1:=⟨i-1,by omega⟩
  rw[qf (by omega),dP,←List.append_assoc]at hA
  refine ag.fn (.cons .here) (xO hA (by rw[qf (by omega),List.length_append,List.length_singleton]at uL;rw[List.length_append];omega)) ?_
  rintro w C2 ⟨rfl,qv⟩
  rw[oY (by rw[dQ,zj];omega)]at qv
  refine Ext.mk rfl (Ext.mk rfl ?_)
  refine Nil.ptr (aa.mk (Ld.mk (v:=.int .i64 ((sw+dst j (i+1):Nat):Int)) (by exact .head _) rfl ?_))
  refine ae.aH (b:=1) (by simp[az];omega) ?_
  refine Nil.ptr (aa.mk (St.one (c':=gD kp (i+1) b q gr (sw+dst j (i+1)+1) la st) (by exact .head _) rfl (by simp[gD]) rfl ?_))
  refine Nil.ptr (aa.mk (Ld.mk (v:=.int .i64 ((i+1:Nat):Int)) (by exact .head _) rfl ?_))
  refine ae.dL (Br.gI (by omega) ?_)
  refine Nil.ptr (aa.mk (St.one (c':=gD kp i b q gr (sw+dst j (i+1)+1) la st) (by exact .head _) rfl (by simp[gD]) rfl ?_))
  refine ay.mk ⟨i,C2,rfl,by rw[show sw+dst j (i+1)+1=sw+dst j i by unfold dst;omega];rfl,qv,by omega⟩ ?_
  show dst (Aj (fb wp (gD kp i b q gr (sw+dst j (i+1)+1) la st)::C2)) t<dst (Aj (fb wp (gD kp (i+1) b q gr (sw+dst j (i+1)) la st)::C')) t
  rw[By,By];unfold dst;omega
 ·rw[qg (by omega),dP,←List.append_assoc]at hA
  refine ag.fn (.cons .here) (xO hA (by rw[qg (by omega),List.length_append,List.length_singleton]at uL;rw[List.length_append];omega)) ?_
  rintro w C2 ⟨rfl,qv⟩
  rw[oY (by rw[dQ,zj];omega)]at qv
  refine Ext.mk rfl (Ext.mk rfl ?_)
  refine Nil.ptr (aa.mk (Ld.mk (v:=.int .i64 ((sw+dst j i:Nat):Int)) (by exact .head _) rfl ?_))
  refine ae.aH (b:=1) (by simp[az];omega) ?_
  refine Nil.ptr (aa.mk (St.one (c':=gD kp i b q gr (sw+dst j i+1) la st) (by exact .head _) rfl (by simp[gD]) rfl ?_))
  refine Nil.ptr (aa.mk (Ld.mk (v:=.int .i64 (i:Int)) (by exact .head _) rfl ?_))
  refine ae.dL (Br.cq (by omega) ?_)
  refine ae.aH (b:=1) (by simp[az];omega) ?_
  refine Nil.ptr (aa.mk (St.one (c':=gD kp (i+1) b q gr (sw+dst j i+1) la st) (by exact .head _) rfl (by simp[gD]) rfl ?_))
  refine ay.mk ⟨i+1,C2,rfl,by rw[show sw+dst j i+1=sw+dst j (i+1)by unfold dst;omega];rfl,qv,by omega⟩ ?_
  show dst (Aj (fb wp (gD kp (i+1) b q gr (sw+dst j i+1) la st)::C2)) t<dst (Aj (fb wp (gD kp i b q gr (sw+dst j i) la st)::C')) t
  rw[By,By];unfold dst;omega
end
end Go.Proofs
set_option maxRecDepth 100000
namespace Go.Proofs
open Go Go.Sx
open bc
section
variable {kp v gr:Nat} {K:Kd} {S:Nat→bc.Fn} {ord tr:List Nat} {C:Hp}
theorem sM(kp:Nat){gr:Int}(C:Hp):Rd Tryz.prog 109 #[ptr kp,.int .i64 gr] C (· =.int .i64 (if gr<100∨1000<gr then 1 else 0)):=by
 intro g
 refine ES (R:=aE _) ?_
 unfold L109
 refine ae.aJ (Br.no ?_)
 refine ae.lss ?_
 refine cv.or (decide (1000<gr)) (fun _=>ae.gtr ⟨rfl,rfl⟩) rfl fun gs=>?_
 by_cases h:gr<100∨1000<gr
 ·rw[if_pos h]
  refine Br.Vm ?_ (bL.mk (.refl _) rfl)
  simpa using h
 ·rw[if_neg h]
  refine Br.no' ?_ (bL.mk (.refl _) rfl)
  simpa using h
theorem SV(hp:ord.Perm (List.range K.n)){p:Nat}(N8:p<K.n)(hv:ord.getD p 0=v):ord.idxOf v=p:=by
 have zj:ord.length=K.n:=by rw[hp.length_eq,List.length_range]
 have gW:ord.Nodup:=hp.nodup_iff.2 List.nodup_range
 have hm:v∈ord:=by
  rw[←hv,List.getD_eq_getElem?_getD,List.getElem?_eq_getElem (by omega)];exact List.getElem_mem _
 have h1:=List.idxOf_lt_length_of_mem hm
 refine getD_inj gW h1 (by omega) ?_
 rw[hv,List.getD_eq_getElem?_getD,List.getElem?_eq_getElem h1]
 exact List.getElem_idxOf h1
theorem OZ(h:At kp K S ord tr C)(hp:ord.Perm (List.range K.n))(hv:v<K.n)(q7:100≤gr∧gr≤1000)(g7:tr.length<549755813888){r:Nat×Nat}(hr:(rm K S).o6 gr ord (ord.idxOf v)=r):
  Fc Tryz.prog 45 #[ptr kp,.int .i64 (v:Int),.int .i64 (gr:Int)] C (fun w H=>w=.tuple #[rep (bW K S ord) (bW K S (aC ord (road (ord.idxOf v) r.1))) r.2,.int .i64 0]∧At kp K S (aC ord (road (ord.idxOf v) r.1)) (tr++road (ord.idxOf v) r.1) H):=by
 have hn:=h.uH
 have zj:ord.length=K.n:=by rw[hp.length_eq,List.length_range]
 have hsz:=tX h
 have LP:(rm K S).n=K.n:=rfl
 intro g
 refine Jb (R:=aE _) ?_
 unfold L45
 intro b1 _
 refine ag.rd (.cons .here) (sM kp (gr:=(gr:Int)) C) ?_
 rintro w rfl
 rw[if_neg (by omega)]
 refine ae.gj (Br.cq (by simp) ?_)
 refine ag.rd (.cons .here) (Nl h hv) ?_
 rintro w ⟨p,N8,Tx,rfl⟩
 have YO:=SV hp N8 Tx
 rw[YO]at hr⊢
 have ahb:p<(rm K S).n:=N8
 refine Ext.mk rfl (Ext.mk rfl ?_)
 refine ae.gj (Br.cq (by simp) ?_)
 refine ag.rd (.cons .here) (dF h) ?_
 rintro w rfl
 refine Build.mk (cs:=[.int .i64 ((bW K S ord:Nat):Int),.int .i64 0,.int .i64 0,.bool false]) (by kernel_rfl) ?_
 intro wi _
 refine St.whole (r:=[.int .i64 ((bW K S ord:Nat):Int),.int .i64 0,.int .i64 0,.bool false]) (by exact .head _) rfl rfl (by simp[Value.oneCell']) ?_
 refine aa.mk (Ld.mk (v:=.int .i64 ((bW K S ord:Nat):Int)) (by exact .head _) rfl ?_)
 refine Build.mk (cs:=[ptr kp,.int .i64 (p:Int),.int .i64 ((bW K S ord:Nat):Int),.int .i64 (p:Int),.int .i64 (gr:Int),.int .i64 0,.int .i64 0,.nilFunc]) (by kernel_rfl) ?_
 intro wp _
 refine ag.rd (.cons (.cons (.cons .here))) (lj h) ?_
 rintro w rfl
 refine ae.bC (b:=1) (by simp[az];omega) (by omega) ?_
 refine ae.bC (by simp[az];omega) (by omega) ?_
 refine ae.y4 ?_
 obtain⟨X,hX⟩:∃X:Hp,X=[(wi,Obj.cells (List.toArray [.int .i64 ((bW K S ord:Nat):Int),.int .i64 0,.int .i64 0,.bool false]) 42 (0,0)),(b1,Obj.cells #[.int .i64 0,.int .i64 0,.int .i64 0,.bool false] 42 (0,0))]:=⟨_,rfl⟩
 unfold Rm.o6 at hr
 simp only[LP]at hr
 rw[show(rm K S).size ord=bW K S ord from rfl]at hr
 generalize hdn:decide (K.n-1-p≤p)=dn at*
 have acE:∀x:Nat×Obj,aO (x::(wi,Obj.cells (List.toArray [.int .i64 ((bW K S ord:Nat):Int),.int .i64 0,.int .i64 0,.bool false]) 42 (0,0))::(b1,Obj.cells #[.int .i64 0,.int .i64 0,.int .i64 0,.bool false] 42 (0,0))::C) (X++(x::C)):=fun x=>.perm (by rw[hX];exact(List.perm_middle (l₁:=[_,_])).symm)
 refine ag.pre (acE _) ?_
 refine ag.fn (.app .here) (qc (wp:=wp) (a:=p) (b:=bW K S ord) (q:=p) (gr:=gr) (sw:=0) (la:=0) (st:=.nilFunc) (dn:=dn) h (by omega)) ?_
 rintro w H ⟨rfl,bx,rfl⟩
 refine ag.fn (.app .here) (KM h N8 q7 (by omega) (by omega) g7 rfl rfl) ?_
 rintro w H ⟨rfl,C1,rfl,hA1⟩
 have BC:=(rm K S).tc gr ord p dn ((rm K S).rest dn p) p (bW K S ord) p (fun h=>by unfold Rm.rest;rw[h];exact Nat.le_refl _) (by rw[gN];rfl)
 generalize (rm K S).uJ gr ord p dn ((rm K S).rest dn p) p (bW K S ord) p=a at*
 have q6:=(rm K S).tc gr ord p (!dn) ((rm K S).rest (!dn) p) p a.2.1 a.2.2 (fun h=>by unfold Rm.rest;rw[h];exact Nat.le_refl _) BC.size
 obtain⟨a1,a2,a3,a4⟩:=BC
 unfold Rm.rest at a1
 rw[LP]at a1
 have BQ:a.1<K.n∧((p≤a.1)∨(a.1≤p)):=by cases dn<;>simp only[cond_false,cond_true]at a1<;>omega
 have hab:a.2.1≤1048576:=by
  have:a.2.1≤bW K S ord:=by omega
  omega
 have Mi:dst a.1 p≤64:=by unfold dst;omega
 refine ag.pre (aO.cJ (.cons .tail) X) ?_
 refine ag.fn (.app .here) (wI (t:=p) hA1 zj N8 (by omega) (by omega) g7) ?_
 rintro w H ⟨rfl,C2,rfl,qv⟩
 rw[gN,List.append_nil]at qv
 have qv:At kp K S ord tr C2:=qv
 refine Nil.ptr (aa.mk (Ld.mk (v:=.int .i64 ((a.2.2:Nat):Int)) (by exact List.mem_append_right _ (.head _)) rfl ?_))
 refine Un.not ?_
 refine ag.fn (.app .here) (qc (dn:= !dn) qv (by omega)) ?_
 rintro w H ⟨rfl,bx2,rfl⟩
 refine ag.fn (.app .here) (KM qv N8 q7 hab (by omega) g7 rfl rfl) ?_
 rintro w H ⟨rfl,C3,rfl,hA3⟩
 generalize (rm K S).uJ gr ord p (!dn) ((rm K S).rest (!dn) p) p a.2.1 a.2.2=b at*
 obtain⟨e1,e2,e3,e4⟩:=q6
 unfold Rm.rest at e1
 rw[LP]at e1
 have qt:bif dn then p≤a.2.2∧a.2.2≤a.1 else a.1≤a.2.2∧a.2.2≤p:=by
  cases dn<;>simp only[cond_false,cond_true]at a3 a1⊢ <;>omega
 have Y1:b.1<K.n∧((p≤b.1)∨(b.1≤p)):=by cases dn<;>simp only[cond_false,cond_true,Bool.not_false,Bool.not_true]at e1<;>omega
 have vR:dst b.1 p≤64:=by unfold dst;omega
 intro Ya h47
 have fin:∀(bb:Nat) (Bn:Int) (st':Value) (Cf:Hp),At kp K S (aC ord (road p r.1)) (tr++road p r.1) Cf→Ya [] (X++(fb wp (gD kp r.1 bb r.1 gr r.2 Bn st')::Cf)):=by
  intro bb Bn st' Cf hAf
  rw[hX]
  refine h47 _ fun gs=>?_
  refine DR.of (R:=[fb wp (gD kp r.1 bb r.1 gr r.2 Bn st')]) (aO.Ta (.tail _ (.tail _ (.head _)))) ?_
  refine Nil.ptr (aa.mk (Ld.mk (v:=.int .i64 ((r.2:Nat):Int)) (by exact .head _) rfl ?_))
  intro F
  refine ag.rd (.cons (.cons (.cons .here))) (dF hAf) ?_
  rintro w rfl
  refine⟨aO.Ta (.tail _ (.tail _ (.head _))),?_⟩
  refine aa.mk fun F=>?_
  refine St.one (c':=#[.int .i64 ((bW K S ord:Nat):Int),.int .i64 ((bW K S (aC ord (road p r.1)):Nat):Int),.int .i64 0,.bool false]) (by exact .head _) rfl (by simp) rfl ?_
  refine⟨aO.Ta (.tail _ (.tail _ (.head _))),?_⟩
  refine aa.mk fun F=>?_
  refine St.one (c':=#[.int .i64 ((bW K S ord:Nat):Int),.int .i64 ((bW K S (aC ord (road p r.1)):Nat):Int),.int .i64 ((r.2:Nat):Int),.bool false]) (by exact .head _) rfl (by simp) rfl ?_
  refine aA.whole (r:=[.int .i64 ((bW K S ord:Nat):Int),.int .i64 ((bW K S (aC ord (road p r.1)):Nat):Int),.int .i64 ((r.2:Nat):Int),.bool false]) (by exact .head _) rfl ?_
  refine St.whole (r:=[.int .i64 ((bW K S ord:Nat):Int),.int .i64 ((bW K S (aC ord (road p r.1)):Nat):Int),.int .i64 ((r.2:Nat):Int),.bool false]) (by exact .tail (.head _)) rfl rfl (by simp[Value.oneCell']) ?_
  refine aA.whole (r:=[.int .i64 ((bW K S ord:Nat):Int),.int .i64 ((bW K S (aC ord (road p r.1)):Nat):Int),.int .i64 ((r.2:Nat):Int),.bool false]) (by exact .tail _ (.head _)) rfl ?_
  exact aE.mk (.skip (.skip .tail)) ⟨rfl,hAf⟩
 refine Nil.ptr (aa.mk (Ld.mk (v:=.int .i64 ((b.2.2:Nat):Int)) (by exact List.mem_append_right _ (.head _)) rfl ?_))
 refine ae.ql (Br.dec (fun hne=>?_) (fun heq=>?_))
 ·-- the other way is better
  rw[if_pos hne]at hr
  refine Nil.ptr (aa.mk (Ld.mk (v:=.int .i64 ((b.2.2:Nat):Int)) (by exact List.mem_append_right _ (.head _)) rfl ?_))
  refine ag.pre (aO.cJ (.cons .tail) X) ?_
  have hbt:(p≤b.2.2∧b.2.2≤b.1∧b.1<K.n)∨(b.1≤b.2.2∧b.2.2≤p):=by
   cases dn<;>simp only[cond_false,cond_true,Bool.not_false,Bool.not_true]at e3 e1<;>omega
  refine ag.fn (.app .here) (wI (t:=b.2.2) hA3 zj N8 hbt (by omega) g7) ?_
  rintro w H ⟨rfl,C4,rfl,T4⟩
  subst hr
  refine JE.mk ?_
  rw[Nat.zero_add]
  exact fin b.2.1 _ _ C4 T4
 ·-- back again
  have heq:b.2.2=a.2.2:=Classical.not_not.1 heq
  rw[if_neg (fun h=>h heq)]at hr
  refine ag.pre (aO.cJ (.cons .tail) X) ?_
  refine ag.fn (.app .here) (wI (t:=p) hA3 zj N8 (by omega) (by omega) g7) ?_
  rintro w H ⟨rfl,C4,rfl,T4⟩
  rw[gN,List.append_nil]at T4
  have T4:At kp K S ord tr C4:=T4
  refine ag.fn (.app .here) (qc (dn:=dn) T4 (by omega)) ?_
  rintro w H ⟨rfl,JI,rfl⟩
  obtain⟨s3,hs3⟩:∃s3,s3=0+dst a.1 p+dst a.1 p+dst b.1 p+dst b.1 p:=⟨_,rfl⟩
  rw[←hs3]
  obtain⟨Q8,abj⟩:∃Q8,Q8=(bif dn then((K.n-1:Nat):Int)else 0):=⟨_,rfl⟩
  rw[←abj]
  refine⟨fun vs H=>∃(i:Nat) (C':Hp),vs=[]∧H=fb wp (gD kp i b.2.1 b.2.2 gr (s3+dst p i) Q8 (vA dn JI))::n4 JI wp::(X++C')∧At kp K S (aC ord (road p i)) (tr++road p i) C'∧(bif dn then p≤i∧i≤b.2.2 else b.2.2≤i∧i≤p),
   fun _ H=>dst (Aj H) b.2.2,JE.of (H':=fb wp (gD kp p b.2.1 b.2.2 gr s3 Q8 (vA dn JI))::n4 JI wp::(X++C4)) (.perm ?_) ⟨p,C4,rfl,by simp[dst],by rw[gN,List.append_nil];exact T4,?_⟩,?_⟩
  ·exact(List.perm_middle (l₁:=X)).trans (List.Perm.cons _ List.perm_middle)
  ·rw[heq]
   cases dn<;>simp only[cond_false,cond_true]at qt⊢ <;>omega
  rintro H ⟨i,C5,_,rfl,hA5,hi⟩ gs
  rw[heq]at hi
  have hin:i<K.n:=by cases dn<;>simp only[cond_false,cond_true]at hi qt<;>omega
  have hdi:dst p i≤64:=by unfold dst;omega
  have uL:=oa hn N8 hin
  intro Zq h83
  refine DR.self ?_
  refine Nil.ptr (aa.mk (Ld.mk (v:=.int .i64 (i:Int)) (by exact .head _) rfl ?_))
  refine Nil.ptr (aa.mk (Ld.mk (v:=.int .i64 ((b.2.2:Nat):Int)) (by exact .head _) rfl ?_))
  refine ae.ql (Br.dec (fun hne=>?_) (fun hie=>?_))
  ·refine Nil.ptr (aa.mk (Ld.mk (v:=vA dn JI) (by exact .head _) rfl ?_))
   intro F
   refine fm.of (f:=UI dn) rfl (yx dn) ?_
   have We:aO (fb wp (gD kp i b.2.1 b.2.2 gr (s3+dst p i) Q8 (vA dn JI))::n4 JI wp::(X++C5)) (X++(fb wp (gD kp i b.2.1 b.2.2 gr (s3+dst p i) Q8 (vA dn JI))::n4 JI wp::C5)):=
    .perm ((List.perm_middle (l₁:=X)).trans (List.Perm.cons _ List.perm_middle)).symm
   refine ag.pre We ?_
   have hstep:bif dn then p≤i∧i+1<K.n else 0<i∧i≤p:=by
    rw[heq]at hne
    cases dn<;>simp only[cond_false,cond_true]at hi qt⊢ <;>omega
   have hfit:gR K S (aC ord (road p i)) (SN dn i):=by
    refine ob.1 (a4 i ?_)
    rw[heq]at hne
    cases dn<;>simp only[cond_false,cond_true]at hi qt⊢ <;>omega
   refine ag.fn (args:=#[ptr JI]) (.app .here) (yz hA5 N8 hstep (by rw[List.length_append];omega) hfit (by omega)) ?_
   rintro w H ⟨rfl,C6,rfl,hA6⟩
   refine ae.kJ (aD.mk ?_)
   have hnx:s3+dst p i+1=s3+dst p (nh dn i):=by unfold dst nh;cases dn<;>simp only[cond_false,cond_true]at hstep⊢ <;>omega
   rw[hnx]
   refine JE.of (.perm ((List.perm_middle (l₁:=X)).trans (List.Perm.cons _ List.perm_middle))) (h83 _ _ fun gs=>Br.yes ?_)
   refine ay.mk ⟨nh dn i,C6,rfl,rfl,hA6,?_⟩ ?_
   ·rw[heq]at hne⊢
    unfold nh
    cases dn<;>simp only[cond_false,cond_true]at hi hstep⊢ <;>omega
   ·have By:∀i sw C',Aj (fb wp (gD kp i b.2.1 b.2.2 gr sw Q8 (vA dn JI))::C')=i:=fun i sw C'=>by simp[Aj,fb,gD,bg]
    rw[By,By,heq]
    rw[heq]at hne
    unfold nh dst
    cases dn<;>simp only[cond_false,cond_true]at hi hstep⊢ <;>omega
  ·have hie:i=b.2.2:=Classical.not_not.1 hie
   subst hie
   subst hr
   refine JE.mk (h83 _ _ fun gs=>Br.no ?_)
   refine JE.of ?_ (fin b.2.1 Q8 (vA dn JI) C5 hA5)
   refine(aO.cons .tail).trans ?_
   refine(aO.perm (List.perm_middle (l₁:=X)).symm).trans ?_
   have e:s3+dst p b.2.2=dst a.1 p+dst a.1 p+dst b.1 p+(dst b.1 p+dst p b.2.2):=by omega
   rw[e]
   exact .refl _
end
end Go.Proofs
set_option maxRecDepth 100000
namespace Go.Proofs
open Go Go.Sx
theorem KH{n A:Nat}{L:List (List Nat)}(hn:n≤16)(hl:L.length<33554432){k:Nat}(hk:k≤n):(aj.st n L A k).length<2199023255551:=by
 have h2:=aj.qd n L A k
 have h3:2^k≤2^16:=Nat.pow_le_pow_right (by decide) (by omega)
 have h4:2^k*L.length≤2^16*L.length:=Nat.mul_le_mul_right _ h3
 omega
theorem MS{B:Hp}{v1 v2:Value}{a b:List Nat}(h1:Words B v1 a)(h2:Words B v2 b)(bD:a.length<2^62):Rd Tryz.prog 222 #[v1,v2] B (· =.bool (decide (a=b))):=by
 intro g
 refine Dv (R:=aE _) ?_
 unfold L222
 refine h1.1.aS (h2.1.aS ?_)
 simp only[an]
 refine ae.ql (Br.dec (fun h=>?_) (fun h=>?_))
 ·exact bL.mk (.refl _) (by rw[decide_eq_false (fun e=>h (by rw[e]))])
 ·refine h1.1.aS ?_
  simp only[an]
  have hlen:a.length=b.length:=by omega
  refine⟨fun vs H=>H=B∧∃j:Nat,vs=[.int .i64 (j:Int)]∧j≤a.length∧∀i,i<j→a[i]? =b[i]?,fun vs _=>a.length-bg vs 0,JE.mk ⟨rfl,0,rfl,by omega,by omega⟩,?_⟩
  rintro w H ⟨rfl,j,hv,hj,aK⟩ gs
  simp only[List.cons.injEq,and_true]at hv
  subst hv
  refine ae.dL (Br.dec (fun hlt=>?_) (fun hlt=>?_))
  ·have ga:a[j]? =some a[j]:=List.getElem?_eq_getElem hlt
   have gb:b[j]? =some b[j]:=List.getElem?_eq_getElem (by omega)
   refine h1.1.ld (cy ga) (fun _ h=>h) ?_
   refine h2.1.ld (cy gb) (fun _ h=>h) ?_
   refine ae.ql (Br.dec (fun hne=>?_) (fun hne=>?_))
   ·exact bL.mk (.refl _) (by rw[decide_eq_false];rintro rfl;exact hne rfl)
   ·refine ae.aH (b:=1) (by simp[az];omega) ?_
    refine ay.mk ⟨rfl,j+1,rfl,by omega,fun i hi=>?_⟩ (by simp[bg];omega)
    by_cases e:i=j
    ·subst e;rw[ga,gb];simp;omega
    ·exact aK i (by omega)
  ·refine bL.mk (.refl _) ?_
   rw[decide_eq_true]
   apply List.ext_getElem? 
   intro i
   by_cases hi:i<a.length
   ·exact aK i (by omega)
   ·rw[List.getElem?_eq_none (by omega),List.getElem?_eq_none (by omega)]
theorem Lp{B:Hp}{v:Value}{n u A:Nat}{L:List (List Nat)}(ht:cV B v (L.map fun ws=>⟨n,ws⟩))(hf:∀ws∈L,aj.cw n ws)(hne:L≠[])(bD:L.length<4398046511104)(hA:A<2^n)(hu:u<n)(hAu:A.testBit u=false):
  Rd Tryz.prog 157 #[v,.int .u64 (A:Int),.int .i64 (u:Int)] B (· =.tuple #[.int .i64 ((aj.lvl n L A u:Nat):Int),.int .i64 0]):=by
 obtain⟨w0,oz⟩:∃w0,L[0]? =some w0:=⟨_,List.getElem?_eq_getElem (List.length_pos_iff.2 hne)⟩
 have qu:n≤16:=(hf w0 (List.mem_of_getElem? oz)).lD
 have ahM:A<65536:=Nat.lt_of_lt_of_le hA (Nat.pow_le_pow_right (n:=2) (by decide) qu)
 intro g
 refine Ei (R:=aE _) ?_
 unfold L157
 refine ag.rd .here (sP ht (by simp;omega)) ?_
 rintro v rfl
 rw[decide_eq_true (yO hf)]
 refine Un.not (Br.no ?_)
 intro J hJ
 refine ht.aS ?_
 rw[List.length_map]
 have hpos:0<L.length:=List.length_pos_iff.2 hne
 refine ae.lQ (b:=0) (Br.gI hpos ?_)
 refine ht.VP (i:=0) (t:=⟨n,w0⟩) (by rw[List.getElem?_map,oz];rfl) (fun _ h=>h) ?_
 refine JE.mk (hJ _ _ fun gs=>?_)
 simp only
 refine ae.lss (cv.or (decide (n≤u)) (fun _=>?_) rfl fun gs=>?_)
 ·exact ae.qz ⟨trivial,rfl⟩
 rw[show(decide ((u:Int)<0)||decide (n≤u))=false by simp;omega]
 refine cv.or (decide (A>>>n≠0)) (fun _=>?_) rfl fun gs=>?_
 ·refine ae.jJ (by simp[az];omega) ?_
  exact ae.ql (b:=0) ⟨trivial,rfl⟩
 rw[show(false||decide (A>>>n≠0))=false by rw[Nat.shiftRight_eq_div_pow,Nat.div_eq_of_lt hA];rfl]
 refine Br.no ?_
 have V5:∀k,A>>>k<18446744073709551616:=fun k=>Nat.lt_of_le_of_lt (Nat.shiftRight_le _ _) (by omega)
 refine ae.jJ (by simp[az];omega) (ae.jg (b:=1) (by simpa[az]using V5 u) (by decide) (ae.gp (b:=1) ?_))
 refine Br.cq (by rw[aj.r7,hAu];simp) ?_
 refine ag.fn .here (Hl ht rfl hf (by omega)) ?_
 rintro r H ⟨b,es,ck,m,N,rfl,rfl,hE,hm⟩
 have hbound:∀k,k≤n→∀m:List (List UInt8×List Nat),(m.map Prod.snd).Nodup→(∀x,x∈m.map Prod.snd↔x∈aj.st n L A k)→m.length<4611686018427387904:=by
  intro k hk m gW hmem
  have h1:=(aj.iL gW (aj.lZ n L A k) hmem).length_eq
  have h2:=aj.qd n L A k
  have h3:2^k≤2^16:=Nat.pow_le_pow_right (by decide) (by omega)
  have h4:2^k*L.length≤2^16*L.length:=Nat.mul_le_mul_right _ h3
  rw[List.length_map]at h1
  omega
 refine⟨fun vs H=>∃(k:Nat) (b:Nat) (es:Array MapEntry) (ck:Nat) (m:List (List UInt8×List Nat)) (N:Hp),vs=[.map (some b),.int .i64 (k:Int)]∧k≤n∧H=(b,.map es ck)::(N++B)∧gh n (N++B) es ck m∧∀x,x∈m.map Prod.snd↔x∈aj.st n L A k,
  fun vs _=>n-bg vs 1,JE.mk ⟨0,b,es,ck,m,N,rfl,by omega,rfl,hE,fun x=>by rw[hm];exact aj.cU.symm⟩,?_⟩
 clear hm hE
 rintro sn jl H ⟨k,b,es,ck,m,N,hv,hk,rfl,hE,hm⟩ gs
 simp only[List.cons.injEq,and_true]at hv
 obtain⟨rfl,rfl⟩:=hv
 have BT:=hE.mono (B':=(b,Obj.map es ck)::(N++B)) zS
 refine ae.dL (Br.dec (fun hlt=>?_) (fun hlt=>?_))
 ·intro J hJ
  refine ae.jJ (by simp[az];omega) (ae.jg (b:=1) (by simpa[az]using V5 k) (by decide) (ae.gp (b:=1) ?_))
  refine Br.dec (fun h=>?_) (fun h=>?_)
  ·have hb:=(aj.r7 A k).1 h
   refine ag.fn .here (zy (.head _) BT hlt (hbound k hk m hE.nodup hm)) ?_
   rintro r H ⟨b',es',eN,m',N',rfl,rfl,BU,hm'⟩
   refine Ext.mk rfl (Ext.mk rfl (JE.mk (hJ _ _ fun gs=>?_)))
   refine ae.aH (b:=1) (by simp[az];omega) ?_
   refine ay.mk ⟨k+1,b',es',eN,m',N'++(b,.map es ck)::N,rfl,by omega,by rw[List.append_assoc];rfl,by rw[List.append_assoc];exact BU,fun x=>?_⟩ (by simp[bg];omega)
   rw[hm',aj.st,if_pos hb,aj.bU]
   constructor
   ·rintro⟨t,h1,h2⟩;exact⟨t,(hm t).1 h1,h2⟩
   ·rintro⟨t,h1,h2⟩;exact⟨t,(hm t).2 h1,h2⟩
  ·have hb:A.testBit k=false:=by cases hh:A.testBit k;rfl;exact absurd ((aj.r7 A k).2 hh) h
   refine JE.mk (hJ _ _ fun gs=>?_)
   refine ae.aH (b:=1) (by simp[az];omega) ?_
   refine ay.mk ⟨k+1,b,es,ck,m,N,rfl,by omega,rfl,hE,fun x=>?_⟩ (by simp[bg];omega)
   rw[hm,aj.st,hb];simp
 ·have:k=n:=by omega
  subst this
  refine ag.fn .here (zy (.head _) BT hu (hbound k hk m hE.nodup hm)) ?_
  rintro r H ⟨b',es',eN,m',N',rfl,rfl,BU,hm'⟩
  refine Ext.mk rfl (Ext.mk rfl ?_)
  refine bL.mk ?_ ?_
  ·exact .skip (.bQ (.skip .right))
  ·have:=aj.kS (n:=k) (v:=u) (aj.iL hE.nodup (aj.lZ k L A k) hm)
   unfold aj.lvl;rw[←this];rfl
theorem sH{B:Hp}{v:Value}{t:Tb}(ht:jS B v t):Rd Tryz.prog 156 #[v] B (· =.tuple (if TF t then#[.int .u64 ((aj.n5 t.n.toNat t.ws:Nat):Int),.int .i64 0]else#[.int .u64 0,.int .i64 5])):=by
 obtain⟨tn,ws⟩:=t
 obtain⟨s,rfl,hw⟩:=ht
 simp only at hw⊢
 intro g
 refine Ej (R:=aE _) ?_
 unfold L156
 intro b1 _
 refine aA.whole (r:=[.int .i64 tn,s]) (by exact .head _) rfl ?_
 refine eU fun b2=>?_
 refine ag.rd .here (tJ (t:=⟨tn,ws⟩) (by exact .head _) (hw.mono zS)) ?_
 rintro v rfl
 refine Un.not ?_
 by_cases hT:TF ⟨tn,ws⟩
 case neg=>
  rw[decide_eq_false hT,if_neg hT]
  exact Br.yes (bL.mk (by repeat (first|exact aO.refl _|apply aO.cons|apply aO.skip|apply aO.cJ|apply aO.bQ)) rfl)
 rw[decide_eq_true hT,if_pos hT]
 refine Br.no ?_
 obtain⟨n,rfl⟩:∃n:Nat,tn=n:=⟨tn.toNat,by have:=hT.1;simp only at this;omega⟩
 have hf:aj.cw n ws:=by have:=hT.2;simpa using this
 refine aa.mk (Ld.mk zM rfl ?_)
 refine⟨fun vs H=>∃(k:Nat) (N:Hp),vs=[.int .u64 ((aj.jY n ws k:Nat):Int),.int .i64 (k:Int)]∧k≤n∧H=(b1,.cells (Value.cells (.agg #[.int .i64 (n:Int),s])) 57 (0,0))::(N++B),
  fun vs _=>n-bg vs 1,JE.of .tail ⟨0,[],rfl,by omega,rfl⟩,?_⟩
 rintro lW gm H ⟨k,N,hv,hk,rfl⟩ gs
 simp only[List.cons.injEq,and_true]at hv
 obtain⟨rfl,rfl⟩:=hv
 have qu:=hf.lD
 have YM:=aj.lY n ws k
 have agG:aj.jY n ws k<65536:=Nat.lt_of_lt_of_le YM (Nat.pow_le_pow_right (n:=2) (by decide) (by omega:k≤16))
 refine ae.dL (Br.dec (fun hlt=>?_) (fun hlt=>?_))
 ·intro J hJ
  refine DR.self ?_
  refine aA.whole (r:=[.int .i64 (n:Int),s]) (by exact .head _) rfl (aA.whole (r:=[.int .i64 (n:Int),s]) (by exact .head _) rfl ?_)
  refine ag.px (B:=N++B) (.cons .here) (xA (v:=.agg (List.toArray [.int .i64 (n:Int),s])) ⟨s,rfl,hw.mono zS⟩ hf hlt) ?_
  rintro v N1 ⟨s1,rfl,jr⟩
  refine⟨.cons .right,AB.mk rfl ?_⟩
  refine ag.px (B:=N1++(N++B)) (.cons .here) (xA (v:=.agg (List.toArray [.int .i64 (n:Int),s])) ⟨s,rfl,hw.mono zS⟩ hf hlt) ?_
  rintro v N2 ⟨s2,rfl,mr⟩
  refine⟨.cons (.bQ .right),AB.mk rfl ?_⟩
  refine ag.rd (B:=N2++(N1++(N++B))) (.cons .here) (MS (jr.mono zS) mr (by have:=fM (aj.cF (v:=k) (ws:=ws) (b:=false) hf.lD);simp only;omega)) ?_
  rintro v rfl
  refine⟨.cons (.bQ .right),Un.not ?_⟩
  have ff:JE J [.int .u64 ((aj.jY n ws (k+1):Nat):Int)] ((b1,.cells (Value.cells (.agg #[.int .i64 (n:Int),s])) 57 (0,0))::(N2++(N1++(N++B)))):=by
   refine JE.mk (hJ _ _ fun gs=>?_)
   refine ae.aH (b:=1) (by simp[az];omega) ?_
   exact ay.mk ⟨k+1,N2++(N1++N),rfl,by omega,by rw[List.append_assoc,List.append_assoc]⟩ (by simp[bg];omega)
  rw[aj.jY]at ff
  by_cases hd:aj.dep n ws k=true
  ·rw[if_pos hd]at ff
   have:aj.dV n ws k false≠aj.dV n ws k true:=by simpa[aj.dep]using hd
   rw[decide_eq_false this]
   refine Br.yes ?_
   refine ae.o5 (a:=1) ?_
   have h2:2^k<65536:=Nat.lt_of_lt_of_le (Nat.pow_lt_pow_right (n:=16) (by decide) (by omega)) (by decide)
   rw[Nat.one_shiftLeft,Nat.mod_eq_of_lt (by omega)]
   exact ae.FB (by simp[az];omega) (by simp[az];omega) ff
  ·rw[if_neg hd]at ff
   have:aj.dV n ws k false=aj.dV n ws k true:=by simpa[aj.dep]using hd
   rw[decide_eq_true this]
   exact Br.no ff
 ·have:k=n:=by omega
  subst this
  refine bL.mk (.skip .right) ?_
  simp[aj.n5]
theorem K8{B:Hp}{v:Value}{ts:List Tb}(ht:cV B v ts)(bD:ts.length<4398046511104):Px Tryz.prog 155 #[v] B (fun r _=>∃s,r=.tuple #[s,.int .i64 (if pU ts then 0 else 5)]):=by
 intro g
 refine Ek (R:=aE _) ?_
 unfold L155
 refine ag.rd .here (sP ht (by omega)) ?_
 rintro v rfl
 refine Un.not ?_
 by_cases hO:pU ts
 case neg=>rw[decide_eq_false hO,if_neg hO];exact Br.yes (oG.mk (.refl _) ⟨_,rfl⟩)
 rw[decide_eq_true hO,if_pos hO]
 refine Br.no (ht.aS (ae.gp (b:=0) (Br.dec (fun h0=>oG.mk (.refl _) ⟨_,rfl⟩) (fun h0=>?_))))
 obtain⟨n,L,qu,rfl,hne,hf⟩:=FD hO (by intro e;rw[e]at h0;exact h0 rfl)
 rw[List.length_map]at bD
 obtain⟨w0,oz⟩:∃w0,L[0]? =some w0:=⟨_,List.getElem?_eq_getElem (List.length_pos_iff.2 hne)⟩
 refine ht.VP (i:=0) (t:=⟨n,w0⟩) (by rw[List.getElem?_map,oz];rfl) (fun _ h=>h) ?_
 simp only
 refine bZ.ints (by omega) (by omega) fun bw=>?_
 refine ht.aS ?_
 refine⟨fun vs H=>∃(k:Nat) (l:List Nat),vs=[.int .i64 (k:Int)]∧k≤L.length∧H=(bw,.cells (aF .u64 (iw l)) 50 (0,0))::B∧l.length=n∧∀w∈l,w<18446744073709551616,
  fun vs _=>L.length-bg vs 0,JE.mk ⟨0,List.replicate n 0,rfl,by omega,by simp[iw],by simp,fun w hw=>by rw[List.eq_of_mem_replicate hw];decide⟩,?_⟩
 rintro w H ⟨k,l,hv,hk,rfl,hl,Ru⟩ gs
 simp only[List.cons.injEq,and_true]at hv
 subst hv
 rw[List.length_map]
 refine ae.dL (Br.dec (fun hlt=>?_) (fun hlt=>?_))
 ·have hg:(L.map fun ws=>(⟨n,ws⟩:Tb))[k]? =some ⟨n,L[k]⟩:=by rw[List.getElem?_map,List.getElem?_eq_getElem hlt];rfl
  have jx:=hf L[k] (List.getElem_mem hlt)
  refine ht.ld hg zS fun s hw=>?_
  intro b2 _
  refine St.whole (r:=[.int .i64 (n:Int),s]) (by exact .head _) rfl rfl ?_ ?_
  ·have:=aB hw;simpa[Value.oneCell']using this
  refine aA.whole (r:=[.int .i64 (n:Int),s]) (by exact .head _) rfl ?_
  refine ag.rd (B:=B) (.cons (.cons .here)) (sH (v:=.agg (List.toArray [.int .i64 (n:Int),s])) (t:=⟨n,L[k]⟩) ⟨s,rfl,hw⟩) ?_
  rintro v rfl
  rw[if_pos (show TF ⟨(n:Int),L[k]⟩from⟨by simp,by simpa using jx⟩)]
  refine Ext.mk rfl (Ext.mk rfl (aG.mk ?_))
  simp only[Int.toNat_natCast]
  have V4:aj.n5 n L[k]<65536:=Nat.lt_of_lt_of_le (aj.lY n L[k] n) (Nat.pow_le_pow_right (n:=2) (by decide) qu)
  refine⟨fun vs H=>∃(j:Nat) (l:List Nat),vs=[.int .i64 (j:Int)]∧j≤n∧H=(bw,.cells (aF .u64 (iw l)) 50 (0,0))::B∧l.length=n∧∀w∈l,w<18446744073709551616,
   fun vs _=>n-bg vs 0,JE.of .tail ⟨0,l,rfl,by omega,rfl,hl,Ru⟩,?_⟩
  rintro w H ⟨j,l,hv,hj,rfl,hl,Ru⟩ gs
  simp only[List.cons.injEq,and_true]at hv
  subst hv
  refine ae.dL (Br.dec (fun Rz=>?_) (fun Rz=>?_))
  ·intro J hJ
   have ff:∀l:List Nat,l.length=n→(∀w∈l,w<18446744073709551616)→JE J [] ((bw,.cells (aF .u64 (iw l)) 50 (0,0))::B):=fun l hl Ru=>by
    refine JE.mk (hJ _ fun gs=>?_)
    refine ae.aH (b:=1) (by simp[az];omega) ?_
    exact ay.mk ⟨j+1,l,rfl,by omega,rfl,hl,Ru⟩ (by simp[bg];omega)
   have hsh:aj.n5 n L[k]>>>j<65536:=Nat.lt_of_le_of_lt (Nat.shiftRight_le _ _) V4
   refine ae.jJ (by simp[az];omega) (ae.jg (b:=1) (by simp[az];omega) (by decide) (ae.gp (b:=1) ?_))
   refine Br.dec (fun h=>?_) (fun h=>ff l hl Ru)
   refine DR.self ?_
   have hgj:l[j]? =some l[j]:=List.getElem?_eq_getElem (by omega)
   have hlj:=Ru _ (List.getElem_mem (show j<l.length by omega))
   refine ah.nat Rz ?_
   refine Ld.mk (v:=.int .u64 (l[j]:Int)) (by exact .head _) (by simp[aF,iw,hgj]) ?_
   refine ae.o5 (a:=1) ?_
   have h2:2^j<65536:=Nat.lt_of_lt_of_le (Nat.pow_lt_pow_right (n:=16) (by decide) (by omega)) (by decide)
   rw[Nat.one_shiftLeft,Nat.mod_eq_of_lt (by omega)]
   refine ae.Aa (by simp[az];omega) (by simp[az];omega) ?_
   have h3:=jI (aj.n5 n L[k]) (2^j)
   refine ae.FB (by simp only[az];exact hlj) (by simp only[az];omega) ?_
   refine ah.nat Rz ?_
   refine St.ints (l:=iw l) (by exact .head _) (by simp;omega) ?_
   have e:(iw l).set j ((l[j]|||lp (aj.n5 n L[k]) (2^j):Nat):Int)=iw (l.set j (l[j]|||lp (aj.n5 n L[k]) (2^j))):=by simp[iw,List.map_set]
   rw[e]
   refine ff _ (by simp[hl]) fun w hw=>?_
   rcases List.mem_or_eq_of_mem_set hw with hw|rfl
   ·exact Ru w hw
   ·exact Nat.or_lt_two_pow (n:=64) hlj (by omega)
  ·refine ae.aH (b:=1) (by simp[az];omega) ?_
   exact ay.mk ⟨k+1,l,rfl,by omega,rfl,hl,Ru⟩ (by simp[bg];omega)
 ·exact oG.mk (by repeat (first|exact aV.refl _|apply aV.cons|apply aV.app)) ⟨_,rfl⟩
end Go.Proofs
namespace aj
open Go.Sx
def fY:List Nat→Nat
 | []=>0
 |x::r=>r.foldl min x
theorem pJ:∀(r:List Nat) (x:Nat),r.foldl min x≤x∧∀y∈r,r.foldl min x≤y
 | [],x=>⟨Nat.le_refl _,by simp⟩
 |z::r,x=>by
  obtain⟨h1,h2⟩:=pJ r (min x z)
  refine⟨by rw[List.foldl_cons];omega,fun y hy=>?_⟩
  rw[List.foldl_cons]
  rcases List.mem_cons.1 hy with rfl|hy
  ·omega
  ·exact h2 y hy
theorem nT:∀(r:List Nat) (x:Nat),r.foldl min x=x∨r.foldl min x∈r
 | [],x=>.inl rfl
 |z::r,x=>by
  rw[List.foldl_cons]
  rcases nT r (min x z)with h|h
  ·rw[h]
   rcases Nat.le_total x z with h'|h'
   ·left;omega
   ·right;rw[Nat.min_eq_right h'];simp
  ·right;exact List.mem_cons_of_mem _ h
theorem yX{l:List Nat}{y:Nat}(h:y∈l):fY l≤y:=by
 cases l with
 |nil=>simp at h
 |cons x r=>
  obtain⟨h1,h2⟩:=pJ r x
  rcases List.mem_cons.1 h with rfl|h
  ·exact h1
  ·exact h2 y h
theorem nk{l:List Nat}(h:l≠[]):fY l∈l:=by
 cases l with
 |nil=>exact absurd rfl h
 |cons x r=>
  rcases nT r x with h|h
  ·show r.foldl min x∈_;rw[h];simp
  ·exact List.mem_cons_of_mem _ h
theorem yY{l:List Nat}{m:Nat}(h1:m∈l)(h2:∀y∈l,m≤y):fY l=m:=
 Nat.le_antisymm (yX h1) (h2 _ (nk (by intro e;rw[e]at h1;simp at h1)))
theorem Be(l:List Nat)(x:Nat):fY (l++[x])=if l=[]then x else min (fY l) x:=by
 cases l with
 |nil=>rfl
 |cons y r=>simp[fY,List.foldl_append]
def ca(n a:Nat):List Nat:=(List.range n).filter fun v=> !a.testBit v
def has(n a:Nat):List Nat:=(List.range n).filter fun v=>a.testBit v
theorem cL{n a v:Nat}:v∈ca n a↔v<n∧a.testBit v=false:=by simp[ca]
theorem pn{n a v:Nat}:v∈has n a↔v<n∧a.testBit v=true:=by simp[has]
theorem mB{α:Type}(p q:α→Bool)(x:α):∀(l:List α),l.Nodup→x∈l→p x=true→q x=false→(∀y∈l,y≠x→q y=p y)→(l.filter q).length+1=(l.filter p).length
 | [],_,h,_,_,_=>by simp at h
 |y::l,nd,h,hp,hq,aK=>by
  rw[List.nodup_cons]at nd
  by_cases e:y=x
  ·subst e
   have hsame:l.filter q=l.filter p:=by
    apply List.filter_congr
    intro z hz
    exact aK z (by simp[hz]) (fun e=>nd.1 (e▸hz))
   rw[List.filter_cons,List.filter_cons,hp,hq,hsame];simp
  ·have hxl:x∈l:=by rcases List.mem_cons.1 h with h|h;exact absurd h.symm e;exact h
   have ih:=mB p q x l nd.2 hxl hp hq fun z hz hne=>aK z (by simp[hz]) hne
   have hy:=aK y (by simp) e
   rw[List.filter_cons,List.filter_cons,hy]
   cases p y
   ·simpa using ih
   ·simp only[if_true,List.length_cons];omega
theorem o7{a u v:Nat}(h:v≠u):(aI a u true).testBit v=a.testBit v:=by rw[aq,if_neg h]
theorem gv{n a v:Nat}(h:v∈ca n a):(ca n (aI a v true)).length+1=(ca n a).length:=by
 obtain⟨h1,h2⟩:=cL.1 h
 refine mB _ _ v (List.range n) List.nodup_range (List.mem_range.2 h1) (by simp[h2]) (by simp[aq]) fun y hy hne=>?_
 rw[o7 hne]
def Ng(n:Nat)(c:Nat→Nat→Nat):Nat→Nat→Nat
 |0,_=>0
 |f+1,a=>fY ((ca n a).map fun v=>c a v+Ng n c f (aI a v true))
def par(n:Nat)(c:Nat→Nat→Nat):Nat→Nat→Nat
 |0,_=>0
 |f+1,s=>fY ((has n s).map fun v=>c (aI s v false) v+par n c f (aI s v false))
theorem z6{n:Nat}{c:Nat→Nat→Nat}:∀(f:Nat) (a:Nat),(ca n a).length≤f→Ng n c (f+1) a=Ng n c f a
 |0,a,h=>by
  have:ca n a=[]:=List.length_eq_zero_iff.1 (by omega)
  simp[Ng,this,fY]
 |f+1,a,h=>by
  rw[Ng,Ng]
  congr 1
  apply List.map_congr_left
  intro v hv
  rw[z6 f _ (by have:=gv hv;omega)]
theorem Pe(n a:Nat):(ca n a).length≤n:=by have:=List.length_filter_le (fun v=> !a.testBit v) (List.range n);simpa[ca]using this
def B(n:Nat)(c:Nat→Nat→Nat)(a:Nat):Nat:=Ng n c n a
def W(n:Nat)(c:Nat→Nat→Nat)(s:Nat):Nat:=par n c n s
theorem Fe(n:Nat)(c:Nat→Nat→Nat)(a:Nat):B n c a=fY ((ca n a).map fun v=>c a v+B n c (aI a v true)):=by
 unfold B
 rw[←z6 n a (Pe n a)]
 rfl
theorem Yu{n:Nat}{c:Nat→Nat→Nat}{a v:Nat}(hv:v∈ca n a):B n c a≤c a v+B n c (aI a v true):=by
 rw[Fe n c a];exact yX (List.mem_map.2 ⟨v,hv,rfl⟩)
theorem Yv{n:Nat}{c:Nat→Nat→Nat}{a:Nat}(h:ca n a≠[]):∃v∈ca n a,B n c a=c a v+B n c (aI a v true):=by
 have:=nk (l:=(ca n a).map fun v=>c a v+B n c (aI a v true)) (by simpa using h)
 rw[←Fe]at this
 obtain⟨v,hv,e⟩:=List.mem_map.1 this
 exact⟨v,hv,e.symm⟩
theorem Gw{n:Nat}{c:Nat→Nat→Nat}{a:Nat}(h:ca n a=[]):B n c a=0:=by rw[Fe,h];rfl
structure Used(n:Nat)(c:Nat→Nat→Nat)(U:Nat):Prop where
 zero:∀a v,v<n→a.testBit v=false→U.testBit v=false→c a v=0
 mask:∀a v,v<n→a.testBit v=false→c a v=c (a&&&U) v
theorem mL{a U v:Nat}{b:Bool}:(aI a v b) &&&U=if U.testBit v then aI (a&&&U) v b else a&&&U:=by
 apply Nat.eq_of_testBit_eq;intro k
 by_cases hU:U.testBit v=true
 ·rw[if_pos hU,Nat.testBit_and,aq,aq,Nat.testBit_and]
  by_cases e:k=v
  ·subst e;simp[hU]
  ·simp[e]
 ·rw[if_neg hU,Nat.testBit_and,aq,Nat.testBit_and]
  by_cases e:k=v
  ·subst e;simp[hU]
  ·simp[e]
def dm(n U a:Nat):List Nat:=(ca n a).filter fun v=>U.testBit v
theorem fe{n U a v:Nat}:v∈dm n U a↔v<n∧a.testBit v=false∧U.testBit v=true:=by simp[dm,cL,and_assoc]
theorem j5(n U a:Nat):dm n U (a&&&U)=dm n U a:=by
 unfold dm ca
 rw[List.filter_filter,List.filter_filter]
 apply List.filter_congr
 intro v _
 rw[Nat.testBit_and]
 cases a.testBit v<;>cases U.testBit v<;>rfl
theorem Fb{n U:Nat}{c:Nat→Nat→Nat}(hU:Used n c U):∀(d a:Nat),(ca n a).length=d→B n c a=fY ((dm n U a).map fun v=>c (a&&&U) v+B n c (aI a v true))∧∀a',(ca n a').length≤d→a'&&&U=a&&&U→B n c a'=B n c a:=by
 intro d
 induction d using Nat.strongRecOn with
 |_ d ih=>
  have key:∀a,(ca n a).length=d→B n c a=fY ((dm n U a).map fun v=>c (a&&&U) v+B n c (aI a v true)):=by
   intro a hd
   by_cases hm:ca n a=[]
   ·have h1:dm n U a=[]:=by unfold dm;rw[hm];rfl
    rw[h1,Gw hm];rfl
   ·have hle:∀v∈dm n U a,B n c a≤c (a&&&U) v+B n c (aI a v true):=fun v hv=>by
     obtain⟨h1,h2,h3⟩:=fe.1 hv
     rw[←hU.mask a v h1 h2];exact Yu (cL.2 ⟨h1,h2⟩)
    obtain⟨v,hv,he⟩:=Yv (c:=c) hm
    obtain⟨h1,h2⟩:=cL.1 hv
    by_cases hu:U.testBit v=true
    ·symm
     refine yY (List.mem_map.2 ⟨v,fe.2 ⟨h1,h2,hu⟩,by rw[←hU.mask a v h1 h2];exact he.symm⟩) fun y hy=>?_
     obtain⟨w,hw,rfl⟩:=List.mem_map.1 hy
     exact hle w hw
    ·have xl:U.testBit v=false:=by simpa using hu
     rw[hU.zero a v h1 h2 xl,Nat.zero_add]at he
     have hlt:(ca n (aI a v true)).length<d:=by have:=gv hv;omega
     have hand:aI a v true&&&U=a&&&U:=by rw[mL,if_neg hu]
     obtain⟨k1,k2⟩:=ih _ hlt (aI a v true) rfl
     have Rs:dm n U (aI a v true)=dm n U a:=by rw[←j5,hand,j5]
     by_cases BA:dm n U a=[]
     ·rw[Rs,BA]at k1
      rw[he,k1,BA];rfl
     ·symm
      rw[Rs,hand]at k1
      have hmem:=nk (l:=(dm n U a).map fun w=>c (a&&&U) w+B n c (aI (aI a v true) w true)) (by simpa using BA)
      rw[←k1]at hmem
      obtain⟨w,hw,hwe⟩:=List.mem_map.1 hmem
      obtain⟨w1,w2,w3⟩:=fe.1 hw
      have hwv:w≠v:=fun e=>by rw[e]at w3;rw[xl]at w3;cases w3
      have RF:aI (aI a v true) w true=aI (aI a w true) v true:=by
       apply Nat.eq_of_testBit_eq;intro k
       rw[aq,aq,aq,aq]
       by_cases e1:k=w<;>by_cases e2:k=v<;>simp[e1,e2]
      have hmw:w∈ca n a:=cL.2 ⟨w1,w2⟩
      have hsub:B n c (aI (aI a v true) w true)=B n c (aI a w true):=by
       have dI:(ca n (aI a w true)).length<d:=by have:=gv hmw;omega
       refine(ih _ dI (aI a w true) rfl).2 _ ?_ ?_
       ·have hvm:v∈ca n (aI a w true):=cL.2 ⟨h1,by rw[aq,if_neg (Ne.symm hwv)];exact h2⟩
        have:=gv hvm
        rw[RF];omega
       ·rw[RF,mL,if_neg hu]
      have hval:c (a&&&U) w+B n c (aI a w true)=B n c a:=by rw[he,←hwe,hsub]
      refine yY (List.mem_map.2 ⟨w,hw,hval⟩) fun y hy=>?_
      obtain⟨z,hz,rfl⟩:=List.mem_map.1 hy
      exact hle z hz
  intro a hd
  refine⟨key a hd,fun a' ei hand=>?_⟩
  have Rs:dm n U a'=dm n U a:=by rw[←j5,hand,j5]
  have h':B n c a'=fY ((dm n U a').map fun v=>c (a'&&&U) v+B n c (aI a' v true)):=by
   rcases Nat.lt_or_ge (ca n a').length d with h|h
   ·exact(ih _ h a' rfl).1
   ·exact key a' (by omega)
  rw[h',key a hd,Rs,hand]
  congr 1
  apply List.map_congr_left
  intro v hv
  congr 1
  obtain⟨v1,v2,v3⟩:=fe.1 hv
  have hma:v∈ca n a:=cL.2 ⟨v1,v2⟩
  have abc:v∈ca n a':=by
   rw[←Rs]at hv
   exact cL.2 ⟨v1,(fe.1 hv).2.1⟩
  have hlt:(ca n (aI a v true)).length<d:=by have:=gv hma;omega
  refine(ih _ hlt (aI a v true) rfl).2 _ ?_ ?_
  ·have:=gv abc;have:=gv hma;omega
  ·rw[mL,mL,hand]
theorem Sa{n U:Nat}{c:Nat→Nat→Nat}(hU:Used n c U)(a:Nat):B n c (a&&&U)=B n c a:=by
 have e:(a&&&U) &&&U=a&&&U:=by rw[Nat.and_assoc,Nat.and_self]
 rcases Nat.le_total (ca n (a&&&U)).length (ca n a).length with h|h
 ·exact(Fb hU _ a rfl).2 _ h e
 ·exact((Fb hU _ (a&&&U) rfl).2 a h e.symm).symm
theorem Yt{n U:Nat}{c:Nat→Nat→Nat}(hU:Used n c U)(a:Nat):B n c a=fY ((dm n U a).map fun v=>c (a&&&U) v+B n c (aI (a&&&U) v true)):=by
 rw[(Fb hU _ a rfl).1]
 congr 1
 apply List.map_congr_left
 intro v hv
 obtain⟨v1,v2,v3⟩:=fe.1 hv
 congr 1
 rw[←Sa hU (aI a v true),mL,if_pos v3]
def ord(n:Nat)(c:Nat→Nat→Nat):Nat→Nat→List Nat
 |0,_=>[]
 |f+1,a=>match(ca n a).find? fun v=>c a v+B n c (aI a v true)==B n c a with
  |some v=>v::ord n c f (aI a v true)
  |none=>[]
theorem sZ{n:Nat}{c:Nat→Nat→Nat}{f a:Nat}(h:ca n a≠[]):∃v,v∈ca n a∧c a v+B n c (aI a v true)=B n c a∧(∀u∈ca n a,u<v→c a u+B n c (aI a u true)≠B n c a)∧ord n c (f+1) a=v::ord n c f (aI a v true):=by
 obtain⟨w,hw,he⟩:=Yv (c:=c) h
 cases hf:(ca n a).find? fun v=>c a v+B n c (aI a v true)==B n c a with
 |none=>
  rw[List.find?_eq_none]at hf
  exact absurd (by simpa using he.symm) (hf w hw)
 |some v=>
  have h1:=List.find?_some hf
  refine⟨v,List.mem_of_find?_eq_some hf,by simpa using h1,fun u hu huv=>?_,by rw[ord,hf]⟩
  rw[List.find?_eq_some_iff_append]at hf
  obtain⟨_,as1,bs,hab,hno⟩:=hf
  have hs:(ca n a).Pairwise (· < ·):=List.Pairwise.filter _ List.pairwise_lt_range
  rw[hab]at hs hu
  rcases List.mem_append.1 hu with hu|hu
  ·have:=hno u hu;simpa using this
  ·rw[List.pairwise_append]at hs
   have h2:=hs.2.1
   rw[List.pairwise_cons]at h2
   rcases List.mem_cons.1 hu with rfl|hu
   ·omega
   ·have:=h2.1 u hu;omega
end aj
namespace aj
open Go.Sx
theorem eA{x u v:Nat}{b c:Bool}(h:u≠v):aI (aI x u b) v c=aI (aI x v c) u b:=by
 apply Nat.eq_of_testBit_eq;intro k
 rw[aq,aq,aq,aq]
 by_cases e1:k=u<;>by_cases e2:k=v
 ·exact absurd (e1.symm.trans e2) h
 ·simp[e1,h]
 ·simp[e2,Ne.symm h]
 ·simp[e1,e2]
theorem Qs{n u v:Nat}{ws:List Nat}{b:Bool}(hf:cw n ws)(hu:u<n)(hv:v<n)(h:dep n ws v=false):dep n (dV n ws u b) v=false:=by
 by_cases e:u=v
 ·subst e
  cases hd:dep n (dV n ws u b) u
  ·rfl
  ·obtain⟨x,hx,hne⟩:=(r6 (cF hf.lD) hu).1 hd
   rw[eO hf hu (fc hx hu),eO hf hu (fc hx hu)]at hne
   refine absurd ?_ hne
   congr 1
   apply Nat.eq_of_testBit_eq;intro k
   rw[aq,aq,aq,aq]
   by_cases e:k=u<;>simp[e]
 ·cases hd:dep n (dV n ws u b) v
  ·rfl
  ·obtain⟨x,hx,hne⟩:=(r6 (cF hf.lD) hv).1 hd
   rw[eO hf hu (fc hx hv),eO hf hu (fc hx hv),eA (Ne.symm e),eA (Ne.symm e)]at hne
   have:=(r6 hf hv).2 ⟨aI x u b,fc hx hu,hne⟩
   rw[h]at this;cases this
theorem wP{n:Nat}{L:Fs}{A:Nat}(hL:∀t∈L,cw n t)(hn:n≤16){v:Nat}(hv:v<n)(h:∀t∈L,dep n t v=false):∀k,k≤n→∀t∈st n L A k,dep n t v=false
 |0,_,t,ht=>h t (cU.1 ht)
 |k+1,hk,t,ht=>by
  rw[st]at ht
  split at ht
  ·obtain⟨u,hu,b,rfl⟩:=bU.1 ht
   exact Qs (A2 hL hn k u hu) (by omega) hv (wP hL hn hv h k (by omega) u hu)
  ·exact wP hL hn hv h k (by omega) t ht
def aX(n:Nat)(L:Fs):Nat:=L.foldl (fun u t=>u|||n5 n t) 0
theorem nM(n v:Nat):∀(L:Fs) (u:Nat),(L.foldl (fun u t=>u|||n5 n t) u).testBit v=(u.testBit v||L.any fun t=>(n5 n t).testBit v)
 | [],u=>by simp
 |t::L,u=>by rw[List.foldl_cons,nM n v L,Nat.testBit_or,List.any_cons,Bool.or_assoc]
theorem wL{n v:Nat}{L:Fs}:(aX n L).testBit v=L.any fun t=>(n5 n t).testBit v:=by
 unfold aX;rw[nM];simp
theorem su{n v:Nat}{L:Fs}(hv:v<n)(h:(aX n L).testBit v=false):∀t∈L,dep n t v=false:=by
 rw[wL,List.any_eq_false]at h
 intro t ht
 have:=h t ht
 rw[n5,gV]at this
 simpa[hv]using this
theorem zB(n:Nat):∀(L:Fs) (u:Nat),u<2^n→L.foldl (fun u t=>u|||n5 n t) u<2^n
 | [],u,h=>h
 |t::L,u,h=>zB n L _ (Nat.or_lt_two_pow h (lY n t n))
theorem sA(n:Nat)(L:Fs):aX n L<2^n:=zB n L 0 (Nat.two_pow_pos n)
theorem Fq{n:Nat}{L:Fs}{A:Nat}(hL:∀t∈L,cw n t)(hn:n≤16):∀k,k≤n→∀x,x∈st n L A k↔x∈st n L (A&&&aX n L) k
 |0,_,x=>Iff.rfl
 |k+1,hk,x=>by
  have ih:=Fq (A:=A) hL hn k (by omega)
  rw[st,st,Nat.testBit_and]
  cases hA:A.testBit k
  ·simpa using ih x
  ·cases hU:(aX n L).testBit k
   ·simp only[if_true,Bool.and_false,Bool.false_eq_true,if_false]
    rw[bU,←ih x]
    have hd:=wP (A:=A) hL hn (v:=k) (by omega) (su (by omega) hU) k (by omega)
    have hf:=A2 (A:=A) hL hn k
    constructor
    ·rintro⟨t,ht,b,rfl⟩
     rw[mE (hf t ht) (by omega) (hd t ht)];exact ht
    ·intro hx
     exact⟨x,hx,false,(mE (hf x hx) (by omega) (hd x hx)).symm⟩
   ·simp only[Bool.and_true,if_true]
    rw[bU,bU]
    constructor
    ·rintro⟨t,ht,h⟩;exact⟨t,(ih t).1 ht,h⟩
    ·rintro⟨t,ht,h⟩;exact⟨t,(ih t).2 ht,h⟩
theorem Fi{n:Nat}{L:Fs}(hL:∀t∈L,cw n t)(hn:n≤16):Used n (lvl n L) (aX n L):=by
 refine⟨fun a v hv _ hU=>?_,fun a v hv _=>?_⟩
 ·unfold lvl nodes
  rw[List.length_eq_zero_iff,List.filter_eq_nil_iff]
  intro t ht
  rw[wP hL hn hv (su hv hU) n (Nat.le_refl _) t ht];simp
 ·exact kS (iL (lZ n L a n) (lZ n L _ n) (Fq hL hn n (Nat.le_refl _)))
end aj
set_option maxRecDepth 100000
namespace Go.Proofs
open Go Go.Sx
def kp(x:Nat×Nat):Value:=.agg (aF .i64 [(x.1:Int),(x.2:Int)])
def ki(x:Nat):Value:=.int .i64 (x:Int)
theorem Bq(a b:Nat):Instr.sameNow (.int .i64) (ki a) (ki b)=some (decide (a=b)):=by
 simp only[Instr.sameNow,ki,if_true,Option.some.injEq]
 rw[Bool.eq_iff_iff];simp;omega
theorem Pu(a:Nat):Instr.sameBits 10000 (ki a) (ki a)=true:=by simp[Instr.sameBits,ki]
theorem Lu(a b:Nat×Nat):E7 Tryz.prog 226 (kp a) (kp b) (decide (a=b)):=by
 have:=E7.array (P:=Tryz.prog) (t:=226) (e:=3) (q:=.i64) (n:=2) (by kernel_rfl) (by kernel_rfl) (by kernel_rfl) [(a.1:Int),(a.2:Int)] [(b.1:Int),(b.2:Int)] rfl rfl
 have e:decide ([(a.1:Int),(a.2:Int)]=[(b.1:Int),(b.2:Int)])=decide (a=b):=by
  rw[decide_eq_decide]
  obtain⟨a1,a2⟩:=a;obtain⟨b1,b2⟩:=b
  simp;omega
 rw[e]at this;exact this
theorem Bo(a:Nat×Nat):nI Tryz.prog 226 (kp a):=nI.array (P:=Tryz.prog) (t:=226) (e:=3) (q:=.i64) (n:=2) (by kernel_rfl) (by kernel_rfl) (by kernel_rfl) _ rfl
theorem uS(n:Nat)(q:IntKind)(l:List Int):Instr.sameBits (n+1+1) (.agg (aF q l)) (.agg (aF q l))=true:=by
 simp only[Instr.sameBits,aF,beq_self_eq_true,Bool.true_and,List.all_eq_true]
 intro x hx
 obtain⟨a,b⟩:=x
 have h:=List.of_mem_zip hx
 have e:a=b:=by
  rw[List.zip_eq_zip_take_min]at hx
  obtain⟨i,hi,he⟩:=List.mem_iff_getElem.1 hx
  simp at he
  exact he.1.symm.trans he.2
 subst e
 have:=h.1
 simp only[List.toList_toArray,List.mem_map]at this
 obtain⟨y,_,rfl⟩:=this
 simp[Instr.sameBits]
theorem Pr(a:Nat×Nat):Instr.sameBits 10000 (kp a) (kp a)=true:=uS 9998 _ _
abbrev Yx(v:Value)(x:Nat):Prop:=v=.int .i64 (x:Int)
structure Gm(n:Nat)(L:List (List Nat))(rq:Array MapEntry)(pQ:Nat)(p5:Array MapEntry)(rz:Nat):Prop where
 av:∃m,bq kp Yx rq pQ m∧∀x∈m,x.2=aj.lvl n L x.1.1 x.1.2
 dow:∃m,bq ki Yx p5 rz m∧∀x∈m,x.2=aj.B n (aj.lvl n L) x.1
def lG(bp bl bd:Nat)(uI:Value)(n:Nat)(L:List (List Nat))(U:Nat)(B H:Hp):Prop:=
 ∃rq pQ p5 rz,H=(bp,.cells #[uI,.int .i64 (n:Int),.int .i64 (U:Int),.map (some bl),.map (some bd)] 137 (0,0))::(bl,.map rq pQ)::(bd,.map p5 rz)::B∧Gm n L rq pQ p5 rz
theorem yW{κ:Type}[DecidableEq κ]{f:κ→Nat}{m:List (κ×Nat)}{k:κ}(h:∀x∈m,x.2=f x.1):∀x∈gP m k (f k),x.2=f x.1:=by
 intro x hx
 unfold gP at hx
 split at hx
 ·obtain⟨y,hy,rfl⟩:=List.mem_map.1 hx
  split
  ·rfl
  ·exact h y hy
 ·rcases List.mem_append.1 hx with hx|hx
  ·exact h x hx
  ·simp at hx;subst hx;rfl
theorem yZ{κ:Type}[DecidableEq κ]{f:κ→Nat}{m:List (κ×Nat)}{k:κ}{x:Nat}(h:∀x∈m,x.2=f x.1)(hk:ed m k=some x):x=f k:=by
 unfold ed at hk
 obtain⟨y,hy,rfl⟩:=Option.map_eq_some_iff.1 hk
 have h1:=List.find?_some hy
 have h2:=h y (List.mem_of_find?_eq_some hy)
 simp only[decide_eq_true_eq]at h1
 rw[h2,h1]
structure ue(uI:Value)(n:Nat)(L:List (List Nat))(B:Hp):Prop where
 tb:cV B uI (gn n L)
 kI:∀ws∈L,aj.cw n ws
 ne:L≠[]
 small:L.length<33554432
 YD:n≤12
theorem Bj{uI:Value}{n:Nat}{L:List (List Nat)}{B:Hp}(h:ue uI n L B)(a v:Nat):aj.lvl n L a v<2199023255551:=by
 have h1:aj.lvl n L a v≤(aj.st n L a n).length:=List.length_filter_le _ _
 have h2:=KH (n:=n) (A:=a) (L:=L) (by have:=h.YD;omega) h.small (Nat.le_refl n)
 omega
theorem yS{uI:Value}{n:Nat}{L:List (List Nat)}{B:Hp}(h:ue uI n L B){bp bl bd a v:Nat}{H:Hp}(hp:lG bp bl bd uI n L (aj.aX n L) B H)(ha:a<2^n)(hv:v<n)(hav:a.testBit v=false):
  Fc Tryz.prog 73 #[.pointer (some ⟨bp,0,none⟩),.int .i64 (a:Int),.int .i64 (v:Int)] H (fun r H'=>r=.int .i64 ((aj.lvl n L a v:Nat):Int)∧lG bp bl bd uI n L (aj.aX n L) B H'):=by
 obtain⟨rq,pQ,p5,rz,rfl,hM⟩:=hp
 have hU:=aj.sA n L
 have zl:=h.YD
 have kZ:2^n≤2^12:=Nat.pow_le_pow_right (by decide) zl
 have zu:=aj.Fi h.kI (by omega)
 have hsU:aj.aX n L>>>v≤aj.aX n L:=Nat.shiftRight_le _ _
 intro g
 refine IK (R:=aE _) ?_
 unfold L73
 refine Nil.ptr ?_
 refine aa.mk (Ld.mk zM rfl ?_)
 refine ae.jJ (by simp[az];omega) (ae.jg (b:=1) (by simp[az];omega) (by decide) (ae.gp (b:=0) ?_))
 have tA:aj.aX n L>>>v&&&1=0↔(aj.aX n L).testBit v=false:=by
  rw[aj.eW,Nat.testBit_shiftRight,Nat.add_zero];cases (aj.aX n L).testBit v<;>simp
 refine Br.dec (fun h0=>?_) (fun h0=>?_)
 ·refine aE.here ⟨?_,rq,pQ,p5,rz,rfl,hM⟩
  rw[zu.zero a v hv hav (tA.1 h0)];rfl
 have hUv:(aj.aX n L).testBit v=true:=by cases hh:(aj.aX n L).testBit v;exact absurd (tA.2 hh) h0;rfl
 refine Nil.ptr ?_
 refine aa.mk (Ld.mk zM rfl ?_)
 refine ae.jg (by simp[az];omega) (by simp[az];omega) ?_
 have hlv:aj.lvl n L a v=aj.lvl n L (a&&&aj.aX n L) v:=zu.mask a v hv hav
 have RK:(a&&&aj.aX n L).testBit v=false:=by rw[Nat.testBit_and,hav];rfl
 have U3:a&&&aj.aX n L<2^n:=Nat.lt_of_le_of_lt Nat.and_le_left ha
 rw[hlv]
 obtain⟨a',ej⟩:∃a',a'=a&&&aj.aX n L:=⟨_,rfl⟩
 rw[←ej]at RK U3⊢
 refine Build.two (q:=.i64) (e:=3) (by kernel_rfl) (by kernel_rfl) (by kernel_rfl) ?_
 rw[show aF .i64 [(a':Int),(v:Int)]=List.toArray [.int .i64 (a':Int),.int .i64 (v:Int)]from rfl]
 intro mI _
 refine St.whole (r:=[.int .i64 (a':Int),.int .i64 (v:Int)]) (by exact .head _) rfl rfl (by simp[Value.oneCell']) ?_
 refine Nil.ptr ?_
 refine aa.mk (Ld.mk zM rfl ?_)
 refine aA.whole (r:=[.int .i64 (a':Int),.int .i64 (v:Int)]) (by exact .head _) rfl ?_
 obtain⟨⟨m1,RR,FN⟩,WL⟩:=hM
 have V8:∀J:List Value→Hp→Prop,(∀sn:Value,∀iy:Hp,(∀T8:Fr,aE (fun r H'=>r=.int .i64 ((aj.lvl n L a' v:Nat):Int)∧lG bp bl bd uI n L (aj.aX n L) B H') (.returned sn) iy)→J [sn] iy)→
   ∀Qq Qt,Gm n L Qq Qt p5 rz→J [.int .i64 ((aj.lvl n L a' v:Nat):Int)] ((bp,.cells #[uI,.int .i64 (n:Int),.int .i64 ((aj.aX n L:Nat):Int),.map (some bl),.map (some bd)] 137 (0,0))::(bl,.map Qq Qt)::(bd,.map p5 rz)::B):=
  fun J hJ Qq Qt hM=>hJ _ _ fun gs=>aE.here ⟨rfl,Qq,Qt,p5,rz,rfl,hM⟩
 cases hg:ed m1 (a',v)with
 |some x=>
  have hx:=yZ (f:=fun k=>aj.lvl n L k.1 k.2) FN hg
  simp only at hx
  refine bq.PU (ke:=kp) (k:=(a',v)) Lu Bo RR (by exact .tail _ (.tail _ (.head _))) hg fun y hy=>?_
  subst hy
  refine Ext.mk rfl (Ext.mk rfl ?_)
  intro J hJ
  refine Un.not (Br.no (JE.of .tail ?_))
  rw[hx]
  exact V8 J hJ _ _ ⟨⟨m1,RR,FN⟩,WL⟩
 |none=>
  refine bq.FI (ke:=kp) (k:=(a',v)) Lu Bo RR (by exact .tail _ (.tail _ (.head _))) hg ?_
  refine Ext.mk rfl (Ext.mk rfl ?_)
  intro J hJ
  refine Un.not (Br.yes ?_)
  refine DR.self ?_
  refine Nil.ptr ?_
  refine aa.mk (Ld.mk zM rfl ?_)
  refine⟨mI,0,.i64,0,rfl,rfl,by decide,by decide,?_⟩
  refine Ld.mk (v:=.int .i64 (a':Int)) (by exact .head _) rfl ?_
  refine bI.nat (by simp[az];omega) ?_
  refine ag.rd (B:=B) (.cons (.cons (.cons (.cons .here)))) (Lp (n:=n) (L:=L) h.tb h.kI h.ne (by have:=h.small;omega) U3 hv RK) ?_
  rintro r rfl
  refine⟨.refl _,Ext.mk rfl (Ext.mk rfl ?_)⟩
  refine DR.of (R:=(mI,.cells (List.toArray [.int .i64 (a':Int),.int .i64 (v:Int)]) 226 (0,0))::(bp,.cells #[uI,.int .i64 (n:Int),.int .i64 ((aj.aX n L:Nat):Int),.map (some bl),.map (some bd)] 137 (0,0))::[]) (.cons (.cons (fun g w h=>(Own.left (B:=_) (A:=[]) h)))) ?_
  refine Nil.ptr ?_
  refine aa.mk (Ld.mk zM rfl ?_)
  refine aA.whole (r:=[.int .i64 (a':Int),.int .i64 (v:Int)]) (by exact .head _) rfl ?_
  refine bq.Vs (ke:=kp) (vr:=Yx) (b:=bl) (val:=.int .i64 ((aj.lvl n L a' v:Nat):Int)) (k:=(a',v)) (x:=aj.lvl n L a' v) Lu Bo Pr RR rfl fun es' eN BU=>⟨_,.tail (.tail (.head _)),?_⟩
  have abe:∀x∈gP m1 (a',v) (aj.lvl n L a' v),x.2=aj.lvl n L x.1.1 x.1.2:=yW (f:=fun k:Nat×Nat=>aj.lvl n L k.1 k.2) (k:=(a',v)) FN
  have Y8:Gm n L es' eN p5 rz:=⟨⟨gP m1 (a',v) (aj.lvl n L a' v),BU,abe⟩,WL⟩
  exact JE.of .tail (V8 J hJ es' eN Y8)
end Go.Proofs
namespace Go.Sx
open Go
theorem s7(n:Int):BitVec.ofInt 64 (IntKind.i64.wrap n)=BitVec.ofInt 64 n:=by
 apply BitVec.eq_of_toNat_eq
 simp only[BitVec.toNat_ofInt,IntKind.wrap,IntKind.bits,IntKind.signed,Bool.true_and,decide_eq_true_eq]
 congr 1
 split<;>omega
theorem wrap_toInt(x:BitVec 64):IntKind.i64.wrap (x.toNat:Int)=x.toInt:=by
 rw[BitVec.toInt_eq_toNat_cond]
 have:=x.isLt
 have e:(2:Int)^(64-1)=9223372036854775808:=rfl
 simp only[IntKind.wrap,IntKind.bits,IntKind.signed,Bool.true_and,decide_eq_true_eq,e]
 split<;>split<;>omega
theorem ou(op:BinOp)(x y:Int):BitVec.ofInt 64 (bits op .i64 x y)=(match op with
  | .and=>BitVec.ofInt 64 x&&&BitVec.ofInt 64 y
  | .or=>BitVec.ofInt 64 x|||BitVec.ofInt 64 y
  | .xor=>BitVec.ofInt 64 x^^^BitVec.ofInt 64 y
  |_=>BitVec.ofInt 64 x&&& ~~~BitVec.ofInt 64 y):=by
 unfold bits
 simp only[s7]
 rw[BitVec.ofInt_natCast]
 simp only[IntKind.bits]
 rw[BitVec.ofNat_toNat,BitVec.setWidth_eq]
 cases op<;>rfl
theorem tV(op:BinOp)(x y:Int):bits op .i64 x y=(BitVec.ofInt 64 (bits op .i64 x y)).toInt:=by
 unfold bits
 simp only[s7]
 rw[BitVec.ofInt_natCast]
 simp only[IntKind.bits]
 rw[BitVec.ofNat_toNat,BitVec.setWidth_eq]
 exact wrap_toInt _
theorem Hi{a U v:Nat}(ha:a<4611686018427387904)(hU:U<4611686018427387904)(hv:v<62):
  bits .and .i64 ((bits .or .i64 a (bits .xor .i64 (-1) U)).fdiv (2^(min (v:Int).toNat IntKind.i64.bits))) 1=if a.testBit v=true∨U.testBit v=false then 1 else 0:=by
 have hX:=ou .or (a:Int) (bits .xor .i64 (-1) U)
 simp only at hX
 have hN:=ou .xor (-1) (U:Int)
 simp only at hN
 rw[hN]at hX
 generalize hx:bits .or .i64 a (bits .xor .i64 (-1) U)=x at hX
 have UJ:x=(BitVec.ofInt 64 x).toInt:=by rw[←hx];exact tV _ _ _
 have hm:min (v:Int).toNat IntKind.i64.bits=v:=by simp[IntKind.bits];omega
 rw[hm]
 have hs:x.fdiv (2^v)=((BitVec.ofInt 64 x).sshiftRight v).toInt:=by
  rw[BitVec.toInt_sshiftRight,←UJ,Int.shiftRight_eq_div_pow,Int.fdiv_eq_ediv_of_nonneg _ (Int.le_of_lt (Int.pow_pos (by decide)))]
  push_cast;rfl
 rw[hs,tV,ou]
 simp only[BitVec.ofInt_toInt]
 rw[hX]
 have h1:BitVec.ofInt 64 (1:Int)=1#64:=rfl
 have h2:BitVec.ofInt 64 (-1:Int)=BitVec.allOnes 64:=by decide
 rw[h1,h2]
 have tA:((BitVec.ofInt 64 (a:Int)|||BitVec.allOnes 64^^^BitVec.ofInt 64 (U:Int)).sshiftRight v).getLsbD 0=(a.testBit v|| !U.testBit v):=by
  rw[BitVec.getLsbD_sshiftRight]
  have e1:v+0<64:=by omega
  simp only[Nat.add_zero,show¬(64≤0)from by decide,decide_false,Bool.not_false,Bool.true_and,show v<64 by omega,if_true]
  rw[BitVec.getLsbD_or,BitVec.getLsbD_xor,BitVec.getLsbD_allOnes,BitVec.ofInt_natCast,BitVec.ofInt_natCast,BitVec.getLsbD_ofNat,BitVec.getLsbD_ofNat]
  simp[show v<64 by omega]
 have ff:∀y:BitVec 64,(y&&&1#64).toInt=if y.getLsbD 0 then 1 else 0:=by
  intro y
  have:y&&&1#64=if y.getLsbD 0 then 1#64 else 0#64:=by
   apply BitVec.eq_of_getLsbD_eq
   intro i hi
   rw[BitVec.getLsbD_and]
   by_cases h0:i=0
   ·subst h0;cases hb:y.getLsbD 0<;>simp[hb]
   ·have:(1#64).getLsbD i=false:=by simp[BitVec.getLsbD_one,h0]
    rw[this]
    cases y.getLsbD 0<;>simp[this]
  rw[this]
  cases y.getLsbD 0<;>decide
 rw[ff,tA]
 cases a.testBit v<;>cases U.testBit v<;>simp
theorem VJ{a U v:Nat}(ha:a<4611686018427387904)(hU:U<4611686018427387904)(hv:v<62){k:Value→Prop}(h:k (.bool (decide (a.testBit v=true∨U.testBit v=false)))):
  Un .xor (.int .i64 (U:Int)) fun e8=>ae .num .or (.int .i64 (a:Int)) e8 fun e7=>ae .num .shr e7 (.int .i64 (v:Int)) fun fp=>ae .num .and fp (.int .i64 1) fun ew=>ae .num .eql ew (.int .i64 1) k:=by
 refine⟨_,rfl,_,rfl,?_⟩
 have h0:¬((v:Int)<0):=by omega
 refine⟨_,by simp only[gk,h0,if_false];rfl,_,rfl,?_⟩
 refine ae.kJ ?_
 have hs:(if IntKind.i64.signed=true then(-1:Int)else IntKind.i64.max)= -1:=rfl
 rw[hs,Hi ha hU hv]
 by_cases hc:a.testBit v=true∨U.testBit v=false
 ·rw[if_pos hc];rw[decide_eq_true hc]at h;exact h
 ·rw[if_neg hc];rw[decide_eq_false hc]at h;exact h
end Go.Sx
set_option maxRecDepth 100000
namespace Go.Proofs
open Go Go.Sx
theorem gZ(x:Value)(r:List Value)(i:Nat):bg (x::r) (i+1)=bg r i:=by cases x<;>rfl
def iX(n:Nat)(L:List (List Nat))(U a k:Nat):List Nat:=((List.range k).filter fun v=> !a.testBit v&&U.testBit v).map fun v=>aj.lvl n L a v+aj.B n (aj.lvl n L) (aj.aI a v true)
theorem GV{n:Nat}{L:List (List Nat)}{U a:Nat}:iX n L U a n=(aj.dm n U a).map fun v=>aj.lvl n L a v+aj.B n (aj.lvl n L) (aj.aI a v true):=by
 unfold iX aj.dm aj.ca
 rw[List.filter_filter]
 congr 1
 apply List.filter_congr
 intro v _
 cases a.testBit v<;>cases U.testBit v<;>rfl
theorem sO{n:Nat}{L:List (List Nat)}{U a k:Nat}:iX n L U a (k+1)=if a.testBit k=true∨U.testBit k=false then iX n L U a k else iX n L U a k++[aj.lvl n L a k+aj.B n (aj.lvl n L) (aj.aI a k true)]:=by
 unfold iX
 rw[List.range_succ,List.filter_append,List.map_append]
 cases h1:a.testBit k<;>cases h2:U.testBit k<;>simp[h1,h2]
def wh(l:List Nat):Value:=if l=[]then .int .i64 (-1)else .int .i64 ((aj.fY l:Nat):Int)
theorem Nf(n:Nat)(c:Nat→Nat→Nat)(M:Nat)(hc:∀a v,c a v≤M):∀f a,aj.Ng n c f a≤f*M
 |0,a=>by simp[aj.Ng]
 |f+1,a=>by
  rw[aj.Ng,Nat.succ_mul]
  by_cases h:aj.ca n a=[]
  ·rw[h];simp[aj.fY]
  ·have:=aj.nk (l:=(aj.ca n a).map fun v=>c a v+aj.Ng n c f (aj.aI a v true)) (by simpa using h)
   obtain⟨v,_,e⟩:=List.mem_map.1 this
   rw[←e]
   have h1:=hc a v
   have h2:=Nf n c M hc f (aj.aI a v true)
   omega
theorem Gv{uI:Value}{n:Nat}{L:List (List Nat)}{B:Hp}(h:ue uI n L B)(a:Nat):aj.B n (aj.lvl n L) a<35184372088832:=by
 have h1:=Nf n (aj.lvl n L) 2199023255551 (fun a v=>Nat.le_of_lt (Bj h a v)) n a
 have h2:n*2199023255551≤12*2199023255551:=Nat.mul_le_mul_right _ h.YD
 unfold aj.B;omega
theorem xP{a U n:Nat}(hU:U<2^n)(h:∀v,v<n→¬(a.testBit v=false∧U.testBit v=true)):a&&&U=U:=by
 apply Nat.eq_of_testBit_eq;intro k
 rw[Nat.testBit_and]
 by_cases hk:k<n
 ·have:=h k hk
  cases h1:a.testBit k<;>cases h2:U.testBit k<;>simp_all
 ·have:U.testBit k=false:=Nat.testBit_lt_two_pow (Nat.lt_of_lt_of_le hU (Nat.pow_le_pow_right (by decide) (by omega)))
  rw[this];simp
theorem p7{uI:Value}{n:Nat}{L:List (List Nat)}{B:Hp}(h:ue uI n L B){bp bl bd:Nat}:∀(d a:Nat),(aj.dm n (aj.aX n L) a).length≤d→a<2^n→∀H,lG bp bl bd uI n L (aj.aX n L) B H→
  Fc Tryz.prog 74 #[.pointer (some ⟨bp,0,none⟩),.int .i64 (a:Int)] H (fun r H'=>r=.int .i64 ((aj.B n (aj.lvl n L) a:Nat):Int)∧lG bp bl bd uI n L (aj.aX n L) B H'):=by
 have hU:=aj.sA n L
 have zl:=h.YD
 have kZ:2^n≤2^12:=Nat.pow_le_pow_right (by decide) zl
 have zu:=aj.Fi h.kI (by omega)
 intro d
 induction d using Nat.strongRecOn with
 |_ d ih=>
  intro a hd ha H hp
  obtain⟨rq,pQ,p5,rz,rfl,hM⟩:=hp
  intro g
  refine wA (R:=aE _) ?_
  unfold L74
  refine Nil.ptr ?_
  refine aa.mk (Ld.mk zM rfl ?_)
  refine ae.jg (by simp[az];omega) (by simp[az];omega) ?_
  refine Nil.ptr ?_
  refine aa.mk (Ld.mk zM rfl ?_)
  have hBa:aj.B n (aj.lvl n L) a=aj.B n (aj.lvl n L) (a&&&aj.aX n L):=(aj.Sa zu a).symm
  have Rs:aj.dm n (aj.aX n L) (a&&&aj.aX n L)=aj.dm n (aj.aX n L) a:=aj.j5 _ _ _
  have U3:a&&&aj.aX n L<2^n:=Nat.lt_of_le_of_lt Nat.and_le_left ha
  have mu:(a&&&aj.aX n L) &&&aj.aX n L=a&&&aj.aX n L:=by rw[Nat.and_assoc,Nat.and_self]
  rw[hBa]
  rw[←Rs]at hd
  obtain⟨a',ej⟩:∃a',a'=a&&&aj.aX n L:=⟨_,rfl⟩
  rw[←ej]at U3 hd mu⊢
  clear hBa Rs ha ej
  have aK:=GV (n:=n) (L:=L) (U:=aj.aX n L) (a:=a')
  have V9:aj.B n (aj.lvl n L) a'=aj.fY (iX n L (aj.aX n L) a' n):=by
   rw[aK]
   have:=aj.Yt zu a'
   rw[mu]at this
   exact this
  refine ae.gp (Br.dec (fun h0=>?_) (fun h0=>?_))
  ·refine aE.here ⟨?_,rq,pQ,p5,rz,rfl,hM⟩
   have:aj.dm n (aj.aX n L) a'=[]:=by
    rw[List.eq_nil_iff_forall_not_mem]
    intro v hv
    obtain⟨_,h2,h3⟩:=aj.fe.1 hv
    rw[h0,h3]at h2;cases h2
   rw[V9,aK,this];rfl
  have hne:iX n L (aj.aX n L) a' n≠[]:=by
   rw[aK]
   intro e
   apply h0
   rw[←mu]
   refine xP hU fun v hv hh=>?_
   have:v∈aj.dm n (aj.aX n L) a':=aj.fe.2 ⟨hv,hh.1,hh.2⟩
   rw[List.map_eq_nil_iff.1 e]at this;simp at this
  refine Nil.ptr ?_
  refine aa.mk (Ld.mk zM rfl ?_)
  obtain⟨L4,m2,BT,vQ⟩:=hM
  cases hg:ed m2 a' with
  |some x=>
   have hx:=yZ (f:=aj.B n (aj.lvl n L)) vQ hg
   refine bq.hit (ke:=ki) (k:=a') Bq BT (by exact .tail _ (.tail _ (.head _))) hg fun y hy=>?_
   subst hy
   refine Ext.mk rfl (Ext.mk rfl (Br.yes (aE.here ⟨?_,rq,pQ,p5,rz,rfl,L4,m2,BT,vQ⟩)))
   rw[hx];rfl
  |none=>
   refine bq.ca (ke:=ki) (k:=a') Bq BT (by exact .tail _ (.tail _ (.head _))) hg ?_
   refine Ext.mk rfl (Ext.mk rfl (Br.no (Nil.ptr ?_)))
   refine aa.mk (Ld.mk zM rfl ?_)
   refine⟨fun vs H=>∃k:Nat,vs=[wh (iX n L (aj.aX n L) a' k),.int .i64 (k:Int)]∧k≤n∧lG bp bl bd uI n L (aj.aX n L) B H,fun vs _=>n-bg vs 1,
    JE.mk ⟨0,rfl,Nat.zero_le _,rq,pQ,p5,rz,rfl,L4,m2,BT,vQ⟩,?_⟩
   clear BT vQ hg L4 rq pQ p5 rz m2
   rintro jz lN H ⟨k,hv,hk,hp⟩ gs
   simp only[List.cons.injEq,and_true]at hv
   obtain⟨rfl,rfl⟩:=hv
   refine ae.dL (Br.dec (fun hlt=>?_) (fun hlt=>?_))
   ·intro J hJ
    have zh:=hp
    obtain⟨rq,pQ,p5,rz,rfl,hM⟩:=hp
    refine Nil.ptr ?_
    refine aa.mk (Ld.mk zM rfl ?_)
    refine VJ (by omega) (by omega) (by omega) ?_
    have zk:∀l H,l=iX n L (aj.aX n L) a' (k+1)→lG bp bl bd uI n L (aj.aX n L) B H→J [wh l] H:=fun l H hl hp=>hJ _ _ fun gs=>by
     refine ae.aH (b:=1) (by simp[az];omega) ?_
     exact ay.mk ⟨k+1,by rw[hl],by omega,hp⟩ (by rw[gZ,gZ];show n-(((k:Int)+1).toNat)<n-((k:Int).toNat);omega)
    by_cases hc:a'.testBit k=true∨(aj.aX n L).testBit k=false
    ·rw[decide_eq_true hc]
     refine Br.yes (JE.mk (zk _ _ ?_ zh))
     rw[sO,if_pos hc]
    ·rw[decide_eq_false hc]
     have YZ:a'.testBit k=false∧(aj.aX n L).testBit k=true:=by
      cases h1:a'.testBit k<;>cases h2:(aj.aX n L).testBit k<;>simp_all
     have hmem:k∈aj.dm n (aj.aX n L) a':=aj.fe.2 ⟨hlt,YZ.1,YZ.2⟩
     refine Br.no (DR.self ?_)
     have hpk:2^k≤2^12:=Nat.pow_le_pow_right (by decide) (by omega)
     refine ae.rI (a:=1) (by simp[IntKind.bits];omega) (by rw[Nat.one_shiftLeft];simp[az];omega) ?_
     rw[Nat.one_shiftLeft]
     refine ae.FB (by simp[az];omega) (by simp[az];omega) ?_
     have Qp:a'|||2^k=aj.aI a' k true:=rfl
     rw[Qp]
     refine ag.fn .here (yS h zh U3 hlt YZ.1) ?_
     rintro r H1 ⟨rfl,uY⟩
     have hlen:(aj.dm n (aj.aX n L) (aj.aI a' k true)).length<d:=by
      have h1:(aj.dm n (aj.aX n L) (aj.aI a' k true)).length+1=(aj.dm n (aj.aX n L) a').length:=by
       unfold aj.dm aj.ca
       rw[List.filter_filter,List.filter_filter]
       refine aj.mB _ _ k (List.range n) List.nodup_range (List.mem_range.2 hlt) (by simp[YZ]) (by simp[aj.aq]) fun y hy hne=>?_
       rw[aj.o7 hne]
      omega
     refine ag.fn .here (ih _ hlen (aj.aI a' k true) (Nat.le_refl _) (aj.fc U3 hlt) H1 uY) ?_
     rintro r H2 ⟨rfl,kZ⟩
     have Y1:=Bj h a' k
     have U2:=Gv h (aj.aI a' k true)
     refine ae.aH (by simp[az];omega) ?_
     have hstep:=sO (n:=n) (L:=L) (U:=aj.aX n L) (a:=a') (k:=k)
     rw[if_neg hc]at hstep
     generalize aj.lvl n L a' k+aj.B n (aj.lvl n L) (aj.aI a' k true)=x at hstep
     unfold wh
     by_cases hl:iX n L (aj.aX n L) a' k=[]
     ·rw[if_pos hl]
      refine ae.lss (cv.mk true (fun e=>by simp at e) (fun _=>rfl) fun gs=>Br.yes (JE.mk ?_))
      have:=zk [x] _ (by rw[hstep,hl];rfl) kZ
      simpa[wh,aj.fY]using this
     ·rw[if_neg hl]
      have YQ:=aj.Be (iX n L (aj.aX n L) a' k) x
      rw[if_neg hl,←hstep]at YQ
      have aa8:iX n L (aj.aX n L) a' (k+1)≠[]:=by rw[hstep];simp
      have PR:=zk _ H2 rfl kZ
      unfold wh at PR
      rw[if_neg aa8,YQ]at PR
      have hneg:decide (((aj.fY (iX n L (aj.aX n L) a' k):Nat):Int)<0)=false:=decide_eq_false (by omega)
      by_cases hx:x<aj.fY (iX n L (aj.aX n L) a' k)
      ·rw[Nat.min_eq_right (by omega)]at PR
       refine ae.lss ?_
       rw[hneg]
       exact cv.mk true (fun _=>ae.dL ⟨rfl,by rw[decide_eq_true hx]⟩) (fun e=>by simp at e) fun gs=>Br.yes (JE.mk PR)
      ·rw[Nat.min_eq_left (by omega)]at PR
       refine ae.lss ?_
       rw[hneg]
       exact cv.mk false (fun _=>ae.dL ⟨rfl,by rw[decide_eq_false hx]⟩) (fun e=>by simp at e) fun gs=>Br.no (JE.mk PR)
   ·have:k=n:=by omega
    subst this
    obtain⟨rq,pQ,p5,rz,rfl,L4,m2,BT,vQ⟩:=hp
    refine Nil.ptr ?_
    refine aa.mk (Ld.mk zM rfl ?_)
    unfold wh
    rw[if_neg hne,←V9]
    refine bq.ct (ke:=ki) (vr:=Yx) (b:=bd) (val:=.int .i64 ((aj.B k (aj.lvl k L) a':Nat):Int)) (k:=a') (x:=aj.B k (aj.lvl k L) a') Bq Pu BT rfl fun es' eN BU=>⟨_,.tail (.tail (.head _)),?_⟩
    have abd:∀x∈gP m2 a' (aj.B k (aj.lvl k L) a'),x.2=aj.B k (aj.lvl k L) x.1:=yW (f:=aj.B k (aj.lvl k L)) vQ
    exact aE.here ⟨rfl,rq,pQ,es',eN,rfl,L4,_,BU,abd⟩
end Go.Proofs
set_option maxRecDepth 100000
namespace Go.Proofs
open Go Go.Sx
def adP(v:Value)(ts:List Tb)(B:Hp)(r:Value)(H:Hp):Prop:=
 (pU ts∧∃(bp bl bd n:Nat) (L:List (List Nat)) (N:Hp),ts=gn n L∧(L=[]→n=0)∧n≤16∧(∀ws∈L,aj.cw n ws)∧r=.tuple #[.pointer (some ⟨bp,0,none⟩),.int .i64 0]∧lG bp bl bd v n L (aj.aX n L) (N++B) H)
 ∨(¬pU ts∧r=.tuple #[.pointer none,.int .i64 5])
theorem qT(n:Nat)(L:List (List Nat)):Gm n L #[] 0 #[] 0:=⟨⟨[],bq.empty,by simp⟩,⟨[],bq.empty,by simp⟩⟩
theorem AW{n:Nat}{L:List (List Nat)}{k:Nat}(h:k<L.length):aj.aX n (L.take (k+1))=aj.aX n (L.take k)|||aj.n5 n L[k]:=by
 unfold aj.aX
 rw[List.take_add_one,List.getElem?_eq_getElem h,Option.toList_some,List.foldl_append];rfl
theorem Ie{B:Hp}{v:Value}{ts:List Tb}(ht:cV B v ts)(bD:ts.length<4398046511104):Px Tryz.prog 72 #[v] B (adP v ts B):=by
 obtain⟨va,vc,vl,rfl⟩:∃a c l,v=.slice a l c:=by
  obtain⟨rs,h1,_⟩:=ht
  obtain⟨a,c,e,_⟩:=h1.shape
  exact⟨a,c,_,e⟩
 intro g
 refine IL (R:=aE _) ?_
 unfold L72
 intro b1 _ b2 _
 refine Build.mk (cs:=[.slice va vl vc,.int .i64 0,.int .i64 0,.map (some b1),.map (some b2)]) (by kernel_rfl) ?_
 intro bp _
 generalize hvs:Value.slice va vl vc=vv at ht⊢
 refine ht.aS (ae.gp (b:=0) (Br.dec (fun h0=>?_) (fun h0=>?_)))
 ·have BA:ts=[]:=List.eq_nil_of_length_eq_zero h0
  subst BA
  refine⟨_,_,rfl,aO.cons aO.swap,(by repeat (first|exact aV.refl _|apply aV.cons|apply aV.app)),Or.inl ⟨by simp[pU],bp,b1,b2,0,[],[],rfl,fun _=>rfl,by omega,by simp,rfl,_,_,_,_,?_,qT _ _⟩⟩
  subst hvs;rfl
 refine ag.px (B:=B) (.cons (.cons (.cons .here))) (K8 ht bD) ?_
 rintro r N ⟨s,rfl⟩
 refine Ext.mk rfl (Ext.mk rfl ?_)
 by_cases hO:pU ts
 case neg=>
  rw[if_neg hO]
  exact ae.ql (a:=5) (b:=0) (Br.dec (fun _=>oG.mk (by repeat (first|exact aV.refl _|apply aV.cons|apply aV.app)) (.inr ⟨hO,rfl⟩)) (fun h=>absurd (by decide) h))
 rw[if_pos hO]
 refine ae.ql (a:=0) (b:=0) (Br.dec (fun h=>absurd rfl h) (fun _=>?_))
 obtain⟨n,L,qu,rfl,hne,hf⟩:=FD hO (by intro e;rw[e]at h0;exact h0 rfl)
 rw[List.length_map]at bD h0
 obtain⟨w0,oz⟩:∃w0,L[0]? =some w0:=⟨_,List.getElem?_eq_getElem (List.length_pos_iff.2 hne)⟩
 refine ht.VP (i:=0) (t:=⟨n,w0⟩) (by rw[List.getElem?_map,oz];rfl) zS ?_
 simp only
 refine Nil.ptr (aa.mk ?_)
 refine St.one (c:=#[vv,.int .i64 0,.int .i64 0,.map (some b1),.map (some b2)]) (c':=#[vv,.int .i64 (n:Int),.int .i64 0,.map (some b1),.map (some b2)]) (H':=(bp,.cells #[vv,.int .i64 (n:Int),.int .i64 0,.map (some b1),.map (some b2)] 137 (0,0))::(b2,.map #[] 0)::(b1,.map #[] 0)::(N++B)) (by subst hvs;exact .head _) rfl (by simp) rfl ?_
 refine ht.aS ?_
 rw[List.length_map]
 refine⟨fun vs H=>∃(k:Nat) (N:Hp),vs=[.int .i64 (k:Int)]∧k≤L.length∧H=(bp,.cells #[vv,.int .i64 (n:Int),.int .i64 ((aj.aX n (L.take k):Nat):Int),.map (some b1),.map (some b2)] 137 (0,0))::(b2,.map #[] 0)::(b1,.map #[] 0)::(N++B),
  fun vs _=>L.length-bg vs 0,JE.mk ⟨0,N,rfl,by omega,rfl⟩,?_⟩
 clear N
 rintro w H ⟨k,N,hv,hk,rfl⟩ gs
 simp only[List.cons.injEq,and_true]at hv
 subst hv
 refine ae.dL (Br.dec (fun hlt=>?_) (fun hlt=>?_))
 ·have hg:(L.map fun ws=>(⟨n,ws⟩:Tb))[k]? =some ⟨n,L[k]⟩:=by rw[List.getElem?_map,List.getElem?_eq_getElem hlt];rfl
  have jx:=hf L[k] (List.getElem_mem hlt)
  refine ht.ld hg zS fun s hw=>?_
  intro b3 _
  refine St.whole (r:=[.int .i64 (n:Int),s]) (by exact .head _) rfl rfl ?_ ?_
  ·have:=aB hw;simpa[Value.oneCell']using this
  refine aA.whole (r:=[.int .i64 (n:Int),s]) (by exact .head _) rfl ?_
  refine ag.rd (B:=B) (.cons (.cons (.cons (.cons (.app .here))))) (sH (v:=.agg (List.toArray [.int .i64 (n:Int),s])) (t:=⟨n,L[k]⟩) ⟨s,rfl,hw⟩) ?_
  rintro v rfl
  rw[if_pos (show TF ⟨(n:Int),L[k]⟩from⟨by simp,by simpa using jx⟩)]
  refine Ext.mk rfl (Ext.mk rfl ?_)
  simp only[Int.toNat_natCast]
  have agN:2^n≤2^16:=Nat.pow_le_pow_right (n:=2) (by decide) qu
  have V4:aj.n5 n L[k]<2^n:=aj.lY n L[k] n
  have hus:=aj.sA n (L.take k)
  refine Nil.ptr ?_
  refine aa.mk (Ld.mk zM rfl ?_)
  refine bI.nat (by simp[az];omega) ?_
  refine ae.FB (by simp[az];omega) (by simp[az];omega) ?_
  rw[←AW hlt]
  refine Nil.ptr (aa.mk ?_)
  refine St.one (c:=#[vv,.int .i64 (n:Int),.int .i64 ((aj.aX n (L.take k):Nat):Int),.map (some b1),.map (some b2)]) (c':=#[vv,.int .i64 (n:Int),.int .i64 ((aj.aX n (L.take (k+1)):Nat):Int),.map (some b1),.map (some b2)]) (by repeat (first|exact cK.head _|apply cK.tail|apply cK.bP)) rfl (by simp) rfl ?_
  refine ae.aH (b:=1) (by simp[az];omega) ?_
  exact ay.of .tail ⟨k+1,N,rfl,by omega,rfl⟩ (by simp[bg];omega)
 ·have:k=L.length:=by omega
  subst this
  rw[List.take_length]
  refine⟨_,_,rfl,aO.cons aO.swap,(by repeat (first|exact aV.refl _|apply aV.cons|apply aV.app)),Or.inl ⟨hO,bp,b1,b2,n,L,N,rfl,fun e=>absurd e hne,qu,hf,rfl,_,_,_,_,rfl,qT _ _⟩⟩
theorem Lc{n:Nat}{c:Nat→Nat→Nat}{f a v:Nat}(hv:v∈aj.ca n a)(he:c a v+aj.B n c (aj.aI a v true)=aj.B n c a)(hm:∀u∈aj.ca n a,u<v→c a u+aj.B n c (aj.aI a u true)≠aj.B n c a):
    aj.ord n c (f+1) a=v::aj.ord n c f (aj.aI a v true):=by
  obtain⟨u,h1,h2,h3,h4⟩:=aj.sZ (c:=c) (f:=f) (List.ne_nil_of_mem hv)
  rcases Nat.lt_trichotomy u v with h|h|h
  · exact absurd h2 (hm u h1 h)
  · rw[h4,h]
  · exact absurd he (h3 v hv h)
theorem Ir{uI:Value}{n:Nat}{L:List (List Nat)}{B:Hp}{bp bl bd a:Nat}(ha:a<4611686018427387904){H:Hp}(hp:lG bp bl bd uI n L 0 B H):
    Fc Tryz.prog 74 #[.pointer (some ⟨bp,0,none⟩),.int .i64 (a:Int)] H (fun r H'=>r=.int .i64 0∧H'=H):=by
  obtain⟨rq,pQ,p5,rz,rfl,hM⟩:=hp
  intro g
  refine wA (R:=aE _) ?_
  unfold L74
  refine Nil.ptr ?_
  refine aa.mk (Ld.mk zM rfl ?_)
  refine ae.jg (b:=0) (by simp[az];omega) (by simp[az]) ?_
  refine Nil.ptr ?_
  refine aa.mk (Ld.mk zM rfl ?_)
  exact ae.gp (b:=0) (Br.gI (by simp) (aE.here ⟨rfl,rfl⟩))
def Ys(ts:List Tb)(B:Hp)(r:Value)(H:Hp):Prop:=
  (¬pU ts∧r=.tuple #[.int .i64 0,.slice none 0 0,.int .i64 5])∨
  (pU ts∧∃(n:Nat) (L:List (List Nat)),ts=gn n L∧(L=[]→n=0)∧n≤16∧(∀ws∈L,aj.cw n ws)∧
    ((12<n∧r=.tuple #[.int .i64 0,.slice none 0 0,.int .i64 6])∨
     (n≤12∧∃(s:Value) (C N:Hp),r=.tuple #[.int .i64 ((aj.B n (aj.lvl n L) 0:Nat):Int),s,.int .i64 0]∧aQ 3 .i64 s (iw (aj.ord n (aj.lvl n L) n 0)) C∧H=C++(N++B))))
structure BSt(n:Nat)(c:Nat→Nat→Nat)(s:Value)(a:Nat)(l:List Nat)(C:Hp):Prop where
  own:aQ 3 .i64 s (iw l) C
  lt:a<2^n
  len:(aj.ca n a).length+l.length=n
  pre:l++aj.ord n c (n-l.length) a=aj.ord n c n 0
theorem Gi{a v:Nat}:(a>>>v&&&1=0)↔a.testBit v=false:=by
  have:=Nat.testBit_eq_decide_div_mod_eq (x:=a) (i:=v)
  rw[this,Nat.and_one_is_mod,Nat.shiftRight_eq_div_pow]
  simp
theorem Qv{B:Hp}{v:Value}{ts:List Tb}(ht:cV B v ts)(bD:ts.length<33554432):Px Tryz.prog 26 #[v] B (Ys ts B):=by
  intro g
  refine Jj (R:=aE _) ?_
  unfold L26
  refine ag.px .here (Ie ht (by omega)) ?_
  rintro r N0 (⟨hO,bp,bl,bd,n,L,N,rfl,UP,qu,hf,rfl,hp⟩|⟨hO,rfl⟩)
  case inr=>exact Ext.mk rfl (Ext.mk rfl (ae.ql (a:=5) (b:=0) (Br.dec (fun _=>oG.mk (by repeat (first|exact aV.refl _|apply aV.cons|apply aV.app)) (.inl ⟨hO,rfl⟩)) (fun h=>absurd (by decide) h))))
  generalize N0++B=H2 at hp⊢
  clear N0
  rw[aW]at bD
  have zh:=hp
  obtain⟨rq,pQ,p5,rz,rfl,hM⟩:=hp
  refine Ext.mk rfl (Ext.mk rfl (ae.ql (a:=0) (b:=0) (Br.dec (fun h=>absurd rfl h) (fun _=>?_))))
  refine Nil.ptr ?_
  refine aa.mk (Ld.mk zM rfl ?_)
  refine ae.lQ (b:=12) (Br.dec (fun T5=>oG.mk (by repeat (first|exact aV.refl _|apply aV.cons|apply aV.app)) (.inr ⟨hO,n,L,rfl,UP,qu,hf,.inl ⟨T5,rfl⟩⟩)) (fun T5=>?_))
  clear hM
  have zl:n≤12:=by omega
  have hOK:L≠[]→ue v n L (N++B):=fun hne=>⟨ht.mono zS,hf,hne,bD,zl⟩
  have kZ:2^n≤2^12:=Nat.pow_le_pow_right (by decide) zl
  have hm0:(aj.ca n 0).length=n:=by
    have:aj.ca n 0=List.range n:=by unfold aj.ca;rw[List.filter_eq_self];simp
    rw[this,List.length_range]
  refine⟨fun vs H=>∃(s:Value) (a:Nat) (l:List Nat) (C H1:Hp),vs=[s,.int .i64 (a:Int)]∧BSt n (aj.lvl n L) s a l C∧lG bp bl bd v n L (aj.aX n L) (N++B) H1∧H=C++H1,
    fun vs _=>(aj.ca n (bg vs 1)).length,JE.mk ⟨_,0,[],[],_,rfl,⟨aQ.nil,Nat.two_pow_pos n,by rw[hm0];rfl,by simp⟩,zh,rfl⟩,?_⟩
  clear zh rq pQ p5 rz
  rintro kG lW H ⟨s,a,l,C,H1,hv,hb,hp,rfl⟩ gs
  simp only[List.cons.injEq,and_true]at hv
  obtain⟨rfl,rfl⟩:=hv
  have zh:=hp
  obtain⟨rq,pQ,p5,rz,rfl,hM⟩:=hp
  refine hb.own.aS ?_
  rw[an]
  refine Nil.ptr ?_
  refine aa.mk (Ld.mk zM rfl ?_)
  have RI:=hb.len
  refine ae.dL (Br.dec (fun hlt=>?_) (fun hlt=>?_))
  · have aba:aj.ca n a≠[]:=by intro e;rw[e]at RI;simp at RI;omega
    have hne:L≠[]:=fun e=>by have:=UP e;omega
    have qt:=hOK hne
    have YP:n-l.length=n-l.length-1+1:=by omega
    refine Nil.ptr ?_
    refine aa.mk (Ld.mk zM rfl ?_)
    refine⟨fun vs H=>∃(k:Nat) (H1:Hp),vs=[kG,.int .i64 (a:Int),.int .i64 (k:Int)]∧k≤n∧(∀u∈aj.ca n a,u<k→aj.lvl n L a u+aj.B n (aj.lvl n L) (aj.aI a u true)≠aj.B n (aj.lvl n L) a)∧lG bp bl bd v n L (aj.aX n L) (N++B) H1∧H=C++H1,
      fun vs _=>n-bg vs 2,JE.mk ⟨0,_,rfl,by omega,fun u _ h=>by omega,zh,rfl⟩,?_⟩
    clear hM zh
    rintro uQ vm Ak H ⟨k,H1,hv,hk,hmin,hp,rfl⟩ gs
    simp only[List.cons.injEq,and_true]at hv
    obtain⟨rfl,rfl,rfl⟩:=hv
    refine ae.dL (Br.dec (fun hlk=>?_) (fun hlk=>?_))
    · intro J hJ
      have hpk:2^k≤2^12:=Nat.pow_le_pow_right (by decide) (by omega)
      have hno:∀H1,¬(a.testBit k=false∧aj.lvl n L a k+aj.B n (aj.lvl n L) (aj.aI a k true)=aj.B n (aj.lvl n L) a)→lG bp bl bd v n L (aj.aX n L) (N++B) H1→J [.bool false] (C++H1):=fun H1 hx hp=>hJ _ _ fun gs=>by
        refine Br.no (ae.aH (b:=1) (by simp[az];omega) ?_)
        refine ay.mk ⟨k+1,H1,rfl,by omega,fun u hu hlu=>?_,hp,rfl⟩ (by rw[gZ,gZ,gZ,gZ];show n-(((k:Int)+1).toNat)<n-((k:Int).toNat);omega)
        by_cases e:u=k
        · subst e;exact fun h=>hx ⟨(aj.cL.1 hu).2,h⟩
        · exact hmin u hu (by omega)
      refine DR.self ?_
      have ahn:a<4611686018427387904:=by have:=hb.lt;omega
      refine ae.jJ (by simp[az];omega) (ae.jg (b:=1) (by simp[az];exact Nat.lt_of_le_of_lt (Nat.shiftRight_le _ _) (by omega)) (by decide) (ae.gp (b:=0) ?_))
      refine Br.dec (fun h0=>?_) (fun h0=>JE.mk (hno H1 (fun h=>h0 (Gi.2 h.1)) hp))
      have hak:=Gi.1 h0
      refine ae.rI (a:=1) (by simp[IntKind.bits];omega) (by rw[Nat.one_shiftLeft];simp[az];omega) ?_
      rw[Nat.one_shiftLeft]
      refine ae.FB (by simp[az];omega) (by simp[az];omega) ?_
      have Qp:a|||2^k=aj.aI a k true:=rfl
      rw[Qp]
      intro F
      refine ag.fn (.app .here) (yS qt hp hb.lt hlk hak) ?_
      rintro r H2 ⟨rfl,kZ⟩
      intro F
      refine ag.fn (.app .here) (p7 qt _ (aj.aI a k true) (Nat.le_refl _) (aj.fc hb.lt hlk) H2 kZ) ?_
      rintro r H3 ⟨rfl,Ro⟩
      have Y1:=Bj qt a k
      have U2:=Gv qt (aj.aI a k true)
      refine ae.aH (by simp[az];omega) ?_
      intro F
      refine ag.fn (.app .here) (p7 qt _ a (Nat.le_refl _) hb.lt H3 Ro) ?_
      rintro r H4 ⟨rfl,UL⟩
      refine ae.gp ?_
      by_cases he:aj.lvl n L a k+aj.B n (aj.lvl n L) (aj.aI a k true)=aj.B n (aj.lvl n L) a
      · rw[decide_eq_true he]
        have hmem:k∈aj.ca n a:=aj.cL.2 ⟨hlk,hak⟩
        have PK:=Lc (f:=n-l.length-1) hmem he hmin
        have hml:=aj.gv hmem
        refine aD.mk (JE.mk (hJ _ _ fun gs=>Br.yes ?_))
        refine ax.int (e:=3) (by kernel_rfl) (by kernel_rfl) (by kernel_rfl) fun xb=>?_
        refine aQ.app (A:=[_]) hb.own (by exact .head _) (by simp;omega) (by simp;omega) fun v' C' ho=>?_
        refine ae.rI (a:=1) (by simp[IntKind.bits];omega) (by rw[Nat.one_shiftLeft];simp[az];omega) ?_
        rw[Nat.one_shiftLeft]
        refine ae.FB (by simp[az];omega) (by simp[az];omega) ?_
        rw[Qp]
        refine ay.of .right ⟨v',aj.aI a k true,l++[k],C',H4,rfl,⟨by simpa[iw]using ho,aj.fc hb.lt hlk,by simp;omega,?_⟩,UL,rfl⟩ (by rw[gZ,gZ];show(aj.ca n (aj.aI a k true)).length<(aj.ca n a).length;omega)
        have:=hb.pre
        rw[YP,PK]at this
        rw[List.length_append,List.length_singleton,Nat.sub_add_eq,List.append_assoc]
        exact this
      · rw[decide_eq_false he]
        exact aD.mk (JE.mk (hno H4 (fun h=>he h.2) UL))
    · obtain⟨u,h1,h2,_⟩:=aj.sZ (c:=aj.lvl n L) (f:=0) aba
      exact absurd h2 (hmin u h1 (by have:=(aj.cL.1 h1).1;omega))
  · have BB:l.length=n:=by omega
    have hl:l=aj.ord n (aj.lvl n L) n 0:=by
      have:=hb.pre
      rw[BB,Nat.sub_self]at this
      simpa[aj.ord]using this
    have hown:=hb.own
    rw[hl]at hown
    by_cases hne:L=[]
    · have hn:=UP hne
      subst hne
      subst hn
      refine ag.fn (.app .here) (Ir (a:=0) (by omega) zh) ?_
      rintro r H3 ⟨rfl,rfl⟩
      exact⟨_,_,rfl,.refl _,(by repeat (first|exact aV.refl _|apply aV.cons|apply aV.app)),.inr ⟨hO,0,[],rfl,UP,qu,hf,.inr ⟨zl,_,C,(_::_::_::N),rfl,hown,rfl⟩⟩⟩
    · refine ag.fn (.app .here) (p7 (hOK hne) _ 0 (Nat.le_refl _) (Nat.two_pow_pos n) _ zh) ?_
      rintro r H3 ⟨rfl,U9,Va,es4,ck4,rfl,Y8⟩
      exact⟨_,_,rfl,.refl _,(by repeat (first|exact aV.refl _|apply aV.cons|apply aV.app)),.inr ⟨hO,n,L,rfl,UP,qu,hf,.inr ⟨zl,_,C,(_::_::_::N),rfl,hown,rfl⟩⟩⟩
end Go.Proofs
namespace NH
abbrev It:=Int×Int
def prec(a b:It):Bool:=decide (a.2<b.2)||(a.2==b.2&&decide (a.1<b.1))
theorem sV{a b:It}:prec a b=true↔a.2<b.2∨a.2=b.2∧a.1<b.1:=by simp[prec]
theorem kP{a b:It}:prec a b=false↔¬(a.2<b.2∨a.2=b.2∧a.1<b.1):=by rw[←sV];simp
theorem l9(a:It):prec a a=false:=by rw[kP];omega
theorem og{a b:It}(h:prec a b=true):prec b a=false:=by rw[sV]at h;rw[kP];omega
theorem le_trans{a b c:It}(h1:prec b a=false)(h2:prec c b=false):prec c a=false:=by rw[kP]at*;omega
theorem Bl{a b c:It}(h1:prec a b=true)(h2:prec c b=false):prec c a=false:=by rw[sV]at h1;rw[kP]at*;omega
def gH(V:Nat→It)(i:Nat)(b:It):Nat→It:=fun j=>if j=i then b else V j
def E(V:Nat→It)(j:Nat):Prop:=prec (V j) (V ((j-1) /2))=false
def wq(n:Nat)(V:Nat→It)(i:Nat):Prop:=
 (∀j,0<j→j<n→j≠i→(j-1) /2≠i→E V j)∧(∀j,0<j→j<n→(j-1) /2=i→0<i→prec (V j) (V ((i-1) /2))=false)
def nB(n:Nat)(V:Nat→It)(i:Nat):Prop:=∀j,0<j→j<n→(j-1) /2=i→E V j
def QS(n:Nat)(V:Nat→It)(i:Nat):Prop:=
 (∀j,0<j→j<n→(j-1) /2≠i→E V j)∧(∀j,0<j→j<n→(j-1) /2=i→0<i→prec (V j) (V ((i-1) /2))=false)
def Ord(n:Nat)(V:Nat→It):Prop:=∀j,0<j→j<n→E V j
theorem OK{n i:Nat}{V:Nat→It}(hi:0<i)(hn:i<n)(h:wq n V i)(ha:prec (V i) (V ((i-1) /2))=true):
  wq n (gH (gH V i (V ((i-1) /2))) ((i-1) /2) (V i)) ((i-1) /2)∧nB n (gH (gH V i (V ((i-1) /2))) ((i-1) /2) (V i)) ((i-1) /2):=by
 obtain⟨h1,h2⟩:=h
 have hq:(i-1) /2≠i:=by omega
 generalize hqd:(i-1) /2=q at*
 have hqi:q<i:=by omega
 refine⟨⟨?_,?_⟩,?_⟩
 ·intro j j0 jn jq jp
  unfold E gH
  rw[if_neg jq,if_neg jp]
  by_cases e1:j=i
  ·exact absurd (by rw[e1,hqd]) jp
  ·rw[if_neg e1]
   by_cases e2:(j-1) /2=i
   ·rw[if_pos e2];exact h2 j j0 jn e2 hi
   ·rw[if_neg e2];exact h1 j j0 jn e1 e2
 ·intro j j0 jn jp q0
  unfold gH
  have hqq:(q-1) /2≠q:=by omega
  have aa0:(q-1) /2≠i:=by omega
  rw[if_neg hqq,if_neg aa0]
  have US:j≠q:=by omega
  rw[if_neg US]
  have Tw:E V q:=h1 q q0 (by omega) hq (by omega)
  by_cases e1:j=i
  ·rw[if_pos e1];exact Tw
  ·rw[if_neg e1]
   have:=h1 j j0 jn e1 (by omega)
   unfold E at this Tw
   rw[jp]at this
   exact le_trans Tw this
 ·intro j j0 jn jp
  unfold E gH
  rw[jp,if_pos rfl]
  have US:j≠q:=by omega
  rw[if_neg US]
  by_cases e1:j=i
  ·rw[if_pos e1];exact og ha
  ·rw[if_neg e1]
   have:=h1 j j0 jn e1 (by omega)
   unfold E at this
   rw[jp]at this
   exact Bl ha this
theorem OL{n i:Nat}{V:Nat→It}(h:wq n V i)(ha:i=0∨prec (V i) (V ((i-1) /2))=false):QS n V i:=by
 refine⟨fun j j0 jn jp=>?_,h.2⟩
 by_cases e:j=i
 ·subst e;rcases ha with ha|ha
  ·omega
  ·exact ha
 ·exact h.1 j j0 jn e jp
theorem vW{n i:Nat}{V:Nat→It}(h:QS n V i)(hc:nB n V i):Ord n V:=fun j j0 jn=>by
 by_cases e:(j-1) /2=i
 ·exact hc j j0 jn e
 ·exact h.1 j j0 jn e
def vN(n:Nat)(V:Nat→It)(i:Nat):Nat:=if(decide (2*i+1+1<n) &&prec (V (2*i+1+1)) (V (2*i+1)))=true then 2*i+1+1 else 2*i+1
theorem qp(n:Nat)(V:Nat→It)(i:Nat):vN n V i=2*i+1∨vN n V i=2*i+2∧2*i+2<n:=by
 unfold vN;split
 ·rename_i h;simp only[Bool.and_eq_true,decide_eq_true_eq]at h;right;omega
 ·left;rfl
theorem vM{n i j:Nat}{V:Nat→It}(j0:0<j)(jn:j<n)(jp:(j-1) /2=i):prec (V j) (V (vN n V i))=false:=by
 unfold vN
 split
 ·rename_i h
  simp only[Bool.and_eq_true,decide_eq_true_eq]at h
  rcases(show j=2*i+1∨j=2*i+1+1 by omega)with rfl|rfl
  ·exact og h.2
  ·exact l9 _
 ·rename_i h
  rcases(show j=2*i+1∨j=2*i+1+1 by omega)with rfl|rfl
  ·exact l9 _
  ·cases hh:prec (V (2*i+1+1)) (V (2*i+1))
   ·rfl
   ·exact absurd (by simp[hh,jn]) h
theorem Ig{n i:Nat}{V:Nat→It}(h:QS n V i)(hk:vN n V i<n)(ha:prec (V (vN n V i)) (V i)=true):
  QS n (gH (gH V i (V (vN n V i))) (vN n V i) (V i)) (vN n V i):=by
 have hl:∀j,0<j→j<n→(j-1) /2=i→prec (V j) (V (vN n V i))=false:=fun j=>vM
 have hkc:=qp n V i
 generalize vN n V i=c at*
 obtain⟨h1,h2⟩:=h
 have hcp:(c-1) /2=i:=by omega
 have hc0:0<c:=by omega
 have nQ:c≠i:=by omega
 refine⟨?_,?_⟩
 ·intro j j0 jn jp
  unfold E gH
  rw[if_neg jp]
  by_cases e1:j=c
  ·rw[if_pos e1,if_pos (by rw[e1];exact hcp)];exact og ha
  ·rw[if_neg e1]
   by_cases e2:j=i
   ·rw[if_pos e2]
    have:(j-1) /2≠i:=by omega
    rw[if_neg this,e2];exact h2 c hc0 hk hcp (by omega)
   ·rw[if_neg e2]
    by_cases e3:(j-1) /2=i
    ·rw[if_pos e3];exact hl j j0 jn e3
    ·rw[if_neg e3];exact h1 j j0 jn e3
 ·intro j j0 jn jp _
  unfold gH
  rw[hcp]
  have:j≠c:=by omega
  have e2:j≠i:=by omega
  rw[if_neg this,if_neg e2,if_neg (fun e=>nQ e.symm),if_pos rfl]
  have:=h1 j j0 jn (by omega)
  unfold E at this
  rwa [jp]at this
theorem Ih{n i:Nat}{V:Nat→It}(h:QS n V i)(ha:n≤vN n V i∨prec (V (vN n V i)) (V i)=false):Ord n V:=by
 refine vW h fun j j0 jn jp=>?_
 have hl:=vM (V:=V) j0 jn jp
 rcases ha with ha|ha
 ·rcases qp n V i with h|h<;>omega
 ·unfold E;rw[jp];exact le_trans ha hl
theorem Pa{n:Nat}{V:Nat→It}(h:Ord n V):∀j,j<n→prec (V j) (V 0)=false:=by
 intro j
 induction j using Nat.strongRecOn with
 |_ j ih=>
  intro jn
  by_cases j0:j=0
  ·subst j0;exact l9 _
  ·exact le_trans (ih ((j-1) /2) (by omega) (by omega)) (h j (by omega) jn)
def bu(l:List It)(j:Nat):It:=l.getD j (0,0)
theorem Qz{l:List It}{j:Nat}(h:j<l.length):l[j]? =some (bu l j):=by simp[bu,List.getD,h]
theorem gB{l:List It}{i:Nat}(b:It)(h:i<l.length):bu (l.set i b)=gH (bu l) i b:=by
 funext j
 unfold bu gH
 simp only[List.getD,List.getElem?_set]
 by_cases e:i=j
 ·subst e;simp[h]
 ·rw[if_neg e,if_neg (fun x=>e x.symm)]
theorem n9{l:List It}{i:Nat}(h:i<l.length):l.set i (bu l i)=l:=by
 apply List.ext_getElem?;intro j;rw[List.getElem?_set];by_cases e:i=j
 ·subst e;simp[h,bu,List.getD]
 ·simp[e]
theorem swap_perm{l:List It}{i q:Nat}(hi:i<l.length)(hq:q<l.length)(hne:q≠i):((l.set i (bu l q)).set q (bu l i)).Perm l:=by
 rw[List.perm_iff_count]
 intro x
 have g1:l[i]=bu l i:=by simp[bu,List.getD,hi]
 have g2:l[q]=bu l q:=by simp[bu,List.getD,hq]
 have g3:(l.set i (bu l q))[q]'(by simp[hq])=bu l q:=by rw[List.getElem_set_ne (fun e=>hne e.symm)];exact g2
 rw[List.count_set (by simp[hq]),List.count_set hi,g1,g3]
 have hc:bu l i=x→0<l.count x:=fun e=>by rw[List.count_pos_iff,←e,←g1];exact List.getElem_mem hi
 by_cases e1:bu l i=x
 ·have:=hc e1
  by_cases e2:bu l q=x<;>simp[e1,e2]<;>omega
 ·by_cases e2:bu l q=x<;>simp[e1,e2]
def jh(l:List It):Prop:=(l.map Prod.fst).Nodup
theorem jh.perm{l l':List It}(h:jh l)(p:l'.Perm l):jh l':=(p.map _).nodup_iff.2 h
theorem jh.inj{l:List It}(h:jh l){i j:Nat}(hi:i<l.length)(hj:j<l.length)(e:(bu l i).1=(bu l j).1):i=j:=by
 unfold jh at h
 have hp:=List.pairwise_iff_getElem.1 h
 have g:∀k (hk:k<l.length),(l.map Prod.fst)[k]'(by simpa using hk)=(bu l k).1:=fun k hk=>by simp[bu,List.getD,hk]
 rcases Nat.lt_trichotomy i j with hlt|rfl|hlt
 ·have:=hp i j (by simpa using hi) (by simpa using hj) hlt
  rw[g i hi,g j hj]at this;exact absurd e this
 ·rfl
 ·have:=hp j i (by simpa using hj) (by simpa using hi) hlt
  rw[g i hi,g j hj]at this;exact absurd e.symm this
theorem gQ{l:List It}{x:Int}:x∈l.map Prod.fst↔∃j,j<l.length∧(bu l j).1=x:=by
 rw[List.mem_iff_getElem]
 constructor
 ·rintro⟨j,hj,e⟩
  have hj':j<l.length:=by simpa using hj
  exact⟨j,hj',by simpa[bu,List.getD,hj']using e⟩
 ·rintro⟨j,hj,e⟩
  exact⟨j,by simpa using hj,by simpa[bu,List.getD,hj]using e⟩
def Aq(f:Int→Option Nat)(x:Int)(p:Option Nat):Int→Option Nat:=fun y=>if y=x then p else f y
def lM(l:List It)(f:Int→Option Nat)(i:Nat):Prop:=(∀j,j<l.length→j≠i→f (bu l j).1=some j)∧∀x,x∉l.map Prod.fst→f x=none
def Cons(l:List It)(f:Int→Option Nat):Prop:=(∀j,j<l.length→f (bu l j).1=some j)∧∀x,x∉l.map Prod.fst→f x=none
theorem lM.done{l:List It}{f:Int→Option Nat}{i:Nat}(h:lM l f i)(ho:jh l)(hi:i<l.length):Cons l (Aq f (bu l i).1 (some i)):=by
 refine⟨fun j hj=>?_,fun x hx=>?_⟩
 ·unfold Aq
  by_cases e:(bu l j).1=(bu l i).1
  ·rw[if_pos e,ho.inj hj hi e]
  ·rw[if_neg e];exact h.1 j hj (fun e2=>e (by rw[e2]))
 ·unfold Aq
  rw[if_neg (fun e=>hx (gQ.2 ⟨i,hi,e.symm⟩))]
  exact h.2 x hx
theorem lM.step{l:List It}{f:Int→Option Nat}{i q:Nat}(h:lM l f i)(ho:jh l)(hi:i<l.length)(hq:q<l.length)(hne:q≠i):
  lM ((l.set i (bu l q)).set q (bu l i)) (Aq f (bu l q).1 (some i)) q:=by
 have x7:∀j,bu ((l.set i (bu l q)).set q (bu l i)) j=gH (gH (bu l) i (bu l q)) q (bu l i) j:=fun j=>by rw[gB _ (by simpa using hq),gB _ hi]
 refine⟨fun j hj US=>?_,fun x hx=>?_⟩
 ·rw[x7]
  simp only[List.length_set]at hj
  unfold gH Aq
  rw[if_neg US]
  by_cases e:j=i
  ·rw[if_pos e,if_pos rfl,e]
  ·rw[if_neg e]
   rw[if_neg (fun e2=>US (ho.inj hj hq e2))]
   exact h.1 j hj e
 ·have hx':x∉l.map Prod.fst:=fun hm=>hx (by
   have:=(swap_perm hi hq hne).map Prod.fst
   exact this.mem_iff.2 hm)
  unfold Aq
  rw[if_neg (fun e=>hx' (gQ.2 ⟨q,hq,e.symm⟩))]
  exact h.2 x hx'
end NH
namespace NH
open Go Go.Sx
def enc(kd:IntKind)(a:It):List Value:=[.int kd a.1,.int .i64 a.2]
def eG(kd:IntKind)(l:List It):List (List Value):=l.map (enc kd)
theorem cN(kd:IntKind)(l:List It):(eG kd l).length=l.length:=by simp[eG]
theorem Ic(kd:IntKind)(l:List It):∀r∈eG kd l,r.length=2:=fun r hr=>by
 obtain⟨a,_,rfl⟩:=List.mem_map.1 hr;rfl
theorem fD{kd:IntKind}{l:List It}{i:Nat}(h:i<l.length)(aL:List (List Value)):(eG kd l++aL)[i]? =some (enc kd (bu l i)):=by
 rw[List.getElem?_append_left (by rw[cN];exact h),eG,List.getElem?_map,Qz h];rfl
theorem MU{kd:IntKind}{l:List It}{i:Nat}(h:i<l.length)(a:It)(aL:List (List Value)):(eG kd l++aL).set i (enc kd a)=eG kd (l.set i a)++aL:=by
 rw[List.set_append_left _ _ (by rw[cN];exact h),eG,eG,List.map_set]
def idx(i:Nat):Value:=.int .i64 (i:Int)
def HO(kd:IntKind)(TI TH:TypeId)(h:Value)(l:List It)(f:Int→Option Nat)(C:Hp):Prop:=
 ∃bh sv mv Cs Cm,h=.pointer (some ⟨bh,0,none⟩)∧C=(bh,Obj.cells #[sv,mv] TH (0,0))::(Cs++Cm)∧aR TI 2 sv (eG kd l) Cs∧jN kd idx mv f Cm∧(mv=.map none→l=[])
theorem HO.open{kd:IntKind}{TI TH:TypeId}{h:Value}{l:List It}{f:Int→Option Nat}{C:Hp}(H:HO kd TI TH h l f C)(hp:0<l.length):
  ∃bh la mb aL Cm,h=.pointer (some ⟨bh,0,none⟩)∧
   C=(bh,Obj.cells #[.slice (some ⟨la,0,none⟩) l.length (l.length+aL.length),.map (some mb)] TH (0,0))::(la,.cells (rows (eG kd l++aL)) TI (0,0))::Cm∧
   (∀r∈eG kd l++aL,r.length=2)∧jN kd idx (.map (some mb)) f Cm:=by
 obtain⟨bh,sv,mv,Cs,Cm,rfl,rfl,hs,hm,hne⟩:=H
 obtain⟨la,aL,rfl,rfl,aK⟩:=hs.pos (by rw[cN];exact hp)
 rw[cN]
 rcases hm with⟨rfl,_⟩|⟨mb,m,ck,rfl,h2⟩
 ·rw[hne rfl]at hp;simp at hp
 ·exact⟨bh,la,mb,aL,Cm,rfl,rfl,aK,.inr ⟨mb,m,ck,rfl,h2⟩⟩
theorem HO.shut{kd:IntKind}{TI TH:TypeId}{bh la mb n c:Nat}{aL:List (List Value)}{Cm:Hp}{l:List It}{f:Int→Option Nat}(aK:∀r∈eG kd l++aL,r.length=2)(hn:n=l.length)(hc:c=l.length+aL.length)
 (hm:jN kd idx (.map (some mb)) f Cm):
  HO kd TI TH (.pointer (some ⟨bh,0,none⟩)) l f ((bh,Obj.cells #[.slice (some ⟨la,0,none⟩) n c,.map (some mb)] TH (0,0))::(la,.cells (rows (eG kd l++aL)) TI (0,0))::Cm):=
 ⟨bh,_,_,[_],Cm,rfl,rfl,aR.mk' aK (by rw[cN];exact hn) (by rw[cN];exact hc),hm,fun h=>by simp at h⟩
theorem KO{l aL:List (List Value)}(h:∀r∈l++aL,r.length=2)(kd:IntKind)(l':List It):∀r∈eG kd l'++aL,r.length=2:=fun r hr=>by
 rcases List.mem_append.1 hr with hr|hr
 ·exact Ic kd l' r hr
 ·exact h r (by simp[hr])
theorem nv(kd:IntKind)(a:It):∀v∈enc kd a,v.oneCell'=true:=by simp[enc,Value.oneCell']
end NH
namespace NH
open Go Go.Sx
theorem SU(j:Nat)(h:0<j):((j-1:Nat):Int).tdiv 2=(((j-1) /2:Nat):Int):=by
 rw[Int.tdiv_eq_ediv_of_nonneg (by omega)];omega
theorem sN{l:List It}{i q:Nat}(a:It)(hi:i<l.length)(hq:q<l.length)(hne:q≠i):((l.set i a).set i (bu (l.set i a) q)).set q (bu (l.set i a) i)=(l.set i (bu l q)).set q a:=by
 rw[gB a hi,List.set_set]
 simp[gH,hne]
def HI(kd:IntKind)(TI TH:TypeId)(h:Value)(l:List It)(C:Hp):Prop:=∃f,HO kd TI TH h l f C∧Cons l f∧Ord l.length (bu l)∧jh l
theorem Ch{l:List It}{a:It}{j:Nat}(h:j<l.length):bu (l++[a]) j=bu l j:=by simp[bu,List.getD,List.getElem?_append_left h]
theorem KY{l:List It}{f:Int→Option Nat}{a:It}(hc:Cons l f)(ho:Ord l.length (bu l))(h1:jh l)(hx:a.1∉l.map Prod.fst):
  wq (l++[a]).length (bu (l++[a])) l.length∧lM (l++[a]) f l.length∧jh (l++[a])∧nB (l++[a]).length (bu (l++[a])) l.length:=by
 simp only[List.length_append,List.length_cons,List.length_nil,Nat.zero_add]
 refine⟨⟨fun j j0 jn jne jp=>?_,fun j j0 jn jp=>by omega⟩,⟨fun j jn jne=>?_,fun x hx'=>?_⟩,?_,fun j j0 jn jp=>by omega⟩
 ·unfold E;rw[Ch (by omega),Ch (by omega)];exact ho j j0 (by omega)
 ·simp only[List.length_append,List.length_cons,List.length_nil]at jn
  rw[Ch (by omega)];exact hc.1 j (by omega)
 ·exact hc.2 x (fun h=>hx' (by rw[List.map_append,List.mem_append];exact .inl h))
 ·unfold jh at*;rw[List.map_append,List.nodup_append];exact⟨h1,by simp,fun a' ej b hb=>by simp at hb;subst hb;intro e;subst e;exact hx ej⟩
theorem MZ{l:List It}{f:Int→Option Nat}(hc:Cons l f){x:Int}:(x∉l.map Prod.fst∧f x=none)∨∃i,i<l.length∧(bu l i).1=x∧f x=some i:=by
 by_cases h:x∈l.map Prod.fst
 ·obtain⟨j,hj,e⟩:=gQ.1 h
  exact .inr ⟨j,hj,e,by rw[←e];exact hc.1 j hj⟩
 ·exact .inl ⟨h,hc.2 x h⟩
theorem O3{l:List It}{f:Int→Option Nat}(hc:Cons l f)(ho:Ord l.length (bu l))(h1:jh l){n:Nat}(hn:l.length=n+1):
  let l':=l.take n
  ((0<n→(bu l n)::(l'.set 0 (bu l n)).tail=l'.set 0 (bu l n)∧(bu l 0::l'.set 0 (bu l n)).Perm l∧QS n (bu (l'.set 0 (bu l n))) 0∧jh (l'.set 0 (bu l n))∧
   lM (l'.set 0 (bu l n)) (Aq f (bu l 0).1 none) 0)):=by
 intro l' UP
 have hl':l'.length=n:=by simp[l',hn]
 have dM:(bu l 0::l'.set 0 (bu l n)).Perm l:=by
  rw[List.perm_iff_count]
  intro x
  have e:l=l'++[bu l n]:=by
   have:l=l.take n++l.drop n:=(List.take_append_drop n l).symm
   have h2:l.drop n=[bu l n]:=by
    rw[List.drop_eq_getElem_cons (by omega),List.drop_eq_nil_of_le (by omega)]
    simp[hn,bu,List.getD]
   rw[h2]at this;exact this
  have g0:l'[0]'(by omega)=bu l 0:=by simp[l',bu,List.getD,hn]
  conv=>rhs;rw[e]
  rw[List.count_cons,List.count_set (by omega),g0,List.count_append]
  have hc0:bu l 0=x→0<l'.count x:=fun e=>by rw[List.count_pos_iff,←e,←g0];exact List.getElem_mem _
  by_cases e1:bu l 0=x
  ·have:=hc0 e1
   by_cases e2:bu l n=x<;>simp[e1,e2]<;>omega
  ·by_cases e2:bu l n=x<;>simp[e1,e2]
 have x7:∀j,j<n→j≠0→bu (l'.set 0 (bu l n)) j=bu l j:=fun j hj h0=>by
  rw[gB _ (by omega)];simp[gH,h0,l',bu,List.getD,hj]
 have hO:jh (l'.set 0 (bu l n)):=by
  have:=(h1.perm dM:jh _)
  unfold jh at this⊢
  simp only[List.map_cons,List.nodup_cons]at this
  exact this.2
 refine⟨?_,dM,⟨fun j j0 jn jp=>?_,fun j j0 jn jp h=>by omega⟩,hO,fun j hj TM=>?_,fun x hx=>?_⟩
 ·cases hh:l' with
  |nil=>rw[hh]at hl';simp at hl';omega
  |cons a r=>simp
 ·unfold E;rw[x7 j jn (by omega),x7 _ (by omega) jp];exact ho j j0 (by omega)
 ·simp only[List.length_set,hl']at hj
  rw[x7 j hj TM]
  unfold Aq
  rw[if_neg (fun e=>TM (h1.inj (by omega) (by omega) e))]
  exact hc.1 j (by omega)
 ·unfold Aq
  by_cases e:x=(bu l 0).1
  ·rw[if_pos e]
  ·rw[if_neg e]
   refine hc.2 x fun hm=>hx ?_
   have:=(dM.map Prod.fst).mem_iff.2 hm
   simp only[List.map_cons,List.mem_cons]at this
   rcases this with h|h
   ·exact absurd h e
   ·exact h
end NH
set_option maxRecDepth 100000
namespace Go.Proofs
open Go Go.Sx
open NH
abbrev Oq:=HO .i64 233 231
abbrev QI:=HI .i64 233 231
theorem ua(a b:It)(B:Hp):Rd Tryz.prog 223 #[.agg #[.int .i64 a.1,.int .i64 a.2],.agg #[.int .i64 b.1,.int .i64 b.2]] B (· =.bool (prec a b)):=by
 intro g
 refine Du (R:=aE _) ?_
 unfold L223
 intro b1 _ b2 _
 (repeat (first|refine Nil.ptr ?_|refine aa.mk ?_|refine Ld.mk zM rfl ?_|refine aG.mk ?_|refine ae.eql ?_|refine ae.neq ?_|refine ae.lss ?_|refine ae.leq ?_|refine ae.gtr ?_|refine ae.geq ?_|refine Un.not ?_|refine Ext.mk rfl ?_|refine aD.mk ?_|refine ae.aJ ?_|refine ae.bG ?_|refine ae.bF ?_|refine Br.yes ?_|refine Br.no ?_))
 refine cv.or (a.2==b.2&&decide (a.1<b.1)) (fun _=>?_) rfl fun _=>bL.mk (.skip .tail) rfl
 (repeat (first|refine Nil.ptr ?_|refine aa.mk ?_|refine Ld.mk zM rfl ?_|refine aG.mk ?_|refine ae.eql ?_|refine ae.neq ?_|refine ae.lss ?_|refine ae.leq ?_|refine ae.gtr ?_|refine ae.geq ?_|refine Un.not ?_|refine Ext.mk rfl ?_|refine aD.mk ?_|refine ae.aJ ?_|refine ae.bG ?_|refine ae.bF ?_|refine Br.yes ?_|refine Br.no ?_))
 refine cv.and (decide (a.1<b.1)) (fun _=>?_) rfl fun _=>⟨rfl,rfl⟩
 (repeat (first|refine Nil.ptr ?_|refine aa.mk ?_|refine Ld.mk zM rfl ?_|refine aG.mk ?_|refine ae.eql ?_|refine ae.neq ?_|refine ae.lss ?_|refine ae.leq ?_|refine ae.gtr ?_|refine ae.geq ?_|refine Un.not ?_|refine Ext.mk rfl ?_|refine aD.mk ?_|refine ae.aJ ?_|refine ae.bG ?_|refine ae.bF ?_|refine Br.yes ?_|refine Br.no ?_))
 exact⟨rfl,rfl⟩
theorem pC{h:Value}{l:List It}{f:Int→Option Nat}{C:Hp}(ho:Oq h l f C){i:Nat}(hi:i<l.length)(a:It):
  Fc Tryz.prog 159 #[h,.int .i64 (i:Int),.agg #[.int .i64 a.1,.int .i64 a.2]] C (fun v C'=>v=.tuple #[]∧Oq h (l.set i a) (Aq f a.1 (some i)) C'):=by
 obtain⟨bh,la,mb,aL,Cm,rfl,rfl,aK,hm⟩:=ho.open (by omega)
 intro g
 refine Eg (R:=aE _) ?_
 unfold L159
 intro b1 _
 refine DR.self ?_
 (repeat (first|refine Nil.ptr ?_|refine aa.mk ?_|refine Ld.mk zM rfl ?_|refine aG.mk ?_|refine ae.eql ?_|refine ae.neq ?_|refine ae.lss ?_|refine ae.leq ?_|refine ae.gtr ?_|refine ae.geq ?_|refine Un.not ?_|refine Ext.mk rfl ?_|refine aD.mk ?_|refine ae.aJ ?_|refine ae.bG ?_|refine ae.bF ?_|refine Br.yes ?_|refine Br.no ?_))
 refine aA.whole (r:=enc .i64 a) zM rfl ?_
 refine ah.nat hi ?_
 refine St.row (l:=eG .i64 l++aL) (by repeat (first|exact cK.head _|apply cK.tail|apply cK.bP)) aK (by rw[List.length_append,cN];omega) rfl (nv _ _) ?_
 refine DR.self ?_
 (repeat (first|refine Nil.ptr ?_|refine aa.mk ?_|refine Ld.mk zM rfl ?_|refine aG.mk ?_|refine ae.eql ?_|refine ae.neq ?_|refine ae.lss ?_|refine ae.leq ?_|refine ae.gtr ?_|refine ae.geq ?_|refine Un.not ?_|refine Ext.mk rfl ?_|refine aD.mk ?_|refine ae.aJ ?_|refine ae.bG ?_|refine ae.bF ?_|refine Br.yes ?_|refine Br.no ?_))
 rw[←List.append_nil Cm]
 refine jN.ct (p:=i) (A:=[_,_,_]) (B:=[]) hm fun C' hm'=>?_
 refine⟨_,_,rfl,.tail,rfl,?_⟩
 rw[MU hi,List.append_nil]
 exact .shut (KO aK _ _) (by simp) (by simp) hm'
theorem Tr{h:Value}{l:List It}{f:Int→Option Nat}{C:Hp}(ho:Oq h l f C){i:Nat}(hi:i<l.length)(bD:l.length<4611686018427387904)(hu:wq l.length (bu l) i)(hc:lM l f i)(hO:jh l):
  Fc Tryz.prog 158 #[h,.int .i64 (i:Int)] C (fun v C'=>v=.tuple #[]∧∃l' f' p,Oq h l' f' C'∧l'.Perm l∧Cons l' f'∧QS l'.length (bu l') p∧p<l'.length∧bu l' p=bu l i∧
   (nB l.length (bu l) i→Ord l'.length (bu l'))):=by
 obtain⟨bh,la,mb,aL,Cm,rfl,rfl,aK,hm⟩:=ho.open (by omega)
 obtain⟨n,hn⟩:∃n,n=l.length:=⟨_,rfl⟩
 obtain⟨a,ha⟩:∃a,a=bu l i:=⟨_,rfl⟩
 intro g
 refine Eh (R:=aE _) ?_
 unfold L158
 (repeat (first|refine Nil.ptr ?_|refine aa.mk ?_|refine Ld.mk zM rfl ?_|refine aG.mk ?_|refine ae.eql ?_|refine ae.neq ?_|refine ae.lss ?_|refine ae.leq ?_|refine ae.gtr ?_|refine ae.geq ?_|refine Un.not ?_|refine Ext.mk rfl ?_|refine aD.mk ?_|refine ae.aJ ?_|refine ae.bG ?_|refine ae.bF ?_|refine Br.yes ?_|refine Br.no ?_))
 refine ah.nat hi ?_
 refine aA.row (l:=eG .i64 l++aL) zM aK (fD hi aL) ?_
 intro b6 _
 refine St.whole (r:=enc .i64 (bu l i)) (by repeat (first|exact cK.head _|apply cK.tail|apply cK.bP)) rfl rfl (nv _ _) ?_
 rw[←ha]
 refine⟨fun vs H=>∃(j:Nat) (L:List It) (f:Int→Option Nat) (C:Hp),vs=[.int .i64 (j:Int)]∧H=(b6,Obj.cells (enc .i64 a).toArray 233 (0,0))::C∧Oq (.pointer (some ⟨bh,0,none⟩)) L f C∧L.length=n∧j<n∧
   (L.set j a).Perm l∧wq n (bu (L.set j a)) j∧lM (L.set j a) f j∧(nB n (bu l) i→nB n (bu (L.set j a)) j),
  fun vs _=>bg vs 0,.mk ⟨i,l,f,_,rfl,rfl,ho,hn.symm,by omega,?_,?_,?_,?_⟩,?_⟩
 ·exact(by rw[ha,n9 hi])
 ·rw[ha,n9 hi,hn];exact hu
 ·rw[ha,n9 hi];exact hc
 ·rw[ha,n9 hi];exact id
 rintro w H ⟨j,L,f,C,hw,rfl,ho,Xf,hj,hp,hu,hc,lT⟩ gs
 simp only[List.cons.injEq,and_true]at hw
 subst hw
 have UO:=ho
 obtain⟨bh',la,mb,aL,Cm,WT,rfl,aK,hm⟩:=ho.open (by omega)
 simp only[Value.pointer.injEq,Option.some.injEq,Addr.mk.injEq,and_true]at WT
 subst WT
 have Xb:jh (L.set j a):=hO.perm hp
 have UQ:(L.set j a).length=n:=by simp[Xf]
 have RO:bu (L.set j a) j=a:=by rw[gB a (by omega)];simp[gH]
 have hVq:0<j→bu (L.set j a) ((j-1) /2)=bu L ((j-1) /2):=fun h0=>by rw[gB a (by omega)];simp[gH,show¬((j-1) /2=j)from by omega]
 intro J hJ
 have hend:¬(0<j∧prec a (bu L ((j-1) /2))=true)→J [.bool false] ((b6,Obj.cells (enc .i64 a).toArray 233 (0,0))::(bh,Obj.cells #[.slice (some ⟨la,0,none⟩) L.length (L.length+aL.length),.map (some mb)] 231 (0,0))::(la,.cells (rows (eG .i64 L++aL)) 233 (0,0))::Cm):=fun hno=>hJ _ _ fun gs=>by
  refine Br.no ?_
  refine aA.whole (r:=enc .i64 a) zM rfl ?_
  refine ag.fn (.cons .here) (pC UO (i:=j) (by omega) a) ?_
  rintro v C' ⟨rfl,bT⟩
  have hd:=hc.done Xb (by omega)
  rw[RO]at hd
  have hex:=OL hu (by
   by_cases h0:j=0
   ·exact .inl h0
   ·right
    rw[RO,hVq (by omega)]
    cases h:prec a (bu L ((j-1) /2))
    ·rfl
    ·exact absurd ⟨by omega,h⟩ hno)
  rw[←UQ]at hex
  exact⟨_,_,rfl,.tail,rfl,_,_,j,bT,hp,hd,hex,by omega,by rw[RO,ha],fun hk=>vW hex (by rw[UQ];exact lT (by rw[hn];exact hk))⟩
 refine DR.self ?_
 refine ae.gtr (Br.dec (fun h0=>?_) (fun h0=>JE.mk (hend (fun h=>h0 (by omega)))))
 have h0:0<j:=by omega
 refine aA.whole (r:=enc .i64 a) zM rfl ?_
 (repeat (first|refine Nil.ptr ?_|refine aa.mk ?_|refine Ld.mk zM rfl ?_|refine aG.mk ?_|refine ae.eql ?_|refine ae.neq ?_|refine ae.lss ?_|refine ae.leq ?_|refine ae.gtr ?_|refine ae.geq ?_|refine Un.not ?_|refine Ext.mk rfl ?_|refine aD.mk ?_|refine ae.aJ ?_|refine ae.bG ?_|refine ae.bF ?_|refine Br.yes ?_|refine Br.no ?_))
 refine ae.jZ (c:=((j-1:Nat):Int)) (by omega) (by omega) ?_
 refine ae.KU (by decide) (SU j h0) (by omega) ?_
 refine ah.nat (by omega) ?_
 refine aA.row (l:=eG .i64 L++aL) zM aK (fD (by omega) aL) ?_
 intro F
 refine ag.rd .here (ua a _ _) ?_
 rintro v rfl
 refine⟨.refl _,?_⟩
 cases Rl:prec a (bu L ((j-1) /2))with
 |false=>exact aD.mk (JE.mk (hend (fun h=>by rw[Rl]at h;exact absurd h.2 (by decide))))
 |true=>
 refine aD.mk (JE.mk (hJ _ _ fun gs=>Br.yes ?_))
 (repeat (first|refine Nil.ptr ?_|refine aa.mk ?_|refine Ld.mk zM rfl ?_|refine aG.mk ?_|refine ae.eql ?_|refine ae.neq ?_|refine ae.lss ?_|refine ae.leq ?_|refine ae.gtr ?_|refine ae.geq ?_|refine Un.not ?_|refine Ext.mk rfl ?_|refine aD.mk ?_|refine ae.aJ ?_|refine ae.bG ?_|refine ae.bF ?_|refine Br.yes ?_|refine Br.no ?_))
 refine ae.jZ (c:=((j-1:Nat):Int)) (by omega) (by omega) ?_
 refine ae.KU (by decide) (SU j h0) (by omega) ?_
 refine ah.nat (by omega) ?_
 refine aA.row (l:=eG .i64 L++aL) zM aK (fD (by omega) aL) ?_
 refine ag.fn (.cons .here) (pC UO (i:=j) (by omega) (bu L ((j-1) /2))) ?_
 rintro v C' ⟨rfl,bT⟩
 refine ae.jZ (c:=((j-1:Nat):Int)) (by omega) (by omega) ?_
 refine ae.KU (by decide) (SU j h0) (by omega) ?_
 have hst:=OK h0 (by rw[←UQ]at hj;rw[UQ]at hj;exact hj) hu (by rw[RO,hVq h0];exact Rl)
 have hcs:=hc.step Xb (i:=j) (q:=(j-1) /2) (by omega) (by omega) (by omega)
 have hpp:=(swap_perm (l:=L.set j a) (i:=j) (q:=(j-1) /2) (by omega) (by omega) (by omega)).trans hp
 have TX:(L.set j (bu L ((j-1) /2))).set ((j-1) /2) a=((L.set j a).set j (bu (L.set j a) ((j-1) /2))).set ((j-1) /2) (bu (L.set j a) j):=(sN a (by omega) (by omega) (by omega)).symm
 have x7:bu ((L.set j (bu L ((j-1) /2))).set ((j-1) /2) a)=gH (gH (bu (L.set j a)) j (bu (L.set j a) ((j-1) /2))) ((j-1) /2) (bu (L.set j a) j):=by
  rw[TX,gB _ (by simp;omega),gB _ (by omega)]
 refine ay.mk ⟨(j-1) /2,_,_,C',rfl,rfl,bT,by simp[Xf],by omega,?_,?_,?_,fun _=>?_⟩ ?_
 ·rw[TX];exact hpp
 ·rw[x7];exact hst.1
 ·rw[TX];rw[hVq h0]at hcs⊢;exact hcs
 ·rw[x7];exact hst.2
 ·simp only[bg,Int.toNat_natCast];omega
end Go.Proofs
set_option maxRecDepth 100000
namespace Go.Proofs
open Go Go.Sx
open NH
theorem Mh{h:Value}{l:List It}{f:Int→Option Nat}{C:Hp}(ho:Oq h l f C){i:Nat}(hi:i<l.length)(bD:l.length<4611686018427387904)(hu:QS l.length (bu l) i)(hc:lM l f i)(hO:jh l):
  Fc Tryz.prog 160 #[h,.int .i64 (i:Int)] C (fun v C'=>v=.tuple #[]∧∃l' f',Oq h l' f' C'∧l'.Perm l∧Cons l' f'∧Ord l'.length (bu l')):=by
 obtain⟨bh,la,mb,aL,Cm,rfl,rfl,aK,hm⟩:=ho.open (by omega)
 obtain⟨n,hn⟩:∃n,n=l.length:=⟨_,rfl⟩
 obtain⟨a,ha⟩:∃a,a=bu l i:=⟨_,rfl⟩
 intro g
 refine Ef (R:=aE _) ?_
 unfold L160
 (repeat (first|refine Nil.ptr ?_|refine aa.mk ?_|refine Ld.mk zM rfl ?_|refine aG.mk ?_|refine ae.eql ?_|refine ae.neq ?_|refine ae.lss ?_|refine ae.leq ?_|refine ae.gtr ?_|refine ae.geq ?_|refine Un.not ?_|refine Ext.mk rfl ?_|refine aD.mk ?_|refine ae.aJ ?_|refine ae.bG ?_|refine ae.bF ?_|refine Br.yes ?_|refine Br.no ?_))
 refine ah.nat hi ?_
 refine aA.row (l:=eG .i64 l++aL) zM aK (fD hi aL) ?_
 intro b6 _
 refine St.whole (r:=enc .i64 (bu l i)) (by repeat (first|exact cK.head _|apply cK.tail|apply cK.bP)) rfl rfl (nv _ _) ?_
 rw[←ha]
 refine⟨fun vs H=>∃(j:Nat) (L:List It) (f:Int→Option Nat) (C:Hp),vs=[.int .i64 (j:Int)]∧H=(b6,Obj.cells (enc .i64 a).toArray 233 (0,0))::C∧Oq (.pointer (some ⟨bh,0,none⟩)) L f C∧L.length=n∧j<n∧
   (L.set j a).Perm l∧QS n (bu (L.set j a)) j∧lM (L.set j a) f j,
  fun vs _=>n-bg vs 0,.mk ⟨i,l,f,_,rfl,rfl,ho,hn.symm,by omega,?_,?_,?_⟩,?_⟩
 ·exact(by rw[ha,n9 hi])
 ·rw[ha,n9 hi,hn];exact hu
 ·rw[ha,n9 hi];exact hc
 rintro w H ⟨j,L,f,C,hw,rfl,ho,Xf,hj,hp,hu,hc⟩ gs
 simp only[List.cons.injEq,and_true]at hw
 subst hw
 have UO:=ho
 obtain⟨bh',la,mb,aL,Cm,WT,rfl,aK,hm⟩:=ho.open (by omega)
 simp only[Value.pointer.injEq,Option.some.injEq,Addr.mk.injEq,and_true]at WT
 subst WT
 have Xb:jh (L.set j a):=hO.perm hp
 have UQ:(L.set j a).length=n:=by simp[Xf]
 have RO:bu (L.set j a) j=a:=by rw[gB a (by omega)];simp[gH]
 have W0:∀c,c≠j→bu (L.set j a) c=bu L c:=fun c h0=>by rw[gB a (by omega)];simp[gH,h0]
 refine ae.Li (c:=((2*j:Nat):Int)) (by omega) (by omega) ?_
 refine ae.wm (c:=((2*j+1:Nat):Int)) (by omega) (by omega) ?_
 intro J hJ
 obtain⟨c,hcd⟩:∃c,c=vN n (bu (L.set j a)) j:=⟨_,rfl⟩
 have hkc:=qp n (bu (L.set j a)) j
 rw[←hcd]at hkc
 have iD:J [.int .i64 (c:Int)] ((b6,Obj.cells (enc .i64 a).toArray 233 (0,0))::(bh,Obj.cells #[.slice (some ⟨la,0,none⟩) L.length (L.length+aL.length),.map (some mb)] 231 (0,0))::(la,.cells (rows (eG .i64 L++aL)) 233 (0,0))::Cm):=by
  refine hJ _ _ fun gs2=>?_
  intro J2 Au
  have hstop:n≤c∨prec (bu L c) a=false→J2 [.bool true] ((b6,Obj.cells (enc .i64 a).toArray 233 (0,0))::(bh,Obj.cells #[.slice (some ⟨la,0,none⟩) L.length (L.length+aL.length),.map (some mb)] 231 (0,0))::(la,.cells (rows (eG .i64 L++aL)) 233 (0,0))::Cm):=fun hst=>Au _ _ fun gs=>by
   refine Br.yes ?_
   refine aA.whole (r:=enc .i64 a) zM rfl ?_
   refine ag.fn (.cons .here) (pC UO (i:=j) (by omega) a) ?_
   rintro v C' ⟨rfl,bT⟩
   have hd:=hc.done Xb (by omega)
   rw[RO]at hd
   have hex:=Ih hu (by
    rw[←hcd]
    by_cases h0:n≤c
    ·exact .inl h0
    ·right
     rw[RO,W0 c (by omega)]
     rcases hst with h|h
     ·omega
     ·exact h)
   rw[←UQ]at hex
   exact⟨_,_,rfl,.tail,rfl,_,_,bT,hp,hd,hex⟩
  refine DR.self ?_
  (repeat (first|refine Nil.ptr ?_|refine aa.mk ?_|refine Ld.mk zM rfl ?_|refine aG.mk ?_|refine ae.eql ?_|refine ae.neq ?_|refine ae.lss ?_|refine ae.leq ?_|refine ae.gtr ?_|refine ae.geq ?_|refine Un.not ?_|refine Ext.mk rfl ?_|refine aD.mk ?_|refine ae.aJ ?_|refine ae.bG ?_|refine ae.bF ?_|refine Br.yes ?_|refine Br.no ?_))
  refine Br.dec (fun h0=>JE.mk (hstop (.inl (by omega)))) (fun h0=>?_)
  have h0:c<n:=by omega
  (repeat (first|refine Nil.ptr ?_|refine aa.mk ?_|refine Ld.mk zM rfl ?_|refine aG.mk ?_|refine ae.eql ?_|refine ae.neq ?_|refine ae.lss ?_|refine ae.leq ?_|refine ae.gtr ?_|refine ae.geq ?_|refine Un.not ?_|refine Ext.mk rfl ?_|refine aD.mk ?_|refine ae.aJ ?_|refine ae.bG ?_|refine ae.bF ?_|refine Br.yes ?_|refine Br.no ?_))
  refine ah.nat (by omega) ?_
  refine aA.row (l:=eG .i64 L++aL) zM aK (fD (by omega) aL) ?_
  refine aA.whole (r:=enc .i64 a) zM rfl ?_
  intro F
  refine ag.rd .here (ua _ a _) ?_
  rintro v rfl
  refine⟨.refl _,Un.not ?_⟩
  cases Rl:prec (bu L c) a with
  |false=>exact aD.mk (JE.mk (hstop (.inr Rl)))
  |true=>
  refine aD.mk (JE.mk (Au _ _ fun gs=>Br.no ?_))
  (repeat (first|refine Nil.ptr ?_|refine aa.mk ?_|refine Ld.mk zM rfl ?_|refine aG.mk ?_|refine ae.eql ?_|refine ae.neq ?_|refine ae.lss ?_|refine ae.leq ?_|refine ae.gtr ?_|refine ae.geq ?_|refine Un.not ?_|refine Ext.mk rfl ?_|refine aD.mk ?_|refine ae.aJ ?_|refine ae.bG ?_|refine ae.bF ?_|refine Br.yes ?_|refine Br.no ?_))
  refine ah.nat (by omega) ?_
  refine aA.row (l:=eG .i64 L++aL) zM aK (fD (by omega) aL) ?_
  refine ag.fn (.cons .here) (pC UO (i:=j) (by omega) (bu L c)) ?_
  rintro v C' ⟨rfl,bT⟩
  have WR:c≠j:=by omega
  have hst:=Ig hu (by rw[←hcd];exact h0) (by rw[←hcd,RO,W0 c WR];exact Rl)
  rw[←hcd]at hst
  have hcs:=hc.step Xb (i:=j) (q:=c) (by omega) (by omega) WR
  have hpp:=(swap_perm (l:=L.set j a) (i:=j) (q:=c) (by omega) (by omega) WR).trans hp
  have TX:(L.set j (bu L c)).set c a=((L.set j a).set j (bu (L.set j a) c)).set c (bu (L.set j a) j):=(sN a (by omega) (by omega) WR).symm
  have x7:bu ((L.set j (bu L c)).set c a)=gH (gH (bu (L.set j a)) j (bu (L.set j a) c)) c (bu (L.set j a) j):=by
   rw[TX,gB _ (by simp;omega),gB _ (by omega)]
  refine ay.mk ⟨c,_,_,C',rfl,rfl,bT,by simp[Xf],by omega,?_,?_,?_⟩ ?_
  ·rw[TX];exact hpp
  ·rw[x7];exact hst
  ·rw[TX];rw[W0 c WR]at hcs⊢;exact hcs
  ·simp only[bg,Int.toNat_natCast];omega
 intro J3 U7
 have hkd:vN n (bu (L.set j a)) j=if(decide (2*j+1+1<n) &&prec (bu L (2*j+1+1)) (bu L (2*j+1)))=true then 2*j+1+1 else 2*j+1:=by
  unfold vN;rw[W0 _ (by omega),W0 _ (by omega)]
 rw[hkd]at hcd
 have hno:¬(2*j+1+1<n∧prec (bu L (2*j+1+1)) (bu L (2*j+1))=true)→J3 [.bool false] ((b6,Obj.cells (enc .i64 a).toArray 233 (0,0))::(bh,Obj.cells #[.slice (some ⟨la,0,none⟩) L.length (L.length+aL.length),.map (some mb)] 231 (0,0))::(la,.cells (rows (eG .i64 L++aL)) 233 (0,0))::Cm):=fun hx=>U7 _ _ fun gs=>by
  rw[if_neg (by simpa using hx)]at hcd
  rw[hcd]at iD
  exact Br.no (.mk iD)
 refine DR.self ?_
 refine ae.wm (c:=((2*j+1+1:Nat):Int)) (by omega) (by omega) ?_
 (repeat (first|refine Nil.ptr ?_|refine aa.mk ?_|refine Ld.mk zM rfl ?_|refine aG.mk ?_|refine ae.eql ?_|refine ae.neq ?_|refine ae.lss ?_|refine ae.leq ?_|refine ae.gtr ?_|refine ae.geq ?_|refine Un.not ?_|refine Ext.mk rfl ?_|refine aD.mk ?_|refine ae.aJ ?_|refine ae.bG ?_|refine ae.bF ?_|refine Br.yes ?_|refine Br.no ?_))
 refine Br.dec (fun h0=>?_) (fun h0=>JE.mk (hno (fun h=>h0 (by omega))))
 have h0:2*j+1+1<n:=by omega
 (repeat (first|refine Nil.ptr ?_|refine aa.mk ?_|refine Ld.mk zM rfl ?_|refine aG.mk ?_|refine ae.eql ?_|refine ae.neq ?_|refine ae.lss ?_|refine ae.leq ?_|refine ae.gtr ?_|refine ae.geq ?_|refine Un.not ?_|refine Ext.mk rfl ?_|refine aD.mk ?_|refine ae.aJ ?_|refine ae.bG ?_|refine ae.bF ?_|refine Br.yes ?_|refine Br.no ?_))
 refine ae.wm (c:=((2*j+1+1:Nat):Int)) (by omega) (by omega) ?_
 refine ah.nat (by omega) ?_
 refine aA.row (l:=eG .i64 L++aL) zM aK (fD (by omega) aL) ?_
 (repeat (first|refine Nil.ptr ?_|refine aa.mk ?_|refine Ld.mk zM rfl ?_|refine aG.mk ?_|refine ae.eql ?_|refine ae.neq ?_|refine ae.lss ?_|refine ae.leq ?_|refine ae.gtr ?_|refine ae.geq ?_|refine Un.not ?_|refine Ext.mk rfl ?_|refine aD.mk ?_|refine ae.aJ ?_|refine ae.bG ?_|refine ae.bF ?_|refine Br.yes ?_|refine Br.no ?_))
 refine ah.nat (by omega) ?_
 refine aA.row (l:=eG .i64 L++aL) zM aK (fD (by omega) aL) ?_
 intro F
 refine ag.rd .here (ua _ _ _) ?_
 rintro v rfl
 refine⟨.refl _,?_⟩
 cases Rl:prec (bu L (2*j+1+1)) (bu L (2*j+1))with
 |false=>exact aD.mk (JE.mk (hno (fun h=>by rw[Rl]at h;exact absurd h.2 (by decide))))
 |true=>
 refine aD.mk (JE.mk (U7 _ _ fun gs=>Br.yes ?_))
 refine ae.wm (c:=((2*j+1+1:Nat):Int)) (by omega) (by omega) ?_
 rw[if_pos (by simp[h0,Rl])]at hcd
 rw[hcd]at iD
 exact .mk iD
theorem PN(B:Hp):Fc Tryz.prog 76 #[] B (fun v H=>∃b C,v=.pointer (some ⟨b,0,none⟩)∧H=C++B∧QI (.pointer (some ⟨b,0,none⟩)) [] C):=by
 intro g
 refine II (R:=aE _) ?_
 unfold L76
 refine Build.mk (cs:=[.slice none 0 0,.map none]) (by kernel_rfl) ?_
 intro b _
 exact⟨_,_,rfl,.refl _,b,[_],rfl,rfl,fun _=>none,⟨b,_,_,[],[],rfl,rfl,aR.nil _ _,.inl ⟨rfl,rfl,rfl⟩,fun _=>rfl⟩,⟨fun j hj=>by simp at hj,fun _ _=>rfl⟩,fun j _ hj=>by simp at hj,by simp[jh]⟩
theorem LR{h:Value}{l:List It}{C:Hp}(hi:QI h l C)(bD:l.length<4398046511104)(x k:Int):
  Fc Tryz.prog 77 #[h,.int .i64 x,.int .i64 k] C (fun v C'=>∃l',QI h l' C'∧
   ((x∈l.map Prod.fst∧v=.int .i64 11∧l'=l)∨(x∉l.map Prod.fst∧v=.int .i64 0∧l'.Perm ((x,k)::l)))):=by
 have Mb:=hi
 obtain⟨f,ho,hc,hO,h1⟩:=hi
 have UO:=ho
 obtain⟨bh,sv,mv,Cs,Cm,rfl,rfl,hs,hm,hne⟩:=ho
 intro g
 refine IG (R:=aE _) ?_
 unfold L77
 (repeat (first|refine Nil.ptr ?_|refine aa.mk ?_|refine Ld.mk zM rfl ?_|refine aG.mk ?_|refine ae.eql ?_|refine ae.neq ?_|refine ae.lss ?_|refine ae.leq ?_|refine ae.gtr ?_|refine ae.geq ?_|refine Un.not ?_|refine Ext.mk rfl ?_|refine aD.mk ?_|refine ae.aJ ?_|refine ae.bG ?_|refine ae.bF ?_|refine Br.yes ?_|refine Br.no ?_))
 rcases MZ hc (x:=x)with⟨hx,hf⟩|⟨i,hi,hx,hf⟩
 ·refine hm.Hw zS hf ?_
  (repeat (first|refine Nil.ptr ?_|refine aa.mk ?_|refine Ld.mk zM rfl ?_|refine aG.mk ?_|refine ae.eql ?_|refine ae.neq ?_|refine ae.lss ?_|refine ae.leq ?_|refine ae.gtr ?_|refine ae.geq ?_|refine Un.not ?_|refine Ext.mk rfl ?_|refine aD.mk ?_|refine ae.aJ ?_|refine ae.bG ?_|refine ae.bF ?_|refine Br.yes ?_|refine Br.no ?_))
  intro J hJ
  obtain⟨uY,kZ,Ro,UL⟩:=KY (a:=(x,k)) hc hO h1 hx
  have iD:∀mb R4,jN .i64 idx (.map (some mb)) f R4→J [] ((bh,Obj.cells #[sv,.map (some mb)] 231 (0,0))::(Cs++R4)):=by
   intro mb R4 hm'
   refine hJ _ fun gs=>?_
   (repeat (first|refine Nil.ptr ?_|refine aa.mk ?_|refine Ld.mk zM rfl ?_|refine aG.mk ?_|refine ae.eql ?_|refine ae.neq ?_|refine ae.lss ?_|refine ae.leq ?_|refine ae.gtr ?_|refine ae.geq ?_|refine Un.not ?_|refine Ext.mk rfl ?_|refine aD.mk ?_|refine ae.aJ ?_|refine ae.bG ?_|refine ae.bF ?_|refine Br.yes ?_|refine Br.no ?_))
   refine Build.mk (cs:=enc .i64 (x,k)) (by kernel_rfl) ?_
   refine ax.one (k:=2) (e:=233) (z:=.agg #[.int .i64 0,.int .i64 0]) (by kernel_rfl) (by kernel_rfl) (by kernel_rfl) (by decide) rfl fun xb=>?_
   refine hs.Ci (A:=[_,_]) (B:=R4) (r:=enc .i64 (x,k)) zM rfl (nv _ _) ⟨[.int .i64 0,.int .i64 0],rfl,rfl⟩ (by rw[cN];omega) (by rw[cN];omega) fun v' C' hs'=>?_
   (repeat (first|refine Nil.ptr ?_|refine aa.mk ?_|refine Ld.mk zM rfl ?_|refine aG.mk ?_|refine ae.eql ?_|refine ae.neq ?_|refine ae.lss ?_|refine ae.leq ?_|refine ae.gtr ?_|refine ae.geq ?_|refine Un.not ?_|refine Ext.mk rfl ?_|refine aD.mk ?_|refine ae.aJ ?_|refine ae.bG ?_|refine ae.bF ?_|refine Br.yes ?_|refine Br.no ?_))
   refine St.one (by repeat (first|exact cK.head _|apply cK.tail|apply cK.bP)) (by obtain⟨a,c,rfl⟩:=hs'.len;rfl) (by simp) rfl ?_
   (repeat (first|refine Nil.ptr ?_|refine aa.mk ?_|refine Ld.mk zM rfl ?_|refine aG.mk ?_|refine ae.eql ?_|refine ae.neq ?_|refine ae.lss ?_|refine ae.leq ?_|refine ae.gtr ?_|refine ae.geq ?_|refine Un.not ?_|refine Ext.mk rfl ?_|refine aD.mk ?_|refine ae.aJ ?_|refine ae.bG ?_|refine ae.bF ?_|refine Br.yes ?_|refine Br.no ?_))
   refine hs'.aS ?_
   refine ae.jZ (c:=((l.length:Nat):Int)) (by rw[List.length_append,cN];simp) (by omega) ?_
   have q5:aR 233 2 v' (eG .i64 (l++[(x,k)])) C':=by simpa[eG]using hs'
   have bT:Oq (.pointer (some ⟨bh,0,none⟩)) (l++[(x,k)]) f ((bh,Obj.cells #[v',.map (some mb)] 231 (0,0))::(C'++R4)):=
    ⟨bh,_,_,C',R4,rfl,rfl,q5,hm',fun h=>by simp at h⟩
   refine ag.pre (.tail) ?_
   refine ag.fn .here (Tr bT (i:=l.length) (by simp) (by simp;omega) uY kZ Ro) ?_
   rintro v C'' ⟨rfl,l',f',p,nr,dM,Y0,hex,hp,x7,aa6⟩
   refine⟨_,_,rfl,.refl _,l',⟨f',nr,Y0,aa6 UL,Ro.perm dM⟩,.inr ⟨hx,rfl,dM.trans ?_⟩⟩
   exact List.perm_append_comm (l₁:=l) (l₂:=[(x,k)])
  (repeat (first|refine Nil.ptr ?_|refine aa.mk ?_|refine Ld.mk zM rfl ?_|refine aG.mk ?_|refine ae.eql ?_|refine ae.neq ?_|refine ae.lss ?_|refine ae.leq ?_|refine ae.gtr ?_|refine ae.geq ?_|refine Un.not ?_|refine Ext.mk rfl ?_|refine aD.mk ?_|refine ae.aJ ?_|refine ae.bG ?_|refine ae.bF ?_|refine Br.yes ?_|refine Br.no ?_))
  rcases hm with⟨rfl,rfl,hfn⟩|⟨mb,m,ck,rfl,h2⟩
  ·(repeat (first|refine Nil.ptr ?_|refine aa.mk ?_|refine Ld.mk zM rfl ?_|refine aG.mk ?_|refine ae.eql ?_|refine ae.neq ?_|refine ae.lss ?_|refine ae.leq ?_|refine ae.gtr ?_|refine ae.geq ?_|refine Un.not ?_|refine Ext.mk rfl ?_|refine aD.mk ?_|refine ae.aJ ?_|refine ae.bG ?_|refine ae.bF ?_|refine Br.yes ?_|refine Br.no ?_))
   intro mb _
   (repeat (first|refine Nil.ptr ?_|refine aa.mk ?_|refine Ld.mk zM rfl ?_|refine aG.mk ?_|refine ae.eql ?_|refine ae.neq ?_|refine ae.lss ?_|refine ae.leq ?_|refine ae.gtr ?_|refine ae.geq ?_|refine Un.not ?_|refine Ext.mk rfl ?_|refine aD.mk ?_|refine ae.aJ ?_|refine ae.bG ?_|refine ae.bF ?_|refine Br.yes ?_|refine Br.no ?_))
   refine St.one (by repeat (first|exact cK.head _|apply cK.tail|apply cK.bP)) rfl (by simp) rfl ?_
   refine JE.of ?_ (iD mb _ (by rw[hfn];exact jN.made mb))
   simp only[List.append_nil]
   refine .perm ?_
   refine(List.Perm.swap _ _ _).trans (.cons _ ?_)
   exact List.perm_append_comm (l₁:=[_])
  ·(repeat (first|refine Nil.ptr ?_|refine aa.mk ?_|refine Ld.mk zM rfl ?_|refine aG.mk ?_|refine ae.eql ?_|refine ae.neq ?_|refine ae.lss ?_|refine ae.leq ?_|refine ae.gtr ?_|refine ae.geq ?_|refine Un.not ?_|refine Ext.mk rfl ?_|refine aD.mk ?_|refine ae.aJ ?_|refine ae.bG ?_|refine ae.bF ?_|refine Br.yes ?_|refine Br.no ?_))
   refine JE.mk ?_
   exact iD mb Cm (.inr ⟨mb,m,ck,rfl,h2⟩)
 ·refine hm.Hv zS hf ?_
  (repeat (first|refine Nil.ptr ?_|refine aa.mk ?_|refine Ld.mk zM rfl ?_|refine aG.mk ?_|refine ae.eql ?_|refine ae.neq ?_|refine ae.lss ?_|refine ae.leq ?_|refine ae.gtr ?_|refine ae.geq ?_|refine Un.not ?_|refine Ext.mk rfl ?_|refine aD.mk ?_|refine ae.aJ ?_|refine ae.bG ?_|refine ae.bF ?_|refine Br.yes ?_|refine Br.no ?_))
  refine⟨_,_,rfl,.refl _,l,Mb,.inl ⟨?_,rfl,rfl⟩⟩
  rw[gQ];exact⟨i,hi,hx⟩
theorem PJ{h:Value}{l:List It}{C:Hp}(hi:QI h l C)(bD:l.length<4398046511104):
  Fc Tryz.prog 78 #[h] C (fun v C'=>∃l',QI h l' C'∧
   ((l=[]∧v=.tuple #[.int .i64 0,.int .i64 0,.int .i64 10]∧l'=l)∨(∃a,l.Perm (a::l')∧(∀b∈l,prec b a=false)∧v=.tuple #[.int .i64 a.1,.int .i64 a.2,.int .i64 0]))):=by
 have Mb:=hi
 obtain⟨f,ho,hc,hO,h1⟩:=hi
 by_cases hl:l=[]
 ·subst hl
  intro g
  refine wz (R:=aE _) ?_
  unfold L78
  obtain⟨bh,sv,mv,Cs,Cm,rfl,rfl,hs,hm,hne⟩:=ho
  (repeat (first|refine Nil.ptr ?_|refine aa.mk ?_|refine Ld.mk zM rfl ?_|refine aG.mk ?_|refine ae.eql ?_|refine ae.neq ?_|refine ae.lss ?_|refine ae.leq ?_|refine ae.gtr ?_|refine ae.geq ?_|refine Un.not ?_|refine Ext.mk rfl ?_|refine aD.mk ?_|refine ae.aJ ?_|refine ae.bG ?_|refine ae.bF ?_|refine Br.yes ?_|refine Br.no ?_))
  refine cv.or true (fun _=>?_) rfl fun _=>?_
  ·(repeat (first|refine Nil.ptr ?_|refine aa.mk ?_|refine Ld.mk zM rfl ?_|refine aG.mk ?_|refine ae.eql ?_|refine ae.neq ?_|refine ae.lss ?_|refine ae.leq ?_|refine ae.gtr ?_|refine ae.geq ?_|refine Un.not ?_|refine Ext.mk rfl ?_|refine aD.mk ?_|refine ae.aJ ?_|refine ae.bG ?_|refine ae.bF ?_|refine Br.yes ?_|refine Br.no ?_))
   refine hs.aS ?_
   (repeat (first|refine Nil.ptr ?_|refine aa.mk ?_|refine Ld.mk zM rfl ?_|refine aG.mk ?_|refine ae.eql ?_|refine ae.neq ?_|refine ae.lss ?_|refine ae.leq ?_|refine ae.gtr ?_|refine ae.geq ?_|refine Un.not ?_|refine Ext.mk rfl ?_|refine aD.mk ?_|refine ae.aJ ?_|refine ae.bG ?_|refine ae.bF ?_|refine Br.yes ?_|refine Br.no ?_))
   exact⟨rfl,rfl⟩
  ·(repeat (first|refine Nil.ptr ?_|refine aa.mk ?_|refine Ld.mk zM rfl ?_|refine aG.mk ?_|refine ae.eql ?_|refine ae.neq ?_|refine ae.lss ?_|refine ae.leq ?_|refine ae.gtr ?_|refine ae.geq ?_|refine Un.not ?_|refine Ext.mk rfl ?_|refine aD.mk ?_|refine ae.aJ ?_|refine ae.bG ?_|refine ae.bF ?_|refine Br.yes ?_|refine Br.no ?_))
   exact⟨_,_,rfl,.refl _,[],Mb,.inl ⟨rfl,rfl,rfl⟩⟩
 ·obtain⟨n,hn⟩:∃n,l.length=n+1:=⟨l.length-1,by have:=List.length_pos_iff.2 hl;omega⟩
  have hmin:∀b∈l,prec b (bu l 0)=false:=fun b hb=>by
   obtain⟨j,hj,e⟩:=List.mem_iff_getElem.1 hb
   have:=Pa hO j hj
   rwa [show bu l j=b by simp[bu,List.getD,hj,e]]at this
  intro g
  refine wz (R:=aE _) ?_
  obtain⟨bh,la,mb,aL,Cm,rfl,rfl,aK,hm⟩:=ho.open (by omega)
  unfold L78
  (repeat (first|refine Nil.ptr ?_|refine aa.mk ?_|refine Ld.mk zM rfl ?_|refine aG.mk ?_|refine ae.eql ?_|refine ae.neq ?_|refine ae.lss ?_|refine ae.leq ?_|refine ae.gtr ?_|refine ae.geq ?_|refine Un.not ?_|refine Ext.mk rfl ?_|refine aD.mk ?_|refine ae.aJ ?_|refine ae.bG ?_|refine ae.bF ?_|refine Br.yes ?_|refine Br.no ?_))
  refine cv.or false (fun _=>?_) rfl fun _=>?_
  ·(repeat (first|refine Nil.ptr ?_|refine aa.mk ?_|refine Ld.mk zM rfl ?_|refine aG.mk ?_|refine ae.eql ?_|refine ae.neq ?_|refine ae.lss ?_|refine ae.leq ?_|refine ae.gtr ?_|refine ae.geq ?_|refine Un.not ?_|refine Ext.mk rfl ?_|refine aD.mk ?_|refine ae.aJ ?_|refine ae.bG ?_|refine ae.bF ?_|refine Br.yes ?_|refine Br.no ?_))
   exact⟨rfl,by rw[hn];simp;omega⟩
  (repeat (first|refine Nil.ptr ?_|refine aa.mk ?_|refine Ld.mk zM rfl ?_|refine aG.mk ?_|refine ae.eql ?_|refine ae.neq ?_|refine ae.lss ?_|refine ae.leq ?_|refine ae.gtr ?_|refine ae.geq ?_|refine Un.not ?_|refine Ext.mk rfl ?_|refine aD.mk ?_|refine ae.aJ ?_|refine ae.bG ?_|refine ae.bF ?_|refine Br.yes ?_|refine Br.no ?_))
  refine ah.of 0 rfl (by omega) ?_
  refine aA.row (l:=eG .i64 l++aL) zM aK (fD (by omega) aL) ?_
  intro Oi _
  refine St.whole (r:=enc .i64 (bu l 0)) (by repeat (first|exact cK.head _|apply cK.tail|apply cK.bP)) rfl rfl (nv _ _) ?_
  (repeat (first|refine Nil.ptr ?_|refine aa.mk ?_|refine Ld.mk zM rfl ?_|refine aG.mk ?_|refine ae.eql ?_|refine ae.neq ?_|refine ae.lss ?_|refine ae.leq ?_|refine ae.gtr ?_|refine ae.geq ?_|refine Un.not ?_|refine Ext.mk rfl ?_|refine aD.mk ?_|refine ae.aJ ?_|refine ae.bG ?_|refine ae.bF ?_|refine Br.yes ?_|refine Br.no ?_))
  refine ae.jZ (c:=(n:Int)) (by rw[hn];simp) (by omega) ?_
  (repeat (first|refine Nil.ptr ?_|refine aa.mk ?_|refine Ld.mk zM rfl ?_|refine aG.mk ?_|refine ae.eql ?_|refine ae.neq ?_|refine ae.lss ?_|refine ae.leq ?_|refine ae.gtr ?_|refine ae.geq ?_|refine Un.not ?_|refine Ext.mk rfl ?_|refine aD.mk ?_|refine ae.aJ ?_|refine ae.bG ?_|refine ae.bF ?_|refine Br.yes ?_|refine Br.no ?_))
  refine ah.nat (by omega) ?_
  refine aA.row (l:=eG .i64 l++aL) zM aK (fD (by omega) aL) ?_
  intro Zi _
  refine St.whole (r:=enc .i64 (bu l n)) (by repeat (first|exact cK.head _|apply cK.tail|apply cK.bP)) rfl rfl (nv _ _) ?_
  (repeat (first|refine Nil.ptr ?_|refine aa.mk ?_|refine Ld.mk zM rfl ?_|refine aG.mk ?_|refine ae.eql ?_|refine ae.neq ?_|refine ae.lss ?_|refine ae.leq ?_|refine ae.gtr ?_|refine ae.geq ?_|refine Un.not ?_|refine Ext.mk rfl ?_|refine aD.mk ?_|refine ae.aJ ?_|refine ae.bG ?_|refine ae.bF ?_|refine Br.yes ?_|refine Br.no ?_))
  refine fU.upto (h:=n) (by omega) ?_
  (repeat (first|refine Nil.ptr ?_|refine aa.mk ?_|refine Ld.mk zM rfl ?_|refine aG.mk ?_|refine ae.eql ?_|refine ae.neq ?_|refine ae.lss ?_|refine ae.leq ?_|refine ae.gtr ?_|refine ae.geq ?_|refine Un.not ?_|refine Ext.mk rfl ?_|refine aD.mk ?_|refine ae.aJ ?_|refine ae.bG ?_|refine ae.bF ?_|refine Br.yes ?_|refine Br.no ?_))
  refine St.one (by repeat (first|exact cK.head _|apply cK.tail|apply cK.bP)) rfl (by simp) rfl ?_
  refine DR.self ?_
  (repeat (first|refine Nil.ptr ?_|refine aa.mk ?_|refine Ld.mk zM rfl ?_|refine aG.mk ?_|refine ae.eql ?_|refine ae.neq ?_|refine ae.lss ?_|refine ae.leq ?_|refine ae.gtr ?_|refine ae.geq ?_|refine Un.not ?_|refine Ext.mk rfl ?_|refine aD.mk ?_|refine ae.aJ ?_|refine ae.bG ?_|refine ae.bF ?_|refine Br.yes ?_|refine Br.no ?_))
  rw[←List.append_nil Cm]
  refine jN.del (A:=[_,_,_,_]) (B:=[]) hm fun R4 hm'=>?_
  rw[List.append_nil]
  have Rk:eG .i64 l++aL=eG .i64 (l.take n)++(enc .i64 (bu l n)::aL):=by
   have e:l=l.take n++[bu l n]:=by
    have h2:l.drop n=[bu l n]:=by
     rw[List.drop_eq_getElem_cons (by omega),List.drop_eq_nil_of_le (by omega)]
     simp[hn,bu,List.getD]
    have:=(List.take_append_drop n l).symm
    rw[h2]at this;exact this
   conv=>lhs;rw[e]
   simp[eG]
  have Ms:∀r∈eG .i64 (l.take n)++(enc .i64 (bu l n)::aL),r.length=2:=by rw[←Rk];exact aK
  intro J hJ
  have hlt:(l.take n).length=n:=by simp[hn]
  have iD:∀l' C',QI (.pointer (some ⟨bh,0,none⟩)) l' C'→l.Perm (bu l 0::l')→J [] ((Zi,Obj.cells (enc .i64 (bu l n)).toArray 233 (0,0))::(Oi,Obj.cells (enc .i64 (bu l 0)).toArray 233 (0,0))::C'):=by
   intro l' C' hi' Ty
   refine hJ _ fun gs=>?_
   (repeat (first|refine Nil.ptr ?_|refine aa.mk ?_|refine Ld.mk zM rfl ?_|refine aG.mk ?_|refine ae.eql ?_|refine ae.neq ?_|refine ae.lss ?_|refine ae.leq ?_|refine ae.gtr ?_|refine ae.geq ?_|refine Un.not ?_|refine Ext.mk rfl ?_|refine aD.mk ?_|refine ae.aJ ?_|refine ae.bG ?_|refine ae.bF ?_|refine Br.yes ?_|refine Br.no ?_))
   exact⟨_,_,rfl,.skip .tail,l',hi',.inr ⟨_,Ty,hmin,rfl⟩⟩
  (repeat (first|refine Nil.ptr ?_|refine aa.mk ?_|refine Ld.mk zM rfl ?_|refine aG.mk ?_|refine ae.eql ?_|refine ae.neq ?_|refine ae.lss ?_|refine ae.leq ?_|refine ae.gtr ?_|refine ae.geq ?_|refine Un.not ?_|refine Ext.mk rfl ?_|refine aD.mk ?_|refine ae.aJ ?_|refine ae.bG ?_|refine ae.bF ?_|refine Br.yes ?_|refine Br.no ?_))
  have Bz:Oq (.pointer (some ⟨bh,0,none⟩)) (l.take n) (Aq f (bu l 0).1 none) ((bh,Obj.cells #[.slice (some ⟨la,0,none⟩) n (l.length+aL.length),.map (some mb)] 231 (0,0))::(la,.cells (rows (eG .i64 l++aL)) 233 (0,0))::R4):=by
   rw[Rk]
   exact .shut Ms hlt.symm (by simp[hn];omega) hm'
  refine Br.mk (fun h0=>?_) (fun h0=>?_)
  ·have h0:0<n:=by simpa using h0
   obtain⟨_,q1,q2,q3,q4⟩:=O3 hc hO h1 hn h0
   refine aA.whole (r:=enc .i64 (bu l n)) zM rfl ?_
   refine ag.fn (.cons (.cons .here)) (pC Bz (i:=0) (by omega) (bu l n)) ?_
   rintro v C2 ⟨rfl,nr⟩
   have HP:lM ((l.take n).set 0 (bu l n)) (Aq (Aq f (bu l 0).1 none) (bu l n).1 (some 0)) 0:=by
    refine⟨fun j hj TM=>?_,fun x hx=>?_⟩
    ·unfold Aq
     rw[if_neg]
     ·exact q4.1 j hj TM
     ·intro e
      have h00:bu ((l.take n).set 0 (bu l n)) 0=bu l n:=by rw[gB _ (by omega)];simp[gH]
      exact TM (q3.inj hj (by simp;omega) (by rw[e,h00]))
    ·unfold Aq
     rw[if_neg]
     ·exact q4.2 x hx
     ·intro e
      refine hx (gQ.2 ⟨0,by simp;omega,?_⟩)
      rw[gB _ (by omega)];simp[gH,e]
   refine ag.fn (.cons (.cons .here)) (Mh nr (i:=0) (by simp;omega) (by simp;omega) (by simpa[hn]using q2) HP q3) ?_
   rintro v C3 ⟨rfl,l3,f3,x6,LS,hc3,Wh⟩
   exact JE.mk (iD l3 C3 ⟨f3,x6,hc3,Wh,q3.perm LS⟩ ((LS.cons (bu l 0)).trans q1).symm)
  ·have h0:n=0:=by simp at h0;omega
   subst h0
   refine JE.mk (iD (l.take 0) _ ⟨_,Bz,⟨fun j hj=>by simp at hj,fun x _=>?_⟩,fun j _ hj=>by simp at hj,by simp[jh]⟩ ?_)
   ·unfold Aq
    split
    ·rfl
    ·rename_i hne
     refine hc.2 x fun hm=>hne ?_
     obtain⟨j,hj,e⟩:=gQ.1 hm
     rw[show j=0 by omega]at e;exact e.symm
   ·match l,hn with
    | [a],_=>exact .refl _
end Go.Proofs
namespace aj
open Go.Sx NH
def nn(s k:Nat):It:=((s:Int),(k:Int))
variable {n:Nat} {c:Nat→Nat→Nat} {T:Nat} {D:List Nat} {l l':List It} {s i:Nat}
end aj
set_option maxRecDepth 100000
namespace Go.Proofs
open Go Go.Sx
open bc NH
theorem GN{pt n v:Nat}{T:Nd→Option Nat}{C:Hp}(h:mS pt n T C)(hv:v<n):
  Rd Tryz.prog 171 #[ptr pt,.int .i64 (v:Int)] C (fun r=>∃l:List (Nd×Nat),(l.map Prod.fst).Nodup∧(∀d r,(d,r)∈l↔T d=some r∧d.v=v)∧r=.tuple #[.int .i64 ((l.length:Nat):Int),.int .i64 0]):=by
 have h0:=h
 obtain⟨vs,Cs,ms,rfl,hs,ho⟩:=h
 obtain⟨m,hm⟩:∃m,ms[v]? =some m:=⟨_,List.getElem?_eq_getElem (by rw[ho.len];exact hv)⟩
 have he:=ho.ru v m hm
 have hT:∀d:Nd,d.v=v→T d=ed m.l d:=fun d hd=>by rw[ho.T,hd,hm];rfl
 have hmem:∀d r,(d,r)∈m.l↔T d=some r∧d.v=v:=fun d r=>by
  constructor
  ·intro hx
   have hd:=ho.var v m hm _ hx
   exact⟨by rw[hT d hd];exact(jb he.nd).2 hx,hd⟩
  ·rintro⟨h1,h2⟩
   rw[hT d h2]at h1
   exact(jb he.nd).1 h1
 intro g
 refine D7 (R:=aE _) ?_
 unfold L171
 refine ag.rd .here (jW h0 hv) ?_
 rintro w rfl
 refine ae.gj (Br.cq (by simp) ?_)
 refine Nil.ptr ?_
 refine aa.mk (Ld.mk zM rfl ?_)
 refine hs.Q7 (x:=.map (some m.b)) (by rw[List.getElem?_map,hm];rfl) (fun _ h=>by exact .tail _ (List.mem_append_left _ h)) ?_
 refine he.Lq (b:=m.b) (by exact .tail _ (List.mem_append_right _ (po hm))) ?_
 exact bL.mk (.refl _) ⟨m.l,he.nd,hmem,rfl⟩
section
variable {kp v gr:Nat} {K:Kd} {S:Nat→bc.Fn} {ord tr:List Nat} {C:Hp}
theorem HB{av:List Nat}(h:cY kp K ord av tr C)(hv:v<K.n):Rd Tryz.prog 93 #[ptr kp,.int .i64 (v:Int)] C (fun r=>∃l:List (Nd×Nat),(l.map Prod.fst).Nodup∧(∀d r,(d,r)∈l↔K.T d=some r∧d.v=v)∧r=.tuple #[.int .i64 ((l.length:Nat):Int),.int .i64 0]):=by
 have h0:=h
 obtain⟨b,rfl,hO⟩:=h
 intro g
 refine IB (R:=aE _) ?_
 unfold L93
 refine ae.aJ (Br.no ?_)
 refine ag.rd .here (xe h0 (v:Int)) ?_
 rintro r rfl
 rw[decide_eq_true (by omega)]
 refine Un.not (Br.no ?_)
 refine Nil.ptr (aa.mk (aa.mk (Ld.mk (v:=ptr b.pt) (by exact .head _) rfl ?_)))
 refine ag.rd (.cons (.app .left)) (GN hO.ut hv) ?_
 rintro r ⟨l,h1,h2,rfl⟩
 exact Ext.mk rfl (Ext.mk rfl (bL.mk (.refl _) ⟨l,h1,h2,rfl⟩))
theorem Nk(h:At kp K S ord tr C)(hv:v<K.n):Rd Tryz.prog 93 #[ptr kp,.int .i64 (v:Int)] C (fun r=>∃w:Nat,r=.tuple #[.int .i64 (w:Int),.int .i64 0]):=by
 obtain⟨K',S',fu,h,hk⟩:=h
 exact(HB h.rep (by rw[hk.n];exact hv)).mono fun r H ⟨e,l,_,_,h3⟩=>⟨e,_,h3⟩
theorem PS{h:Value}{l:List It}{C:Hp}(hi:QI h l C):Rd Tryz.prog 184 #[h] C (· =.int .i64 ((l.length:Nat):Int)):=by
 obtain⟨f,⟨bh,sv,mv,Cs,Cm,rfl,rfl,hs,hm,hne⟩,_⟩:=hi
 intro g
 refine DY (R:=aE _) ?_
 unfold L184
 refine ae.aJ (Br.no ?_)
 refine Nil.ptr (aa.mk (Ld.mk (v:=sv) (by exact .head _) rfl ?_))
 refine hs.aS ?_
 rw[cN]
 exact bL.mk (.refl _) rfl
def sln:List Value→Nat
 | .slice _ n _::_=>n
 |_=>0
theorem KV(h:At kp K S ord tr C):Fc Tryz.prog 114 #[ptr kp] C (fun r H=>∃N l,H=N++C∧l.Perm (List.range K.n)∧aQ 3 .i64 r (iw l) N):=by
 have hn:=h.uH
 intro g
 refine EM (R:=aE _) ?_
 unfold L114
 refine ae.aJ (Br.no ?_)
 refine ag.fn .here (PN C) ?_
 rintro w H ⟨bh,C0,rfl,rfl,Mb⟩
 refine ag.rd (.app .here) (lj h) ?_
 rintro w rfl
 refine⟨fun vs H=>∃(i:Nat) (l:List It) (C':Hp),vs=[.int .i64 (i:Int)]∧i≤K.n∧H=C'++C∧QI (.pointer (some ⟨bh,0,none⟩)) l C'∧(l.map Prod.fst).Perm (iw (List.range i)),fun vs _=>K.n-bg vs 0,JE.mk ⟨0,[],C0,rfl,Nat.zero_le _,rfl,Mb,.refl _⟩,?_⟩
 rintro w H ⟨i,l,C',hv,hi,rfl,hh,hp⟩ gs
 simp only[List.cons.injEq,and_true]at hv
 subst hv
 have BB:l.length=i:=by have:=hp.length_eq;simpa[iw]using this
 refine ae.dL (Br.dec (fun hlt=>?_) (fun hge=>?_))
 ·refine ag.rd (.app .here) (Nk h hlt) ?_
  rintro r ⟨w,rfl⟩
  refine Ext.mk rfl (Ext.mk rfl ?_)
  refine⟨_,rfl,?_⟩
  refine ag.fn .left (LR hh (by omega) _ _) ?_
  rintro r C2 ⟨l2,WD,⟨hin,_⟩|⟨_,rfl,dM⟩⟩
  ·exfalso
   have:=hp.mem_iff.1 hin
   rw[Bf,List.mem_range]at this
   omega
  refine ae.aH (b:=1) (by simp[az];omega) ?_
  refine ay.mk ⟨i+1,l2,C2,rfl,hlt,rfl,WD,?_⟩ (by simp only[bg];omega)
  refine(dM.map _).trans ?_
  rw[List.map_cons,List.range_succ,bO]
  exact(List.Perm.cons _ hp).trans (List.perm_append_comm (l₁:=[((i:Nat):Int)]))
 obtain rfl:i=K.n:=by omega
 refine⟨fun vs H=>∃(s:Value) (done:List Nat) (l:List It) (CS C':Hp),vs=[s]∧H=CS++(C'++C)∧QI (.pointer (some ⟨bh,0,none⟩)) l C'∧aQ 3 .i64 s (iw done) CS∧(iw done++l.map Prod.fst).Perm (iw (List.range K.n)),fun vs _=>K.n-sln vs,JE.mk ⟨_,[],l,[],C',rfl,rfl,hh,aQ.nil,hp⟩,?_⟩
 clear hp hh BB
 rintro w H ⟨s,done,l,CS,C',hv,rfl,hh,hs,hp⟩ gs
 simp only[List.cons.injEq,and_true]at hv
 subst hv
 have hlen:done.length+l.length=K.n:=by have:=hp.length_eq;simpa[iw]using this
 refine ag.rd (.app .left) (PS hh) ?_
 rintro r rfl
 refine ae.lQ (b:=0) (Br.dec (fun hlt=>?_) (fun hge=>?_))
 ·refine ag.fn (.app .left) (PJ hh (by omega)) ?_
  rintro r C2 ⟨l2,WD,⟨rfl,_⟩|⟨a,dM,_,rfl⟩⟩
  ·simp at hlt
  have ha:a.1∈iw (List.range K.n):=hp.mem_iff.1 (List.mem_append_right _ (List.mem_map_of_mem (dM.mem_iff.2 (.head _))))
  obtain⟨x,hx,hxa⟩:=List.mem_map.1 ha
  refine Ext.mk rfl (Ext.mk rfl (Ext.mk rfl ?_))
  rw[←hxa]
  refine ax.int (e:=3) (by kernel_rfl) (by kernel_rfl) (by kernel_rfl) fun bx=>?_
  refine hs.mK (x:=(x:Int)) (.cons .left) (by exact .head _) (by rw[an];omega) (by rw[an];omega) fun s2 CS2 q5=>?_
  have kZ:(iw (done++[x])++l2.map Prod.fst).Perm (iw (List.range K.n)):=by
   refine .trans ?_ hp
   rw[bO,List.append_assoc]
   refine List.Perm.append_left _ ?_
   refine .trans ?_ (dM.map _).symm
   rw[List.map_cons,←hxa]
   exact .refl _
  have e1:∀{s:Value} {done:List Nat} {CS:Hp},aQ 3 .i64 s (iw done) CS→sln [s]=done.length:=fun{s done CS} h=>by
   obtain⟨a,c,h⟩:=aR.len h
   rw[h];simp[sln,iw]
  refine ay.of .tail ⟨s2,done++[x],l2,CS2,C2,rfl,rfl,WD,by rw[bO];exact q5,kZ⟩ ?_
  rw[e1 (done:=done++[x]) (by rw[bO];exact q5),e1 hs,List.length_append,List.length_singleton]
  have:=dM.length_eq
  rw[List.length_cons]at this
  omega
 ·have hl0:l=[]:=List.length_eq_zero_iff.1 (by omega)
  subst hl0
  rw[List.map_nil,List.append_nil]at hp
  obtain⟨l',hl',e⟩:=Fx hp
  rw[e]at hs
  exact aE.mk (aO.cJ .right CS) ⟨CS,l',rfl,hl',hs⟩
theorem KK(h:At kp K S ord tr C)(hp:ord.Perm (List.range K.n))(q7:100≤gr∧gr≤1000)(g7:tr.length<274877906944):
  Fc Tryz.prog 47 #[ptr kp,.int .i64 (gr:Int)] C (fun v H=>∃l,l.Perm (List.range K.n)∧v=.tuple #[rep (bW K S ord) (bW K S (aC ord ((rm K S).cS gr ord l).1)) ((rm K S).cS gr ord l).2,.int .i64 0]∧At kp K S (aC ord ((rm K S).cS gr ord l).1) (tr++((rm K S).cS gr ord l).1) H):=by
 have hn:=h.uH
 have LP:(rm K S).n=K.n:=rfl
 intro g
 refine I0 (R:=aE _) ?_
 unfold L47
 intro b1 _
 refine ag.rd (.cons .here) (sM kp (gr:=(gr:Int)) C) ?_
 rintro w rfl
 rw[if_neg (by omega)]
 refine ae.gj (Br.cq (by simp) ?_)
 refine ag.rd (.cons .here) (dF h) ?_
 rintro w rfl
 refine Build.mk (cs:=[.int .i64 ((bW K S ord:Nat):Int),.int .i64 0,.int .i64 0,.bool false]) (by kernel_rfl) ?_
 intro mI _
 refine St.whole (r:=[.int .i64 ((bW K S ord:Nat):Int),.int .i64 0,.int .i64 0,.bool false]) (by exact .head _) rfl rfl (by simp[Value.oneCell']) ?_
 refine ag.fn (.cons (.cons .here)) (KV h) ?_
 rintro s H ⟨NQ,l,rfl,hl,hQ⟩
 have BB:l.length=K.n:=by rw[hl.length_eq,List.length_range]
 refine hQ.aS ?_
 rw[an,BB]
 refine⟨fun vs H=>∃(i:Nat) (C':Hp),vs=[.int .i64 (i:Int)]∧i≤K.n∧H=(mI,.cells (List.toArray [.int .i64 ((bW K S ord:Nat):Int),.int .i64 0,.int .i64 ((((rm K S).cS gr ord (l.take i)).2:Nat):Int),.bool false]) 42 (0,0))::(b1,.cells #[.int .i64 0,.int .i64 0,.int .i64 0,.bool false] 42 (0,0))::(NQ++C')∧At kp K S (aC ord ((rm K S).cS gr ord (l.take i)).1) (tr++((rm K S).cS gr ord (l.take i)).1) C',
  fun vs _=>K.n-bg vs 0,JE.mk ⟨0,C,rfl,Nat.zero_le _,rfl,by simpa[Rm.cS,aC]using h⟩,?_⟩
 rintro w H ⟨i,C',hv,hi,rfl,hA⟩ gs
 simp only[List.cons.injEq,and_true]at hv
 subst hv
 have hok:=wQ (m:=rm K S) (g:=gr) (l:=l.take i) hp (fun v hv=>List.mem_range.1 (hl.mem_iff.1 (List.mem_of_mem_take hv)))
 have hlt:(l.take i).length≤64:=by rw[List.length_take];omega
 have h1:=hok.len
 have h2:=hok.KC
 have h3:(rm K S).n*(l.take i).length≤64*64:=Nat.mul_le_mul hn hlt
 have h4:3*((rm K S).n-1)*(l.take i).length≤(3*64)*64:=Nat.mul_le_mul (Nat.mul_le_mul_left _ (by rw[LP];omega)) hlt
 have YO:=oX hp hok.mem
 refine ae.dL (Br.dec (fun hlt=>?_) (fun hge=>?_))
 ·have BE:i<l.length:=by omega
  have lS:l.take (i+1)=l.take i++[l[i]]:=List.take_succ_eq_append_getElem BE
  refine hQ.ld (x:=((l[i]:Nat):Int)) (cy (List.getElem?_eq_getElem BE)) (fun _ h=>.tail _ (.tail _ (List.mem_append_left _ h))) ?_
  have hvn:l[i]<K.n:=List.mem_range.1 (hl.mem_iff.1 (List.getElem_mem BE))
  refine ag.fn (.cons (.cons (.app .here))) (OZ hA YO hvn q7 (by rw[List.length_append];omega) rfl) ?_
  rintro w C2 ⟨rfl,qv⟩
  have uK:=(rm K S).wR gr (ord:=aC ord ((rm K S).cS gr ord (l.take i)).1) (Bw YO hvn)
  have FM:=uK.KC
  rw[LP]at FM
  have YL:=vB (m:=rm K S) (g:=gr) (v:=l[i]) (l:=l.take i) (ord:=ord)
  rw[←lS]at YL
  rw[List.append_assoc,←iV]at qv
  refine Ext.mk rfl (Ext.mk rfl ?_)
  intro JL _
  refine St.whole (r:=[.int .i64 ((bW K S (aC ord ((rm K S).cS gr ord (l.take i)).1):Nat):Int),.int .i64 ((bW K S (aC (aC ord ((rm K S).cS gr ord (l.take i)).1) (road ((aC ord ((rm K S).cS gr ord (l.take i)).1).idxOf l[i]) ((rm K S).o6 gr (aC ord ((rm K S).cS gr ord (l.take i)).1) ((aC ord ((rm K S).cS gr ord (l.take i)).1).idxOf l[i])).1)):Nat):Int),.int .i64 ((((rm K S).o6 gr (aC ord ((rm K S).cS gr ord (l.take i)).1) ((aC ord ((rm K S).cS gr ord (l.take i)).1).idxOf l[i])).2:Nat):Int),.bool false]) (by exact .head _) rfl rfl (by simp[Value.oneCell']) ?_
  refine aa.mk (Ld.mk (by exact .tail _ (.head _)) rfl ?_)
  refine aa.mk (Ld.mk (by exact .head _) rfl ?_)
  refine ae.aH (by simp only[az];omega) ?_
  refine aa.mk (St.one (c':=List.toArray [.int .i64 ((bW K S ord:Nat):Int),.int .i64 0,.int .i64 ((((rm K S).cS gr ord (l.take (i+1))).2:Nat):Int),.bool false]) (by exact .tail (.head _)) rfl (by simp) (by rw[YL];rfl) ?_)
  refine ae.aH (b:=1) (by simp[az];omega) ?_
  exact ay.of .tail ⟨i+1,C2,rfl,hlt,rfl,by rw[YL];exact qv⟩ (by simp only[bg];omega)
 obtain rfl:i=K.n:=by omega
 rw[show l.take K.n=l from by rw[←BB];exact List.take_length]at hA⊢
 refine ag.rd (.cons (.cons (.app .here))) (dF hA) ?_
 rintro w rfl
 refine aa.mk (St.one (c':=List.toArray [.int .i64 ((bW K S ord:Nat):Int),.int .i64 ((bW K S (aC ord ((rm K S).cS gr ord l).1):Nat):Int),.int .i64 ((((rm K S).cS gr ord l).2:Nat):Int),.bool false]) (by exact .head _) rfl (by simp) rfl ?_)
 refine aA.whole (r:=[.int .i64 ((bW K S ord:Nat):Int),.int .i64 ((bW K S (aC ord ((rm K S).cS gr ord l).1):Nat):Int),.int .i64 ((((rm K S).cS gr ord l).2:Nat):Int),.bool false]) (by exact .head _) rfl ?_
 refine St.whole (r:=[.int .i64 ((bW K S ord:Nat):Int),.int .i64 ((bW K S (aC ord ((rm K S).cS gr ord l).1):Nat):Int),.int .i64 ((((rm K S).cS gr ord l).2:Nat):Int),.bool false]) (by exact .tail (.head _)) rfl rfl (by simp[Value.oneCell']) ?_
 refine aA.whole (r:=[.int .i64 ((bW K S ord:Nat):Int),.int .i64 ((bW K S (aC ord ((rm K S).cS gr ord l).1):Nat):Int),.int .i64 ((((rm K S).cS gr ord l).2:Nat):Int),.bool false]) (by exact .tail _ (.head _)) rfl ?_
 exact aE.mk (.skip (.skip .right)) ⟨l,hl,rfl,hA⟩
end
end Go.Proofs
set_option maxRecDepth 100000
namespace Go.Proofs
open Go Go.Sx
open bc
section
variable {kp mb Ay b1 b7 xN bn:Nat} {K:Kd} {S:Nat→bc.Fn} {ord av tr:List Nat} {C:Hp}
def kr(r:Nat):Value:=u32 r
theorem td(a b:Nat):Instr.sameNow (.int .u32) (kr a) (kr b)=some (decide (a=b)):=by
 simp only[Instr.sameNow,kr,u32,if_true,Option.some.injEq]
 rw[Bool.eq_iff_iff];simp;omega
theorem xf(a:Nat):Instr.sameBits 10000 (kr a) (kr a)=true:=by simp[Instr.sameBits,kr,u32]
structure Kn(n:Nat)(S:Nat→bc.Fn)(es:Array MapEntry)(ck:Nat)(m:List (Nat×Value))(Y:Hp):Prop where
 ru:bq kr (fun v x=>v=x) es ck m
 jB:∀r v,ed m r=some v→ir Y v n (S r)
 low:∀r,r<2→ed m r≠none
theorem Kn.mono{n:Nat}{S:Nat→bc.Fn}{es:Array MapEntry}{ck:Nat}{m:List (Nat×Value)}{Y Y':Hp}(h:Kn n S es ck m Y)(hs:∀x∈Y,x∈Y'):Kn n S es ck m Y':=⟨h.ru,fun r v hm=>(h.jB r v hm).mono hs,h.low⟩
theorem ir.one{B:Hp}{v:Value}{n:Nat}{f:bc.Fn}(h:ir B v n f):∃s,v=.agg #[.int .i64 (n:Int),s]∧s.oneCell'=true:=by
 obtain⟨ws,⟨s,rfl,hw⟩,_,_⟩:=h
 exact⟨s,rfl,aB hw⟩
theorem cT{n:Nat}{s:Value}(h:s.oneCell'=true):∀u∈[Value.int .i64 (n:Int),s],u.oneCell'=true:=fun u hu=>by
 simp only[List.mem_cons,List.not_mem_nil,or_false]at hu
 rcases hu with rfl|rfl
 ·rfl
 ·exact h
theorem qk(d:Nd):∀u∈aT d,u.oneCell'=true:=fun u hu=>by
 simp only[aT,List.mem_cons,List.not_mem_nil,or_false]at hu
 rcases hu with rfl|rfl|rfl<;>rfl
theorem M3{X:Hp}(h:lH kp K S ord av tr C){r:Nat}{d:Nd}(hd:K.N r=some d):Px Tryz.prog 217 #[ptr kp,u32 r] (X++C) (fun v _=>v=.agg (aT d).toArray):=by
 have hlt:=h.fJ (.inr ⟨d,hd⟩)
 intro g
 refine DA (R:=aE _) ?_
 unfold L217
 intro b1 _
 refine ag.rd (args:=#[ptr kp,u32 r]) (.cons (.app .here)) (tg h.rep (by omega)) ?_
 rintro v rfl
 rw[kj hd (h.ok.mid.two hd).1]
 refine Ext.mk rfl (Ext.mk rfl ?_)
 intro b7 _
 refine St.whole (r:=aT d) (by exact .head _) rfl rfl (qk d) ?_
 refine aA.whole (r:=aT d) (by exact .head _) rfl ?_
 refine St.whole (r:=aT d) (by exact .tail (.head _)) rfl rfl (qk d) ?_
 refine aA.whole (r:=aT d) (by exact .tail _ (.head _)) rfl ?_
 exact oG.mk (by repeat (first|exact aV.refl _|apply aV.cons|apply aV.app)) rfl
theorem M4{X:Hp}{v:Value}(h:lH kp K S ord av tr C){rs:List Nat}(hv:cE .u32 (X++C) v (iw rs))(hr:∀r∈rs,live K.N r)(hl:rs.length<4611686018427387904):Px Tryz.prog 150 #[ptr kp,v] (X++C) (fun w _=>w=.int .i64 0):=by
 intro g
 refine Ep (R:=aE _) ?_
 unfold L150
 refine ae.aJ (Br.no ?_)
 refine hv.aS ?_
 rw[an]
 refine⟨fun vs H=>∃(i:Nat) (N:Hp),vs=[.int .i64 (i:Int)]∧i≤rs.length∧H=N++(X++C),fun vs _=>rs.length-bg vs 0,JE.mk ⟨0,[],rfl,Nat.zero_le _,rfl⟩,?_⟩
 rintro w H ⟨i,N,hw,hi,rfl⟩ gs
 simp only[List.cons.injEq,and_true]at hw
 subst hw
 refine ae.dL (Br.dec (fun hlt=>?_) (fun hge=>?_))
 ·have xm:=hr _ (List.getElem_mem hlt)
  have dI:=h.fJ xm
  refine hv.ld (n:=((rs[i]:Nat):Int)) (cy (List.getElem?_eq_getElem hlt)) (fun _ h=>List.mem_append_right _ h) ?_
  refine ag.rd (args:=#[ptr kp,u32 rs[i]]) (.app (.app .here)) (tg h.rep (by omega)) ?_
  rintro v rfl
  rw[if_pos (cR.2 xm)]
  refine Ext.mk rfl (Ext.mk rfl ?_)
  intro pR _
  refine St.whole (r:=got K.N rs[i]) (by exact .head _) rfl (dB _ _).1 (dB _ _).2 ?_
  refine ae.gj (Br.cq (by simp) ?_)
  refine ae.aH (b:=1) (by simp[az];omega) ?_
  exact ay.mk ⟨i+1,_::N,rfl,hlt,rfl⟩ (by simp only[bg];omega)
 ·exact oG.mk (by repeat (first|exact aV.refl _|apply aV.cons|apply aV.app)) rfl
theorem MM{X:Hp}{n:Nat}(hn:n≤16){d:Nd}(hd:d.v<n){v1 v2:Value}{f1 f2:bc.Fn}(h1:ir X v1 n f1)(h2:ir X v2 n f2)(hm:(bn,Obj.cells #[.int .i64 (n:Int)] 3 (0,0))∈X):
  Px Tryz.prog 152 #[.agg (aT d).toArray,v1,v2,ptr bn] X (fun w H=>ir H w n (fun x=>if x.testBit d.v then f2 x else f1 x)):=by
 obtain⟨s1,rfl,o1⟩:=h1.one
 obtain⟨s2,rfl,o2⟩:=h2.one
 intro g
 refine En (R:=aE _) ?_
 unfold L152
 intro c1 _ c3 _ c5 _ c7 _
 refine Ld.mk (v:=.int .i64 (n:Int)) (by exact .tail _ (.tail _ (.tail _ (.tail _ hm)))) rfl ?_
 refine aa.mk (Ld.mk (v:=.int .i64 (d.v:Int)) (by exact .tail _ (.tail _ (.tail _ (.head _)))) rfl ?_)
 refine ag.px (cz.left (C:=[]) (A:=_)) (OO hn hd []) ?_
 rintro w N ⟨t,rfl,ht⟩
 rw[List.append_nil]at ht⊢
 obtain⟨s3,rfl,o3⟩:=ht.one
 refine Ext.mk rfl (Ext.mk rfl ?_)
 intro RV _
 refine St.whole (r:=[.int .i64 (n:Int),s3]) (by exact .head _) rfl rfl (cT o3) ?_
 refine aA.whole (r:=[.int .i64 (n:Int),s3]) (by exact .head _) rfl ?_
 refine aA.whole (r:=[.int .i64 (n:Int),s2]) (by exact .tail _ (List.mem_append_right _ (.tail _ (.head _)))) rfl ?_
 refine aA.whole (r:=[.int .i64 (n:Int),s1]) (by exact .tail _ (List.mem_append_right _ (.tail _ (.tail _ (.head _))))) rfl ?_
 refine ag.pre (.perm (.cons _ (List.perm_middle.trans (.cons _ (List.perm_middle.trans (.cons _ (List.perm_middle.trans (.cons _ List.perm_middle)))))))) ?_
 refine ag.px (.cons (.cons (.cons (.cons (.cons .here))))) (OR (B:=N++X) (ht.mono fun _ h=>List.mem_append_left _ h) (h2.mono fun _ h=>List.mem_append_right _ h) (h1.mono fun _ h=>List.mem_append_right _ h)) ?_
 rintro w N2 ⟨t4,rfl,ht4⟩
 obtain⟨s4,rfl,o4⟩:=ht4.one
 refine Ext.mk rfl (Ext.mk rfl ?_)
 intro c26 _
 refine St.whole (r:=[.int .i64 (n:Int),s4]) (by exact .head _) rfl rfl (cT o4) ?_
 refine aA.whole (r:=[.int .i64 (n:Int),s4]) (by exact .head _) rfl ?_
 refine St.whole (r:=[.int .i64 (n:Int),s4]) (by exact .tail (.tail (.head _))) rfl rfl (cT o4) ?_
 refine aA.whole (r:=[.int .i64 (n:Int),s4]) (by exact .tail _ (.tail _ (.head _))) rfl ?_
 refine oG.mk (by repeat (first|exact aV.refl _|apply aV.cons|apply aV.app)) (ht4.mono ?_)
 intro x hx
 repeat (first|exact hx|apply List.mem_cons_of_mem)
theorem XH(h:lH kp K S ord av tr C)(hn:K.n≤16){Z0:Hp}(h19:(Ay,Obj.cells #[.map (some mb)] 295 (0,0))∈Z0)(h1:(b1,Obj.cells #[ptr kp] 26 (0,0))∈Z0)(h7:(b7,Obj.cells #[.func (.func 152) #[] #[ptr bn]] 221 (0,0))∈Z0)
 (h22:(xN,Obj.cells #[.func (.func 216) #[] #[ptr Ay,ptr b1,ptr b7,ptr xN]] 296 (0,0))∈Z0)(U0:(bn,Obj.cells #[.int .i64 (K.n:Int)] 3 (0,0))∈Z0):
  ∀(k r:Nat) (es:Array MapEntry) (ck:Nat) (m:List (Nat×Value)) (Z:Hp),K.n-dep K.n (lv av) K.N r≤k→live K.N r→(∀x∈Z0,x∈Z)→Kn K.n S es ck m Z→
  Fc Tryz.prog 216 #[u32 r,ptr Ay,ptr b1,ptr b7,ptr xN] ((mb,.map es ck)::(Z++C)) (fun v H=>∃es' eN m' N,H=(mb,.map es' eN)::(N++(Z++C))∧Kn K.n S es' eN m' (N++Z)∧ir (N++Z) v K.n (S r)):=by
 have hit:∀{r:Nat} {es:Array MapEntry} {ck:Nat} {m:List (Nat×Value)} {Z:Hp} {v:Value},(∀x∈Z0,x∈Z)→Kn K.n S es ck m Z→ed m r=some v→
   Fc Tryz.prog 216 #[u32 r,ptr Ay,ptr b1,ptr b7,ptr xN] ((mb,.map es ck)::(Z++C)) (fun v H=>∃es' eN m' N,H=(mb,.map es' eN)::(N++(Z++C))∧Kn K.n S es' eN m' (N++Z)∧ir (N++Z) v K.n (S r)):=by
  intro r es ck m Z v hZ hm hv g
  obtain⟨s,rfl,hs⟩:=(hm.jB r v hv).one
  refine um (R:=aE _) ?_
  unfold L216
  intro c1 _
  refine Ld.mk (v:=.map (some mb)) (by exact .tail _ (.tail _ (List.mem_append_left _ (hZ _ h19)))) rfl ?_
  refine hm.ru.hit (k:=r) td (b:=mb) (by exact .tail _ (.head _)) hv fun v' e=>?_
  subst e
  refine Ext.mk rfl (Ext.mk rfl ?_)
  intro c7 _
  refine St.whole (r:=[.int .i64 (K.n:Int),s]) (by exact .head _) rfl rfl (cT hs) ?_
  refine Br.yes ?_
  refine aA.whole (r:=[.int .i64 (K.n:Int),s]) (by exact .head _) rfl ?_
  refine St.whole (r:=[.int .i64 (K.n:Int),s]) (by exact .tail (.head _)) rfl rfl (cT hs) ?_
  refine aA.whole (r:=[.int .i64 (K.n:Int),s]) (by exact .tail _ (.head _)) rfl ?_
  exact aE.mk (.skip .tail) ⟨es,ck,m,[],rfl,hm,hm.jB r _ hv⟩
 intro k
 induction k with
 |zero=>
  intro r es ck m Z hk hr hZ hm
  have nE:r<2:=by
   cases hN:K.N r with
   |some d=>
    have:=h.ok.wf.iq h.ok.lv r
    rw[aM hN]at hk
    have:=h.ok.lv.lt _ (h.ok.mid.var hN);omega
   |none=>
    rcases hr with hr|⟨d,e⟩
    ·exact hr
    ·rw[hN]at e;cases e
  cases hv:ed m r with
  |none=>exact absurd hv (hm.low r nE)
  |some v=>exact hit hZ hm hv
 |succ k ih=>
  intro r es ck m Z hk hr hZ hm
  cases hv:ed m r with
  |some v=>exact hit hZ hm hv
  |none=>
  have nE:¬r<2:=fun h2=>hm.low r h2 hv
  obtain⟨d,hN⟩:∃d,K.N r=some d:=by
   rcases hr with hr|hr
   ·omega
   ·exact hr
  have BL:=h.ok.mid.var hN
  have hlo:=h.ok.wf.lo hN
  have hhi:=h.ok.wf.hi hN
  have hdl:=h.ok.wf.iq h.ok.lv r
  rw[aM hN]at hk
  have hvl:=h.ok.lv.lt _ BL
  have W5:S r=fun x=>if x.testBit d.v then S d.hi x else S d.lo x:=funext fun x=>h.ok.mid.int.node hN x
  intro g
  refine um (R:=aE _) ?_
  unfold L216
  intro c1 _
  refine Ld.mk (v:=.map (some mb)) (by exact .tail _ (.tail _ (List.mem_append_left _ (hZ _ h19)))) rfl ?_
  refine hm.ru.ca (k:=r) td (b:=mb) (by exact .tail _ (.head _)) hv ?_
  refine Ext.mk rfl (Ext.mk rfl ?_)
  intro c7 _
  refine St.whole (r:=[.int .i64 0,.slice none 0 0]) (by exact .head _) rfl rfl (by simp[Value.oneCell']) ?_
  refine Br.no ?_
  refine Ld.mk (v:=ptr kp) (by exact .tail _ (.tail _ (.tail _ (List.mem_append_left _ (hZ _ h1))))) rfl ?_
  refine ag.px (args:=#[ptr kp,u32 r]) (.cons (.cons (.cons .here))) (M3 (X:=Z) h hN) ?_
  rintro w N0 rfl
  intro RV _
  refine St.whole (r:=aT d) (by exact .head _) rfl rfl (qk d) ?_
  obtain⟨Z1,WY⟩:∃Z1,Z1=(RV,Obj.cells (aT d).toArray 161 (0,0))::(N0++Z):=⟨_,rfl⟩
  have Mv:∀x∈Z,x∈Z1:=fun x hx=>by rw[WY];exact .tail _ (List.mem_append_right _ hx)
  have Me:aO (Z1++C) ((RV,Obj.cells (aT d).toArray 161 (0,0))::Z):=by rw[WY];exact aO.left.trans (.cons .right)
  have uY:((RV,Obj.cells (aT d).toArray 161 (0,0))::(c7,.cells (List.toArray [.int .i64 0,.slice none 0 0]) 57 (0,0))::(c1,.cells #[.int .i64 0,.slice none 0 0] 57 (0,0))::(mb,Obj.map es ck)::(N0++(Z++C))).Perm
    ((c1,.cells #[.int .i64 0,.slice none 0 0] 57 (0,0))::(c7,.cells (List.toArray [.int .i64 0,.slice none 0 0]) 57 (0,0))::(mb,Obj.map es ck)::(Z1++C)):=by
   rw[WY,List.cons_append,List.append_assoc]
   refine(List.Perm.swap _ _ _).trans ?_
   refine(List.Perm.cons _ (List.Perm.swap _ _ _)).trans ?_
   refine(List.Perm.swap _ _ _).trans (.cons _ (.cons _ (.swap _ _ _)))
  have hR0:aO ((RV,Obj.cells (aT d).toArray 161 (0,0))::(c7,.cells (List.toArray [.int .i64 0,.slice none 0 0]) 57 (0,0))::(c1,.cells #[.int .i64 0,.slice none 0 0] 57 (0,0))::(mb,Obj.map es ck)::(N0++(Z++C))) ((RV,Obj.cells (aT d).toArray 161 (0,0))::Z):=
   .cons (.skip (.skip (.skip (.bQ .left))))
  refine DR.of hR0 ?_
  refine Ld.mk (v:=.func (.func 152) #[] #[ptr bn]) (by exact .tail _ (hZ _ h7)) rfl ?_
  refine aA.whole (r:=aT d) (by exact .head _) rfl ?_
  refine Ld.mk (v:=.func (.func 216) #[] #[ptr Ay,ptr b1,ptr b7,ptr xN]) (by exact .tail _ (hZ _ h22)) rfl ?_
  refine aa.mk (Ld.mk (v:=u32 d.lo) (by exact .head _) rfl ?_)
  refine Ld.mk (v:=.func (.func 216) #[] #[ptr Ay,ptr b1,ptr b7,ptr xN]) (by exact .tail _ (hZ _ h22)) rfl ?_
  refine aa.mk (Ld.mk (v:=u32 d.hi) (by exact .head _) rfl ?_)
  intro F
  refine fm.of rfl (by kernel_rfl) ?_
  refine ag.pre (.perm uY) ?_
  refine ag.fn (args:=#[u32 d.lo,ptr Ay,ptr b1,ptr b7,ptr xN]) (.cons (.cons .here)) (ih d.lo es ck m Z1 (by omega) hlo.1 (fun x hx=>Mv _ (hZ x hx)) (hm.mono Mv)) ?_
  rintro v1 H ⟨rq,pQ,m1,N1,rfl,FN,UK⟩
  refine⟨.skip (.skip (.skip (.bQ Me))),?_⟩
  rw[←List.append_assoc]
  intro F
  refine fm.of rfl (by kernel_rfl) ?_
  refine ag.fn (args:=#[u32 d.hi,ptr Ay,ptr b1,ptr b7,ptr xN]) (.cons (.cons .here)) (ih d.hi rq pQ m1 (N1++Z1) (by omega) hhi.1 (fun x hx=>List.mem_append_right _ (Mv _ (hZ x hx))) FN) ?_
  rintro v2 H ⟨p5,rz,m2,N2,rfl,vQ,Rh⟩
  refine⟨.skip (.skip (.skip (.bQ (aO.assoc.trans (.bQ Me))))),?_⟩
  rw[←List.append_assoc]
  intro F
  refine fm.of rfl (by kernel_rfl) ?_
  refine ag.px (args:=#[.agg (aT d).toArray,v1,v2,ptr bn]) (.cons (.cons (.cons .left))) (MM (bn:=bn) hn BL (UK.mono fun _ h=>List.mem_append_right _ h) Rh (List.mem_append_right _ (List.mem_append_right _ (Mv _ (hZ _ U0))))) ?_
  intro v3 N3 Tt
  rw[←W5]at Tt
  refine⟨.skip (.skip (.skip (aO.assoc.trans (.bQ (aO.assoc.trans (.bQ (aO.assoc.trans (.bQ Me)))))))),?_⟩
  obtain⟨s3,rfl,o3⟩:=Tt.one
  intro c37 _
  intro F
  refine St.whole (r:=[.int .i64 (K.n:Int),s3]) (by exact .head _) rfl rfl (cT o3) ?_
  refine Ld.mk (v:=.map (some mb)) (by exact .tail _ (.tail _ (.tail _ (.tail _ (List.mem_append_left _ (List.mem_append_right _ (List.mem_append_right _ (List.mem_append_right _ (Mv _ (hZ _ h19)))))))))) rfl ?_
  refine aA.whole (r:=[.int .i64 (K.n:Int),s3]) (by exact .head _) rfl ?_
  refine vQ.ru.ct (k:=r) (b:=mb) (x:=.agg #[.int .i64 (K.n:Int),s3]) td xf rfl fun U9 Va he=>⟨_,.tail (.tail (.tail (.head _))),?_⟩
  refine aA.whole (r:=[.int .i64 (K.n:Int),s3]) (by exact .head _) rfl ?_
  refine St.whole (r:=[.int .i64 (K.n:Int),s3]) (by exact .tail (.head _)) rfl rfl (cT o3) ?_
  refine aA.whole (r:=[.int .i64 (K.n:Int),s3]) (by exact .tail _ (.head _)) rfl ?_
  have hmem:∀x∈N3++(N2++(N1++Z1)),x∈(N3++(N2++(N1++((RV,Obj.cells (aT d).toArray 161 (0,0))::N0))))++Z:=fun x hx=>by
   rw[WY]at hx
   simpa only[List.append_assoc,List.cons_append]using hx
  refine aE.mk (.skip (.skip .tail)) ⟨U9,Va,gP m2 r (.agg #[.int .i64 (K.n:Int),s3]),N3++(N2++(N1++((RV,Obj.cells (aT d).toArray 161 (0,0))::N0))),by rw[WY];simp only[List.append_assoc,List.cons_append],⟨he,fun r' v' xj=>?_,fun r' hr'=>?_⟩,Tt.mono hmem⟩
  ·rw[fZ]at xj
   split at xj
   ·rename_i e
    subst e
    cases xj
    exact Tt.mono hmem
   ·exact(vQ.jB r' v' xj).mono fun x hx=>hmem x (List.mem_append_right _ hx)
  ·rw[fZ]
   split
   ·simp
   ·exact vQ.low r' hr'
end
section
variable {kp bn:Nat} {K:Kd} {S:Nat→bc.Fn} {ord av tr:List Nat} {C:Hp}
theorem Qn(h:lH kp K S ord av tr C)(hn:K.n≤16){r:Nat}(hr:live K.N r){X:Hp}{v0 v1:Value}(hv0:ir X v0 K.n (fun _=>false))(As:ir X v1 K.n (fun _=>true))(U0:(bn,Obj.cells #[.int .i64 (K.n:Int)] 3 (0,0))∈X):
  Fc Tryz.prog 151 #[ptr kp,u32 r,v0,v1,.func (.func 152) #[] #[ptr bn]] (X++C) (fun v H=>∃N,H=N++(X++C)∧ir (N++X) v K.n (S r)):=by
 obtain⟨s0,rfl,o0⟩:=hv0.one
 obtain⟨s1,rfl,o1⟩:=As.one
 have hi:=h.ok.mid.int
 intro g
 refine Eo (R:=aE _) ?_
 unfold L151
 intro b1 _ b3 _ b5 _ b7 _ b9 _ mb _
 refine aA.whole (r:=[.int .i64 (K.n:Int),s0]) (by exact .tail _ (.tail _ (.tail _ (.tail _ (.head _))))) rfl ?_
 refine bq.ct (ke:=kr) (vr:=fun v x=>v=x) (k:=0) (b:=mb) (x:=Value.agg #[.int .i64 (K.n:Int),s0]) td xf bq.empty rfl fun rq pQ UY=>⟨_,.head _,?_⟩
 refine aA.whole (r:=[.int .i64 (K.n:Int),s1]) (by exact .tail _ (.tail _ (.tail _ (.head _)))) rfl ?_
 refine bq.ct (ke:=kr) (vr:=fun v x=>v=x) (k:=1) (b:=mb) (x:=Value.agg #[.int .i64 (K.n:Int),s1]) td xf UY rfl fun p5 rz UX=>⟨_,.head _,?_⟩
 intro Ay _
 refine St.one (c':=#[.map (some mb)]) (by exact .head _) rfl (by simp) rfl ?_
 intro xN _
 refine St.one (c':=#[.func (.func 216) #[] #[ptr Ay,ptr b1,ptr b7,ptr xN]]) (by exact .head _) rfl (by simp) rfl ?_
 refine Ld.mk (v:=.func (.func 216) #[] #[ptr Ay,ptr b1,ptr b7,ptr xN]) (by exact .head _) rfl ?_
 refine fm.of rfl (by kernel_rfl) ?_
 obtain⟨Z0,RM⟩:∃Z0:Hp,Z0=(xN,Obj.cells #[.func (.func 216) #[] #[ptr Ay,ptr b1,ptr b7,ptr xN]] 296 (0,0))::(Ay,.cells #[.map (some mb)] 295 (0,0))::(b7,.cells #[.func (.func 152) #[] #[ptr bn]] 221 (0,0))::(b5,.cells (Value.cells (.agg #[.int .i64 (K.n:Int),s1])) 57 (0,0))::(b3,.cells (Value.cells (.agg #[.int .i64 (K.n:Int),s0])) 57 (0,0))::(b1,.cells #[ptr kp] 26 (0,0))::X:=⟨_,rfl⟩
 have hXZ:∀x∈X,x∈Z0:=fun x hx=>by rw[RM];exact .tail _ (.tail _ (.tail _ (.tail _ (.tail _ (.tail _ hx)))))
 refine ag.pre (H':=(b9,Obj.cells #[.int .i64 0,.slice none 0 0] 57 (0,0))::(mb,Obj.map p5 rz)::(Z0++C)) (.perm ?_) ?_
 ·rw[RM]
  simp only[List.cons_append]
  refine(List.Perm.cons _ (List.Perm.cons _ (List.Perm.swap _ _ _))).trans ?_
  refine(List.Perm.cons _ (List.Perm.swap _ _ _)).trans ?_
  refine(List.Perm.swap _ _ _).trans (.cons _ ?_)
  refine(List.Perm.cons _ (List.Perm.swap _ _ _)).trans ?_
  exact List.Perm.swap _ _ _
 refine ag.fn (args:=#[u32 r,ptr Ay,ptr b1,ptr b7,ptr xN]) (.cons .here) (XH (Z0:=Z0) (bn:=bn) h hn (by rw[RM];exact .tail _ (.head _)) (by rw[RM];exact .tail _ (.tail _ (.tail _ (.tail _ (.tail _ (.head _)))))) (by rw[RM];exact .tail _ (.tail _ (.head _))) (by rw[RM];exact .head _) (hXZ _ U0) K.n r p5 rz _ Z0 (Nat.sub_le _ _) hr (fun _ h=>h) ⟨UX,fun r v hm=>?_,fun r hr=>?_⟩) ?_
 ·rw[fZ,fZ]at hm
  split at hm
  ·rename_i e;subst e;cases hm
   have:=As.mono hXZ
   rwa [show(fun _=>true)=S 1 from funext fun x=>(hi.one x).symm]at this
  split at hm
  ·rename_i e;subst e;cases hm
   have:=hv0.mono hXZ
   rwa [show(fun _=>false)=S 0 from funext fun x=>(hi.zero x).symm]at this
  ·simp[ed]at hm
 ·rw[fZ,fZ]
  have:r=0∨r=1:=by omega
  rcases this with rfl|rfl<;>simp
 rintro v H ⟨U9,Va,m3,N,rfl,_,ht⟩
 obtain⟨s3,rfl,o3⟩:=ht.one
 refine St.whole (r:=[.int .i64 (K.n:Int),s3]) (by exact .head _) rfl rfl (cT o3) ?_
 refine aA.whole (r:=[.int .i64 (K.n:Int),s3]) (by exact .head _) rfl ?_
 refine aE.mk (.skip .tail) ⟨N++[(xN,Obj.cells #[.func (.func 216) #[] #[ptr Ay,ptr b1,ptr b7,ptr xN]] 296 (0,0)),(Ay,.cells #[.map (some mb)] 295 (0,0)),(b7,.cells #[.func (.func 152) #[] #[ptr bn]] 221 (0,0)),(b5,.cells (Value.cells (.agg #[.int .i64 (K.n:Int),s1])) 57 (0,0)),(b3,.cells (Value.cells (.agg #[.int .i64 (K.n:Int),s0])) 57 (0,0)),(b1,.cells #[ptr kp] 26 (0,0))],by rw[RM];simp,ht.mono fun x hx=>?_⟩
 rw[RM]at hx
 simpa using hx
theorem Il(h:lH kp K S ord av tr C)(hn:K.n≤16){r:Nat}(hr:live K.N r):
  Fc Tryz.prog 71 #[ptr kp,u32 r] C (fun v H=>∃N t,H=N++C∧v=.tuple #[t,.int .i64 0]∧ir N t K.n (S r)):=by
 intro g
 refine IM (R:=aE _) ?_
 unfold L71
 intro b1 _
 refine ax.int (e:=77) (by kernel_rfl) (by kernel_rfl) (by kernel_rfl) fun bx=>?_
 refine ag.px .here (M4 (X:=[(bx,_),(b1,_)]) (rs:=[r]) h (cE.block (by exact .head _) (by simp)) (fun x hx=>by rw[List.mem_singleton.1 hx];exact hr) (by simp)) ?_
 rintro w N0 rfl
 refine ae.gj (Br.cq (by simp) ?_)
 refine ag.rd (.app (.cons (.cons .here))) (y5 h.rep) ?_
 rintro w rfl
 intro Qx _
 refine St.one (c':=#[.int .i64 (K.n:Int)]) (by exact .head _) rfl (by simp) rfl ?_
 refine Ld.mk (v:=.int .i64 (K.n:Int)) (by exact .head _) rfl ?_
 refine ae.lQ (b:=16) (Br.cq (by omega) ?_)
 refine Ld.mk (v:=.int .i64 (K.n:Int)) (by exact .head _) rfl ?_
 refine ag.px (cz.left (C:=[]) (A:=_)) (vw hn false []) ?_
 rintro w N1 ⟨t0,rfl,PF⟩
 rw[List.append_nil]at PF⊢
 obtain⟨s0,rfl,o0⟩:=PF.one
 refine Ext.mk rfl (Ext.mk rfl ?_)
 intro sb _
 refine St.whole (r:=[.int .i64 (K.n:Int),s0]) (by exact .head _) rfl rfl (cT o0) ?_
 refine Ld.mk (v:=.int .i64 (K.n:Int)) (by exact .tail _ (List.mem_append_right _ (.head _))) rfl ?_
 refine ag.px (cz.left (C:=[]) (A:=_)) (vw hn true []) ?_
 rintro w N2 ⟨t1,rfl,UK⟩
 rw[List.append_nil]at UK⊢
 obtain⟨s1,rfl,o1⟩:=UK.one
 refine Ext.mk rfl (Ext.mk rfl ?_)
 intro XF _
 refine St.whole (r:=[.int .i64 (K.n:Int),s1]) (by exact .head _) rfl rfl (cT o1) ?_
 refine aA.whole (r:=[.int .i64 (K.n:Int),s0]) (by exact .tail _ (List.mem_append_right _ (.head _))) rfl ?_
 refine aA.whole (r:=[.int .i64 (K.n:Int),s1]) (by exact .head _) rfl ?_
 obtain⟨X,hX⟩:∃X:Hp,X=(XF,Obj.cells (List.toArray [.int .i64 (K.n:Int),s1]) 57 (0,0))::(N2++((sb,Obj.cells (List.toArray [.int .i64 (K.n:Int),s0]) 57 (0,0))::(N1++((Qx,Obj.cells #[.int .i64 (K.n:Int)] 3 (0,0))::(N0++[(bx,Obj.cells (aF .u32 [(r:Int)]) 77 (0,0))]))))):=⟨_,rfl⟩
 refine ag.pre (H':=(b1,Obj.cells #[.int .i64 0,.slice none 0 0] 57 (0,0))::(X++C)) (.perm ?_) ?_
 ·rw[hX]
  have:=List.perm_middle (a:=(b1,Obj.cells #[Value.int .i64 0,.slice none 0 0] 57 (0,0))) (l₂:=C) (l₁:=(XF,Obj.cells (List.toArray [Value.int .i64 (K.n:Int),s1]) 57 (0,0))::(N2++((sb,Obj.cells (List.toArray [Value.int .i64 (K.n:Int),s0]) 57 (0,0))::(N1++((Qx,Obj.cells #[Value.int .i64 (K.n:Int)] 3 (0,0))::(N0++[(bx,Obj.cells (aF .u32 [(r:Int)]) 77 (0,0))]))))))
  simpa only[List.cons_append,List.append_assoc,List.nil_append]using this
 refine ag.fn (.cons .here) (Qn (X:=X) (bn:=Qx) h hn hr (PF.mono fun x hx=>?_) (UK.mono fun x hx=>?_) ?_) ?_
 ·rw[hX];exact .tail _ (List.mem_append_right _ (.tail _ (List.mem_append_left _ hx)))
 ·rw[hX];exact .tail _ (List.mem_append_left _ hx)
 ·rw[hX];exact .tail _ (List.mem_append_right _ (.tail _ (List.mem_append_right _ (.head _))))
 rintro v H ⟨N,rfl,ht⟩
 obtain⟨s3,rfl,o3⟩:=ht.one
 refine St.whole (r:=[.int .i64 (K.n:Int),s3]) (by exact .head _) rfl rfl (cT o3) ?_
 refine aA.whole (r:=[.int .i64 (K.n:Int),s3]) (by exact .head _) rfl ?_
 exact aE.mk .tail ⟨N++X,_,by rw[List.append_assoc],rfl,ht⟩
def rts(K:Kd):List Nat:=(List.range K.ho.length).filter fun r=>decide (0<K.hold r)
theorem G3(h:lH kp K S ord av tr C):Fc Tryz.prog 70 #[ptr kp] C (fun r H=>∃N,H=N++C∧aQ 77 .u32 r (iw (rts K)) N):=by
 obtain⟨b,hC,hO⟩:=h.rep
 have hcap:=h.ok.mid.cap
 have hle:=h.jG
 have hfit:K.ho.length≤1048576:=by
  have:=hO.ul
  omega
 intro g
 refine wB (R:=aE _) ?_
 unfold L70
 refine ae.aJ (Br.no ?_)
 have LM:∀z∈b.CH,z∈C:=by rw[hC];exact cz.sub (.cons (.app (.app (.app .left))))
 refine Nil.ptr (aa.mk (aa.mk (Ld.mk (v:=b.vh) (by rw[hC];exact .head _) rfl ?_)))
 refine hO.ho.aS ?_
 rw[an]
 let rk:Nat→List Nat:=fun k=>(List.range k).filter fun r=>decide (0<K.hold r)
 refine⟨fun vs H=>∃(k:Nat) (w:Value) (N:Hp),vs=[w,.int .i64 (k:Int)]∧k≤K.ho.length∧H=N++C∧aQ 77 .u32 w (iw (rk k)) N,fun vs _=>K.ho.length-bg vs 1,JE.mk ⟨0,_,[],rfl,Nat.zero_le _,rfl,aQ.nil⟩,?_⟩
 rintro lB eP H ⟨k,w,N,hv,hk,rfl,hN⟩ gs
 simp only[List.cons.injEq,and_true]at hv
 obtain⟨rfl,rfl⟩:=hv
 refine ae.dL (Br.dec (fun hlt=>?_) (fun hlt=>?_))
 ·intro J hJ
  have fin:∀w' N',aQ 77 .u32 w' (iw (rk (k+1))) N'→J [w'] (N'++C):=fun w' N' h'=>hJ _ _ fun gs=>by
   refine ae.aH (b:=1) (by simp[az];omega) ?_
   exact ay.of (.refl _) ⟨k+1,w',N',rfl,hlt,rfl,h'⟩ (by simp only[bg];omega)
  have e:rk (k+1)=rk k++if 0<K.hold k then [k]else []:=by
   show(List.range (k+1)).filter _=_
   rw[List.range_succ,List.filter_append]
   congr 1
   by_cases hp:0<K.hold k<;>simp[hp]
  refine hO.ho.ld (x:=((K.hold k:Nat):Int)) (bE hlt) (fun z hz=>List.mem_append_right _ (LM z hz)) ?_
  refine ae.lQ (b:=0) (Br.dec (fun hp=>?_) (fun hp=>?_))
  ·rw[e,if_pos hp]at fin
   refine bI.nat (by simp[az];omega) ?_
   have uL:(rk k).length≤k:=by
    have:=List.length_filter_le (fun r=>decide (0<K.hold r)) (List.range k)
    rwa [List.length_range]at this
   refine ax.int (e:=77) (by kernel_rfl) (by kernel_rfl) (by kernel_rfl) fun bx=>?_
   refine hN.mK (.cons .left) (by exact .head _) (by rw[an];omega) (by rw[an];omega) fun v' N' bT=>?_
   rw[bO]at fin
   exact JE.of .tail (fin v' N' bT)
  ·rw[e,if_neg hp,List.append_nil]at fin
   exact JE.mk (fin lB N hN)
 ·obtain rfl:k=K.ho.length:=by omega
  exact aE.here ⟨N,rfl,hN⟩
end
end Go.Proofs
namespace aj
open Go.Sx
def Im(c:Nat→Nat→Nat):Nat→List Nat→Nat
 |_,[]=>0
 |a,v::o=>c a v+Im c (aI a v true) o
def n7(a:Nat)(o:List Nat):Nat:=o.foldl (fun a v=>aI a v true) a
theorem yA(a:Nat)(o o':List Nat):n7 a (o++o')=n7 (n7 a o) o':=List.foldl_append ..
theorem tQ(c:Nat→Nat→Nat):∀(o o':List Nat) (a:Nat),Im c a (o++o')=Im c a o+Im c (n7 a o) o'
 | [],o',a=>by simp[Im,n7]
 |v::o,o',a=>by rw[List.cons_append,Im,tQ c o o',Im,Nat.add_assoc];rfl
theorem oU:∀(o:List Nat) (a u:Nat),(n7 a o).testBit u=(a.testBit u||decide (u∈o))
 | [],a,u=>by simp[n7]
 |v::o,a,u=>by
  show(n7 (aI a v true) o).testBit u=_
  rw[oU o,aq]
  by_cases e:u=v
  ·simp[e]
  ·simp[e]
structure lI(n a:Nat)(o:List Nat):Prop where
 nd:o.Nodup
 mem:∀v,v∈o↔v∈ca n a
variable {n:Nat} {c:Nat→Nat→Nat}
theorem lI.nil{a:Nat}(h:lI n a []):ca n a=[]:=List.eq_nil_iff_forall_not_mem.2 fun v hv=>by simpa using(h.mem v).2 hv
theorem lI.tail{a v:Nat}{o:List Nat}(h:lI n a (v::o)):v∈ca n a∧lI n (aI a v true) o:=by
 have h1:=List.nodup_cons.1 h.nd
 refine⟨(h.mem v).1 (by simp),h1.2,fun u=>?_⟩
 rw[cL,aq]
 have hu:=h.mem u
 rw[cL,List.mem_cons]at hu
 by_cases e:u=v
 ·subst e;simp[h1.1]
 ·simp only[e,false_or,if_false]at hu⊢;exact hu
theorem lI.cons{a v:Nat}{o:List Nat}(hv:v∈ca n a)(h:lI n (aI a v true) o):lI n a (v::o):=by
 have hm:=h.mem
 refine⟨List.nodup_cons.2 ⟨fun hx=>?_,h.nd⟩,fun u=>?_⟩
 ·have:=(hm v).1 hx
  rw[cL,aq,if_pos rfl]at this
  exact absurd this.2 (by simp)
 ·rw[List.mem_cons,hm,cL,cL,aq]
  rw[cL]at hv
  by_cases e:u=v
  ·subst e;simp[hv]
  ·simp[e]
theorem Ag:∀(o:List Nat) (a:Nat),lI n a o→B n c a≤Im c a o
 | [],a,h=>by rw[Gw h.nil];exact Nat.zero_le _
 |v::o,a,h=>by
  obtain⟨h1,h2⟩:=h.tail
  exact Nat.le_trans (Yu h1) (Nat.add_le_add_left (Ag o _ h2) _)
theorem A9:∀(f a:Nat),(ca n a).length≤f→lI n a (ord n c f a)∧Im c a (ord n c f a)=B n c a
 |0,a,h=>by
  have hm:ca n a=[]:=List.eq_nil_of_length_eq_zero (by omega)
  rw[ord,Gw hm]
  exact⟨⟨by simp,fun v=>by rw[hm]⟩,rfl⟩
 |f+1,a,h=>by
  by_cases hm:ca n a=[]
  ·have:ord n c (f+1) a=[]:=by rw[ord,hm];rfl
   rw[this,Gw hm]
   exact⟨⟨by simp,fun v=>by rw[hm]⟩,rfl⟩
  ·obtain⟨v,hv,he,_,ho⟩:=sZ (c:=c) (f:=f) hm
   have:=gv hv
   obtain⟨h1,h2⟩:=A9 f (aI a v true) (by omega)
   rw[ho]
   exact⟨h1.cons hv,by rw[Im,h2,he]⟩
theorem nj(n:Nat):ca n 0=List.range n:=by
 unfold ca;rw[List.filter_eq_self.2];simp
end aj
namespace aj
open Go.Sx
def OU(n:Nat)(l:Fs)(vs:List Nat):Fs:=vs.foldl (fun l v=>given n l v) l
theorem Mq(A k:Nat):has (k+1) A=has k A++(if A.testBit k then [k]else []):=by
 unfold has;rw[List.range_succ,List.filter_append];congr 1;rw[List.filter_cons];simp
theorem sI(n:Nat)(l:Fs)(a b:List Nat):OU n l (a++b)=OU n (OU n l a) b:=List.foldl_append ..
theorem sK(n:Nat)(L:Fs)(A:Nat):∀k,st n L A k=OU n (dO L) (has k A)
 |0=>rfl
 |k+1=>by
  rw[st,Mq,sI,←sK n L A k]
  split<;>rfl
def Sm(a b:Fs):Prop:=∀x,x∈a↔x∈b
theorem Sm.trans{a b c:Fs}(h:Sm a b)(h':Sm b c):Sm a c:=fun x=>(h x).trans (h' x)
theorem Sm.symm{a b:Fs}(h:Sm a b):Sm b a:=fun x=>(h x).symm
theorem Sm.refl(a:Fs):Sm a a:=fun _=>Iff.rfl
def AF(n:Nat)(l:Fs):Prop:=∀t∈l,cw n t
variable {n:Nat}
theorem q8{a b:Fs}(h:Sm a b)(v:Nat):Sm (given n a v) (given n b v):=fun x=>by
 rw[bU,bU]
 constructor
 ·rintro⟨t,ht,h'⟩;exact⟨t,(h t).1 ht,h'⟩
 ·rintro⟨t,ht,h'⟩;exact⟨t,(h t).2 ht,h'⟩
theorem MG(hn:n≤16)(l:Fs)(v:Nat):AF n (given n l v):=fun t ht=>by
 obtain⟨u,_,b,rfl⟩:=bU.1 ht;exact cF hn
theorem zX{t:List Nat}{u v:Nat}{b c:Bool}(hf:cw n t)(hu:u<n)(hv:v<n)(h:u≠v):dV n (dV n t u b) v c=dV n (dV n t v c) u b:=
 (cF hf.lD).ext (cF hf.lD) fun x hx=>by
  rw[eO (cF hf.lD) hv hx,eO hf hu (fc hx hv),eO (cF hf.lD) hu hx,eO hf hv (fc hx hu),eA (Ne.symm h)]
theorem BX{l:Fs}{u v:Nat}(hl:AF n l)(hu:u<n)(hv:v<n)(h:u≠v):Sm (given n (given n l u) v) (given n (given n l v) u):=fun x=>by
 rw[bU,bU]
 constructor
 ·rintro⟨t,ht,c,rfl⟩
  obtain⟨s,hs,b,rfl⟩:=bU.1 ht
  exact⟨dV n s v c,bU.2 ⟨s,hs,c,rfl⟩,b,zX (hl s hs) hu hv h⟩
 ·rintro⟨t,ht,c,rfl⟩
  obtain⟨s,hs,b,rfl⟩:=bU.1 ht
  exact⟨dV n s u c,bU.2 ⟨s,hs,c,rfl⟩,b,zX (hl s hs) hv hu (Ne.symm h)⟩
theorem vz:∀(vs:List Nat) {a b:Fs},Sm a b→Sm (OU n a vs) (OU n b vs)
 | [],_,_,h=>h
 |v::vs,_,_,h=>vz vs (q8 h v)
theorem KD(hn:n≤16){vs vs':List Nat}(hp:vs.Perm vs'):(∀v∈vs,v<n)→∀l,AF n l→Sm (OU n l vs) (OU n l vs'):=by
 induction hp with
 |nil=>exact fun _ l _=>Sm.refl _
 |cons v _ ih=>exact fun h l hl=>ih (fun u hu=>h u (by simp[hu])) _ (MG hn l v)
 |swap x y r=>
  intro h l hl
  by_cases e:x=y
  ·subst e;exact Sm.refl _
  ·exact vz r (BX hl (h y (by simp)) (h x (by simp)) (Ne.symm e))
 |trans uY _ ih1 ih2=>exact fun h l hl=>(ih1 h l hl).trans (ih2 (fun v hv=>h v (uY.mem_iff.2 hv)) l hl)
theorem vy:∀(vs:List Nat) {l:Fs},l.Nodup→(OU n l vs).Nodup
 | [],_,h=>h
 |v::vs,_,_=>vy vs (mz _ _ _)
theorem GM{L:Fs}(h:AF n L):AF n (dO L):=fun t ht=>h t (cU.1 ht)
theorem Bb{a b:Fs}(ha:a.Nodup)(hb:b.Nodup)(h:Sm a b)(v:Nat):(nodes n a v).length=(nodes n b v).length:=kS (iL ha hb h)
theorem vS(n a:Nat):(has n a).Nodup:=List.Pairwise.filter _ List.nodup_range
theorem TV{a v:Nat}(h:v∈has n a):v<n:=(pn.1 h).1
theorem Mr{a v:Nat}(hv:v<n)(ha:a.testBit v=false):(has n (aI a v true)).Perm (has n a++[v]):=by
 refine(List.perm_ext_iff_of_nodup (vS _ _) ?_).2 fun u=>?_
 ·rw[List.nodup_append]
  refine⟨vS _ _,by simp,fun x hx y hy=>?_⟩
  simp at hy;subst hy
  rintro rfl
  rw[(pn.1 hx).2]at ha;cases ha
 ·rw[pn,List.mem_append,List.mem_singleton,pn,aq]
  by_cases e:u=v
  ·subst e;simp[hv]
  ·simp[e]
theorem OX(hn:n≤16){L:Fs}(hL:AF n L){a v:Nat}(hv:v<n)(ha:a.testBit v=false):Sm (st n L (aI a v true) n) (given n (st n L a n) v):=by
 rw[sK,sK]
 have h:=KD hn (Mr hv ha) (fun u hu=>TV hu) _ (GM hL)
 rw[sI]at h
 exact h
variable {φ:List Nat→List Nat} {π:Nat→Nat}
def lay(n:Nat)(F:Nat→Nat):List Nat:=(List.range (wN n)).map fun i=>F i&&&cj n
def neg(n:Nat)(ws:List Nat):List Nat:=lay n fun i=>18446744073709551615-ws.getD i 0
end aj
namespace bc
open aj
section
variable {n:Nat} {ord:List Nat} {L:aj.Fs}
theorem A4(a:Nat)(o:List Nat)(v:Nat):n7 a (o++[v])=aI (n7 a o) v true:=by rw[yA];rfl
theorem MW(hn:n≤16)(hL:∀t∈L,cw n t)(hp:ord.Perm (List.range n)):∀k,k≤n→Sm (cur n ord L k) (st n L (n7 0 (ord.take k)) n)
 |0,_=>by
  have e:st n L (n7 0 (ord.take 0)) n=dO L:=by
   rw[sK]
   have:has n (n7 0 (ord.take 0))=[]:=by
    show has n 0=[]
    rw[List.eq_nil_iff_forall_not_mem]
    intro v hv
    have:=(pn.1 hv).2
    rw[Nat.zero_testBit]at this;cases this
   rw[this];rfl
  rw[e];exact .refl _
 |k+1,hk=>by
  have zj:ord.length=n:=by rw[hp.length_eq,List.length_range]
  have gW:ord.Nodup:=hp.nodup_iff.2 List.nodup_range
  have hlt:k<ord.length:=by omega
  have hv:ord[k]<n:=List.mem_range.1 (hp.mem_iff.1 (List.getElem_mem hlt))
  have hg:ord.getD k 0=ord[k]:=by rw[List.getD_eq_getElem?_getD,List.getElem?_eq_getElem hlt];rfl
  have ht:ord.take (k+1)=ord.take k++[ord[k]]:=List.take_succ_eq_append_getElem hlt
  have hno:ord[k]∉ord.take k:=fun hm=>by
   have h2:(ord.take (k+1)).Nodup:=gW.sublist (List.take_sublist _ _)
   rw[ht]at h2
   exact(List.nodup_append.1 h2).2.2 _ hm _ (by simp) rfl
  have hb:(n7 0 (ord.take k)).testBit ord[k]=false:=by
   rw[oU,Nat.zero_testBit,decide_eq_false hno];rfl
  rw[ht,A4]
  refine Sm.trans ?_ (Sm.symm (OX hn hL hv hb))
  rw[cur,hg]
  exact q8 (MW hn hL hp k (by omega)) _
theorem Pn(hn:n≤16)(hL:∀t∈L,cw n t)(hp:ord.Perm (List.range n)){k:Nat}(hk:k≤n)(v:Nat):(nodes n (cur n ord L k) v).length=lvl n L (n7 0 (ord.take k)) v:=by
 unfold lvl
 refine Bb (vZ k) ?_ (MW hn hL hp k hk) v
 rw[sK];exact vy _ (iI _)
theorem zV(hn:n≤16)(hL:∀t∈L,cw n t)(hp:ord.Perm (List.range n)):∀k,k≤n→Im (lvl n L) 0 (ord.take k)=dR n ord L k
 |0,_=>rfl
 |k+1,hk=>by
  have zj:ord.length=n:=by rw[hp.length_eq,List.length_range]
  have hlt:k<ord.length:=by omega
  have hg:ord.getD k 0=ord[k]:=by rw[List.getD_eq_getElem?_getD,List.getElem?_eq_getElem hlt];rfl
  rw[List.take_succ_eq_append_getElem hlt,tQ,zV hn hL hp k (by omega),dR]
  congr 1
  unfold ow
  rw[Pn hn hL hp (by omega),hg]
  simp[Im]
theorem wc(hn:n≤16)(hL:∀t∈L,cw n t)(hp:ord.Perm (List.range n)):Im (lvl n L) 0 ord=dR n ord L n:=by
 have zj:ord.length=n:=by rw[hp.length_eq,List.length_range]
 rw[←zV hn hL hp n (Nat.le_refl n),←zj,List.take_length]
theorem Bu(hp:ord.Perm (List.range n)):lI n 0 ord:=⟨hp.nodup_iff.2 List.nodup_range,fun v=>by rw[nj];exact hp.mem_iff⟩
theorem A7(h:lI n 0 ord):ord.Perm (List.range n):=by
 refine(List.perm_ext_iff_of_nodup h.nd List.nodup_range).2 fun v=>?_
 rw[h.mem,nj]
theorem qH(c:Nat→Nat→Nat):(aj.ord n c n 0).Perm (List.range n):=A7 (A9 n 0 (by rw[nj,List.length_range];exact Nat.le_refl n)).1
theorem qG(hn:n≤16)(hL:∀t∈L,cw n t):dR n (aj.ord n (lvl n L) n 0) L n=B n (lvl n L) 0:=by
 rw[←wc hn hL (qH _)]
 exact(A9 n 0 (by rw[nj,List.length_range];exact Nat.le_refl n)).2
theorem Qw(hn:n≤16)(hL:∀t∈L,cw n t)(hp:ord.Perm (List.range n)):B n (lvl n L) 0≤dR n ord L n:=by
 rw[←wc hn hL hp]
 exact Ag ord 0 (Bu hp)
end
end bc
set_option maxRecDepth 100000
namespace Go.Proofs
open Go Go.Sx
open bc
section
variable {kp:Nat} {K:Kd} {S:Nat→bc.Fn} {ord tr:List Nat} {C:Hp}
theorem sL{n:Nat}{o:List Nat}:∀k,dR n o [] k=0:=by
  have hc:∀k,cur n o [] k=[]:=fun k=>by
    induction k with
    |zero=>rfl
    |succ k ih=>rw[cur,ih];rfl
  intro k
  induction k with
  |zero=>rfl
  |succ k ih=>rw[dR,ih];unfold ow;rw[hc];rfl
theorem A1{B:Hp}{v:Value}{n:Nat}{f:bc.Fn}(h:ir B v n f):∃s ws,v=.agg #[.int .i64 (n:Int),s]∧Words B s ws∧aj.cw n ws∧eC n ws=f:=by
  obtain⟨ws,⟨s,rfl,hw⟩,hf,he⟩:=h
  exact⟨s,ws,rfl,hw,hf,he⟩
def XP(kp:Nat)(K:Kd)(S:Nat→bc.Fn)(ord tr:List Nat)(v:Value)(H:Hp):Prop:=
  ∃L:aj.Fs,(∀t∈L,aj.cw K.n t)∧K.held S=FT K.n L∧L.length≤1048576∧
   ((bW K S ord=aj.B K.n (aj.lvl K.n L) 0∧v=.tuple #[.agg #[.int .i64 ((bW K S ord:Nat):Int),.int .i64 ((bW K S ord:Nat):Int),.int .i64 0,.bool true],.int .i64 0]∧At kp K S ord tr H)∨
    (bW K S ord≠aj.B K.n (aj.lvl K.n L) 0∧∃o ls,o=aj.ord K.n (aj.lvl K.n L) K.n 0∧ls=path ord o∧
     (((rm K S).can ord ls=true∧v=.tuple #[.agg #[.int .i64 ((bW K S ord:Nat):Int),.int .i64 ((bW K S o:Nat):Int),.int .i64 ((ls.length:Nat):Int),.bool true],.int .i64 0]∧At kp K S o (tr++ls) H)∨
      ((rm K S).can ord ls=false∧v=.tuple #[.agg #[.int .i64 ((bW K S ord:Nat):Int),.int .i64 ((bW K S ord:Nat):Int),.int .i64 ((2*((rm K S).cH 0 ls ord).length:Nat):Int),.bool false],.int .i64 0]∧At kp K S ord tr H))))
theorem Ox(h:At kp K S ord tr C)(hp:ord.Perm (List.range K.n))(hn:K.n≤12)(g7:tr.length<274877906944):
    Fc Tryz.prog 25 #[ptr kp] C (fun v H=>XP kp K S ord tr v H):=by
  have h0:=h
  obtain⟨K',S',fu,hK,hk⟩:=h
  have RQ:=hk.n
  have zm:∀r,K'.hold r≠0→live K'.N r:=fun r hr=>(.inr (hK.ok.mid.held r hr))
  have hcap:=hK.ok.mid.cap
  have hle:=hK.jG
  have uL:(rts K').length≤1048576:=by
    obtain⟨b,_,hO⟩:=hK.rep
    have:=hO.ul
    have h2:=List.length_filter_le (fun r=>decide (0<K'.hold r)) (List.range K'.ho.length)
    rw[List.length_range]at h2
    show(List.filter _ _).length≤_
    omega
  have LP:∀r,r∈rts K'↔K'.hold r≠0:=fun r=>by
    unfold rts
    rw[List.mem_filter,List.mem_range,decide_eq_true_iff]
    constructor
    · rintro⟨_,h⟩;omega
    · intro h
      refine⟨Classical.byContradiction fun h2=>h ?_,by omega⟩
      unfold Kd.hold
      rw[List.getD_eq_getElem?_getD,List.getElem?_eq_none (by omega)];rfl
  intro g
  refine Jk (R:=aE _) ?_
  unfold L25
  intro b1 _
  refine ae.aJ (Br.no ?_)
  refine ag.rd (.cons .here) (lj h0) ?_
  rintro w rfl
  refine ae.lQ (b:=12) (Br.cq (by omega) ?_)
  refine ag.fn (.cons .here) (G3 hK) ?_
  rintro vr H ⟨NR,rfl,hR⟩
  have TZ:cE .u32 NR vr (iw (rts K')):=hR.ints
  refine hR.aS ?_
  rw[an]
  refine⟨fun vs H=>∃(i:Nat) (s:Value) (L:aj.Fs) (CS N:Hp),vs=[s,.int .i64 (i:Int)]∧i≤(rts K').length∧H=(b1,.cells #[.int .i64 0,.int .i64 0,.int .i64 0,.bool false] 42 (0,0))::(CS++(N++C))∧(∀x∈NR,x∈N)∧fG 57 s (gn K'.n L) CS N∧L.length=i∧(∀t∈L,aj.cw K'.n t)∧∀j t,L[j]? =some t→∃r,(rts K')[j]? =some r∧eC K'.n t=S' r,
    fun vs _=>(rts K').length-bg vs 1,JE.mk ⟨0,_,[],[],NR,rfl,Nat.zero_le _,rfl,fun _ h=>h,fG.nil,rfl,fun t ht=>absurd ht (List.not_mem_nil),fun j t (hj:([]:List (List Nat))[j]? =some t)=>absurd hj (by rw[List.getElem?_nil];exact nofun)⟩,?_⟩
  rintro oT Al H ⟨i,s,L,CS,N,hv,hi,rfl,hN,hT,hLl,Mx,Y9⟩ gs
  simp only[List.cons.injEq,and_true]at hv
  obtain⟨rfl,rfl⟩:=hv
  refine ae.dL (Br.dec (fun hlt=>?_) (fun hge=>?_))
  · refine TZ.ld (n:=(((rts K')[i]:Nat):Int)) (cy (List.getElem?_eq_getElem hlt)) (fun x hx=>.tail _ (List.mem_append_right _ (List.mem_append_left _ (hN x hx)))) ?_
    refine ag.fn (args:=#[ptr kp,u32 (rts K')[i]]) (.cons (.app (.app .here))) (Il hK (by omega) (zm _ ((LP _).1 (List.getElem_mem hlt)))) ?_
    rintro w H ⟨Nt,t,rfl,rfl,ht⟩
    obtain⟨sw,ws,rfl,hw,hf,he⟩:=A1 ht
    refine Ext.mk rfl (Ext.mk rfl ?_)
    intro Zh _
    refine St.whole (r:=[.int .i64 (K'.n:Int),sw]) (by exact .head _) rfl rfl (cT (aB hw)) ?_
    refine aA.whole (r:=[.int .i64 (K'.n:Int),sw]) (by exact .head _) rfl ?_
    refine eU fun JK=>?_
    have hT':fG 57 oT (gn K'.n L) CS (N++Nt):=hT.mono fun _ h=>List.mem_append_left _ h
    refine fG.app hT' (A:=[(JK,_),(Zh,_),(b1,_)]) (B:=N++(Nt++C)) (t:=⟨(K'.n:Int),ws⟩) (by exact .head _) (hw.mono fun _ h=>List.mem_append_right _ h) (by rw[aW];omega) fun v' CS' W4=>?_
    refine ae.aH (b:=1) (by simp[az];omega) ?_
    refine ay.of (.skip .tail) ⟨i+1,v',L++[ws],CS',N++Nt,rfl,hlt,by rw[List.append_assoc];rfl,fun x hx=>List.mem_append_left _ (hN x hx),by unfold gn at W4⊢;rw[List.map_append];exact W4,by rw[List.length_append,hLl];rfl,fun t ht=>?_,fun j t hj=>?_⟩ (by simp only[bg];omega)
    · rcases List.mem_append.1 ht with ht|ht
      · exact Mx t ht
      · rw[List.mem_singleton.1 ht];exact hf
    · by_cases TL:j<L.length
      · rw[List.getElem?_append_left TL]at hj
        exact Y9 j t hj
      · rw[List.getElem?_append_right (by omega)]at hj
        have:j=i:=by
          have:=(List.getElem?_eq_some_iff.1 hj).1
          rw[List.length_singleton]at this;omega
        subst this
        rw[hLl,Nat.sub_self]at hj
        simp at hj
        subst hj
        exact⟨_,List.getElem?_eq_getElem hlt,he⟩
  have hi':i=(rts K').length:=by omega
  subst hi'
  rw[RQ]at hT Mx Y9
  have pF:K.held S=FT K.n L:=by
    refine funext fun g=>propext ?_
    rw[←hk.held g]
    constructor
    · rintro⟨r,hr,rfl⟩
      obtain⟨j,hj,e⟩:=List.mem_iff_getElem.1 ((LP r).2 hr)
      obtain⟨r2,nE,he⟩:=Y9 j L[j] (List.getElem?_eq_getElem (by omega))
      rw[List.getElem?_eq_getElem hj,e]at nE
      cases nE
      exact⟨L[j],List.getElem_mem _,he.symm⟩
    · rintro⟨t,ht,rfl⟩
      obtain⟨j,hj,e⟩:=List.mem_iff_getElem.1 ht
      obtain⟨r2,nE,he⟩:=Y9 j t (by rw[List.getElem?_eq_getElem hj,e])
      exact⟨r2,(LP r2).1 (List.mem_of_getElem? nE),he⟩
  have hlt:=Fw hp
  have hkz:bW K S ord=dR K.n ord L K.n:=by
    unfold bW;rw[pF];exact Fo Mx (by omega) hlt
  have My:L.length≤1048576:=by omega
  refine ag.rd (.cons (.app (.app .here))) (dF h0) ?_
  rintro w rfl
  have hTb:cV (CS++N) oT (gn K.n L):=hT.wM (fun _ h=>List.mem_append_left _ h) (fun _ h=>List.mem_append_right _ h)
  rw[←List.append_assoc]
  refine ag.px (.cons .left) (Qv hTb (by rw[aW];omega)) ?_
  intro w NB hB
  obtain⟨so,Y,hY,rfl,hI⟩:∃so Y,NB++(CS++N)=Y∧w=.tuple #[.int .i64 ((aj.B K.n (aj.lvl K.n L) 0:Nat):Int),so,.int .i64 0]∧(L≠[]→cE .i64 Y so (iw (aj.ord K.n (aj.lvl K.n L) K.n 0))):=by
    have hO:pU (gn K.n L):=yO Mx
    rcases hB with⟨hno,_⟩|⟨_,n2,L2,e,hz,_,Ob,hB⟩
    · exact absurd hO hno
    by_cases Za:L=[]
    · subst Za
      have hL2:L2=[]:=by cases L2 with
        |nil=>rfl
        |cons a b=>simp[gn]at e
      subst hL2
      obtain rfl:=hz rfl
      have hB0:aj.B K.n (aj.lvl K.n []) 0=0:=by rw[←qG (by omega) (by simp)];exact sL _
      rcases hB with⟨h,_⟩|⟨_,s2,C2,N2,rfl,_,_⟩
      · omega
      exact⟨s2,_,rfl,by rw[hB0];rfl,fun h=>absurd rfl h⟩
    · have PO:n2=K.n∧L2=L:=by
        cases L with
        |nil=>exact absurd rfl Za
        |cons a b=>
          cases L2 with
          |nil=>simp[gn]at e
          |cons a2 b2=>
            simp only[gn,List.map_cons,List.cons.injEq,Tb.mk.injEq]at e
            obtain⟨⟨e1,e2⟩,e3⟩:=e
            have e1:n2=K.n:=by omega
            subst e1
            refine⟨rfl,?_⟩
            rw[e2]
            congr 1
            refine((List.map_inj_right (f:=fun ws=>(⟨(K.n:Int),ws⟩:Tb)) ?_).1 e3).symm
            intro x y hxy
            simpa using hxy
      obtain⟨rfl,rfl⟩:=PO
      rcases hB with⟨h,_⟩|⟨_,s2,C2,N2,rfl,hown,hH⟩
      · omega
      exact⟨s2,_,rfl,rfl,fun _=>by rw[hH];exact hown.ints.mono fun _ h=>List.mem_append_left _ h⟩
  rw[hY]
  clear hB
  refine Ext.mk rfl (Ext.mk rfl (Ext.mk rfl ?_))
  refine ae.gp (Br.dec (fun heq=>?_) (fun hne=>?_))
  · refine Build.mk (cs:=[.int .i64 ((bW K S ord:Nat):Int),.int .i64 ((bW K S ord:Nat):Int),.int .i64 0,.bool true]) (by kernel_rfl) ?_
    refine St.whole (r:=[.int .i64 ((bW K S ord:Nat):Int),.int .i64 ((bW K S ord:Nat):Int),.int .i64 0,.bool true]) (by exact .head _) rfl rfl (by simp[Value.oneCell']) ?_
    refine aA.whole (r:=[.int .i64 ((bW K S ord:Nat):Int),.int .i64 ((bW K S ord:Nat):Int),.int .i64 0,.bool true]) (by exact .head _) rfl ?_
    exact aE.mk (.skip .right) ⟨L,Mx,pF,My,.inl ⟨heq,rfl,h0⟩⟩
  · have Za:L≠[]:=fun e=>by
      subst e
      refine hne ?_
      rw[hkz,←qG (by omega) (by simp),sL,sL]
    obtain⟨o,ho⟩:∃o,o=aj.ord K.n (aj.lvl K.n L) K.n 0:=⟨_,rfl⟩
    have hop:o.Perm (List.range K.n):=by rw[ho];exact qH _
    have hIo:=hI Za
    rw[←ho]at hIo
    refine ag.fn (.cons .here) (Lb h0 hIo hp hop (by omega)) ?_
    rintro w H ⟨C2,rfl,hM⟩
    have N7:=(rX (hop.nodup_iff.2 List.nodup_range) (hp.trans hop.symm)).1
    rcases hM with⟨hc,rfl,hA⟩|⟨hc,rfl,hA⟩
    · rw[N7]at hA
      refine Ext.mk rfl (Ext.mk rfl ?_)
      refine ag.rd (.cons (.app .here)) (dF hA) ?_
      rintro w rfl
      refine ae.kJ ?_
      rw[decide_eq_true rfl]
      refine Build.mk (cs:=[.int .i64 ((bW K S ord:Nat):Int),.int .i64 ((bW K S o:Nat):Int),.int .i64 (((path ord o).length:Nat):Int),.bool true]) (by kernel_rfl) ?_
      refine St.whole (r:=[.int .i64 ((bW K S ord:Nat):Int),.int .i64 ((bW K S o:Nat):Int),.int .i64 (((path ord o).length:Nat):Int),.bool true]) (by exact .head _) rfl rfl (by simp[Value.oneCell']) ?_
      refine aA.whole (r:=[.int .i64 ((bW K S ord:Nat):Int),.int .i64 ((bW K S o:Nat):Int),.int .i64 (((path ord o).length:Nat):Int),.bool true]) (by exact .head _) rfl ?_
      exact aE.mk (.skip .right) ⟨L,Mx,pF,My,.inr ⟨hne,o,_,ho,rfl,.inl ⟨hc,rfl,hA⟩⟩⟩
    · refine Ext.mk rfl (Ext.mk rfl ?_)
      refine ag.rd (.cons (.app .here)) (dF hA) ?_
      rintro w rfl
      refine ae.kJ ?_
      rw[decide_eq_false (by decide)]
      refine Build.mk (cs:=[.int .i64 ((bW K S ord:Nat):Int),.int .i64 ((bW K S ord:Nat):Int),.int .i64 ((2*((rm K S).cH 0 (path ord o) ord).length:Nat):Int),.bool false]) (by kernel_rfl) ?_
      refine St.whole (r:=[.int .i64 ((bW K S ord:Nat):Int),.int .i64 ((bW K S ord:Nat):Int),.int .i64 ((2*((rm K S).cH 0 (path ord o) ord).length:Nat):Int),.bool false]) (by exact .head _) rfl rfl (by simp[Value.oneCell']) ?_
      refine aA.whole (r:=[.int .i64 ((bW K S ord:Nat):Int),.int .i64 ((bW K S ord:Nat):Int),.int .i64 ((2*((rm K S).cH 0 (path ord o) ord).length:Nat):Int),.bool false]) (by exact .head _) rfl ?_
      exact aE.mk (.skip .right) ⟨L,Mx,pF,My,.inr ⟨hne,o,_,ho,rfl,.inr ⟨hc,rfl,hA⟩⟩⟩
end
end Go.Proofs
set_option maxRecDepth 100000
namespace Go.Proofs
open Go Go.Sx
open bc
section
variable {kp:Nat} {K:Kd} {S:Nat→bc.Fn} {ord tr:List Nat} {C:Hp}
theorem sX{p q:List Nat}(hq:q.Nodup)(hp:p.Perm q):∀i,i≤q.length→(de p q i).length≤i*(p.length-1)
 |0,_=>by simp[de]
 |i+1,hi=>by
  have:=sX hq hp i (by omega)
  obtain⟨_,_,h3⟩:=gO hq hp i (by omega)
  rw[de,List.length_append,xL,Nat.succ_mul]
  have:=(h3 (by omega)).2
  omega
def acM(kp:Nat)(K:Kd)(S:Nat→bc.Fn)(ord tr:List Nat)(v:Value)(H:Hp):Prop:=
 ∃o ls,o.Perm (List.range K.n)∧v=.tuple #[.agg #[.int .i64 ((bW K S ord:Nat):Int),.int .i64 ((bW K S o:Nat):Int),.int .i64 ((ls.length:Nat):Int),.bool true],.int .i64 0]∧At kp K S o (tr++ls) H∧(∀p:List Nat,p.Perm (List.range K.n)→bW K S o≤bW K S p)∧ls.length≤K.n*(K.n-1)∧((∀p:List Nat,p.Perm (List.range K.n)→bW K S ord≤bW K S p)→o=ord∧ls=[])
theorem aam{v:Value}{H:Hp}(h:XP kp K S ord tr v H)(hn:K.n≤12)(hp:ord.Perm (List.range K.n))(hcan:∀ls:List Nat,(∀x∈ls,x+1<K.n)→(rm K S).can ord ls=true):acM kp K S ord tr v H:=by
 obtain⟨L,Mx,pF,My,hQ⟩:=h
 have hk:∀p:List Nat,p.Perm (List.range K.n)→bW K S p=dR K.n p L K.n:=fun p hp=>by
  unfold bW;rw[pF];exact Fo Mx (by omega) (Fw hp)
 have hB:∀p:List Nat,p.Perm (List.range K.n)→aj.B K.n (aj.lvl K.n L) 0≤bW K S p:=fun p hp=>by
  rw[hk p hp];exact Qw (by omega) Mx hp
 rcases hQ with⟨e,rfl,hA⟩|⟨hne,o,ls,ho,hls,hQ⟩
 ·exact⟨ord,[],hp,rfl,by rw[List.append_nil];exact hA,fun p hp=>by rw[e];exact hB p hp,Nat.zero_le _,fun _=>⟨rfl,rfl⟩⟩
 have hop:o.Perm (List.range K.n):=by rw[ho];exact qH _
 have hoB:bW K S o=aj.B K.n (aj.lvl K.n L) 0:=by rw[hk o hop,ho];exact qG (by omega) Mx
 have Wk:o.Nodup:=hop.nodup_iff.2 List.nodup_range
 have zj:o.length=K.n:=by rw[hop.length_eq,List.length_range]
 have hdl:ord.length=K.n:=by rw[hp.length_eq,List.length_range]
 obtain⟨_,We⟩:=rX Wk (hp.trans hop.symm)
 have hc:(rm K S).can ord ls=true:=hcan ls fun x hx=>by rw[hls]at hx;have:=We x hx;omega
 rcases hQ with⟨_,rfl,hA⟩|⟨Y0,_⟩
 ·refine⟨o,ls,hop,rfl,hA,fun p hp=>by rw[hoB];exact hB p hp,?_,fun hl=>?_⟩
  ·have:=sX Wk (hp.trans hop.symm) o.length (Nat.le_refl _)
   rw[hls]
   unfold path
   rw[zj,hdl]at this
   rw[zj];exact this
  ·have h1:=hl o hop
   have h2:=hB ord hp
   exact absurd (by omega) hne
 ·rw[hc]at Y0;cases Y0
end
section
variable {kp:Nat} {K:Kd} {S:Nat→bc.Fn} {ord tr:List Nat} {C:Hp} {Q:Value→Hp→Prop}
theorem yB{w:Nat}(hw:3≤w∧w≤5):Rd Tryz.prog 100 #[.int .u8 (w:Int)] C (· =.int .i64 ((w-1:Nat):Int)):=by
 intro g
 refine EY (R:=aE _) ?_
 unfold L100
 refine ae.bC (b:=3) (by simp[az];omega) (by omega) ?_
 refine bI.nat (by simp[az];omega) ?_
 refine ae.aH (b:=2) (by simp[az];omega) ?_
 refine bL.mk (.refl _) ?_
 rw[show w-3+2=w-1 by omega]
theorem kN(h:At kp K S ord tr C){s gr:Nat}:Rd Tryz.prog 115 #[ptr kp,.int .u8 (s:Int),.int .i64 (gr:Int)] C (· =.int .i64 (if 6<s∨gr<100∨1000<gr then 1 else if s=6∧12<K.n then 6 else 0)):=by
 intro g
 refine EL (R:=aE _) ?_
 unfold L115
 refine ae.aJ (Br.no ?_)
 refine ae.lQ (b:=6) ?_
 refine cv.or (a:=decide (6<s)) (decide (gr<100)) (fun _=>ae.dL (b:=100) ⟨rfl,rfl⟩) rfl fun _=>?_
 refine cv.or (a:=decide (6<s)||decide (gr<100)) (decide (1000<gr)) (fun _=>ae.lQ (b:=1000) ⟨rfl,rfl⟩) rfl fun _=>?_
 rw[←Bool.decide_or,←Bool.decide_or]
 refine Br.dec (fun hb=>?_) (fun hb=>?_)
 ·rw[if_pos (by omega)]
  exact bL.mk (.refl _) rfl
 rw[if_neg (by omega)]
 intro J9 h9
 refine ae.gp (b:=6) ?_
 by_cases hs:s=6
 ·rw[decide_eq_true hs]
  refine Split.go rfl ?_
  refine ag.rd .here (lj h) ?_
  rintro w rfl
  refine ae.lQ (b:=12) (aD.mk (JE.mk (h9 _ _ fun _=>?_)))
  show Br (.bool (decide (12<K.n))) _ _
  refine Br.dec (fun T5=>?_) (fun T5=>?_)
  ·rw[if_pos ⟨hs,T5⟩];exact bL.mk (.refl _) rfl
  ·rw[if_neg (by omega)];exact bL.mk (.refl _) rfl
 ·rw[decide_eq_false hs]
  refine Split.SZ rfl ?_
  refine aD.mk (JE.mk (h9 _ _ fun _=>Br.no ?_))
  rw[if_neg (by omega)];exact bL.mk (.refl _) rfl
theorem rW(a b c:Int)(d:Bool):∀u∈[Value.int .i64 a,.int .i64 b,.int .i64 c,.bool d],u.oneCell'=true:=fun u hu=>by
 simp only[List.mem_cons,List.not_mem_nil,or_false]at hu
 rcases hu with rfl|rfl|rfl|rfl<;>rfl
abbrev KT(a b c:Int)(d:Bool):Value:=.agg #[.int .i64 a,.int .i64 b,.int .i64 c,.bool d]
theorem VG(h:At kp K S ord tr C){gr:Nat}(q7:100≤gr∧gr≤1000)(hn:12<K.n):Rd Tryz.prog 49 #[ptr kp,.int .u8 6,.int .i64 (gr:Int)] C (· =.tuple #[KT 0 0 0 false,.int .i64 6]):=by
 intro g
 refine ny (R:=aE _) ?_
 unfold L49
 intro b1 _
 refine ag.rd (.cons .here) (kN h (s:=6)) ?_
 rintro w rfl
 rw[if_neg (by omega),if_pos ⟨rfl,hn⟩]
 refine ae.gj (Br.gI (by simp) ?_)
 refine Build.mk (cs:=[.int .i64 0,.int .i64 0,.int .i64 0,.bool false]) (by kernel_rfl) ?_
 refine St.whole (r:=[.int .i64 0,.int .i64 0,.int .i64 0,.bool false]) (by exact .head _) rfl rfl (by simp[Value.oneCell']) ?_
 refine aA.whole (r:=[.int .i64 0,.int .i64 0,.int .i64 0,.bool false]) (by exact .head _) rfl ?_
 exact bL.mk .tail rfl
theorem KL(h:At kp K S ord tr C){gr:Nat}(q7:100≤gr∧gr≤1000)(hin:Fc Tryz.prog 47 #[ptr kp,.int .i64 (gr:Int)] C Q)(hQ:∀v H,Q v H→∃(a b c:Int) (d:Bool) (e:Value),v=.tuple #[KT a b c d,e]):
  Fc Tryz.prog 49 #[ptr kp,.int .u8 1,.int .i64 (gr:Int)] C Q:=by
 intro g
 refine ny (R:=aE _) ?_
 unfold L49
 intro b1 _
 refine ag.rd (.cons .here) (kN h (s:=1)) ?_
 rintro w rfl
 rw[if_neg (by omega),if_neg (by omega)]
 refine ae.gj (Br.cq (by simp) ?_)
 refine ae.gp (a:=1) (b:=1) (Br.yes ?_)
 refine ag.fn (.cons .here) hin ?_
 intro v H hv
 obtain⟨a,b,c,d,e,rfl⟩:=hQ v H hv
 refine Ext.mk rfl (Ext.mk rfl ?_)
 refine St.whole (r:=[.int .i64 a,.int .i64 b,.int .i64 c,.bool d]) (by exact .head _) rfl rfl (rW a b c d) ?_
 refine aA.whole (r:=[.int .i64 a,.int .i64 b,.int .i64 c,.bool d]) (by exact .head _) rfl ?_
 exact aE.mk .tail hv
theorem A5(h:At kp K S ord tr C){w gr:Nat}(hw:3≤w∧w≤5)(q7:100≤gr∧gr≤1000)(hin:Fc Tryz.prog 22 #[ptr kp,.int .i64 ((w-1:Nat):Int)] C Q)(hQ:∀v H,Q v H→∃(a b c:Int) (d:Bool) (e:Value),v=.tuple #[KT a b c d,e]):
  Fc Tryz.prog 49 #[ptr kp,.int .u8 (w:Int),.int .i64 (gr:Int)] C Q:=by
 intro g
 refine ny (R:=aE _) ?_
 unfold L49
 intro b1 _
 refine ag.rd (.cons .here) (kN h (s:=w)) ?_
 rintro w2 rfl
 rw[if_neg (by omega),if_neg (by omega)]
 refine ae.gj (Br.cq (by simp) ?_)
 refine ae.gp (b:=1) (Br.cq (by omega) ?_)
 refine ae.gp (b:=2) (Br.cq (by omega) ?_)
 intro Ac h28
 have good:Ac [.bool true] ((b1,.cells #[.int .i64 0,.int .i64 0,.int .i64 0,.bool false] 42 (0,0))::C):=by
  refine h28 _ _ fun _=>Br.yes ?_
  refine ag.rd .here (yB hw) ?_
  rintro w3 rfl
  refine ag.fn (.cons .here) hin ?_
  intro v H hv
  obtain⟨a,b,c,d,e,rfl⟩:=hQ v H hv
  refine Ext.mk rfl (Ext.mk rfl ?_)
  refine St.whole (r:=[.int .i64 a,.int .i64 b,.int .i64 c,.bool d]) (by exact .head _) rfl rfl (rW a b c d) ?_
  refine aA.whole (r:=[.int .i64 a,.int .i64 b,.int .i64 c,.bool d]) (by exact .head _) rfl ?_
  exact aE.mk .tail hv
 refine ae.gp (b:=3) (Br.dec (fun e=>?_) (fun e=>?_))
 ·rw[decide_eq_true e];exact JE.mk good
 refine ae.gp (b:=4) (Br.dec (fun e=>?_) (fun e=>?_))
 ·rw[decide_eq_true e];exact JE.mk good
 refine ae.gp (b:=5) ?_
 rw[decide_eq_true (by omega)];exact JE.mk good
theorem GX(h:At kp K S ord tr C){gr:Nat}(hn:K.n≤12)(q7:100≤gr∧gr≤1000)(hin:Fc Tryz.prog 25 #[ptr kp] C Q)(hQ:∀v H,Q v H→∃(a b c:Int) (d:Bool) (e:Value),v=.tuple #[KT a b c d,e]):
  Fc Tryz.prog 49 #[ptr kp,.int .u8 6,.int .i64 (gr:Int)] C Q:=by
 intro g
 refine ny (R:=aE _) ?_
 unfold L49
 intro b1 _
 refine ag.rd (.cons .here) (kN h (s:=6)) ?_
 rintro w2 rfl
 rw[if_neg (by omega),if_neg (by omega)]
 refine ae.gj (Br.cq (by simp) ?_)
 refine ae.gp (a:=6) (b:=1) (Br.no ?_)
 refine ae.gp (a:=6) (b:=2) (Br.no ?_)
 intro Ac h28
 refine ae.gp (a:=6) (b:=3) (Br.no ?_)
 refine ae.gp (a:=6) (b:=4) (Br.no ?_)
 refine ae.gp (a:=6) (b:=5) (JE.mk (h28 _ _ fun _=>Br.no ?_))
 refine ae.gp (a:=6) (b:=6) (Br.yes ?_)
 refine ag.fn (.cons .here) hin ?_
 intro v H hv
 obtain⟨a,b,c,d,e,rfl⟩:=hQ v H hv
 refine Ext.mk rfl (Ext.mk rfl ?_)
 refine St.whole (r:=[.int .i64 a,.int .i64 b,.int .i64 c,.bool d]) (by exact .head _) rfl rfl (rW a b c d) ?_
 refine aA.whole (r:=[.int .i64 a,.int .i64 b,.int .i64 c,.bool d]) (by exact .head _) rfl ?_
 exact aE.mk .tail hv
end
section
variable {A B:Rm} {Q:List Nat→Prop}
theorem wj(h:bc.Alike A B Q){g p:Nat}{ord:List Nat}(hp:p<A.n)(hq:Q ord)(dn:Bool):∀k j b q,(dn=false→k≤j)→(dn=true→j+k<A.n)→j<A.n→A.uJ g ord p dn k j b q=B.uJ g ord p dn k j b q
 |0,j,b,q,_,_,_=>rfl
 |k+1,j,b,q,h1,h2,h3=>by
  have hQ:∀i,i<A.n→Q (aC ord (road p i)):=fun i hi=>h.aC (fun l hl=>yF hp hi hl) hq
  obtain⟨J,hJ⟩:∃J,J=bif dn then j+1 else j-1:=⟨_,rfl⟩
  have hJn:J<A.n:=by
   cases dn
   ·simp at hJ;omega
   ·have:=h2 rfl;simp at hJ;omega
  have hf:A.fit (aC ord (road p j)) (bif dn then j else j-1)=B.fit (aC ord (road p j)) (bif dn then j else j-1):=h.fit _ _ (hQ j h3) (by
   cases dn
   ·have:=h1 rfl;simp;omega
   ·have:=h2 rfl;simp;omega)
  rw[Rm.uJ,Rm.uJ,←hJ,hf,h.size _ (hQ J hJn)]
  rw[wj h hp hq dn k J _ _ (fun e=>by subst e;have:=h1 rfl;simp at hJ;omega) (fun e=>by subst e;have:=h2 rfl;simp at hJ;omega) hJn]
theorem Cn(h:bc.Alike A B Q){g p:Nat}{ord:List Nat}(hp:p<A.n)(hq:Q ord):A.o6 g ord p=B.o6 g ord p:=by
 have hr:∀dn b q,A.uJ g ord p dn (A.rest dn p) p b q=B.uJ g ord p dn (B.rest dn p) p b q:=fun dn b q=>by
  have e:A.rest dn p=B.rest dn p:=by unfold Rm.rest;rw[h.n]
  rw[←e]
  refine wj h hp hq dn _ _ _ _ (fun e=>?_) (fun e=>?_) hp
  ·subst e;exact Nat.le_refl _
  ·subst e;unfold Rm.rest;simp;omega
 unfold Rm.o6
 simp only[hr,h.n,h.size _ hq]
theorem tZ(h:bc.Alike A B (fun o=>o.Perm (List.range A.n))){g:Nat}:∀{l ord:List Nat},ord.Perm (List.range A.n)→(∀v∈l,v<A.n)→A.cS g ord l=B.cS g ord l
 | [],ord,_,_=>rfl
 |v::l,ord,hp,hl=>by
  have hv:=Bw hp (hl v (by simp))
  have h1:=(A.wR g (ord:=ord) hv).1
  rw[Rm.cS,Rm.cS,←Cn h hv hp]
  rw[tZ h (l:=l) (oX hp (Fu (m:=A) hv h1)) (fun x hx=>hl x (by simp[hx]))]
end
theorem O8{l:List Nat}(h:l.Perm (List.range 4)):∃a b c d,l=[a,b,c,d]∧a<4∧b<4∧c<4∧d<4∧[a,b,c,d].Nodup:=by
 have hl:=h.length_eq
 have hn:l.Nodup:=h.nodup_iff.2 List.nodup_range
 have hm:∀x∈l,x<4:=fun x hx=>List.mem_range.1 (h.mem_iff.1 hx)
 match l,hl with
 | [a,b,c,d],_=>exact⟨a,b,c,d,rfl,hm a (by simp),hm b (by simp),hm c (by simp),hm d (by simp),hn⟩
def FA(o:List Nat):Bool:= !decide o.Nodup||(decide ((A6 4 100 [[63624]]).size (aC [0,2,1,3] ((A6 4 100 [[63624]]).cS 200 [0,2,1,3] o).1)=4) && (decide (4≤(A6 4 100 [[63624]]).size o) && (List.range 3).all fun l=>(A6 4 100 [[63624]]).fit o l))
theorem Hf:((List.range 4).all fun a=>(List.range 4).all fun b=>(List.range 4).all fun c=>(List.range 4).all fun d=>FA [a,b,c,d])=true:=by decide+kernel
theorem oq{o:List Nat}(h:o.Perm (List.range 4)):(A6 4 100 [[63624]]).size (aC [0,2,1,3] ((A6 4 100 [[63624]]).cS 200 [0,2,1,3] o).1)=4∧4≤(A6 4 100 [[63624]]).size o∧∀l<3,(A6 4 100 [[63624]]).fit o l=true:=by
 obtain⟨a,b,c,d,rfl,h1,h2,h3,h4,h5⟩:=O8 h
 have ha:=Hf
 have hb:=List.all_eq_true.1 (List.all_eq_true.1 (List.all_eq_true.1 (List.all_eq_true.1 ha a (List.mem_range.2 h1)) b (List.mem_range.2 h2)) c (List.mem_range.2 h3)) d (List.mem_range.2 h4)
 unfold FA at hb
 rw[decide_eq_true h5,Bool.not_true,Bool.false_or,Bool.and_eq_true,Bool.and_eq_true]at hb
 exact⟨of_decide_eq_true hb.1,of_decide_eq_true hb.2.1,fun l hl=>List.all_eq_true.1 hb.2.2 l (List.mem_range.2 hl)⟩
#eval (A6 4 100 [[63624]]).pass 2 [0,2,1,3]
section
variable {C:Hp}
theorem xQ.mk{kd:IntKind}{a b:Int}{k:Value→Prop}(h:k (.int kd (if b>a then b else a))):xQ (.int kd a) (.int kd b) k:=⟨kd,a,b,rfl,rfl,h⟩
def zK:Nat→Nat
 |0=>1
 |k+1=>(k+1)*zK k
def YB(n s:Nat):Nat→Nat
 |1=>3*n*(n-1)
 |2=>3*n*(n-1)*(s+1)
 |3=>(n-1)*2
 |4=>(n-2)*10
 |5=>(n-3)*46
 |6=>n*(n-1)
 |_=>0
def sG(a b:Int)(k:Nat):Bool:=decide (a<1)||decide (64<a)||decide (b<0)||decide (1048576<b)||decide (6<k)
def SM(a b:Int)(k:Nat):Value:=if sG a b k=true then .tuple #[.int .i64 0,.int .i64 1]else .tuple #[.int .i64 ((YB a.toNat b.toNat k:Nat):Int),.int .i64 0]
theorem yw{a b:Int}{k:Nat}:Rd Tryz.prog 40 #[.int .i64 a,.int .i64 b,.int .u8 (k:Int)] C (· =SM a b k):=by
 intro g
 refine Je (R:=aE _) ?_
 unfold L40
 refine ae.lss ?_
 refine cv.or (a:=decide (a<1)) (decide (64<a)) (fun _=>ae.gtr ⟨rfl,rfl⟩) rfl fun _=>?_
 refine cv.or (a:=decide (a<1)||decide (64<a)) (decide (b<0)) (fun _=>ae.lss ⟨rfl,rfl⟩) rfl fun _=>?_
 refine cv.or (a:=decide (a<1)||decide (64<a)||decide (b<0)) (decide (1048576<b)) (fun _=>ae.gtr ⟨rfl,rfl⟩) rfl fun _=>?_
 refine cv.or (a:=decide (a<1)||decide (64<a)||decide (b<0)||decide (1048576<b)) (decide (6<k)) (fun _=>ae.lQ (b:=6) ⟨rfl,rfl⟩) rfl fun _=>?_
 unfold SM
 show Br (.bool (sG a b k)) _ _
 cases BO:sG a b k
 rotate_left
 ·refine Br.yes ?_
  exact bL.mk (.refl _) rfl
 refine Br.no ?_
 simp only[sG,Bool.or_eq_false_iff,decide_eq_false_iff_not]at BO
 obtain⟨⟨⟨⟨h1,h2⟩,h3⟩,h4⟩,h5⟩:=BO
 obtain⟨n,rfl⟩:∃n:Nat,a=n:=⟨a.toNat,by omega⟩
 obtain⟨s,rfl⟩:∃s:Nat,b=s:=⟨b.toNat,by omega⟩
 rw[Int.toNat_natCast,Int.toNat_natCast,if_neg (by decide)]
 have h33:3*n*(n-1)≤3*64*64:=Nat.mul_le_mul (by omega) (by omega)
 have h3s:3*n*(n-1)*(s+1)≤(3*64*64)*1048577:=Nat.mul_le_mul h33 (by omega)
 have h3e:n*(n-1)≤64*64:=Nat.mul_le_mul (by omega) (by omega)
 refine ae.gp (b:=1) (Br.dec (fun e=>?_) (fun e1=>?_))
 ·subst e
  refine ae.g6 (a:=3) (by simp[az];omega) ?_
  refine ae.bC (b:=1) (by simp[az];omega) (by omega) ?_
  refine ae.g6 (by simp[az];omega) ?_
  exact bL.mk (.refl _) rfl
 refine ae.gp (b:=2) (Br.dec (fun e=>?_) (fun e2=>?_))
 ·subst e
  refine ae.g6 (a:=3) (by simp[az];omega) ?_
  refine ae.bC (b:=1) (by simp[az];omega) (by omega) ?_
  refine ae.g6 (by simp[az];omega) ?_
  refine ae.aH (b:=1) (by simp[az];omega) ?_
  refine ae.g6 (by simp[az];omega) ?_
  exact bL.mk (.refl _) rfl
 intro Up h24
 have win:3≤k∧k≤5→Up [.bool true] C:=fun hk=>by
  refine h24 _ _ fun _=>Br.yes ?_
  refine ag.rd .here (yB hk) ?_
  rintro w rfl
  have hf:∀i,i<6→zK (i-1)≤24:=by decide
  refine⟨fun vs H=>∃i,2≤i∧i≤k∧vs=[.int .i64 ((zK (i-1):Nat):Int),.int .i64 (i:Int)]∧H=C,fun vs _=>k-bg vs 1,JE.mk ⟨2,by omega,by omega,rfl,rfl⟩,?_⟩
  rintro xY Jx H ⟨i,UW,BG,hv,rfl⟩ gs
  simp only[List.cons.injEq,and_true]at hv
  obtain⟨rfl,rfl⟩:=hv
  have WH:=hf i (by omega)
  have hm:zK (i-1)*i≤24*5:=Nat.mul_le_mul WH (by omega)
  refine ae.y4 (Br.dec (fun hlt=>?_) (fun hge=>?_))
  ·refine ae.g6 (by simp[az];omega) ?_
   refine ae.aH (b:=1) (by simp[az];omega) ?_
   refine ay.mk ⟨i+1,by omega,by omega,?_,rfl⟩ (by simp only[bg];omega)
   congr 3
   rw[show i+1-1=(i-1)+1 by omega,zK,show i-1+1=i by omega,Nat.mul_comm]
  ·obtain rfl:i=k:=by omega
   refine ae.jZ rfl (by omega) ?_
   refine ae.wm rfl (by omega) ?_
   refine xQ.mk ?_
   have e0:(if(n:Int) -((i-1:Nat):Int)+1>0 then(n:Int) -((i-1:Nat):Int)+1 else 0)=((n+2-i:Nat):Int):=by split<;>omega
   rw[e0]
   refine ae.g6 (b:=2) (by simp[az];omega) ?_
   have h1f:1≤zK (i-1):=by
    obtain rfl|rfl|rfl:i=3∨i=4∨i=5:=by omega
    all_goals decide
   refine ae.bC (b:=1) (by simp[az];omega) h1f ?_
   have vQ:(n+2-i)*2*(zK (i-1) -1)≤(66*2)*24:=Nat.mul_le_mul (by omega) (by omega)
   refine ae.g6 (by simp[az];omega) ?_
   refine bL.mk (.refl _) ?_
   have:YB n s i=(n+2-i)*2*(zK (i-1) -1):=by
    obtain rfl|rfl|rfl:i=3∨i=4∨i=5:=by omega
    ·show(n-1)*2=(n+2-3)*2*1;omega
    ·show(n-2)*10=(n+2-4)*2*5;omega
    ·show(n-3)*46=(n+2-5)*2*23;omega
   rw[this]
 have VL:¬(3≤k∧k≤5)→Up [.bool false] C:=fun hk=>by
  refine h24 _ _ fun _=>Br.no ?_
  refine ae.gp (b:=6) (Br.dec (fun e=>?_) (fun e2=>?_))
  ·subst e
   refine ae.bC (b:=1) (by simp[az];omega) (by omega) ?_
   refine ae.g6 (by simp[az];omega) ?_
   exact bL.mk (.refl _) rfl
  ·obtain rfl:k=0:=by omega
   exact bL.mk (.refl _) rfl
 refine ae.gp (b:=3) (Br.dec (fun e=>?_) (fun e3=>?_))
 ·rw[decide_eq_true e];exact JE.mk (win (by omega))
 refine ae.gp (b:=4) (Br.dec (fun e=>?_) (fun e4=>?_))
 ·rw[decide_eq_true e];exact JE.mk (win (by omega))
 refine ae.gp (b:=5) ?_
 by_cases e5:k=5
 ·rw[decide_eq_true e5];exact JE.mk (win (by omega))
 ·rw[decide_eq_false e5];exact JE.mk (VL (by omega))
theorem zO{a b:Int}{k:Nat}:Rd Tryz.prog 41 #[.int .i64 a,.int .i64 b,.int .u8 (k:Int)] C (· =SM a b k):=by
 intro g
 refine Jd (R:=aE _) ?_
 unfold L41
 refine ae.lss ?_
 refine cv.or (a:=decide (a<1)) (decide (64<a)) (fun _=>ae.gtr ⟨rfl,rfl⟩) rfl fun _=>?_
 refine cv.or (a:=decide (a<1)||decide (64<a)) (decide (b<0)) (fun _=>ae.lss ⟨rfl,rfl⟩) rfl fun _=>?_
 refine cv.or (a:=decide (a<1)||decide (64<a)||decide (b<0)) (decide (1048576<b)) (fun _=>ae.gtr ⟨rfl,rfl⟩) rfl fun _=>?_
 refine cv.or (a:=decide (a<1)||decide (64<a)||decide (b<0)||decide (1048576<b)) (decide (6<k)) (fun _=>ae.lQ (b:=6) ⟨rfl,rfl⟩) rfl fun _=>?_
 unfold SM
 show Br (.bool (sG a b k)) _ _
 cases BO:sG a b k
 rotate_left
 ·refine Br.yes ?_
  exact bL.mk (.refl _) rfl
 refine Br.no ?_
 simp only[sG,Bool.or_eq_false_iff,decide_eq_false_iff_not]at BO
 obtain⟨⟨⟨⟨h1,h2⟩,h3⟩,h4⟩,h5⟩:=BO
 obtain⟨n,rfl⟩:∃n:Nat,a=n:=⟨a.toNat,by omega⟩
 obtain⟨s,rfl⟩:∃s:Nat,b=s:=⟨b.toNat,by omega⟩
 rw[Int.toNat_natCast,Int.toNat_natCast,if_neg (by decide)]
 have h33:3*n*(n-1)≤3*64*64:=Nat.mul_le_mul (by omega) (by omega)
 have h3s:3*n*(n-1)*(s+1)≤(3*64*64)*1048577:=Nat.mul_le_mul h33 (by omega)
 have h3e:n*(n-1)≤64*64:=Nat.mul_le_mul (by omega) (by omega)
 intro rS h14
 have fin:∀z:Int,(if(0:Int)>z then 0 else z)=((YB n s k:Nat):Int)→rS [.int .i64 z] C:=fun z hz=>by
  refine h14 _ _ fun _=>xQ.mk ?_
  rw[hz]
  exact bL.mk (.refl _) rfl
 have fin':∀z:Nat,z=YB n s k→rS [.int .i64 (z:Int)] C:=fun z hz=>fin _ (by subst hz;split<;>omega)
 refine ae.gp (b:=1) (Br.dec (fun e=>?_) (fun e1=>?_))
 ·subst e
  refine ae.g6 (a:=3) (by simp[az];omega) ?_
  refine ae.bC (b:=1) (by simp[az];omega) (by omega) ?_
  refine ae.g6 (by simp[az];omega) ?_
  exact JE.mk (fin' _ rfl)
 refine ae.gp (b:=2) (Br.dec (fun e=>?_) (fun e2=>?_))
 ·subst e
  refine ae.g6 (a:=3) (by simp[az];omega) ?_
  refine ae.bC (b:=1) (by simp[az];omega) (by omega) ?_
  refine ae.g6 (by simp[az];omega) ?_
  refine ae.aH (b:=1) (by simp[az];omega) ?_
  refine ae.g6 (by simp[az];omega) ?_
  exact JE.mk (fin' _ rfl)
 refine ae.gp (b:=3) (Br.dec (fun e=>?_) (fun e3=>?_))
 ·subst e
  refine ae.bC (b:=1) (by simp[az];omega) (by omega) ?_
  refine ae.g6 (b:=2) (by simp[az];omega) ?_
  exact JE.mk (fin' _ rfl)
 refine ae.gp (b:=4) (Br.dec (fun e=>?_) (fun e4=>?_))
 ·subst e
  refine ae.jZ rfl (by omega) ?_
  refine ae.Li rfl (by omega) ?_
  refine JE.mk (fin _ ?_)
  show _=(((n-2)*10:Nat):Int)
  split<;>omega
 refine ae.gp (b:=5) (Br.dec (fun e=>?_) (fun e5=>?_))
 ·subst e
  refine ae.jZ rfl (by omega) ?_
  refine ae.Li rfl (by omega) ?_
  refine JE.mk (fin _ ?_)
  show _=(((n-3)*46:Nat):Int)
  split<;>omega
 refine ae.gp (b:=6) (Br.dec (fun e=>?_) (fun e6=>?_))
 ·subst e
  refine ae.bC (b:=1) (by simp[az];omega) (by omega) ?_
  refine ae.g6 (by simp[az];omega) ?_
  exact JE.mk (fin' _ rfl)
 obtain rfl:k=0:=by omega
 exact JE.mk (fin' 0 rfl)
end
section
variable {kp:Nat} {K:Kd} {S:Nat→bc.Fn} {tr:List Nat} {C:Hp}
theorem GY(hA:At kp K S [0,2,1,3] [] C)(hn:K.n=4)(vT:bc.Alike (rm K S) (A6 4 100 [[63624]]) (fun ord=>ord.Perm (List.range 4))){x:Nat}(hx:x=1∨x=3∨x=6):
  Fc Tryz.prog 49 #[ptr kp,.int .u8 (x:Int),.int .i64 ((200:Nat):Int)] C (fun v H=>∃o Vw c,v=.tuple #[KT 6 4 c (decide (x=6)),.int .i64 0]∧At kp K S o Vw H∧bW K S o=4):=by
 have hsz:∀o:List Nat,o.Perm (List.range 4)→bW K S o=(A6 4 100 [[63624]]).size o:=fun o ho=>vT.size o ho
 have h6:bW K S [0,2,1,3]=6:=by rw[hsz _ iZ];decide+kernel
 have zh:[0,2,1,3].Perm (List.range K.n):=by rw[hn];exact iZ
 obtain rfl|rfl|rfl:=hx
 ·refine KL hA (by decide) ((KK (gr:=200) hA zh (by decide) (by simp)).mono ?_) ?_
  ·rintro v H ⟨l,hl,rfl,qv⟩
   rw[hn]at hl
   have abJ:bc.Alike (rm K S) (A6 4 100 [[63624]]) (fun ord=>ord.Perm (List.range (rm K S).n)):=by
    rw[show(rm K S).n=4 from hn];exact vT
   have e:=tZ abJ (g:=200) (l:=l) (ord:=[0,2,1,3]) (by rw[show(rm K S).n=4 from hn];exact iZ) (fun v hv=>by rw[show(rm K S).n=4 from hn];exact List.mem_range.1 (hl.mem_iff.1 hv))
   have hok:=wQ (m:=rm K S) (g:=200) (l:=l) (ord:=[0,2,1,3]) zh (fun v hv=>by show v<K.n;rw[hn];exact List.mem_range.1 (hl.mem_iff.1 hv))
   have nr:(aC [0,2,1,3] ((rm K S).cS 200 [0,2,1,3] l).1).Perm (List.range 4):=by
    have:=oX zh hok.mem
    rw[hn]at this;exact this
   have h4:bW K S (aC [0,2,1,3] ((rm K S).cS 200 [0,2,1,3] l).1)=4:=by
    rw[hsz _ nr,e];exact(oq hl).1
   exact⟨_,_,_,by rw[h6,h4];rfl,qv,h4⟩
  ·rintro v H ⟨o,Vw,c,rfl,_⟩
   exact⟨_,_,_,_,_,rfl⟩
 ·refine A5 (w:=3) hA (by decide) (by decide) ((XJ hA vT iZ (w:=2) (a:=6) (b:=4) (cnt:=5) (YC:=[1]) (ord':=[0,1,2,3]) (by decide) (by omega) (by simp) (by decide+kernel) (by decide+kernel) (by decide) (by decide+kernel)).mono ?_) ?_
  ·rintro v H ⟨rfl,qv⟩
   exact⟨_,_,_,rfl,qv,by rw[hsz _ sW];decide+kernel⟩
  ·rintro v H ⟨o,Vw,c,rfl,_⟩
   exact⟨_,_,_,_,_,rfl⟩
 ·have hcan:∀ls:List Nat,(∀x∈ls,x+1<K.n)→(rm K S).can [0,2,1,3] ls=true:=fun ls hls=>by
   rw[(vT.can (ls:=ls) (ord:=[0,2,1,3]) hls iZ).1]
   refine Gd (A6 4 100 [[63624]]) (Q:=fun o=>o.Perm (List.range 4)) (fun o l ho hl=>oX (path:=[l]) ho (fun x hx=>by rw[List.mem_singleton.1 hx];exact hl)) (fun o l ho hl=>(oq ho).2.2 l ?_) iZ (fun x hx=>by have:=hls x hx;rw[hn]at this;exact this)
   have:l+1<4:=hl
   omega
  refine GX hA (by omega) (by decide) ((Ox hA zh (by omega) (by simp)).mono ?_) ?_
  ·intro v H hQ
   obtain⟨o,ls,hop,rfl,qv,hmin,_,_⟩:=aam hQ (by omega) zh hcan
   rw[hn]at hop
   have h4:bW K S o=4:=by
    have h1:=hmin [0,1,2,3] (by rw[hn];exact sW)
    have h2:bW K S [0,1,2,3]=4:=by rw[hsz _ sW];decide+kernel
    have h3:=(oq hop).2.1
    rw[←hsz _ hop]at h3
    omega
   exact⟨_,_,_,by rw[h6,h4];rfl,qv,h4⟩
  ·rintro v H ⟨o,Vw,c,rfl,_⟩
   exact⟨_,_,_,_,_,rfl⟩
end
theorem G7(B:Hp):Rd Tryz.prog 39 #[] B (· =.bool true):=by
 intro g
 refine Jf (R:=aE _) ?_
 unfold L39
 refine ax.VU (e:=5) (kd:=.u8) (x:=1) (y:=3) (z:=6) (by kernel_rfl) (by kernel_rfl) (by kernel_rfl) fun b0=>?_
 have hI:cE .u8 ((b0,Obj.cells (aF .u8 (iw [1,3,6])) 5 (0,0))::B) (.slice (some ⟨b0,0,none⟩) 3 3) (iw [1,3,6]):=cE.block (l:=iw [1,3,6]) (cap:=3) (.head _) (by simp[iw])
 show aG _ _
 refine hI.aS ?_
 rw[show(iw [1,3,6]).length=3 from rfl]
 obtain⟨B2,hB2⟩:∃B2:Hp,B2=(b0,Obj.cells (aF .u8 (iw [1,3,6])) 5 (0,0))::B:=⟨_,rfl⟩
 rw[←hB2]at hI
 refine⟨fun vs H=>∃i:Nat,i≤3∧vs=[.int .i64 (i:Int)]∧H=B2,fun vs _=>3-bg vs 0,JE.mk ⟨0,by omega,rfl,hB2.symm⟩,?_⟩
 rintro w8 H ⟨i,hi,hv,rfl⟩ gs
 simp only[List.cons.injEq,and_true]at hv
 subst hv
 refine ae.dL (b:=3) (Br.dec (fun hlt=>?_) (fun hge=>?_))
 ·obtain⟨x,hxg,hx⟩:∃x:Nat,[1,3,6][i]? =some x∧(x=1∨x=3∨x=6):=by
   obtain rfl|rfl|rfl:i=0∨i=1∨i=2:=by omega
   ·exact⟨1,rfl,by simp⟩
   ·exact⟨3,rfl,by simp⟩
   ·exact⟨6,rfl,by simp⟩
  refine hI.ld (n:=(x:Int)) (cy hxg) (fun _ h=>h) ?_
  refine⟨aF .i64 (iw [0,2,1,3]),3,1,.int .i64 0,by kernel_rfl,by kernel_rfl,by kernel_rfl,by decide,by kernel_rfl,fun bo _=>?_⟩
  refine ag.px (B:=[]) hnew (GZ []) ?_
  rintro v N ⟨s,rfl,hw⟩
  rw[List.append_nil]at hw⊢
  refine eU (n:=4) fun bt=>?_
  have eH:(bt,Obj.cells #[.int .i64 (4:Int),s] 57 (0,0))::(N++(bo,Obj.cells (aF .i64 (iw [0,2,1,3])) 3 (0,0))::H)=((bt,Obj.cells #[.int .i64 (4:Int),s] 57 (0,0))::(N++[(bo,Obj.cells (aF .i64 (iw [0,2,1,3])) 3 (0,0))]))++H:=by simp
  rw[eH]
  have hoI:cE .i64 ((bt,Obj.cells #[.int .i64 (4:Int),s] 57 (0,0))::(N++[(bo,Obj.cells (aF .i64 (iw [0,2,1,3])) 3 (0,0))])) (.slice (some ⟨bo,0,none⟩) 4 4) (iw [0,2,1,3]):=cE.block (l:=iw [0,2,1,3]) (cap:=4) (.tail _ (List.mem_append_right _ (.head _))) (by simp[iw])
  have hTb:cV ((bt,Obj.cells #[.int .i64 (4:Int),s] 57 (0,0))::(N++[(bo,Obj.cells (aF .i64 (iw [0,2,1,3])) 3 (0,0))])) (.slice (some ⟨bt,0,none⟩) 1 1) (gn 4 [[63624]]):=cV.one (cap:=0) (t:=⟨4,[63624]⟩) (.head _) (hw.mono fun _ h=>.tail _ (List.mem_append_left _ h))
  refine ag.fn .left (GP hoI hTb) ?_
  rintro v H2 ⟨kp,mp,vr,vt,K,S,M,refs,ts,C,Y',rfl,rfl,hA,hP,hn,vT⟩
  rw[List.append_assoc]
  have ⟨o1,o2⟩:=hP.aar
  refine Ext.mk rfl (Ext.mk rfl (Ext.mk rfl ?_))
  intro mI _
  refine St.whole (r:=[ptr kp,ptr mp,vr,vt]) (by exact .head _) rfl rfl (yK o1 o2) ?_
  refine Un.not (Br.no ?_)
  refine aa.mk (Ld.mk (v:=ptr kp) (by exact .head _) rfl ?_)
  refine ag.fn (args:=#[ptr kp,.int .u8 (x:Int),.int .i64 ((200:Nat):Int)]) (.cons (.app .left)) (GY hA hn vT hx) ?_
  rintro v C1 ⟨o,Vw,c,rfl,hA1,h4⟩
  refine Ext.mk rfl (Ext.mk rfl ?_)
  intro JK _
  refine St.whole (r:=[.int .i64 6,.int .i64 4,.int .i64 c,.bool (decide (x=6))]) (by exact .head _) rfl rfl (rW 6 4 c _) ?_
  intro yd h36
  have good:yd [.bool false] H:=by
   refine h36 _ _ fun gs=>Br.no ?_
   refine ae.aH (b:=1) (by simp[az];omega) ?_
   exact ay.mk ⟨i+1,by omega,rfl,rfl⟩ (by simp only[bg];omega)
  refine ae.gj (Split.go rfl ?_)
  refine aa.mk (Ld.mk (by exact .head _) rfl ?_)
  refine ae.gj (aD.mk (Split.go rfl ?_))
  refine aa.mk (Ld.mk (by exact .head _) rfl ?_)
  refine ae.gj (aD.mk (Split.go rfl ?_))
  refine aa.mk (Ld.mk (v:=ptr kp) (by exact .tail _ (.head _)) rfl ?_)
  refine ag.rd (.cons (.cons (.app .left))) (dF hA1) ?_
  rintro w rfl
  rw[h4]
  refine ae.gj (aD.mk (Split.go rfl ?_))
  refine aa.mk (Ld.mk (by exact .head _) rfl ?_)
  refine ae.gp (b:=6) (ae.aaw (aD.mk ?_))
  rw[show(!(decide (x=6)==decide (x=6)))=false by simp]
  exact JE.of (.skip (.skip (.bQ .right))) good
 ·refine ag.rd .here (yw (a:=4) (b:=10) (k:=2)) ?_
  rintro w rfl
  rw[show SM 4 10 2=.tuple #[.int .i64 396,.int .i64 0]from rfl]
  refine Ext.mk rfl (Ext.mk rfl ?_)
  refine ae.kJ ?_
  rw[decide_eq_true rfl]
  refine cv.and (a:=true) true (fun _=>ae.kJ ⟨rfl,rfl⟩) rfl fun _=>?_
  rw[hB2]
  exact bL.mk .tail rfl
theorem qh{a b:Int}{k:Nat}(B:Hp):Rd Tryz.prog 7 #[.int .i64 a,.int .i64 b,.int .u8 (k:Int)] B (· =.bool true):=by
 intro g
 refine NA (R:=aE _) ?_
 unfold L7
 refine ag.rd .here (G7 B) ?_
 rintro w rfl
 refine Un.not (Br.no ?_)
 refine ag.rd .here yw ?_
 rintro w rfl
 obtain⟨m,e,h⟩:∃(m e:Nat),SM a b k=.tuple #[.int .i64 (m:Int),.int .i64 (e:Int)]:=by
  unfold SM
  split
  ·exact⟨0,1,rfl⟩
  ·exact⟨_,0,rfl⟩
 rw[h]
 refine Ext.mk rfl (Ext.mk rfl ?_)
 refine ag.rd .here zO ?_
 rintro w rfl
 rw[h]
 refine Ext.mk rfl (Ext.mk rfl ?_)
 refine ae.kJ ?_
 rw[decide_eq_true rfl]
 refine cv.and (a:=true) true (fun _=>ae.kJ ⟨rfl,by rw[decide_eq_true rfl]⟩) rfl fun _=>?_
 exact bL.mk (.refl _) rfl
end Go.Proofs
