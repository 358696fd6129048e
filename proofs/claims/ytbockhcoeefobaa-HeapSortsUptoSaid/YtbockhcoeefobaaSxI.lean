/-
  Whole texts: den, and a call by it.
-/
import Derived.Test.YtbockhcoeefobaaSxO
set_option linter.unusedSimpArgs false
set_option linter.unusedVariables false
namespace Go.Sx
open Go
section
variable {P : Program} {g : World}

def AndIf (b : Bool) (p q : Prop) : Prop := cond b (p ∧ q) q
theorem AndIf.of {b : Bool} {p q : Prop} (h : AndIf b p q) : (b = true → p) ∧ q := by
  cases b
  · exact ⟨fun e => (by cases e), h⟩
  · exact ⟨fun _ => h.1, h.2⟩

/-- a statement whose operations may come in several orders, some of which write: taken in the order l, which is shown to stand for all; R: what none of them writes -/
def denD (P : Program) (g : World) (n : Nat) (ops : Array Oper) (R : Hp) (K : Fr → Hp → Prop) : List Nat → Array Bool → Fr → Hp → Prop
  | [], listed, fr, H => cond (Region.ready .any ops listed).isEmpty (K fr H) False
  | i :: r, listed, fr, H =>
    match ops[i]? with
    | none => False
    | some o =>
      cond (okDst n o.dst && o.guard.isNone)
        (cond (isP o.op)
          (cond (Region.free .any ops listed i && (Region.ready .any ops listed).contains i)
            (opP P g o (ev fr) R fun v => denD P g n ops R K r (listed.setIfInBounds i true) (upd fr o.dst v) H) False)
          (cond (Region.ready .any ops listed == [i])
            (opE P g o (ev fr) H (fun v H' => AndIf (needS P ops i) (Ent H' R) (denD P g n ops R K r (listed.setIfInBounds i true) (upd fr o.dst v) H')) (fun _ _ => False)) False)) False

def NoPan (Q : Exit → Act → World → Prop) : Exit → Act → World → Prop
  | .panic _, _, _ => False
  | e, a, w => Q e a w

theorem wanted_none {o : Oper} (h : o.guard.isNone = true) (y : Nat → Option Bool) : Region.wanted o y = true := by
  unfold Region.wanted
  cases hg : o.guard <;> simp_all

theorem Own.right0 {g : World} {H : Hp} {w : World} (h : Own g H w) : Own g [] w := Own.right (A := H) (B := []) (by simpa using h)
theorem unlisted_of {listed : Array Bool} {i k : Nat} (hun : listed.getD i true = false) (h : (listed.setIfInBounds i true).getD k true = false) : listed.getD k true = false := by
  by_cases e : i = k
  · rw [← e]; exact hun
  · rwa [getD_set_ne true e] at h
theorem denD_any {n : Nat} {ops : Array Oper} {R : Hp} {K : Fr → Hp → Prop} {Q : Exit → Act → World → Prop} (hs : Region.noSelect ops = true) (fr0 : Fr)
    (hk : ∀ a w fr H, Agree n a fr → Own g H w → OutEq ops.toList fr0 fr → K fr H → Q .normal a w) :
    ∀ (l : List Nat) (listed : Array Bool) (fr : Fr) (H : Hp), denD P g n ops R K l listed fr H → ∀ (fuel : Nat), l.length ≤ fuel → ∀ (a : Act) (w : World), Agree n a fr → Own g H w → ((∃ k ok, ops[k]? = some ok ∧ isRd P ok.op = true ∧ listed.getD k true = false) → Own g R w) → OutEq ops.toList fr0 fr →
      AnyS P .any ops (NoPan Q) (Keeps P g R ops) fuel listed a w
  | [], listed, fr, H, h => by
    intro fuel _ a w ha hw hR ho
    unfold denD at h
    cases hr : (Region.ready .any ops listed).isEmpty <;> simp only [hr, cond_true, cond_false] at h
    exact AnyS.done (Q := NoPan Q) (by simpa using hr) (hk a w fr H ha hw ho h) fuel
  | i :: r, listed, fr, H, h => by
    intro fuel hfuel a w ha hw hR ho
    unfold denD at h
    split at h <;> try exact h.elim
    rename_i o hoi
    have hmem : o ∈ ops.toList := Array.mem_toList_iff.2 (Array.mem_of_getElem? hoi)
    have hout : ∀ v, OutEq ops.toList fr0 (upd fr o.dst v) := fun v s hs' => by
      rw [upd_ne, ho s hs']
      have : ∀ l : List Oper, o ∈ l → inDsts l s = false → inDsts [({ (default : Oper) with dst := o.dst })] s = false := by
        intro l
        induction l with
        | nil => intro h; simp at h
        | cons x y ih =>
          intro hm hi
          rw [inDsts_cons, Bool.or_eq_false_iff] at hi
          rcases List.mem_cons.1 hm with rfl | hm
          · exact hi.1
          · exact ih hm hi.2
      exact this _ hmem hs'
    cases hc : (okDst n o.dst && o.guard.isNone) <;> simp only [hc, cond_true, cond_false] at h
    simp only [Bool.and_eq_true] at hc
    obtain ⟨fuel, rfl⟩ : ∃ f, fuel = f + 1 := ⟨fuel - 1, by simp only [List.length_cons] at hfuel; omega⟩
    have hfuel' : r.length ≤ fuel := by simp only [List.length_cons] at hfuel; omega
    cases hip : isP o.op <;> simp only [hip, cond_true, cond_false] at h
    case true =>
      cases hch : (Region.free .any ops listed i && (Region.ready .any ops listed).contains i) <;> simp only [hch, cond_true, cond_false] at h
      simp only [Bool.and_eq_true] at hch
      have hun := (mem_ready.1 (by simpa using hch.2 : i ∈ Region.ready .any ops listed)).1
      have hself : ∀ w, Keeps P g R ops i w w := fun w oj hoj' => ⟨fun _ => rfl, fun hn => (by rw [hoi] at hoj'; cases hoj'; rw [hip] at hn; cases hn)⟩
      cases hn : isN P o.op
      case true =>
        rw [opP_free hn (ev fr) R []] at h
        obtain ⟨v, hk', hr⟩ := opP_reads h
        refine AnyS.take (S0 := Own g []) hoi hs hch.1 hch.2 (fun _ _ _ h => h) (fun w _ => hself w) (fun j oj w w' hoj hj hno h0 hk => ?_) (.inl ⟨wanted_none hc.2 _, fun w' hw' => by rw [ha.eval]; exact hr w' hw'⟩) hw.right0 ?_
        · cases hpj : isP oj.op
          · exact ((hk oj hoj).2 hpj).1
          · rw [(hk oj hoj).1 hpj]; exact h0
        · refine denD_any hs fr0 hk r _ _ H hk' fuel hfuel' _ w (ha.put hc.1 v) hw ?_ (hout v)
          rintro ⟨k, ok, hk1, hk2, hk3⟩
          exact hR ⟨k, ok, hk1, hk2, unlisted_of hun hk3⟩
      case false =>
        obtain ⟨v, hk', hr⟩ := opP_reads h
        have hrd : isRd P o.op = true := by simp [isRd, hip, hn]
        have hR' : Own g R w := hR ⟨i, o, hoi, hrd, hun⟩
        refine AnyS.take (S0 := Own g R) hoi hs hch.1 hch.2 (fun _ _ _ h => h) (fun w _ => hself w) (fun j oj w w' hoj hj hno h0 hk => ?_) (.inl ⟨wanted_none hc.2 _, fun w' hw' => by rw [ha.eval]; exact hr w' hw'⟩) hR' ?_
        · cases hpj : isP oj.op
          · exact ((hk oj hoj).2 hpj).2 (needS_spec hoi hrd hj hno)
          · rw [(hk oj hoj).1 hpj]; exact h0
        · exact denD_any hs fr0 hk r _ _ H hk' fuel hfuel' _ w (ha.put hc.1 v) hw (fun _ => hR') (hout v)
    case false =>
      cases hch : (Region.ready .any ops listed == [i]) <;> simp only [hch, cond_true, cond_false] at h
      have hrd := beq_iff_eq.1 hch
      have hri : i ∈ Region.ready .any ops listed := by rw [hrd]; simp
      refine AnyS.all hrd (by simp) fun j hj => ?_
      simp only [List.mem_singleton] at hj
      subst hj
      unfold wpOp
      simp only [hoi, wanted_none hc.2, if_true]
      refine .inl ?_
      unfold Oper.wp
      rw [ha.eval]
      refine (opE_op (ev_func fr) h w hw).upon (fun v H' w' ho' hb => ?_) (fun ch H' w' _ h0 => h0.elim)
      obtain ⟨he, hk'⟩ := hb.of
      refine ⟨fun oj hoj' => ⟨fun hp => (by rw [hoi] at hoj'; cases hoj'; rw [hip] at hp; cases hp), fun _ => ⟨ho'.right0, fun hn => he hn _ _ ho'⟩⟩, denD_any hs fr0 hk r _ _ H' hk' fuel hfuel' _ w' (ha.put hc.1 v) ho' ?_ (hout v)⟩
      rintro ⟨k, ok, hk1, hk2, hk3⟩
      refine he ?_ _ _ ho'
      have hki : j ≠ k := fun e => by
        subst e
        rw [Array.getD_eq_getD_getElem?, Array.getElem?_setIfInBounds_self] at hk3
        have := (mem_ready.1 hri).1
        rw [Array.getD_eq_getD_getElem?] at this
        split at hk3
        · simp at hk3
        · rename_i hlt; rw [Array.getElem?_eq_none (by omega)] at this; simp at this
      rw [getD_set_ne true hki] at hk3
      refine needS_spec hk1 hk2 hki fun oj hj e he' hb' heq => ?_
      obtain ⟨_, o2, ho2, hall⟩ := mem_ready.1 hri
      rw [hj] at ho2; cases ho2
      have h1 := hall e he' hb'
      rw [heq, Array.getD_eq_getD_getElem?] at h1
      rw [Array.getD_eq_getD_getElem?] at hk3
      cases hg : listed[k]? with
      | none => rw [hg] at h1; simp at h1
      | some y => rw [hg] at h1 hk3; simp at h1 hk3; rw [hk3] at h1; cases h1

/-- hints: how a text is cut; nothing of truth hangs on them -/
inductive Hn
  | e
  | h (m : Nat) (L I : List Nat) (a b : Hn)
def Hn.m : Hn → Nat | .e => 0 | .h m _ _ _ _ => m
def Hn.L : Hn → List Nat | .e => [] | .h _ L _ _ _ => L
def Hn.I : Hn → List Nat | .e => [] | .h _ _ I _ _ => I
def Hn.a : Hn → Hn | .e => .e | .h _ _ _ a _ => a
def Hn.b : Hn → Hn | .e => .e | .h _ _ _ _ b => b

def inC : Code → Nat → Bool
  | .region _ ops _, s => inDsts ops.toList s
  | .seq a b, s => inC a s || inC b s
  | .cond _ a b, s => inC a s || inC b s
  | .block _ c, s => inC c s
  | .loop c, s => inC c s
  | .skip, _ => false
  | .ret, _ => false
  | .exit _, _ => false
  | _, _ => true
def noW (c : Code) : List Nat → Bool
  | [] => true
  | s :: r => !inC c s && noW c r
def elemB (s : Nat) : List Nat → Bool
  | [] => false
  | x :: r => Nat.beq s x || elemB s r
def mixL : List Nat → List Value → Fr → Fr
  | l :: L, v :: vs, base => fun s => cond (Nat.beq s l) v (mixL L vs base s)
  | _, _, base => base
def mix (L : List Nat) (vs : List Value) (I : List Nat) (fr gs : Fr) : Fr := mixL L vs fun s => cond (elemB s I) (fr s) (gs s)
def frs (fr : Fr) : List Nat → List Value
  | [] => []
  | s :: r => fr s :: frs fr r
def AllV : Nat → (List Value → Prop) → Prop
  | 0, p => p []
  | n + 1, p => ∀ v, AllV n fun vs => p (v :: vs)
theorem AllV.intro {p : List Value → Prop} (h : ∀ vs, p vs) : ∀ n, AllV n p
  | 0 => h _
  | n + 1 => fun v => AllV.intro (fun vs => h (v :: vs)) n
theorem AllV.elim {p : List Value → Prop} : ∀ {n : Nat}, AllV n p → ∀ vs : List Value, vs.length = n → p vs
  | 0, h, vs, e => by cases vs with | nil => exact h | cons x y => simp at e
  | n + 1, h, vs, e => by
    cases vs with
    | nil => simp at e
    | cons x y => exact AllV.elim (h x) y (by simpa using e)
theorem frs_length (fr : Fr) (L : List Nat) : (frs fr L).length = L.length := by induction L <;> simp [frs, *]
theorem mix_self {L I : List Nat} {fr fr' : Fr} (h : ∀ s, elemB s I = true → fr' s = fr s) : mix L (frs fr' L) I fr fr' = fr' := by
  funext s
  unfold mix
  induction L with
  | nil =>
    simp only [frs, mixL]
    cases he : elemB s I
    · rfl
    · exact (h s he).symm
  | cons l L ih =>
    simp only [frs, mixL]
    cases hb : Nat.beq s l
    · exact ih
    · have := Nat.eq_of_beq_eq_true hb; subst this; rfl
theorem noW_spec {c : Code} {I : List Nat} (h : noW c I = true) : ∀ s, elemB s I = true → inC c s = false := by
  induction I with
  | nil => intro s hs; simp [elemB] at hs
  | cons x r ih =>
    intro s hs
    simp only [noW, Bool.and_eq_true, Bool.not_eq_true'] at h
    simp only [elemB, Bool.or_eq_true] at hs
    rcases hs with hs | hs
    · rw [Nat.eq_of_beq_eq_true hs]; exact h.1
    · exact ih h.2 s hs

def thenD (next : Fr → Hp → Prop) (Q : Exit → Fr → Hp → Prop) : Exit → Fr → Hp → Prop
  | .normal, fr, H => next fr H
  | e, fr, H => Q e fr H
def blockD (id : Nat) (Q : Exit → Fr → Hp → Prop) : Exit → Fr → Hp → Prop
  | .exit id', fr, H => cond (Nat.beq id' id) (Q .normal fr H) (Q (.exit id') fr H)
  | e, fr, H => Q e fr H
/-- J, of a piece that this piece gives -/
def JE (J : List Value → Hp → Prop) (vs : List Value) (H : Hp) : Prop := ∃ H', Ent H H' ∧ J vs H'
/-- back at a loop's head, nearer to its end -/
def Back (I : List Value → Hp → Prop) (m : List Value → Hp → Nat) (vs' : List Value) (H' : Hp) (vs : List Value) (H : Hp) : Prop := ∃ H'', Ent H' H'' ∧ I vs' H'' ∧ m vs' H'' < m vs H
def Br (v : Value) (t f : Prop) : Prop := ∃ b, v = .bool b ∧ (b = true → t) ∧ (b = false → f)
/-- a loop: I holds at each round's head of the slots that it carries and the heap; m falls -/
def Loop (L : List Nat) (vs : List Value) (H : Hp) (body : (List Value → Hp → Prop) → List Value → Hp → Prop) : Prop :=
  ∃ (I : List Value → Hp → Prop) (m : List Value → Hp → Nat), JE I vs H ∧ AllV L.length fun vs => ∀ H', I vs H' → body (fun vs' H'' => Back I m vs' H'' vs H') vs H'
def Join (k : Nat) (rest : List Value → Hp → Prop) (body : (List Value → Hp → Prop) → Prop) : Prop :=
  ∀ J : List Value → Hp → Prop, (AllV k fun vs => ∀ H, rest vs H → J vs H) → body J
def DR (H : Hp) (body : Hp → Prop) : Prop := ∃ R, Ent H R ∧ body R

def den (P : Program) (g : World) (n : Nat) : Code → Hn → (Exit → Fr → Hp → Prop) → Fr → Hp → Prop
  | .skip, _, Q, fr, H => Q .normal fr H
  | .ret, _, Q, fr, H => Q .ret fr H
  | .exit id, _, Q, fr, H => Q (.exit id) fr H
  | .seq x y, hn, Q, fr, H =>
    match hn.m with
    | 0 => den P g n x hn.a (thenD (den P g n y hn.b Q) Q) fr H
    | _ => cond (noW x hn.I)
        (Join hn.L.length (fun vs H' => ∀ gs, den P g n y hn.b Q (mix hn.L vs hn.I fr gs) H') fun J => den P g n x hn.a (thenD (fun fr' H' => JE J (frs fr' hn.L) H') Q) fr H) False
  | .cond c x y, hn, Q, fr, H => Br (ev fr c) (den P g n x hn.a Q fr H) (den P g n y hn.b Q fr H)
  | .block id c, hn, Q, fr, H => den P g n c hn.a (blockD id Q) fr H
  | .loop c, hn, Q, fr, H =>
    cond (noW c hn.I)
      (Loop hn.L (frs fr hn.L) H fun J vs H' => ∀ gs, den P g n c hn.a (thenD (fun fr' H'' => J (frs fr' hn.L) H'') Q) (mix hn.L vs hn.I fr gs) H') False
  | .region id ops draw, hn, Q, fr, H =>
    cond draw
      (match hn.L with
      | [] => cond (P.follows .mixedOrders && Region.lexB .any ops) (denOps P g n ops true (ops.toList.length + 1) true none [] ops.toList fr H (fun _ fr' H' => Q .normal fr' H') (fun _ _ => False)) False
      | l => cond (P.follows .mixedOrders && Region.noSelect ops && Nat.ble l.length ops.size)
          (DR H fun R => denD P g n ops R (fun fr' H' => Q .normal fr' H') l (Array.replicate ops.size false) fr H) False)
      (denOps P g n ops (match hn.I with | [] => false | _ => true) (ops.toList.length + 1) false none [] ops.toList fr H (fun _ fr' H' => Q .normal fr' H') (fun ch H' => ∀ fr', Q (.panic ch) fr' H'))
  | _, _, _, _, _ => False

theorem wp_loop_rel {c : Code} {Q : Exit → Act → World → Prop} {a : Act} {w : World} (R : Act → World → Nat → Prop) (h₀ : ∃ m, R a w m)
    (round : ∀ a w m, R a w m → c.wp P (Exit.then (fun a' w' => ∃ m', m' < m ∧ R a' w' m') Q) a w) : (Code.loop c).wp P Q a w := by
  intro b k cs
  have key : ∀ n a w, R a w n →
      ∃ e a' w', Q e a' w' ∧ Arrives P (lone (b.at a (.code c :: .inLoop c :: k)) cs w) b k cs e a' w' := by
    intro n
    induction n using Nat.strongRecOn with
    | _ n ih =>
      intro a w hI
      obtain ⟨e, a₁, w₁, hq, harr⟩ := round a w n hI b (.inLoop c :: k) cs
      cases e with
      | normal =>
        obtain ⟨m', hlt, hI₁⟩ := hq
        obtain ⟨e₂, a₂, w₂, hq₂, harr₂⟩ := ih m' hlt a₁ w₁ hI₁
        exact ⟨e₂, a₂, w₂, hq₂, .of_steps (Steps.trans harr (.one step_inLoop)) harr₂⟩
      | exit id => exact ⟨_, a₁, w₁, hq, .pass (x := .inLoop c) rfl (fun _ _ => .inl (by simp)) harr⟩
      | goto l => exact ⟨_, a₁, w₁, hq, .pass (x := .inLoop c) rfl (fun _ _ => .inl (by simp)) harr⟩
      | ret => exact ⟨_, a₁, w₁, hq, .pass (x := .inLoop c) rfl (fun _ _ => .inl (by simp)) harr⟩
      | panic ch => exact ⟨_, a₁, w₁, hq, .pass (x := .inLoop c) rfl (fun _ _ => .inl (by simp)) harr⟩
      | outgrown => exact ⟨_, a₁, w₁, hq, .pass (x := .inLoop c) rfl (fun _ _ => .inl (by simp)) harr⟩
  obtain ⟨m, h₀⟩ := h₀
  obtain ⟨e, a', w', hq, harr⟩ := key m a w h₀
  exact ⟨e, a', w', hq, .of_steps (.one step_loop) harr⟩

def isPan : Exit → Bool
  | .panic _ => true
  | _ => false

theorem den_sound {n : Nat} : ∀ (c : Code) (hn : Hn) (Q : Exit → Fr → Hp → Prop) (fr : Fr) (H : Hp), den P g n c hn Q fr H → ∀ (a : Act) (w : World), Agree n a fr → Own g H w → c.wp P (fun e a' w' => ∃ fr' H', Agree n a' fr' ∧ Own g H' w' ∧ (isPan e = false → ∀ s, inC c s = false → fr' s = fr s) ∧ Q e fr' H') a w := by
  intro c
  induction c with
  | skip => intro hn Q fr H h a w ha hw; exact wp_skip ⟨fr, H, ha, hw, fun _ _ _ => rfl, h⟩
  | ret => intro hn Q fr H h a w ha hw; exact wp_ret ⟨fr, H, ha, hw, fun _ _ _ => rfl, h⟩
  | exit id => intro hn Q fr H h a w ha hw; exact wp_exit ⟨fr, H, ha, hw, fun _ _ _ => rfl, h⟩
  | seq x y ihx ihy =>
    intro hn Q fr H h a w ha hw
    unfold den at h
    have out2 : ∀ {fr1 fr2 : Fr}, (∀ s, inC x s = false → fr1 s = fr s) → (∀ s, inC y s = false → fr2 s = fr1 s) → ∀ s, inC (.seq x y) s = false → fr2 s = fr s := fun h1 h2 s hs => by
      simp only [inC, Bool.or_eq_false_iff] at hs
      rw [h2 s hs.2, h1 s hs.1]
    have out1 : ∀ {fr1 : Fr}, (∀ s, inC x s = false → fr1 s = fr s) → ∀ s, inC (.seq x y) s = false → fr1 s = fr s := fun h1 s hs => by
      simp only [inC, Bool.or_eq_false_iff] at hs
      exact h1 s hs.1
    split at h
    · refine wp_seq (wp_mono (ihx _ _ fr H h a w ha hw) ?_)
      rintro e a' w' ⟨fr', H', ha', hw', ho, hq⟩
      cases e with
      | normal => exact wp_mono (ihy _ _ fr' H' hq a' w' ha' hw') fun e2 a2 w2 ⟨fr2, H2, g1, g2, g3, g4⟩ => ⟨fr2, H2, g1, g2, fun hp => out2 (ho rfl) (g3 hp), g4⟩
      | exit id => exact ⟨fr', H', ha', hw', fun hp => out1 (ho hp), hq⟩
      | goto l => exact ⟨fr', H', ha', hw', fun hp => out1 (ho hp), hq⟩
      | ret => exact ⟨fr', H', ha', hw', fun hp => out1 (ho hp), hq⟩
      | panic ch => exact ⟨fr', H', ha', hw', fun hp => out1 (ho hp), hq⟩
      | outgrown => exact ⟨fr', H', ha', hw', fun hp => out1 (ho hp), hq⟩
    · cases hno : noW x hn.I <;> simp only [hno, cond_true, cond_false] at h
      have h' := h (fun vs H' => ∀ gs, den P g n y hn.b Q (mix hn.L vs hn.I fr gs) H') (AllV.intro (fun vs H' hh => hh) _)
      refine wp_seq (wp_mono (ihx _ _ fr H h' a w ha hw) ?_)
      rintro e a' w' ⟨fr', H', ha', hw', ho, hq⟩
      cases e with
      | normal =>
        obtain ⟨Hj, hent, hq⟩ := hq
        have hq' : den P g n y hn.b Q fr' Hj := by
          have := hq fr'
          rwa [mix_self fun s hs => ho rfl s (noW_spec hno s hs)] at this
        exact wp_mono (ihy _ _ fr' Hj hq' a' w' ha' (hent _ _ hw')) fun e2 a2 w2 ⟨fr2, H2, g1, g2, g3, g4⟩ => ⟨fr2, H2, g1, g2, fun hp => out2 (ho rfl) (g3 hp), g4⟩
      | exit id => exact ⟨fr', H', ha', hw', fun hp => out1 (ho hp), hq⟩
      | goto l => exact ⟨fr', H', ha', hw', fun hp => out1 (ho hp), hq⟩
      | ret => exact ⟨fr', H', ha', hw', fun hp => out1 (ho hp), hq⟩
      | panic ch => exact ⟨fr', H', ha', hw', fun hp => out1 (ho hp), hq⟩
      | outgrown => exact ⟨fr', H', ha', hw', fun hp => out1 (ho hp), hq⟩
  | cond c x y ihx ihy =>
    intro hn Q fr H h a w ha hw
    obtain ⟨b, hb, ht, hf⟩ := h
    refine wp_cond_split (t := b) (by rw [ha.eval]; exact hb) (fun e => ?_) (fun e => ?_)
    · exact wp_mono (ihx _ _ fr H (ht e) a w ha hw) fun e2 a2 w2 ⟨fr2, H2, g1, g2, g3, g4⟩ => ⟨fr2, H2, g1, g2, fun hp s hs => g3 hp s (by simp only [inC, Bool.or_eq_false_iff] at hs; exact hs.1), g4⟩
    · exact wp_mono (ihy _ _ fr H (hf e) a w ha hw) fun e2 a2 w2 ⟨fr2, H2, g1, g2, g3, g4⟩ => ⟨fr2, H2, g1, g2, fun hp s hs => g3 hp s (by simp only [inC, Bool.or_eq_false_iff] at hs; exact hs.2), g4⟩
  | block id c ih =>
    intro hn Q fr H h a w ha hw
    refine wp_block (wp_mono (ih _ _ fr H h a w ha hw) ?_)
    rintro e a' w' ⟨fr', H', ha', hw', ho, hq⟩
    cases e with
    | exit id' =>
      simp only [blockD] at hq
      cases hb : Nat.beq id' id <;> simp only [hb, cond_true, cond_false] at hq
      · have : id' ≠ id := fun e => by subst e; simp at hb
        simp only [Exit.inBlock, this, if_false]
        exact ⟨fr', H', ha', hw', ho, hq⟩
      · have := Nat.eq_of_beq_eq_true hb
        simp only [Exit.inBlock, this, if_true]
        exact ⟨fr', H', ha', hw', ho, hq⟩
    | normal => exact ⟨fr', H', ha', hw', ho, hq⟩
    | goto l => exact ⟨fr', H', ha', hw', ho, hq⟩
    | ret => exact ⟨fr', H', ha', hw', ho, hq⟩
    | panic ch => exact ⟨fr', H', ha', hw', ho, hq⟩
    | outgrown => exact ⟨fr', H', ha', hw', ho, hq⟩
  | loop c ih =>
    intro hn Q fr H h a w ha hw
    unfold den at h
    cases hno : noW c hn.I <;> simp only [hno, cond_true, cond_false] at h
    obtain ⟨I, m, ⟨H0, hent0, h0⟩, hr⟩ := h
    refine wp_loop_rel (fun a w k => ∃ fr' H', Agree n a fr' ∧ Own g H' w ∧ (∀ s, inC c s = false → fr' s = fr s) ∧ I (frs fr' hn.L) H' ∧ m (frs fr' hn.L) H' = k) ⟨_, fr, H0, ha, hent0 _ _ hw, fun _ _ => rfl, h0, rfl⟩ ?_
    rintro a w k ⟨fr1, H1, ha1, hw1, ho1, hI, rfl⟩
    have hb := hr.elim (frs fr1 hn.L) (frs_length _ _) H1 hI fr1
    rw [mix_self fun s hs => ho1 s (noW_spec hno s hs)] at hb
    refine wp_mono (ih _ _ fr1 H1 hb a w ha1 hw1) ?_
    rintro e a' w' ⟨fr', H', ha', hw', ho, hq⟩
    have ho' : isPan e = false → ∀ s, inC c s = false → fr' s = fr s := fun hp s hs => (ho hp s hs).trans (ho1 s hs)
    cases e with
    | normal => obtain ⟨Hj, hent, hq1, hq2⟩ := hq; exact ⟨_, hq2, fr', Hj, ha', hent _ _ hw', ho' rfl, hq1, rfl⟩
    | exit id => exact ⟨fr', H', ha', hw', ho', hq⟩
    | goto l => exact ⟨fr', H', ha', hw', ho', hq⟩
    | ret => exact ⟨fr', H', ha', hw', ho', hq⟩
    | panic ch => exact ⟨fr', H', ha', hw', ho', hq⟩
    | outgrown => exact ⟨fr', H', ha', hw', ho', hq⟩
  | region id ops draw =>
    intro hn Q fr H h a w ha hw
    unfold den at h
    cases draw <;> simp only [cond_true, cond_false] at h
    case false =>
      refine wp_region_list ?_
      have := denOps_seq _ _ _ _ _ fr H _ _ h trivial (KnOK.nil fr) a w ha hw [] (fun e a' w' => ∃ fr' H', Agree n a' fr' ∧ Own g H' w' ∧ (isPan e = false → ∀ s, inC (.region id ops false) s = false → fr' s = fr s) ∧ Q e fr' H') ?_ ?_
      · simpa using this
      · intro a' w' kn' fr' H' h1 h2 h3 _ h4
        exact ⟨fr', H', h1, h2, fun _ => h3, h4⟩
      · intro ch a' w' fr' H' h1 h2 h3
        exact ⟨fr', H', h1, h2, fun hp => by simp [isPan] at hp, h3 fr'⟩
    case true =>
      split at h
      · cases hc : (P.follows .mixedOrders && Region.lexB .any ops) <;> simp only [hc, cond_true, cond_false] at h
        simp only [Bool.and_eq_true] at hc
        refine wp_region_quiet (C := Own g H) hc.1 hc.2 hw.drew' ?_
        have := denOps_quiet _ none _ ops.toList fr H _ _ h trivial (KnOK.nil fr) a ha [] (fun a' => ∀ w', Own g H w' → ∃ fr' H', Agree n a' fr' ∧ Own g H' w' ∧ (isPan .normal = false → ∀ s, inC (.region id ops true) s = false → fr' s = fr s) ∧ Q .normal fr' H') ?_
        · simpa using this
        · intro a' kn' fr' h1 h3 _ h4
          exact fun w' hw' => ⟨fr', H, h1, hw', fun _ => h3, h4⟩
      · rename_i l _
        cases hc : (P.follows .mixedOrders && Region.noSelect ops && Nat.ble hn.L.length ops.size) <;> simp only [hc, cond_true, cond_false] at h
        simp only [Bool.and_eq_true] at hc
        obtain ⟨R, hR, h⟩ := h
        refine wp_mono (Q := NoPan fun e a' w' => ∃ fr' H', Agree n a' fr' ∧ Own g H' w' ∧ (isPan e = false → ∀ s, inC (.region id ops true) s = false → fr' s = fr s) ∧ Q e fr' H') ?_ ?_
        · refine wp_region_any hc.1.1 (AnyS.any (S := Keeps P g R ops) ?_)
          exact denD_any hc.1.2 fr (fun a w fr' H' h1 h2 h3 h4 => ⟨fr', H', h1, h2, fun _ => h3, h4⟩) _ _ fr H h _ (Nat.le_of_ble_eq_true hc.2) _ _ ha hw.drew' (fun _ => (hR _ _ hw).drew') (OutEq.refl _ _)
        · intro e a w h
          cases e <;> first | exact h | exact h.elim
  | label l => intro hn Q fr H h; exact h.elim
  | goto l => intro hn Q fr H h; exact h.elim
  | scope c _ => intro hn Q fr H h; exact h.elim
  | refuse s => intro hn Q fr H h; exact h.elim
  | rangeFunc f ps as b _ _ => intro hn Q fr H h; exact h.elim

/-! words of the listings -/
def PanR (R : Ending → Hp → Prop) : List PanicEntry → Hp → Prop := fun ch H => ∀ _ : Fr, R (.panicked ch) H
def NoKP : List PanicEntry → Hp → Prop := fun _ _ => False
/-- operation i of region id of a function's text -/
def regAt : Code → Nat → Option (Array Oper)
  | .region id ops _, k => cond (Nat.beq id k) (some ops) none
  | .seq a b, k => match regAt a k with | some x => some x | none => regAt b k
  | .cond _ a b, k => match regAt a k with | some x => some x | none => regAt b k
  | .block _ c, k => regAt c k
  | .loop c, k => regAt c k
  | _, _ => none
def opAt (f : Func) (r i : Nat) : Oper := match f.body with | some c => (match regAt c r with | some ops => (match ops[i]? with | some o => o | none => default) | none => default) | none => default

/-! a call -/
def initFr : List Value → Nat → Fr
  | [], _ => fun _ => undef
  | v :: r, i => fun s => cond (Nat.beq s i) v (initFr r (i + 1) s)
def resL (P : Program) (fr : Fr) (H : Hp) : List ResultVar → (List Value → Prop) → Prop
  | [], k => k []
  | .tmp t :: r, k => resL P fr H r fun vs => k (fr t :: vs)
  | .cell a t :: r, k => match P.underlying t, sizeD P t with
    | some d, some n => cond (isAggD d) (LdA n H (fr a) fun v => resL P fr H r fun vs => k (v :: vs)) (Ld H (fr a) fun v => resL P fr H r fun vs => k (v :: vs))
    | _, _ => False
def tupV : List Value → Value
  | [v] => v
  | vs => .tuple vs.toArray
def endQ (P : Program) (fn : Func) (R : Ending → Hp → Prop) : Exit → Fr → Hp → Prop
  | .normal, fr, H => resL P fr H fn.results.toList fun vs => R (.returned (tupV vs)) H
  | .ret, fr, H => resL P fr H fn.results.toList fun vs => R (.returned (tupV vs)) H
  | .panic ch, _, H => R (.panicked ch) H
  | _, _, _ => False
def denF (P : Program) (g : World) (fn : Func) (hn : Hn) (args : List Value) (H : Hp) (R : Ending → Hp → Prop) : Prop :=
  match fn.body with
  | some c => cond (Nat.ble args.length fn.ntmps) (den P g fn.ntmps c hn (endQ P fn R) (initFr args 0) H) False
  | none => False

theorem initFr_get : ∀ (l : List Value) (i s : Nat), initFr l i s = if s < i then undef else l.getD (s - i) undef
  | [], i, s => by simp [initFr]
  | v :: r, i, s => by
    simp only [initFr, initFr_get r (i + 1) s]
    cases hb : Nat.beq s i
    · have hne : s ≠ i := fun e => by subst e; simp at hb
      simp only [cond_false]
      by_cases h : s < i
      · rw [if_pos (by omega), if_pos h]
      · rw [if_neg (by omega), if_neg h, show s - i = (s - (i + 1)) + 1 by omega]
        simp [List.getD]
    · have := Nat.eq_of_beq_eq_true hb; subst this
      simp [List.getD]

def resF (fr : Fr) : ResultVar → Sem Value
  | .tmp t => pure (fr t)
  | .cell b t => do loadVar t (← asAddr (fr b))
theorem loadVar_run {fr : Fr} {H : Hp} {w : World} (hw : Own g H w) {b : Tmp} {t : TypeId} {v : Value} {p : Addr} (hp : fr b = .pointer (some p)) (h : (Instr.loadAt t (fr b)).run P w = .ok v w) : (resF fr (.cell b t)).run P w = .ok v w := by
  rw [hp] at h
  simp only [resF, hp, asAddr]
  simpa [Instr.loadAt, Instr.sureAddr] using h
theorem resL_run {fr : Fr} {H : Hp} {w : World} (hw : Own g H w) : ∀ (l : List ResultVar) (k : List Value → Prop), resL P fr H l k →
    ∃ vs, (l.mapM (resF fr)).run P w = .ok vs w ∧ k vs
  | [], k, h => ⟨[], by simp, h⟩
  | .tmp t :: r, k, h => by
    obtain ⟨vs, hr, hk⟩ := resL_run hw r _ h
    refine ⟨fr t :: vs, ?_, hk⟩
    simp only [List.mapM_cons, Sem.run_bind, Sem.run_pure, Result.andThen_ok, hr, resF]
  | .cell b t :: r, k, h => by
    unfold resL at h
    split at h <;> try exact h.elim
    rename_i d m hd hm
    obtain ⟨i, hi, him⟩ := sizeD_spec hm
    cases hag : isAggD d <;> simp only [hag, cond_true, cond_false] at h
    · obtain ⟨v, hk', hf⟩ := h.fix
      obtain ⟨v2, hr2, e⟩ := hf.run (P := P) hw hd hag
      subst e
      obtain ⟨bb, off, c, T, fz, u, hp, _⟩ := hf
      obtain ⟨vs, hr, hk⟩ := resL_run hw r _ hk'
      refine ⟨v2 :: vs, ?_, hk⟩
      have := loadVar_run hw hp hr2
      simp only [List.mapM_cons, Sem.run_bind, Result.andThen_ok, hr, Sem.run_pure, this]
    · obtain ⟨v, hk', hf⟩ := h.fix
      obtain ⟨v2, hr2, e⟩ := hf.run (P := P) hw hd hag hi him
      subst e
      obtain ⟨bb, off, c, T, fz, hp, _⟩ := hf
      obtain ⟨vs, hr, hk⟩ := resL_run hw r _ hk'
      refine ⟨v2 :: vs, ?_, hk⟩
      have := loadVar_run hw hp hr2
      simp only [List.mapM_cons, Sem.run_bind, Result.andThen_ok, hr, Sem.run_pure, this]
theorem results_run {fn : Func} {fr : Fr} {H : Hp} {n : Nat} {a : Act} {w : World} (ha : Agree n a fr) (hw : Own g H w) {k : List Value → Prop} (h : resL P fr H fn.results.toList k) :
    ∃ vs, (results fn a.tmps).run P w = .ok (tupV vs) w ∧ k vs := by
  obtain ⟨vs, hr, hk⟩ := resL_run (P := P) hw _ _ h
  refine ⟨vs, ?_, hk⟩
  have e : results fn a.tmps = (do let vs ← fn.results.mapM (resF fr); pure (if h : vs.size = 1 then vs[0] else .tuple vs)) := by
    unfold results
    congr 1
    congr 1
    funext x
    cases x <;> simp only [resF, ha.get]
  rw [e, Array.mapM_eq_mapM_toList]
  simp only [Sem.run_bind, Sem.run_map, hr, Result.andThen_ok, Sem.run_pure]
  congr 1
  match vs with
  | [] => rfl
  | [v] => rfl
  | a :: b :: r => simp [tupV]

theorem denF_sound {f : FuncId} {fn : Func} {hn : Hn} {args : List Value} {H : Hp} {R : Ending → Hp → Prop} (hf : P.funcs[f]? = some fn) (h : denF P g fn hn args H R) : SCalls P g f args.toArray H R := by
  intro w hw
  unfold denF at h
  split at h <;> try exact h.elim
  rename_i c hc
  cases hl : Nat.ble args.length fn.ntmps <;> simp only [hl, cond_true, cond_false] at h
  have hle := Nat.le_of_ble_eq_true hl
  refine calls_of_wp hf hc (wp_mono (den_sound c hn _ _ H h _ w ⟨rfl, ?_, ?_⟩ hw) ?_)
  · simp; omega
  · intro s
    rw [initFr_get, Array.getD_eq_getD_getElem?, Array.getElem?_append]
    simp only [List.size_toArray, Nat.not_lt_zero, if_false, Nat.sub_zero]
    by_cases hs : s < args.length
    · simp [hs, List.getD]
    · rw [if_neg hs]
      rw [Array.getElem?_replicate]
      have : args.getD s undef = undef := by simp [List.getD, List.getElem?_eq_none (Nat.le_of_not_lt hs)]
      rw [this]
      split <;> rfl
  · rintro e a' w' ⟨fr', H', ha', hw', _, hq⟩
    cases e with
    | normal => obtain ⟨vs, hr, hk⟩ := results_run ha' hw' hq; exact ⟨ha'.defers, _, hr, H', hw', hk⟩
    | ret => obtain ⟨vs, hr, hk⟩ := results_run ha' hw' hq; exact ⟨ha'.defers, _, hr, H', hw', hk⟩
    | panic ch => exact ⟨ha'.defers, H', hw', hq⟩
    | exit id => exact hq.elim
    | goto l => exact hq.elim
    | outgrown => exact hq.elim
end
end Go.Sx
