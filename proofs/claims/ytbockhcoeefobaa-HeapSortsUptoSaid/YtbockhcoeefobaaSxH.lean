/-
  denOps is true of the model's run of a statement's operations: in the text's order (denOps_seq), and in whatever order where all only read (denOps_quiet).
-/
import Derived.Test.YtbockhcoeefobaaSxG
set_option linter.unusedSimpArgs false
set_option linter.unusedVariables false
namespace Go.Sx
open Go
section
variable {P : Program} {g : World}

theorem ev_func (fr : Fr) : ∀ f, ev fr (.func f) = .func (.func f) #[] #[] := fun _ => rfl

theorem opQ_run {o : Oper} {fr : Fr} {H : Hp} {k : Value → Prop} (h : opQ P g o (ev fr) H k) :
    ∃ v f args, (∀ w, (execOp (ev fr) o).run P w = .ok (.enter f args) w) ∧ SCalls P g f args H (fun e H' => e = .returned v ∧ H' = H) ∧ k v := by
  unfold opQ at h
  split at h <;> try exact h.elim
  rename_i c hop
  split at h <;> try exact h.elim
  · rename_i f hc
    cases hcl : callable P f <;> simp only [hcl, cond_true, cond_false] at h
    obtain ⟨v, hs, hk⟩ := h
    rw [mapList] at hs
    refine ⟨v, f, _, fun w => ?_, hs, hk⟩
    simp only [execOp, hop, resolve, hc, Deferred.ofValue, ev_func, invoke]
    show (callFunc f ((#[] ++ c.args.map (ev fr)) ++ #[])).run P w = _
    rw [Array.empty_append, Array.append_empty]
    exact callable_run hcl _ w
  · rename_i x _ hc
    obtain ⟨f, first, captured, hf, hcl, v, hs, hk⟩ := h
    rw [mapList] at hs
    refine ⟨v, f, _, fun w => ?_, hs, hk⟩
    simp only [execOp, hop, resolve, hc, Deferred.ofValue, hf, invoke]
    show (callFunc f (first ++ c.args.map (ev fr) ++ captured)).run P w = _
    exact callable_run hcl _ w

theorem After.upon {o : Oper} {a : Act} {K : Value → Hp → Prop} {KP : List PanicEntry → Hp → Prop} {next : Act → World → Prop} {Q : Exit → Act → World → Prop} {r : Result Next}
    (h : After P g K KP r) (hn : ∀ v H' w', Own g H' w' → K v H' → next (a.put o.dst v) w') (hp : ∀ ch H' w', Own g H' w' → KP ch H' → Q (.panic ch) a w') : o.upon P a next Q r := by
  cases r with
  | ok n w' =>
    cases n <;> simp only [After] at h <;> simp only [Oper.upon]
    case value v => obtain ⟨H', ho, hk⟩ := h; exact hn _ _ _ ho hk
    case skip => obtain ⟨H', ho, hk⟩ := h; exact hn _ _ _ ho hk
    case enter f args =>
      refine h.mono fun e w'' ⟨H', ho, hk⟩ => ?_
      cases e with
      | returned v => exact hn _ _ _ ho hk
      | panicked ch => exact hp _ _ _ ho hk
      | outgrown => exact hk.elim
  | halt x w' =>
    cases x <;> simp only [After] at h
    case panic v => obtain ⟨H', ho, hk⟩ := h; exact hp _ _ _ ho hk

theorem OutEq.refl (l : List Oper) (fr : Fr) : OutEq l fr fr := fun _ _ => rfl
theorem OutEq.cons {o : Oper} {r : List Oper} {fr fr' : Fr} {v : Value} (h : OutEq r (upd fr o.dst v) fr') : OutEq (o :: r) fr fr' := fun s hs => by
  rw [inDsts_cons, Bool.or_eq_false_iff] at hs
  rw [h s hs.2, upd_ne hs.1]

theorem denOps_seq {n : Nat} {ops : Array Oper} {gq : Bool} : ∀ (f : Nat) (q : Bool) (cur : Option (Nat × Bool)) (kn : List (Nat × Bool)) (l : List Oper) (fr : Fr) (H : Hp) (K : List (Nat × Bool) → Fr → Hp → Prop) (KP : List PanicEntry → Hp → Prop),
    denOps P g n ops gq f q cur kn l fr H K KP → CurOK ops cur l fr → KnOK kn fr → ∀ (a : Act) (w : World), Agree n a fr → Own g H w → ∀ (rest : List Oper) (Q : Exit → Act → World → Prop),
    (∀ a' w' kn' fr' H', Agree n a' fr' → Own g H' w' → OutEq l fr fr' → KnOK kn' fr' → K kn' fr' H' → wpList P ops Q rest a' w') →
    (∀ ch a' w' fr' H', Agree n a' fr' → Own g H' w' → KP ch H' → Q (.panic ch) a' w') → wpList P ops Q (l ++ rest) a w
  | 0, _, _, _, _, _, _, _, _, h => h.elim
  | f + 1, q, cur, kn, [], fr, H, K, KP, h => fun _ hkn a w ha hw rest Q hk _ => hk a w kn fr H ha hw (OutEq.refl _ _) hkn h
  | f + 1, q, cur, kn, o :: r, fr, H, K, KP, h => by
    intro hcur hkn a w ha hw rest Q hk hp
    unfold denOps at h
    cases hsg : sameGuard o.guard cur <;> simp only [hsg, cond_true, cond_false] at h
    case true =>
      have hg := sameGuard_eq hsg
      have hwant := hcur.wanted hg ha
      cases hd : okDst n o.dst <;> simp only [hd, cond_true, cond_false] at h
      simp only [List.cons_append, wpList, hwant, if_true]
      refine .inl ?_
      unfold Oper.wp
      rw [ha.eval]
      cases hip : isP o.op <;> simp only [hip, cond_true, cond_false] at h
      case true =>
        obtain ⟨v, hk', hr, hv⟩ := opP_val h
        rw [hr w hw]
        exact denOps_seq f q cur _ r _ H K KP hk' (hcur.tail fun s hs => upd_ne hs) (hkn.up hv) _ w (ha.put hd v) hw rest Q (fun a' w' kn' fr' H' h1 h2 h3 h5 h4 => hk a' w' kn' fr' H' h1 h2 h3.cons h5 h4) hp
      case false =>
        cases q <;> simp only [cond_true, cond_false] at h
        case true =>
          obtain ⟨v, f', args, hr, hs, hk'⟩ := opQ_run h
          rw [hr w]
          refine (hs w hw).mono fun e w'' ⟨H', ho, he, hH⟩ => ?_
          subst he; subst hH
          exact denOps_seq f true cur _ r _ H' K KP hk' (hcur.tail fun s hs => upd_ne hs) (hkn.del _ _) _ w'' (ha.put hd v) ho rest Q (fun a' w' kn' fr' H' h1 h2 h3 h5 h4 => hk a' w' kn' fr' H' h1 h2 h3.cons h5 h4) hp
        case false =>
          refine (opE_op (ev_func fr) h w hw).upon (fun v H' w' ho hk' => ?_) (fun ch H' w' ho hk' => hp ch a w' fr H' ha ho hk')
          exact denOps_seq f false cur _ r _ H' K KP hk' (hcur.tail fun s hs => upd_ne hs) (hkn.del _ _) _ w' (ha.put hd v) ho rest Q (fun a' w' kn' fr' H' h1 h2 h3 h5 h4 => hk a' w' kn' fr' H' h1 h2 h3.cons h5 h4) hp
    case false =>
      split at h <;> try exact h.elim
      rename_i j want hog
      split at h <;> try exact h.elim
      rename_i s hslot
      generalize hG : takeG cur (o :: r) = G at h
      generalize hR : dropG cur (o :: r) = R at h
      have hGR : G ++ R = o :: r := by rw [← hG, ← hR]; exact take_drop_G _ _
      cases hchk : (okDst n (some s) && okDsts n G && !inDsts G s && skipOK ops s want [] G) <;> simp only [hchk, cond_true, cond_false] at h
      simp only [Bool.and_eq_true, Bool.not_eq_true'] at hchk
      obtain ⟨⟨⟨hds, hdG⟩, hiG⟩, hsk⟩ := hchk
      rw [← hGR, List.append_assoc]
      have hOutG : ∀ fr', OutEq G fr fr' → ∀ s, inDsts (o :: r) s = false → fr' s = fr s := fun fr' ho s hs => by
        rw [← hGR, inDsts_append, Bool.or_eq_false_iff] at hs
        exact ho s hs.1
      have hcurR : ∀ fr', OutEq G fr fr' → CurOK ops cur R fr' := fun fr' ho => by
        unfold CurOK at hcur ⊢
        split
        · trivial
        · obtain ⟨t, h1, h2, h3⟩ := hcur
          have h3' := h3
          rw [← hGR, inDsts_append, Bool.or_eq_false_iff] at h3'
          exact ⟨t, h1, (ho t h3'.1).trans h2, h3'.2⟩
      have hknG : ∀ fr', OutEq G fr fr' → KnOK (knDels kn G) fr' := fun fr' ho => hkn.dels G ho
      split at h
      · rename_i b hb
        have hfs := hkn s b hb
        cases hbw : (b == want) <;> simp only [hbw, cond_true, cond_false] at h
        · have hbw' : b = !want := by cases b <;> cases want <;> simp_all
          subst hbw'
          refine skip_list G [] fr a hdG hiG hsk hfs (fun t ht => by simp at ht) ha fun a' ha' => ?_
          refine denOps_seq f q cur _ R _ H K KP h (hcurR _ (skipG_out G fr)) (hknG _ (skipG_out G fr)) a' w ha' hw rest Q (fun a2 w2 kn2 fr2 H2 k1 k2 k3 k5 k4 => hk a2 w2 kn2 fr2 H2 k1 k2 ?_ k5 k4) hp
          intro x hx
          have hx' := hx
          rw [← hGR, inDsts_append, Bool.or_eq_false_iff] at hx'
          rw [k3 x hx'.2, skipG_out G fr x hx'.1]
        · have hbw' : b = want := by cases b <;> cases want <;> simp_all
          subst hbw'
          refine denOps_seq f q o.guard kn G fr H _ KP h ?_ hkn a w ha hw (R ++ rest) Q ?_ hp
          · rw [hog]; exact ⟨s, hslot, hfs, hiG⟩
          · intro a' w' kn' fr' H' g1 g2 g3 g5 g4
            refine denOps_seq f q cur kn' R fr' H' K KP g4 (hcurR fr' g3) g5 a' w' g1 g2 rest Q (fun a2 w2 kn2 fr2 H2 k1 k2 k3 k5 k4 => hk a2 w2 kn2 fr2 H2 k1 k2 ?_ k5 k4) hp
            intro x hx
            have hx' := hx
            rw [← hGR, inDsts_append, Bool.or_eq_false_iff] at hx'
            rw [k3 x hx'.2, g3 x hx'.1]
      rename_i hknone
      cases hqq : (q || gq) <;> simp only [hqq, cond_true, cond_false] at h
      case true =>
        split at h <;> try exact h.elim
        rename_i p r' 
        have hpg : sameGuard p.guard cur = true := by
          have : ∀ l : List Oper, dropG cur l = p :: r' → sameGuard p.guard cur = true := by
            intro l
            induction l with
            | nil => intro e; simp [dropG] at e
            | cons x y ih =>
              intro e
              simp only [dropG] at e
              cases hx : sameGuard x.guard cur <;> simp only [hx, cond_true, cond_false] at e
              · exact ih e
              · simp only [List.cons.injEq] at e; rw [← e.1]; exact hx
          exact this _ hR
        cases hpk : (isPick p && okDst n p.dst) <;> simp only [hpk, cond_true, cond_false] at h
        simp only [Bool.and_eq_true] at hpk
        obtain ⟨b, t, hfs, h1, h2, h3⟩ := h
        have hfin : ∀ (a' : Act) (w' : World) (fr' : Fr), Agree n a' fr' → Own g H w' → OutEq G fr fr' → pickOf p fr' = .bool t → wpList P ops Q (p :: r' ++ rest) a' w' := by
          intro a' w' fr' ha' hw' ho hpv
          have hwant := (hcurR fr' ho).wanted (sameGuard_eq hpg) ha'
          simp only [List.cons_append, wpList, hwant, if_true]
          refine .inl ?_
          unfold Oper.wp
          rw [ha'.eval, pickOf_run hpk.1 hpv w']
          have hgarb : garb G fr' fr = fr' := by
            funext x
            simp only [garb]
            cases hx : inDsts G x
            · exact (ho x hx).symm
            · rfl
          have h3' := h3 fr'
          rw [hgarb] at h3'
          refine denOps_seq f q cur _ r' _ H K KP h3' ((hcurR fr' ho).tail fun s hs => upd_ne hs) ((hknG fr' ho).del _ _) _ w' (ha'.put hpk.2 _) hw' rest Q (fun a2 w2 kn2 fr2 H2 g1 g2 g3 g5 g4 => hk a2 w2 kn2 fr2 H2 g1 g2 ?_ g5 g4) hp
          intro x hx
          have hx' := hx
          rw [← hGR, inDsts_append, Bool.or_eq_false_iff, inDsts_cons, Bool.or_eq_false_iff] at hx'
          rw [g3 x hx'.2.2, upd_ne hx'.2.1, ho x hx'.1]
        by_cases hbw : b = want
        · subst hbw
          have h1' := h1 rfl
          rw [upd_same hfs] at h1'
          refine denOps_seq f true o.guard _ G fr H _ _ h1' ?_ (hkn.put hfs) a w ha hw (p :: r' ++ rest) Q ?_ ?_
          · rw [hog]; exact ⟨s, hslot, hfs, hiG⟩
          · intro a' w' kn' fr' H' g1 g2 g3 _ ⟨g4, g5⟩
            subst g4
            exact hfin a' w' fr' g1 g2 g3 g5
          · intro _ _ _ _ _ _ _ h0; exact h0.elim
        · have hbw' : b = !want := by cases b <;> cases want <;> simp_all
          have h2' := h2 hbw'
          subst hbw'
          rw [upd_same hfs] at h2'
          refine skip_list G [] fr a hdG hiG hsk hfs (fun t ht => by simp at ht) ha fun a' ha' => ?_
          exact hfin a' w _ ha' hw (skipG_out G fr) h2'
      case false =>
        obtain ⟨b, hfs, h1, h2⟩ := h
        by_cases hbw : b = want
        · subst hbw
          have h1' := h1 rfl
          rw [upd_same hfs] at h1'
          refine denOps_seq f q o.guard _ G fr H _ KP h1' ?_ (hkn.put hfs) a w ha hw (R ++ rest) Q ?_ hp
          · rw [hog]; exact ⟨s, hslot, hfs, hiG⟩
          · intro a' w' kn' fr' H' g1 g2 g3 g5 g4
            refine denOps_seq f q cur kn' R fr' H' K KP g4 (hcurR fr' g3) g5 a' w' g1 g2 rest Q (fun a2 w2 kn2 fr2 H2 k1 k2 k3 k5 k4 => hk a2 w2 kn2 fr2 H2 k1 k2 ?_ k5 k4) hp
            intro x hx
            have hx' := hx
            rw [← hGR, inDsts_append, Bool.or_eq_false_iff] at hx'
            rw [k3 x hx'.2, g3 x hx'.1]
        · have hbw' : b = !want := by cases b <;> cases want <;> simp_all
          have h2' := h2 hbw'
          subst hbw'
          rw [upd_same hfs] at h2'
          refine skip_list G [] fr a hdG hiG hsk hfs (fun t ht => by simp at ht) ha fun a' ha' => ?_
          refine denOps_seq f q cur _ R _ H K KP h2' (hcurR _ (skipG_out G fr)) ((hknG _ (skipG_out G fr)).put (by rw [skipG_out G fr s hiG, hfs])) a' w ha' hw rest Q (fun a2 w2 kn2 fr2 H2 k1 k2 k3 k5 k4 => hk a2 w2 kn2 fr2 H2 k1 k2 ?_ k5 k4) hp
          intro x hx
          have hx' := hx
          rw [← hGR, inDsts_append, Bool.or_eq_false_iff] at hx'
          rw [k3 x hx'.2, skipG_out G fr x hx'.1]

theorem denOps_quiet {n : Nat} {ops : Array Oper} {gq : Bool} : ∀ (f : Nat) (cur : Option (Nat × Bool)) (kn : List (Nat × Bool)) (l : List Oper) (fr : Fr) (H : Hp) (K : List (Nat × Bool) → Fr → Hp → Prop) (KP : List PanicEntry → Hp → Prop),
    denOps P g n ops gq f true cur kn l fr H K KP → CurOK ops cur l fr → KnOK kn fr → ∀ (a : Act), Agree n a fr → ∀ (rest : List Oper) (Q : Act → Prop),
    (∀ a' kn' fr', Agree n a' fr' → OutEq l fr fr' → KnOK kn' fr' → K kn' fr' H → wpQuiet P ops (Own g H) Q rest a') → wpQuiet P ops (Own g H) Q (l ++ rest) a
  | 0, _, _, _, _, _, _, _, h => h.elim
  | f + 1, cur, kn, [], fr, H, K, KP, h => fun _ hkn a ha rest Q hk => hk a kn fr ha (OutEq.refl _ _) hkn h
  | f + 1, cur, kn, o :: r, fr, H, K, KP, h => by
    intro hcur hkn a ha rest Q hk
    unfold denOps at h
    cases hsg : sameGuard o.guard cur <;> simp only [hsg, cond_true, cond_false] at h
    case true =>
      have hg := sameGuard_eq hsg
      have hwant := hcur.wanted hg ha
      cases hd : okDst n o.dst <;> simp only [hd, cond_true, cond_false] at h
      simp only [List.cons_append, wpQuiet, hwant, if_true]
      cases hip : isP o.op <;> simp only [hip, cond_true, cond_false] at h
      case true =>
        obtain ⟨v, hk', hr, hv⟩ := opP_val h
        refine ⟨v, fun w hw => ?_, ?_⟩
        · unfold Oper.quietAt
          rw [ha.eval, hr w hw]
          exact ⟨rfl, rfl⟩
        · exact denOps_quiet f cur _ r _ H K KP hk' (hcur.tail fun s hs => upd_ne hs) (hkn.up hv) _ (ha.put hd v) rest Q (fun a' kn' fr' h1 h3 h5 h4 => hk a' kn' fr' h1 h3.cons h5 h4)
      case false =>
        obtain ⟨v, f', args, hr, hs, hk'⟩ := opQ_run h
        refine ⟨v, fun w hw => ?_, ?_⟩
        · unfold Oper.quietAt
          rw [ha.eval, hr w]
          refine ⟨rfl, (hs w hw).mono fun e w'' ⟨H', ho, he, hH⟩ => ?_⟩
          subst hH
          exact ⟨he, ho⟩
        · exact denOps_quiet f cur _ r _ H K KP hk' (hcur.tail fun s hs => upd_ne hs) (hkn.del _ _) _ (ha.put hd v) rest Q (fun a' kn' fr' h1 h3 h5 h4 => hk a' kn' fr' h1 h3.cons h5 h4)
    case false =>
      split at h <;> try exact h.elim
      rename_i j want hog
      split at h <;> try exact h.elim
      rename_i s hslot
      generalize hG : takeG cur (o :: r) = G at h
      generalize hR : dropG cur (o :: r) = R at h
      have hGR : G ++ R = o :: r := by rw [← hG, ← hR]; exact take_drop_G _ _
      cases hchk : (okDst n (some s) && okDsts n G && !inDsts G s && skipOK ops s want [] G) <;> simp only [hchk, cond_true, cond_false] at h
      simp only [Bool.and_eq_true, Bool.not_eq_true'] at hchk
      obtain ⟨⟨⟨hds, hdG⟩, hiG⟩, hsk⟩ := hchk
      rw [← hGR, List.append_assoc]
      have hcurR : ∀ fr', OutEq G fr fr' → CurOK ops cur R fr' := fun fr' ho => by
        unfold CurOK at hcur ⊢
        split
        · trivial
        · obtain ⟨t, h1, h2, h3⟩ := hcur
          have h3' := h3
          rw [← hGR, inDsts_append, Bool.or_eq_false_iff] at h3'
          exact ⟨t, h1, (ho t h3'.1).trans h2, h3'.2⟩
      have hknG : ∀ fr', OutEq G fr fr' → KnOK (knDels kn G) fr' := fun fr' ho => hkn.dels G ho
      split at h
      · rename_i b hb
        have hfs := hkn s b hb
        cases hbw : (b == want) <;> simp only [hbw, cond_true, cond_false] at h
        · have hbw' : b = !want := by cases b <;> cases want <;> simp_all
          subst hbw'
          refine skip_quiet G [] fr a hdG hiG hsk hfs (fun t ht => by simp at ht) ha fun a' ha' => ?_
          refine denOps_quiet f cur _ R _ H K KP h (hcurR _ (skipG_out G fr)) (hknG _ (skipG_out G fr)) a' ha' rest Q (fun a2 kn2 fr2 k1 k3 k5 k4 => hk a2 kn2 fr2 k1 ?_ k5 k4)
          intro x hx
          have hx' := hx
          rw [← hGR, inDsts_append, Bool.or_eq_false_iff] at hx'
          rw [k3 x hx'.2, skipG_out G fr x hx'.1]
        · have hbw' : b = want := by cases b <;> cases want <;> simp_all
          subst hbw'
          refine denOps_quiet f o.guard kn G fr H _ KP h ?_ hkn a ha (R ++ rest) Q ?_
          · rw [hog]; exact ⟨s, hslot, hfs, hiG⟩
          · intro a' kn' fr' g1 g3 g5 g4
            refine denOps_quiet f cur kn' R fr' H K KP g4 (hcurR fr' g3) g5 a' g1 rest Q (fun a2 kn2 fr2 k1 k3 k5 k4 => hk a2 kn2 fr2 k1 ?_ k5 k4)
            intro x hx
            have hx' := hx
            rw [← hGR, inDsts_append, Bool.or_eq_false_iff] at hx'
            rw [k3 x hx'.2, g3 x hx'.1]
      rename_i hknone
      simp only [Bool.true_or, cond_true] at h
      split at h <;> try exact h.elim
      rename_i p r' 
      have hpg : sameGuard p.guard cur = true := by
        have : ∀ l : List Oper, dropG cur l = p :: r' → sameGuard p.guard cur = true := by
          intro l
          induction l with
          | nil => intro e; simp [dropG] at e
          | cons x y ih =>
            intro e
            simp only [dropG] at e
            cases hx : sameGuard x.guard cur <;> simp only [hx, cond_true, cond_false] at e
            · exact ih e
            · simp only [List.cons.injEq] at e; rw [← e.1]; exact hx
        exact this _ hR
      cases hpk : (isPick p && okDst n p.dst) <;> simp only [hpk, cond_true, cond_false] at h
      simp only [Bool.and_eq_true] at hpk
      obtain ⟨b, t, hfs, h1, h2, h3⟩ := h
      have hfin : ∀ (a' : Act) (fr' : Fr), Agree n a' fr' → OutEq G fr fr' → pickOf p fr' = .bool t → wpQuiet P ops (Own g H) Q (p :: r' ++ rest) a' := by
        intro a' fr' ha' ho hpv
        have hwant := (hcurR fr' ho).wanted (sameGuard_eq hpg) ha'
        simp only [List.cons_append, wpQuiet, hwant, if_true]
        refine ⟨.bool t, fun w hw => ?_, ?_⟩
        · unfold Oper.quietAt
          rw [ha'.eval, pickOf_run hpk.1 hpv w]
          exact ⟨rfl, rfl⟩
        have hgarb : garb G fr' fr = fr' := by
          funext x
          simp only [garb]
          cases hx : inDsts G x
          · exact (ho x hx).symm
          · rfl
        have h3' := h3 fr'
        rw [hgarb] at h3'
        refine denOps_quiet f cur _ r' _ H K KP h3' ((hcurR fr' ho).tail fun s hs => upd_ne hs) ((hknG fr' ho).del _ _) _ (ha'.put hpk.2 _) rest Q (fun a2 kn2 fr2 g1 g3 g5 g4 => hk a2 kn2 fr2 g1 ?_ g5 g4)
        intro x hx
        have hx' := hx
        rw [← hGR, inDsts_append, Bool.or_eq_false_iff, inDsts_cons, Bool.or_eq_false_iff] at hx'
        rw [g3 x hx'.2.2, upd_ne hx'.2.1, ho x hx'.1]
      by_cases hbw : b = want
      · subst hbw
        have h1' := h1 rfl
        rw [upd_same hfs] at h1'
        refine denOps_quiet f o.guard _ G fr H _ _ h1' ?_ (hkn.put hfs) a ha (p :: r' ++ rest) Q ?_
        · rw [hog]; exact ⟨s, hslot, hfs, hiG⟩
        · intro a' kn' fr' g1 g3 _ ⟨_, g5⟩
          exact hfin a' fr' g1 g3 g5
      · have hbw' : b = !want := by cases b <;> cases want <;> simp_all
        have h2' := h2 hbw'
        subst hbw'
        rw [upd_same hfs] at h2'
        refine skip_quiet G [] fr a hdG hiG hsk hfs (fun t ht => by simp at ht) ha fun a' ha' => ?_
        exact hfin a' _ ha' (skipG_out G fr) h2'
end
end Go.Sx
