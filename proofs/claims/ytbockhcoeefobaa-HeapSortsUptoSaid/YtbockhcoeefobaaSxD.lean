/-
  Laws on append, make, maps; and all operations under one word (opK).
-/
import Derived.Test.YtbockhcoeefobaaSxC
set_option linter.unusedSimpArgs false
set_option linter.unusedVariables false
namespace Go.Sx
open Go
section
variable {P : Program} {g : World} {H : Hp} {K : Value → Hp → Prop} {KP : List PanicEntry → Hp → Prop}

theorem Cells.run {w : World} (hw : Own g H w) {base : Option Addr} {size n cap : Nat} {cs : Array Value} (h : Cells H base (n * size) cs) :
    (Builtin.firstCells size n (.slice base n cap)).run P w = .ok cs w := by
  cases base with
  | none => simp only [Cells] at h; subst h; simp [Builtin.firstCells]
  | some a =>
    obtain ⟨h0, c, T, fz, hm, hs, rfl⟩ := h
    obtain ⟨b, o, sp⟩ := a
    simp only at h0 hm hs; subst h0
    simp only [Builtin.firstCells, run_loadCells_own hw hm _ _ hs]

theorem App.run {elem size bytes : Nat} {zero : Value} {s x : Value} {k : Value → Hp → Prop} (h : App P elem size bytes zero H s x k) {w : World} (hw : Own g H w) {t t' ty : TypeId} {i : TypeInfo}
    (ht : P.underlying t = some (.slice elem)) (ht' : ∃ e, P.underlying t' = some (.slice e)) (hi : P.info? elem = some i) (hz : i.zero = some zero) (hn : i.size = size) (hb : i.bytes = bytes) :
    ∃ v w' H', (Builtin.append_ #[t, t'] ty #[s, x]).run P w = .ok v w' ∧ Own g H' w' ∧ k v H' := by
  obtain ⟨base, n, cap, xb, m, xc, olds, news, rfl, rfl, hco, hcn, hsn, hso, hone, hfit, hgrow⟩ := h
  obtain ⟨e', ht'⟩ := ht'
  subst hn; subst hb
  by_cases hc : n + m ≤ cap
  · have hk := hfit hc
    have hnew := Cells.run (P := P) (cap := xc) hw hcn
    cases base with
    | none =>
      refine ⟨_, w, H, ?_, hw, hk⟩
      simp [Builtin.append_, run_underlying ht, run_underlying ht', run_sizeOf hi, Builtin.lenOf, hc, hnew]
    | some a =>
      obtain ⟨c, T, H', h0, hs, hu, hk⟩ := hk
      obtain ⟨b, o, sp⟩ := a
      simp only at h0 hu hs; subst h0
      obtain ⟨w', hr, ho⟩ := run_storeCells_own (P := P) (o + n * i.size) news.toList 0 c H H' w hw (by simpa using hu) hone (by simp; omega)
      refine ⟨_, w', H', ?_, ho, hk⟩
      simp [Builtin.append_, run_underlying ht, run_underlying ht', run_sizeOf hi, Builtin.lenOf, hc, hnew, Addr.add_lit, hr]
  · obtain ⟨hb47, h63, hk⟩ := hgrow (by omega)
    have hw1 := hw.drew
    have hnew := Cells.run (P := P) (cap := xc) hw1 hcn
    have hold := Cells.run (P := P) (cap := cap) hw1 hco
    have hnx : Builtin.nextslicecap (n + m) cap * i.bytes ≤ 281474976710656 := growslice_fits (by omega) hb47
    have h48' : ¬ (281474976710656 < Builtin.nextslicecap (n + m) cap * i.bytes) := by omega
    have h63' : ¬ (9223372036854775807 < ((n : Int) + (m : Int))) := by omega
    obtain ⟨H'', hent, hkk⟩ := hk (grownCap w (n + m) cap elem) (by simp only [grownCap, Question.cut]; omega) _ hw1.fresh
    refine ⟨_, _, _, ?_, hent _ _ (hw1.alloc _), hkk⟩
    · simp [Builtin.append_, run_underlying ht, run_underlying ht', sizeOf, typeInfo, zeroValue, hi, hz, Builtin.lenOf, hc, h63', h48', Question.forced, hnew, hold, newRow, grownCap]

theorem MkSlice.run {elem size bytes : Nat} {zero : Value} {l c : Value} {k : Value → Hp → Prop} (h : MkSlice elem size bytes zero H l c k) {w : World} (hw : Own g H w) {t : TypeId} {i : TypeInfo}
    (ht : P.underlying t = some (.slice elem)) (hi : P.info? elem = some i) (hz : i.zero = some zero) (hn : i.size = size) (hb : i.bytes = bytes) :
    ∃ v w' H', (Instr.makeSlice t l c).run P w = .ok v w' ∧ Own g H' w' ∧ k v H' := by
  obtain ⟨kl, kc, ln, cn, rfl, rfl, hlc, hmax, hby, hk⟩ := h
  subst hn; subst hb
  refine ⟨_, _, _, ?_, hw.alloc _, hk _ hw.fresh⟩
  have e1 : IntKind.i64.wrap (ln : Int) = ln := IntWalk.i64_in _ (by omega)
  have e2 : IntKind.i64.wrap (cn : Int) = cn := IntWalk.i64_in _ (by omega)
  have e3 : ¬ ((i.bytes : Int) * (cn : Int) > 281474976710656) := by
    have : ((cn * i.bytes : Nat) : Int) ≤ 281474976710656 := by omega
    rw [Int.mul_comm]; push_cast at this; omega
  have e4 : ¬ ((cn : Int) < ln) := by omega
  by_cases h0 : cn * i.size = 0
  · simp [Instr.makeSlice, run_underlying ht, asInt, asIntOf, typeInfo, hi, e1, e2, e3, e4, sizeOf, zeroValue, hz, newRow, madeCells, h0, show ¬ ((cn : Int) < 0) from by omega, show ¬ ((ln : Int) < 0) from by omega]
    have : Array.range 0 = #[] := rfl
    simp [this]
  · simp [Instr.makeSlice, run_underlying ht, asInt, asIntOf, typeInfo, hi, e1, e2, e3, e4, sizeOf, zeroValue, hz, newRow, madeCells, h0, show ¬ ((cn : Int) < 0) from by omega, show ¬ ((ln : Int) < 0) from by omega]

theorem MapAt.run {m : Value} {es : Array MapEntry} (h : MapAt H m es) {w : World} (hw : Own g H w) :
    (m = .map none ∧ es = #[]) ∨ ∃ b clock, m = .map (some b) ∧ (getObj b).run P w = .ok (.map es clock) w := by
  rcases h with h | ⟨b, clock, hm, hb⟩
  · exact .inl h
  · exact .inr ⟨b, clock, hm, run_getObj_own hw hb⟩
theorem run_checkKey (e : Bool) {t : TypeId} {d : TypeDesc} (hd : P.underlying t = some d) (hp : plainKey d = true) (v : Value) (w : World) : (Instr.checkKey e 10000 t v).run P w = .ok () w := by
  have : ∀ n, (Instr.checkKey e (n + 1) t v).run P w = .ok () w := fun n => by
    simp only [Instr.checkKey, Sem.run_bind, run_underlying hd, Result.andThen_ok]
    cases d <;> first | (simp [plainKey] at hp; done) | rfl
  exact this 9999
theorem run_findKey {t : TypeId} {d : TypeDesc} (hd : P.underlying t = some d) {key : Value} {es : List MapEntry} {r : Option (Nat × Value)} (h : Instr.findNow d key es 0 = some r) (w : World) :
    (Instr.findKey t key es).run P w = .ok r w := by
  simp [Instr.findKey, run_underlying hd, h]
theorem Look.run {kd : TypeDesc} {zero : Value} {ok : Bool} {m key : Value} {k : Value → Prop} (h : Look kd zero ok H m key k) {w : World} (hw : Own g H w) {t kt e : TypeId} {i : TypeInfo}
    (ht : P.underlying t = some (.map kt e)) (hk : P.underlying kt = some kd) (hp : plainKey kd = true) (hi : P.info? e = some i) (hz : i.zero = some zero) :
    ∃ v, (Instr.lookup t m key ok).run P w = .ok v w ∧ k v := by
  obtain ⟨es, r, hm, hf, hkv⟩ := h
  have hchk := fun b => run_checkKey (P := P) b hk hp key w
  have hfk := run_findKey (P := P) hk hf w
  refine ⟨_, ?_, hkv⟩
  rcases hm.run (P := P) hw with ⟨rfl, rfl⟩ | ⟨b, clock, rfl, hg⟩
  · cases r with
    | none => cases ok <;> simp [Instr.lookup, run_underlying ht, hchk, hfk, run_zero hi hz]
    | some x => obtain ⟨j, v⟩ := x; cases ok <;> simp [Instr.lookup, run_underlying ht, hchk, hfk]
  · cases r with
    | none => cases ok <;> simp [Instr.lookup, run_underlying ht, hchk, hfk, run_zero hi hz, hg]
    | some x => obtain ⟨j, v⟩ := x; cases ok <;> simp [Instr.lookup, run_underlying ht, hchk, hfk, hg]
theorem run_setObj_own {w : World} (hw : Own g H w) {b : Nat} {es : Array MapEntry} {clock : Nat} (es' : Array MapEntry) (clock' : Nat) {H' : Hp} (hu : Upd b (.map es clock) (.map es' clock') H H') :
    ∃ w', (setObj b (.map es' clock')).run P w = .ok () w' ∧ Own g H' w' := by
  have hm := hw.has _ hu.mem
  simp only at hm
  refine ⟨{ w with heap := w.heap.setIfInBounds b (.map es' clock') }, by simp [setObj, Sem.run, hm], ?_⟩
  have hlt := hw.lt hu.mem
  refine hw.upd hu rfl rfl rfl ?_ ?_
  · simp only at hlt; simp [hlt]
  · intro c hc; rw [Array.getElem?_setIfInBounds, if_neg (fun e => hc (Eq.symm e))]
theorem MapUpd.run {kd : TypeDesc} {m key val : Value} {k : Hp → Prop} (h : MapUpd kd H m key val k) {w : World} (hw : Own g H w) {t kt e : TypeId}
    (ht : P.underlying t = some (.map kt e)) (hk : P.underlying kt = some kd) (hp : plainKey kd = true) :
    ∃ w' H', (Instr.mapUpdate t m key val).run P w = .ok () w' ∧ Own g H' w' ∧ k H' := by
  obtain ⟨b, es, clock, r, rfl, hf, hr⟩ := h
  have hchk := fun b => run_checkKey (P := P) b hk hp key w
  have hfk := run_findKey (P := P) hk hf w
  cases r with
  | none =>
    obtain ⟨H', hu, hkk⟩ := hr
    obtain ⟨w', hs, ho⟩ := run_setObj_own (P := P) hw _ _ hu
    refine ⟨w', H', ?_, ho, hkk⟩
    simp [Instr.mapUpdate, run_underlying ht, run_getObj_own hw hu.mem, hchk, hfk, hs]
  | some x =>
    obtain ⟨j, v⟩ := x
    obtain ⟨hsame, hj, H', hu, hkk⟩ := hr
    obtain ⟨w', hs, ho⟩ := run_setObj_own (P := P) hw _ _ hu
    refine ⟨w', H', ?_, ho, hkk⟩
    have hsb := hsame es[j] (Array.getElem?_eq_getElem hj)
    simp [Instr.mapUpdate, run_underlying ht, run_getObj_own hw hu.mem, hchk, hfk, hj, Instr.keyThatStays, hsb, hs]
theorem MapDel.run {kd : TypeDesc} {m key : Value} {k : Hp → Prop} (h : MapDel kd H m key k) {w : World} (hw : Own g H w) {t kt e ty : TypeId} {as : Array TypeId} (has : as[0]? = some t)
    (ht : P.underlying t = some (.map kt e)) (hk : P.underlying kt = some kd) (hp : plainKey kd = true) :
    ∃ w' H', (Builtin.delete_ as ty #[m, key]).run P w = .ok (.tuple #[]) w' ∧ Own g H' w' ∧ k H' := by
  have hchk := fun b => run_checkKey (P := P) b hk hp key w
  rcases h with ⟨rfl, hkk⟩ | ⟨b, es, clock, r, rfl, hf, hr⟩
  · exact ⟨w, H, by simp [Builtin.delete_, has, run_underlying ht, hchk], hw, hkk⟩
  · have hfk := run_findKey (P := P) hk hf w
    cases r with
    | none =>
      obtain ⟨hm, hkk⟩ := hr
      have hu : ∃ H', Upd b (.map es clock) (.map es clock) H H' ∧ H' = H := by
        clear hkk hf hfk hw
        induction H with
        | nil => simp at hm
        | cons x R ih =>
          rcases List.mem_cons.1 hm with e | hm'
          · subst e; exact ⟨_, .head _, rfl⟩
          · obtain ⟨H', u, rfl⟩ := ih hm'; exact ⟨_, .tail u, rfl⟩
      obtain ⟨H', hu, rfl⟩ := hu
      obtain ⟨w', hs, ho⟩ := run_setObj_own (P := P) hw _ _ hu
      exact ⟨w', _, by simp [Builtin.delete_, has, run_underlying ht, run_getObj_own hw hm, hchk, hfk, hs], ho, hkk⟩
    | some x =>
      obtain ⟨j, v⟩ := x
      obtain ⟨H', hu, hkk⟩ := hr
      obtain ⟨w', hs, ho⟩ := run_setObj_own (P := P) hw _ _ hu
      exact ⟨w', _, by simp [Builtin.delete_, has, run_underlying ht, run_getObj_own hw hu.mem, hchk, hfk, hs], ho, hkk⟩
end
end Go.Sx
