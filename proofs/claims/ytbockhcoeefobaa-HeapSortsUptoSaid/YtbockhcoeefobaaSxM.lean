/-
  Laying out structs and slices of parts.
-/
import Derived.Test.YtbockhcoeefobaaSxL
set_option linter.unusedSimpArgs false
set_option linter.unusedVariables false
namespace Go.Sx
open Go
section
variable {P : Program} {g : World} {H : Hp}

theorem foldl_over (off : Nat) : ∀ (r : List Value) (i : Nat) (c : Array Value), (r.zipIdx i).foldl (fun cs (x : Value × Nat) => cs.setIfInBounds (off + x.2) x.1) c = over c (off + i) r
  | [], i, c => rfl
  | v :: r, i, c => by
    rw [List.zipIdx_cons, List.foldl_cons, foldl_over off r (i + 1)]
    rfl
theorem fill_over (off : Nat) (a c : Array Value) : a.zipIdx.foldl (fun cs (x : Value × Nat) => cs.setIfInBounds (off + x.2) x.1) c = over c off a.toList := by
  rw [← Array.foldl_toList]
  have : a.zipIdx.toList = a.toList.zipIdx 0 := by simp
  rw [this, foldl_over off a.toList 0 c]; rfl

def overL : List Value → Nat → List Value → List Value
  | c, _, [] => c
  | c, off, v :: r => overL (c.set off v) (off + 1) r
theorem overL_over : ∀ (r c : List Value) (off : Nat), over c.toArray off r = (overL c off r).toArray
  | [], c, off => rfl
  | v :: r, c, off => by
    have : c.toArray.setIfInBounds off v = (c.set off v).toArray := by simp
    rw [over, overL, this, overL_over r]
def fillL (place : Nat → Option (Nat × Nat)) : List Value → List (Nat × Value) → Option (List Value)
  | c, [] => some c
  | c, (i, v) :: r =>
    match place i with
    | none => none
    | some (off, size) => cond (Nat.beq v.cells.toList.length size && Nat.ble (off + v.cells.toList.length) c.length) (fillL place (overL c off v.cells.toList) r) none
theorem overL_length : ∀ (r c : List Value) (off : Nat), (overL c off r).length = c.length
  | [], c, off => rfl
  | v :: r, c, off => by rw [overL, overL_length r]; simp
theorem fillL_fill {place : Nat → Option (Nat × Nat)} : ∀ (r : List (Nat × Value)) (c cs : List Value), fillL place c r = some cs → Instr.fill place c.toArray r = some cs.toArray
  | [], c, cs, h => by simp only [fillL, Option.some.injEq] at h; subst h; rfl
  | (i, v) :: r, c, cs, h => by
    simp only [fillL] at h
    simp only [Instr.fill]
    split at h
    · simp at h
    · rename_i off size hp
      cases hc : (Nat.beq v.cells.toList.length size && Nat.ble (off + v.cells.toList.length) c.length) <;> simp only [hc, cond_true, cond_false, reduceCtorEq] at h
      simp only [Bool.and_eq_true] at hc
      have h1 := Nat.eq_of_beq_eq_true hc.1
      have h2 := Nat.le_of_ble_eq_true hc.2
      have h3 : v.cells.toList.length = v.cells.size := Array.length_toList
      have hsz : v.cells.size = size := by rw [← h3]; exact h1
      have hle : off + v.cells.size ≤ c.length := by rw [← h3]; exact h2
      simp only [hp]
      have hcond : (decide (v.cells.size ≠ size) || decide (off + v.cells.size > c.toArray.size)) = false := by
        rw [Bool.or_eq_false_iff]; exact ⟨by simp [hsz], by simp only [List.size_toArray, decide_eq_false_iff_not]; omega⟩
      rw [hcond]
      simp only [Bool.false_eq_true, if_false]
      rw [fill_over, overL_over]
      exact fillL_fill r _ cs h
def placesL (P : Program) : List Field → Option (List (Nat × Nat))
  | [] => some []
  | f :: r => match sizeD P f.type, placesL P r with
    | some n, some l => some ((f.offset, n) :: l)
    | _, _ => none
def buildL (P : Program) (t : TypeId) (parts : List (Nat × Value)) : Option (List Value) :=
  match P.underlying t, zeroD P t with
  | some (.struct fs), some z => match placesL P fs.toList with
    | some pl => fillL (fun i => pl[i]?) z.cells.toList parts
    | none => none
  | _, _ => none
theorem placesL_run : ∀ (fs : List Field) (pl : List (Nat × Nat)), placesL P fs = some pl → ∀ w, (fs.mapM fun f => (do pure (f.offset, ← sizeOf f.type) : Sem (Nat × Nat))).run P w = .ok pl w
  | [], pl, h, w => by simp only [placesL, Option.some.injEq] at h; subst h; rfl
  | f :: r, pl, h, w => by
    simp only [placesL] at h
    split at h
    · rename_i n l hn hl
      simp only [Option.some.injEq] at h; subst h
      obtain ⟨i, hi, hin⟩ := sizeD_spec hn
      have ih := placesL_run r l hl w
      simp only [List.mapM_cons, Sem.run_bind, run_sizeOf hi, Result.andThen_ok, Sem.run_pure, hin, ih]
    · simp at h
theorem Build.mk {t : TypeId} {parts : List (Nat × Value)} {cs : List Value} {k : Value → Prop} (hb : buildL P t parts = some cs) (h : k (.agg cs.toArray)) : Build P t parts k := by
  refine ⟨_, fun w => ?_, h⟩
  unfold buildL at hb
  split at hb
  · rename_i fs z hu hz
    split at hb
    · rename_i pl hpl
      obtain ⟨i, hi, hiz⟩ := zeroD_spec hz
      have hf := fillL_fill _ _ _ hb
      have hp := placesL_run fs.toList pl hpl w
      simp only [Instr.build, Sem.run_bind, run_zero hi hiz, Result.andThen_ok, run_underlying hu]
      have e2 : ((fs.mapM fun f => (do pure (f.offset, ← sizeOf f.type) : Sem (Nat × Nat))).run P w) = .ok pl.toArray w := by
        rw [Array.mapM_eq_mapM_toList]
        simp only [Sem.run_map, hp, Result.andThen_ok]
      rw [e2]
      show Sem.run P _ w = _
      have e3 : Instr.fill (fun x => pl.toArray[x]?) z.cells parts = some cs.toArray := by
        simpa using hf
      simp only [e3]
      rfl
    · simp at hb
  · simp at hb
theorem BuildSl.one {t e k : Nat} {z : Value} {r : List Value} {K : Value → Hp → Prop} (h1 : P.underlying t = some (.slice e)) (h2 : sizeD P e = some k) (h3 : zeroD P e = some z) (hk : 0 < k ∧ k ≤ 16777216) (hr : r.length = k)
    (h : ∀ b, K (.slice (some ⟨b, 0, none⟩) 1 1) ((b, .cells r.toArray e (0, 0)) :: H)) : BuildSl P t 1 [(0, .agg r.toArray)] H K := by
  refine ⟨r.toArray, e, k, z, h1, h2, h3, by omega, by omega, ?_, fun b _ => h b⟩
  have : ((Array.range (1 * k)).map (z.cells[· % z.cells.size]!)) = (((Array.range (1 * k)).map (z.cells[· % z.cells.size]!)).toList).toArray := by rw [Array.toArray_toList]
  rw [this]
  generalize hc : ((Array.range (1 * k)).map (z.cells[· % z.cells.size]!)).toList = c
  have hlen : c.length = k := by rw [← hc]; simp
  refine fillL_fill _ _ _ ?_
  simp only [fillL, Value.cells]
  have hb : (Nat.beq r.toArray.toList.length k && Nat.ble (0 * k + r.toArray.toList.length) c.length) = true := by simp [hr, hlen]
  rw [hb]
  simp only [cond_true, Option.some.injEq]
  have := over_eq r c 0 (by omega)
  rw [overL_over] at this
  have h5 : overL c 0 r = List.take 0 c ++ r ++ List.drop (0 + r.length) c := by simpa using congrArg Array.toList this
  simp only [Nat.zero_mul]
  rw [h5]
  simp [List.drop_eq_nil_of_le, hr, hlen]
end
end Go.Sx
namespace Go.Sx
open Go
section
variable {P : Program} {g : World} {H : Hp}
theorem MOwn.look_some {β : Type} {kd : IntKind} {enc : β → Value} {v zero : Value} {f : Int → Option β} {C : Hp} {ok : Bool} {x : Int} {K : Value → Prop} {p : β} (h : MOwn kd enc v f C) (hC : ∀ y ∈ C, y ∈ H) (hf : f x = some p)
    (hk : K (cond ok (.tuple #[enc p, .bool true]) (enc p))) : Look (.int kd) zero ok H v (.int kd x) K := h.look hC (by rw [hf]; exact hk)
theorem MOwn.look_none {β : Type} {kd : IntKind} {enc : β → Value} {v zero : Value} {f : Int → Option β} {C : Hp} {ok : Bool} {x : Int} {K : Value → Prop} (h : MOwn kd enc v f C) (hC : ∀ y ∈ C, y ∈ H) (hf : f x = none)
    (hk : K (cond ok (.tuple #[zero, .bool false]) zero)) : Look (.int kd) zero ok H v (.int kd x) K := h.look hC (by rw [hf]; exact hk)
theorem SliceE.upto {size n c h : Nat} {a : Option Addr} {kd : IntKind} {k : Value → Prop} (hh : h ≤ c) (hk : k (.slice a h c)) : SliceE size (.slice a n c) none (some (.int kd (h : Int))) k := by
  refine ⟨a, n, c, 0, h, rfl, rfl, rfl, by omega, by omega, by omega, ?_⟩
  have : (if c = (0 : Int).toNat then a else a.map (·.add ((0 : Int).toNat * size))) = a := by
    split
    · rfl
    · simp only [Int.toNat_zero, Nat.zero_mul]
      cases a with
      | none => rfl
      | some x => simp [Addr.add_zero']
  rw [this]
  simpa using hk
end
end Go.Sx
