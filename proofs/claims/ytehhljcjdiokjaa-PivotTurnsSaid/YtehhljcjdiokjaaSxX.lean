/- DRAWN REGIONS: how the engine runs them: the pass in text order. -/
import Derived.Test.YtehhljcjdiokjaaSxW
set_option linter.unusedSimpArgs false
set_option linter.unusedVariables false
noncomputable section
namespace Go.Sx
open M

/-! ### what is before what -/
def maskOf (ms : List Nat) (o : Oper) : Nat := o.after.toList.foldl (fun s e => bif Region.binds .any e then s ||| (2 ^ e.on ||| ms.getD e.on 0) else s) 0
def masksOf : List Nat → List Oper → List Nat
  | ms, [] => ms
  | ms, o :: l => masksOf (ms ++ [maskOf ms o]) l
def befM (ms : List Nat) (k j : Nat) : Bool := Nat.testBit (ms.getD j 0) k
/-- the masks say what the edges say, all edges lead back; every slot is written once -/
def staticOk (ms : List Nat) (nT : Nat) : Nat → Nat → List Oper → Bool
  | _, _, [] => true
  | j, m, o :: l => (o.after.toList.all fun e => !Region.binds .any e || Nat.blt e.on j) && Nat.beq (ms.getD j 0) (maskOf ms o) &&
    match o.dst with
    | none => staticOk ms nT (j + 1) m l
    | some d => Nat.blt d nT && !Nat.testBit m d && staticOk ms nT (j + 1) (m ||| 2 ^ d) l
def incs (ms : List Nat) (n j : Nat) : List Nat := (List.range n).filter fun k => !Nat.beq k j && !befM ms k j && !befM ms j k
theorem mem_incs {ms : List Nat} {n j k : Nat} : k ∈ incs ms n j ↔ k < n ∧ k ≠ j ∧ befM ms k j = false ∧ befM ms j k = false := by
  simp only [incs, List.mem_filter, List.mem_range, Bool.and_eq_true, Bool.not_eq_true', Bool.not_eq_true]
  constructor
  · rintro ⟨h1, ⟨h2, h3⟩, h4⟩; exact ⟨h1, Nat.ne_of_beq_eq_false h2, h3, h4⟩
  · rintro ⟨h1, h2, h3, h4⟩
    refine ⟨h1, ⟨?_, h3⟩, h4⟩
    cases h : Nat.beq k j with
    | false => rfl
    | true => exact absurd (Nat.eq_of_beq_eq_true h) h2
theorem fold_testBit (ms : List Nat) (k : Nat) : ∀ (l : List Edge) (s : Nat), Nat.testBit (l.foldl (fun s e => bif Region.binds .any e then s ||| (2 ^ e.on ||| ms.getD e.on 0) else s) s) k = true ↔
    Nat.testBit s k = true ∨ ∃ e ∈ l, Region.binds .any e = true ∧ (k = e.on ∨ Nat.testBit (ms.getD e.on 0) k = true)
  | [], s => by simp
  | e :: l, s => by
    rw [List.foldl_cons, fold_testBit ms k l]
    cases hb : Region.binds .any e with
    | false =>
      simp only [cond_false]
      constructor
      · rintro (h | ⟨e', h1, h2⟩)
        · exact .inl h
        · exact .inr ⟨e', List.mem_cons_of_mem _ h1, h2⟩
      · rintro (h | ⟨e', h1, h2⟩)
        · exact .inl h
        · rcases List.mem_cons.1 h1 with rfl | h1
          · rw [hb] at h2; exact absurd h2.1 (by simp)
          · exact .inr ⟨e', h1, h2⟩
    | true =>
      simp only [cond_true, Nat.testBit_or, Nat.testBit_two_pow, Bool.or_eq_true, decide_eq_true_eq]
      constructor
      · rintro ((h | h | h) | ⟨e', h1, h2⟩)
        · exact .inl h
        · exact .inr ⟨e, List.mem_cons_self, hb, .inl h.symm⟩
        · exact .inr ⟨e, List.mem_cons_self, hb, .inr h⟩
        · exact .inr ⟨e', List.mem_cons_of_mem _ h1, h2⟩
      · rintro (h | ⟨e', h1, h2⟩)
        · exact .inl (.inl h)
        · rcases List.mem_cons.1 h1 with rfl | h1
          · rcases h2.2 with h | h
            · exact .inl (.inr (.inl h.symm))
            · exact .inl (.inr (.inr h))
          · exact .inr ⟨e', h1, h2⟩
theorem maskOf_bit {ms : List Nat} {o : Oper} {k : Nat} : Nat.testBit (maskOf ms o) k = true ↔ ∃ e ∈ o.after, Region.binds .any e = true ∧ (k = e.on ∨ Nat.testBit (ms.getD e.on 0) k = true) := by
  unfold maskOf
  rw [fold_testBit]
  simp
theorem staticOk_at {ms : List Nat} {nT : Nat} : ∀ {l : List Oper} {j m : Nat}, staticOk ms nT j m l = true → ∀ i o, l[i]? = some o →
    (∀ e ∈ o.after, Region.binds .any e = true → e.on < j + i) ∧ ms.getD (j + i) 0 = maskOf ms o ∧ ∀ d, o.dst = some d → d < nT ∧ Nat.testBit m d = false ∧ ∀ i' o', i < i' → l[i']? = some o' → o'.dst ≠ some d
  | [], j, m, h, i, o, hi => by simp at hi
  | o' :: l, j, m, h, i, o, hi => by
    simp only [staticOk, Bool.and_eq_true, List.all_eq_true] at h
    obtain ⟨⟨h1, h2⟩, h3⟩ := h
    have tail : ∃ m', staticOk ms nT (j + 1) m' l = true ∧ (∀ d, Nat.testBit m' d = false → Nat.testBit m d = false) ∧ ∀ d, o'.dst = some d → d < nT ∧ Nat.testBit m d = false ∧ Nat.testBit m' d = true := by
      cases hd : o'.dst with
      | none => rw [hd] at h3; exact ⟨m, h3, fun _ h => h, fun d hd => by cases hd⟩
      | some d =>
        rw [hd] at h3
        simp only [Bool.and_eq_true, Bool.not_eq_true', Bool.not_eq_true] at h3
        refine ⟨_, h3.2, fun d' h => ?_, fun d' e => ?_⟩
        · rw [Nat.testBit_or, Bool.or_eq_false_iff] at h; exact h.1
        · cases e; exact ⟨blt_lt h3.1.1, h3.1.2, by rw [Nat.testBit_or, Nat.testBit_two_pow]; simp⟩
    obtain ⟨m', t1, t2, t3⟩ := tail
    cases i with
    | zero =>
      simp only [List.getElem?_cons_zero, Option.some.injEq] at hi
      subst hi
      refine ⟨fun e he hb => ?_, by simpa using Nat.eq_of_beq_eq_true h2, fun d hd => ⟨(t3 d hd).1, (t3 d hd).2.1, fun i' o'' hi' ho'' => ?_⟩⟩
      · have := h1 e (by simpa using he)
        rw [hb] at this
        exact blt_lt (by simpa using this)
      · obtain ⟨i'', rfl⟩ : ∃ i'', i' = i'' + 1 := ⟨i' - 1, by omega⟩
        intro e
        have := ((staticOk_at t1 i'' o'' (by simpa using ho'')).2.2 d e).2.1
        rw [(t3 d hd).2.2] at this
        cases this
    | succ i =>
      obtain ⟨k1, k2, k3⟩ := staticOk_at t1 i o (by simpa using hi)
      refine ⟨fun e he hb => by have := k1 e he hb; omega, by rw [show j + (i + 1) = j + 1 + i by omega]; exact k2, fun d hd => ?_⟩
      obtain ⟨e1, e2, e3⟩ := k3 d hd
      exact ⟨e1, t2 d e2, fun i' o'' hi' ho'' => by
        obtain ⟨i'', rfl⟩ : ∃ i'', i' = i'' + 1 := ⟨i' - 1, by omega⟩
        exact e3 i'' o'' (by omega) (by simpa using ho'')⟩

/-! ### taking names out -/
def eraseAll {α : Type} (t : T α) : List Nat → T α
  | [] => t
  | k :: l => eraseAll (t.upd k none) l
theorem get_eraseAll {α : Type} : ∀ (l : List Nat) (t : T α) (i : Nat), (eraseAll t l).get i = if i ∈ l then none else t.get i
  | [], t, i => by simp [eraseAll]
  | k :: l, t, i => by
    simp only [eraseAll, get_eraseAll l, T.get_upd, List.mem_cons]
    by_cases h : i ∈ l
    · simp [h]
    · by_cases h' : i = k <;> simp [h, h']
/-- only the entries a·i + b below the bound -/
def cutT {α : Type} (lim : Nat) : Nat → Nat → T α → T α
  | _, _, .e => .e
  | a, b, .n l v r => .n (cutT lim (2 * a) (a + b) l) (bif Nat.blt b lim then v else none) (cutT lim (2 * a) (2 * a + b) r)
theorem get_cutT {α : Type} (lim : Nat) : ∀ (t : T α) (a b i : Nat), (cutT lim a b t).get i = if a * i + b < lim then t.get i else none
  | .e, a, b, i => by simp [cutT, T.get_e]
  | .n l v r, a, b, 0 => by
    simp only [cutT, T.get_n0, Nat.mul_zero, Nat.zero_add]
    by_cases h : b < lim
    · rw [if_pos h, show Nat.blt b lim = true from Nat.ble_eq_true_of_le h, cond_true]
    · rw [if_neg h]
      cases hb : Nat.blt b lim with
      | true => exact absurd (blt_lt hb) h
      | false => rfl
  | .n l v r, a, b, i + 1 => by
    simp only [cutT, T.get_ns]
    cases hp : Nat.beq (i % 2) 0 with
    | true =>
      have hp' : i % 2 = 0 := Nat.eq_of_beq_eq_true hp
      simp only [cond_true, get_cutT lim l]
      have e : 2 * a * (i / 2) + (a + b) = a * (i + 1) + b := by
        have : i = 2 * (i / 2) := by omega
        rw [show 2 * a * (i / 2) = a * (2 * (i / 2)) by rw [Nat.mul_comm 2 a, Nat.mul_assoc], ← this, Nat.mul_succ, Nat.add_assoc]
      rw [e]
    | false =>
      have hp' : ¬ i % 2 = 0 := Nat.ne_of_beq_eq_false hp
      simp only [cond_false, get_cutT lim r]
      have e : 2 * a * (i / 2) + (2 * a + b) = a * (i + 1) + b := by
        have : i + 1 = 2 * (i / 2) + 2 := by omega
        rw [this, Nat.mul_add, show 2 * a * (i / 2) = a * (2 * (i / 2)) by rw [Nat.mul_comm 2 a, Nat.mul_assoc], Nat.mul_comm 2 a, Nat.add_assoc]
      rw [e]
end Go.Sx
