/- THE ENGINE IS SOUND: regions in text order, code, loops. -/
import Derived.Test.YtehhljcjdiokjaaSxP
import Derived.LoopN
set_option linter.unusedSimpArgs false
set_option linter.unusedVariables false
noncomputable section
namespace Go.Sx
open M

theorem Act.put_defers (a : Act) (d : Option Tmp) (v : Value) : (a.put d v).defers = a.defers := by cases d <;> rfl
/-- behind a piece of code -/
def FrAfter (n : Nat) (g : G) (μ : MM) (w : World) (g' : G) (fr' : Fr) (a a' : Act) (w' : World) : Prop :=
  ∃ μ', GOk g'.nx μ' w'.heap g'.H ∧ Ext g μ w g' μ' w' ∧ FrOk g'.nx μ' fr' a'.tmps n ∧ a'.defers = a.defers
theorem Ext.refl (g : G) (μ : MM) (w : World) : Ext g μ w g μ w := Ext.same μ w rfl rfl
theorem FrAfter.trans {n : Nat} {g g' g'' : G} {μ μ' : MM} {w w' w'' : World} {fr'' : Fr} {a a' a'' : Act} (h1 : Ext g μ w g' μ' w') (h2 : a'.defers = a.defers) (h : FrAfter n g' μ' w' g'' fr'' a' a'' w'') : FrAfter n g μ w g'' fr'' a a'' w'' := by
  obtain ⟨μ'', k1, k2, k3, k4⟩ := h
  exact ⟨μ'', k1, h1.trans k2, k3, k4.trans h2⟩
/-- what holds of a piece of code that the engine ran -/
def Runs (n : Nat) (fr : Fr) (g : G) (fr' : Fr) (g' : G) (W : (Act → World → Prop) → Act → World → Prop) : Prop :=
  (g'.cs → g.cs) ∧ (g'.cs → ∀ μ w (a : Act), GOk g.nx μ w.heap g.H → FrOk g.nx μ fr a.tmps n → ∀ K : Act → World → Prop, (∀ a' w', FrAfter n g μ w g' fr' a a' w' → K a' w') → W K a w)

theorem wanted_eq {o : Oper} {y : Nat → Option Bool} {j : Nat} {want b : Bool} (hg : o.guard = some (j, want)) (hy : y j = some b) : Region.wanted o y = (b == want) := by
  simp only [Region.wanted, hg, hy]; cases b <;> cases want <;> rfl
theorem yielded_of {ops : Array Oper} {tmps : Array Value} {j d : Nat} {b : Bool} (hj : (ops[j]?).bind (·.dst) = some d) (hd : tmps.getD d undef = .bool b) : yielded ops tmps j = some b := by
  simp only [yielded, hj, Option.bind_some]
  have : tmps[d]? = some (.bool b) := by
    cases h : tmps[d]? with
    | none => rw [Array.getD_eq_getD_getElem?, h] at hd; simp [undef] at hd
    | some v => rw [Array.getD_eq_getD_getElem?, h] at hd; simp at hd; rw [hd]
  rw [this]

theorem wanted_no {o : Oper} {y : Nat → Option Bool} {j : Nat} {want : Bool} (hg : o.guard = some (j, want)) (hy : y j = none) : Region.wanted o y = false := by
  simp only [Region.wanted, hg, hy]; rfl
theorem yielded_tup {ops : Array Oper} {tmps : Array Value} {j d : Nat} {l : Array Value} (hj : (ops[j]?).bind (·.dst) = some d) (hd : tmps.getD d undef = .tuple l) : yielded ops tmps j = none := by
  simp only [yielded, hj, Option.bind_some]
  cases h : tmps[d]? with
  | none => rfl
  | some v => rw [Array.getD_eq_getD_getElem?, h] at hd; simp at hd; rw [hd]
theorem Rep.undef {N : Nat} {μ : MM} : Rep N μ (.tup []) Go.undef := by
  simp only [Rep, Reps, Go.undef]; exact ⟨#[], rfl, rfl⟩

/-- one operation and what is behind it -/
theorem op_then {P : Program} {call : Calls'} (hcall : CallOk P call) {n : Nat} {ops : Array Oper} {rest : List Oper} {o : Oper} {fr fr' : Fr} {g g' : G} {Q : Exit → Act → World → Prop}
    (ih : ∀ fr fr' g g', opsA0 P call n ops.toList rest fr g = .done fr' g' → Runs n fr g fr' g' fun K => wpList P ops (Exit.then K Q) rest)
    (h : ((opA P call fr o).andThen fun v => (putA n fr o.dst v).andThen fun fr' => opsA0 P call n ops.toList rest fr') g = .done fr' g') :
    Runs n fr g fr' g' fun K a w => o.wp P a w (wpList P ops (Exit.then K Q) rest) (Exit.then K Q) := by
  obtain ⟨v, g1, a1, h1⟩ := done_of h
  obtain ⟨fr1, g2, a2, h2⟩ := done_of h1
  obtain ⟨hc1, hs1⟩ := opA_sound hcall a1
  obtain ⟨rfl, hp⟩ := putA_sound a2
  obtain ⟨hc2, hs2⟩ := ih _ _ _ _ h2
  refine ⟨fun hc => hc1 (hc2 hc), fun hc μ w a hg hf K hK => hs1 (hc2 hc) μ w a n hg hf _ _ fun c w' ha => ?_⟩
  obtain ⟨μ', hv, hg', hext⟩ := ha
  exact hs2 hc μ' w' _ hg' (hp _ _ _ _ (hf.later hext.names hext.nx) hv) K fun a' w'' hk => hK _ _ (hk.trans hext (Act.put_defers _ _ _))
/-- one operation that is left out -/
theorem op_out {P : Program} {call : Calls'} {n : Nat} {ops : Array Oper} {rest : List Oper} {o : Oper} {fr fr' : Fr} {g g' : G} {Q : Exit → Act → World → Prop}
    (ih : ∀ fr fr' g g', opsA0 P call n ops.toList rest fr g = .done fr' g' → Runs n fr g fr' g' fun K => wpList P ops (Exit.then K Q) rest)
    (h : ((putA n fr o.dst (.tup [])).andThen fun fr' => opsA0 P call n ops.toList rest fr') g = .done fr' g') :
    Runs n fr g fr' g' fun K a w => wpList P ops (Exit.then K Q) rest (a.put o.dst undef) w := by
  obtain ⟨fr1, g2, a2, h2⟩ := done_of h
  obtain ⟨rfl, hp⟩ := putA_sound a2
  obtain ⟨hc2, hs2⟩ := ih _ _ _ _ h2
  refine ⟨hc2, fun hc μ w a hg hf K hK => ?_⟩
  exact hs2 hc μ w _ hg (hp _ _ a undef hf Rep.undef) K fun a' w'' hk => hK _ _ (hk.trans (Ext.refl _ _ _) (Act.put_defers _ _ _))
theorem opsA0_sound {P : Program} {call : Calls'} (hcall : CallOk P call) {n : Nat} {ops : Array Oper} {Q : Exit → Act → World → Prop} : ∀ (rest : List Oper) (fr fr' : Fr) (g g' : G),
    opsA0 P call n ops.toList rest fr g = .done fr' g' → Runs n fr g fr' g' fun K => wpList P ops (Exit.then K Q) rest
  | [], fr, fr', g, g', h => by
    obtain ⟨rfl, rfl⟩ := ret_done h
    exact ⟨id, fun _ μ w a hg hf K hK => wpList_nil (hK a w ⟨μ, hg, Ext.refl _ _ _, hf, rfl⟩)⟩
  | o :: rest, fr, fr', g, g', h => by
    have ih := opsA0_sound hcall (n := n) (ops := ops) (Q := Q) rest
    unfold opsA0 at h
    generalize hgd : o.guard = gd at h
    split at h
    · obtain ⟨hc, hs⟩ := op_then hcall (Q := Q) ih h
      refine ⟨hc, fun hcs μ w a hg hf K hK => ?_⟩
      show wpList P ops (Exit.then K Q) (o :: rest) a w
      unfold wpList
      rw [if_pos (by simp [Region.wanted, hgd])]
      exact .inl (hs hcs μ w a hg hf K hK)
    · rename_i j want
      generalize hd : (ops.toList[j]?).bind (·.dst) = dd at h
      rw [Array.getElem?_toList] at hd
      split at h
      · exact (no_done h).elim
      · rename_i d
        generalize hfd : fr.get d = fd at h
        split at h
        · rename_i b
          have key : ∀ N μ (a : Act), FrOk N μ fr a.tmps n → Region.wanted o (yielded ops a.tmps) = (b == want) := fun N μ a hf =>
            wanted_eq hgd (yielded_of hd (by have := hf.val d _ hfd; simpa [Rep] using this))
          cases hb : (b == want) with
          | true =>
            rw [hb] at h key
            obtain ⟨hc, hs⟩ := op_then hcall (Q := Q) ih h
            refine ⟨hc, fun hcs μ w a hg hf K hK => ?_⟩
            show wpList P ops (Exit.then K Q) (o :: rest) a w
            unfold wpList
            rw [if_pos (key _ _ a hf)]
            exact .inl (hs hcs μ w a hg hf K hK)
          | false =>
            rw [hb] at h key
            obtain ⟨hc, hs⟩ := op_out (Q := Q) ih h
            refine ⟨hc, fun hcs μ w a hg hf K hK => ?_⟩
            show wpList P ops (Exit.then K Q) (o :: rest) a w
            unfold wpList
            rw [if_neg (by rw [key _ _ a hf]; simp)]
            exact hs hcs μ w a hg hf K hK
        · rename_i b
          obtain ⟨t, g1, a1, h1⟩ := done_of h
          have k := dec_done a1
          have know : ∀ N μ (a : Act), b = t → FrOk N μ fr a.tmps n → FrOk N μ (fr.upd d (some (.bool t))) a.tmps n := fun N μ a e hf =>
            hf.know hfd fun c hc => by simpa [Rep, e] using hc
          have key : ∀ N μ (a : Act), b = t → FrOk N μ fr a.tmps n → Region.wanted o (yielded ops a.tmps) = (t == want) := fun N μ a e hf =>
            wanted_eq hgd (yielded_of hd (by have := hf.val d _ hfd; rw [← e]; simpa [Rep] using this))
          have ext : ∀ μ w, Ext g μ w g1 μ w := fun μ w => Ext.same μ w k.1 k.2.1
          cases hb : (t == want) with
          | true =>
            simp only [hb, cond_true] at h1
            simp only [hb] at key
            obtain ⟨hc, hs⟩ := op_then hcall (Q := Q) ih h1
            refine ⟨fun hcs => (k.2.2 (hc hcs)).1, fun hcs μ w a hg hf K hK => ?_⟩
            have e := (k.2.2 (hc hcs)).2
            show wpList P ops (Exit.then K Q) (o :: rest) a w
            unfold wpList
            rw [if_pos (key _ _ a e hf)]
            exact .inl (hs hcs μ w a (by rw [k.1, k.2.1]; exact hg) (by rw [k.2.1]; exact know _ _ a e hf) K fun a' w' hk => hK _ _ (hk.trans (ext μ w) rfl))
          | false =>
            simp only [hb, cond_false] at h1
            simp only [hb] at key
            obtain ⟨hc, hs⟩ := op_out (Q := Q) ih h1
            refine ⟨fun hcs => (k.2.2 (hc hcs)).1, fun hcs μ w a hg hf K hK => ?_⟩
            have e := (k.2.2 (hc hcs)).2
            show wpList P ops (Exit.then K Q) (o :: rest) a w
            unfold wpList
            rw [if_neg (by rw [key _ _ a e hf]; simp)]
            exact hs hcs μ w a (by rw [k.1, k.2.1]; exact hg) (by rw [k.2.1]; exact know _ _ a e hf) K fun a' w' hk => hK _ _ (hk.trans (ext μ w) rfl)
        · rename_i l
          have key : ∀ N μ (a : Act), FrOk N μ fr a.tmps n → Region.wanted o (yielded ops a.tmps) = false := fun N μ a hf => by
            have := hf.val d _ hfd
            simp only [Rep] at this
            obtain ⟨cs, e, _⟩ := this
            exact wanted_no hgd (yielded_tup hd e)
          obtain ⟨hc, hs⟩ := op_out (Q := Q) ih h
          refine ⟨hc, fun hcs μ w a hg hf K hK => ?_⟩
          show wpList P ops (Exit.then K Q) (o :: rest) a w
          unfold wpList
          rw [if_neg (by rw [key _ _ a hf]; simp)]
          exact hs hcs μ w a hg hf K hK
        · exact (no_done h).elim

theorem opsA_sound {P : Program} {call : Calls'} (hcall : CallOk P call) {n : Nat} {ops : Array Oper} {Q : Exit → Act → World → Prop} (rest : List Oper) (fr fr' : Fr) (g g' : G)
    (h : opsA P call n ops.toList rest fr g = .done fr' g') : Runs n fr g fr' g' fun K => wpList P ops (Exit.then K Q) rest :=
  opsA0_sound hcall rest fr fr' g g' (by rw [← opsA_eq]; exact h)

/-! ### code -/
def Ex.ex : Ex → Exit
  | .normal => .normal
  | .exit id => .exit id
  | .ret => .ret
/-- the code leads out so -/
def Leads (P : Program) (c : Code) (n : Nat) (fr : Fr) (g : G) (r : Ex × Fr) (g' : G) : Prop :=
  (g'.cs → g.cs) ∧ (g'.cs → ∀ μ w (a : Act), GOk g.nx μ w.heap g.H → FrOk g.nx μ fr a.tmps n → ∀ Q : Exit → Act → World → Prop, (∀ a' w', FrAfter n g μ w g' r.2 a a' w' → Q r.1.ex a' w') → c.wp P Q a w)
def RegionOk (P : Program) (region : List Oper → Fr → M Fr) (n : Nat) : Prop :=
  ∀ (ops : Array Oper) (id : Nat) fr fr' g g', region ops.toList fr g = .done fr' g' → Leads P (.region id ops true) n fr g (.normal, fr') g'
theorem Leads.of {P : Program} {c : Code} {n : Nat} {fr : Fr} {g : G} {r : Ex × Fr} {g' : G} (h : Leads P c n fr g r g') (hc : g'.cs) {μ : MM} {w : World} {a : Act} (hg : GOk g.nx μ w.heap g.H) (hf : FrOk g.nx μ fr a.tmps n) :
    c.wp P (fun e a' w' => e = r.1.ex ∧ FrAfter n g μ w g' r.2 a a' w') a w := h.2 hc μ w a hg hf _ fun _ _ k => ⟨rfl, k⟩
theorem loopA_sound {P : Program} {c : Code} {n : Nat} {body : Fr → M (Ex × Fr)} (hb : ∀ fr r g g', body fr g = .done r g' → Leads P c n fr g r g') :
    ∀ (k : Nat) (fr : Fr) (r : Ex × Fr) (g g' : G), loopA body k fr g = .done r g' →
      (g'.cs → g.cs) ∧ (g'.cs → ∀ μ w (a : Act), GOk g.nx μ w.heap g.H → FrOk g.nx μ fr a.tmps n → ∀ Q : Exit → Act → World → Prop, (∀ a' w', FrAfter n g μ w g' r.2 a a' w' → Q r.1.ex a' w') → Code.rounds P c Q k a w)
  | 0, fr, r, g, g', h => (no_done h).elim
  | k + 1, fr, r, g, g', h => by
    have ih := loopA_sound hb k
    unfold loopA at h
    obtain ⟨⟨e, fr1⟩, g1, a1, h1⟩ := done_of h
    have hb1 := hb _ _ _ _ a1
    cases e with
    | normal =>
      obtain ⟨hc2, hs2⟩ := ih _ _ _ _ h1
      refine ⟨fun hc => hb1.1 (hc2 hc), fun hc μ w a hg hf Q hQ => ?_⟩
      rw [rounds_succ]
      refine wp_mono (hb1.of (hc2 hc) hg hf) ?_
      rintro e a' w' ⟨rfl, μ', hg', hext, hf', hd⟩
      exact hs2 hc μ' w' a' hg' hf' Q fun a'' w'' hk => hQ _ _ (hk.trans hext hd)
    | exit id =>
      obtain ⟨rfl, rfl⟩ := ret_done h1
      refine ⟨hb1.1, fun hc μ w a hg hf Q hQ => ?_⟩
      rw [rounds_succ]
      refine wp_mono (hb1.of hc hg hf) ?_
      rintro e a' w' ⟨rfl, hk⟩
      exact hQ _ _ hk
    | ret =>
      obtain ⟨rfl, rfl⟩ := ret_done h1
      refine ⟨hb1.1, fun hc μ w a hg hf Q hQ => ?_⟩
      rw [rounds_succ]
      refine wp_mono (hb1.of hc hg hf) ?_
      rintro e a' w' ⟨rfl, hk⟩
      exact hQ _ _ hk
/-- a block of the code -/
def BlockIn (id : Nat) (c : Code) : Code → Prop
  | .seq a b => BlockIn id c a ∨ BlockIn id c b
  | .cond _ a b => BlockIn id c a ∨ BlockIn id c b
  | .block id' c' => (id' = id ∧ c' = c) ∨ BlockIn id c c'
  | .loop c' => BlockIn id c c'
  | _ => False
def blockAt (id : Nat) : Code → Option Code
  | .seq a b =>
    match blockAt id a with
    | some c => some c
    | none => blockAt id b
  | .cond _ a b =>
    match blockAt id a with
    | some c => some c
    | none => blockAt id b
  | .block id' c' => bif Nat.beq id' id then some c' else blockAt id c'
  | .loop c' => blockAt id c'
  | _ => none
def blockCnt (id : Nat) : Code → Nat
  | .seq a b => blockCnt id a + blockCnt id b
  | .cond _ a b => blockCnt id a + blockCnt id b
  | .block id' c' => (bif Nat.beq id' id then 1 else 0) + blockCnt id c'
  | .loop c' => blockCnt id c'
  | _ => 0
theorem blockCnt_pos {id : Nat} {c : Code} : ∀ {b : Code}, BlockIn id c b → 1 ≤ blockCnt id b
  | .seq x y, h => by
    simp only [BlockIn] at h; simp only [blockCnt]
    rcases h with h | h
    · have := blockCnt_pos h; omega
    · have := blockCnt_pos h; omega
  | .cond _ x y, h => by
    simp only [BlockIn] at h; simp only [blockCnt]
    rcases h with h | h
    · have := blockCnt_pos h; omega
    · have := blockCnt_pos h; omega
  | .block id' c', h => by
    simp only [BlockIn] at h; simp only [blockCnt]
    rcases h with ⟨rfl, _⟩ | h
    · simp
    · have := blockCnt_pos h; omega
  | .loop c', h => by simp only [BlockIn] at h; simp only [blockCnt]; exact blockCnt_pos h
theorem blockAt_none {id : Nat} : ∀ {b : Code}, blockCnt id b = 0 → blockAt id b = none
  | .seq x y, h => by
    simp only [blockCnt] at h; simp only [blockAt]
    rw [blockAt_none (by omega), blockAt_none (by omega)]
  | .cond _ x y, h => by
    simp only [blockCnt] at h; simp only [blockAt]
    rw [blockAt_none (by omega), blockAt_none (by omega)]
  | .block id' c', h => by
    simp only [blockCnt] at h; simp only [blockAt]
    cases hb : Nat.beq id' id with
    | true => rw [hb] at h; simp at h
    | false => rw [cond_false]; exact blockAt_none (by rw [hb] at h; simpa using h)
  | .loop c', h => by simp only [blockCnt] at h; simp only [blockAt]; exact blockAt_none h
  | .skip, _ => rfl
  | .region .., _ => rfl
  | .exit _, _ => rfl
  | .ret, _ => rfl
  | .goto _, _ => rfl
  | .label _, _ => rfl
  | .rangeFunc .., _ => rfl
  | .scope _, _ => rfl
  | .refuse _, _ => rfl
theorem blockAt_of {id : Nat} {c : Code} : ∀ {b : Code}, blockCnt id b = 1 → BlockIn id c b → blockAt id b = some c
  | .seq x y, h, k => by
    simp only [BlockIn] at k; simp only [blockCnt] at h; simp only [blockAt]
    rcases k with k | k
    · have := blockCnt_pos k
      rw [blockAt_of (by omega) k]
    · have := blockCnt_pos k
      rw [blockAt_none (by omega), blockAt_of (by omega) k]
  | .cond _ x y, h, k => by
    simp only [BlockIn] at k; simp only [blockCnt] at h; simp only [blockAt]
    rcases k with k | k
    · have := blockCnt_pos k
      rw [blockAt_of (by omega) k]
    · have := blockCnt_pos k
      rw [blockAt_none (by omega), blockAt_of (by omega) k]
  | .block id' c', h, k => by
    simp only [BlockIn] at k; simp only [blockCnt] at h; simp only [blockAt]
    cases hb : Nat.beq id' id with
    | true =>
      rw [hb, cond_true] at h
      rcases k with ⟨_, rfl⟩ | k
      · rfl
      · have := blockCnt_pos k; omega
    | false =>
      rw [hb, cond_false] at h
      rcases k with ⟨rfl, _⟩ | k
      · simp at hb
      · rw [cond_false]; exact blockAt_of (by omega) k
  | .loop c', h, k => by simp only [BlockIn] at k; simp only [blockCnt] at h; simp only [blockAt]; exact blockAt_of h k
def SOk (P : Program) (n : Nat) (id : Nat) (c : Code) (S : Fr → M (Ex × Fr)) : Prop := ∀ fr r g g', S fr g = .done r g' → Leads P (.block id c) n fr g r g'
def LoopsIn (P : Program) (loops : Loops) (n : Nat) (c : Code) : Prop := ∀ id S, loops id = some S → ∀ c', BlockIn id c' c → SOk P n id c' S
theorem LoopsIn.none (P : Program) (n : Nat) (c : Code) : LoopsIn P noLoops n c := fun id S h => by cases h
theorem codeA_sound {P : Program} {call : Calls'} (hcall : CallOk P call) {region : List Oper → Fr → M Fr} {loops : Loops} {n rounds : Nat} (hreg : RegionOk P region n) :
    ∀ (c : Code), LoopsIn P loops n c → ∀ (fr : Fr) (r : Ex × Fr) (g g' : G), codeA P call region loops n rounds c fr g = .done r g' → Leads P c n fr g r g'
  | .skip, hl, fr, r, g, g', h => by
    unfold codeA at h
    obtain ⟨rfl, rfl⟩ := ret_done h
    exact ⟨id, fun _ μ w a hg hf Q hQ => wp_skip (hQ a w ⟨μ, hg, Ext.refl _ _ _, hf, rfl⟩)⟩
  | .region id ops false, hl, fr, r, g, g', h => by
    unfold codeA at h
    obtain ⟨fr1, g1, a1, h1⟩ := done_of h
    obtain ⟨rfl, rfl⟩ := ret_done h1
    refine ⟨(opsA_sound hcall (Q := fun _ _ _ => False) _ _ _ _ _ a1).1, fun hc μ w a hg hf Q hQ => wp_region_list ?_⟩
    have := (opsA_sound hcall (Q := Q) _ _ _ _ _ a1).2 hc μ w a hg hf (Q .normal) hQ
    have e : Exit.then (Q .normal) Q = Q := by funext e; cases e <;> rfl
    simpa only [e] using this
  | .region id ops true, hl, fr, r, g, g', h => by
    unfold codeA at h
    obtain ⟨fr1, g1, a1, h1⟩ := done_of h
    obtain ⟨rfl, rfl⟩ := ret_done h1
    exact hreg ops id _ _ _ _ a1
  | .seq x y, hl, fr, r, g, g', h => by
    unfold codeA at h
    obtain ⟨⟨e, fr1⟩, g1, a1, h1⟩ := done_of h
    have hx := codeA_sound hcall hreg x (fun id S h c' hb => hl id S h c' (.inl hb)) _ _ _ _ a1
    cases e with
    | normal =>
      have hy := codeA_sound hcall hreg y (fun id S h c' hb => hl id S h c' (.inr hb)) _ _ _ _ h1
      refine ⟨fun hc => hx.1 (hy.1 hc), fun hc μ w a hg hf Q hQ => wp_seq (wp_mono (hx.of (hy.1 hc) hg hf) ?_)⟩
      rintro e a' w' ⟨rfl, μ', hg', hext, hf', hd⟩
      exact hy.2 hc μ' w' a' hg' hf' Q fun a'' w'' hk => hQ _ _ (hk.trans hext hd)
    | exit id =>
      obtain ⟨rfl, rfl⟩ := ret_done h1
      refine ⟨hx.1, fun hc μ w a hg hf Q hQ => wp_seq (wp_mono (hx.of hc hg hf) ?_)⟩
      rintro e a' w' ⟨rfl, hk⟩
      exact hQ _ _ hk
    | ret =>
      obtain ⟨rfl, rfl⟩ := ret_done h1
      refine ⟨hx.1, fun hc μ w a hg hf Q hQ => wp_seq (wp_mono (hx.of hc hg hf) ?_)⟩
      rintro e a' w' ⟨rfl, hk⟩
      exact hQ _ _ hk
  | .cond c x y, hl, fr, r, g, g', h => by
    unfold codeA at h
    generalize hcv : evalA fr c = cv at h
    split at h
    · rename_i t
      have key : ∀ N μ (a : Act), FrOk N μ fr a.tmps n → a.eval c = .bool t := fun N μ a hf => by
        have := hf.eval c
        rw [hcv] at this
        simpa [Rep] using this
      cases t with
      | true =>
        have hx := codeA_sound hcall hreg x (fun id S h c' hb => hl id S h c' (.inl hb)) _ _ _ _ h
        exact ⟨hx.1, fun hc μ w a hg hf Q hQ => wp_cond (key _ _ _ hf) (hx.2 hc μ w a hg hf Q hQ)⟩
      | false =>
        have hx := codeA_sound hcall hreg y (fun id S h c' hb => hl id S h c' (.inr hb)) _ _ _ _ h
        exact ⟨hx.1, fun hc μ w a hg hf Q hQ => wp_cond (key _ _ _ hf) (hx.2 hc μ w a hg hf Q hQ)⟩
    · rename_i t
      obtain ⟨d, g1, a1, h1⟩ := done_of h
      have k := dec_done a1
      have key : ∀ N μ (a : Act), FrOk N μ fr a.tmps n → a.eval c = .bool t := fun N μ a hf => by
        have := hf.eval c
        rw [hcv] at this
        simpa [Rep] using this
      have ext : ∀ μ w, Ext g μ w g1 μ w := fun μ w => Ext.same μ w k.1 k.2.1
      cases d with
      | true =>
        have hx := codeA_sound hcall hreg x (fun id S h c' hb => hl id S h c' (.inl hb)) _ _ _ _ h1
        refine ⟨fun hc => (k.2.2 (hx.1 hc)).1, fun hc μ w a hg hf Q hQ => wp_cond (key _ _ _ hf) ?_⟩
        rw [(k.2.2 (hx.1 hc)).2]
        exact hx.2 hc μ w a (by rw [k.1, k.2.1]; exact hg) (by rw [k.2.1]; exact hf) Q fun a' w' hk => hQ _ _ (hk.trans (ext μ w) rfl)
      | false =>
        have hx := codeA_sound hcall hreg y (fun id S h c' hb => hl id S h c' (.inr hb)) _ _ _ _ h1
        refine ⟨fun hc => (k.2.2 (hx.1 hc)).1, fun hc μ w a hg hf Q hQ => wp_cond (key _ _ _ hf) ?_⟩
        rw [(k.2.2 (hx.1 hc)).2]
        exact hx.2 hc μ w a (by rw [k.1, k.2.1]; exact hg) (by rw [k.2.1]; exact hf) Q fun a' w' hk => hQ _ _ (hk.trans (ext μ w) rfl)
    · exact (no_done h).elim
  | .block id c, hl, fr, r, g, g', h => by
    unfold codeA at h
    generalize hS : loops id = S at h
    split at h
    · rename_i S'
      exact hl id S' hS c (.inl ⟨rfl, rfl⟩) fr r g g' h
    · obtain ⟨⟨e, fr1⟩, g1, a1, h1⟩ := done_of h
      have hx := codeA_sound hcall hreg c (fun id S h c' hb => hl id S h c' (.inr hb)) _ _ _ _ a1
      cases e with
      | normal =>
        obtain ⟨rfl, rfl⟩ := ret_done h1
        refine ⟨hx.1, fun hc μ w a hg hf Q hQ => wp_block (wp_mono (hx.of hc hg hf) ?_)⟩
        rintro e a' w' ⟨rfl, hk⟩
        exact hQ _ _ hk
      | ret =>
        obtain ⟨rfl, rfl⟩ := ret_done h1
        refine ⟨hx.1, fun hc μ w a hg hf Q hQ => wp_block (wp_mono (hx.of hc hg hf) ?_)⟩
        rintro e a' w' ⟨rfl, hk⟩
        exact hQ _ _ hk
      | exit id' =>
        cases hid : Nat.beq id' id with
        | true =>
          simp only [hid, cond_true] at h1
          obtain ⟨rfl, rfl⟩ := ret_done h1
          refine ⟨hx.1, fun hc μ w a hg hf Q hQ => wp_block (wp_mono (hx.of hc hg hf) ?_)⟩
          rintro e a' w' ⟨rfl, hk⟩
          simp only [Ex.ex, Exit.inBlock, if_pos (Nat.eq_of_beq_eq_true hid)]
          exact hQ _ _ hk
        | false =>
          simp only [hid, cond_false] at h1
          obtain ⟨rfl, rfl⟩ := ret_done h1
          refine ⟨hx.1, fun hc μ w a hg hf Q hQ => wp_block (wp_mono (hx.of hc hg hf) ?_)⟩
          rintro e a' w' ⟨rfl, hk⟩
          simp only [Ex.ex, Exit.inBlock, if_neg (Nat.ne_of_beq_eq_false hid)]
          exact hQ _ _ hk
  | .loop c, hl, fr, r, g, g', h => by
    unfold codeA at h
    obtain ⟨hc0, hs⟩ := loopA_sound (fun fr r g g' h => codeA_sound hcall hreg c (fun id S h c' hb => hl id S h c' hb) fr r g g' h) _ _ _ _ _ h
    exact ⟨hc0, fun hc μ w a hg hf Q hQ => wp_loop_rounds rounds (hs hc μ w a hg hf Q hQ)⟩
  | .exit id, hl, fr, r, g, g', h => by
    unfold codeA at h
    obtain ⟨rfl, rfl⟩ := ret_done h
    exact ⟨fun h => h, fun _ μ w a hg hf Q hQ => wp_exit (hQ a w ⟨μ, hg, Ext.refl _ _ _, hf, rfl⟩)⟩
  | .ret, hl, fr, r, g, g', h => by
    unfold codeA at h
    obtain ⟨rfl, rfl⟩ := ret_done h
    exact ⟨fun h => h, fun _ μ w a hg hf Q hQ => wp_ret (hQ a w ⟨μ, hg, Ext.refl _ _ _, hf, rfl⟩)⟩
  | .goto _, hl, fr, r, g, g', h => (no_done h).elim
  | .label _, hl, fr, r, g, g', h => (no_done h).elim
end Go.Sx
