/- Part of a proof: the law NoOrderTravelsLess gives true for every list of integers and leaves its argument as it was; there are no conditions beyond those that the given row states. -/
import Derived.Test.YtjocebmjjakddaaGreatDoorSa
set_option linter.unusedVariables false
set_option linter.unusedSimpArgs false
/-! Contracts: the planner tries all plans. -/
namespace Go.Eng
open Go
variable {c : Cfg}

theorem s_pushM {P : Program} {α : Type} {D : Nat → Prop} {t e : TypeId} {sz by_ : Nat} {z : List Value} {enc : α → List Value} {w : World} {s : Value} {l : List α} {S : World → Prop} (hT : SliceT P t e sz by_ z) {y : α} {x : Value} {ty : TypeId} {k : Value → World → Prop}
    (ho : Ow D e sz enc w s l) (hx : x.cells = (enc y).toArray) (hsz : (enc y).length = sz)
    (hone : (enc y).all Eng.one = true) (hb : l.length + 1 ≤ 16777216) (hs : 1 * sz ≤ 16777216) (hD : ∀ i, w.heap.size ≤ i → D i)
    (hS : ∀ w', Keep NoB w w' → S w')
    (h : ∀ v' w', Ow D e sz enc w' v' (l ++ [y]) → Keep (inV s) w w' → (∀ i, inV v' i → inV s i ∨ w.heap.size ≤ i) → k v' w') :
    semP P (Instr.buildSlice t 1 #[(0, x)]) w fun u w1 => S w1 ∧ semP P (Builtin.append_ #[t, t] ty #[s, u]) w1 k := by
  have hfl : flat [x] = enc y := by simp [flat, hx]
  refine s_bslice hT [x] rfl rfl (fun v hv => by simp at hv; subst hv; simp [hx, hsz]) hs fun b w1 hat hk hbw hsz1 => ⟨hS _ hk, ?_⟩
  rw [hfl] at hat
  refine s_append hT (ho.keep0 hk) (src_new hat (by rw [hsz, Nat.one_mul])) hone hb (fun i hi => hD i (by have := hk.size; omega)) fun v' w' ho' hk' hi' _ => ?_
  have hk2 : Keep (inV s) w w' := hk.none.trans hk'
  refine h v' w' ?_ hk2 fun i hi => ?_
  · unfold Ow
    rw [List.length_append, List.flatMap_append]
    simpa using ho'
  · rcases hi' i hi with h' | h'
    · exact .inl h'
    · exact .inr (by have := hk.size; omega)

theorem Seen.clr {w : World} {b n e : Nat} {p : Nat → Bool} (h : Seen w b n e p) {i : Nat} (hi : i < n) {k : World → Prop}
    (hk : ∀ w', Seen w' b n e (fun j => !decide (j = i) && p j) → Keep (· = b) w w' → w'.heap.size = w.heap.size → k w') : st (pb b (0 + i * 1)) (.bool false) w k := by
  refine s_st h (by simp; omega) rfl fun w' h1 h2 h3 => hk w' ?_ h2 h3
  have : ((List.range n).map fun k => Value.bool (p k)).set (0 + i * 1) (.bool false) = (List.range n).map fun k => Value.bool (!decide (k = i) && p k) := by
    apply List.ext_getElem?
    intro j
    rw [List.getElem?_set, List.getElem?_map, List.getElem?_map]
    by_cases hj : j < n
    · rw [List.getElem?_range hj]
      by_cases hji : 0 + i * 1 = j
      · rw [if_pos hji, if_pos (by simp; omega)]
        have : j = i := by omega
        simp [this]
      · rw [if_neg hji]
        have : j ≠ i := by omega
        simp [this]
    · rw [List.getElem?_eq_none (l := List.range n) (by simp; omega), if_neg (by omega)]
      rfl
  unfold Seen
  rw [← this]; exact h1
theorem Seen.same {w : World} {b n e : Nat} {p q : Nat → Bool} (h : Seen w b n e p) (hp : ∀ k, k < n → p k = q k) : Seen w b n e q := by
  have : ((List.range n).map fun k => Value.bool (p k)) = (List.range n).map fun k => Value.bool (q k) := by
    apply List.map_congr_left
    intro k hk
    rw [hp k (List.mem_range.1 hk)]
  unfold Seen at *
  rw [← this]; exact h

theorem flat_set_empt {plan : Plan} {k : Nat} {l : List Int} {i : Int} (he : Empt k plan) (hk : plan[k]? = some l) : (plan.set k (l ++ [i])).flatten = plan.flatten ++ [i] := by
  have hkl := lt_of_idx hk
  have h1 : (plan.set k (l ++ [i]))[k]? = some (l ++ [i]) := List.getElem?_set_self hkl
  rw [flat_split h1, flat_split hk]
  have h2 : (plan.drop (k + 1)).flatten = [] := by
    rw [List.flatten_eq_nil_iff]
    intro l' hl
    obtain ⟨q, hq⟩ := List.getElem?_of_mem hl
    rw [List.getElem?_drop] at hq
    exact he _ _ (by omega) hq
  rw [List.take_set_of_le (Nat.le_refl _), List.drop_set_of_lt (by omega), h2]
  simp

theorem sumP_bd {j : List Job} {ch : Int} (hok : JOk j ch) : ∀ (p : List Prn) (plan : Plan), (∀ l ∈ plan, InJ j.length l ∧ l.length ≤ 500) → 0 ≤ sumP j ch p plan ∧ sumP j ch p plan ≤ 100000000 * plan.flatten.length
  | [], plan, _ => by
    have : sumP j ch [] plan = 0 := by cases plan <;> rfl
    rw [this]; omega
  | _ :: _, [], _ => by simp [sumP]
  | pr :: ps, l :: ls, h => by
    have h1 := h l (List.mem_cons_self ..)
    have h2 := sumP_bd hok ps ls fun l hl => h l (List.mem_cons_of_mem _ hl)
    have h3 := sumL_bd (l := rowE j ch pr l) (m := 100000000) (by omega) fun x hx => by
      have := endsC_bd hok l ⟨0, pr.mat⟩ h1.1 x hx
      have e : (Clk.mk 0 pr.mat).fin = 0 := rfl
      rw [e] at this
      omega
    have e : (rowE j ch pr l).length = l.length := endsC_len _ _
    rw [e] at h3
    simp only [sumP, List.flatten_cons, List.length_append]
    omega

/-- the blocks of a planner -/
def PFt (pk gb ub : Nat) (hs : List Value) (b : Nat) : Prop := b = pk ∨ b = gb ∨ b = ub ∨ inRw hs b

section
variable {B0 : Nat} {e : TypeId} {p : List Prn} {j : List Job} {ch : Int} {pv jv bv : Value} {pk gb ub : Nat} {w w' : World} {hs : List Value} {plan : Plan} {best : Option Plan} {lb sb : Int}
end

def cmpPl (p : List Prn) (j : List Job) (ch : Int) : Plan → Plan → Int := cmpK (lastP j ch p) (sumP j ch p)

end Go.Eng

/-! Contract: the planner tries all plans from one on. -/
namespace Go.Eng
open Go
variable {c : Cfg}

end Go.Eng

/-! Contract: the earliest plan. -/
namespace Go.Eng
open Go
variable {c : Cfg}

/-- all plans -/
def AllP (n m : Nat) (full : Plan) : Prop := Compl n full ∧ full.length = m
theorem goes_root {n m : Nat} (hm : 0 < m) (full : Plan) : (Compl n full ∧ Goes 0 (List.replicate m []) full) ↔ AllP n m full := by
  refine ⟨fun ⟨h1, h2⟩ => ⟨h1, by rw [h2.len, List.length_replicate]⟩, fun ⟨h1, h2⟩ => ⟨h1, by rw [h2, List.length_replicate], fun i hi => by omega, ?_⟩⟩
  obtain ⟨l, hl⟩ := idx_of_lt (show 0 < full.length by omega)
  exact ⟨[], l, by rw [List.getElem?_replicate, if_pos hm], by rw [hl]; rfl⟩
theorem empt_root (k m : Nat) : Empt k (List.replicate m []) := fun i l _ hl => by
  rw [List.getElem?_replicate] at hl
  split at hl
  · cases hl; rfl
  · cases hl
theorem cov_root {n m : Nat} (hm : 0 < m) (full : Plan) : Cov n (List.replicate m []) full ↔ AllP n m full := by
  rw [← goes_root hm full]
  constructor
  · rintro ⟨k, hk, he, h1, h2⟩
    rw [goes_root hm]
    exact ⟨h1, by rw [h2.len, List.length_replicate]⟩
  · rintro ⟨h1, h2⟩
    exact ⟨0, by rw [List.length_replicate]; exact hm, empt_root 0 m, h1, h2⟩
theorem iotaI_len (n : Nat) : (iotaI n).length = n := by simp [iotaI]
theorem mem_iotaI {n : Nat} {i : Int} : i ∈ iotaI n ↔ 0 ≤ i ∧ i < n := by
  unfold iotaI
  rw [List.mem_map]
  constructor
  · rintro ⟨k, hk, rfl⟩
    have := List.mem_range.1 hk; omega
  · rintro ⟨h1, h2⟩
    exact ⟨i.toNat, List.mem_range.2 (by omega), by omega⟩
theorem iotaI_nodup (n : Nat) : (iotaI n).Nodup := by
  unfold iotaI
  induction n with
  | zero => simp
  | succ n ih =>
    rw [List.range_succ, List.map_append]
    refine List.nodup_append.2 ⟨ih, by simp, fun a ha b hb => ?_⟩
    obtain ⟨k, hk, rfl⟩ := List.mem_map.1 ha
    have := List.mem_range.1 hk
    simp at hb; omega
theorem allP_some {n m : Nat} (hm : 0 < m) : ∃ full, AllP n m full := by
  obtain ⟨m', rfl⟩ : ∃ m', m = m' + 1 := ⟨m - 1, by omega⟩
  refine ⟨iotaI n :: List.replicate m' [], ⟨?_, ?_, ?_⟩, by simp⟩
  all_goals
    have : (iotaI n :: List.replicate m' []).flatten = iotaI n := by
      rw [List.flatten_cons]
      have : (List.replicate m' ([] : List Int)).flatten = [] := by
        rw [List.flatten_eq_nil_iff]; intro l hl; exact List.eq_of_mem_replicate hl
      rw [this, List.append_nil]
    rw [this]
  · exact iotaI_len n
  · exact iotaI_nodup n
  · intro i hi; exact mem_iotaI.1 hi
theorem lst_some {n m : Nat} (hm : 0 < m) {f : Plan → Plan → Int} {r : Option Plan} (h : Lst f (AllP n m) none r) : ∃ b, r = some b ∧ AllP n m b := by
  obtain ⟨x, hx⟩ := allP_some (n := n) hm
  obtain ⟨y, rfl, _⟩ := h.all x hx
  rcases h.src with h | ⟨z, h, hz⟩
  · cases h
  · cases h; exact ⟨y, rfl, hz⟩

noncomputable def farmF (p : List Prn) (j : List Job) (ch : Int) : Int := if prnF p ≠ 0 then prnF p else if jobF j ≠ 0 then jobF j else if 0 ≤ ch ∧ ch ≤ 100000 then 0 else 1

/-- what is told of the earliest plan -/
def EarlyR (D : Nat → Prop) (p : List Prn) (j : List Job) (ch : Int) (bv : Value) (n : Int) (w' : World) : Prop :=
  ∃ b, Lst (cmpPl p j ch) (AllP j.length p.length) none (some b) ∧ n = lastP j ch p b ∧ S2 D eI w' bv b

theorem flat_rep (m : Nat) : (List.replicate m ([] : List Int)).flatten = [] := by
  rw [List.flatten_eq_nil_iff]; intro l hl; exact List.eq_of_mem_replicate hl
theorem last_rep {j : List Job} {ch : Int} : ∀ (p : List Prn) (m : Nat), lastP j ch p (List.replicate m []) = 0
  | [], m => by cases m <;> rfl
  | _ :: _, 0 => rfl
  | pr :: ps, m + 1 => by simp only [List.replicate_succ, lastP, last_rep ps m]; rfl
theorem sum_rep {j : List Job} {ch : Int} : ∀ (p : List Prn) (m : Nat), sumP j ch p (List.replicate m []) = 0
  | [], m => by cases m <;> rfl
  | _ :: _, 0 => rfl
  | pr :: ps, m + 1 => by simp only [List.replicate_succ, sumP, sum_rep ps m]; rfl

end Go.Eng

/-! Contracts: the reference tries all plans. -/
namespace Go.Eng
open Go
variable {c : Cfg}

theorem s_or {P : Program} {t : TypeId} {x y : Operand} {a b : Nat} {k : Value → Prop} (ha : a < 4611686018427387904) (hb : b < 4611686018427387904) (h : k (vi ((a ||| b : Nat) : Int))) :
    pureP P (do eqGuard .or t x y (vi a) (vi b); binOp .or t (vi a) (vi b)) k := by
  refine ⟨_, fun w => ?_, h⟩
  have hlt : a ||| b < 2 ^ 62 := Nat.or_lt_two_pow (by omega) (by omega)
  have : (binOp .or t (vi a) (vi b)) = pure (vi ((a ||| b : Nat) : Int)) := by
    show Op.intBits .or .i64 a b = _
    unfold Op.intBits
    have e1 : (BitVec.ofInt IntKind.i64.bits (a : Int) ||| BitVec.ofInt IntKind.i64.bits (b : Int)).toNat = a ||| b := by
      show (BitVec.ofInt 64 (a : Int) ||| BitVec.ofInt 64 (b : Int)).toNat = a ||| b
      rw [BitVec.ofInt_natCast, BitVec.ofInt_natCast, BitVec.toNat_or, BitVec.toNat_ofNat, BitVec.toNat_ofNat, Nat.mod_eq_of_lt (by omega), Nat.mod_eq_of_lt (by omega)]
    simp only [e1]
    congr 2
    exact wr_id (by omega) (by omega)
  rw [this]; rfl

def leastV (p : List Prn) (j : List Job) (ch : Int) : Option Plan → Int
  | none => -1
  | some b => lastP j ch p b
def sumV (p : List Prn) (j : List Job) (ch : Int) : Option Plan → Int
  | none => 0
  | some b => sumP j ch p b
def BestE (D : Nat → Prop) (w : World) (bv : Value) : Option Plan → Prop
  | none => bv = .slice none 0 0
  | some b => S2 D eI w bv b
theorem BestE.keep {D M : Nat → Prop} {w w' : World} {bv : Value} {best : Option Plan} (h : BestE D w bv best) (k : Keep M w w') (hd : ∀ b, D b → ¬ M b) : BestE D w' bv best := by
  cases best with
  | none => exact h
  | some pl => exact S2.keep h k hd

theorem tmod2 (n : Nat) : (n : Int).tmod 2 = 0 ↔ n % 2 = 0 := by
  rw [Int.tmod_eq_emod_of_nonneg (by omega)]; omega
theorem leastV_neg (p : List Prn) (j : List Job) (ch : Int) (b : Plan) : ¬ leastV p j ch (some b) < 0 := by
  have : 0 ≤ lastP j ch p b := by rw [← planPs_last]; exact mxL_nonneg _
  show ¬ lastP j ch p b < 0
  omega

/-- a function value tells of rows -/
def TellsR (P : Program) (fv : Value) (q : List Int → Bool) (w : World) : Prop := ∀ (D : Nat → Prop) (av : Value) (a : List Int) (w' : World), Keep NoB w w' → Sl D eI w' av a → callV P fv #[av] w' fun v w'' => Keep NoB w' w'' ∧ v = .bool (q a)
theorem wrO_mem : ∀ (ps : List (Int × Int)) (o : List Int) (x : Int), x ∈ wrO o ps → x ∈ o ∨ x ∈ ps.map (·.2)
  | [], o, x, h => .inl h
  | q :: r, o, x, h => by
    rcases wrO_mem r (o.set q.1.toNat q.2) x h with h | h
    · rcases List.mem_or_eq_of_mem_set h with h | h
      · exact .inl h
      · exact .inr (by rw [h]; simp)
    · exact .inr (by rw [List.map_cons]; exact List.mem_cons_of_mem _ h)
theorem planPs_bd {j : List Job} {ch : Int} (hok : JOk j ch) : ∀ (p : List Prn) (plan : Plan), (∀ l ∈ plan, InJ j.length l ∧ l.length ≤ 500) → ∀ x ∈ (planPs j ch p plan).map (·.2), 0 ≤ x ∧ x ≤ 100000000
  | [], plan, _, x, hx => by cases plan <;> simp [planPs] at hx
  | _ :: _, [], _, x, hx => by simp [planPs] at hx
  | pr :: ps, l :: ls, h, x, hx => by
    simp only [planPs, List.map_append, List.mem_append, rowPs_snd] at hx
    rcases hx with hx | hx
    · have h1 := h l (List.mem_cons_self ..)
      have := endsC_bd hok l ⟨0, pr.mat⟩ h1.1 x hx
      have e : (Clk.mk 0 pr.mat).fin = 0 := rfl
      rw [e] at this
      omega
    · exact planPs_bd hok ps ls (fun l hl => h l (List.mem_cons_of_mem _ hl)) x hx
theorem endsO_bd {j : List Job} {ch : Int} (hok : JOk j ch) {p : List Prn} {plan : Plan} (h : ∀ l ∈ plan, InJ j.length l ∧ l.length ≤ 500) : ∀ x ∈ endsO j ch p plan, 0 ≤ x ∧ x ≤ 1000000000 := fun x hx => by
  rcases wrO_mem _ _ _ hx with h1 | h1
  · have := List.eq_of_mem_replicate h1; omega
  · have := planPs_bd hok p plan h x h1; omega
theorem last_nonneg {j : List Job} {ch : Int} (p : List Prn) (plan : Plan) : 0 ≤ lastP j ch p plan := by rw [← planPs_last]; exact mxL_nonneg _

def E3 (bl bs bb : Nat) (b : Nat) : Prop := b = bl ∨ b = bs ∨ b = bb

section
variable {p : List Prn} {j : List Job} {ch : Int} {bj bp bc bl bs bb bt : Nat} {w w' : World} {bv : Value} {best : Option Plan}
end

end Go.Eng

/-! Contracts: greedy plans. -/
namespace Go.Eng
open Go
variable {c : Cfg}

/-- when job t ends, if printer k does it next -/
def gEnd (j : List Job) (ch : Int) (p : List Prn) (t k : Nat) : Int := ((clkP j ch p (gPlan j ch p t) k).go (jobAt j t) ch).fin
theorem gPlan_succ {j : List Job} {ch : Int} {p : List Prn} (t : Nat) :
    gPlan j ch p (t + 1) = (gPlan j ch p t).set (amin (gEnd j ch p t) p.length) ((gPlan j ch p t).getD (amin (gEnd j ch p t) p.length) [] ++ [(t : Int)]) := rfl

/-- the rows of a greedy plan are numbers below t, and few -/
theorem gPlan_rows {j : List Job} {ch : Int} {p : List Prn} : ∀ t, (∀ l ∈ gPlan j ch p t, InJ t l ∧ l.length ≤ t)
  | 0, l, hl => by
    have := List.eq_of_mem_replicate hl
    subst this; exact ⟨fun x hx => (by cases hx), by simp⟩
  | t + 1, l, hl => by
    rw [gPlan_succ] at hl
    rcases List.mem_or_eq_of_mem_set hl with h | h
    · have := gPlan_rows t l h
      exact ⟨fun x hx => by have := this.1 x hx; omega, by omega⟩
    · subst h
      have h2 : InJ t ((gPlan j ch p t).getD (amin (gEnd j ch p t) p.length) []) ∧ ((gPlan j ch p t).getD (amin (gEnd j ch p t) p.length) []).length ≤ t := by
        by_cases hlt : amin (gEnd j ch p t) p.length < (gPlan j ch p t).length
        · rw [List.getD, List.getElem?_eq_getElem hlt]
          exact gPlan_rows t _ (List.getElem_mem hlt)
        · rw [List.getD, List.getElem?_eq_none (by omega)]
          exact ⟨fun x hx => (by cases hx), by simp⟩
      refine ⟨fun x hx => ?_, by rw [List.length_append, List.length_singleton]; omega⟩
      rcases List.mem_append.1 hx with h | h
      · have := h2.1 x h; omega
      · simp at h; subst h; omega

section
variable {j : List Job} {ch : Int} {p : List Prn}
theorem clk_bd (hok : JOk j ch) {t : Nat} (ht : t ≤ j.length) (k : Nat) : 0 ≤ (clkP j ch p (gPlan j ch p t) k).fin ∧ (clkP j ch p (gPlan j ch p t) k).fin ≤ 100000000 := by
  have h2 : InJ j.length ((gPlan j ch p t).getD k []) ∧ ((gPlan j ch p t).getD k []).length ≤ t := by
    by_cases hlt : k < (gPlan j ch p t).length
    · rw [List.getD, List.getElem?_eq_getElem hlt]
      have := gPlan_rows t _ (List.getElem_mem hlt)
      exact ⟨fun x hx => by have := this.1 x hx; omega, this.2⟩
    · rw [List.getD, List.getElem?_eq_none (by omega)]
      exact ⟨fun x hx => (by cases hx), by simp⟩
  have := runC_bd hok _ ⟨0, (p.getD k ⟨⟨#[]⟩, ⟨#[]⟩⟩).mat⟩ h2.1
  have h3 := hok.len
  have e : (Clk.mk 0 (p.getD k ⟨⟨#[]⟩, ⟨#[]⟩⟩).mat).fin = 0 := rfl
  rw [e] at this
  unfold clkP
  omega
theorem clkP_at {plan : Plan} {k : Nat} {pr : Prn} {l : List Int} (hp : p[k]? = some pr) (hl : plan[k]? = some l) : clkP j ch p plan k = runC j ch ⟨0, pr.mat⟩ l := by
  unfold clkP
  rw [getD_pred hp, getD_pred hl]
theorem clkP_set_ne {plan : Plan} {k k' : Nat} {l : List Int} (h : k' ≠ k) : clkP j ch p (plan.set k l) k' = clkP j ch p plan k' := by
  unfold clkP
  simp only [List.getD, List.getElem?_set_ne (Ne.symm h)]
theorem clkP_set {plan : Plan} {k : Nat} {l : List Int} {pr : Prn} {i : Int} (hp : p[k]? = some pr) (hl : plan[k]? = some l) : clkP j ch p (plan.set k (l ++ [i])) k = (clkP j ch p plan k).go (jobAt j i) ch := by
  rw [clkP_at hp (List.getElem?_set_self (lt_of_idx hl)), clkP_at hp hl, runC_snoc]
theorem gEnd_bd (hok : JOk j ch) {t : Nat} (ht : t < j.length) (k : Nat) : 1 ≤ gEnd j ch p t k ∧ gEnd j ch p t k ≤ 100200000 := by
  have h1 := clk_bd hok (p := p) (t := t) (by omega) k
  have h2 := go_bd hok (c := clkP j ch p (gPlan j ch p t) k) (jobAt_mem (i := (t : Int)) (by omega) (by omega))
  unfold gEnd
  omega
end

/-- clocks in a slice -/
def clksL (j : List Job) (ch : Int) (p : List Prn) (plan : Plan) : List Clk := (List.range p.length).map (clkP j ch p plan)
theorem clksL_get {j : List Job} {ch : Int} {p : List Prn} {plan : Plan} {k : Nat} (h : k < p.length) : (clksL j ch p plan)[k]? = some (clkP j ch p plan k) := by
  unfold clksL
  rw [List.getElem?_map, List.getElem?_range h]; rfl
theorem clksL_len {j : List Job} {ch : Int} {p : List Prn} {plan : Plan} : (clksL j ch p plan).length = p.length := by simp [clksL]
theorem clksL_set {j : List Job} {ch : Int} {p : List Prn} {plan : Plan} {k : Nat} {l : List Int} {i : Int} (hk : k < p.length) (hl : plan[k]? = some l) :
    clksL j ch p (plan.set k (l ++ [i])) = (clksL j ch p plan).set k ((clkP j ch p plan k).go (jobAt j i) ch) := by
  obtain ⟨pr, hp⟩ := idx_of_lt hk
  apply List.ext_getElem?
  intro q
  by_cases hq : q < p.length
  · rw [clksL_get hq]
    by_cases hqk : q = k
    · subst hqk
      rw [List.getElem?_set_self (by rw [clksL_len]; exact hq), clkP_set hp hl]
    · rw [List.getElem?_set_ne (by omega), clksL_get hq, clkP_set_ne hqk]
  · rw [List.getElem?_eq_none (by rw [clksL_len]; omega), List.getElem?_eq_none (by rw [List.length_set, clksL_len]; omega)]
theorem amin_le (f : Nat → Int) (k n : Nat) (hk : k ≤ n) (hn : 0 < n) : amin f k < n := by
  rcases Nat.eq_zero_or_pos k with h | h
  · subst h; exact hn
  · have := amin_lt f k h; omega

end Go.Eng

/-! Contract: the reference's greedy plan. -/
namespace Go.Eng
open Go
variable {c : Cfg}

end Go.Eng

/-! Contracts: the reference's least late order. -/
namespace Go.Eng
open Go
variable {c : Cfg}

/-- minutes late of job i that ends so -/
def lateF (j : List Job) (i : Nat) (v : Int) : Int := if (jobAt j i).due < v then v - (jobAt j i).due else 0
theorem lateF_zero {j : List Job} {ch : Int} (hok : JOk j ch) (i : Nat) : lateF j i 0 = 0 := by
  unfold lateF
  rw [if_neg]
  have : 0 ≤ (jobAt j i).due := by
    by_cases h : i < j.length
    · exact (hok.due _ (jobAt_mem (by omega) (by omega))).1
    · unfold jobAt; rw [Int.toNat_natCast, List.getD, List.getElem?_eq_none (by omega)]; exact Int.le_refl _
  omega
theorem lateO_eq {j : List Job} {ch : Int} (hok : JOk j ch) (pr : Prn) {o : List Int} (hnd : o.Nodup) (hin : InJ j.length o) :
    sumF (lateF j) (endsO j ch [pr] [o]) = lateO j ch ⟨0, pr.mat⟩ o := by
  have hf : ([o] : Plan).flatten = o := by simp
  rw [ends_sumF (lateF j) (lateF_zero hok) (by simp) (by rw [hf]; exact hnd) (by rw [hf]; exact hin)]
  unfold lateO
  congr 1
  simp only [planPs, List.append_nil]
  unfold rowPs rowE
  apply List.map_congr_left
  rintro ⟨i, v⟩ hq
  have hi := hin i (List.of_mem_zip hq).1
  unfold lateF
  simp only
  rw [show ((i.toNat : Nat) : Int) = i from by omega]
  split <;> omega

def eS (s : ByteArray) : List Value := [.string s]
theorem eS_len : ∀ {l : List ByteArray}, ∀ x ∈ l, (eS x).length = 1 := fun _ _ => rfl

theorem sumF_snoc {j : List Job} {o : List Int} {i : Nat} {v : Int} (h : o[i]? = some v) : sumF (lateF j) (o.take (i + 1)) = sumF (lateF j) (o.take i) + lateF j i v := by
  have hi := lt_of_idx h
  unfold sumF
  rw [List.length_take, List.length_take, Nat.min_eq_left (by omega), Nat.min_eq_left (by omega), List.range_succ, List.map_append, sumL_app, List.map_cons, List.map_nil, sumL_one]
  congr 1
  · congr 1
    apply List.map_congr_left
    intro q hq
    have hq := List.mem_range.1 hq
    simp only [List.getD]
    rw [List.getElem?_take, List.getElem?_take, if_pos (by omega), if_pos hq]
  · simp only [List.getD]
    rw [List.getElem?_take, if_pos (by omega), h]; rfl
theorem lateF_bd {j : List Job} {i : Nat} {v : Int} (hd : 0 ≤ (jobAt j i).due) (hv : v ≤ 1000000000) (h0 : 0 ≤ v) : 0 ≤ lateF j i v ∧ lateF j i v ≤ 1000000000 := by
  unfold lateF; split <;> omega

def lateV : Option (List Int × Int) → Int
  | none => -1
  | some x => x.2
def BestO (D : Nat → Prop) (w : World) (bv : Value) : Option (List Int × Int) → Prop
  | none => bv = .slice none 0 0
  | some x => Sl D eI w bv x.1
theorem BestO.keep {D M : Nat → Prop} {w w' : World} {bv : Value} {st : Option (List Int × Int)} (h : BestO D w bv st) (k : Keep M w w') (hd : ∀ b, D b → ¬ M b) : BestO D w' bv st := by
  cases st with
  | none => exact h
  | some x => exact Sl.keep h k hd
theorem BestO.dom {D D' : Nat → Prop} {w : World} {bv : Value} {st : Option (List Int × Int)} (h : BestO D w bv st) (hd : ∀ b, D b → D' b) : BestO D' w bv st := by
  cases st with
  | none => exact h
  | some x => exact Sl.dom h hd

theorem lateO_nonneg (j : List Job) (ch : Int) (k : Clk) (o : List Int) : 0 ≤ lateO j ch k o := by
  unfold lateO
  have : ∀ l : List (Int × Int), 0 ≤ sumL (l.map fun q => max 0 (q.2 - (jobAt j q.1).due)) := by
    intro l
    induction l with
    | nil => simp [sumL]
    | cons x r ih =>
      have e : sumL ((x :: r).map fun q => max 0 (q.2 - (jobAt j q.1).due)) = max 0 (x.2 - (jobAt j x.1).due) + sumL (r.map fun q => max 0 (q.2 - (jobAt j q.1).due)) := rfl
      rw [e]; omega
  exact this _
theorem lateV_neg {st : Option (List Int × Int)} (h : ∀ x, st = some x → 0 ≤ x.2) : lateV st < 0 ↔ st = none := by
  cases st with
  | none => simp [lateV]
  | some x => have := h x rfl; simp [lateV]; omega
theorem updO_late {j : List Job} {ch : Int} {k : Clk} {st : Option (List Int × Int)} {o : List Int} (h : ∀ x, st = some x → 0 ≤ x.2) : ∀ x, updO j ch k st o = some x → 0 ≤ x.2 := fun x hx => by
  unfold updO at hx
  cases st with
  | none => cases hx; exact lateO_nonneg _ _ _ _
  | some y =>
    simp only at hx
    split at hx
    · cases hx; exact lateO_nonneg _ _ _ _
    · cases hx; exact h _ rfl

theorem filter_succ {n i : Nat} {q : Int → Bool} (h : i < n) : ((iotaI n).take (i + 1)).filter q = ((iotaI n).take i).filter q ++ (if q (i : Int) then [(i : Int)] else []) := by
  have : (iotaI n)[i]? = some (i : Int) := by unfold iotaI; rw [List.getElem?_map, List.getElem?_range h]; rfl
  rw [take_snoc this, List.filter_append]
  congr 1
  by_cases hq : q (i : Int) <;> simp [List.filter_cons, hq]

end Go.Eng

/-! Contracts: the program's least late order. -/
namespace Go.Eng
open Go
variable {c : Cfg}

theorem lateO_snoc {j : List Job} {ch : Int} {k : Clk} {o : List Int} {i : Nat} {x : Int} (h : o[i]? = some x) :
    lateO j ch k (o.take (i + 1)) = lateO j ch k (o.take i) + max 0 ((runC j ch k (o.take (i + 1))).fin - (jobAt j x).due) := by
  have hi := lt_of_idx h
  unfold lateO
  have : (o.take (i + 1)).zip (endsC j ch k (o.take (i + 1))) = (o.take i).zip (endsC j ch k (o.take i)) ++ [(x, (runC j ch k (o.take (i + 1))).fin)] := by
    rw [endsC_take h, take_snoc h, List.zip_append (by rw [endsC_len])]
    rfl
  rw [this, List.map_append, sumL_app]
  simp [sumL]

/-- what the program's search of orders holds -/
structure LP (c : Cfg) (pr : Prn) (j : List Job) (ch : Int) (bj bp bc bl bb : Nat) (D : Nat → Prop) (w : World) (bv : Value) (sv : Option (List Int × Int)) : Prop where
  atj : ∃ jv t, At w bj [jv] t ∧ Sl D eJb w jv j
  atp : ∃ t, At w bp (ePr pr) t
  atc : ∃ t, At w bc [vi ch] t
  atl : ∃ t, At w bl [vi (lateV sv)] t
  atb : ∃ t, At w bb [bv] t
  best_ : BestO D w bv sv
  late : ∀ x, sv = some x → 0 ≤ x.2
  ne : bl ≠ bb
  nd : ¬ D bl ∧ ¬ D bb
  dj : D bj ∧ D bp ∧ D bc
section
variable {pr : Prn} {j : List Job} {ch : Int} {bj bp bc bl bb : Nat} {D : Nat → Prop} {w w' : World} {bv : Value} {sv : Option (List Int × Int)}
theorem LP.keep {M : Nat → Prop} (h : LP c pr j ch bj bp bc bl bb D w bv sv) (k : Keep M w w') (hd : ∀ b, D b → ¬ M b) (hl : ¬ M bl) (hb : ¬ M bb) : LP c pr j ch bj bp bc bl bb D w' bv sv := by
  obtain ⟨⟨jv, t1, h1, h1'⟩, ⟨t2, h2⟩, ⟨t3, h3⟩, ⟨t4, h4⟩, ⟨t5, h5⟩, h7, h8, h9, h10, h11⟩ := h
  exact ⟨⟨jv, t1, h1.keep k (hd _ h11.1), h1'.keep k hd⟩, ⟨t2, h2.keep k (hd _ h11.2.1)⟩, ⟨t3, h3.keep k (hd _ h11.2.2)⟩, ⟨t4, h4.keep k hl⟩, ⟨t5, h5.keep k hb⟩, h7.keep k hd, h8, h9, h10, h11⟩
theorem LP.keep0 (h : LP c pr j ch bj bp bc bl bb D w bv sv) (k : Keep NoB w w') : LP c pr j ch bj bp bc bl bb D w' bv sv := h.keep k (fun _ _ h => h) (fun h => h) (fun h => h)
end

theorem LP.redom {pr : Prn} {j : List Job} {ch : Int} {bj bp bc bl bb : Nat} {D D' : Nat → Prop} {w : World} {bv : Value} {sv : Option (List Int × Int)} (h : LP c pr j ch bj bp bc bl bb D w bv sv) (hd : ∀ b, D b → b < w.heap.size → D' b) (hn : ¬ D' bl ∧ ¬ D' bb) :
    LP c pr j ch bj bp bc bl bb D' w bv sv := by
  obtain ⟨⟨jv, t1, h1, h1'⟩, ⟨t2, h2⟩, ⟨t3, h3⟩, ⟨t4, h4⟩, ⟨t5, h5⟩, h7, h8, h9, h10, h11⟩ := h
  refine ⟨⟨jv, t1, h1, h1'.old.dom fun b hb => hd b hb.1 hb.2⟩, ⟨t2, h2⟩, ⟨t3, h3⟩, ⟨t4, h4⟩, ⟨t5, h5⟩, ?_, h8, h9, hn, hd _ h11.1 h1.lt, hd _ h11.2.1 h2.lt, hd _ h11.2.2 h3.lt⟩
  cases sv with
  | none => exact h7
  | some x => exact (Sl.old h7).dom fun b hb => hd b hb.1 hb.2

/-- the blocks that the search of all orders writes -/
def OF (ob ua bl bb : Nat) (ov : Value) (b : Nat) : Prop := b = ob ∨ b = ua ∨ inV ov b ∨ b = bl ∨ b = bb

end Go.Eng

/-! Contracts: farm.orders and farm.LeastLate. -/
namespace Go.Eng
open Go
variable {c : Cfg}

end Go.Eng

/-! Contracts: what the stream draws for plans. -/
namespace Go.Eng
open Go
variable {c : Cfg}

section
variable {α : Type} {D : Nat → Prop} {e : TypeId} {sz : Nat} {enc : α → List Value} {w : World} {s : Value} {l : List α}
theorem Ow.place (ho : Ow D e sz enc w s l) {i : Nat} (hi : i < l.length) {k : Value → Prop} (h : ∀ b, inV s b → k (pb b (i * sz))) : idxP sz s (vi i) k := by
  obtain ⟨⟨h1, h2⟩, ⟨rfl, h3⟩ | ⟨b, cap, sp, rfl, h3, h4, h5, h6⟩⟩ := ho
  · omega
  refine s_idx (by omega) (by omega) ?_
  rw [Int.toNat_natCast, Nat.zero_add]
  exact h b rfl
theorem Ow.cellsAt (ho : Ow D e sz enc w s l) (hsz : ∀ x ∈ l, (enc x).length = sz) {i : Nat} {x : α} (hx : l[i]? = some x) {b : Nat} (hb : inV s b) : Cells w b (i * sz) (enc x) := by
  obtain ⟨⟨h1, h2⟩, ⟨rfl, h3⟩ | ⟨b', cap, sp, rfl, h3, h4, h5, h6⟩⟩ := ho
  · exact hb.elim
  cases hb
  have hi := lt_of_idx hx
  intro j u hj
  have hjs : j < sz := by rw [← hsz x (List.mem_of_getElem? hx)]; exact lt_of_idx hj
  have := flat_get l hsz i j x hx hjs
  rw [h4.cell, List.getElem?_append_left (by
    have := Nat.mul_le_mul_right sz (show i + 1 ≤ l.length by omega)
    rw [Nat.add_mul, Nat.one_mul] at this; omega), this]
  exact hj
/-- a field of an element that is changed -/
theorem Ow.stF (ho : Ow D e sz enc w s l) (hsz : ∀ x ∈ l, (enc x).length = sz) {i q o : Nat} {x y : α} {v : Value} (hx : l[i]? = some x) (hq : q < sz) (ho2 : o = i * sz + q) (hy : enc y = (enc x).set q v) (hone : Eng.one v = true) {b : Nat} (hb : inV s b) {K : World → Prop}
    (h : ∀ w', Ow D e sz enc w' s (l.set i y) → Keep (inV s) w w' → K w') : st (pb b o) v w K := by
  subst ho2
  obtain ⟨⟨h1, h2⟩, ⟨rfl, h3⟩ | ⟨b', cap, sp, rfl, h3, h4, h5, h6⟩⟩ := ho
  · exact hb.elim
  cases hb
  have hi := lt_of_idx hx
  have hxl := hsz x (List.mem_of_getElem? hx)
  have hle : i * sz + sz ≤ l.length * sz := by
    have := Nat.mul_le_mul_right sz (show i + 1 ≤ l.length by omega)
    rw [Nat.add_mul, Nat.one_mul] at this; exact this
  have hyl : (enc y).length = sz := by rw [hy, List.length_set, hxl]
  refine s_st h4 (by rw [List.length_append]; omega) hone fun w' g1 g4 g5 => ?_
  have hsz' : ∀ x ∈ l.set i y, (enc x).length = sz := fun x hx => by
    rcases List.mem_or_eq_of_mem_set hx with h | h
    · exact hsz x h
    · rw [h]; exact hyl
  have hl' := flat_len _ hsz'
  rw [List.length_set] at hl'
  have hcs : (l.flatMap enc ++ sp).set (i * sz + q) v = (l.set i y).flatMap enc ++ sp := by
    apply List.ext_getElem?
    intro j
    rw [List.getElem?_set]
    by_cases hj : j < l.length * sz
    · rw [List.getElem?_append_left (l₁ := (l.set i y).flatMap enc) (by omega), List.getElem?_append_left (l₁ := l.flatMap enc) (by omega), flat_set hsz (by omega) hi hyl]
      by_cases hjq : i * sz + q = j
      · rw [if_pos hjq, if_pos (by rw [List.length_append]; omega), if_pos (by omega), hy, List.getElem?_set, if_pos (by omega), if_pos (by omega)]
      · rw [if_neg hjq]
        by_cases hr : i * sz ≤ j ∧ j < i * sz + sz
        · rw [if_pos hr, hy, List.getElem?_set, if_neg (by omega)]
          have := flat_get l hsz i (j - i * sz) x hx (by omega)
          rw [← this]; congr 1; omega
        · rw [if_neg hr]
    · rw [if_neg (by omega), List.getElem?_append_right (by omega), List.getElem?_append_right (by omega), h1, hl']
  rw [hcs] at g1
  refine h w' ⟨⟨by rw [hl', List.length_set], by rw [List.length_set]; exact h2⟩, .inr ⟨b', cap, sp, by rw [List.length_set], h3, g1, ?_, by rw [List.length_set]; exact h6⟩⟩ (g4.mono fun i hi => hi.symm)
  rw [List.length_append, hl', ← h5, List.length_append, h1]
end

theorem SOk.drew {w : World} {sb k : Nat} (h : SOk c w sb k) : SOk c w.drew sb k := h.keep (keep_drew _ _)
def eSt (s : ByteArray) : List Value := [.string s]
theorem lit_i2 (F : TyF c) {w : World} {a b : Int} {K : Value → World → Prop} (h : ∀ v w', Sl (Fresh w) eI w' v [a, b] → Keep NoB w w' → K v w') :
    semP c.P (Instr.buildSlice c.t_sl_int 2 #[(0, vi a), (1, vi b)]) w K :=
  s_lit (enc := eI) F.sl_int [vi a, vi b] [a, b] rfl rfl rfl (fun y hy => rfl) (by omega) (by omega) fun _ _ hg hk _ => h _ _ hg.sl hk

theorem pick_f (E : Eqs c) {sb k : Nat} {w0 w : World} {lv : Value} {l : List Int} (hne : l ≠ []) (hlen : l.length ≤ 1000000) (hl : Sl (Fresh w0) eI w lv l) (hsb : sb < w0.heap.size) (hs : SOk c w sb (k + 1)) :
    Ret c.P c.f_p_blmake_Stream_Pick #[pb sb 0, lv] w fun v w' => ∃ r : Int, v = vi r ∧ r ∈ l ∧ SOk c w' sb k ∧ Keep (· = sb) w w' :=
  pick_spec E sb k _ lv l w hne hlen (fun b hb h => by have hb : w0.heap.size ≤ b := hb; omega) hl hs

end Go.Eng

/-! The law on plans. -/
namespace Go.Eng
open Go
variable {c : Cfg}

theorem p_ex0 {a : Value} {r : List Value} {k : Value → Prop} (h : k a) : exP 0 (.tuple (a :: r).toArray) k := ⟨a, rfl, h⟩
theorem p_ex1 {a b : Value} {r : List Value} {k : Value → Prop} (h : k b) : exP 1 (.tuple (a :: b :: r).toArray) k := ⟨b, rfl, h⟩
theorem p_ex2 {a b d : Value} {r : List Value} {k : Value → Prop} (h : k d) : exP 2 (.tuple (a :: b :: d :: r).toArray) k := ⟨d, rfl, h⟩

theorem bs1_list (n : Nat) : (Bs [n]).data.toList = [UInt8.ofNat n] := rfl
theorem key_one {n : Nat} (h1 : UInt8.ofNat n ∈ smallL.data.toList) (h2 : UInt8.ofNat n ∈ keyL.data.toList) : keyP (Bs [n]) := by
  refine ⟨⟨Nat.le_refl 1, by show 1 ≤ 40; omega⟩, ⟨_, rfl, h1⟩, fun b hb => ?_⟩
  rw [bs1_list, List.mem_singleton] at hb
  rw [hb]; exact h2
theorem key_p : keyP (Bs [112]) := key_one (by decide) (by decide)
theorem key_a : keyP (Bs [97]) := key_one (by decide) (by decide)
theorem key_j : keyP (Bs [106]) := key_one (by decide) (by decide)
theorem key_b : keyP (Bs [98]) := key_one (by decide) (by decide)
theorem eqB_ab : eqB (Bs [97]) (Bs [98]) = false := by
  unfold eqB
  rw [ByteArray.toList_eq, ByteArray.toList_eq]
  decide

def fP : Prn := ⟨Bs [112], Bs [97]⟩
def fJ : Job := ⟨Bs [106], Bs [98], 20, 0⟩
theorem farmed_p : prnF [fP] = 0 := by
  have h : prnAt [fP] 0 = 0 := by
    show (if ¬ (keyP (Bs [112]) ∧ keyP (Bs [97])) then (5 : Int) else if 0 < 0 ∧ _ then 7 else 0) = 0
    rw [if_neg (fun h => h ⟨key_p, key_a⟩), if_neg (by omega)]
  unfold prnF
  rw [if_neg (by simp), if_neg (by simp)]
  exact firstNZ_all fun i hi => by
    have hi : i < 1 := by simpa using hi
    obtain rfl : i = 0 := by omega
    show some (prnAt [fP] 0) = some 0
    rw [h]
theorem farmed_j : jobF [fJ] = 0 := by
  have h : jobFA [fJ] 0 = 0 := by
    show (if ¬ (keyP (Bs [106]) ∧ keyP (Bs [98])) then (5 : Int) else if ¬ ((1 ≤ (20 : Int) ∧ (20 : Int) ≤ 100000) ∧ (0 ≤ (0 : Int) ∧ (0 : Int) ≤ 1000000000)) then 1 else if 0 < 0 ∧ _ then 7 else 0) = 0
    rw [if_neg (fun h => h ⟨key_j, key_b⟩), if_neg (by omega), if_neg (by omega)]
  unfold jobF
  rw [if_neg (by simp)]
  exact firstNZ_all fun i hi => by
    have hi : i < 1 := by simpa using hi
    obtain rfl : i = 0 := by omega
    show some (jobFA [fJ] 0) = some 0
    rw [h]
theorem farmed_f : plannedF [fP] [fJ] [[0]] 5 = 0 := by
  have hp : planF [fP] [fJ] [[0]] = 0 := by
    unfold planF
    rw [farmed_p, farmed_j, if_neg (by simp), if_neg (by simp)]
    have : firstNZ ((List.range ([[0]] : Plan).flatten.length).map (ixAt [fJ].length ([[0]] : Plan).flatten)) = 0 := by decide
    rw [if_neg (by rw [this]; simp), if_neg (by simp)]
  unfold plannedF
  rw [if_neg (by rw [hp]; simp), if_pos (by omega)]
theorem farmed_row : rowE [fJ] 5 fP [0] = [25] := by
  show [((⟨0, Bs [97]⟩ : Clk).go (jobAt [fJ] 0) 5).fin] = [25]
  have : (Clk.go ⟨0, Bs [97]⟩ (jobAt [fJ] 0) 5).fin = 0 + (if eqB (Bs [97]) (Bs [98]) then 0 else 5) + 20 := rfl
  rw [this, eqB_ab]; rfl
theorem farmed_last : lastP [fJ] 5 [fP] [[0]] = 25 := by
  show max (mxL (rowE [fJ] 5 fP [0])) 0 = 25
  rw [farmed_row]; rfl
theorem farmed_ends : endsO [fJ] 5 [fP] [[0]] = [25] := by
  show wrO [0] (([0] : List Int).zip (rowE [fJ] 5 fP [0]) ++ []) = [25]
  rw [farmed_row]; rfl

end Go.Eng

