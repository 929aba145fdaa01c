/- Part of a proof: the law NoPlanEndsEarlier gives true for every list of integers and leaves its argument as it was; there are no conditions beyond those that the given row states. -/
import Derived.Test.YtkdocniiflhafaaGreatDoorSa
set_option linter.unusedVariables false
set_option linter.unusedSimpArgs false
/-! Contracts: the planner tries all plans. -/
namespace Go.Eng
open Go
variable {c : Cfg}

theorem s_pushM {P : Program} {α : Type} {D : Nat → Prop} {t e : TypeId} {sz by_ : Nat} {z : List Value} {enc : α → List Value} {w : World} {s : Value} {l : List α} {S : World → Prop} (hT : SliceT P t e sz by_ z) {y : α} {x : Value} {ty : TypeId} {k : Value → World → Prop}
    (ho : Ow D e sz enc w s l) (hx : x.cells = (enc y).toArray) (hsz : (enc y).length = sz)
    (hone : (enc y).all Eng.one = true) (hb : l.length + 1 ≤ 16777216) (hs : 1 * sz ≤ 16777216) (hD : ∀ i, w.heap.size ≤ i → D i)
    (hS : ∀ w', Keep NoB w w' → S w')
    (h : ∀ v' w', Ow D e sz enc w' v' (l ++ [y]) → Keep (inV s) w w' → (∀ i, inV v' i → inV s i ∨ w.heap.size ≤ i) → k v' w') :
    semP P (Instr.buildSlice t 1 #[(0, x)]) w fun u w1 => S w1 ∧ semP P (Builtin.append_ #[t, t] ty #[s, u]) w1 k := by
  have hfl : flat [x] = enc y := by simp [flat, hx]
  refine s_bslice hT [x] rfl rfl (fun v hv => by simp at hv; subst hv; simp [hx, hsz]) hs fun b w1 hat hk hbw hsz1 => ⟨hS _ hk, ?_⟩
  rw [hfl] at hat
  refine s_append hT (ho.keep0 hk) (src_new hat (by rw [hsz, Nat.one_mul])) hone hb (fun i hi => hD i (by have := hk.size; omega)) fun v' w' ho' hk' hi' _ => ?_
  have hk2 : Keep (inV s) w w' := hk.none.trans hk'
  refine h v' w' ?_ hk2 fun i hi => ?_
  · unfold Ow
    rw [List.length_append, List.flatMap_append]
    simpa using ho'
  · rcases hi' i hi with h' | h'
    · exact .inl h'
    · exact .inr (by have := hk.size; omega)

theorem Seen.clr {w : World} {b n e : Nat} {p : Nat → Bool} (h : Seen w b n e p) {i : Nat} (hi : i < n) {k : World → Prop}
    (hk : ∀ w', Seen w' b n e (fun j => !decide (j = i) && p j) → Keep (· = b) w w' → w'.heap.size = w.heap.size → k w') : st (pb b (0 + i * 1)) (.bool false) w k := by
  refine s_st h (by simp; omega) rfl fun w' h1 h2 h3 => hk w' ?_ h2 h3
  have : ((List.range n).map fun k => Value.bool (p k)).set (0 + i * 1) (.bool false) = (List.range n).map fun k => Value.bool (!decide (k = i) && p k) := by
    apply List.ext_getElem?
    intro j
    rw [List.getElem?_set, List.getElem?_map, List.getElem?_map]
    by_cases hj : j < n
    · rw [List.getElem?_range hj]
      by_cases hji : 0 + i * 1 = j
      · rw [if_pos hji, if_pos (by simp; omega)]
        have : j = i := by omega
        simp [this]
      · rw [if_neg hji]
        have : j ≠ i := by omega
        simp [this]
    · rw [List.getElem?_eq_none (l := List.range n) (by simp; omega), if_neg (by omega)]
      rfl
  unfold Seen
  rw [← this]; exact h1
theorem Seen.same {w : World} {b n e : Nat} {p q : Nat → Bool} (h : Seen w b n e p) (hp : ∀ k, k < n → p k = q k) : Seen w b n e q := by
  have : ((List.range n).map fun k => Value.bool (p k)) = (List.range n).map fun k => Value.bool (q k) := by
    apply List.map_congr_left
    intro k hk
    rw [hp k (List.mem_range.1 hk)]
  unfold Seen at *
  rw [← this]; exact h

theorem flat_set_empt {plan : Plan} {k : Nat} {l : List Int} {i : Int} (he : Empt k plan) (hk : plan[k]? = some l) : (plan.set k (l ++ [i])).flatten = plan.flatten ++ [i] := by
  have hkl := lt_of_idx hk
  have h1 : (plan.set k (l ++ [i]))[k]? = some (l ++ [i]) := List.getElem?_set_self hkl
  rw [flat_split h1, flat_split hk]
  have h2 : (plan.drop (k + 1)).flatten = [] := by
    rw [List.flatten_eq_nil_iff]
    intro l' hl
    obtain ⟨q, hq⟩ := List.getElem?_of_mem hl
    rw [List.getElem?_drop] at hq
    exact he _ _ (by omega) hq
  rw [List.take_set_of_le (Nat.le_refl _), List.drop_set_of_lt (by omega), h2]
  simp

theorem sumP_bd {j : List Job} {ch : Int} (hok : JOk j ch) : ∀ (p : List Prn) (plan : Plan), (∀ l ∈ plan, InJ j.length l ∧ l.length ≤ 500) → 0 ≤ sumP j ch p plan ∧ sumP j ch p plan ≤ 100000000 * plan.flatten.length
  | [], plan, _ => by
    have : sumP j ch [] plan = 0 := by cases plan <;> rfl
    rw [this]; omega
  | _ :: _, [], _ => by simp [sumP]
  | pr :: ps, l :: ls, h => by
    have h1 := h l (List.mem_cons_self ..)
    have h2 := sumP_bd hok ps ls fun l hl => h l (List.mem_cons_of_mem _ hl)
    have h3 := sumL_bd (l := rowE j ch pr l) (m := 100000000) (by omega) fun x hx => by
      have := endsC_bd hok l ⟨0, pr.mat⟩ h1.1 x hx
      have e : (Clk.mk 0 pr.mat).fin = 0 := rfl
      rw [e] at this
      omega
    have e : (rowE j ch pr l).length = l.length := endsC_len _ _
    rw [e] at h3
    simp only [sumP, List.flatten_cons, List.length_append]
    omega

/-- a planner, while it tries plans -/
structure PSt (c : Cfg) (B0 : Nat) (e : TypeId) (p : List Prn) (j : List Job) (ch : Int) (pv jv : Value) (pk gb ub : Nat) (w : World) (hs : List Value) (plan : Plan) (bv : Value) (best : Option Plan) (lb sb : Int) : Prop where
  at_ : At w pk [pv, jv, vi ch, .slice (some ⟨gb, 0, none⟩) p.length p.length, .slice (some ⟨ub, 0, none⟩) j.length j.length, bv, vi lb, vi sb] c.t_farm_planner
  rows : RowsO c (fun b => B0 ≤ b) w gb hs plan
  used : Seen w ub j.length e (fun k => decide ((k : Int) ∈ plan.flatten))
  ne : pk ≠ gb ∧ pk ≠ ub ∧ gb ≠ ub
  rne : ∀ b, inRw hs b → b ≠ pk ∧ b ≠ ub
  b0 : B0 ≤ pk ∧ B0 ≤ gb ∧ B0 ≤ ub
  best_ : BestV (fun b => B0 ≤ b ∧ b ≠ pk ∧ b ≠ gb ∧ b ≠ ub ∧ ¬ inRw hs b) w bv best
  key : ∀ bp, best = some bp → lb = lastP j ch p bp ∧ sb = sumP j ch p bp
  prn : Sl (· < B0) ePr w pv p
  job : Sl (· < B0) eJb w jv j

/-- the blocks of a planner -/
def PFt (pk gb ub : Nat) (hs : List Value) (b : Nat) : Prop := b = pk ∨ b = gb ∨ b = ub ∨ inRw hs b

section
variable {B0 : Nat} {e : TypeId} {p : List Prn} {j : List Job} {ch : Int} {pv jv bv : Value} {pk gb ub : Nat} {w w' : World} {hs : List Value} {plan : Plan} {best : Option Plan} {lb sb : Int}
theorem PSt.keep0 (h : PSt c B0 e p j ch pv jv pk gb ub w hs plan bv best lb sb) (k : Keep NoB w w') : PSt c B0 e p j ch pv jv pk gb ub w' hs plan bv best lb sb :=
  ⟨h.at_.keep0 k, h.rows.keep0 k, At.keep0 h.used k, h.ne, h.rne, h.b0, h.best_.keep k fun _ _ h => h, h.key, h.prn.keep0 k, h.job.keep0 k⟩
theorem PSt.lt (h : PSt c B0 e p j ch pv jv pk gb ub w hs plan bv best lb sb) {b : Nat} (hb : PFt pk gb ub hs b) : b < w.heap.size := by
  rcases hb with rfl | rfl | rfl | hb
  · exact h.at_.lt
  · exact h.rows.at_.lt
  · exact At.lt h.used
  · exact h.rows.lt hb
theorem PSt.ge (h : PSt c B0 e p j ch pv jv pk gb ub w hs plan bv best lb sb) {b : Nat} (hb : PFt pk gb ub hs b) : B0 ≤ b := by
  rcases hb with rfl | rfl | rfl | hb
  · exact h.b0.1
  · exact h.b0.2.1
  · exact h.b0.2.2
  · exact h.rows.inD hb
end

def cmpPl (p : List Prn) (j : List Job) (ch : Int) : Plan → Plan → Int := cmpK (lastP j ch p) (sumP j ch p)

/-- the planner keeps a plan that is better -/
theorem try_done (E : Eqs c) (F : TyF c) {B0 : Nat} {e : TypeId} {p : List Prn} {j : List Job} {ch : Int} {pv jv bv : Value} {pk gb ub : Nat} {w : World} {hs : List Value} {plan : Plan} {best : Option Plan} {lb sb : Int}
    (hP : PSt c B0 e p j ch pv jv pk gb ub w hs plan bv best lb sb) (hpl : plan.length = p.length) (hm : 0 < p.length) (hm2 : p.length ≤ 1000) (hrl : ∀ l ∈ plan, l.length ≤ 1000000) {S : Plan → Prop} (hS : ∀ y, S y ↔ y = plan) {K : World → Prop}
    (hK : ∀ w' bv' best' lb' sb', PSt c B0 e p j ch pv jv pk gb ub w' hs plan bv' best' lb' sb' → Lst (cmpPl p j ch) S best best' → Keep (PFt pk gb ub hs) w w' → K w') :
    Ret c.P c.f_p_farm_planner_better #[pb pk 0, vi (lastP j ch p plan), vi (sumP j ch p plan)] w fun v35 w3 =>
      joinP (fun k1 => condP v35
        (nilP (pb pk 0) fun v41 => offP 6 v41 fun v42 => st v42 (vi (lastP j ch p plan)) w3 fun w5 => nilP (pb pk 0) fun v43 => offP 7 v43 fun v44 => st v44 (vi (sumP j ch p plan)) w5 fun w6 =>
          nilP (pb pk 0) fun v45 => offP 5 v45 fun v46 => st v46 (.slice none 0 0) w6 fun w7 => nilP (pb pk 0) fun v48 => offP 3 v48 fun v49 => ld v49 w7 fun v50 => lenP v50 fun v51 =>
          loopP (fun nx2 s2 j2 w8 => binP .lss (g s2 0) v51 fun v53 => condP v53
            (idxP 1 v50 (g s2 0) fun v54 => ld v54 w8 fun v55 => heldP fun S => S w8.drew ∧ nilP (pb pk 0) fun v58 => offP 5 v58 fun v59 => ldS S v59 fun v60 =>
              Ret c.P c.f_slices_Clone_sl_int_int #[v55] w8.drew fun v62 w9 => S w9 ∧ semP c.P (Instr.buildSlice c.t_sl_sl_int 1 #[(0, v62)]) w9 fun v63 w10 => S w10 ∧
              semP c.P (Builtin.append_ #[c.t_sl_sl_int, c.t_sl_sl_int] c.t_sl_sl_int #[v60, v63]) w10 fun v64 w11 => nilP (pb pk 0) fun v65 => offP 5 v65 fun v66 => st v66 v64 w11 fun w12 =>
              binP .add (g s2 0) (.int .i64 1) fun v67 => nx2 [v67] w12)
            (k1 [] w8)) [(.int .i64 0)] w7)
        (k1 [] w3)) fun _ _ w4 => K w4 := by
  have hs2 := hP.rows.s2 (by omega) hpl.symm
  have hgood := cmpK_good (lastP j ch p) (sumP j ch p)
  refine (better_spec E F hP.at_ hs2 hP.best_).mono ?_
  rintro u w3 ⟨hk3, rfl⟩
  have hP3 := hP.keep0 hk3
  have hlt : ∀ b, PFt pk gb ub hs b → b < w3.heap.size := fun b hb => hP3.lt hb
  refine s_join (s_cond (fun hr => ?_) fun hr => ?_)
  rotate_left
  · intro jj
    refine hK w3 bv best lb sb hP3 ?_ hk3.none
    cases best with
    | none => cases hr
    | some bp =>
      have hr := of_decide_eq_false hr
      obtain ⟨e1, e2⟩ := hP.key bp rfl
      refine Lst.skip hgood fun x hx => ?_
      rw [(hS x).1 hx]
      have : cmpPl p j ch plan bp = firstNZ [cmpI (lastP j ch p plan) lb, cmpI (sumP j ch p plan) sb, cmpP plan bp] := by rw [e1, e2]; rfl
      have := hgood.anti plan bp
      show cmpK _ _ _ _ ≤ 0
      unfold cmpPl at *
      omega
  refine s_nil (s_off (s_st hP3.at_ (by simp) rfl fun w5 a5 k5 z5 => ?_))
  refine s_nil (s_off (s_st a5 (by simp) rfl fun w6 a6 k6 z6 => ?_))
  refine s_nil (s_off (s_st a6 (by simp) rfl fun w7 a7 k7 z7 => ?_))
  simp only [List.set_cons_succ, List.set_cons_zero, Nat.zero_add] at a7
  have hk37 : Keep (· = pk) w3 w7 := (k5.trans k6).trans k7
  have hkP : Keep (PFt pk gb ub hs) w3 w7 := hk37.mono fun b h => .inl h
  refine s_nil (s_off (s_ldAt a7 rfl ?_))
  have hrows7 : RowsO c (fun b => B0 ≤ b) w7 gb hs plan := hP3.rows.keep hk37 (fun h => hP.ne.1 h.symm) fun b hb h => (hP.rne b hb).1 h
  have hs27 := hrows7.s2 (by omega) hpl.symm
  refine hs27.len ?_
  have hpk7 : pk < w7.heap.size := a7.lt
  refine s_for plan.length (fun i (_ : Value × List Value) => [vi i])
    (fun i s w' => At w' pk [pv, jv, vi ch, .slice (some ⟨gb, 0, none⟩) p.length p.length, .slice (some ⟨ub, 0, none⟩) j.length j.length, s.1, vi (lastP j ch p plan), vi (sumP j ch p plan)] c.t_farm_planner ∧
      Ow (Fresh w7) c.t_sl_int 1 (fun h => [h]) w' s.1 s.2 ∧ s.2.length = i ∧ (∀ (q : Nat) (h : Value) (l : List Int), s.2[q]? = some h → plan[q]? = some l → Sl (fun b => w7.heap.size ≤ b ∧ ¬ inV s.1 b) eI w' h l) ∧ Keep (· = pk) w7 w') (.slice none 0 0, []) rfl
    ⟨a7, Ow.nil, rfl, fun q h l hq _ => absurd hq (by simp), Keep.refl _ _⟩ ?_
  rintro i ⟨bvi, hsb⟩ w8 j8 nx ⟨a8, ho8, hlen8, hsl8, k8⟩ hin hnx
  simp only at a8 ho8 hlen8 hsl8
  have hz8 := k8.size
  refine s_lss (s_condD (fun hlt' => ?_) fun hge => ?_)
  rotate_left
  · obtain rfl : i = plan.length := by omega
    intro jj
    have hnn : ∃ a n cap, bvi = .slice (some a) n cap := by
      obtain ⟨_, ⟨rfl, h⟩ | ⟨b, cap, sp, h, _⟩⟩ := ho8
      · omega
      · exact ⟨_, _, _, h⟩
    have hrows8 : RowsO c (fun b => B0 ≤ b) w8 gb hs plan := hrows7.keep k8 (fun h => hP.ne.1 h.symm) fun b hb h => (hP.rne b hb).1 h
    have hPk : Keep (PFt pk gb ub hs) w w8 := (hk3.none.trans hkP).trans (k8.mono fun b h => .inl h)
    have hub : ¬ (ub = pk) := fun h => hP.ne.2.1 h.symm
    have hd0 : ∀ q, q < B0 → ¬ (q = pk) := fun q hq h => by have := hP.b0.1; omega
    refine hK w8 bvi (some plan) _ _ ⟨a8, hrows8, At.keep (At.keep hP3.used hk37 hub) k8 hub, hP.ne, hP.rne, hP.b0, ⟨⟨hsb, hlen8, ho8.sl.dom ?_, fun q h l hq hl => (hsl8 q h l hq hl).dom ?_⟩, hnn⟩, fun bp hbp => by cases hbp; exact ⟨rfl, rfl⟩,
      (hP3.prn.keep hk37 hd0).keep k8 hd0, (hP3.job.keep hk37 hd0).keep k8 hd0⟩ ?_ hPk
    · intro b hb
      have hb : w7.heap.size ≤ b := hb
      have h1 := hP.b0.1
      have h2 : ∀ q, PFt pk gb ub hs q → q ≠ b := fun q hq h => by have := hlt q hq; have := hk37.size; omega
      exact ⟨by omega, fun h => h2 _ (.inl rfl) h.symm, fun h => h2 _ (.inr (.inl rfl)) h.symm, fun h => h2 _ (.inr (.inr (.inl rfl))) h.symm, fun h => h2 b (.inr (.inr (.inr h))) rfl⟩
    · rintro b ⟨hb, _⟩
      have h1 := hP.b0.1
      have h2 : ∀ q, PFt pk gb ub hs q → q ≠ b := fun q hq h => by have := hlt q hq; have := hk37.size; omega
      exact ⟨by omega, fun h => h2 _ (.inl rfl) h.symm, fun h => h2 _ (.inr (.inl rfl)) h.symm, fun h => h2 _ (.inr (.inr (.inl rfl))) h.symm, fun h => h2 b (.inr (.inr (.inr h))) rfl⟩
    · cases best with
      | none => exact Lst.first hgood hS
      | some bp =>
        have hr := of_decide_eq_true hr
        obtain ⟨e1, e2⟩ := hP.key bp rfl
        refine Lst.less hgood hS ?_
        have : cmpPl p j ch plan bp = firstNZ [cmpI (lastP j ch p plan) lb, cmpI (sumP j ch p plan) sb, cmpP plan bp] := by rw [e1, e2]; rfl
        show cmpPl p j ch plan bp < 0
        rw [this]; exact hr
  have hil := ofInt_lt hlt'
  obtain ⟨l, hl⟩ := idx_of_lt hil
  have hs28 : S2 (fun b => b = gb ∨ inRw hs b) eI w8 (.slice (some ⟨gb, 0, none⟩) p.length p.length) plan := hs27.keep k8 fun b hb h => by
    rcases hb with h' | h'
    · exact hP.ne.1 (h.symm.trans h')
    · exact (hP.rne b h').1 h
  refine hs28.get hl fun hd hsd => ?_
  refine s_held (fun w' => Keep NoB w8 w') ⟨keep_drew _ _, ?_⟩
  refine s_nil (s_off (s_ldS (v := bvi) (fun w' h => by rw [(a8.keep0 h).cell]; rfl) ?_))
  have hll : l.length ≤ 1000000 := hrl l (List.mem_of_getElem? hl)
  refine (cloneI_spec E F.toTyB (hsd.keep0 (keep_drew _ _)) hll).mono ?_
  intro u9 w9 hg9
  have k89 : Keep NoB w8 w9 := (keep_drew _ _).trans hg9.keep
  have hsl9 := hg9.sl
  refine ⟨k89, ?_⟩
  have hinb : ∀ b, inV bvi b → w7.heap.size ≤ b ∧ b < w8.heap.size := fun b hb => ⟨Own.inD ho8 hb, Own.inLt ho8 hb⟩
  have hz9 := k89.size
  refine s_pushM F.ssl_int (y := u9) (ho8.keep0 k89) (by obtain ⟨a, cap, rfl, _⟩ := hsl9; rfl) rfl (by simp [hsl9.one]) (by omega) (by omega) (fun q hq => by show w7.heap.size ≤ q; omega) (fun w' k => k89.trans k) fun v11 w11 ho11 k11 hi11 => ?_
  have hpkv : ¬ inV bvi pk := fun h => by have := (hinb pk h).1; omega
  have a11 := (a8.keep0 k89).keep k11 hpkv
  refine s_nil (s_off (s_st a11 (by simp) ho11.one fun w12 a12 k12 z12 => ?_))
  refine s_add (by omega) (by omega) (hnx (v11, hsb ++ [u9]) w12 hil ⟨a12, ho11.keep k12 fun b hb h => ?_, by simp [hlen8], fun q h l' hq hl' => ?_, ?_⟩)
  · subst h
    rcases hi11 _ hb with h | h
    · exact hpkv h
    · omega
  · have hne12 : ∀ b, w7.heap.size ≤ b → ¬ (b = pk) := fun b hb h => by omega
    by_cases hqi : q < hsb.length
    · rw [List.getElem?_append_left hqi] at hq
      have h1 := ((hsl8 q h l' hq hl').old.keep0 k89).keep k11 fun b hb h => hb.1.2 h
      exact ((h1.keep k12 fun b hb h => hne12 b hb.1.1 h).dom fun b hb => ⟨hb.1.1, fun h' => by
        rcases hi11 b h' with h2 | h2
        · exact hb.1.2 h2
        · have := hb.2; omega⟩)
    · rw [List.getElem?_append_right (by omega)] at hq
      have : q - hsb.length = 0 := by
        rcases Nat.eq_zero_or_pos (q - hsb.length) with h0 | h0
        · exact h0
        · rw [List.getElem?_eq_none (by simp; omega)] at hq; cases hq
      rw [this] at hq
      simp at hq
      subst hq
      obtain rfl : q = i := by omega
      rw [hl] at hl'; cases hl'
      have h1 : Sl (fun b => w8.heap.size ≤ b ∧ b < w9.heap.size) eI w9 u9 l := hsl9.old.dom fun b hb => ⟨hb.1, hb.2⟩
      have h2 := h1.keep k11 fun b hb h => by have := (hinb b h).2; omega
      refine (h2.keep k12 fun b hb h => by omega).dom fun b hb => ⟨by omega, fun h' => ?_⟩
      rcases hi11 b h' with h3 | h3
      · have := (hinb b h3).2; omega
      · omega
  · refine ((k8.trans k89.none).new k11 fun b hb => .inr (hinb b hb).1).trans k12
end Go.Eng

/-! Contract: the planner tries all plans from one on. -/
namespace Go.Eng
open Go
variable {c : Cfg}

set_option maxHeartbeats 1600000 in
theorem try_spec (E : Eqs c) (F : TyF c) {B0 : Nat} {e : TypeId} {p : List Prn} {j : List Job} {ch : Int} {pv jv : Value} {pk gb ub : Nat} (hok : JOk j ch) (hn7 : j.length ≤ 500) (hm2 : p.length ≤ 1000) :
    ∀ (μ k : Nat) (clk : Clk) (left : Nat) (pr : Prn) (l : List Int) (plan : Plan) (hs : List Value) (bv : Value) (best : Option Plan) (lb sb : Int) (w : World), left + (p.length - k) ≤ μ → p[k]? = some pr → plan[k]? = some l → clk = runC j ch ⟨0, pr.mat⟩ l →
      PSt c B0 e p j ch pv jv pk gb ub w hs plan bv best lb sb → plan.length = p.length → Empt k plan → plan.flatten.Nodup → InJ j.length plan.flatten → plan.flatten.length + left = j.length →
      Ret c.P c.f_p_farm_planner_try #[pb pk 0, vi k, .agg (eCl clk).toArray, vi left, vi (lastP j ch p plan), vi (sumP j ch p plan)] w fun _ w' => ∃ hs' bv' best' lb' sb',
        PSt c B0 e p j ch pv jv pk gb ub w' hs' plan bv' best' lb' sb' ∧ Lst (cmpPl p j ch) (fun full => Compl j.length full ∧ Goes k plan full) best best' ∧ Keep (PFt pk gb ub hs) w w' ∧ ∀ b, inRw hs' b → inRw hs b ∨ w.heap.size ≤ b := by
  intro μ
  induction μ with
  | zero =>
    intro k clk left pr l plan hs bv best lb sb w hμ hpr
    have := lt_of_idx hpr; omega
  | succ μ ih =>
  intro k clk left pr l plan hs bv best lb sb w hμ hpr hl hclk hP hpl he hnd hinj hlen
  have hkm := lt_of_idx hpr
  have hgood := cmpK_good (lastP j ch p) (sumP j ch p)
  have hlflat : l.length ≤ plan.flatten.length := by have := flat_len_le hl; omega
  have hlj : InJ j.length l := fun x hx => hinj x (List.mem_flatten.2 ⟨l, List.mem_of_getElem? hl, hx⟩)
  have hrl : ∀ l ∈ plan, InJ j.length l ∧ l.length ≤ 500 := fun l' hl' => ⟨fun x hx => hinj x (List.mem_flatten.2 ⟨l', hl', hx⟩), by
    obtain ⟨i, hi⟩ := List.getElem?_of_mem hl'
    have := flat_len_le hi; omega⟩
  have hcb := runC_bd hok l ⟨0, pr.mat⟩ hlj
  have hz0 : (Clk.mk 0 pr.mat).fin = 0 := rfl
  rw [hz0, ← hclk] at hcb
  have hsb := sumP_bd hok p plan hrl
  apply E.p_farm_planner_try
  unfold wp_p_farm_planner_try
  refine s_new (cs := eCl clk) fun b8 w1 hat8 hk1 hb8 hs8 => ?_
  have hP1 := hP.keep0 hk1
  have hPlt : ∀ b, PFt pk gb ub hs b → b < w.heap.size := fun b hb => hP.lt hb
  refine s_joinM (fun vs w' => w' = w1 ∧ ∃ r : Bool, vs = [.bool r] ∧ (r = true → ∃ bp, best = some bp ∧ lb < lastP j ch p plan)) ?_ ?_
  · refine s_nil (s_off (s_ldAt hP1.at_ rfl ?_))
    have hb := hP1.best_
    cases best with
    | none =>
      have hb : bv = .slice none 0 0 := hb
      subst hb
      exact s_notnil F.ssl_int.und (s_guardT (fun h => by cases h) fun _ => ⟨rfl, false, rfl, fun h => by cases h⟩)
    | some bp =>
      obtain ⟨_, ad, n, cap, rfl⟩ := hb
      refine s_notnil F.ssl_int.und (s_guardT (fun _ => ?_) fun h => by cases h)
      refine s_nil (s_off (s_ldAt hP1.at_ rfl (s_gtr ⟨rfl, _, rfl, fun h => ⟨bp, rfl, of_decide_eq_true h⟩⟩)))
  rintro vs j0 w' ⟨hw, r, rfl, hr⟩
  have hw := hw.symm
  subst hw
  refine s_cond (fun hrt => ?_) fun _ => ?_
  · -- later than the best one
    obtain ⟨bp, rfl, hlt⟩ := hr hrt
    refine ⟨hs, bv, some bp, lb, sb, hP1, Lst.skip hgood fun x hx => ?_, hk1.none, fun b hb => .inl hb⟩
    have h1 := last_goes (j := j) (ch := ch) p plan x k hx.2 he
    obtain ⟨e1, e2⟩ := hP.key bp rfl
    show cmpK _ _ _ _ ≤ 0
    unfold cmpK
    rw [firstNZ3]
    have : cmpI (lastP j ch p bp) (lastP j ch p x) < 0 := by rw [cmpI_neg]; omega
    rw [if_pos (by omega)]; omega
  refine s_eql (s_condD (fun h0 => ?_) fun h0 => ?_)
  · -- all are put
    have hl0 : plan.flatten.length = j.length := by omega
    refine try_done E F hP1 hpl (by omega) hm2 (fun l hl => by have := (hrl l hl).2; omega) (S := fun full => Compl j.length full ∧ Goes k plan full) (fun y => ?_) fun w4 bv' best' lb' sb' hP4 hL hk4 => ?_
    · rw [goes_full he (by rw [hpl]; exact hkm) hl0]
      exact ⟨fun h => h.1, fun h => ⟨h, hl0, hnd, hinj⟩⟩
    · exact ⟨hs, bv', best', lb', sb', hP4, hL, hk1.none.trans hk4, fun b hb => .inl hb⟩
  have hleft : plan.flatten.length < j.length := by omega
  refine s_nil (s_off (s_ldAt hP1.at_ rfl ?_))
  refine hP1.job.len ?_
  have hb8ne : ∀ b, PFt pk gb ub hs b → b ≠ b8 := fun b hb h => by have := hPlt b hb; omega
  refine s_for j.length (fun i (_ : Unit) => [vi i]) (fun i _ w' => ∃ hs' bv' best' lb' sb', PSt c B0 e p j ch pv jv pk gb ub w' hs' plan bv' best' lb' sb' ∧ At w' b8 (eCl clk) c.t_farm_clock ∧
      Lst (cmpPl p j ch) (fun full => ∃ q : Nat, q < i ∧ (q : Int) ∉ plan.flatten ∧ Compl j.length full ∧ Goes k (plan.set k (l ++ [(q : Int)])) full) best best' ∧ Keep (PFt pk gb ub hs) w1 w' ∧ ∀ b, inRw hs' b → inRw hs b ∨ w1.heap.size ≤ b) () rfl
    ⟨hs, bv, best, lb, sb, hP1, hat8, Lst.none hgood fun x ⟨q, hq, _⟩ => by omega, Keep.refl _ _, fun b hb => .inl hb⟩ ?_
  rintro i _ w13 j13 nx ⟨hs3, bv3, best3, lb3, sb3, hP3, hat8, hL3, hk3, hR3⟩ hin hnx
  have hz3 := hk3.size
  refine s_lss (s_condD (fun hlt => ?_) fun hge => ?_)
  rotate_left
  · -- the next printer
    obtain rfl : i = j.length := by omega
    refine s_add (by omega) (by omega) ?_
    refine s_nil (s_off (s_ldAt hP3.at_ rfl ?_))
    refine hP3.prn.len (s_lss ?_)
    have hkw : Keep (PFt pk gb ub hs) w w13 := hk1.none.trans hk3
    have hRw : ∀ b, inRw hs3 b → inRw hs b ∨ w.heap.size ≤ b := fun b hb => (hR3 b hb).elim .inl fun h => .inr (by omega)
    refine s_join (s_condD (fun hk1m => ?_) fun hk1m => ?_)
    · obtain ⟨pr2, hpr2⟩ := idx_of_lt (show k + 1 < p.length by omega)
      obtain ⟨l2, hl2⟩ := idx_of_lt (show k + 1 < plan.length by omega)
      have hl2e := he (k + 1) l2 (by omega) hl2
      subst hl2e
      refine s_add (by omega) (by omega) (s_nil (s_off (s_ldAt hP3.at_ rfl (s_add (by omega) (by omega) ?_))))
      rw [show ((k : Int) + 1) = ((k + 1 : Nat) : Int) from by omega]
      refine hP3.prn.idx (sz := 2) ePr_len hpr2 fun bq oq _ _ hcq => s_off (s_ld (hcq 1 _ rfl) ?_)
      refine s_build F.st_clock (cells := [vi 0, .string pr2.mat]) rfl ?_
      refine (ih (k + 1) ⟨0, pr2.mat⟩ left pr2 [] plan hs3 bv3 best3 lb3 sb3 w13 (by omega) hpr2 hl2 rfl hP3 hpl (he.mono (by omega)) hnd hinj hlen).mono ?_
      rintro u w32 ⟨hs4, bv4, best4, lb4, sb4, hP4, hL4, hk4, hR4⟩
      intro j6
      refine ⟨hs4, bv4, best4, lb4, sb4, hP4, ?_, ?_, fun b hb => ?_⟩
      · refine hL3.trans hgood hL4 fun x => ?_
        rw [goes_step he hl hleft]
        constructor
        · rintro (h | ⟨_, h⟩)
          · exact .inl h
          · exact .inr h
        · rintro (h | h)
          · exact .inl h
          · exact .inr ⟨by omega, h⟩
      · refine hkw.new hk4 fun b hb => ?_
        rcases hb with h | h | h | h
        · exact .inl (.inl h)
        · exact .inl (.inr (.inl h))
        · exact .inl (.inr (.inr (.inl h)))
        · exact (hRw b h).elim (fun h => .inl (.inr (.inr (.inr h)))) .inr
      · rcases hR4 b hb with h | h
        · exact hRw b h
        · exact .inr (by omega)
    · intro j6
      refine ⟨hs3, bv3, best3, lb3, sb3, hP3, hL3.congr fun x => ?_, hkw, hRw⟩
      rw [goes_step he hl hleft]
      exact ⟨fun h => h.elim id fun h => by omega, .inl⟩
  have hil := ofInt_lt hlt
  obtain ⟨x, hx⟩ := idx_of_lt hil
  have hjx := jobAt_get hx
  have hxb := hok.mins x (List.mem_of_getElem? hx)
  have hch0 := hok.ch0; have hch1 := hok.ch1
  refine s_join (hP3.job.idx (sz := 4) eJb_len hx fun b76 o76 _ _ hc76 => s_ldA hc76 rfl ?_)
  refine s_var rfl rfl rfl fun b15 w16 hat15 hk16 hb15 hs16 => ?_
  have hP6 := hP3.keep0 hk16
  have hat8 := hat8.keep0 hk16
  have hk316 : Keep (PFt pk gb ub hs) w1 w16 := hk3.trans hk16.none
  refine s_nil (s_off (s_ldAt hP6.at_ rfl ?_))
  refine s_idx (by omega) (by omega) ?_
  rw [Int.toNat_natCast]
  refine hP6.used.get hil (s_condD (fun hu => ?_) fun hu => ?_)
  · intro j4
    refine s_add (by omega) (by omega) (hnx () w16 hil ⟨hs3, bv3, best3, lb3, sb3, hP6, hat8, hL3.congr fun y => ⟨?_, ?_⟩, hk316, hR3⟩)
    · rintro ⟨q, hq, h⟩
      by_cases hqi : q = i
      · subst hqi; exact absurd hu h.1
      · exact ⟨q, by omega, h⟩
    · rintro ⟨q, hq, h⟩; exact ⟨q, by omega, h⟩
  have hni : (i : Int) ∉ plan.flatten := hu
  generalize hnext : clk.go x ch = next
  have hnb : next.fin ≤ clk.fin + 200000 ∧ clk.fin + 1 ≤ next.fin := by
    have := go_bd hok (c := clk) (List.mem_of_getElem? hx); rw [hnext] at this; omega
  refine s_joinM (fun vs w' => ∃ bn, vs = [pb bn 0] ∧ At w' bn (eCl next) c.t_farm_clock ∧ Keep NoB w16 w' ∧ w16.heap.size ≤ bn) ?_ ?_
  · refine s_held (fun w' => Keep NoB w16 w') ⟨keep_drew _ _, ?_⟩
    refine s_ldAS (fun w' h => (hat8.keep0 h).cells) rfl (s_ldAS (fun w' h => (hat15.keep0 h).cells) rfl ?_)
    refine s_nil (s_off (s_ldS (v := vi ch) (fun w' h => by rw [(hP6.at_.keep0 h).cell]; rfl) ⟨?_, ?_⟩))
    · refine (do_spec E F clk x ch w16.drew (by omega) (by omega) hch0 hch1 (by omega) (by omega)).mono ?_
      rintro u w18 ⟨hk18, rfl⟩
      have hk18 := (keep_drew NoB w16).trans hk18
      refine ⟨hk18, ?_⟩
      refine s_new (cs := [vi 0, .string (Bs [])]) fun bn w19 hatn hk19 hbn hs19 => ⟨hk18.trans hk19, ?_⟩
      rw [hnext]
      refine s_stA (vs := eCl next) hatn rfl rfl rfl fun w20 hatn hk20 _ => ⟨bn, rfl, hatn, (hk18.trans hk19).new hk20 fun q hq => .inr (by have := hk18.size; omega), by have := hk18.size; omega⟩
    · refine s_new (cs := [vi 0, .string (Bs [])]) fun bn w21 hatn hk21 hbn hs21 => ?_
      have hk21' := (keep_drew NoB w16).trans hk21
      have hdz : w16.drew.heap.size = w16.heap.size := rfl
      refine ⟨hk21', ?_⟩
      refine (do_spec E F clk x ch w21 (by omega) (by omega) hch0 hch1 (by omega) (by omega)).mono ?_
      rintro u w22 ⟨hk22, rfl⟩
      refine ⟨hk21'.trans hk22, ?_⟩
      rw [hnext]
      refine s_stA (vs := eCl next) (hatn.keep0 hk22) rfl rfl rfl fun w23 hatn hk23 _ => ⟨bn, rfl, hatn, (hk21'.trans hk22).new hk23 fun q hq => .inr (by omega), by omega⟩
  rintro vs j5 w17 ⟨bn, rfl, hatn, hk17, hbn⟩
  have hP7 := hP6.keep0 hk17
  have hat8 := hat8.keep0 hk17
  have hk317 := hk316.trans hk17.none
  have hz17 := hk17.size
  have hlt3 : ∀ b, PFt pk gb ub hs3 b → b < w13.heap.size := fun b hb => hP3.lt hb
  have hz16 := hk16.size
  refine s_nil (s_off (s_ldAt hP7.at_ rfl ?_))
  refine s_idx (by omega) (by omega) ?_
  rw [Int.toNat_natCast]
  refine hP7.used.put hil fun w24 hused24 hk24 hs24 => ?_
  have hne := hP.ne
  have hat24 := hP7.at_.keep hk24 (fun h => hne.2.1 h)
  have hrows24 := hP7.rows.keep hk24 (fun h => hne.2.2 h) fun b hb h => (hP3.rne b hb).2 h
  have hn24 := hatn.keep hk24 (fun h => by have := hlt3 ub (.inr (.inr (.inl rfl))); omega)
  have h824 := hat8.keep hk24 (fun h => hb8ne ub (.inr (.inr (.inl rfl))) h.symm)
  have hbest24 := (hP7.best_.old).keep hk24 fun b hb h => hb.1.2.2.2.1 h
  have hdub : ∀ b, b < B0 → ¬ (b = ub) := fun b hb h => by have := hP.b0.2.2; omega
  have hprn24 := hP7.prn.keep hk24 hdub
  have hjob24 := hP7.job.keep hk24 hdub
  -- the row grows
  obtain ⟨h, hh⟩ := idx_of_lt (show k < hs3.length by rw [hP3.rows.len, hpl]; exact hkm)
  have hown := hrows24.own k h l hh hl
  have hinR : ∀ b, inV h b → inRw hs3 b := fun b hb => inRw_of hh hb
  have hpkh : ¬ inV h pk := fun hb => (hP3.rne pk (hinR pk hb)).1 rfl
  have hubh : ¬ inV h ub := fun hb => (hP3.rne ub (hinR ub hb)).2 rfl
  have hgbh : ¬ inV h gb := hP3.rows.gne h (List.mem_of_getElem? hh)
  have hinlt : ∀ b, inV h b → b < w13.heap.size := fun b hb => hlt3 b (.inr (.inr (.inr (hinR b hb))))
  refine s_held (fun w' => Keep (inV h) w24.drew w') ⟨Keep.refl _ _, ?_⟩
  refine s_nil (s_off (s_ldS (v := .slice (some ⟨gb, 0, none⟩) p.length p.length) (fun w' hk => by rw [(hat24.drew.keep hk hpkh).cell]; rfl) ?_))
  refine s_nil (s_off (s_ldS (v := .slice (some ⟨gb, 0, none⟩) p.length p.length) (fun w' hk => by rw [(hat24.drew.keep hk hpkh).cell]; rfl) ?_))
  refine s_slotS (L := hs3) (ty := c.t_sl_int) (fun w' hk => hrows24.at_.drew.keep hk hgbh) hkm hh ?_
  have hz24 : w24.drew.heap.size = w24.heap.size := rfl
  refine s_pushH F.sl_int (y := (i : Int)) hown.drew rfl rfl rfl (by omega) (by omega) (fun q hq => by have := hP.b0.1; have := hlt3 pk (.inl rfl); omega) (fun w' hk => hk) fun h1 w26 ho26 hk26 hi26 => ?_
  have hrows24d : RowsO c (fun b => B0 ≤ b) w24.drew gb hs3 plan := hrows24.keep0 (keep_drew _ _)
  refine hrows24d.put (k := k) hh hk26 ho26 hpl.symm (fun b hb => hi26 b hb) fun w27 hrows27 hk27 hs27 => ?_
  have hn27 : At w27 bn (eCl next) c.t_farm_clock := (hn24.drew.keep hk26 fun hb => by have := hinlt bn hb; omega).keep hk27 fun h => by have := hlt3 gb (.inr (.inl rfl)); omega
  have h827 : At w27 b8 (eCl clk) c.t_farm_clock := (h824.drew.keep hk26 fun hb => by
    rcases hR3 b8 (hinR b8 hb) with h' | h'
    · exact hb8ne b8 (.inr (.inr (.inr h'))) rfl
    · omega).keep hk27 fun h => hb8ne gb (.inr (.inl rfl)) h.symm
  have hat27 := (hat24.drew.keep hk26 hpkh).keep hk27 (fun h => hne.1 h)
  have hz26 := hk26.size
  have hplan1 : (plan.set k (l ++ [(i : Int)])).flatten = plan.flatten ++ [(i : Int)] := flat_set_empt he hl
  generalize hp1 : plan.set k (l ++ [(i : Int)]) = plan1 at *
  have hused27 : Seen w27 ub j.length e (fun q => decide ((q : Int) ∈ plan1.flatten)) := by
    have h1 : Seen w27 ub j.length e _ := At.keep (At.keep (At.drew hused24) hk26 hubh) hk27 fun h => hne.2.2 h.symm
    refine h1.same fun q _ => ?_
    rw [hplan1, Bool.eq_iff_iff]
    simp only [Bool.or_eq_true, decide_eq_true_eq, List.mem_append, List.mem_singleton]
    constructor
    · rintro (h | h)
      · exact .inr (by omega)
      · exact .inl h
    · rintro (h | h)
      · exact .inr h
      · exact .inl (by omega)
  have hRw1 : ∀ b, inRw (hs3.set k h1) b → inRw hs3 b ∨ w24.heap.size ≤ b := fun b hb => by
    rcases inRw_set hb with h' | h'
    · exact .inl h'
    · exact (hi26 b h').elim (fun h => .inl (hinR b h)) .inr
  have hrne1 : ∀ b, inRw (hs3.set k h1) b → b ≠ pk ∧ b ≠ ub := fun b hb => by
    rcases hRw1 b hb with h' | h'
    · exact hP3.rne b h'
    · exact ⟨fun h => by have := hlt3 pk (.inl rfl); omega, fun h => by have := hlt3 ub (.inr (.inr (.inl rfl))); omega⟩
  have hdm : ∀ b, b < B0 → ¬ inV h b := fun b hb hb' => by have := hP3.rows.inD (hinR b hb'); omega
  have hdg : ∀ b, b < B0 → ¬ (b = gb) := fun b hb h => by have := hP.b0.2.1; omega
  have hP27 : PSt c B0 e p j ch pv jv pk gb ub w27 (hs3.set k h1) plan1 bv3 best3 lb3 sb3 := by
    refine ⟨hat27, hrows27, hused27, hne, hrne1, hP.b0, ?_, hP3.key, ((hprn24.drew).keep hk26 hdm).keep hk27 hdg, ((hjob24.drew).keep hk26 hdm).keep hk27 hdg⟩
    refine (((hbest24.keep (keep_drew NoB _) fun _ _ h => h).keep hk26 fun b hb hb' => hb.1.2.2.2.2 (hinR b hb')).keep hk27 fun b hb hb' => hb.1.2.2.1 hb').dom fun b hb => ⟨hb.1.1, hb.1.2.1, hb.1.2.2.1, hb.1.2.2.2.1, fun hr => ?_⟩
    rcases hRw1 b hr with h' | h'
    · exact hb.1.2.2.2.2 h'
    · have := hb.2; omega
  have hpl1 : plan1.length = p.length := by rw [← hp1, List.length_set]; exact hpl
  have hl1 : plan1[k]? = some (l ++ [(i : Int)]) := by rw [← hp1]; exact List.getElem?_set_self (by rw [hpl]; exact hkm)
  have hrun1 : runC j ch ⟨0, pr.mat⟩ (l ++ [(i : Int)]) = next := by rw [runC_snoc, ← hclk, hjx, hnext]
  have hlast1 : lastP j ch p plan1 = max (lastP j ch p plan) next.fin := by
    have := last_set (j := j) (ch := ch) p plan k pr l (i : Int) hpr hl
    rw [hp1, ← hclk, hjx, hnext] at this
    rcases this with h | h
    · exact h
    · omega
  have hsum1 : sumP j ch p plan1 = sumP j ch p plan + next.fin := by
    have := sum_set (j := j) (ch := ch) p plan k pr l (i : Int) hpr hl
    rw [hp1, ← hclk, hjx, hnext] at this
    exact this
  refine s_ldAAt hn27 rfl (s_sub (by omega) (by omega) (s_off (s_ldAt hn27 rfl (s_max2 (s_off (s_ldAt hn27 rfl (s_add (show -9223372036854775808 ≤ sumP j ch p plan + next.fin by omega) (show sumP j ch p plan + next.fin ≤ 9223372036854775807 by omega) ?_)))))))
  rw [← hlast1, ← hsum1, show ((left : Int) - 1) = ((left - 1 : Nat) : Int) from by omega]
  refine (ih k next (left - 1) pr (l ++ [(i : Int)]) plan1 (hs3.set k h1) bv3 best3 lb3 sb3 w27 (by omega) hpr hl1 hrun1.symm hP27 hpl1 (by rw [← hp1]; exact he.set _) ?_ ?_ ?_).mono ?_
  · rw [hplan1]
    exact List.nodup_append.2 ⟨hnd, by simp, fun a ha b hb hab => by simp at hb; subst hb; subst hab; exact hni ha⟩
  · rw [hplan1]
    intro y hy
    rcases List.mem_append.1 hy with h' | h'
    · exact hinj y h'
    · simp at h'; subst h'; omega
  · rw [hplan1, List.length_append]
    show plan.flatten.length + 1 + (left - 1) = j.length
    omega
  rintro u w28 ⟨hs2, bv2, best2, lb2, sb2, hP2, hL2, hk28, hR2⟩
  have hz28 := hk28.size
  have hPd := hP2.keep0 (keep_drew NoB w28)
  have h828 : At w28 b8 (eCl clk) c.t_farm_clock := h827.keep hk28 fun hb => by
    rcases hb with h' | h' | h' | h'
    · exact hb8ne pk (.inl rfl) h'.symm
    · exact hb8ne gb (.inr (.inl rfl)) h'.symm
    · exact hb8ne ub (.inr (.inr (.inl rfl))) h'.symm
    · rcases hRw1 b8 h' with h'' | h''
      · rcases hR3 b8 h'' with h3 | h3
        · exact hb8ne b8 (.inr (.inr (.inr h3))) rfl
        · omega
      · omega
  -- the row shrinks
  obtain ⟨h2, hh2⟩ := idx_of_lt (show k < hs2.length by rw [hP2.rows.len, hpl1]; exact hkm)
  have hown2 := hPd.rows.own k h2 _ hh2 hl1
  refine s_nil (s_off (s_ldAt hPd.at_ rfl (s_nil (s_off (s_ldAt hPd.at_ rfl ?_)))))
  refine s_slot hPd.rows.at_ hkm hh2 ?_
  refine s_nil (s_off (s_ldAt hPd.at_ rfl ?_))
  refine s_slot hPd.rows.at_ hkm hh2 ?_
  have hll1 : (l ++ [(i : Int)]).length = l.length + 1 := by simp
  refine hown2.len (s_sub (by omega) (by omega) ?_)
  rw [show (((l ++ [(i : Int)]).length : Int) - 1) = (l.length : Int) from by omega]
  refine hown2.trunc F.sl_int rfl fun h3 ho3 hi3 => ?_
  refine hPd.rows.put (k := k) hh2 (Keep.refl _ _) ho3 hpl1.symm (fun b hb => .inl ((hi3 b).1 hb)) fun w29 hrows29 hk29 hs29 => ?_
  have hplan : plan1.set k l = plan := by rw [← hp1, List.set_set, set_self hl]
  rw [hplan] at hrows29
  have hat29 := hPd.at_.keep hk29 (fun h => hne.1 h)
  refine s_nil (s_off (s_ldAt hat29 rfl ?_))
  refine s_idx (by omega) (by omega) ?_
  rw [Int.toNat_natCast]
  have hused29 : Seen w29 ub j.length e _ := At.keep hPd.used hk29 fun h => hne.2.2 h.symm
  refine hused29.clr hil fun w30 hused30 hk30 hs30 => ?_
  intro j4
  have hz29 : w28.drew.heap.size = w28.heap.size := rfl
  have hRs : ∀ b, inRw (hs2.set k h3) b → inRw hs2 b := fun b hb => by
    rcases inRw_set hb with h' | h'
    · exact h'
    · exact inRw_of hh2 ((hi3 b).1 h')
  have hR23 : ∀ b, inRw hs2 b → inRw hs3 b ∨ w24.heap.size ≤ b := fun b hb => by
    rcases hR2 b hb with h' | h'
    · exact hRw1 b h'
    · exact .inr (by omega)
  have hP30 : PSt c B0 e p j ch pv jv pk gb ub w30 (hs2.set k h3) plan bv2 best2 lb2 sb2 := by
    refine ⟨hat29.keep hk30 (fun h => hne.2.1 h), hrows29.keep hk30 (fun h => hne.2.2 h) fun b hb h => (hP2.rne b (hRs b hb)).2 h, hused30.same fun q hq => ?_, hne, fun b hb => hP2.rne b (hRs b hb), hP.b0, ?_, hP2.key,
      (hPd.prn.keep hk29 hdg).keep hk30 hdub, (hPd.job.keep hk29 hdg).keep hk30 hdub⟩
    · rw [hplan1, Bool.eq_iff_iff]
      simp only [Bool.and_eq_true, decide_eq_true_eq, List.mem_append, List.mem_singleton, Bool.not_eq_true', decide_eq_false_iff_not]
      constructor
      · rintro ⟨h1, h2 | h2⟩
        · exact h2
        · omega
      · intro h
        exact ⟨fun hqi => by subst hqi; exact hni h, .inl h⟩
    · exact ((hPd.best_.keep hk29 fun b hb h => hb.2.2.1 h).keep hk30 fun b hb h => hb.2.2.2.1 h).dom fun b hb => ⟨hb.1, hb.2.1, hb.2.2.1, hb.2.2.2.1, fun h => hb.2.2.2.2 (hRs b h)⟩
  have hPF3 : ∀ b, PFt pk gb ub hs3 b → PFt pk gb ub hs b ∨ w1.heap.size ≤ b := fun b hb => by
    rcases hb with h | h | h | h
    · exact .inl (.inl h)
    · exact .inl (.inr (.inl h))
    · exact .inl (.inr (.inr (.inl h)))
    · exact (hR3 b h).elim (fun h => .inl (.inr (.inr (.inr h)))) .inr
  refine s_add (by omega) (by omega) (hnx () w30 hil ⟨hs2.set k h3, bv2, best2, lb2, sb2, hP30, (h828.drew.keep hk29 fun h => hb8ne gb (.inr (.inl rfl)) h.symm).keep hk30 (fun h => hb8ne ub (.inr (.inr (.inl rfl))) h.symm), ?_, ?_, fun b hb => ?_⟩)
  · refine hL3.trans hgood hL2 fun y => ?_
    constructor
    · rintro ⟨q, hq, h⟩
      by_cases hqi : q = i
      · subst hqi; exact .inr ⟨h.2.1, by rw [← hp1]; exact h.2.2⟩
      · exact .inl ⟨q, by omega, h⟩
    · rintro (⟨q, hq, h⟩ | h)
      · exact ⟨q, by omega, h⟩
      · exact ⟨i, by omega, hni, h.1, by rw [hp1]; exact h.2⟩
  · have k1 : Keep (PFt pk gb ub hs) w1 w24 := hk317.trans (hk24.mono fun b h => .inr (.inr (.inl h)))
    have k2 : Keep (PFt pk gb ub hs) w1 w26 := k1.drew.new hk26 fun b hb => hPF3 b (.inr (.inr (.inr (hinR b hb))))
    have k3 : Keep (PFt pk gb ub hs) w1 w27 := k2.trans (hk27.mono fun b h => .inr (.inl h))
    have k4 : Keep (PFt pk gb ub hs) w1 w28 := k3.new hk28 fun b hb => by
      rcases hb with h | h | h | h
      · exact .inl (.inl h)
      · exact .inl (.inr (.inl h))
      · exact .inl (.inr (.inr (.inl h)))
      · rcases hRw1 b h with h' | h'
        · exact hPF3 b (.inr (.inr (.inr h')))
        · exact .inr (by omega)
    exact (k4.drew.trans (hk29.mono fun b h => .inr (.inl h))).trans (hk30.mono fun b h => .inr (.inr (.inl h)))
  · rcases hR23 b (hRs b hb) with h' | h'
    · exact hR3 b h'
    · exact .inr (by omega)
end Go.Eng

/-! Contract: the earliest plan. -/
namespace Go.Eng
open Go
variable {c : Cfg}

/-- all plans -/
def AllP (n m : Nat) (full : Plan) : Prop := Compl n full ∧ full.length = m
theorem goes_root {n m : Nat} (hm : 0 < m) (full : Plan) : (Compl n full ∧ Goes 0 (List.replicate m []) full) ↔ AllP n m full := by
  refine ⟨fun ⟨h1, h2⟩ => ⟨h1, by rw [h2.len, List.length_replicate]⟩, fun ⟨h1, h2⟩ => ⟨h1, by rw [h2, List.length_replicate], fun i hi => by omega, ?_⟩⟩
  obtain ⟨l, hl⟩ := idx_of_lt (show 0 < full.length by omega)
  exact ⟨[], l, by rw [List.getElem?_replicate, if_pos hm], by rw [hl]; rfl⟩
theorem empt_root (k m : Nat) : Empt k (List.replicate m []) := fun i l _ hl => by
  rw [List.getElem?_replicate] at hl
  split at hl
  · cases hl; rfl
  · cases hl
theorem cov_root {n m : Nat} (hm : 0 < m) (full : Plan) : Cov n (List.replicate m []) full ↔ AllP n m full := by
  rw [← goes_root hm full]
  constructor
  · rintro ⟨k, hk, he, h1, h2⟩
    rw [goes_root hm]
    exact ⟨h1, by rw [h2.len, List.length_replicate]⟩
  · rintro ⟨h1, h2⟩
    exact ⟨0, by rw [List.length_replicate]; exact hm, empt_root 0 m, h1, h2⟩
theorem iotaI_len (n : Nat) : (iotaI n).length = n := by simp [iotaI]
theorem mem_iotaI {n : Nat} {i : Int} : i ∈ iotaI n ↔ 0 ≤ i ∧ i < n := by
  unfold iotaI
  rw [List.mem_map]
  constructor
  · rintro ⟨k, hk, rfl⟩
    have := List.mem_range.1 hk; omega
  · rintro ⟨h1, h2⟩
    exact ⟨i.toNat, List.mem_range.2 (by omega), by omega⟩
theorem iotaI_nodup (n : Nat) : (iotaI n).Nodup := by
  unfold iotaI
  induction n with
  | zero => simp
  | succ n ih =>
    rw [List.range_succ, List.map_append]
    refine List.nodup_append.2 ⟨ih, by simp, fun a ha b hb => ?_⟩
    obtain ⟨k, hk, rfl⟩ := List.mem_map.1 ha
    have := List.mem_range.1 hk
    simp at hb; omega
theorem allP_some {n m : Nat} (hm : 0 < m) : ∃ full, AllP n m full := by
  obtain ⟨m', rfl⟩ : ∃ m', m = m' + 1 := ⟨m - 1, by omega⟩
  refine ⟨iotaI n :: List.replicate m' [], ⟨?_, ?_, ?_⟩, by simp⟩
  all_goals
    have : (iotaI n :: List.replicate m' []).flatten = iotaI n := by
      rw [List.flatten_cons]
      have : (List.replicate m' ([] : List Int)).flatten = [] := by
        rw [List.flatten_eq_nil_iff]; intro l hl; exact List.eq_of_mem_replicate hl
      rw [this, List.append_nil]
    rw [this]
  · exact iotaI_len n
  · exact iotaI_nodup n
  · intro i hi; exact mem_iotaI.1 hi
theorem lst_some {n m : Nat} (hm : 0 < m) {f : Plan → Plan → Int} {r : Option Plan} (h : Lst f (AllP n m) none r) : ∃ b, r = some b ∧ AllP n m b := by
  obtain ⟨x, hx⟩ := allP_some (n := n) hm
  obtain ⟨y, rfl, _⟩ := h.all x hx
  rcases h.src with h | ⟨z, h, hz⟩
  · cases h
  · cases h; exact ⟨y, rfl, hz⟩

noncomputable def farmF (p : List Prn) (j : List Job) (ch : Int) : Int := if prnF p ≠ 0 then prnF p else if jobF j ≠ 0 then jobF j else if 0 ≤ ch ∧ ch ≤ 100000 then 0 else 1

/-- what is told of the earliest plan -/
def EarlyR (D : Nat → Prop) (p : List Prn) (j : List Job) (ch : Int) (bv : Value) (n : Int) (w' : World) : Prop :=
  ∃ b, Lst (cmpPl p j ch) (AllP j.length p.length) none (some b) ∧ n = lastP j ch p b ∧ S2 D eI w' bv b

theorem flat_rep (m : Nat) : (List.replicate m ([] : List Int)).flatten = [] := by
  rw [List.flatten_eq_nil_iff]; intro l hl; exact List.eq_of_mem_replicate hl
theorem last_rep {j : List Job} {ch : Int} : ∀ (p : List Prn) (m : Nat), lastP j ch p (List.replicate m []) = 0
  | [], m => by cases m <;> rfl
  | _ :: _, 0 => rfl
  | pr :: ps, m + 1 => by simp only [List.replicate_succ, lastP, last_rep ps m]; rfl
theorem sum_rep {j : List Job} {ch : Int} : ∀ (p : List Prn) (m : Nat), sumP j ch p (List.replicate m []) = 0
  | [], m => by cases m <;> rfl
  | _ :: _, 0 => rfl
  | pr :: ps, m + 1 => by simp only [List.replicate_succ, sumP, sum_rep ps m]; rfl

theorem earliest_spec (E : Eqs c) (X : Ext c) (F : TyF c) {D D' : Nat → Prop} {pv jv : Value} {p : List Prn} {j : List Job} {ch : Int} {w : World} (hp : Sl D ePr w pv p) (hj : Sl D' eJb w jv j) (hj7 : j.length ≤ 7) (hp4 : p.length ≤ 4) :
    Ret c.P c.f_farm_Earliest #[pv, jv, vi ch] w fun u w' => Keep NoB w w' ∧ (farmF p j ch ≠ 0 → u = .tuple #[.slice none 0 0, vi 0, vi (farmF p j ch)]) ∧
      (farmF p j ch = 0 → ∃ bv n, u = .tuple #[bv, vi n, vi 0] ∧ EarlyR (Fresh w) p j ch bv n w') := by
  have hp := hp.lt; have hj := hj.lt
  apply E.farm_Earliest
  unfold wp_farm_Earliest
  refine (fault_spec E X hp hj).mono ?_
  rintro u w1 ⟨hk1, rfl⟩
  have hff : (if prnF p ≠ 0 then prnF p else jobF j) ≠ 0 → farmF p j ch = (if prnF p ≠ 0 then prnF p else jobF j) := fun h => by
    unfold farmF
    by_cases h1 : prnF p ≠ 0
    · rw [if_pos h1, if_pos h1]
    · rw [if_neg h1] at h ⊢; rw [if_neg h1, if_pos h]
  refine s_neq (s_condD (fun h => ?_) fun h => ?_)
  · refine ⟨hk1, fun _ => by rw [hff h], fun h' => ?_⟩
    rw [hff h] at h'
    exact absurd h' h
  have h0 : prnF p = 0 ∧ jobF j = 0 := by
    by_cases h1 : prnF p = 0
    · rw [if_neg (by simp [h1])] at h; exact ⟨h1, by omega⟩
    · rw [if_pos h1] at h; exact absurd h1 h
  have hF : farmF p j ch = if 0 ≤ ch ∧ ch ≤ 100000 then 0 else 1 := by unfold farmF; rw [if_neg (by simp [h0.1]), if_neg (by simp [h0.2])]
  rw [hF]
  refine (change_spec E ch w1).mono ?_
  rintro u w' ⟨rfl, rfl⟩
  refine s_not (s_cond (fun hc => ?_) fun hc => ?_)
  · rw [if_neg (by simp at hc; omega)]
    exact ⟨hk1, fun _ => rfl, fun h => by omega⟩
  have hc : 0 ≤ ch ∧ ch ≤ 100000 := by simp at hc; omega
  rw [if_pos hc]
  have hok := jOk_of h0.2 hc
  have hpm := prnF_ok h0.1
  have hp1 := hp.keep0 hk1; have hj1 := hj.keep0 hk1
  refine s_join (hj1.len (s_gtr (s_guardF (fun h1 => hp1.len (s_gtr ?_)) fun h1 => by simp at h1; omega)))
  intro j0
  refine s_condD (fun h => by omega) fun _ => ?_
  obtain ⟨eb, hTb⟩ := F.sl_bool
  refine s_joinM (fun vs w4 => ∃ pk gb ub, vs = [pb pk 0] ∧ Keep NoB w w4 ∧ PSt c w'.heap.size eb p j ch pv jv pk gb ub w4 (List.replicate p.length (.slice none 0 0)) (List.replicate p.length []) (.slice none 0 0) none 0 0) ?_ ?_
  · have hmk : ∀ (gb ub : Nat) (w6 : World), At w6 gb ((List.replicate p.length [Value.slice none 0 0]).flatten) c.t_sl_int → At w6 ub ((List.replicate j.length [Value.bool false]).flatten) eb → gb ≠ ub → w'.heap.size ≤ gb → w'.heap.size ≤ ub → Keep NoB w' w6 →
        pureP c.P (Instr.build c.t_farm_planner #[(0, pv), (1, jv), (2, vi ch), (3, .slice (some ⟨gb, 0, none⟩) p.length p.length), (4, .slice (some ⟨ub, 0, none⟩) j.length j.length)]) fun v37 =>
          newP c.t_farm_planner (Value.cells v37) w6 fun v38 w7 => ∃ pk gb ub, [v38] = [pb pk 0] ∧ Keep NoB w w7 ∧ PSt c w'.heap.size eb p j ch pv jv pk gb ub w7 (List.replicate p.length (.slice none 0 0)) (List.replicate p.length []) (.slice none 0 0) none 0 0 := by
      intro gb ub w6 ag au hne h1 h2 hk6
      refine s_build F.st_planner (cells := [pv, jv, vi ch, .slice (some ⟨gb, 0, none⟩) p.length p.length, .slice (some ⟨ub, 0, none⟩) j.length j.length, .slice none 0 0, vi 0, vi 0]) (by obtain ⟨a, b, rfl, _⟩ := hp; obtain ⟨a, b, rfl, _⟩ := hj; rfl) ?_
      refine s_new fun pk w7 ap hk7 hpk hs7 => ⟨pk, gb, ub, rfl, (hk1.trans hk6).trans hk7, ap, (rows_new ag).keep0 hk7, ?_, ⟨by have := ag.lt; omega, by have := au.lt; omega, hne⟩, fun b hb => ?_, ⟨by have := ag.lt; omega, h1, h2⟩, rfl, fun bp h => (by cases h), ?_, ?_⟩
      · have h3 : Seen w7 ub j.length eb fun _ => false := At.keep0 (seen_new au) hk7
        exact h3.same fun k _ => by rw [flat_rep]; simp
      · obtain ⟨x, hx, hb⟩ := hb
        have := List.eq_of_mem_replicate hx
        subst this; exact hb.elim
      · exact ((hp1.keep0 hk6).keep0 hk7).dom fun b hb => by have hb : b < w.heap.size := hb; have := hk1.size; omega
      · exact ((hj1.keep0 hk6).keep0 hk7).dom fun b hb => by have hb : b < w.heap.size := hb; have := hk1.size; omega
    have hdz : w'.drew.heap.size = w'.heap.size := rfl
    refine s_held (fun w4 => Keep NoB w' w4) ⟨keep_drew _ _, hp1.len (hj1.len ⟨?_, ?_⟩)⟩
    · refine s_mkslice F.ssl_int (by omega) fun gb w5 ag hk5 hgb hs5 => ⟨(keep_drew _ _).trans hk5, ?_⟩
      refine s_mkslice hTb (by omega) fun ub w6 au hk6 hub hs6 => ?_
      exact hmk gb ub w6 (ag.keep0 hk6) au (by omega) (by omega) (by have := hk5.size; omega) (((keep_drew _ _).trans hk5).trans hk6)
    · refine s_mkslice hTb (by omega) fun ub w5 au hk5 hub hs5 => ?_
      refine s_mkslice F.ssl_int (by omega) fun gb w6 ag hk6 hgb hs6 => ⟨((keep_drew _ _).trans hk5).trans hk6, ?_⟩
      exact hmk gb ub w6 ag (au.keep0 hk6) (by omega) (by have := hk5.size; omega) (by omega) (((keep_drew _ _).trans hk5).trans hk6)
  rintro vs j1 w4 ⟨pk, gb, ub, rfl, hk4, hP⟩
  obtain ⟨pr, hpr⟩ := idx_of_lt (show 0 < p.length by omega)
  refine hP.prn.idx (i := 0) (sz := 2) ePr_len hpr fun b o _ _ hc => s_off (s_ld (hc 1 _ rfl) ?_)
  refine s_build F.st_clock (cells := [vi 0, .string pr.mat]) rfl ?_
  refine hP.job.len ?_
  have hroot : (List.replicate p.length ([] : List Int))[0]? = some [] := by rw [List.getElem?_replicate, if_pos (by omega)]
  have htry := try_spec E F (e := eb) (pv := pv) (jv := jv) (pk := pk) (gb := gb) (ub := ub) (B0 := w'.heap.size) hok (by omega) (by omega) (j.length + p.length) 0 ⟨0, pr.mat⟩ j.length pr [] (List.replicate p.length []) _ _ none 0 0 w4 (by omega) hpr hroot rfl hP (by simp) (empt_root 0 _)
    (by rw [flat_rep]; simp) (by rw [flat_rep]; intro x hx; cases hx) (by rw [flat_rep]; simp)
  rw [last_rep, sum_rep] at htry
  refine htry.mono ?_
  rintro u w5 ⟨hs', bv', best', lb', sb', hP', hL, hk5, _⟩
  have hL := hL.congr (S := AllP j.length p.length) fun x => (goes_root (by omega) x).symm
  obtain ⟨b, rfl, hb⟩ := lst_some (by omega) hL
  obtain ⟨hb2, ad, n, cap, rfl⟩ := hP'.best_
  obtain ⟨e1, e2⟩ := hP'.key b rfl
  have hk05 : Keep NoB w w5 := by
    refine ⟨hk5.os.trans hk4.os, hk5.tape.trans hk4.tape, hk5.output.trans hk4.output, Nat.le_trans hk4.size hk5.size, fun i hi _ => ?_⟩
    rw [hk5.block i (Nat.lt_of_lt_of_le hi hk4.size) fun h => by have := hP.ge h; have := hk1.size; omega]
    exact hk4.block i hi fun h => h
  refine s_nil (s_off (s_ldAt (hP'.at_.keep0 (keep_drew _ _)) rfl ?_))
  refine s_nil (s_off (s_ldAt (hP'.at_.keep0 (keep_drew _ _)) rfl ?_))
  refine ⟨hk05.drew, fun h => by omega, fun _ => ⟨_, _, rfl, b, hL, e1, (hb2.drew).dom fun q hq => ?_⟩⟩
  have := hk1.size
  have := hq.1
  show w.heap.size ≤ q
  omega
end Go.Eng

/-! Contracts: the reference tries all plans. -/
namespace Go.Eng
open Go
variable {c : Cfg}

theorem s_or {P : Program} {t : TypeId} {x y : Operand} {a b : Nat} {k : Value → Prop} (ha : a < 4611686018427387904) (hb : b < 4611686018427387904) (h : k (vi ((a ||| b : Nat) : Int))) :
    pureP P (do eqGuard .or t x y (vi a) (vi b); binOp .or t (vi a) (vi b)) k := by
  refine ⟨_, fun w => ?_, h⟩
  have hlt : a ||| b < 2 ^ 62 := Nat.or_lt_two_pow (by omega) (by omega)
  have : (binOp .or t (vi a) (vi b)) = pure (vi ((a ||| b : Nat) : Int)) := by
    show Op.intBits .or .i64 a b = _
    unfold Op.intBits
    have e1 : (BitVec.ofInt IntKind.i64.bits (a : Int) ||| BitVec.ofInt IntKind.i64.bits (b : Int)).toNat = a ||| b := by
      show (BitVec.ofInt 64 (a : Int) ||| BitVec.ofInt 64 (b : Int)).toNat = a ||| b
      rw [BitVec.ofInt_natCast, BitVec.ofInt_natCast, BitVec.toNat_or, BitVec.toNat_ofNat, BitVec.toNat_ofNat, Nat.mod_eq_of_lt (by omega), Nat.mod_eq_of_lt (by omega)]
    simp only [e1]
    congr 2
    exact wr_id (by omega) (by omega)
  rw [this]; rfl

def leastV (p : List Prn) (j : List Job) (ch : Int) : Option Plan → Int
  | none => -1
  | some b => lastP j ch p b
def sumV (p : List Prn) (j : List Job) (ch : Int) : Option Plan → Int
  | none => 0
  | some b => sumP j ch p b
def BestE (D : Nat → Prop) (w : World) (bv : Value) : Option Plan → Prop
  | none => bv = .slice none 0 0
  | some b => S2 D eI w bv b
theorem BestE.keep {D M : Nat → Prop} {w w' : World} {bv : Value} {best : Option Plan} (h : BestE D w bv best) (k : Keep M w w') (hd : ∀ b, D b → ¬ M b) : BestE D w' bv best := by
  cases best with
  | none => exact h
  | some pl => exact S2.keep h k hd

theorem tmod2 (n : Nat) : (n : Int).tmod 2 = 0 ↔ n % 2 = 0 := by
  rw [Int.tmod_eq_emod_of_nonneg (by omega)]; omega
theorem leastV_neg (p : List Prn) (j : List Job) (ch : Int) (b : Plan) : ¬ leastV p j ch (some b) < 0 := by
  have : 0 ≤ lastP j ch p b := by rw [← planPs_last]; exact mxL_nonneg _
  show ¬ lastP j ch p b < 0
  omega

/-- a function value tells of rows -/
def TellsR (P : Program) (fv : Value) (q : List Int → Bool) (w : World) : Prop := ∀ (D : Nat → Prop) (av : Value) (a : List Int) (w' : World), Keep NoB w w' → Sl D eI w' av a → callV P fv #[av] w' fun v w'' => Keep NoB w' w'' ∧ v = .bool (q a)
theorem wrO_mem : ∀ (ps : List (Int × Int)) (o : List Int) (x : Int), x ∈ wrO o ps → x ∈ o ∨ x ∈ ps.map (·.2)
  | [], o, x, h => .inl h
  | q :: r, o, x, h => by
    rcases wrO_mem r (o.set q.1.toNat q.2) x h with h | h
    · rcases List.mem_or_eq_of_mem_set h with h | h
      · exact .inl h
      · exact .inr (by rw [h]; simp)
    · exact .inr (by rw [List.map_cons]; exact List.mem_cons_of_mem _ h)
theorem planPs_bd {j : List Job} {ch : Int} (hok : JOk j ch) : ∀ (p : List Prn) (plan : Plan), (∀ l ∈ plan, InJ j.length l ∧ l.length ≤ 500) → ∀ x ∈ (planPs j ch p plan).map (·.2), 0 ≤ x ∧ x ≤ 100000000
  | [], plan, _, x, hx => by cases plan <;> simp [planPs] at hx
  | _ :: _, [], _, x, hx => by simp [planPs] at hx
  | pr :: ps, l :: ls, h, x, hx => by
    simp only [planPs, List.map_append, List.mem_append, rowPs_snd] at hx
    rcases hx with hx | hx
    · have h1 := h l (List.mem_cons_self ..)
      have := endsC_bd hok l ⟨0, pr.mat⟩ h1.1 x hx
      have e : (Clk.mk 0 pr.mat).fin = 0 := rfl
      rw [e] at this
      omega
    · exact planPs_bd hok ps ls (fun l hl => h l (List.mem_cons_of_mem _ hl)) x hx
theorem endsO_bd {j : List Job} {ch : Int} (hok : JOk j ch) {p : List Prn} {plan : Plan} (h : ∀ l ∈ plan, InJ j.length l ∧ l.length ≤ 500) : ∀ x ∈ endsO j ch p plan, 0 ≤ x ∧ x ≤ 1000000000 := fun x hx => by
  rcases wrO_mem _ _ _ hx with h1 | h1
  · have := List.eq_of_mem_replicate h1; omega
  · have := planPs_bd hok p plan h x h1; omega
theorem last_nonneg {j : List Job} {ch : Int} (p : List Prn) (plan : Plan) : 0 ≤ lastP j ch p plan := by rw [← planPs_last]; exact mxL_nonneg _

def E3 (bl bs bb : Nat) (b : Nat) : Prop := b = bl ∨ b = bs ∨ b = bb

section
variable {p : List Prn} {j : List Job} {ch : Int} {bj bp bc bl bs bb bt : Nat} {w w' : World} {bv : Value} {best : Option Plan}
end

end Go.Eng

/-! Contracts: greedy plans. -/
namespace Go.Eng
open Go
variable {c : Cfg}

/-- when job t ends, if printer k does it next -/
def gEnd (j : List Job) (ch : Int) (p : List Prn) (t k : Nat) : Int := ((clkP j ch p (gPlan j ch p t) k).go (jobAt j t) ch).fin
theorem gPlan_succ {j : List Job} {ch : Int} {p : List Prn} (t : Nat) :
    gPlan j ch p (t + 1) = (gPlan j ch p t).set (amin (gEnd j ch p t) p.length) ((gPlan j ch p t).getD (amin (gEnd j ch p t) p.length) [] ++ [(t : Int)]) := rfl

/-- the rows of a greedy plan are numbers below t, and few -/
theorem gPlan_rows {j : List Job} {ch : Int} {p : List Prn} : ∀ t, (∀ l ∈ gPlan j ch p t, InJ t l ∧ l.length ≤ t)
  | 0, l, hl => by
    have := List.eq_of_mem_replicate hl
    subst this; exact ⟨fun x hx => (by cases hx), by simp⟩
  | t + 1, l, hl => by
    rw [gPlan_succ] at hl
    rcases List.mem_or_eq_of_mem_set hl with h | h
    · have := gPlan_rows t l h
      exact ⟨fun x hx => by have := this.1 x hx; omega, by omega⟩
    · subst h
      have h2 : InJ t ((gPlan j ch p t).getD (amin (gEnd j ch p t) p.length) []) ∧ ((gPlan j ch p t).getD (amin (gEnd j ch p t) p.length) []).length ≤ t := by
        by_cases hlt : amin (gEnd j ch p t) p.length < (gPlan j ch p t).length
        · rw [List.getD, List.getElem?_eq_getElem hlt]
          exact gPlan_rows t _ (List.getElem_mem hlt)
        · rw [List.getD, List.getElem?_eq_none (by omega)]
          exact ⟨fun x hx => (by cases hx), by simp⟩
      refine ⟨fun x hx => ?_, by rw [List.length_append, List.length_singleton]; omega⟩
      rcases List.mem_append.1 hx with h | h
      · have := h2.1 x h; omega
      · simp at h; subst h; omega

section
variable {j : List Job} {ch : Int} {p : List Prn}
theorem clk_bd (hok : JOk j ch) {t : Nat} (ht : t ≤ j.length) (k : Nat) : 0 ≤ (clkP j ch p (gPlan j ch p t) k).fin ∧ (clkP j ch p (gPlan j ch p t) k).fin ≤ 100000000 := by
  have h2 : InJ j.length ((gPlan j ch p t).getD k []) ∧ ((gPlan j ch p t).getD k []).length ≤ t := by
    by_cases hlt : k < (gPlan j ch p t).length
    · rw [List.getD, List.getElem?_eq_getElem hlt]
      have := gPlan_rows t _ (List.getElem_mem hlt)
      exact ⟨fun x hx => by have := this.1 x hx; omega, this.2⟩
    · rw [List.getD, List.getElem?_eq_none (by omega)]
      exact ⟨fun x hx => (by cases hx), by simp⟩
  have := runC_bd hok _ ⟨0, (p.getD k ⟨⟨#[]⟩, ⟨#[]⟩⟩).mat⟩ h2.1
  have h3 := hok.len
  have e : (Clk.mk 0 (p.getD k ⟨⟨#[]⟩, ⟨#[]⟩⟩).mat).fin = 0 := rfl
  rw [e] at this
  unfold clkP
  omega
theorem clkP_at {plan : Plan} {k : Nat} {pr : Prn} {l : List Int} (hp : p[k]? = some pr) (hl : plan[k]? = some l) : clkP j ch p plan k = runC j ch ⟨0, pr.mat⟩ l := by
  unfold clkP
  rw [getD_pred hp, getD_pred hl]
theorem clkP_set_ne {plan : Plan} {k k' : Nat} {l : List Int} (h : k' ≠ k) : clkP j ch p (plan.set k l) k' = clkP j ch p plan k' := by
  unfold clkP
  simp only [List.getD, List.getElem?_set_ne (Ne.symm h)]
theorem clkP_set {plan : Plan} {k : Nat} {l : List Int} {pr : Prn} {i : Int} (hp : p[k]? = some pr) (hl : plan[k]? = some l) : clkP j ch p (plan.set k (l ++ [i])) k = (clkP j ch p plan k).go (jobAt j i) ch := by
  rw [clkP_at hp (List.getElem?_set_self (lt_of_idx hl)), clkP_at hp hl, runC_snoc]
theorem gEnd_bd (hok : JOk j ch) {t : Nat} (ht : t < j.length) (k : Nat) : 1 ≤ gEnd j ch p t k ∧ gEnd j ch p t k ≤ 100200000 := by
  have h1 := clk_bd hok (p := p) (t := t) (by omega) k
  have h2 := go_bd hok (c := clkP j ch p (gPlan j ch p t) k) (jobAt_mem (i := (t : Int)) (by omega) (by omega))
  unfold gEnd
  omega
end

/-- clocks in a slice -/
def clksL (j : List Job) (ch : Int) (p : List Prn) (plan : Plan) : List Clk := (List.range p.length).map (clkP j ch p plan)
theorem clksL_get {j : List Job} {ch : Int} {p : List Prn} {plan : Plan} {k : Nat} (h : k < p.length) : (clksL j ch p plan)[k]? = some (clkP j ch p plan k) := by
  unfold clksL
  rw [List.getElem?_map, List.getElem?_range h]; rfl
theorem clksL_len {j : List Job} {ch : Int} {p : List Prn} {plan : Plan} : (clksL j ch p plan).length = p.length := by simp [clksL]
theorem clksL_set {j : List Job} {ch : Int} {p : List Prn} {plan : Plan} {k : Nat} {l : List Int} {i : Int} (hk : k < p.length) (hl : plan[k]? = some l) :
    clksL j ch p (plan.set k (l ++ [i])) = (clksL j ch p plan).set k ((clkP j ch p plan k).go (jobAt j i) ch) := by
  obtain ⟨pr, hp⟩ := idx_of_lt hk
  apply List.ext_getElem?
  intro q
  by_cases hq : q < p.length
  · rw [clksL_get hq]
    by_cases hqk : q = k
    · subst hqk
      rw [List.getElem?_set_self (by rw [clksL_len]; exact hq), clkP_set hp hl]
    · rw [List.getElem?_set_ne (by omega), clksL_get hq, clkP_set_ne hqk]
  · rw [List.getElem?_eq_none (by rw [clksL_len]; omega), List.getElem?_eq_none (by rw [List.length_set, clksL_len]; omega)]
theorem amin_le (f : Nat → Int) (k n : Nat) (hk : k ≤ n) (hn : 0 < n) : amin f k < n := by
  rcases Nat.eq_zero_or_pos k with h | h
  · subst h; exact hn
  · have := amin_lt f k h; omega

theorem greedy_spec (E : Eqs c) (X : Ext c) (F : TyF c) {D D' : Nat → Prop} {pv jv : Value} {p : List Prn} {j : List Job} {ch : Int} {w : World} (hp : Sl D ePr w pv p) (hj : Sl D' eJb w jv j) :
    Ret c.P c.f_farm_Greedy #[pv, jv, vi ch] w fun u w' => Keep NoB w w' ∧ (farmF p j ch ≠ 0 → u = .tuple #[.slice none 0 0, vi 0, vi (farmF p j ch)]) ∧
      (farmF p j ch = 0 → ∃ gv, u = .tuple #[gv, vi (lastP j ch p (gPlan j ch p j.length)), vi 0] ∧ S2 (Fresh w) eI w' gv (gPlan j ch p j.length)) := by
  have hp := hp.lt; have hj := hj.lt
  apply E.farm_Greedy
  unfold wp_farm_Greedy
  refine (fault_spec E X hp hj).mono ?_
  rintro u w1 ⟨hk1, rfl⟩
  have hff : (if prnF p ≠ 0 then prnF p else jobF j) ≠ 0 → farmF p j ch = (if prnF p ≠ 0 then prnF p else jobF j) := fun h => by
    unfold farmF
    by_cases h1 : prnF p ≠ 0
    · rw [if_pos h1, if_pos h1]
    · rw [if_neg h1] at h ⊢; rw [if_neg h1, if_pos h]
  refine s_neq (s_condD (fun h => ?_) fun h => ?_)
  · refine ⟨hk1, fun _ => by rw [hff h], fun h' => ?_⟩
    rw [hff h] at h'
    exact absurd h' h
  have h0 : prnF p = 0 ∧ jobF j = 0 := by
    by_cases h1 : prnF p = 0
    · rw [if_neg (by simp [h1])] at h; exact ⟨h1, by omega⟩
    · rw [if_pos h1] at h; exact absurd h1 h
  have hF : farmF p j ch = if 0 ≤ ch ∧ ch ≤ 100000 then 0 else 1 := by unfold farmF; rw [if_neg (by simp [h0.1]), if_neg (by simp [h0.2])]
  rw [hF]
  refine (change_spec E ch w1).mono ?_
  rintro u w' ⟨hw, rfl⟩
  have hw := hw.symm
  subst hw
  refine s_not (s_cond (fun hc => ?_) fun hc => ?_)
  · rw [if_neg (by simp at hc; omega)]
    exact ⟨hk1, fun _ => rfl, fun h => by omega⟩
  have hc : 0 ≤ ch ∧ ch ≤ 100000 := by simp at hc; omega
  rw [if_pos hc]
  have hok := jOk_of h0.2 hc
  have hpm := prnF_ok h0.1
  have hjl := hok.len
  have hp1 := hp.keep0 hk1; have hj1 := hj.keep0 hk1
  refine hp1.len (s_mkslice F.ssl_int (by omega) fun gb w3 ag hk3 hgb hs3 => ?_)
  have hrows := rows_new (c := c) (Dm := Fresh w3) ag
  have hk03 := hk1.trans hk3
  refine (hp.keep0 hk03).len ?_
  -- the clocks
  refine s_for p.length (fun i (u : Value) => [u, vi i]) (fun i u w' => Keep NoB w3 w' ∧ Ow (Fresh w3) c.t_farm_clock 2 eCl w' u ((p.take i).map fun q => Clk.mk 0 q.mat)) (.slice none 0 0) rfl ⟨Keep.refl _ _, Ow.nil⟩ ?_
  rintro i u w4 j4 nx ⟨hk4, ho4⟩ hin hnx
  have hk04 := hk03.trans hk4
  refine s_lss (s_condD (fun hlt => ?_) fun hge => ?_)
  · have hil := ofInt_lt hlt
    obtain ⟨x, hx⟩ := idx_of_lt hil
    refine (hp.keep0 hk04).idx (sz := 2) ePr_len hx fun b o _ _ hc => s_ldA hc rfl ?_
    refine s_var rfl rfl rfl fun b13 w6 hat13 hk6 hb13 _ => ?_
    refine s_off (s_ldAt hat13 rfl ?_)
    refine s_build F.st_clock (cells := [vi 0, .string x.mat]) rfl ?_
    have hz4 := hk4.size; have hz6 := hk6.size
    refine s_push F.sl_clock (y := Clk.mk 0 x.mat) (ho4.keep0 hk6) rfl rfl rfl (by simp; omega) (by omega) (fun q hq => by show w3.heap.size ≤ q; omega) fun u8 w8 ho8 hk8 hi8 => ?_
    refine s_add (by omega) (by omega) (hnx u8 w8 hil ⟨(hk4.trans hk6).new hk8 fun q hq => .inr (Own.inD ho4 hq), ?_⟩)
    rw [take_snoc hx, List.map_append]
    exact ho8
  obtain rfl : i = p.length := by omega
  rw [List.take_length] at ho4
  have hcl0 : (p.map fun q => Clk.mk 0 q.mat) = clksL j ch p (gPlan j ch p 0) := by
    unfold clksL
    apply List.ext_getElem?
    intro k
    rw [List.getElem?_map, List.getElem?_map]
    by_cases hk : k < p.length
    · obtain ⟨x, hx⟩ := idx_of_lt hk
      rw [hx, List.getElem?_range hk]
      simp only [Option.map_some, Option.some.injEq]
      rw [clkP_at hx (l := []) (by rw [gPlan, List.getElem?_replicate, if_pos hk])]; rfl
    · rw [List.getElem?_eq_none (by omega), List.getElem?_eq_none (by simp; omega)]; rfl
  rw [hcl0] at ho4
  have hinu : ∀ b, inV u b → w3.heap.size ≤ b := fun b hb => Own.inD ho4 hb
  have hjl4 := hj.keep0 hk04
  refine hjl4.len ?_
  -- the jobs
  have hrows4 := hrows.keep0 hk4
  refine s_for j.length (fun t (_ : List Value) => [vi (lastP j ch p (gPlan j ch p t)), vi t])
    (fun t hs w' => Keep (fun b => b = gb ∨ inV u b) w4 w' ∧ Ow (Fresh w3) c.t_farm_clock 2 eCl w' u (clksL j ch p (gPlan j ch p t)) ∧ RowsO c (Fresh w4) w' gb hs (gPlan j ch p t)) _ (by show [vi 0, vi 0] = _; rw [gPlan, last_rep]; rfl)
    ⟨Keep.refl _ _, ho4, hrows4.dom fun b ⟨x, hx, hb⟩ => by have := List.eq_of_mem_replicate hx; subst this; exact hb.elim⟩ ?_
  rintro t hs w9 j9 nx9 ⟨hk9, ho9, hr9⟩ htn hnx9
  have hz3 := hk3.size; have hz4 := hk4.size; have hz9 := hk9.size; have hz1 := hk1.size
  have hk09 : Keep NoB w w9 := hk04.new hk9 fun b hb => .inr (by
    rcases hb with h | h
    · omega
    · have := hinu b h; omega)
  refine s_lss (s_condD (fun hlt => ?_) fun hge => ?_)
  rotate_left
  · obtain rfl : t = j.length := by omega
    refine ⟨hk09, fun h => by omega, fun _ => ⟨_, rfl, ?_⟩⟩
    refine (hr9.s2 (by rw [gPlan_len]; omega) (gPlan_len p _).symm).dom fun b hb => ?_
    show w.heap.size ≤ b
    rcases hb with h | h
    · omega
    · have h : w4.heap.size ≤ b := hr9.inD h; omega
  have htl := ofInt_lt hlt
  obtain ⟨x, hx⟩ := idx_of_lt htl
  have hjx := jobAt_get hx
  have hxb := hok.mins x (List.mem_of_getElem? hx)
  refine (hj.keep0 hk09).idx (sz := 4) eJb_len hx fun b50 o50 _ _ hc50 => s_ldA hc50 rfl ?_
  refine s_var rfl rfl rfl fun b16 w11 hat16 hk11 hb16 hs11 => ?_
  have ho11 := ho9.keep0 hk11
  refine ho11.len ?_
  rw [clksL_len]
  have hcb := clk_bd hok (p := p) (t := t) (by omega)
  have hin9 : ∀ b, inV u b → b < w9.heap.size := fun b hb => Own.inLt ho9 hb
  refine s_for p.length (fun k (_ : Unit) => [vi (amin (gEnd j ch p t) k), vi k]) (fun k _ w' => Keep NoB w11 w') () rfl (Keep.refl _ _) ?_
  rintro k _ w12 j12 nx12 hk12 hkn hnx12
  have ho12 := ho11.keep0 hk12
  have hat16' := hat16.keep0 hk12
  have hbest := amin_le (gEnd j ch p t) k p.length hkn (by omega)
  refine s_lss (s_condD (fun hlt2 => ?_) fun hge2 => ?_)
  · have hkl := ofInt_lt hlt2
    refine s_join (ho12.sl.idx (sz := 2) eCl_len (clksL_get hkl) fun b57 o57 _ _ hc57 => s_ldA hc57 rfl ?_)
    refine s_var rfl rfl rfl fun b19 w15 hat19 hk15 hb19 hs15 => ?_
    refine s_held (fun w' => Keep NoB w15 w') ⟨keep_drew _ _, ?_⟩
    refine s_ldAS (fun w' h => (hat19.keep0 h).cells) rfl (s_ldAS (fun w' h => ((hat16'.keep0 hk15).keep0 h).cells) rfl ?_)
    refine (ho12.keep0 hk15).sl.idx (sz := 2) eCl_len (clksL_get hbest) fun b66 o66 _ _ hc66 => ?_
    refine s_ldAS (fun w' h => hc66.keep0 h) rfl (s_ldAS (fun w' h => ((hat16'.keep0 hk15).keep0 h).cells) rfl ?_)
    have hc1 := hcb k; have hc2 := hcb (amin (gEnd j ch p t) k)
    refine (do_spec E F _ x ch w15.drew (by omega) (by omega) hok.ch0 hok.ch1 (by omega) (by omega)).mono ?_
    rintro u62 w16 ⟨hk16, rfl⟩
    have hk16 := (keep_drew NoB w15).trans hk16
    refine ⟨hk16, s_fld1 rfl ?_⟩
    refine (do_spec E F _ x ch w16 (by omega) (by omega) hok.ch0 hok.ch1 (by omega) (by omega)).mono ?_
    rintro u70 w17 ⟨hk17, rfl⟩
    refine ⟨hk16.trans hk17, s_fld1 rfl (s_lss ?_)⟩
    have hk1217 : Keep NoB w11 w17 := ((hk12.trans hk15).trans hk16).trans hk17
    have hge1 : gEnd j ch p t k = ((clkP j ch p (gPlan j ch p t) k).go x ch).fin := by unfold gEnd; rw [hjx]
    have hge2 : gEnd j ch p t (amin (gEnd j ch p t) k) = ((clkP j ch p (gPlan j ch p t) (amin (gEnd j ch p t) k)).go x ch).fin := by unfold gEnd; rw [hjx]
    rw [← hge1, ← hge2]
    have hsucc : amin (gEnd j ch p t) (k + 1) = if gEnd j ch p t k < gEnd j ch p t (amin (gEnd j ch p t) k) then k else amin (gEnd j ch p t) k := rfl
    refine s_join (s_condD (fun h => ?_) fun h => ?_)
    · intro j4 j5
      refine s_add (by omega) (by omega) ?_
      have := hnx12 () w17 hkl hk1217
      rw [hsucc, if_pos h] at this
      exact this
    · intro j4 j5
      refine s_add (by omega) (by omega) ?_
      have := hnx12 () w17 hkl hk1217
      rw [hsucc, if_neg h] at this
      exact this
  obtain rfl : k = p.length := by omega
  have hsucc := gPlan_succ (j := j) (ch := ch) (p := p) t
  have hgl : ∀ t, (gPlan j ch p t).length = p.length := gPlan_len p
  generalize hbd : amin (gEnd j ch p t) p.length = best at *
  obtain ⟨l, hl⟩ := idx_of_lt (show best < (gPlan j ch p t).length by rw [hgl]; exact hbest)
  obtain ⟨pr, hpr⟩ := idx_of_lt hbest
  rw [getD_pred hl] at hsucc
  have hlr := gPlan_rows t l (List.mem_of_getElem? hl)
  have hk9w := hk11.trans hk12
  have hc2 := hcb best
  refine ho12.drew.sl.idx (sz := 2) eCl_len (clksL_get hbest) fun b79 o79 _ _ hc79 => s_ldA hc79 rfl (s_ldAAt hat16'.drew rfl ?_)
  refine (do_spec E F _ x ch w12.drew (by omega) (by omega) hok.ch0 hok.ch1 (by omega) (by omega)).mono ?_
  rintro u83 w19 ⟨hk19, rfl⟩
  have hk919 : Keep NoB w9 w19 := (hk9w.drew).trans hk19
  refine (ho12.drew.keep0 hk19).put eCl_len (by omega) (by rw [clksL_len]; exact hbest) rfl rfl fun w20 ho20 hk20 hs20 => ?_
  have hclks : (clksL j ch p (gPlan j ch p t)).set best ((clkP j ch p (gPlan j ch p t) best).go x ch) = clksL j ch p (gPlan j ch p (t + 1)) := by
    rw [hsucc, clksL_set hbest hl, hjx]
  rw [hclks] at ho20
  have hinlow : ∀ b, inV u b → b < w4.heap.size := fun b hb => Own.inLt ho4 hb
  have hgbu : ¬ inV u gb := fun h => by have := hinu gb h; omega
  have hru : ∀ b, inRw hs b → ¬ inV u b := fun b hb h => by
    have h1 := hinlow b h
    have h2 : w4.heap.size ≤ b := hr9.inD hb
    omega
  have hr20 : RowsO c (Fresh w4) w20 gb hs (gPlan j ch p t) := (hr9.keep0 hk919).keep hk20 hgbu hru
  obtain ⟨h, hh⟩ := idx_of_lt (show best < hs.length by rw [hr9.len, hgl]; exact hbest)
  have hown := hr20.own best h l hh hl
  have hz20 : w9.heap.size ≤ w20.heap.size := by have := hk919.size; omega
  refine s_slot hr20.at_ hbest hh ?_
  refine s_push F.sl_int (y := (t : Int)) hown rfl rfl rfl (by omega) (by omega) (fun q hq => by show w4.heap.size ≤ q; omega) fun h1 w22 ho22 hk22 hi22 => ?_
  refine hr20.put (k := best) hh hk22 ho22 (hgl t).symm hi22 fun w23 hr23 hk23 hs23 => ?_
  rw [← hsucc] at hr23
  have hinh : ∀ b, inV h b → w4.heap.size ≤ b ∧ b < w20.heap.size := fun b hb => ⟨hr20.inD (inRw_of hh hb), hr20.lt (inRw_of hh hb)⟩
  have ho23 : Ow (Fresh w3) c.t_farm_clock 2 eCl w23 u (clksL j ch p (gPlan j ch p (t + 1))) := (ho20.keep hk22 fun b hb h' => by have := hinlow b hb; have := (hinh b h').1; omega).keep hk23 fun b hb h' => hgbu (by rw [← h']; exact hb)
  refine ho23.sl.idx (sz := 2) eCl_len (clksL_get hbest) fun b98 o98 _ _ hc98 => s_off (s_ld (hc98 0 _ rfl) (s_max2 (s_add (by omega) (by omega) ?_)))
  have hfin : (clkP j ch p (gPlan j ch p (t + 1)) best).fin = ((runC j ch ⟨0, pr.mat⟩ l).go (jobAt j t) ch).fin := by
    rw [hsucc, clkP_set hpr hl, clkP_at hpr hl]
  have hlast : lastP j ch p (gPlan j ch p (t + 1)) = max (lastP j ch p (gPlan j ch p t)) (clkP j ch p (gPlan j ch p (t + 1)) best).fin := by
    rw [hfin]
    rcases last_set (j := j) (ch := ch) p (gPlan j ch p t) best pr l (t : Int) hpr hl with h' | h'
    · rw [hsucc]; exact h'
    · have h5 := clk_bd hok (p := p) (t := t + 1) (by omega) best
      rw [hfin] at h5; omega
  have := hnx9 (hs.set best h1) w23 htl ⟨?_, ho23, hr23⟩
  · rw [hlast] at this
    exact this
  · have e1 : Keep (fun b => b = gb ∨ inV u b) w4 w20 := (hk9.trans hk919.none).trans (hk20.mono fun b h => .inr h)
    exact (e1.new hk22 fun b hb => .inr (hinh b hb).1).trans (hk23.mono fun b h => .inl h)
end Go.Eng

/-! Contract: the reference's greedy plan. -/
namespace Go.Eng
open Go
variable {c : Cfg}

end Go.Eng

/-! Contracts: the reference's least late order. -/
namespace Go.Eng
open Go
variable {c : Cfg}

/-- minutes late of job i that ends so -/
def lateF (j : List Job) (i : Nat) (v : Int) : Int := if (jobAt j i).due < v then v - (jobAt j i).due else 0
theorem lateF_zero {j : List Job} {ch : Int} (hok : JOk j ch) (i : Nat) : lateF j i 0 = 0 := by
  unfold lateF
  rw [if_neg]
  have : 0 ≤ (jobAt j i).due := by
    by_cases h : i < j.length
    · exact (hok.due _ (jobAt_mem (by omega) (by omega))).1
    · unfold jobAt; rw [Int.toNat_natCast, List.getD, List.getElem?_eq_none (by omega)]; exact Int.le_refl _
  omega
theorem lateO_eq {j : List Job} {ch : Int} (hok : JOk j ch) (pr : Prn) {o : List Int} (hnd : o.Nodup) (hin : InJ j.length o) :
    sumF (lateF j) (endsO j ch [pr] [o]) = lateO j ch ⟨0, pr.mat⟩ o := by
  have hf : ([o] : Plan).flatten = o := by simp
  rw [ends_sumF (lateF j) (lateF_zero hok) (by simp) (by rw [hf]; exact hnd) (by rw [hf]; exact hin)]
  unfold lateO
  congr 1
  simp only [planPs, List.append_nil]
  unfold rowPs rowE
  apply List.map_congr_left
  rintro ⟨i, v⟩ hq
  have hi := hin i (List.of_mem_zip hq).1
  unfold lateF
  simp only
  rw [show ((i.toNat : Nat) : Int) = i from by omega]
  split <;> omega

def eS (s : ByteArray) : List Value := [.string s]
theorem eS_len : ∀ {l : List ByteArray}, ∀ x ∈ l, (eS x).length = 1 := fun _ _ => rfl

theorem sumF_snoc {j : List Job} {o : List Int} {i : Nat} {v : Int} (h : o[i]? = some v) : sumF (lateF j) (o.take (i + 1)) = sumF (lateF j) (o.take i) + lateF j i v := by
  have hi := lt_of_idx h
  unfold sumF
  rw [List.length_take, List.length_take, Nat.min_eq_left (by omega), Nat.min_eq_left (by omega), List.range_succ, List.map_append, sumL_app, List.map_cons, List.map_nil, sumL_one]
  congr 1
  · congr 1
    apply List.map_congr_left
    intro q hq
    have hq := List.mem_range.1 hq
    simp only [List.getD]
    rw [List.getElem?_take, List.getElem?_take, if_pos (by omega), if_pos hq]
  · simp only [List.getD]
    rw [List.getElem?_take, if_pos (by omega), h]; rfl
theorem lateF_bd {j : List Job} {i : Nat} {v : Int} (hd : 0 ≤ (jobAt j i).due) (hv : v ≤ 1000000000) (h0 : 0 ≤ v) : 0 ≤ lateF j i v ∧ lateF j i v ≤ 1000000000 := by
  unfold lateF; split <;> omega

def lateV : Option (List Int × Int) → Int
  | none => -1
  | some x => x.2
def BestO (D : Nat → Prop) (w : World) (bv : Value) : Option (List Int × Int) → Prop
  | none => bv = .slice none 0 0
  | some x => Sl D eI w bv x.1
theorem BestO.keep {D M : Nat → Prop} {w w' : World} {bv : Value} {st : Option (List Int × Int)} (h : BestO D w bv st) (k : Keep M w w') (hd : ∀ b, D b → ¬ M b) : BestO D w' bv st := by
  cases st with
  | none => exact h
  | some x => exact Sl.keep h k hd
theorem BestO.dom {D D' : Nat → Prop} {w : World} {bv : Value} {st : Option (List Int × Int)} (h : BestO D w bv st) (hd : ∀ b, D b → D' b) : BestO D' w bv st := by
  cases st with
  | none => exact h
  | some x => exact Sl.dom h hd

theorem lateO_nonneg (j : List Job) (ch : Int) (k : Clk) (o : List Int) : 0 ≤ lateO j ch k o := by
  unfold lateO
  have : ∀ l : List (Int × Int), 0 ≤ sumL (l.map fun q => max 0 (q.2 - (jobAt j q.1).due)) := by
    intro l
    induction l with
    | nil => simp [sumL]
    | cons x r ih =>
      have e : sumL ((x :: r).map fun q => max 0 (q.2 - (jobAt j q.1).due)) = max 0 (x.2 - (jobAt j x.1).due) + sumL (r.map fun q => max 0 (q.2 - (jobAt j q.1).due)) := rfl
      rw [e]; omega
  exact this _
theorem lateV_neg {st : Option (List Int × Int)} (h : ∀ x, st = some x → 0 ≤ x.2) : lateV st < 0 ↔ st = none := by
  cases st with
  | none => simp [lateV]
  | some x => have := h x rfl; simp [lateV]; omega
theorem updO_late {j : List Job} {ch : Int} {k : Clk} {st : Option (List Int × Int)} {o : List Int} (h : ∀ x, st = some x → 0 ≤ x.2) : ∀ x, updO j ch k st o = some x → 0 ≤ x.2 := fun x hx => by
  unfold updO at hx
  cases st with
  | none => cases hx; exact lateO_nonneg _ _ _ _
  | some y =>
    simp only at hx
    split at hx
    · cases hx; exact lateO_nonneg _ _ _ _
    · cases hx; exact h _ rfl

theorem filter_succ {n i : Nat} {q : Int → Bool} (h : i < n) : ((iotaI n).take (i + 1)).filter q = ((iotaI n).take i).filter q ++ (if q (i : Int) then [(i : Int)] else []) := by
  have : (iotaI n)[i]? = some (i : Int) := by unfold iotaI; rw [List.getElem?_map, List.getElem?_range h]; rfl
  rw [take_snoc this, List.filter_append]
  congr 1
  by_cases hq : q (i : Int) <;> simp [List.filter_cons, hq]

end Go.Eng

/-! Contracts: the program's least late order. -/
namespace Go.Eng
open Go
variable {c : Cfg}

theorem lateO_snoc {j : List Job} {ch : Int} {k : Clk} {o : List Int} {i : Nat} {x : Int} (h : o[i]? = some x) :
    lateO j ch k (o.take (i + 1)) = lateO j ch k (o.take i) + max 0 ((runC j ch k (o.take (i + 1))).fin - (jobAt j x).due) := by
  have hi := lt_of_idx h
  unfold lateO
  have : (o.take (i + 1)).zip (endsC j ch k (o.take (i + 1))) = (o.take i).zip (endsC j ch k (o.take i)) ++ [(x, (runC j ch k (o.take (i + 1))).fin)] := by
    rw [endsC_take h, take_snoc h, List.zip_append (by rw [endsC_len])]
    rfl
  rw [this, List.map_append, sumL_app]
  simp [sumL]

/-- what the program's search of orders holds -/
structure LP (c : Cfg) (pr : Prn) (j : List Job) (ch : Int) (bj bp bc bl bb : Nat) (D : Nat → Prop) (w : World) (bv : Value) (sv : Option (List Int × Int)) : Prop where
  atj : ∃ jv t, At w bj [jv] t ∧ Sl D eJb w jv j
  atp : ∃ t, At w bp (ePr pr) t
  atc : ∃ t, At w bc [vi ch] t
  atl : ∃ t, At w bl [vi (lateV sv)] t
  atb : ∃ t, At w bb [bv] t
  best_ : BestO D w bv sv
  late : ∀ x, sv = some x → 0 ≤ x.2
  ne : bl ≠ bb
  nd : ¬ D bl ∧ ¬ D bb
  dj : D bj ∧ D bp ∧ D bc
section
variable {pr : Prn} {j : List Job} {ch : Int} {bj bp bc bl bb : Nat} {D : Nat → Prop} {w w' : World} {bv : Value} {sv : Option (List Int × Int)}
theorem LP.keep {M : Nat → Prop} (h : LP c pr j ch bj bp bc bl bb D w bv sv) (k : Keep M w w') (hd : ∀ b, D b → ¬ M b) (hl : ¬ M bl) (hb : ¬ M bb) : LP c pr j ch bj bp bc bl bb D w' bv sv := by
  obtain ⟨⟨jv, t1, h1, h1'⟩, ⟨t2, h2⟩, ⟨t3, h3⟩, ⟨t4, h4⟩, ⟨t5, h5⟩, h7, h8, h9, h10, h11⟩ := h
  exact ⟨⟨jv, t1, h1.keep k (hd _ h11.1), h1'.keep k hd⟩, ⟨t2, h2.keep k (hd _ h11.2.1)⟩, ⟨t3, h3.keep k (hd _ h11.2.2)⟩, ⟨t4, h4.keep k hl⟩, ⟨t5, h5.keep k hb⟩, h7.keep k hd, h8, h9, h10, h11⟩
theorem LP.keep0 (h : LP c pr j ch bj bp bc bl bb D w bv sv) (k : Keep NoB w w') : LP c pr j ch bj bp bc bl bb D w' bv sv := h.keep k (fun _ _ h => h) (fun h => h) (fun h => h)
end

theorem LP.redom {pr : Prn} {j : List Job} {ch : Int} {bj bp bc bl bb : Nat} {D D' : Nat → Prop} {w : World} {bv : Value} {sv : Option (List Int × Int)} (h : LP c pr j ch bj bp bc bl bb D w bv sv) (hd : ∀ b, D b → b < w.heap.size → D' b) (hn : ¬ D' bl ∧ ¬ D' bb) :
    LP c pr j ch bj bp bc bl bb D' w bv sv := by
  obtain ⟨⟨jv, t1, h1, h1'⟩, ⟨t2, h2⟩, ⟨t3, h3⟩, ⟨t4, h4⟩, ⟨t5, h5⟩, h7, h8, h9, h10, h11⟩ := h
  refine ⟨⟨jv, t1, h1, h1'.old.dom fun b hb => hd b hb.1 hb.2⟩, ⟨t2, h2⟩, ⟨t3, h3⟩, ⟨t4, h4⟩, ⟨t5, h5⟩, ?_, h8, h9, hn, hd _ h11.1 h1.lt, hd _ h11.2.1 h2.lt, hd _ h11.2.2 h3.lt⟩
  cases sv with
  | none => exact h7
  | some x => exact (Sl.old h7).dom fun b hb => hd b hb.1 hb.2

/-- the blocks that the search of all orders writes -/
def OF (ob ua bl bb : Nat) (ov : Value) (b : Nat) : Prop := b = ob ∨ b = ua ∨ inV ov b ∨ b = bl ∨ b = bb

end Go.Eng

/-! Contracts: farm.orders and farm.LeastLate. -/
namespace Go.Eng
open Go
variable {c : Cfg}

end Go.Eng

/-! Contracts: what the stream draws for plans. -/
namespace Go.Eng
open Go
variable {c : Cfg}

section
variable {α : Type} {D : Nat → Prop} {e : TypeId} {sz : Nat} {enc : α → List Value} {w : World} {s : Value} {l : List α}
theorem Ow.place (ho : Ow D e sz enc w s l) {i : Nat} (hi : i < l.length) {k : Value → Prop} (h : ∀ b, inV s b → k (pb b (i * sz))) : idxP sz s (vi i) k := by
  obtain ⟨⟨h1, h2⟩, ⟨rfl, h3⟩ | ⟨b, cap, sp, rfl, h3, h4, h5, h6⟩⟩ := ho
  · omega
  refine s_idx (by omega) (by omega) ?_
  rw [Int.toNat_natCast, Nat.zero_add]
  exact h b rfl
theorem Ow.cellsAt (ho : Ow D e sz enc w s l) (hsz : ∀ x ∈ l, (enc x).length = sz) {i : Nat} {x : α} (hx : l[i]? = some x) {b : Nat} (hb : inV s b) : Cells w b (i * sz) (enc x) := by
  obtain ⟨⟨h1, h2⟩, ⟨rfl, h3⟩ | ⟨b', cap, sp, rfl, h3, h4, h5, h6⟩⟩ := ho
  · exact hb.elim
  cases hb
  have hi := lt_of_idx hx
  intro j u hj
  have hjs : j < sz := by rw [← hsz x (List.mem_of_getElem? hx)]; exact lt_of_idx hj
  have := flat_get l hsz i j x hx hjs
  rw [h4.cell, List.getElem?_append_left (by
    have := Nat.mul_le_mul_right sz (show i + 1 ≤ l.length by omega)
    rw [Nat.add_mul, Nat.one_mul] at this; omega), this]
  exact hj
/-- a field of an element that is changed -/
theorem Ow.stF (ho : Ow D e sz enc w s l) (hsz : ∀ x ∈ l, (enc x).length = sz) {i q o : Nat} {x y : α} {v : Value} (hx : l[i]? = some x) (hq : q < sz) (ho2 : o = i * sz + q) (hy : enc y = (enc x).set q v) (hone : Eng.one v = true) {b : Nat} (hb : inV s b) {K : World → Prop}
    (h : ∀ w', Ow D e sz enc w' s (l.set i y) → Keep (inV s) w w' → K w') : st (pb b o) v w K := by
  subst ho2
  obtain ⟨⟨h1, h2⟩, ⟨rfl, h3⟩ | ⟨b', cap, sp, rfl, h3, h4, h5, h6⟩⟩ := ho
  · exact hb.elim
  cases hb
  have hi := lt_of_idx hx
  have hxl := hsz x (List.mem_of_getElem? hx)
  have hle : i * sz + sz ≤ l.length * sz := by
    have := Nat.mul_le_mul_right sz (show i + 1 ≤ l.length by omega)
    rw [Nat.add_mul, Nat.one_mul] at this; exact this
  have hyl : (enc y).length = sz := by rw [hy, List.length_set, hxl]
  refine s_st h4 (by rw [List.length_append]; omega) hone fun w' g1 g4 g5 => ?_
  have hsz' : ∀ x ∈ l.set i y, (enc x).length = sz := fun x hx => by
    rcases List.mem_or_eq_of_mem_set hx with h | h
    · exact hsz x h
    · rw [h]; exact hyl
  have hl' := flat_len _ hsz'
  rw [List.length_set] at hl'
  have hcs : (l.flatMap enc ++ sp).set (i * sz + q) v = (l.set i y).flatMap enc ++ sp := by
    apply List.ext_getElem?
    intro j
    rw [List.getElem?_set]
    by_cases hj : j < l.length * sz
    · rw [List.getElem?_append_left (l₁ := (l.set i y).flatMap enc) (by omega), List.getElem?_append_left (l₁ := l.flatMap enc) (by omega), flat_set hsz (by omega) hi hyl]
      by_cases hjq : i * sz + q = j
      · rw [if_pos hjq, if_pos (by rw [List.length_append]; omega), if_pos (by omega), hy, List.getElem?_set, if_pos (by omega), if_pos (by omega)]
      · rw [if_neg hjq]
        by_cases hr : i * sz ≤ j ∧ j < i * sz + sz
        · rw [if_pos hr, hy, List.getElem?_set, if_neg (by omega)]
          have := flat_get l hsz i (j - i * sz) x hx (by omega)
          rw [← this]; congr 1; omega
        · rw [if_neg hr]
    · rw [if_neg (by omega), List.getElem?_append_right (by omega), List.getElem?_append_right (by omega), h1, hl']
  rw [hcs] at g1
  refine h w' ⟨⟨by rw [hl', List.length_set], by rw [List.length_set]; exact h2⟩, .inr ⟨b', cap, sp, by rw [List.length_set], h3, g1, ?_, by rw [List.length_set]; exact h6⟩⟩ (g4.mono fun i hi => hi.symm)
  rw [List.length_append, hl', ← h5, List.length_append, h1]
end

theorem SOk.drew {w : World} {sb k : Nat} (h : SOk c w sb k) : SOk c w.drew sb k := h.keep (keep_drew _ _)
def eSt (s : ByteArray) : List Value := [.string s]
theorem some_spec (E : Eqs c) {sb k : Nat} {w0 w : World} {lv : Value} {l : List ByteArray} (hne : l ≠ []) (hlen : l.length ≤ 1000000) (hl : Sl (Fresh w0) eSt w lv l) (hsb : sb < w0.heap.size) (hs : SOk c w sb (k + 1)) :
    Ret c.P c.f_p_blmake_Stream_Some #[pb sb 0, lv] w fun v w' => ∃ r : ByteArray, v = .string r ∧ SOk c w' sb k ∧ Keep (· = sb) w w' := by
  apply E.p_blmake_Stream_Some
  unfold wp_p_blmake_Stream_Some
  refine hl.len ?_
  have : 0 < l.length := List.length_pos_iff.2 hne
  refine (next_spec E sb k _ w (by omega) hs).mono ?_
  rintro v w' ⟨r, rfl, h4, _, h5, h6⟩
  have h4 := h4 (by omega)
  obtain ⟨i, rfl⟩ := Int.eq_ofNat_of_zero_le h4.1
  have hx := List.getElem?_eq_getElem (l := l) (i := i) (by omega)
  refine (hl.keep h6 fun b hb h => by have hb : w0.heap.size ≤ b := hb; omega).idx (sz := 1) (fun _ _ => rfl) hx ?_
  intro b o _ _ hc
  exact s_ldC0 hc ⟨_, rfl, h5, h6⟩

theorem lit_s3 (F : TyF c) {w : World} {a b d : ByteArray} {K : Value → World → Prop} (h : ∀ v w', Sl (Fresh w) eSt w' v [a, b, d] → Keep NoB w w' → K v w') :
    semP c.P (Instr.buildSlice c.t_sl_string 3 #[(0, .string a), (1, .string b), (2, .string d)]) w K := by
  obtain ⟨e, hT⟩ := F.sl_str
  exact s_lit (enc := eSt) hT [.string a, .string b, .string d] [a, b, d] rfl rfl rfl (fun y hy => rfl) (by omega) (by omega) fun _ _ hg hk _ => h _ _ hg.sl hk
theorem lit_s2 (F : TyF c) {w : World} {a b : ByteArray} {K : Value → World → Prop} (h : ∀ v w', Sl (Fresh w) eSt w' v [a, b] → Keep NoB w w' → K v w') :
    semP c.P (Instr.buildSlice c.t_sl_string 2 #[(0, .string a), (1, .string b)]) w K := by
  obtain ⟨e, hT⟩ := F.sl_str
  exact s_lit (enc := eSt) hT [.string a, .string b] [a, b] rfl rfl rfl (fun y hy => rfl) (by omega) (by omega) fun _ _ hg hk _ => h _ _ hg.sl hk
theorem lit_i2 (F : TyF c) {w : World} {a b : Int} {K : Value → World → Prop} (h : ∀ v w', Sl (Fresh w) eI w' v [a, b] → Keep NoB w w' → K v w') :
    semP c.P (Instr.buildSlice c.t_sl_int 2 #[(0, vi a), (1, vi b)]) w K :=
  s_lit (enc := eI) F.sl_int [vi a, vi b] [a, b] rfl rfl rfl (fun y hy => rfl) (by omega) (by omega) fun _ _ hg hk _ => h _ _ hg.sl hk

set_option maxHeartbeats 1000000 in
theorem prnList_spec (E : Eqs c) (F : TyF c) {sb k : Nat} {m : Int} {w : World} (hm : 1 ≤ m ∧ m ≤ 3) (hs : SOk c w sb (k + 20)) :
    Ret c.P c.f_p_blmake_Stream_PrinterList #[pb sb 0, vi m] w fun v w' => ∃ l : List Prn, (l.length : Int) ≤ m ∧ GrowS w sb c.t_api_Printer 2 ePr w' v l ∧ SOk c w' sb k := by
  obtain ⟨es, hTs⟩ := F.sl_str
  apply E.p_blmake_Stream_PrinterList
  unfold wp_p_blmake_Stream_PrinterList
  have hsb := hs.lt
  refine lit_s3 F fun v9 w1 h9 k1 => ?_
  have z1 := k1.size
  refine (range_spec E sb (k + 19) 1 m w1 hm.1 (by omega) (by omega) ((hs.keep k1).less (by omega))).mono ?_
  rintro v w2 ⟨r, rfl, hr1, hr2, hs2, k2⟩
  obtain ⟨n, rfl⟩ := Int.eq_ofNat_of_zero_le (show 0 ≤ r by omega)
  have hfr : ∀ b, Fresh w b → ¬ b = sb := fun b hb h => by have hb : w.heap.size ≤ b := hb; omega
  have h9' := h9.keep k2 hfr
  refine s_sliceHi hTs h9' (fun _ _ => rfl) (hi := n) (by show n ≤ 3; omega) fun v13 h13 => ?_
  have hln : ([Bs [112, 49], Bs [112, 50], Bs [112, 51]].take n).length = n := by rw [List.length_take]; show min n 3 = n; omega
  generalize [Bs [112, 49], Bs [112, 50], Bs [112, 51]].take n = ns at *
  refine h13.len ?_
  rw [hln]
  have k02 : Keep (· = sb) w w2 := k1.none.trans k2
  have hz2 := k02.size
  have h13 := h13.old
  refine s_for n (fun i (u : Value) => [u, vi i]) (fun i u w' => ∃ l : List Prn, l.length = i ∧ GrowS w2 sb c.t_api_Printer 2 ePr w' u l ∧ SOk c w' sb (k + (19 - i)) ∧ Sl (fun b => Fresh w b ∧ b < w2.heap.size) eSt w' v13 ns) (.slice none 0 0) rfl ⟨[], rfl, GrowS.nil, hs2, h13⟩ ?_
  rintro i u w3 j nx ⟨l, hl, hg, hs3, h13⟩ hin hnx
  have hsb2 : sb < w2.heap.size := by omega
  have hz3 := hg.keep.size
  refine s_lss (s_condD (fun hlt => ?_) fun hge => ?_)
  · have hil := ofInt_lt hlt
    obtain ⟨x, hx⟩ := idx_of_lt (show i < ns.length by omega)
    refine h13.idx (sz := 1) (fun _ _ => rfl) hx fun b o _ _ hc => s_ldC0 hc ?_
    refine lit_s3 F fun v22 w4 h22 k4 => ?_
    refine (some_spec E (k := k + (19 - (i + 1))) (by simp) (by simp) h22 (by omega) ((hs3.keep k4).less (by omega))).mono ?_
    rintro v w5 ⟨y, rfl, hs5, k5⟩
    refine s_build F.st_prn (cells := ePr ⟨x, y⟩) rfl ?_
    have k35 : Keep (· = sb) w3 w5 := k4.none.trans k5
    refine (hg.step hsb2 k35).push F.sl_prn (y := (⟨x, y⟩ : Prn)) rfl rfl rfl (by omega) (by omega) fun v' w7 hg7 k7 hi7 => ?_
    refine s_add (by omega) (by omega) (hnx v' w7 hil ⟨_, by simp [hl], hg7, hs5.keepM k7 fun b hb => by have := hg.fresh hb; omega, (h13.keep k35 fun b hb => hfr b hb.1).keep k7 fun b hb h => ?_⟩)
    have := hg.fresh h; have := hb.2; omega
  obtain rfl : i = n := by omega
  refine (flip_spec E sb (k + 10) 20 w3 (by omega) (hs3.less (by omega))).mono ?_
  rintro v w8 ⟨r8, rfl, hs8, k8⟩
  have hg8 := hg.step hsb2 k8
  refine s_joinM (fun _ w' => ∃ l : List Prn, l.length = i ∧ GrowS w2 sb c.t_api_Printer 2 ePr w' u l ∧ SOk c w' sb (k + 5)) (s_cond (fun _ => ?_) fun _ => ⟨l, hl, hg8, hs8.less (by omega)⟩) ?_
  · refine hg8.ow.len ?_
    refine (next_spec E sb (k + 9) _ w8 (by have := Own.bound hg8.ow; omega) hs8).mono ?_
    rintro v w10 ⟨q, rfl, hq, _, hs10, k10⟩
    have hq := hq (by omega)
    obtain ⟨q, rfl⟩ := Int.eq_ofNat_of_zero_le hq.1
    have hg10 := hg8.step hsb2 k10
    obtain ⟨x, hx⟩ := idx_of_lt (show q < l.length by omega)
    refine hg10.ow.place (by omega) fun b hb => ?_
    have hbb := hg10.fresh hb
    have hc := hg10.ow.cellsAt (fun _ _ => rfl) hx hb
    refine s_join (s_held (fun w' => Keep (· = sb) w10 w') ⟨(keep_drew _ _), s_nil (s_off (s_ldS (v := .string x.key) (fun w' h => (hc.keep h fun h' => by omega) 0 _ rfl) (s_nil (s_off (s_ldS (v := .string x.mat) (fun w' h => (hc.keep h fun h' => by omega) 1 _ rfl) ?_)))))⟩)
    have hfin : ∀ (w15 : World) (s1 s2 : ByteArray), Keep (· = sb) w10 w15 → SOk c w15 sb (k + 5) → nilP (pb b (q * 2)) fun v52 => offP 0 v52 fun v53 => st v53 (.string s1) w15 fun w16 => nilP (pb b (q * 2)) fun v54 => offP 1 v54 fun v55 => st v55 (.string s2) w16 fun w17 => ∀ _ : Nat → Value, ∃ l : List Prn, l.length = i ∧ GrowS w2 sb c.t_api_Printer 2 ePr w17 u l ∧ SOk c w17 sb (k + 5) := by
      intro w15 s1 s2 k15 hs15
      have hg15 := hg10.step hsb2 k15
      refine s_nil (s_off (hg15.ow.stF (fun _ _ => rfl) hx (q := 0) (by omega) rfl (y := ⟨s1, x.mat⟩) rfl rfl hb fun w16 o16 k16 => ?_))
      refine s_nil (s_off (o16.stF (fun _ _ => rfl) (i := q) (x := ⟨s1, x.mat⟩) (by rw [List.getElem?_set, if_pos rfl, if_pos (by omega)]) (q := 1) (by omega) rfl (y := ⟨s1, s2⟩) rfl rfl hb fun w17 o17 k17 => fun _ => ⟨_, by simp [hl], ⟨?_, o17⟩, ?_⟩))
      · exact hg15.keep.new (k16.trans k17) fun b' h => .inr (hg15.fresh h)
      · exact hs15.keepM (k16.trans k17) fun b' h => by have := hg15.fresh h; omega
    have hfr10 : ∀ {w' : World}, Keep (· = sb) w10 w' → sb < w'.heap.size := fun h => by have := h.size; have := hs10.lt; omega
    have dr : Keep (· = sb) w10 w10.drew := keep_drew _ _
    refine ⟨?_, ?_⟩
    · refine lit_s3 F fun v43 w12 h43 k12 => ?_
      have j12 := dr.trans k12.none
      refine ⟨j12, ?_, ?_⟩
      · refine (some_spec E (k := k + 8) (by simp) (by simp) h43 (hfr10 dr) (hs10.drew.keep k12)).mono ?_
        rintro v w13 ⟨s1, rfl, hs13, k13⟩
        have j13 := j12.trans k13
        refine ⟨j13, lit_s2 F fun v50 w14 h50 k14 => ⟨j13.trans k14.none, ?_⟩⟩
        refine (some_spec E (k := k + 7) (by simp) (by simp) h50 (hfr10 j13) (hs13.keep k14)).mono ?_
        rintro v w15 ⟨s2, rfl, hs15, k15⟩
        exact ⟨(j13.trans k14.none).trans k15, hfin _ _ _ ((j13.trans k14.none).trans k15) (hs15.less (by omega))⟩
      · refine lit_s2 F fun v50 w13 h50 k13 => ?_
        have j13 := j12.trans k13.none
        refine ⟨j13, ?_⟩
        refine (some_spec E (k := k + 8) (by simp) (by simp) (h43.keep0 k13) (hfr10 dr) ((hs10.drew.keep k12).keep k13)).mono ?_
        rintro v w14 ⟨s1, rfl, hs14, k14⟩
        refine ⟨j13.trans k14, ?_⟩
        refine (some_spec E (k := k + 7) (by simp) (by simp) (h50.keep k14 fun b hb h => by have hb : w12.heap.size ≤ b := hb; have := hfr10 j12; omega) (hfr10 j12) hs14).mono ?_
        rintro v w15 ⟨s2, rfl, hs15, k15⟩
        exact ⟨(j13.trans k14).trans k15, hfin _ _ _ ((j13.trans k14).trans k15) (hs15.less (by omega))⟩
    · refine lit_s2 F fun v50 w12 h50 k12 => ?_
      have j12 := dr.trans k12.none
      refine ⟨j12, lit_s3 F fun v43 w13 h43 k13 => ?_⟩
      have j13 := j12.trans k13.none
      refine ⟨j13, ?_⟩
      refine (some_spec E (k := k + 8) (by simp) (by simp) h43 (hfr10 j12) ((hs10.drew.keep k12).keep k13)).mono ?_
      rintro v w14 ⟨s1, rfl, hs14, k14⟩
      refine ⟨j13.trans k14, ?_⟩
      refine (some_spec E (k := k + 7) (by simp) (by simp) ((h50.keep0 k13).keep k14 fun b hb h => by have hb : w10.drew.heap.size ≤ b := hb; have := hfr10 dr; omega) (hfr10 dr) hs14).mono ?_
      rintro v w15 ⟨s2, rfl, hs15, k15⟩
      exact ⟨(j13.trans k14).trans k15, hfin _ _ _ ((j13.trans k14).trans k15) (hs15.less (by omega))⟩
  rintro vs j1 w9 ⟨l, hl, hg9, hs9⟩
  refine (flip_spec E sb (k + 4) 40 w9 (by omega) hs9).mono ?_
  rintro v w29 ⟨r29, rfl, hs29, k29⟩
  have hg29 := (hg9.step hsb2 k29).back k02
  refine s_join (s_cond (fun _ j3 => ⟨[], by simp; omega, ⟨hg29.keep, Ow.nil⟩, hs29.less (by omega)⟩) fun _ j3 => ⟨l, by omega, hg29, hs29.less (by omega)⟩)

theorem lit_s5 (F : TyF c) {w : World} {a b d e f : ByteArray} {K : Value → World → Prop} (h : ∀ v w', Sl (Fresh w) eSt w' v [a, b, d, e, f] → Keep NoB w w' → K v w') :
    semP c.P (Instr.buildSlice c.t_sl_string 5 #[(0, .string a), (1, .string b), (2, .string d), (3, .string e), (4, .string f)]) w K := by
  obtain ⟨e', hT⟩ := F.sl_str
  exact s_lit (enc := eSt) hT [.string a, .string b, .string d, .string e, .string f] [a, b, d, e, f] rfl rfl rfl (fun y hy => rfl) (by omega) (by omega) fun _ _ hg hk _ => h _ _ hg.sl hk
theorem pick_f (E : Eqs c) {sb k : Nat} {w0 w : World} {lv : Value} {l : List Int} (hne : l ≠ []) (hlen : l.length ≤ 1000000) (hl : Sl (Fresh w0) eI w lv l) (hsb : sb < w0.heap.size) (hs : SOk c w sb (k + 1)) :
    Ret c.P c.f_p_blmake_Stream_Pick #[pb sb 0, lv] w fun v w' => ∃ r : Int, v = vi r ∧ r ∈ l ∧ SOk c w' sb k ∧ Keep (· = sb) w w' :=
  pick_spec E sb k _ lv l w hne hlen (fun b hb h => by have hb : w0.heap.size ≤ b := hb; omega) hl hs

set_option maxHeartbeats 1000000 in
theorem jobList_spec (E : Eqs c) (F : TyF c) {sb k : Nat} {m : Int} {w : World} (hm : 0 ≤ m ∧ m ≤ 5) (hs : SOk c w sb (k + 40)) :
    Ret c.P c.f_p_blmake_Stream_JobList #[pb sb 0, vi m] w fun v w' => ∃ l : List Job, (l.length : Int) ≤ m ∧ GrowS w sb c.t_api_Job 4 eJb w' v l ∧ SOk c w' sb k := by
  obtain ⟨es, hTs⟩ := F.sl_str
  apply E.p_blmake_Stream_JobList
  unfold wp_p_blmake_Stream_JobList
  have hsb := hs.lt
  refine lit_s5 F fun v9 w1 h9 k1 => ?_
  have z1 := k1.size
  refine (range_spec E sb (k + 39) 0 m w1 hm.1 (by omega) (by omega) ((hs.keep k1).less (by omega))).mono ?_
  rintro v w2 ⟨r, rfl, hr1, hr2, hs2, k2⟩
  obtain ⟨n, rfl⟩ := Int.eq_ofNat_of_zero_le (show 0 ≤ r by omega)
  have hfr : ∀ b, Fresh w b → ¬ b = sb := fun b hb h => by have hb : w.heap.size ≤ b := hb; omega
  have h9' := h9.keep k2 hfr
  refine s_sliceHi hTs h9' (fun _ _ => rfl) (hi := n) (by show n ≤ 5; omega) fun v13 h13 => ?_
  have hln : ([Bs [106, 49], Bs [106, 50], Bs [106, 51], Bs [106, 52], Bs [106, 53]].take n).length = n := by rw [List.length_take]; show min n 5 = n; omega
  generalize [Bs [106, 49], Bs [106, 50], Bs [106, 51], Bs [106, 52], Bs [106, 53]].take n = ns at *
  refine h13.len ?_
  rw [hln]
  have k02 : Keep (· = sb) w w2 := k1.none.trans k2
  have hz2 := k02.size
  have h13 := h13.old
  refine s_for n (fun i (u : Value) => [u, vi i]) (fun i u w' => ∃ l : List Job, l.length = i ∧ GrowS w2 sb c.t_api_Job 4 eJb w' u l ∧ SOk c w' sb (k + (36 - 3 * i)) ∧ Sl (fun b => Fresh w b ∧ b < w2.heap.size) eSt w' v13 ns) (.slice none 0 0) rfl ⟨[], rfl, GrowS.nil, hs2.less (by omega), h13⟩ ?_
  rintro i u w3 j nx ⟨l, hl, hg, hs3, h13⟩ hin hnx
  have hsb2 : sb < w2.heap.size := by omega
  have hz3 := hg.keep.size
  refine s_lss (s_condD (fun hlt => ?_) fun hge => ?_)
  · have hil := ofInt_lt hlt
    obtain ⟨x, hx⟩ := idx_of_lt (show i < ns.length by omega)
    refine h13.idx (sz := 1) (fun _ _ => rfl) hx fun b o _ _ hc => s_ldC0 hc ?_
    refine lit_s3 F fun v22 w4 h22 k4 => ?_
    refine (some_spec E (k := k + (36 - 3 * (i + 1)) + 2) (by simp) (by simp) h22 (by omega) ((hs3.keep k4).less (by omega))).mono ?_
    rintro v w5 ⟨y, rfl, hs5, k5⟩
    have k35 : Keep (· = sb) w3 w5 := k4.none.trans k5
    refine s_lit (enc := eI) F.sl_int [vi 10, vi 20, vi 20, vi 30, vi 45] [10, 20, 20, 30, 45] rfl rfl rfl (fun y hy => rfl) (by omega) (by omega) fun _ w6 hg6 k6 _ => ?_
    refine (pick_f E (k := k + (36 - 3 * (i + 1)) + 1) (by simp) (by simp) hg6.sl hs5.lt (hs5.keep k6)).mono ?_
    rintro v w7 ⟨r1, rfl, _, hs7, k7⟩
    refine s_lit (enc := eI) F.sl_int [vi 0, vi 20, vi 40, vi 60, vi 100] [0, 20, 40, 60, 100] rfl rfl rfl (fun y hy => rfl) (by omega) (by omega) fun _ w8 hg8 k8 _ => ?_
    refine (pick_f E (k := k + (36 - 3 * (i + 1))) (by simp) (by simp) hg8.sl hs7.lt (hs7.keep k8)).mono ?_
    rintro v w9 ⟨r2, rfl, _, hs9, k9⟩
    refine s_build F.st_job (cells := eJb ⟨x, y, r1, r2⟩) rfl ?_
    have k39 : Keep (· = sb) w3 w9 := (((k35.trans k6.none).trans k7).trans k8.none).trans k9
    refine (hg.step hsb2 k39).push F.sl_job (y := (⟨x, y, r1, r2⟩ : Job)) rfl rfl rfl (by omega) (by omega) fun v' w11 hg11 k11 hi11 => ?_
    refine s_add (by omega) (by omega) (hnx v' w11 hil ⟨_, by simp [hl], hg11, hs9.keepM k11 fun b hb => by have := hg.fresh hb; omega, (h13.keep k39 fun b hb => hfr b hb.1).keep k11 fun b hb h => ?_⟩)
    have := hg.fresh h; have := hb.2; omega
  obtain rfl : i = n := by omega
  refine s_joinM (fun vs w' => ∃ r : Bool, vs = [.bool r] ∧ (r = true → 0 < i) ∧ GrowS w2 sb c.t_api_Job 4 eJb w' u l ∧ SOk c w' sb (k + 10)) (hg.ow.len (s_gtr (s_guardT (fun h => ?_) fun h => ⟨_, rfl, fun h' => (by cases h'), hg, hs3.less (by omega)⟩))) ?_
  · refine (flip_spec E sb (k + 10) 20 w3 (by omega) (hs3.less (by omega))).mono ?_
    rintro v w8 ⟨r8, rfl, hs8, k8⟩
    have h := of_decide_eq_true h
    exact ⟨r8, rfl, fun _ => by omega, hg.step hsb2 k8, hs8⟩
  rintro vs j1 w12 ⟨r12, rfl, hpos, hg8, hs8⟩
  refine s_joinM (fun _ w' => ∃ l : List Job, l.length = i ∧ GrowS w2 sb c.t_api_Job 4 eJb w' u l ∧ SOk c w' sb k) (s_cond (fun h => ?_) fun _ => ⟨l, hl, hg8, hs8.less (by omega)⟩) ?_
  · have hpos := hpos h
    refine hg8.ow.len ?_
    refine (next_spec E sb (k + 9) _ w12 (by have := Own.bound hg8.ow; omega) hs8).mono ?_
    rintro v w10 ⟨q, rfl, hq, _, hs10, k10⟩
    have hq := hq (by omega)
    obtain ⟨q, rfl⟩ := Int.eq_ofNat_of_zero_le hq.1
    have hg10 := hg8.step hsb2 k10
    obtain ⟨x, hx⟩ := idx_of_lt (show q < l.length by omega)
    refine hg10.ow.place (by omega) fun b hb => ?_
    have hbb := hg10.fresh hb
    have hc := hg10.ow.cellsAt (fun _ _ => rfl) hx hb
    refine s_join (s_held (fun w' => Keep (· = sb) w10 w') ⟨(keep_drew _ _), s_nil (s_off (s_ldS (v := .string x.key) (fun w' h => (hc.keep h fun h' => by omega) 0 _ rfl) (s_nil (s_off (s_ldS (v := vi x.due) (fun w' h => (hc.keep h fun h' => by omega) 3 _ rfl) ?_)))))⟩)
    have hfin : ∀ (w15 : World) (s1 : ByteArray) (m1 d1 : Int), Keep (· = sb) w10 w15 → SOk c w15 sb k → nilP (pb b (q * 4)) fun v52 => offP 0 v52 fun v53 => st v53 (.string s1) w15 fun w16 => nilP (pb b (q * 4)) fun v54 => offP 2 v54 fun v55 => st v55 (vi m1) w16 fun w17 => nilP (pb b (q * 4)) fun v54 => offP 3 v54 fun v55 => st v55 (vi d1) w17 fun w18 => ∀ _ : Nat → Value, ∃ l : List Job, l.length = i ∧ GrowS w2 sb c.t_api_Job 4 eJb w18 u l ∧ SOk c w18 sb k := by
      intro w15 s1 m1 d1 k15 hs15
      have hg15 := hg10.step hsb2 k15
      refine s_nil (s_off (hg15.ow.stF (fun _ _ => rfl) hx (q := 0) (by omega) rfl (y := ⟨s1, x.mat, x.mins, x.due⟩) rfl rfl hb fun w16 o16 k16 => ?_))
      refine s_nil (s_off (o16.stF (fun _ _ => rfl) (i := q) (x := ⟨s1, x.mat, x.mins, x.due⟩) (by rw [List.getElem?_set, if_pos rfl, if_pos (by omega)]) (q := 2) (by omega) rfl (y := ⟨s1, x.mat, m1, x.due⟩) rfl rfl hb fun w17 o17 k17 => ?_))
      refine s_nil (s_off (o17.stF (fun _ _ => rfl) (i := q) (x := ⟨s1, x.mat, m1, x.due⟩) (by rw [List.getElem?_set, if_pos rfl, if_pos (by rw [List.length_set]; omega)]) (q := 3) (by omega) rfl (y := ⟨s1, x.mat, m1, d1⟩) rfl rfl hb fun w18 o18 k18 => fun _ => ⟨_, by simp [hl], ⟨?_, o18⟩, ?_⟩))
      · exact hg15.keep.new ((k16.trans k17).trans k18) fun b' h => .inr (hg15.fresh h)
      · exact hs15.keepM ((k16.trans k17).trans k18) fun b' h => by have := hg15.fresh h; omega
    have hfr10 : ∀ {w' : World}, Keep (· = sb) w10 w' → sb < w'.heap.size := fun h => by have := h.size; have := hs10.lt; omega
    have dr : Keep (· = sb) w10 w10.drew := keep_drew _ _
    have kp : ∀ {α : Type} {enc : α → List Value} {wa w' w'' : World} {v : Value} {l : List α}, Sl (Fresh wa) enc w' v l → sb < wa.heap.size → Keep (· = sb) w' w'' → Sl (Fresh wa) enc w'' v l := fun h h1 k => h.keep k fun b hb h' => by have hb : _ ≤ b := hb; omega
    have hodd : ∀ {w' : World} {m : Nat}, SOk c w' sb (m + 2) → Ret c.P c.f_p_blmake_Stream_Odd #[pb sb 0, vi 1, vi 100000] w' fun v w'' => ∃ r : Int, v = vi r ∧ SOk c w'' sb m ∧ Keep (· = sb) w' w'' := fun h => odd_spec E F.toTyB (by omega) (by omega) (by omega) h
    refine ⟨?_, ?_⟩
    · refine lit_s3 F fun v55 w17 h55 k17 => ?_
      have j17 := dr.trans k17.none
      have s17 := hs10.drew.keep k17
      refine ⟨j17, ?_, ?_⟩
      · refine (some_spec E (k := k + 8) (by simp) (by simp) h55 (hfr10 dr) s17).mono ?_
        rintro v w18 ⟨s1, rfl, s18, k18⟩
        have j18 := j17.trans k18
        refine ⟨j18, ?_, ?_⟩
        · refine (hodd (m := k + 6) s18).mono ?_
          rintro v w19 ⟨m1, rfl, s19, k19⟩
          have j19 := j18.trans k19
          refine ⟨j19, lit_i2 F fun v64 w20 h64 k20 => ⟨j19.trans k20.none, ?_⟩⟩
          refine (pick_f E (k := k + 5) (by simp) (by simp) h64 (hfr10 j19) (s19.keep k20)).mono ?_
          rintro v w21 ⟨d1, rfl, _, s21, k21⟩
          exact ⟨(j19.trans k20.none).trans k21, hfin _ _ _ _ ((j19.trans k20.none).trans k21) (s21.less (by omega))⟩
        · refine lit_i2 F fun v64 w19 h64 k19 => ?_
          have j19 := j18.trans k19.none
          refine ⟨j19, (hodd (m := k + 6) (s18.keep k19)).mono ?_⟩
          rintro v w20 ⟨m1, rfl, s20, k20⟩
          refine ⟨j19.trans k20, (pick_f E (k := k + 5) (by simp) (by simp) (kp h64 (hfr10 j18) k20) (hfr10 j18) s20).mono ?_⟩
          rintro v w21 ⟨d1, rfl, _, s21, k21⟩
          exact ⟨(j19.trans k20).trans k21, hfin _ _ _ _ ((j19.trans k20).trans k21) (s21.less (by omega))⟩
      · refine lit_i2 F fun v64 w31 h64 k31 => ?_
        have j31 := j17.trans k31.none
        refine ⟨j31, (some_spec E (k := k + 8) (by simp) (by simp) (h55.keep0 k31) (hfr10 dr) (s17.keep k31)).mono ?_⟩
        rintro v w32 ⟨s1, rfl, s32, k32⟩
        have j32 := j31.trans k32
        refine ⟨j32, (hodd (m := k + 6) s32).mono ?_⟩
        rintro v w33 ⟨m1, rfl, s33, k33⟩
        have j33 := j32.trans k33
        refine ⟨j33, (pick_f E (k := k + 5) (by simp) (by simp) (kp (kp h64 (hfr10 j17) k32) (hfr10 j17) k33) (hfr10 j17) s33).mono ?_⟩
        rintro v w34 ⟨d1, rfl, _, s34, k34⟩
        exact ⟨j33.trans k34, hfin _ _ _ _ (j33.trans k34) (s34.less (by omega))⟩
    · refine lit_i2 F fun v64 w38 h64 k38 => ?_
      have j38 := dr.trans k38.none
      refine ⟨j38, lit_s3 F fun v55 w39 h55 k39 => ?_⟩
      have j39 := j38.trans k39.none
      refine ⟨j39, (some_spec E (k := k + 8) (by simp) (by simp) h55 (hfr10 j38) ((hs10.drew.keep k38).keep k39)).mono ?_⟩
      rintro v w32 ⟨s1, rfl, s32, k32⟩
      have j32 := j39.trans k32
      refine ⟨j32, (hodd (m := k + 6) s32).mono ?_⟩
      rintro v w33 ⟨m1, rfl, s33, k33⟩
      have j33 := j32.trans k33
      refine ⟨j33, (pick_f E (k := k + 5) (by simp) (by simp) (kp (kp (h64.keep0 k39) (hfr10 dr) k32) (hfr10 dr) k33) (hfr10 dr) s33).mono ?_⟩
      rintro v w34 ⟨d1, rfl, _, s34, k34⟩
      exact ⟨j33.trans k34, hfin _ _ _ _ (j33.trans k34) (s34.less (by omega))⟩
  rintro vs j2 w14 ⟨l, hl, hg9, hs9⟩
  exact ⟨l, by omega, hg9.back k02, hs9⟩
end Go.Eng

/-! The law on plans. -/
namespace Go.Eng
open Go
variable {c : Cfg}

theorem p_ex0 {a : Value} {r : List Value} {k : Value → Prop} (h : k a) : exP 0 (.tuple (a :: r).toArray) k := ⟨a, rfl, h⟩
theorem p_ex1 {a b : Value} {r : List Value} {k : Value → Prop} (h : k b) : exP 1 (.tuple (a :: b :: r).toArray) k := ⟨b, rfl, h⟩
theorem p_ex2 {a b d : Value} {r : List Value} {k : Value → Prop} (h : k d) : exP 2 (.tuple (a :: b :: d :: r).toArray) k := ⟨d, rfl, h⟩

theorem bs1_list (n : Nat) : (Bs [n]).data.toList = [UInt8.ofNat n] := rfl
theorem key_one {n : Nat} (h1 : UInt8.ofNat n ∈ smallL.data.toList) (h2 : UInt8.ofNat n ∈ keyL.data.toList) : keyP (Bs [n]) := by
  refine ⟨⟨Nat.le_refl 1, by show 1 ≤ 40; omega⟩, ⟨_, rfl, h1⟩, fun b hb => ?_⟩
  rw [bs1_list, List.mem_singleton] at hb
  rw [hb]; exact h2
theorem key_p : keyP (Bs [112]) := key_one (by decide) (by decide)
theorem key_a : keyP (Bs [97]) := key_one (by decide) (by decide)
theorem key_j : keyP (Bs [106]) := key_one (by decide) (by decide)
theorem key_b : keyP (Bs [98]) := key_one (by decide) (by decide)
theorem eqB_ab : eqB (Bs [97]) (Bs [98]) = false := by
  unfold eqB
  rw [ByteArray.toList_eq, ByteArray.toList_eq]
  decide

def fP : Prn := ⟨Bs [112], Bs [97]⟩
def fJ : Job := ⟨Bs [106], Bs [98], 20, 0⟩
theorem farmed_p : prnF [fP] = 0 := by
  have h : prnAt [fP] 0 = 0 := by
    show (if ¬ (keyP (Bs [112]) ∧ keyP (Bs [97])) then (5 : Int) else if 0 < 0 ∧ _ then 7 else 0) = 0
    rw [if_neg (fun h => h ⟨key_p, key_a⟩), if_neg (by omega)]
  unfold prnF
  rw [if_neg (by simp), if_neg (by simp)]
  exact firstNZ_all fun i hi => by
    have hi : i < 1 := by simpa using hi
    obtain rfl : i = 0 := by omega
    show some (prnAt [fP] 0) = some 0
    rw [h]
theorem farmed_j : jobF [fJ] = 0 := by
  have h : jobFA [fJ] 0 = 0 := by
    show (if ¬ (keyP (Bs [106]) ∧ keyP (Bs [98])) then (5 : Int) else if ¬ ((1 ≤ (20 : Int) ∧ (20 : Int) ≤ 100000) ∧ (0 ≤ (0 : Int) ∧ (0 : Int) ≤ 1000000000)) then 1 else if 0 < 0 ∧ _ then 7 else 0) = 0
    rw [if_neg (fun h => h ⟨key_j, key_b⟩), if_neg (by omega), if_neg (by omega)]
  unfold jobF
  rw [if_neg (by simp)]
  exact firstNZ_all fun i hi => by
    have hi : i < 1 := by simpa using hi
    obtain rfl : i = 0 := by omega
    show some (jobFA [fJ] 0) = some 0
    rw [h]
theorem farmed_f : plannedF [fP] [fJ] [[0]] 5 = 0 := by
  have hp : planF [fP] [fJ] [[0]] = 0 := by
    unfold planF
    rw [farmed_p, farmed_j, if_neg (by simp), if_neg (by simp)]
    have : firstNZ ((List.range ([[0]] : Plan).flatten.length).map (ixAt [fJ].length ([[0]] : Plan).flatten)) = 0 := by decide
    rw [if_neg (by rw [this]; simp), if_neg (by simp)]
  unfold plannedF
  rw [if_neg (by rw [hp]; simp), if_pos (by omega)]
theorem farmed_row : rowE [fJ] 5 fP [0] = [25] := by
  show [((⟨0, Bs [97]⟩ : Clk).go (jobAt [fJ] 0) 5).fin] = [25]
  have : (Clk.go ⟨0, Bs [97]⟩ (jobAt [fJ] 0) 5).fin = 0 + (if eqB (Bs [97]) (Bs [98]) then 0 else 5) + 20 := rfl
  rw [this, eqB_ab]; rfl
theorem farmed_last : lastP [fJ] 5 [fP] [[0]] = 25 := by
  show max (mxL (rowE [fJ] 5 fP [0])) 0 = 25
  rw [farmed_row]; rfl
theorem farmed_ends : endsO [fJ] 5 [fP] [[0]] = [25] := by
  show wrO [0] (([0] : List Int).zip (rowE [fJ] 5 fP [0]) ++ []) = [25]
  rw [farmed_row]; rfl

end Go.Eng

/-! The law on plans. -/
namespace Go.Eng
open Go
variable {c : Cfg}

theorem or_two (E : Eqs c) (B : TyB c) {a b : Int} {w : World} {K : Value → World → Prop} (h : ∀ w', Keep NoB w w' → K (vi (if a ≠ 0 then a else b)) w') :
    semP c.P (Instr.buildSlice c.t_sl_api_Errno 2 #[(0, vi a), (1, vi b)]) w fun v w1 => Ret c.P c.f_cmp_Or_api_Errno #[v] w1 K := by
  obtain ⟨e, hT⟩ := B.sl_errno
  refine s_lit (enc := eI) hT [vi a, vi b] [a, b] rfl rfl rfl (fun y hy => rfl) (by omega) (by omega) fun _ w1 hg hk _ => ?_
  refine (or_spec E _ _ _ w1 hg.sl).mono ?_
  rintro v w2 ⟨hw, rfl⟩
  have hw := hw.symm
  subst hw
  have : firstNZ [a, b] = if a ≠ 0 then a else b := by
    simp only [firstNZ]
    by_cases ha : a ≠ 0
    · rw [if_pos ha, if_pos ha]
    · rw [if_neg ha, if_neg ha]
      by_cases hb : b ≠ 0
      · rw [if_pos hb]
      · rw [if_neg hb]; omega
  rw [this]
  exact h _ hk

theorem farmF_or (p : List Prn) (j : List Job) (ch : Int) :
    (if (if prnF p ≠ 0 then prnF p else jobF j) ≠ 0 then (if prnF p ≠ 0 then prnF p else jobF j) else if 0 ≤ ch ∧ ch ≤ 100000 then 0 else 1) = farmF p j ch := by
  unfold farmF
  by_cases h1 : prnF p ≠ 0
  · rw [if_pos h1, if_pos h1, if_pos h1]
  · rw [if_neg h1, if_neg h1]

theorem farmF_ok {p : List Prn} {j : List Job} {ch : Int} (h : farmF p j ch = 0) : JOk j ch ∧ 0 < p.length ∧ p.length ≤ 50 := by
  unfold farmF at h
  by_cases h1 : prnF p ≠ 0
  · rw [if_pos h1] at h; exact absurd h h1
  · rw [if_neg h1] at h
    by_cases h2 : jobF j ≠ 0
    · rw [if_pos h2] at h; exact absurd h h2
    · rw [if_neg h2] at h
      by_cases h3 : 0 ≤ ch ∧ ch ≤ 100000
      · exact ⟨jOk_of (by omega) h3, prnF_ok (by omega)⟩
      · rw [if_neg h3] at h; omega

theorem bestO_sl {D : Nat → Prop} {w : World} {bv : Value} {sv : Option (List Int × Int)} (h : BestO D w bv sv) : Sl D eI w bv ((sv.map (·.1)).getD []) := by
  cases sv with
  | none => have h : bv = .slice none 0 0 := h; subst h; exact Sl.nil
  | some x => exact h

end Go.Eng

