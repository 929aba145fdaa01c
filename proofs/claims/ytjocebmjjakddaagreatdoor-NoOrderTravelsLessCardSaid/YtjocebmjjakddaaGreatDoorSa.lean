/- Part of a proof: the law NoOrderTravelsLess gives true for every list of integers and leaves its argument as it was; there are no conditions beyond those that the given row states. -/
import Derived.Test.YtjocebmjjakddaaGreatDoorWp
import Derived.Test.YtjocebmjjakddaaGreatDoorLib
set_option linter.unusedVariables false
set_option linter.unusedSimpArgs false
/-! Contracts: the stream of numbers. -/
namespace Go.Eng
open Go
variable {c : Cfg}

def eI (n : Int) : List Value := [vi n]

/-- the type rows of this program that many proofs use -/
structure TyB (c : Cfg) : Prop where
  sl_int : SliceT c.P c.t_sl_int c.t_int 1 8 [vi 0]
  sl_bool : ∃ e, SliceT c.P c.t_sl_bool e 1 1 [.bool false]
  st_stream : StructT c.P c.t_blmake_Stream [(0, 1), (1, 1)] [.slice none 0 0, vi 0]

def BelowSpec (c : Cfg) : Prop := ∀ (x n : Int) (w : World), n ≤ 9223372036854775807 → -9223372036854775808 ≤ x → x ≤ 9223372036854775807 →
  Ret c.P c.f_blmake_Below #[vi x, vi n] w fun v w' => w' = w ∧ ∃ r : Int, v = vi r ∧ (1 ≤ n → 0 ≤ r ∧ r < n) ∧ (n < 1 → r = 0)

theorem below_spec (E : Eqs c) : BelowSpec c := by
  intro x n w hn hx1 hx2
  apply E.blmake_Below
  unfold wp_blmake_Below
  refine s_lss (s_condD (fun h => ⟨rfl, 0, rfl, fun _ => by omega, fun _ => rfl⟩) fun h => ?_)
  refine s_rem (by omega) ?_
  have h1 := Int.tmod_lt_of_pos x (b := n) (by omega)
  have h2 := Int.lt_tmod_of_pos x (b := n) (by omega)
  refine s_lss (s_join (s_condD (fun h3 => ?_) fun h3 => ?_))
  · refine s_add (by omega) (by omega) ?_
    intro j
    exact ⟨rfl, _, rfl, fun _ => by omega, fun _ => by omega⟩
  · intro j
    exact ⟨rfl, _, rfl, fun _ => by omega, fun _ => by omega⟩

/-- the stream: its numbers, and how many draws it can still bear -/
def SOk (c : Cfg) (w : World) (sb : Nat) (k : Nat) : Prop :=
  ∃ (lv : Value) (l : List Int) (at_ : Int), At w sb [lv, vi at_] c.t_blmake_Stream ∧ Sl (· < sb) eI w lv l ∧
    (∀ x ∈ l, -9223372036854775808 ≤ x ∧ x ≤ 9223372036854775807) ∧ 0 ≤ at_ ∧ at_ + k ≤ 4611686018427387904

theorem SOk.keep {w w' : World} {sb k : Nat} (h : SOk c w sb k) (hk : Keep NoB w w') : SOk c w' sb k := by
  obtain ⟨lv, l, a, h1, h2, h3, h4⟩ := h
  exact ⟨lv, l, a, h1.keep0 hk, h2.keep0 hk, h3, h4⟩

theorem SOk.keepM {w w' : World} {sb k : Nat} {M : Nat → Prop} (h : SOk c w sb k) (hk : Keep M w w') (hm : ∀ b, M b → sb < b) : SOk c w' sb k := by
  obtain ⟨lv, l, a, h1, h2, h3, h4⟩ := h
  exact ⟨lv, l, a, h1.keep hk fun h => by have := hm _ h; omega, h2.keep hk fun b hb h => by have hb : b < sb := hb; have := hm _ h; omega, h3, h4⟩

theorem SOk.less {w : World} {sb k k' : Nat} (h : SOk c w sb k) (hk : k' ≤ k) : SOk c w sb k' := by
  obtain ⟨lv, l, a, h1, h2, h3, h4, h5⟩ := h
  exact ⟨lv, l, a, h1, h2, h3, h4, by omega⟩

theorem SOk.lt {w : World} {sb k : Nat} (h : SOk c w sb k) : sb < w.heap.size := by
  obtain ⟨lv, l, a, h1, _⟩ := h
  exact h1.lt

def NextSpec (c : Cfg) : Prop := ∀ (sb k : Nat) (n : Int) (w : World), n ≤ 9223372036854775807 → SOk c w sb (k + 1) →
  Ret c.P c.f_p_blmake_Stream_Next #[pb sb 0, vi n] w fun v w' => ∃ r : Int, v = vi r ∧ (1 ≤ n → 0 ≤ r ∧ r < n) ∧ (n < 1 → r = 0) ∧ SOk c w' sb k ∧ Keep (· = sb) w w'

theorem next_spec (E : Eqs c) : NextSpec c := by
  intro sb k n w hn ⟨lv, l, at_, hat, hsl, hl, ha0, ha1⟩
  have hB := below_spec E
  apply E.p_blmake_Stream_Next
  unfold wp_p_blmake_Stream_Next
  refine s_nil (s_off (s_ldAt hat rfl ?_))
  refine s_add (by omega) (by omega) ?_
  refine s_nil (s_off (s_st hat (by simp) rfl ?_))
  intro w1 hat1 hk1 _
  simp only [List.set_cons_succ, List.set_cons_zero, Nat.zero_add] at hat1
  have hsl1 : Sl (· < sb) eI w1 lv l := hsl.keep hk1 fun b h e => by have h : b < sb := h; omega
  have hfin : ∀ w', Keep NoB w1 w' → SOk c w' sb k ∧ Keep (· = sb) w w' := fun w' hk =>
    ⟨⟨lv, l, at_ + 1, hat1.keep0 hk, hsl1.keep0 hk, hl, by omega, by omega⟩, hk1.trans hk.none⟩
  refine s_nil (s_off (s_ldAt hat1 rfl ?_))
  refine hsl1.len (s_eql (s_condD (fun h0 => ?_) fun h0 => ?_))
  · refine s_nil (s_off (s_ldAt hat1 rfl ?_))
    refine s_mulw ?_
    refine (hB _ n w1 hn (wr_lo _) (wr_hi _)).mono ?_
    rintro v w' ⟨rfl, r, rfl, h1, h2⟩
    exact ⟨r, rfl, h1, h2, hfin _ (Keep.refl _ _)⟩
  · have hlen : 0 < l.length := by
      rcases Nat.eq_zero_or_pos l.length with h | h
      · exact absurd (by rw [h]; rfl) h0
      · exact h
    refine s_nil (s_off (s_ldAt hat1.drew rfl ?_))
    refine s_sub (by omega) (by omega) ?_
    refine s_nil (s_off (s_ldAt hat1.drew rfl ?_))
    refine hsl1.len (s_rem (by omega) ?_)
    refine s_nil (s_off (s_ldAt hat1.drew.drew rfl ?_))
    refine s_sub (by omega) (by omega) ?_
    refine s_nil (s_off (s_ldAt hat1.drew.drew rfl ?_))
    refine hsl1.len (s_quow (by omega) ?_)
    refine s_nil (s_off (s_ldAt hat1.drew.drew rfl ?_))
    have hr : ∃ i : Nat, (at_ + 1 - 1).tmod (l.length : Int) = i ∧ i < l.length := by
      have h1 := Int.tmod_nonneg (l.length : Int) (show 0 ≤ at_ + 1 - 1 by omega)
      have h2 := Int.tmod_lt_of_pos (at_ + 1 - 1) (b := (l.length : Int)) (by omega)
      exact ⟨((at_ + 1 - 1).tmod l.length).toNat, by omega, by omega⟩
    obtain ⟨i, hi, hil⟩ := hr
    rw [hi]
    have hx := List.getElem?_eq_getElem hil
    generalize l[i] = x at hx
    have hxb := hl x (List.mem_of_getElem? hx)
    refine hsl1.drew.drew.idx (sz := 1) (fun _ _ => rfl) hx ?_
    intro b o _ _ hc
    refine s_ldC0 hc ?_
    refine (hB _ _ _ (by omega) hxb.1 hxb.2).mono ?_
    rintro v w' ⟨rfl, r, rfl, h1, h2⟩
    refine s_addw (s_mulw (s_addw ?_))
    refine (hB _ n _ hn (wr_lo _) (wr_hi _)).mono ?_
    rintro v w' ⟨rfl, r, rfl, h1, h2⟩
    exact ⟨r, rfl, h1, h2, hfin _ ((keep_drew _ _).drew)⟩

/-- a call that draws at most k numbers -/
def Dr (c : Cfg) (sb k : Nat) (w w' : World) : Prop := (∀ m, SOk c w sb (m + k) → SOk c w' sb m) ∧ Keep (· = sb) w w'

def FlipSpec (c : Cfg) : Prop := ∀ (sb k : Nat) (n : Int) (w : World), n ≤ 9223372036854775807 → SOk c w sb (k + 1) →
  Ret c.P c.f_p_blmake_Stream_Flip #[pb sb 0, vi n] w fun v w' => ∃ r : Bool, v = .bool r ∧ SOk c w' sb k ∧ Keep (· = sb) w w'

theorem flip_spec (E : Eqs c) : FlipSpec c := by
  intro sb k n w hn hs
  apply E.p_blmake_Stream_Flip
  unfold wp_p_blmake_Stream_Flip
  refine (next_spec E sb k n w hn hs).mono ?_
  rintro v w' ⟨r, rfl, _, _, h3, h4⟩
  exact s_eql ⟨_, rfl, h3, h4⟩

def RangeSpec (c : Cfg) : Prop := ∀ (sb k : Nat) (lo hi : Int) (w : World), lo ≤ hi → -1000000000000000 ≤ lo → hi ≤ 1000000000000000 → SOk c w sb (k + 1) →
  Ret c.P c.f_p_blmake_Stream_Range #[pb sb 0, vi lo, vi hi] w fun v w' => ∃ r : Int, v = vi r ∧ lo ≤ r ∧ r ≤ hi ∧ SOk c w' sb k ∧ Keep (· = sb) w w'

theorem range_spec (E : Eqs c) : RangeSpec c := by
  intro sb k lo hi w h1 h2 h3 hs
  apply E.p_blmake_Stream_Range
  unfold wp_p_blmake_Stream_Range
  refine s_lss (s_condD (fun h => by omega) fun _ => ?_)
  refine s_sub (by omega) (by omega) (s_add (by omega) (by omega) ?_)
  refine (next_spec E sb k _ w (by omega) hs).mono ?_
  rintro v w' ⟨r, rfl, h4, _, h5, h6⟩
  have := h4 (by omega)
  exact s_add (by omega) (by omega) ⟨_, rfl, by omega, by omega, h5, h6⟩

def PickSpec (c : Cfg) : Prop := ∀ (sb k : Nat) (D : Nat → Prop) (lv : Value) (l : List Int) (w : World), l ≠ [] → l.length ≤ 1000000 → (∀ b, D b → b ≠ sb) → Sl D eI w lv l → SOk c w sb (k + 1) →
  Ret c.P c.f_p_blmake_Stream_Pick #[pb sb 0, lv] w fun v w' => ∃ r : Int, v = vi r ∧ r ∈ l ∧ SOk c w' sb k ∧ Keep (· = sb) w w'

theorem pick_spec (E : Eqs c) : PickSpec c := by
  intro sb k D lv l w hne hlen hD hl hs
  apply E.p_blmake_Stream_Pick
  unfold wp_p_blmake_Stream_Pick
  refine hl.len ?_
  have : 0 < l.length := List.length_pos_iff.2 hne
  refine (next_spec E sb k _ w (by omega) hs).mono ?_
  rintro v w' ⟨r, rfl, h4, _, h5, h6⟩
  have h4 := h4 (by omega)
  obtain ⟨i, rfl⟩ := Int.eq_ofNat_of_zero_le h4.1
  have hx := List.getElem?_eq_getElem (l := l) (i := i) (by omega)
  refine (hl.keep h6 hD).idx (sz := 1) (fun _ _ => rfl) hx ?_
  intro b o _ _ hc
  exact s_ldC0 hc ⟨_, rfl, List.getElem_mem _, h5, h6⟩

end Go.Eng

/-! Contracts: small functions. -/
namespace Go.Eng
open Go
variable {c : Cfg}

/-- the first number that is not 0 -/
def firstNZ : List Int → Int
  | [] => 0
  | x :: r => if x ≠ 0 then x else firstNZ r

theorem firstNZ_skip {l : List Int} {i : Nat} (h : ∀ j, j < i → l[j]? = some 0) : firstNZ l = firstNZ (l.drop i) := by
  induction i generalizing l with
  | zero => rfl
  | succ i ih =>
    cases l with
    | nil => simp
    | cons x r =>
      have := h 0 (by omega)
      simp at this
      subst this
      rw [List.drop_succ_cons, ← ih fun j hj => by simpa using h (j + 1) (by omega)]
      simp [firstNZ]

theorem firstNZ_at {l : List Int} {i : Nat} {x : Int} (h : ∀ j, j < i → l[j]? = some 0) (hx : l[i]? = some x) (hne : x ≠ 0) : firstNZ l = x := by
  rw [firstNZ_skip h]
  cases hd : l.drop i with
  | nil => rw [List.drop_eq_nil_iff] at hd; rw [List.getElem?_eq_none hd] at hx; cases hx
  | cons y r =>
    have : (l.drop i)[0]? = some x := by rw [List.getElem?_drop]; exact hx
    rw [hd] at this
    simp at this
    subst this
    simp [firstNZ, hne]

theorem firstNZ_all {l : List Int} (h : ∀ j, j < l.length → l[j]? = some 0) : firstNZ l = 0 := by
  rw [firstNZ_skip (i := l.length) h]; simp [firstNZ]

def InSpec (c : Cfg) : Prop := ∀ (n lo hi : Int) (w : World), Ret c.P c.f_blref1_in #[vi n, vi lo, vi hi] w fun v w' => w' = w ∧ v = .bool (decide (lo ≤ n ∧ n ≤ hi))

theorem in_spec (E : Eqs c) : InSpec c := by
  intro n lo hi w
  apply E.blref1_in
  unfold wp_blref1_in
  refine s_join (s_leq (s_guardT (fun h => s_leq ?_) fun h => ?_))
  · intro j; exact ⟨rfl, by simp at h; simp [h]; rfl⟩
  · intro j; exact ⟨rfl, by simp at h; simp [g]; omega⟩

def OutsideSpec (c : Cfg) : Prop := ∀ (n lo hi : Int) (w : World), Ret c.P c.f_kit_Outside #[vi n, vi lo, vi hi] w fun v w' => w' = w ∧ v = .bool (decide (n < lo ∨ hi < n))

theorem outside_spec (E : Eqs c) : OutsideSpec c := by
  intro n lo hi w
  apply E.kit_Outside
  unfold wp_kit_Outside
  refine s_join (s_lss (s_guardF (fun h => s_gtr ?_) fun h => ?_))
  · intro j; exact ⟨rfl, by simp at h; simp [g]; omega⟩
  · intro j; exact ⟨rfl, by simp at h; simp [g]; omega⟩

theorem ofInt_lt {i n : Nat} (h : (i : Int) < n) : i < n := by omega

/-- a function value tells what p tells, of what is encoded so -/
def Tells {α : Type} (P : Program) (fv : Value) (ar : α → Value) (p : α → Bool) (w : World) : Prop :=
  ∀ (x : α) (w' : World), Keep NoB w w' → callV P fv #[ar x] w' fun v w'' => Keep NoB w' w'' ∧ v = .bool (p x)

end Go.Eng

/-! Contracts: lists of numbers; what is drawn. -/
namespace Go.Eng
open Go
variable {c : Cfg}

theorem eI_len : ∀ {l : List Int}, ∀ x ∈ l, (eI x).length = 1 := fun _ _ => rfl

theorem fnz_at {m i : Nat} {f : Nat → Int} (h : ∀ j, j < i → f j = 0) (hi : i < m) (hne : f i ≠ 0) : firstNZ ((List.range m).map f) = f i := by
  refine firstNZ_at (i := i) (fun j hj => ?_) ?_ hne
  · rw [List.getElem?_map, List.getElem?_range (by omega)]; simp [h j hj]
  · rw [List.getElem?_map, List.getElem?_range hi]; rfl

theorem fnz_all {m : Nat} {f : Nat → Int} (h : ∀ j, j < m → f j = 0) : firstNZ ((List.range m).map f) = 0 := by
  refine firstNZ_all fun j hj => ?_
  rw [List.length_map, List.length_range] at hj
  rw [List.getElem?_map, List.getElem?_range hj]; simp [h j hj]

/-- a row of booleans that tells which numbers occurred -/
def Seen (w : World) (b n : Nat) (e : Nat) (p : Nat → Bool) : Prop := At w b ((List.range n).map fun k => Value.bool (p k)) e

theorem Seen.get {w : World} {b n e : Nat} {p : Nat → Bool} (h : Seen w b n e p) {i : Nat} (hi : i < n) {k : Value → Prop} (hk : k (.bool (p i))) : ld (pb b (0 + i * 1)) w k :=
  s_ldAt h (by rw [List.getElem?_map, List.getElem?_range (by omega)]; simp) hk

theorem Seen.put {w : World} {b n e : Nat} {p : Nat → Bool} (h : Seen w b n e p) {i : Nat} (hi : i < n) {k : World → Prop}
    (hk : ∀ w', Seen w' b n e (fun j => decide (j = i) || p j) → Keep (· = b) w w' → w'.heap.size = w.heap.size → k w') : st (pb b (0 + i * 1)) (.bool true) w k := by
  refine s_st h (by simp; omega) rfl fun w' h1 h2 h3 => hk w' ?_ h2 h3
  have : ((List.range n).map fun k => Value.bool (p k)).set (0 + i * 1) (.bool true) = (List.range n).map fun k => Value.bool (decide (k = i) || p k) := by
    apply List.ext_getElem?
    intro j
    rw [List.getElem?_set, List.getElem?_map, List.getElem?_map]
    by_cases hj : j < n
    · rw [List.getElem?_range hj]
      by_cases hji : 0 + i * 1 = j
      · rw [if_pos hji, if_pos (by simp; omega)]
        have : j = i := by omega
        simp [this]
      · rw [if_neg hji]
        have : j ≠ i := by omega
        simp [this]
    · rw [List.getElem?_eq_none (l := List.range n) (by simp; omega), if_neg (by omega)]
      rfl
  unfold Seen
  rw [← this]; exact h1

theorem seen_new {w : World} {b n e : Nat} (h : At w b ((List.replicate n [Value.bool false]).flatten) e) : Seen w b n e fun _ => false := by
  have : (List.replicate n [Value.bool false]).flatten = (List.range n).map fun _ => Value.bool false := by
    apply List.ext_getElem?
    intro j
    rw [List.getElem?_map]
    have e1 : (List.replicate n [Value.bool false]).flatten = List.replicate n (Value.bool false) := by
      induction n with
      | zero => rfl
      | succ n ih => simp [List.replicate_succ]
    rw [e1]
    by_cases hj : j < n
    · rw [List.getElem?_range hj, List.getElem?_replicate]; simp [hj]
    · rw [List.getElem?_eq_none (by simp; omega), List.getElem?_eq_none (by simp; omega)]; rfl
  unfold Seen
  rw [← this]; exact h

theorem list_ne {α : Type} {a b : List α} {i : Nat} {x y : α} (h1 : a[i]? = some x) (h2 : b[i]? = some y) (h : x ≠ y) : a ≠ b := fun he => by
  rw [he, h2] at h1; exact h (Option.some.inj h1).symm

theorem list_eq {α : Type} {a b : List α} (hl : a.length = b.length) (h : ∀ j, j < a.length → a[j]? = b[j]?) : a = b := by
  apply List.ext_getElem?
  intro j
  by_cases hj : j < a.length
  · exact h j hj
  · rw [List.getElem?_eq_none (by omega), List.getElem?_eq_none (by omega)]

theorem s_fld1 {off : Nat} {vs : List Value} {v : Value} {k : Value → Prop} (hv : vs[off]? = some v) (h : k v) : fld1 off (.agg vs.toArray) k := ⟨v, by simpa using hv, h⟩

/-- a row of single cells -/
theorem s_slot {w : World} {b n cap i : Nat} {L : List Value} {ty : TypeId} {v : Value} {k : Value → Prop} (ha : At w b L ty) (hi : i < n) (hv : L[i]? = some v) (h : k v) :
    idxP 1 (.slice (some ⟨b, 0, none⟩) n cap) (vi i) fun p => ld p w k := by
  refine s_idx (by omega) (by omega) ?_
  rw [Int.toNat_natCast, Nat.mul_one, Nat.zero_add]
  exact s_ldAt ha hv h

theorem s_slotS {S : World → Prop} {b n cap i : Nat} {L : List Value} {ty : TypeId} {v : Value} {k : Value → Prop} (ha : ∀ w, S w → At w b L ty) (hi : i < n) (hv : L[i]? = some v) (h : k v) :
    idxP 1 (.slice (some ⟨b, 0, none⟩) n cap) (vi i) fun p => ldS S p k := by
  refine s_idx (by omega) (by omega) ?_
  rw [Int.toNat_natCast, Nat.mul_one, Nat.zero_add]
  exact s_ldS (fun w hS => by rw [(ha w hS).cell]; exact hv) h

theorem s_slotSt {w : World} {b n cap i : Nat} {L : List Value} {ty : TypeId} {v : Value} {k : World → Prop} (ha : At w b L ty) (hi : i < n) (hl : i < L.length) (hv : Eng.one v = true)
    (h : ∀ w', At w' b (L.set i v) ty → Keep (· = b) w w' → w'.heap.size = w.heap.size → k w') : idxP 1 (.slice (some ⟨b, 0, none⟩) n cap) (vi i) fun p => st p v w k := by
  refine s_idx (by omega) (by omega) ?_
  rw [Int.toNat_natCast, Nat.mul_one, Nat.zero_add]
  exact s_st ha hl hv h

theorem rep_flat (n : Nat) (v : Value) : (List.replicate n [v]).flatten = List.replicate n v := by
  induction n with
  | zero => rfl
  | succ n ih => simp [List.replicate_succ]

theorem set_self {α : Type} {l : List α} {i : Nat} {x : α} (h : l[i]? = some x) : l.set i x = l := by
  apply List.ext_getElem?
  intro j
  rw [List.getElem?_set]
  have := lt_of_idx h
  by_cases hj : i = j
  · subst hj; rw [if_pos rfl, if_pos this, h]
  · rw [if_neg hj]

/-- what is made since w0, while the stream draws -/
structure GrowS (w0 : World) (sb : Nat) {α : Type} (e : TypeId) (sz : Nat) (enc : α → List Value) (w : World) (s : Value) (l : List α) : Prop where
  keep : Keep (· = sb) w0 w
  ow : Ow (Fresh w0) e sz enc w s l
section
variable {w0 w w' : World} {sb : Nat} {α : Type} {e : TypeId} {sz : Nat} {enc : α → List Value} {s : Value} {l : List α}
theorem GrowS.nil : GrowS w0 sb e sz enc w0 (.slice none 0 0) ([] : List α) := ⟨Keep.refl _ _, Ow.nil⟩
theorem GrowS.sl (h : GrowS w0 sb e sz enc w s l) : Sl (Fresh w0) enc w s l := h.ow.sl
theorem GrowS.fresh (h : GrowS w0 sb e sz enc w s l) {b : Nat} (hb : inV s b) : w0.heap.size ≤ b := Own.inD h.ow hb
theorem GrowS.lt (h : GrowS w0 sb e sz enc w s l) {b : Nat} (hb : inV s b) : b < w.heap.size := Own.inLt h.ow hb
theorem GrowS.step (h : GrowS w0 sb e sz enc w s l) (hs : sb < w0.heap.size) (k : Keep (· = sb) w w') : GrowS w0 sb e sz enc w' s l :=
  ⟨h.keep.trans k, h.ow.keep k fun b hb h' => by have := h.fresh hb; omega⟩
theorem GrowS.push {P : Program} {t : TypeId} {by_ : Nat} {z : List Value} (hT : SliceT P t e sz by_ z) {y : α} {x : Value} {ty : TypeId} {k : Value → World → Prop} (h0 : GrowS w0 sb e sz enc w s l) (hx : x.cells = (enc y).toArray) (hsz : (enc y).length = sz)
    (hone : (enc y).all Eng.one = true) (hb : l.length + 1 ≤ 16777216) (hs : 1 * sz ≤ 16777216)
    (h : ∀ v' w', GrowS w0 sb e sz enc w' v' (l ++ [y]) → Keep (inV s) w w' → (∀ i, inV v' i → inV s i ∨ w.heap.size ≤ i) → k v' w') :
    semP P (Instr.buildSlice t 1 #[(0, x)]) w fun u w1 => semP P (Builtin.append_ #[t, t] ty #[s, u]) w1 k :=
  s_push hT h0.ow hx hsz hone hb hs (fun i hi => Nat.le_trans h0.keep.size hi) fun v' w' ho hk hi =>
    h v' w' ⟨h0.keep.new hk fun i hi => .inr (h0.fresh hi), ho⟩ hk hi
end

theorem odd_spec (E : Eqs c) (B : TyB c) {sb k : Nat} {lo hi : Int} {w : World} (h1 : lo ≤ hi) (h2 : -1000000000000 ≤ lo) (h3 : hi ≤ 1000000000000) (hs : SOk c w sb (k + 2)) :
    Ret c.P c.f_p_blmake_Stream_Odd #[pb sb 0, vi lo, vi hi] w fun v w' => ∃ r : Int, v = vi r ∧ SOk c w' sb k ∧ Keep (· = sb) w w' := by
  apply E.p_blmake_Stream_Odd
  unfold wp_p_blmake_Stream_Odd
  refine (flip_spec E sb (k + 1) 12 w (by omega) hs).mono ?_
  rintro v w1 ⟨r, rfl, hs1, hk1⟩
  refine s_cond (fun _ => ?_) fun _ => ?_
  · refine s_sub (by omega) (by omega) (s_add (by omega) (by omega) ?_)
    refine s_lit (w := w1) B.sl_int [vi (lo - 1), vi (hi + 1), vi lo, vi hi, vi (-1099511627776), vi 1099511627776] [lo - 1, hi + 1, lo, hi, -1099511627776, 1099511627776] rfl rfl rfl eI_len (by omega) (by omega) fun b w2 hg hk2 hb => ?_
    refine (pick_spec E sb k _ _ _ w2 (by simp) (by simp) (fun b hb h => by have hb : w1.heap.size ≤ b := hb; have := hs1.lt; omega) hg.sl (hs1.keep hk2)).mono ?_
    rintro v w3 ⟨r, rfl, _, hs3, hk3⟩
    exact ⟨r, rfl, hs3, (hk1.trans hk2.none).trans hk3⟩
  · refine (range_spec E sb k lo hi w1 h1 (by omega) (by omega) hs1).mono ?_
    rintro v w2 ⟨r, rfl, _, _, hs2, hk2⟩
    exact ⟨r, rfl, hs2, hk1.trans hk2⟩

theorem GrowS.back {w0 w1 w : World} {sb : Nat} {α : Type} {e : TypeId} {sz : Nat} {enc : α → List Value} {s : Value} {l : List α} (h : GrowS w1 sb e sz enc w s l) (k : Keep (· = sb) w0 w1) : GrowS w0 sb e sz enc w s l :=
  ⟨k.trans h.keep, Own.dom h.ow fun b hb => Nat.le_trans k.size hb⟩

end Go.Eng

/-! Contract: an order that is drawn. -/
namespace Go.Eng
open Go
variable {c : Cfg}
theorem swap_perm {l : List Int} {i k : Nat} {x y : Int} (hx : l[i]? = some x) (hy : l[k]? = some y) : ((l.set k x).set i y).Perm l := by
  have hi := lt_of_idx hx
  have hk := lt_of_idx hy
  rw [List.getElem?_eq_getElem hi] at hx
  rw [List.getElem?_eq_getElem hk] at hy
  cases hx; cases hy
  by_cases h : i = k
  · subst h
    simp
  · rw [List.set_comm _ _ (fun e => h e.symm)]
    exact List.set_set_perm hi hk
theorem order_perm (E : Eqs c) (B : TyB c) {sb k n : Nat} {w : World} (hn : n ≤ 1000) (hs : SOk c w sb (k + n)) :
    Ret c.P c.f_p_blmake_Stream_Order #[pb sb 0, vi n] w fun v w' => ∃ l : List Int, l.Perm ((List.range n).map fun (q : Nat) => (q : Int)) ∧ GrowS w sb c.t_int 1 eI w' v l ∧ SOk c w' sb k := by
  apply E.p_blmake_Stream_Order
  unfold wp_p_blmake_Stream_Order
  have hsb := hs.lt
  refine s_for n (fun i (u : Value) => [u, vi i]) (fun i u w' => ∃ l : List Int, l = (List.range i).map (fun (q : Nat) => (q : Int)) ∧ Grow w c.t_int 1 eI w' u l ∧ SOk c w' sb (k + n)) (.slice none 0 0) rfl ⟨[], rfl, Grow.nil, hs⟩ ?_
  rintro i u w1 j nx ⟨l, hl, hg, hs1⟩ hin hnx
  have hlr : l.length = i := by rw [hl]; simp
  refine s_lss (s_condD (fun hlt => ?_) fun hge => ?_)
  · have hil := ofInt_lt hlt
    refine hg.push B.sl_int (y := (i : Int)) rfl rfl rfl (by omega) (by omega) fun v' w2 hg2 hk2 _ => ?_
    refine s_add (by omega) (by omega) (hnx v' w2 hil ⟨_, by rw [hl, List.range_succ, List.map_append]; rfl, hg2, hs1.keepM hk2 fun b hb => by have := hg.fresh hb; omega⟩)
  · have hi : i = n := by omega
    subst hi
    refine s_sub (by omega) (by omega) ?_
    refine s_while (σ := Nat) (fun q => [vi ((q : Int) - 1)]) (fun q w' => q ≤ i ∧ ∃ l : List Int, l.Perm ((List.range i).map fun (q : Nat) => (q : Int)) ∧ GrowS w sb c.t_int 1 eI w' u l ∧ SOk c w' sb (k + q)) (fun q => q) i
      rfl ⟨Nat.le_refl _, l, by rw [hl], ⟨hg.keep.none, hg.ow⟩, hs1⟩ ?_
    rintro q w4 j2 nx2 ⟨hqi, l, hlp, hg, hs4⟩ hnx2
    have hl : l.length = i := by rw [hlp.length_eq]; simp
    refine s_gtr (s_condD (fun hlt => ?_) fun hge => ?_)
    · have hlt : 2 ≤ q := by
        have hlt : (0 : Int) < (q : Int) - 1 := hlt
        omega
      refine s_add (by omega) (by omega) ?_
      refine (next_spec E sb (k + (q - 1)) _ w4 (by omega) (by rw [show k + (q - 1) + 1 = k + q by omega]; exact hs4)).mono ?_
      rintro v w5 ⟨r, rfl, hr, _, hs5, hk5⟩
      obtain ⟨hr0, hr1⟩ := hr (by omega)
      obtain ⟨p, rfl⟩ := Int.eq_ofNat_of_zero_le hr0
      have hpq : p < q := by omega
      have hg5 := hg.step hsb hk5
      have e1 : (q : Int) - 1 = ((q - 1 : Nat) : Int) := by omega
      obtain ⟨x, hx⟩ := idx_of_lt (show p < l.length by omega)
      obtain ⟨y, hy⟩ := idx_of_lt (show q - 1 < l.length by omega)
      refine hg5.sl.drew.idx (sz := 1) eI_len hx fun b o _ _ hc => s_ldC0 hc ?_
      show idxP 1 u (vi ((q : Int) - 1)) _
      rw [e1]
      refine hg5.sl.drew.idx (sz := 1) eI_len hy fun b o _ _ hc => s_ldC0 hc ?_
      refine hg5.ow.drew.put1 eI_len (i := q - 1) (by omega) (y := x) rfl rfl fun w6 ho6 hk6 _ => ?_
      refine ho6.put1 eI_len (i := p) (by rw [List.length_set]; omega) (y := y) rfl rfl fun w7 ho7 hk7 _ => ?_
      refine s_sub (by omega) (by omega) ?_
      have hk57 : Keep (inV u) w5 w7 := (keep_drew _ _).trans (hk6.trans hk7)
      have := hnx2 (q - 1) w7 ⟨by omega, _, (swap_perm hx hy).trans hlp, ⟨hg5.keep.new hk57 fun i hi => .inr (hg.fresh hi), ho7⟩, hs5.keepM hk57 fun b hb => by have := hg.fresh hb; omega⟩ (by omega)
      exact this
    · exact ⟨l, hlp, hg, hs4.less (by omega)⟩

theorem order_spec (E : Eqs c) (B : TyB c) {sb k n : Nat} {w : World} (hn : n ≤ 1000) (hs : SOk c w sb (k + n)) :
    Ret c.P c.f_p_blmake_Stream_Order #[pb sb 0, vi n] w fun v w' => ∃ l : List Int, l.length = n ∧ GrowS w sb c.t_int 1 eI w' v l ∧ SOk c w' sb k :=
  (order_perm E B hn hs).mono fun v w' ⟨l, h1, h2, h3⟩ => ⟨l, by rw [h1.length_eq]; simp, h2, h3⟩

end Go.Eng

/-! Points. -/
namespace Go.Eng
open Go
structure Pt where
  x : Int
  y : Int
  deriving DecidableEq
def eP (p : Pt) : List Value := [vi p.x, vi p.y]
variable {c : Cfg}
def farPt (p : Pt) : Bool := decide (p.x < -100000 ∨ 100000 < p.x ∨ p.y < -100000 ∨ 100000 < p.y)
def FarSpec (c : Cfg) : Prop := ∀ (p : Pt) (w : World), Ret c.P c.f_region_IsFar #[.agg (eP p).toArray] w fun v w' => Keep NoB w w' ∧ v = .bool (farPt p)
theorem far_spec (E : Eqs c) : FarSpec c := by
  intro p w
  apply E.region_IsFar
  unfold wp_region_IsFar
  refine s_new (cs := eP p) fun b w1 hat hk _ _ => ?_
  refine s_join (s_off (s_ldAt hat rfl ?_))
  refine (outside_spec E _ _ _ w1).mono ?_
  rintro v w' ⟨rfl, rfl⟩
  refine s_guardF (fun h => s_off (s_ldAt hat rfl ?_)) fun h => ?_
  · refine (outside_spec E _ _ _ _).mono ?_
    rintro v w' ⟨rfl, rfl⟩
    intro j
    simp at h
    exact ⟨hk, show Value.bool (decide _) = Value.bool (decide _) from bool_dec (by omega)⟩
  · intro j
    simp at h
    exact ⟨hk, show Value.bool true = Value.bool (decide _) by rw [decide_eq_true]; omega⟩

end Go.Eng

/-! Rows of numbers; what is appended while S is held. -/
namespace Go.Eng
open Go
variable {c : Cfg}
/-- a row of numbers that is a block of its own -/
def IA (c : Cfg) (w : World) (b : Nat) (o : List Int) : Prop := At w b (o.map vi) c.t_int
theorem IA.put {w : World} {b n cap : Nat} {o : List Int} (h : IA c w b o) (hn : n = o.length) {i : Nat} (hi : i < o.length) {v : Int} {K : World → Prop}
    (hK : ∀ w', IA c w' b (o.set i v) → Keep (· = b) w w' → w'.heap.size = w.heap.size → K w') : idxP 1 (.slice (some ⟨b, 0, none⟩) n cap) (vi i) fun p => st p (vi v) w K := by
  refine s_idx (by omega) (by omega) ?_
  refine s_st h (by simp; omega) rfl fun w' h1 h2 h3 => hK w' ?_ h2 h3
  unfold IA
  rw [List.map_set]
  have : 0 + (i : Int).toNat * 1 = i := by simp
  rw [this] at h1
  exact h1
theorem flat_vi (o : List Int) : o.flatMap eI = o.map vi := by
  induction o with
  | nil => rfl
  | cons x r ih => simp [eI, ih]
theorem IA.sl {w : World} {b n cap : Nat} {o : List Int} {D : Nat → Prop} (h : IA c w b o) (hn : n = o.length) (hcap : n ≤ cap) (hb : n ≤ 1000000) (hd : D b) : Sl D eI w (.slice (some ⟨b, 0, none⟩) n cap) o := by
  subst hn
  refine ⟨_, cap, rfl, ⟨hcap, by omega⟩, fun _ => ⟨b, 0, rfl, hd, h.lt, ?_⟩⟩
  rw [flat_vi]
  exact At.cells h
theorem ia_new {w : World} {b n : Nat} (h : At w b ((List.replicate n [vi 0]).flatten) c.t_int) : IA c w b (List.replicate n 0) := by
  unfold IA
  rw [rep_flat] at h
  rw [List.map_replicate]; exact h

/-- an element that is appended, with S held -/
theorem s_pushH {P : Program} {α : Type} {D : Nat → Prop} {t e : TypeId} {sz by_ : Nat} {z : List Value} {enc : α → List Value} {w : World} {s : Value} {l : List α} {S : World → Prop} (hT : SliceT P t e sz by_ z) {y : α} {x : Value} {ty : TypeId} {k : Value → World → Prop}
    (ho : Ow D e sz enc w s l) (hx : x.cells = (enc y).toArray) (hsz : (enc y).length = sz)
    (hone : (enc y).all Eng.one = true) (hb : l.length + 1 ≤ 16777216) (hs : 1 * sz ≤ 16777216) (hD : ∀ i, w.heap.size ≤ i → D i)
    (hS : ∀ w', Keep (inV s) w w' → S w')
    (h : ∀ v' w', Ow D e sz enc w' v' (l ++ [y]) → Keep (inV s) w w' → (∀ i, inV v' i → inV s i ∨ w.heap.size ≤ i) → k v' w') :
    semP P (Instr.buildSlice t 1 #[(0, x)]) w fun u w1 => S w1 ∧ semP P (Builtin.append_ #[t, t] ty #[s, u]) w1 fun v w2 => S w2 ∧ k v w2 := by
  have hfl : flat [x] = enc y := by simp [flat, hx]
  refine s_bslice hT [x] rfl rfl (fun v hv => by simp at hv; subst hv; simp [hx, hsz]) hs fun b w1 hat hk hbw hsz1 => ⟨hS _ hk.none, ?_⟩
  rw [hfl] at hat
  refine s_append hT (ho.keep0 hk) (src_new hat (by rw [hsz, Nat.one_mul])) hone hb (fun i hi => hD i (by have := hk.size; omega)) fun v' w' ho' hk' hi' _ => ?_
  have hk2 : Keep (inV s) w w' := hk.none.trans hk'
  refine ⟨hS _ hk2, h v' w' ?_ hk2 fun i hi => ?_⟩
  · unfold Ow
    rw [List.length_append, List.flatMap_append]
    simpa using ho'
  · rcases hi' i hi with h' | h'
    · exact .inl h'
    · exact .inr (by have := hk.size; omega)

end Go.Eng

/-! Plain laws: comparing lists; the least of what is tried. -/
namespace Go.Eng

/-- what a comparison owes -/
structure GoodCmp {α : Type} (f : α → α → Int) : Prop where
  anti : ∀ a b, f b a = - f a b
  zero : ∀ a b, f a b = 0 → a = b
  refl : ∀ a, f a a = 0
  trans : ∀ a b c, f a b < 0 → f b c < 0 → f a c < 0

def cmpI (a b : Int) : Int := if a < b then -1 else if b < a then 1 else 0
theorem cmpI_good : GoodCmp cmpI := by
  refine ⟨fun a b => ?_, fun a b h => ?_, fun a => ?_, fun a b c h1 h2 => ?_⟩
  · unfold cmpI; split <;> split <;> (try split) <;> omega
  · unfold cmpI at h; split at h
    · omega
    · split at h <;> omega
  · unfold cmpI; rw [if_neg (by omega), if_neg (by omega)]
  · unfold cmpI at *
    by_cases hab : a < b
    · by_cases hbc : b < c
      · rw [if_pos (by omega)]; omega
      · rw [if_neg hbc] at h2; split at h2 <;> omega
    · rw [if_neg hab] at h1; split at h1 <;> omega

def cmpList {α : Type} (f : α → α → Int) : List α → List α → Int
  | [], [] => 0
  | [], _ :: _ => -1
  | _ :: _, [] => 1
  | a :: r, b :: t => if f a b ≠ 0 then f a b else cmpList f r t

theorem cmpList_good {α : Type} {f : α → α → Int} (h : GoodCmp f) : GoodCmp (cmpList f) := by
  refine ⟨fun a => ?_, fun a => ?_, fun a => ?_, fun a => ?_⟩
  · induction a with
    | nil => intro b; cases b <;> simp [cmpList]
    | cons x r ih =>
      intro b
      cases b with
      | nil => simp [cmpList]
      | cons y t =>
        simp only [cmpList]
        rw [h.anti x y, ih t]
        by_cases h0 : f x y = 0
        · simp [h0]
        · simp [h0]
  · induction a with
    | nil => intro b hb; cases b <;> simp [cmpList] at hb ⊢
    | cons x r ih =>
      intro b hb
      cases b with
      | nil => simp [cmpList] at hb
      | cons y t =>
        simp only [cmpList] at hb
        by_cases h0 : f x y = 0
        · rw [if_neg (by simp [h0])] at hb
          rw [h.zero x y h0, ih t hb]
        · rw [if_pos h0] at hb; exact absurd hb h0
  · induction a with
    | nil => rfl
    | cons x r ih => simp [cmpList, h.refl x, ih]
  · induction a with
    | nil =>
      intro b c h1 h2
      cases b with
      | nil => simp [cmpList] at h1
      | cons y t =>
        cases c with
        | nil => simp [cmpList] at h2
        | cons z u => simp [cmpList]
    | cons x r ih =>
      intro b c h1 h2
      cases b with
      | nil => simp [cmpList] at h1
      | cons y t =>
        cases c with
        | nil => simp [cmpList] at h2
        | cons z u =>
          simp only [cmpList] at h1 h2 ⊢
          by_cases hxy : f x y = 0
          · have := h.zero x y hxy
            subst this
            by_cases hyz : f x z = 0
            · rw [if_neg (by simp [hxy])] at h1
              rw [if_neg (by simp [hyz])] at h2 ⊢
              exact ih t u h1 h2
            · rw [if_pos hyz] at h2 ⊢; exact h2
          · rw [if_pos hxy] at h1
            by_cases hyz : f y z = 0
            · have := h.zero y z hyz
              subst this
              rw [if_pos (by omega)]; exact h1
            · rw [if_pos hyz] at h2
              have := h.trans x y z h1 h2
              rw [if_pos (by omega)]; exact this

abbrev Plan := List (List Int)
def cmpP : Plan → Plan → Int := cmpList (cmpList cmpI)
theorem cmpP_good : GoodCmp cmpP := cmpList_good (cmpList_good cmpI_good)

/-- the comparison of two plans by two numbers, then by themselves -/
def cmpK (k1 k2 : Plan → Int) (a b : Plan) : Int := firstNZ [cmpI (k1 a) (k1 b), cmpI (k2 a) (k2 b), cmpP a b]
theorem firstNZ3 (x y z : Int) : firstNZ [x, y, z] = if x ≠ 0 then x else if y ≠ 0 then y else z := by
  simp only [firstNZ]
  by_cases hx : x = 0 <;> by_cases hy : y = 0 <;> by_cases hz : z = 0 <;> simp [hx, hy, hz]
theorem firstNZ2 (x y : Int) : firstNZ [x, y] = if x ≠ 0 then x else y := by
  simp only [firstNZ]
  by_cases hx : x = 0 <;> by_cases hy : y = 0 <;> simp [hx, hy]

theorem cmpI_zero {a b : Int} : cmpI a b = 0 ↔ a = b := ⟨cmpI_good.zero a b, fun h => by rw [h]; exact cmpI_good.refl b⟩
theorem cmpI_neg {a b : Int} : cmpI a b < 0 ↔ a < b := by
  unfold cmpI
  by_cases h : a < b
  · simp [h]
  · rw [if_neg h]; split <;> omega
theorem cmpI_pos {a b : Int} : 0 < cmpI a b ↔ b < a := by
  unfold cmpI
  by_cases h : a < b
  · rw [if_pos h]; omega
  · rw [if_neg h]; split <;> omega

theorem cmpK_good (k1 k2 : Plan → Int) : GoodCmp (cmpK k1 k2) := by
  refine ⟨fun a b => ?_, fun a b h => ?_, fun a => ?_, fun a b c h1 h2 => ?_⟩
  · unfold cmpK
    rw [firstNZ3, firstNZ3, cmpI_good.anti (k1 a), cmpI_good.anti (k2 a), cmpP_good.anti a b]
    by_cases hx : cmpI (k1 a) (k1 b) = 0 <;> by_cases hy : cmpI (k2 a) (k2 b) = 0 <;> simp [hx, hy]
  · unfold cmpK at h
    rw [firstNZ3] at h
    by_cases hx : cmpI (k1 a) (k1 b) = 0 <;> by_cases hy : cmpI (k2 a) (k2 b) = 0 <;> simp [hx, hy] at h
    exact cmpP_good.zero a b h
  · unfold cmpK; rw [firstNZ3, cmpI_good.refl, cmpI_good.refl, cmpP_good.refl]; simp
  · unfold cmpK at *
    rw [firstNZ3] at *
    have e1 := @cmpI_zero (k1 a) (k1 b); have e2 := @cmpI_zero (k1 b) (k1 c); have e3 := @cmpI_zero (k1 a) (k1 c)
    have g1 := @cmpI_zero (k2 a) (k2 b); have g2 := @cmpI_zero (k2 b) (k2 c); have g3 := @cmpI_zero (k2 a) (k2 c)
    have n1 := @cmpI_neg (k1 a) (k1 b); have n2 := @cmpI_neg (k1 b) (k1 c); have n3 := @cmpI_neg (k1 a) (k1 c)
    have m1 := @cmpI_neg (k2 a) (k2 b); have m2 := @cmpI_neg (k2 b) (k2 c); have m3 := @cmpI_neg (k2 a) (k2 c)
    by_cases x1 : cmpI (k1 a) (k1 b) = 0
    · by_cases x2 : cmpI (k1 b) (k1 c) = 0
      · have x3 : cmpI (k1 a) (k1 c) = 0 := by rw [e3]; rw [e1] at x1; rw [e2] at x2; omega
        rw [if_neg (by simp [x1])] at h1
        rw [if_neg (by simp [x2])] at h2
        rw [if_neg (by simp [x3])]
        by_cases y1 : cmpI (k2 a) (k2 b) = 0
        · by_cases y2 : cmpI (k2 b) (k2 c) = 0
          · have y3 : cmpI (k2 a) (k2 c) = 0 := by rw [g3]; rw [g1] at y1; rw [g2] at y2; omega
            rw [if_neg (by simp [y1])] at h1
            rw [if_neg (by simp [y2])] at h2
            rw [if_neg (by simp [y3])]
            exact cmpP_good.trans a b c h1 h2
          · rw [if_pos y2] at h2
            have : cmpI (k2 a) (k2 c) < 0 := by rw [m3]; rw [g1] at y1; rw [m2] at h2; omega
            rw [if_pos (by omega)]; exact this
        · rw [if_pos y1] at h1
          have : cmpI (k2 a) (k2 c) < 0 := by
            rw [m3]; rw [m1] at h1
            by_cases y2 : cmpI (k2 b) (k2 c) = 0
            · rw [g2] at y2; omega
            · rw [if_pos y2, m2] at h2; omega
          rw [if_pos (by omega)]; exact this
      · rw [if_pos x2] at h2
        have : cmpI (k1 a) (k1 c) < 0 := by rw [n3]; rw [e1] at x1; rw [n2] at h2; omega
        rw [if_pos (by omega)]; exact this
    · rw [if_pos x1] at h1
      have : cmpI (k1 a) (k1 c) < 0 := by
        rw [n3]; rw [n1] at h1
        by_cases x2 : cmpI (k1 b) (k1 c) = 0
        · rw [e2] at x2; omega
        · rw [if_pos x2, n2] at h2; omega
      rw [if_pos (by omega)]; exact this

/-- r is the least of b and of all of S -/
structure Lst {α : Type} (f : α → α → Int) (S : α → Prop) (b r : Option α) : Prop where
  src : r = b ∨ ∃ x, r = some x ∧ S x
  all : ∀ x, S x → ∃ y, r = some y ∧ f y x ≤ 0
  old : ∀ x, b = some x → ∃ y, r = some y ∧ f y x ≤ 0

section
variable {α : Type} {f : α → α → Int} {S S1 S2 : α → Prop} {b r r1 : Option α}
theorem GoodCmp.le_trans (h : GoodCmp f) {x y z : α} (h1 : f x y ≤ 0) (h2 : f y z ≤ 0) : f x z ≤ 0 := by
  by_cases e1 : f x y = 0
  · rw [h.zero x y e1]; exact h2
  · by_cases e2 : f y z = 0
    · rw [← h.zero y z e2]; exact h1
    · have := h.trans x y z (by omega) (by omega); omega
theorem Lst.none (h : GoodCmp f) (hS : ∀ x, ¬ S x) : Lst f S b b := ⟨.inl rfl, fun x hx => absurd hx (hS x), fun x hx => ⟨x, hx, by rw [h.refl]; omega⟩⟩
theorem Lst.trans (h : GoodCmp f) (h1 : Lst f S1 b r1) (h2 : Lst f S2 r1 r) (hS : ∀ x, S x ↔ S1 x ∨ S2 x) : Lst f S b r := by
  refine ⟨?_, fun x hx => ?_, fun x hx => ?_⟩
  · rcases h2.src with e | ⟨x, e, hx⟩
    · subst e
      rcases h1.src with e | ⟨x, e, hx⟩
      · exact .inl e
      · exact .inr ⟨x, e, (hS x).2 (.inl hx)⟩
    · exact .inr ⟨x, e, (hS x).2 (.inr hx)⟩
  · rcases (hS x).1 hx with hx | hx
    · obtain ⟨y, e, hy⟩ := h1.all x hx
      obtain ⟨z, e2, hz⟩ := h2.old y e
      exact ⟨z, e2, h.le_trans hz hy⟩
    · exact h2.all x hx
  · obtain ⟨y, e, hy⟩ := h1.old x hx
    obtain ⟨z, e2, hz⟩ := h2.old y e
    exact ⟨z, e2, h.le_trans hz hy⟩
theorem Lst.congr (h1 : Lst f S1 b r) (hS : ∀ x, S x ↔ S1 x) : Lst f S b r :=
  ⟨by rcases h1.src with e | ⟨x, e, hx⟩
      · exact .inl e
      · exact .inr ⟨x, e, (hS x).2 hx⟩, fun x hx => h1.all x ((hS x).1 hx), h1.old⟩
/-- nothing of S is less than what there is -/
theorem Lst.skip (h : GoodCmp f) {x0 : α} (hS : ∀ x, S x → f x0 x ≤ 0) : Lst f S (some x0) (some x0) :=
  ⟨.inl rfl, fun x hx => ⟨x0, rfl, hS x hx⟩, fun x hx => by cases hx; exact ⟨x0, rfl, by rw [h.refl]; omega⟩⟩
theorem Lst.first (h : GoodCmp f) {x : α} (hS : ∀ y, S y ↔ y = x) : Lst f S Option.none (some x) :=
  ⟨.inr ⟨x, rfl, (hS x).2 rfl⟩, fun y hy => ⟨x, rfl, by rw [(hS y).1 hy, h.refl]; omega⟩, fun y hy => by cases hy⟩
theorem Lst.less (h : GoodCmp f) {x x0 : α} (hS : ∀ y, S y ↔ y = x) (hl : f x x0 < 0) : Lst f S (some x0) (some x) :=
  ⟨.inr ⟨x, rfl, (hS x).2 rfl⟩, fun y hy => ⟨x, rfl, by rw [(hS y).1 hy, h.refl]; omega⟩, fun y hy => by cases hy; exact ⟨x, rfl, by omega⟩⟩
theorem Lst.unique (h : GoodCmp f) {r' : Option α} (h1 : Lst f S Option.none r) (h2 : Lst f S Option.none r') : r = r' := by
  rcases h1.src with e | ⟨x, e, hx⟩
  · subst e
    rcases h2.src with e | ⟨x, e, hx⟩
    · exact e.symm
    · obtain ⟨y, e3, _⟩ := h1.all x hx; cases e3
  · subst e
    obtain ⟨y, e2, hy⟩ := h2.all x hx
    subst e2
    rcases h2.src with e | ⟨x', e, hx'⟩
    · cases e
    · cases e
      obtain ⟨z, e3, hz⟩ := h1.all y hx'
      cases e3
      have := h.anti x y
      rw [h.zero x y (by omega)]
end
end Go.Eng

/-! Plain laws: printers, jobs, plans. -/
namespace Go.Eng

structure Prn where
  key : ByteArray
  mat : ByteArray
structure Job where
  key : ByteArray
  mat : ByteArray
  mins : Int
  due : Int
structure Clk where
  fin : Int
  mat : ByteArray

def job0 : Job := ⟨⟨#[]⟩, ⟨#[]⟩, 0, 0⟩
def jobAt (j : List Job) (i : Int) : Job := j.getD i.toNat job0
def Clk.go (c : Clk) (x : Job) (ch : Int) : Clk := ⟨c.fin + (if eqB c.mat x.mat then 0 else ch) + x.mins, x.mat⟩

section
variable (j : List Job) (ch : Int)
def runC (c : Clk) (l : List Int) : Clk := l.foldl (fun c i => c.go (jobAt j i) ch) c
def endsC : Clk → List Int → List Int
  | _, [] => []
  | c, i :: r => (c.go (jobAt j i) ch).fin :: endsC (c.go (jobAt j i) ch) r
def mxL (l : List Int) : Int := l.foldr (fun x m => max x m) 0
def sumL (l : List Int) : Int := l.foldr (fun x m => x + m) 0
def rowE (pr : Prn) (l : List Int) : List Int := endsC j ch ⟨0, pr.mat⟩ l
def lastP : List Prn → Plan → Int
  | pr :: ps, l :: ls => max (mxL (rowE j ch pr l)) (lastP ps ls)
  | _, _ => 0
def sumP : List Prn → Plan → Int
  | pr :: ps, l :: ls => sumL (rowE j ch pr l) + sumP ps ls
  | _, _ => 0
end

section
variable {j : List Job} {ch : Int}

theorem runC_snoc (c : Clk) (l : List Int) (i : Int) : runC j ch c (l ++ [i]) = (runC j ch c l).go (jobAt j i) ch := by
  unfold runC; rw [List.foldl_append]; rfl
theorem endsC_len (l : List Int) : ∀ c, (endsC j ch c l).length = l.length := by
  induction l with
  | nil => intro c; rfl
  | cons x r ih => intro c; simp [endsC, ih]
theorem endsC_app (l t : List Int) : ∀ c, endsC j ch c (l ++ t) = endsC j ch c l ++ endsC j ch (runC j ch c l) t := by
  induction l with
  | nil => intro c; rfl
  | cons x r ih => intro c; simp only [List.cons_append, endsC, ih]; rfl
theorem mxL_app (a b : List Int) : mxL (a ++ b) = max (mxL a) (mxL b) := by
  induction a with
  | nil =>
    have : 0 ≤ mxL b := by
      induction b with
      | nil => simp [mxL]
      | cons x r ih => simp only [mxL, List.foldr_cons] at *; omega
    simp only [List.nil_append]
    show mxL b = max 0 (mxL b)
    omega
  | cons x r ih =>
    simp only [mxL, List.cons_append, List.foldr_cons] at *
    rw [ih]; omega
theorem sumL_app (a b : List Int) : sumL (a ++ b) = sumL a + sumL b := by
  induction a with
  | nil => simp [sumL]
  | cons x r ih =>
    simp only [sumL, List.cons_append, List.foldr_cons] at *
    rw [ih]; omega
theorem mxL_nonneg (l : List Int) : 0 ≤ mxL l := by
  induction l with
  | nil => simp [mxL]
  | cons x r ih => simp only [mxL, List.foldr_cons] at *; omega
theorem mxL_one (x : Int) : mxL [x] = max x 0 := rfl
theorem sumL_one (x : Int) : sumL [x] = x := by simp [sumL]
theorem rowE_snoc (pr : Prn) (l : List Int) (i : Int) : rowE j ch pr (l ++ [i]) = rowE j ch pr l ++ [((runC j ch ⟨0, pr.mat⟩ l).go (jobAt j i) ch).fin] := by
  unfold rowE; rw [endsC_app]; rfl

/-- right jobs and changes -/
structure JOk (j : List Job) (ch : Int) : Prop where
  ch0 : 0 ≤ ch
  ch1 : ch ≤ 100000
  mins : ∀ x ∈ j, 1 ≤ x.mins ∧ x.mins ≤ 100000
  due : ∀ x ∈ j, 0 ≤ x.due ∧ x.due ≤ 1000000000
  len : j.length ≤ 500

theorem jobAt_mem {i : Int} (h0 : 0 ≤ i) (h1 : i < j.length) : jobAt j i ∈ j := by
  unfold jobAt
  rw [List.getD, List.getElem?_eq_getElem (by omega)]
  exact List.getElem_mem _
theorem jobAt_get {i : Nat} {x : Job} (h : j[i]? = some x) : jobAt j (i : Int) = x := by
  unfold jobAt
  rw [Int.toNat_natCast, List.getD, h]; rfl

theorem go_bd (h : JOk j ch) {c : Clk} {x : Job} (hx : x ∈ j) : c.fin + 1 ≤ (c.go x ch).fin ∧ (c.go x ch).fin ≤ c.fin + 200000 := by
  have := h.mins x hx
  have := h.ch0; have := h.ch1
  show c.fin + 1 ≤ c.fin + _ + x.mins ∧ c.fin + _ + x.mins ≤ _
  split <;> omega

/-- indices that are right -/
def InJ (n : Nat) (l : List Int) : Prop := ∀ i ∈ l, 0 ≤ i ∧ i < n
theorem runC_bd (h : JOk j ch) : ∀ (l : List Int) (c : Clk), InJ j.length l → c.fin ≤ (runC j ch c l).fin ∧ (runC j ch c l).fin ≤ c.fin + 200000 * l.length
  | [], c, _ => by simp [runC]
  | i :: r, c, hl => by
    have h1 := hl i (List.mem_cons_self ..)
    have h2 := go_bd h (c := c) (jobAt_mem h1.1 h1.2)
    have := runC_bd h r (c.go (jobAt j i) ch) fun x hx => hl x (List.mem_cons_of_mem _ hx)
    have e : runC j ch c (i :: r) = runC j ch (c.go (jobAt j i) ch) r := rfl
    rw [e, List.length_cons]
    omega
theorem endsC_bd (h : JOk j ch) : ∀ (l : List Int) (c : Clk), InJ j.length l → ∀ e ∈ endsC j ch c l, c.fin + 1 ≤ e ∧ e ≤ c.fin + 200000 * l.length
  | [], c, _, e, he => by simp [endsC] at he
  | i :: r, c, hl, e, he => by
    have h1 := hl i (List.mem_cons_self ..)
    have h2 := go_bd h (c := c) (jobAt_mem h1.1 h1.2)
    rw [List.length_cons]
    rcases List.mem_cons.1 he with rfl | he
    · omega
    · have := endsC_bd h r (c.go (jobAt j i) ch) (fun x hx => hl x (List.mem_cons_of_mem _ hx)) e he
      omega

/-! ### a plan that grows at a printer -/
theorem last_set : ∀ (p : List Prn) (plan : Plan) (k : Nat) (pr : Prn) (l : List Int) (i : Int), p[k]? = some pr → plan[k]? = some l →
    lastP j ch p (plan.set k (l ++ [i])) = max (lastP j ch p plan) ((runC j ch ⟨0, pr.mat⟩ l).go (jobAt j i) ch).fin ∨ ((runC j ch ⟨0, pr.mat⟩ l).go (jobAt j i) ch).fin < 0
  | [], _, k, pr, l, i, hp, _ => by simp at hp
  | _ :: _, [], k, pr, l, i, _, hl => by simp at hl
  | q :: ps, m :: ls, 0, pr, l, i, hp, hl => by
    simp at hp hl; subst hp; subst hl
    simp only [List.set_cons_zero, lastP, rowE_snoc, mxL_app, mxL_one]
    generalize ((runC j ch ⟨0, q.mat⟩ m).go (jobAt j i) ch).fin = e
    omega
  | q :: ps, m :: ls, k + 1, pr, l, i, hp, hl => by
    have := last_set ps ls k pr l i (by simpa using hp) (by simpa using hl)
    simp only [List.set_cons_succ, lastP]
    generalize ((runC j ch ⟨0, pr.mat⟩ l).go (jobAt j i) ch).fin = e at *
    omega
theorem sum_set : ∀ (p : List Prn) (plan : Plan) (k : Nat) (pr : Prn) (l : List Int) (i : Int), p[k]? = some pr → plan[k]? = some l →
    sumP j ch p (plan.set k (l ++ [i])) = sumP j ch p plan + ((runC j ch ⟨0, pr.mat⟩ l).go (jobAt j i) ch).fin
  | [], _, k, pr, l, i, hp, _ => by simp at hp
  | _ :: _, [], k, pr, l, i, _, hl => by simp at hl
  | q :: ps, m :: ls, 0, pr, l, i, hp, hl => by
    simp at hp hl; subst hp; subst hl
    simp only [List.set_cons_zero, sumP, rowE_snoc, sumL_app, sumL_one]
    omega
  | q :: ps, m :: ls, k + 1, pr, l, i, hp, hl => by
    have := sum_set ps ls k pr l i (by simpa using hp) (by simpa using hl)
    simp only [List.set_cons_succ, sumP]
    omega

/-- full goes on from plan at k: before k they are alike, at k plan is the first part -/
structure Goes (k : Nat) (plan full : Plan) : Prop where
  len : full.length = plan.length
  pre : ∀ i, i < k → full[i]? = plan[i]?
  at_ : ∃ l t, plan[k]? = some l ∧ full[k]? = some (l ++ t)
/-- behind k all is empty -/
def Empt (k : Nat) (plan : Plan) : Prop := ∀ i l, k < i → plan[i]? = some l → l = []

theorem last_goes : ∀ (p : List Prn) (plan full : Plan) (k : Nat), Goes k plan full → Empt k plan → lastP j ch p plan ≤ lastP j ch p full
  | [], plan, full, k, _, _ => by cases plan <;> cases full <;> simp [lastP]
  | q :: ps, [], full, k, hg, _ => by
    obtain ⟨l, t, h, _⟩ := hg.at_; simp at h
  | q :: ps, m :: ls, [], k, hg, _ => by have := hg.len; simp at this
  | q :: ps, m :: ls, m' :: ls', 0, hg, he => by
    obtain ⟨l, t, h1, h2⟩ := hg.at_
    simp at h1 h2; subst h1; subst h2
    simp only [lastP, rowE, endsC_app, mxL_app]
    have hls : lastP j ch ps ls ≤ lastP j ch ps ls' := by
      have hz : ∀ (ps : List Prn) (ls ls' : Plan), (∀ l ∈ ls, l = []) → lastP j ch ps ls ≤ lastP j ch ps ls' := by
        intro ps
        induction ps with
        | nil => intro ls ls' _; cases ls <;> cases ls' <;> simp [lastP]
        | cons a r ih =>
          intro ls ls' h
          have hnn : ∀ (ls' : Plan), 0 ≤ lastP j ch (a :: r) ls' := by
            intro ls'
            cases ls' with
            | nil => simp [lastP]
            | cons x y => simp only [lastP]; have := mxL_nonneg (rowE j ch a x); omega
          cases ls with
          | nil => exact hnn ls'
          | cons x y =>
            have hx := h x (List.mem_cons_self ..)
            subst hx
            have : lastP j ch r y ≤ lastP j ch r [] := ih y [] fun l hl => h l (List.mem_cons_of_mem _ hl)
            have e0 : lastP j ch r [] = 0 := by cases r <;> rfl
            have hn := hnn ls'
            have hy := ih y (ls'.drop 1) fun l hl => h l (List.mem_cons_of_mem _ hl)
            simp only [lastP, rowE, endsC]
            simp only [mxL, List.foldr_nil]
            omega
      refine hz ps ls ls' fun l hl => ?_
      obtain ⟨i, hi⟩ := List.getElem?_of_mem hl
      exact he (i + 1) l (by omega) (by simpa using hi)
    have := mxL_nonneg (endsC j ch (runC j ch ⟨0, q.mat⟩ m) t)
    omega
  | q :: ps, m :: ls, m' :: ls', k + 1, hg, he => by
    have h0 := hg.pre 0 (by omega)
    simp at h0; subst h0
    have := last_goes ps ls ls' k ⟨by simpa using hg.len, fun i hi => by simpa using hg.pre (i + 1) (by omega), by simpa using hg.at_⟩
      (fun i l hi hl => he (i + 1) l (by omega) (by simpa using hl))
    simp only [lastP]; omega

/-! ### plans that are complete -/
structure Compl (n : Nat) (full : Plan) : Prop where
  len : full.flatten.length = n
  nodup : full.flatten.Nodup
  inJ : InJ n full.flatten

theorem flat_goes : ∀ (plan full : Plan) (k : Nat), Goes k plan full → Empt k plan → ∃ l t more, plan[k]? = some l ∧ full[k]? = some (l ++ t) ∧ full.flatten = plan.flatten ++ t ++ more ∧ more = (full.drop (k + 1)).flatten
  | [], full, k, hg, _ => by obtain ⟨l, t, h, _⟩ := hg.at_; simp at h
  | m :: ls, [], k, hg, _ => by have := hg.len; simp at this
  | m :: ls, m' :: ls', 0, hg, he => by
    obtain ⟨l, t, h1, h2⟩ := hg.at_
    simp at h1 h2; subst h1; subst h2
    refine ⟨m, t, ls'.flatten, rfl, rfl, ?_, rfl⟩
    have : ls.flatten = [] := by
      rw [List.flatten_eq_nil_iff]
      intro l hl
      obtain ⟨i, hi⟩ := List.getElem?_of_mem hl
      exact he (i + 1) l (by omega) (by simpa using hi)
    simp [this]
  | m :: ls, m' :: ls', k + 1, hg, he => by
    have h0 := hg.pre 0 (by omega)
    simp at h0; subst h0
    obtain ⟨l, t, more, h1, h2, h3, h4⟩ := flat_goes ls ls' k ⟨by simpa using hg.len, fun i hi => by simpa using hg.pre (i + 1) (by omega), by simpa using hg.at_⟩
      (fun i l hi hl => he (i + 1) l (by omega) (by simpa using hl))
    exact ⟨l, t, more, by simpa using h1, by simpa using h2, by simp [h3], by simpa using h4⟩

theorem Goes.refl {k : Nat} {plan : Plan} (h : k < plan.length) : Goes k plan plan := ⟨rfl, fun _ _ => rfl, _, [], List.getElem?_eq_getElem h, by rw [List.append_nil]; exact List.getElem?_eq_getElem h⟩

/-- a full plan goes on from itself alone -/
theorem goes_full {n k : Nat} {plan full : Plan} (he : Empt k plan) (hk : k < plan.length) (hl : plan.flatten.length = n) : (Compl n full ∧ Goes k plan full) ↔ (full = plan ∧ Compl n plan) := by
  refine ⟨fun ⟨hc, hg⟩ => ?_, fun ⟨h, hc⟩ => by subst h; exact ⟨hc, Goes.refl hk⟩⟩
  obtain ⟨l, t, more, h1, h2, h3, h4⟩ := flat_goes plan full k hg he
  have hlen := hc.len
  rw [h3] at hlen
  simp only [List.length_append] at hlen
  have ht : t = [] := List.length_eq_zero_iff.1 (by omega)
  have hm : more = [] := List.length_eq_zero_iff.1 (by omega)
  have : full = plan := by
    apply List.ext_getElem?
    intro i
    rcases Nat.lt_trichotomy i k with h | h | h
    · exact hg.pre i h
    · subst h; rw [h1, h2, ht, List.append_nil]
    · by_cases hi : i < full.length
      · have e1 := List.getElem?_eq_getElem hi
        have e2 := List.getElem?_eq_getElem (show i < plan.length by have := hg.len; omega)
        rw [e1, e2, he i _ h e2]
        congr 1
        rw [hm] at h4
        have : ∀ l ∈ full.drop (k + 1), l = [] := fun l hl => (List.flatten_eq_nil_iff.1 h4.symm) l hl
        refine this _ ?_
        refine List.mem_of_getElem? (i := i - (k + 1)) ?_
        rw [List.getElem?_drop, show k + 1 + (i - (k + 1)) = i from by omega, e1]
      · rw [List.getElem?_eq_none (by omega), List.getElem?_eq_none (by have := hg.len; omega)]
  exact ⟨this, by rw [← this]; exact hc⟩

/-- a plan that is not full goes on with one more job, or at the next printer -/
theorem goes_step {n k : Nat} {plan full : Plan} {l : List Int} (he : Empt k plan) (hkl : plan[k]? = some l) (hl : plan.flatten.length < n) :
    (Compl n full ∧ Goes k plan full) ↔ ((∃ i : Nat, i < n ∧ (i : Int) ∉ plan.flatten ∧ Compl n full ∧ Goes k (plan.set k (l ++ [(i : Int)])) full) ∨ (k + 1 < plan.length ∧ Compl n full ∧ Goes (k + 1) plan full)) := by
  have hk := lt_of_idx hkl
  constructor
  · rintro ⟨hc, hg⟩
    obtain ⟨l', t, more, h1, h2, h3, h4⟩ := flat_goes plan full k hg he
    rw [hkl] at h1; cases h1
    cases t with
    | nil =>
      rw [List.append_nil] at h2
      refine .inr ⟨?_, hc, hg.len, fun i hi => ?_, ?_⟩
      · rcases Nat.lt_or_ge (k + 1) plan.length with h | h
        · exact h
        · have : full.drop (k + 1) = [] := List.drop_eq_nil_of_le (by have := hg.len; omega)
          rw [this] at h4
          have := hc.len
          rw [h3, h4] at this
          simp only [List.append_nil, List.flatten_nil] at this; omega
      · rcases Nat.lt_or_ge i k with h | h
        · exact hg.pre i h
        · obtain rfl : i = k := by omega
          rw [h2, hkl]
      · have hk1 : k + 1 < plan.length := by
          rcases Nat.lt_or_ge (k + 1) plan.length with h | h
          · exact h
          · have : full.drop (k + 1) = [] := List.drop_eq_nil_of_le (by have := hg.len; omega)
            rw [this] at h4
            have := hc.len
            rw [h3, h4] at this
            simp only [List.append_nil, List.flatten_nil] at this; omega
        have e1 := List.getElem?_eq_getElem hk1
        have e2 := List.getElem?_eq_getElem (show k + 1 < full.length by have := hg.len; omega)
        refine ⟨_, full[k + 1]'(by have := hg.len; omega), e1, ?_⟩
        rw [e2, he (k + 1) _ (by omega) e1, List.nil_append]
    | cons x t =>
      have hx : x ∈ full.flatten := by rw [h3]; simp
      have hx2 := hc.inJ x hx
      obtain ⟨i, rfl⟩ := Int.eq_ofNat_of_zero_le hx2.1
      refine .inl ⟨i, by omega, fun hin => ?_, hc, by rw [List.length_set]; exact hg.len, fun q hq => ?_, l ++ [(i : Int)], t, ?_, ?_⟩
      · have := hc.nodup
        rw [h3, List.append_assoc, List.nodup_append] at this
        exact this.2.2 _ hin _ (by simp) rfl
      · rw [List.getElem?_set_ne (by omega)]; exact hg.pre q hq
      · rw [List.getElem?_set_self hk]
      · rw [h2]; simp
  · rintro (⟨i, hi, hni, hc, hg⟩ | ⟨hk1, hc, hg⟩)
    · refine ⟨hc, by rw [hg.len, List.length_set], fun q hq => ?_, ?_⟩
      · have := hg.pre q hq
        rwa [List.getElem?_set_ne (by omega)] at this
      · obtain ⟨l', t, h1, h2⟩ := hg.at_
        rw [List.getElem?_set_self hk] at h1
        cases h1
        exact ⟨l, (i : Int) :: t, hkl, by rw [h2]; simp⟩
    · exact ⟨hc, hg.len, fun q hq => hg.pre q (by omega), l, [], hkl, by rw [hg.pre k (by omega), hkl, List.append_nil]⟩
end
end Go.Eng

/-! Plain laws: all plans; what is written at places; greedy plans; orders. -/
namespace Go.Eng
variable {j : List Job} {ch : Int}

/-- what is tried from a plan on: it goes on at one of the printers behind which all is empty -/
def Cov (n : Nat) (plan full : Plan) : Prop := ∃ k, k < plan.length ∧ Empt k plan ∧ Compl n full ∧ Goes k plan full

theorem Empt.mono {k k' : Nat} {plan : Plan} (h : Empt k plan) (hk : k ≤ k') : Empt k' plan := fun i l hi hl => h i l (by omega) hl
theorem Empt.set {k : Nat} {plan : Plan} (h : Empt k plan) (l : List Int) : Empt k (plan.set k l) := fun i l' hi hl => by
  rw [List.getElem?_set_ne (by omega)] at hl
  exact h i l' hi hl

theorem cov_full {n : Nat} {plan full : Plan} (h0 : 0 < plan.length) (hl : plan.flatten.length = n) : Cov n plan full ↔ (full = plan ∧ Compl n plan) := by
  constructor
  · rintro ⟨k, hk, he, h⟩
    exact (goes_full he hk hl).1 h
  · rintro h
    have he : Empt (plan.length - 1) plan := fun i l hi hl => by have := lt_of_idx hl; omega
    exact ⟨plan.length - 1, by omega, he, (goes_full he (by omega) hl).2 h⟩

theorem cov_step {n : Nat} {plan full : Plan} (hl : plan.flatten.length < n) :
    Cov n plan full ↔ ∃ (k : Nat) (l : List Int) (i : Nat), plan[k]? = some l ∧ Empt k plan ∧ i < n ∧ (i : Int) ∉ plan.flatten ∧ Cov n (plan.set k (l ++ [(i : Int)])) full := by
  constructor
  · rintro ⟨k, hk, he, h⟩
    have hgo : ∀ (d k : Nat), k + d = plan.length → k < plan.length → Empt k plan → (Compl n full ∧ Goes k plan full) →
        ∃ (k : Nat) (l : List Int) (i : Nat), plan[k]? = some l ∧ Empt k plan ∧ i < n ∧ (i : Int) ∉ plan.flatten ∧ Cov n (plan.set k (l ++ [(i : Int)])) full := by
      intro d
      induction d with
      | zero => intro k h1 h2; omega
      | succ d ih =>
        intro k h1 h2 he h
        have hkl := List.getElem?_eq_getElem h2
        rcases (goes_step he hkl hl).1 h with ⟨i, hi, hni, hc, hg⟩ | ⟨hk1, h⟩
        · exact ⟨k, _, i, hkl, he, hi, hni, k, by rw [List.length_set]; exact h2, he.set _, hc, hg⟩
        · exact ih (k + 1) (by omega) hk1 (he.mono (by omega)) h
    exact hgo (plan.length - k) k (by omega) hk he h
  · rintro ⟨k, l, i, hkl, he, hi, hni, k', hk', he', hc, hg⟩
    have hk := lt_of_idx hkl
    have hkk : k ≤ k' := by
      rcases Nat.lt_or_ge k' k with h | h
      · have := he' k (l ++ [(i : Int)]) h (by rw [List.getElem?_set_self hk])
        simp at this
      · exact h
    refine ⟨k, hk, he, (goes_step he hkl hl).2 (.inl ⟨i, hi, hni, hc, ?_⟩)⟩
    rcases Nat.lt_or_ge k k' with h | h
    · refine ⟨hg.len, fun q hq => hg.pre q (by omega), l ++ [(i : Int)], [], List.getElem?_set_self hk, ?_⟩
      rw [hg.pre k h, List.getElem?_set_self hk, List.append_nil]
    · obtain rfl : k = k' := by omega
      exact hg

/-! ### numbers below n -/
theorem nodup_len : ∀ (n : Nat) (l : List Int), l.Nodup → InJ n l → l.length ≤ n ∧ (l.length = n → ∀ i : Nat, i < n → (i : Int) ∈ l)
  | 0, l, _, hl => by
    cases l with
    | nil => exact ⟨by simp, fun _ i hi => by omega⟩
    | cons x r => have := hl x (List.mem_cons_self ..); omega
  | n + 1, l, hn, hl => by
    by_cases hx : (n : Int) ∈ l
    · have h1 := nodup_len n (l.erase (n : Int)) (hn.erase _) fun i hi => by
        have h2 := hn.mem_erase_iff.1 hi
        have := hl i h2.2
        have h3 := h2.1
        omega
      rw [List.length_erase_of_mem hx] at h1
      have hp : 0 < l.length := List.length_pos_of_mem hx
      refine ⟨by omega, fun h i hi => ?_⟩
      by_cases h4 : i = n
      · subst h4; exact hx
      · exact List.mem_of_mem_erase (h1.2 (by omega) i (by omega))
    · have h1 := nodup_len n l hn fun i hi => by
        have := hl i hi
        have : i ≠ n := fun h => hx (h ▸ hi)
        omega
      exact ⟨by omega, fun h => by omega⟩
theorem all_len {n : Nat} {l : List Int} (hn : l.Nodup) (hl : InJ n l) : l.length = n ↔ ∀ i : Nat, i < n → (i : Int) ∈ l := by
  refine ⟨(nodup_len n l hn hl).2, fun h => ?_⟩
  have h1 := (nodup_len n l hn hl).1
  rcases Nat.lt_or_ge l.length n with hlt | hge
  · exfalso
    have : ∀ (n : Nat) (l : List Int), (∀ i : Nat, i < n → (i : Int) ∈ l) → n ≤ l.length := by
      intro n
      induction n with
      | zero => intro l _; omega
      | succ n ih =>
        intro l h
        have hx := h n (by omega)
        have := ih (l.erase (n : Int)) fun i hi => (List.mem_erase_of_ne (by omega)).2 (h i (by omega))
        rw [List.length_erase_of_mem hx] at this
        have hp : 0 < l.length := List.length_pos_of_mem hx
        omega
    have := this n l h
    omega
  · omega

/-! ### what is written at places -/
def wrO (o : List Int) (ps : List (Int × Int)) : List Int := ps.foldl (fun o p => o.set p.1.toNat p.2) o
def sumF (F : Nat → Int → Int) (o : List Int) : Int := sumL ((List.range o.length).map fun i => F i (o.getD i 0))
theorem wrO_len (ps : List (Int × Int)) : ∀ o, (wrO o ps).length = o.length := by
  induction ps with
  | nil => intro o; rfl
  | cons p r ih => intro o; show (wrO (o.set p.1.toNat p.2) r).length = _; rw [ih, List.length_set]
theorem sumL_map_set (G : Nat → Int) (g : Int) (i : Nat) : ∀ n, i < n → sumL ((List.range n).map fun q => if q = i then g else G q) = sumL ((List.range n).map G) - G i + g := by
  intro n
  induction n with
  | zero => intro h; omega
  | succ n ih =>
    intro h
    rw [List.range_succ, List.map_append, List.map_append, sumL_app, sumL_app]
    simp only [List.map_cons, List.map_nil, sumL_one]
    by_cases hn : i = n
    · subst hn
      rw [if_pos rfl]
      have : (List.range i).map (fun q => if q = i then g else G q) = (List.range i).map G := by
        apply List.map_congr_left
        intro q hq
        rw [if_neg (by have := List.mem_range.1 hq; omega)]
      rw [this]; omega
    · rw [if_neg (by omega), ih (by omega)]; omega
theorem sumF_set (F : Nat → Int → Int) (o : List Int) (i : Nat) (v : Int) (hi : i < o.length) : sumF F (o.set i v) = sumF F o - F i (o.getD i 0) + F i v := by
  unfold sumF
  rw [List.length_set, ← sumL_map_set (fun q => F q (o.getD q 0)) (F i v) i o.length hi]
  congr 1
  apply List.map_congr_left
  intro q hq
  by_cases h : q = i
  · subst h
    rw [if_pos rfl, List.getD, List.getElem?_set_self hi]; rfl
  · rw [if_neg h, List.getD, List.getElem?_set_ne (by omega)]; rfl
theorem sum_wr (F : Nat → Int → Int) (hF : ∀ i, F i 0 = 0) : ∀ (ps : List (Int × Int)) (o : List Int), (ps.map (·.1)).Nodup → InJ o.length (ps.map (·.1)) → (∀ p ∈ ps, o.getD p.1.toNat 0 = 0) →
    sumF F (wrO o ps) = sumF F o + sumL (ps.map fun p => F p.1.toNat p.2)
  | [], o, _, _, _ => by simp [wrO, sumL]
  | p :: r, o, hn, hj, h0 => by
    rw [List.map_cons, List.nodup_cons] at hn
    have hp := hj p.1 (by simp)
    have ih := sum_wr F hF r (o.set p.1.toNat p.2) hn.2 (fun i hi => by rw [List.length_set]; exact hj i (by rw [List.map_cons]; exact List.mem_cons_of_mem _ hi)) fun q hq => by
      have hqp : q.1 ≠ p.1 := fun h => hn.1 (h ▸ List.mem_map.2 ⟨q, hq, rfl⟩)
      have hq1 := hj q.1 (List.mem_map.2 ⟨q, List.mem_cons_of_mem _ hq, rfl⟩)
      rw [List.getD, List.getElem?_set_ne (by omega)]
      exact h0 q (List.mem_cons_of_mem _ hq)
    show sumF F (wrO (o.set p.1.toNat p.2) r) = _
    rw [ih, sumF_set F o _ _ (by omega), h0 p (List.mem_cons_self ..), hF, List.map_cons]
    have : sumL (F p.1.toNat p.2 :: r.map fun p => F p.1.toNat p.2) = F p.1.toNat p.2 + sumL (r.map fun p => F p.1.toNat p.2) := rfl
    rw [this]; omega
theorem sumF_zero (F : Nat → Int → Int) (hF : ∀ i, F i 0 = 0) (n : Nat) : sumF F (List.replicate n 0) = 0 := by
  unfold sumF
  have : ∀ m, m ≤ n → sumL ((List.range m).map fun i => F i ((List.replicate n (0 : Int)).getD i 0)) = 0 := by
    intro m
    induction m with
    | zero => intro _; rfl
    | succ m ih =>
      intro hm
      rw [List.range_succ, List.map_append, sumL_app, ih (by omega)]
      simp only [List.map_cons, List.map_nil, sumL_one]
      rw [List.getD, List.getElem?_replicate, if_pos (by omega)]
      simp [hF]
  rw [List.length_replicate]; exact this n (Nat.le_refl _)

/-- jobs with their ends -/
def rowPs (j : List Job) (ch : Int) (pr : Prn) (l : List Int) : List (Int × Int) := l.zip (rowE j ch pr l)
def planPs (j : List Job) (ch : Int) : List Prn → Plan → List (Int × Int)
  | pr :: ps, l :: ls => rowPs j ch pr l ++ planPs j ch ps ls
  | _, _ => []
/-- when all jobs end -/
def endsO (j : List Job) (ch : Int) (p : List Prn) (plan : Plan) : List Int := wrO (List.replicate j.length 0) (planPs j ch p plan)

theorem rowPs_fst (pr : Prn) (l : List Int) : (rowPs j ch pr l).map (·.1) = l := by
  unfold rowPs
  rw [List.map_fst_zip]
  rw [rowE, endsC_len]; exact Nat.le_refl _
theorem rowPs_snd (pr : Prn) (l : List Int) : (rowPs j ch pr l).map (·.2) = rowE j ch pr l := by
  unfold rowPs
  rw [List.map_snd_zip]
  rw [rowE, endsC_len]; exact Nat.le_refl _
theorem planPs_fst : ∀ (p : List Prn) (plan : Plan), plan.length ≤ p.length → (planPs j ch p plan).map (·.1) = plan.flatten
  | [], [], _ => rfl
  | [], _ :: _, h => by simp at h
  | _ :: _, [], _ => rfl
  | pr :: ps, l :: ls, h => by
    simp only [planPs, List.map_append, List.flatten_cons, rowPs_fst]
    rw [planPs_fst ps ls (by simpa using h)]
theorem planPs_sum : ∀ (p : List Prn) (plan : Plan), sumL ((planPs j ch p plan).map (·.2)) = sumP j ch p plan
  | [], [] => rfl
  | [], _ :: _ => rfl
  | _ :: _, [] => rfl
  | pr :: ps, l :: ls => by
    simp only [planPs, List.map_append, sumL_app, rowPs_snd, sumP]
    rw [planPs_sum ps ls]
theorem planPs_last : ∀ (p : List Prn) (plan : Plan), mxL ((planPs j ch p plan).map (·.2)) = lastP j ch p plan
  | [], [] => rfl
  | [], _ :: _ => rfl
  | _ :: _, [] => rfl
  | pr :: ps, l :: ls => by
    simp only [planPs, List.map_append, mxL_app, rowPs_snd, lastP]
    rw [planPs_last ps ls]

theorem sumF_id (o : List Int) : sumF (fun _ v => v) o = sumL o := by
  unfold sumF
  congr 1
  apply List.ext_getElem?
  intro i
  rw [List.getElem?_map]
  by_cases hi : i < o.length
  · rw [List.getElem?_range hi, List.getElem?_eq_getElem hi]; simp [List.getD, List.getElem?_eq_getElem hi]
  · rw [List.getElem?_eq_none (by simp; omega), List.getElem?_eq_none (by omega)]; rfl

theorem ends_sumF (F : Nat → Int → Int) (hF : ∀ i, F i 0 = 0) {p : List Prn} {plan : Plan} (hl : plan.length ≤ p.length) (hn : plan.flatten.Nodup) (hj : InJ j.length plan.flatten) :
    sumF F (endsO j ch p plan) = sumL ((planPs j ch p plan).map fun q => F q.1.toNat q.2) := by
  unfold endsO
  rw [sum_wr F hF, sumF_zero F hF]
  · omega
  · rw [planPs_fst p plan hl]; exact hn
  · rw [planPs_fst p plan hl, List.length_replicate]; exact hj
  · intro q hq
    have := hj q.1 (by rw [← planPs_fst (j := j) (ch := ch) p plan hl]; exact List.mem_map.2 ⟨q, hq, rfl⟩)
    rw [List.getD, List.getElem?_replicate, if_pos (by omega)]; rfl
theorem ends_total {p : List Prn} {plan : Plan} (hl : plan.length ≤ p.length) (hn : plan.flatten.Nodup) (hj : InJ j.length plan.flatten) : sumL (endsO j ch p plan) = sumP j ch p plan := by
  rw [← sumF_id, ends_sumF _ (fun _ => rfl) hl hn hj, planPs_sum]

/-! ### the first least -/
def amin (f : Nat → Int) : Nat → Nat
  | 0 => 0
  | k + 1 => if f k < f (amin f k) then k else amin f k
theorem amin_lt (f : Nat → Int) : ∀ k, 0 < k → amin f k < k
  | 1, _ => by simp [amin]
  | k + 2, _ => by
    have := amin_lt f (k + 1) (by omega)
    unfold amin; split <;> omega

/-- the clock of a printer -/
def clkP (j : List Job) (ch : Int) (p : List Prn) (plan : Plan) (k : Nat) : Clk := runC j ch ⟨0, (p.getD k ⟨⟨#[]⟩, ⟨#[]⟩⟩).mat⟩ (plan.getD k [])
def gPlan (j : List Job) (ch : Int) (p : List Prn) : Nat → Plan
  | 0 => List.replicate p.length []
  | t + 1 =>
    let k := amin (fun k => ((clkP j ch p (gPlan j ch p t) k).go (jobAt j t) ch).fin) p.length
    (gPlan j ch p t).set k ((gPlan j ch p t).getD k [] ++ [(t : Int)])
theorem gPlan_len (p : List Prn) : ∀ t, (gPlan j ch p t).length = p.length
  | 0 => by simp [gPlan]
  | t + 1 => by simp only [gPlan, List.length_set]; exact gPlan_len p t

/-! ### orders -/
def iotaI (n : Nat) : List Int := (List.range n).map fun (i : Nat) => (i : Int)
/-- how late an order is -/
def lateO (j : List Job) (ch : Int) (c : Clk) (o : List Int) : Int := sumL ((o.zip (endsC j ch c o)).map fun q => max 0 (q.2 - (jobAt j q.1).due))
def updO (j : List Job) (ch : Int) (c : Clk) (st : Option (List Int × Int)) (o : List Int) : Option (List Int × Int) :=
  match st with
  | none => some (o, lateO j ch c o)
  | some x => if lateO j ch c o < x.2 then some (o, lateO j ch c o) else some x
def permF (j : List Job) (ch : Int) (c : Clk) : Nat → List Int → Option (List Int × Int) → Option (List Int × Int)
  | 0, o, st => updO j ch c st o
  | f + 1, o, st => ((iotaI j.length).filter fun i => decide (i ∉ o)).foldl (fun st i => permF j ch c f (o ++ [i]) st) st
end Go.Eng

/-! Contracts: keys; what is wrong with printers and jobs. -/
namespace Go.Eng
open Go
variable {c : Cfg}

def ePr (x : Prn) : List Value := [.string x.key, .string x.mat]
def eJb (x : Job) : List Value := [.string x.key, .string x.mat, vi x.mins, vi x.due]
def eCl (x : Clk) : List Value := [vi x.fin, .string x.mat]
theorem ePr_len : ∀ {l : List Prn}, ∀ x ∈ l, (ePr x).length = 2 := fun _ _ => rfl
theorem eJb_len : ∀ {l : List Job}, ∀ x ∈ l, (eJb x).length = 4 := fun _ _ => rfl
theorem eCl_len : ∀ {l : List Clk}, ∀ x ∈ l, (eCl x).length = 2 := fun _ _ => rfl

/-- what Go's library does for keys -/
structure Ext (c : Cfg) : Prop where
  str : c.P.underlying c.t_string = some .string
  trim : ∀ (s cut : ByteArray) (w : World), s.size ≤ 1000000 → cut.size ≤ 1000 → (∀ b ∈ cut.data.toList, b.toNat < 128) →
    Ret c.P c.f_strings_Trim #[.string s, .string cut] w fun v w' => Keep NoB w w' ∧ ∃ t, v = .string t ∧ (t.toList = [] ↔ ∀ b ∈ s.data.toList, b ∈ cut.data.toList)
  idx : ∀ (s : ByteArray) (b : UInt8) (w : World), Ret c.P c.f_strings_IndexByte #[.string s, .int .u8 b.toNat] w fun v w' => Keep NoB w w' ∧ ∃ r : Int, v = vi r ∧ (0 ≤ r ↔ b ∈ s.data.toList)

def smallL : ByteArray := Bs [97, 98, 99, 100, 101, 102, 103, 104, 105, 106, 107, 108, 109, 110, 111, 112, 113, 114, 115, 116, 117, 118, 119, 120, 121, 122]
def keyL : ByteArray := Bs [97, 98, 99, 100, 101, 102, 103, 104, 105, 106, 107, 108, 109, 110, 111, 112, 113, 114, 115, 116, 117, 118, 119, 120, 121, 122, 48, 49, 50, 51, 52, 53, 54, 55, 56, 57, 45, 95]
/-- a string that is a key -/
def keyP (s : ByteArray) : Prop := (1 ≤ s.size ∧ s.size ≤ 40) ∧ (∃ b, s.data.toList[0]? = some b ∧ b ∈ smallL.data.toList) ∧ ∀ b ∈ s.data.toList, b ∈ keyL.data.toList
noncomputable instance (s : ByteArray) : Decidable (keyP s) := Classical.propDecidable _

theorem eqB_nil (s : ByteArray) : eqB s (Bs []) = decide (s.toList = []) := by
  have : (Bs []).toList = [] := by simp [Bs]
  unfold eqB
  rw [this]
  cases s.toList <;> rfl
theorem size_nil (s : ByteArray) : s.toList = [] ↔ s.size = 0 := by
  rw [ByteArray.toList_eq]
  show _ ↔ s.data.size = 0
  rw [← Array.length_toList]
  exact List.length_eq_zero_iff.symm
theorem keyL_ascii : ∀ b ∈ keyL.data.toList, b.toNat < 128 := by decide
theorem first_byte {s : ByteArray} (h : 0 < s.size) : s.data.toList[0]? = some (s[0]'h) := by
  rw [Array.getElem?_toList]
  exact Array.getElem?_eq_getElem h
theorem take1 {s : ByteArray} (h : 0 < s.size) : s.extract 0 1 = ⟨#[s[0]'h]⟩ := by
  obtain ⟨⟨l⟩⟩ := s
  cases l with
  | nil => exact absurd h (by decide)
  | cons x r =>
    apply ByteArray.ext
    rw [ByteArray.data_extract]
    simp
    rfl

theorem isKey_spec (E : Eqs c) (X : Ext c) (s : ByteArray) (w : World) : Ret c.P c.f_kit_IsKey #[.string s] w fun v w' => Keep NoB w w' ∧ v = .bool (decide (keyP s)) := by
  apply E.kit_IsKey
  unfold wp_kit_IsKey
  refine s_join (s_neqS (s_guardT (fun h => s_lenS (s_leq (s_guardT (fun h40 => ?_) fun h40 => ?_))) fun h => ?_))
  · rw [eqB_nil] at h
    have h0 : 0 < s.size := by
      have : ¬ s.toList = [] := by simpa using h
      rw [size_nil] at this; omega
    have h40 : (s.size : Int) ≤ 40 := by simpa using h40
    refine s_strIx (i := 0) h0 ?_
    refine (X.idx smallL _ w).mono ?_
    rintro u w1 ⟨hk1, r, rfl, hr⟩
    refine s_geq (s_guardT (fun h1 => ?_) fun h1 => ?_)
    · have h1 := hr.1 (by simpa using h1)
      refine (X.trim s keyL w1 (by omega) (by decide) keyL_ascii).mono ?_
      rintro u2 w2 ⟨hk2, t, rfl, ht⟩
      refine s_eqS ?_
      intro j
      refine ⟨hk1.trans hk2, ?_⟩
      show Value.bool (eqB t (Bs [])) = _
      rw [eqB_nil]
      refine bool_dec ?_
      rw [ht]
      exact ⟨fun h => ⟨⟨h0, by omega⟩, ⟨_, first_byte h0, h1⟩, h⟩, fun h => h.2.2⟩
    · intro j
      refine ⟨hk1, ?_⟩
      show Value.bool false = _
      have : ¬ keyP s := fun hk => by
        obtain ⟨b, hb, hm⟩ := hk.2.1
        rw [first_byte h0] at hb; cases hb
        have := hr.2 hm
        simp at h1; omega
      simp [this]
  · intro j
    refine ⟨Keep.refl _ _, ?_⟩
    show Value.bool false = _
    have h40 : ¬ (s.size : Int) ≤ 40 := by simpa using h40
    have : ¬ keyP s := fun hk => by have := hk.1; omega
    simp [this]
  · intro j
    refine ⟨Keep.refl _ _, ?_⟩
    show Value.bool false = _
    rw [eqB_nil] at h
    have h0 : s.size = 0 := by rw [← size_nil]; simpa using h
    have : ¬ keyP s := fun hk => by have := hk.1; omega
    simp [this]

end Go.Eng

/-! Contracts: comparing and copying lists of numbers; clocks. -/
namespace Go.Eng
open Go
variable {c : Cfg}

/-- slices.Clone, whatever lies in the slice -/
theorem s_clone {P : Program} {α : Type} {D : Nat → Prop} {t e : TypeId} {sz by_ : Nat} {z : List Value} {enc : α → List Value} {w : World} {lv : Value} {l : List α} {ox oy : Operand} {tr : TypeId} {K : Value → World → Prop}
    (hT : SliceT P t e sz by_ z) (hsz : ∀ y ∈ l, (enc y).length = sz) (hone : ∀ y ∈ l, (enc y).all Eng.one = true) (hl : Sl D enc w lv l) (hb : l.length ≤ 1000000)
    (hK : ∀ v' w', Grow w e sz enc w' v' l → K v' w') :
    pureP P (do eqGuard .eql t ox oy lv (.slice none 0 0); binOp .eql t lv (.slice none 0 0)) fun v4 =>
      condP v4 (K (.slice none 0 0) w) (semP P (Instr.buildSlice t 0 #[]) w fun v5 w1 => semP P (Builtin.append_ #[t, t] tr #[v5, lv]) w1 fun v7 w2 => K v7 w2) := by
  have hl0 := hl
  obtain ⟨a, cap, rfl, hcap, hne⟩ := hl0
  refine s_isnil hT.und (s_cond (fun h => ?_) fun h => ?_)
  · have : l = [] := by
      cases l with
      | nil => rfl
      | cons x r => obtain ⟨b, o, rfl, _⟩ := hne (by simp); cases h
    subst this
    exact hK _ _ Grow.nil
  · refine s_lit (w := w) (enc := enc) hT [] ([] : List α) rfl rfl rfl (fun y hy => by cases hy) (by omega) (by omega) fun b w1 hg hk _ => ?_
    exact hg.app hT (hl.keep0 hk) hsz hone (by simp; omega) fun v' w2 hg2 _ _ => hK _ _ (by simpa using hg2)

/-- the type rows that plans use -/
structure TyF (c : Cfg) : Prop extends TyB c where
  ssl_int : SliceT c.P c.t_sl_sl_int c.t_sl_int 1 24 [.slice none 0 0]
  st_clock : StructT c.P c.t_farm_clock [(0, 1), (1, 1)] [vi 0, .string (Bs [])]
  sl_prn : SliceT c.P c.t_sl_api_Printer c.t_api_Printer 2 32 [.string (Bs []), .string (Bs [])]
  sl_job : SliceT c.P c.t_sl_api_Job c.t_api_Job 4 48 [.string (Bs []), .string (Bs []), vi 0, vi 0]
  st_prn : StructT c.P c.t_api_Printer [(0, 1), (1, 1)] [.string (Bs []), .string (Bs [])]
  st_job : StructT c.P c.t_api_Job [(0, 1), (1, 1), (2, 1), (3, 1)] [.string (Bs []), .string (Bs []), vi 0, vi 0]
  bool : c.P.underlying c.t_bool = some .bool

theorem eI_one : ∀ {l : List Int}, ∀ x ∈ l, (eI x).all Eng.one = true := fun _ _ => rfl
theorem isNaN_spec (E : Eqs c) (a : Int) (w : World) : Ret c.P c.f_cmp_isNaN_int #[vi a] w fun u w' => w' = w ∧ u = .bool false := by
  apply E.cmp_isNaN_int
  unfold wp_cmp_isNaN_int
  exact s_neq ⟨rfl, by simp⟩
theorem compareI_spec (E : Eqs c) (a b : Int) (w : World) : Ret c.P c.f_cmp_Compare_int #[vi a, vi b] w fun u w' => w' = w ∧ u = vi (cmpI a b) := by
  apply E.cmp_Compare_int
  unfold wp_cmp_Compare_int
  refine (isNaN_spec E a w).mono ?_
  rintro u w' ⟨rfl, rfl⟩
  refine (isNaN_spec E b _).mono ?_
  rintro u w' ⟨rfl, rfl⟩
  refine s_condF rfl (s_condF rfl (s_lss (s_condD (fun h => ⟨rfl, by simp [cmpI, h]⟩) fun h => s_gtr (s_condD (fun h2 => ⟨rfl, by simp [cmpI, h, h2]⟩) fun h2 => ⟨rfl, by simp [cmpI, h, h2]⟩))))

theorem cmpList_drop {α : Type} {f : α → α → Int} : ∀ (i : Nat) (a b : List α), (∀ k, k < i → ∃ x y, a[k]? = some x ∧ b[k]? = some y ∧ f x y = 0) → cmpList f a b = cmpList f (a.drop i) (b.drop i)
  | 0, a, b, _ => rfl
  | i + 1, a, b, h => by
    obtain ⟨x, y, h1, h2, h3⟩ := h 0 (by omega)
    cases a with
    | nil => simp at h1
    | cons x' r =>
      cases b with
      | nil => simp at h2
      | cons y' t =>
        simp at h1 h2; subst h1; subst h2
        rw [List.drop_succ_cons, List.drop_succ_cons, ← cmpList_drop i r t fun k hk => by simpa using h (k + 1) (by omega)]
        simp [cmpList, h3]
theorem cmpList_at {α : Type} {f : α → α → Int} {i : Nat} {a b : List α} {x y : α} (h : ∀ k, k < i → ∃ x y, a[k]? = some x ∧ b[k]? = some y ∧ f x y = 0) (hx : a[i]? = some x) (hy : b[i]? = some y) (hne : f x y ≠ 0) : cmpList f a b = f x y := by
  rw [cmpList_drop i a b h, List.drop_eq_getElem_cons (lt_of_idx hx), List.drop_eq_getElem_cons (lt_of_idx hy)]
  rw [List.getElem?_eq_getElem (lt_of_idx hx)] at hx
  rw [List.getElem?_eq_getElem (lt_of_idx hy)] at hy
  rw [Option.some.inj hx, Option.some.inj hy]
  simp [cmpList, hne]
theorem cmpList_more {α : Type} {f : α → α → Int} {i : Nat} {a b : List α} (h : ∀ k, k < i → ∃ x y, a[k]? = some x ∧ b[k]? = some y ∧ f x y = 0) (hx : i < a.length) (hy : b.length = i) : cmpList f a b = 1 := by
  rw [cmpList_drop i a b h, List.drop_eq_getElem_cons hx, List.drop_eq_nil_of_le (as := b) (by omega)]
  simp [cmpList]
theorem cmpList_end {α : Type} {f : α → α → Int} {a b : List α} (h : ∀ k, k < a.length → ∃ x y, a[k]? = some x ∧ b[k]? = some y ∧ f x y = 0) : cmpList f a b = if a.length < b.length then -1 else 0 := by
  rw [cmpList_drop a.length a b h, List.drop_eq_nil_of_le (Nat.le_refl _)]
  have hle : a.length ≤ b.length := by
    rcases Nat.lt_or_ge b.length a.length with hlt | hge
    · obtain ⟨x, y, _, h2, _⟩ := h b.length hlt
      simp at h2
    · exact hge
  by_cases hlt : a.length < b.length
  · rw [if_pos hlt, List.drop_eq_getElem_cons hlt]; rfl
  · rw [if_neg hlt, List.drop_eq_nil_of_le (by omega)]; rfl

/-- a function value compares rows -/
def TellsC (P : Program) (fv : Value) (w : World) : Prop := ∀ (D D' : Nat → Prop) (av bv : Value) (a b : List Int) (w' : World), Keep NoB w w' → Sl D eI w' av a → Sl D' eI w' bv b →
  callV P fv #[av, bv] w' fun v w'' => Keep NoB w' w'' ∧ v = vi (cmpList cmpI a b)

/-- a function value tells whether rows are equal -/
def TellsE (P : Program) (fv : Value) (w : World) : Prop := ∀ (D D' : Nat → Prop) (av bv : Value) (a b : List Int) (w' : World), Keep NoB w w' → Sl D eI w' av a → Sl D' eI w' bv b →
  callV P fv #[av, bv] w' fun v w'' => Keep NoB w' w'' ∧ ∃ r : Bool, v = .bool r ∧ (r = true ↔ a = b)

theorem change_spec (E : Eqs c) (n : Int) (w : World) : Ret c.P c.f_farm_isChange #[vi n] w fun u w' => w' = w ∧ u = .bool (decide (0 ≤ n ∧ n ≤ 100000)) := by
  apply E.farm_isChange
  unfold wp_farm_isChange
  refine (outside_spec E _ _ _ w).mono ?_
  rintro u w' ⟨rfl, rfl⟩
  refine s_not ⟨rfl, ?_⟩
  by_cases h : 0 ≤ n ∧ n ≤ 100000
  · have : ¬ (n < 0 ∨ 100000 < n) := by omega
    simp [h, this]
  · have : n < 0 ∨ 100000 < n := by omega
    simp [h, this]
theorem sumL_take {l : List Int} {i : Nat} {x : Int} (h : l[i]? = some x) : sumL (l.take (i + 1)) = sumL (l.take i) + x := by
  rw [take_snoc h, sumL_app, sumL_one]
theorem sumL_bd {l : List Int} {m : Int} (hm : 0 ≤ m) (h : ∀ x ∈ l, 0 ≤ x ∧ x ≤ m) : 0 ≤ sumL l ∧ sumL l ≤ m * l.length := by
  induction l with
  | nil => simp [sumL]
  | cons x r ih =>
    have h1 := h x (List.mem_cons_self ..)
    have h2 := ih fun y hy => h y (List.mem_cons_of_mem _ hy)
    have e : sumL (x :: r) = x + sumL r := rfl
    rw [e, List.length_cons, Int.natCast_add, Int.mul_add]
    omega
/-! ### clocks -/
theorem do_spec (E : Eqs c) (F : TyF c) (k : Clk) (x : Job) (ch : Int) (w : World) (h1 : 0 ≤ k.fin) (h2 : k.fin ≤ 1000000000000) (h3 : 0 ≤ ch) (h4 : ch ≤ 100000) (h5 : 0 ≤ x.mins) (h6 : x.mins ≤ 100000) :
    Ret c.P c.f_farm_clock_do #[.agg (eCl k).toArray, .agg (eJb x).toArray, vi ch] w fun u w' => Keep NoB w w' ∧ u = .agg (eCl (k.go x ch)).toArray := by
  apply E.farm_clock_do
  unfold wp_farm_clock_do
  refine s_new (cs := eCl k) fun b1 w1 hat1 hk1 hb1 hs1 => ?_
  refine s_new (cs := eJb x) fun b2 w2 hat2 hk2 hb2 hs2 => ?_
  refine s_new (cs := [vi 0, .string (Bs [])]) fun b3 w3 hat3 hk3 hb3 hs3 => ?_
  have hat1 := (hat1.keep0 hk2).keep0 hk3
  have hat2 := hat2.keep0 hk3
  refine s_off (s_ldAt hat1 rfl (s_off (s_ldAt hat2 rfl (s_neqS ?_))))
  have hgo : ∀ (f : Int) (w4 : World), f = k.fin + (if eqB k.mat x.mat then 0 else ch) → At w4 b1 [vi f, .string k.mat] c.t_farm_clock → At w4 b2 (eJb x) c.t_api_Job → At w4 b3 [vi 0, .string (Bs [])] c.t_farm_clock → Keep NoB w w4 → w3.heap.size ≤ w4.heap.size →
      offP 0 (pb b1 0) fun v17 => ld v17 w4 fun v18 => offP 2 (pb b2 0) fun v19 => ld v19 w4 fun v20 => binP .add v18 v20 fun v21 => offP 1 (pb b2 0) fun v22 => ld v22 w4 fun v23 =>
        pureP c.P (Instr.build c.t_farm_clock #[(0, v21), (1, v23)]) fun v24 => stA 2 (pb b3 0) v24 w4 fun w6 => ldA 2 (pb b3 0) w6 fun v6_1 => Keep NoB w w6 ∧ v6_1 = .agg (eCl (k.go x ch)).toArray := by
    intro f w4 hf a1 a2 a3 hk hs
    have : 0 ≤ f ∧ f ≤ 1000000100000 := by subst hf; split <;> omega
    refine s_off (s_ldAt a1 rfl (s_off (s_ldAt a2 rfl (s_add (by omega) (by omega) (s_off (s_ldAt a2 rfl ?_))))))
    refine s_build F.st_clock (cells := [vi (f + x.mins), .string x.mat]) rfl ?_
    refine s_stA (vs := [vi (f + x.mins), .string x.mat]) a3 rfl rfl rfl fun w6 a6 hk6 _ => ?_
    refine s_ldAAt a6 rfl ⟨hk.new hk6 fun i hi => .inr (by have := hk1.size; have := hk2.size; omega), ?_⟩
    rw [hf]; rfl
  refine s_join (s_cond (fun h => ?_) fun h => ?_)
  · have h : eqB k.mat x.mat = false := by simpa using h
    refine s_off (s_ldAt hat1 rfl (s_add (by omega) (by omega) (s_off (s_st hat1 (by simp [eCl]) rfl fun w5 hat5 hk5 hs5 => ?_))))
    intro j
    refine hgo (k.fin + ch) w5 (by rw [h]; rfl) hat5 (hat2.keep hk5 (by omega)) (hat3.keep hk5 (by omega)) (((hk1.trans hk2).trans hk3).new hk5 fun i hi => .inr (by omega)) (by omega)
  · have h : eqB k.mat x.mat = true := by simpa using h
    intro j
    refine hgo k.fin w3 (by rw [h]; simp) hat1 hat2 hat3 ((hk1.trans hk2).trans hk3) (Nat.le_refl _)
end Go.Eng

/-! Contracts: when jobs end. -/
namespace Go.Eng
open Go
variable {c : Cfg}

theorem runC_take {j : List Job} {ch : Int} {k : Clk} {o : List Int} {i : Nat} {x : Int} (h : o[i]? = some x) : runC j ch k (o.take (i + 1)) = (runC j ch k (o.take i)).go (jobAt j x) ch := by
  rw [take_snoc h, runC_snoc]
theorem endsC_take {j : List Job} {ch : Int} {k : Clk} {o : List Int} {i : Nat} {x : Int} (h : o[i]? = some x) :
    endsC j ch k (o.take (i + 1)) = endsC j ch k (o.take i) ++ [(runC j ch k (o.take (i + 1))).fin] := by
  rw [runC_take h, take_snoc h, endsC_app]; rfl
theorem InJ.take {n : Nat} {o : List Int} (h : InJ n o) (i : Nat) : InJ n (o.take i) := fun x hx => h x (List.mem_of_mem_take hx)

end Go.Eng

/-! Contracts: when all jobs of a plan end. -/
namespace Go.Eng
open Go
variable {c : Cfg}

theorem planPs_take {j : List Job} {ch : Int} : ∀ (p : List Prn) (plan : Plan) (i : Nat) (pr : Prn) (l : List Int), p[i]? = some pr → plan[i]? = some l →
    planPs j ch (p.take (i + 1)) (plan.take (i + 1)) = planPs j ch (p.take i) (plan.take i) ++ rowPs j ch pr l
  | [], _, i, pr, l, h, _ => by simp at h
  | _ :: _, [], i, pr, l, _, h => by simp at h
  | q :: ps, m :: ls, 0, pr, l, h1, h2 => by
    simp at h1 h2; subst h1; subst h2
    simp [planPs]
  | q :: ps, m :: ls, i + 1, pr, l, h1, h2 => by
    rw [List.take_succ_cons, List.take_succ_cons, List.take_succ_cons, List.take_succ_cons]
    simp only [planPs]
    rw [planPs_take ps ls i pr l (by simpa using h1) (by simpa using h2), List.append_assoc]
theorem wrO_snoc (o : List Int) (ps : List (Int × Int)) (q : Int × Int) : wrO o (ps ++ [q]) = (wrO o ps).set q.1.toNat q.2 := by
  unfold wrO; rw [List.foldl_append]; rfl
theorem mxL_snoc (ps : List (Int × Int)) (q : Int × Int) : mxL ((ps ++ [q]).map (·.2)) = max (mxL (ps.map (·.2))) q.2 := by
  rw [List.map_append, mxL_app]
  show max _ (max q.2 0) = _
  have := mxL_nonneg (ps.map (·.2))
  omega
theorem rowPs_get {j : List Job} {ch : Int} {pr : Prn} {l : List Int} {k : Nat} {x : Int} (h : l[k]? = some x) : (rowPs j ch pr l)[k]? = some (x, (runC j ch ⟨0, pr.mat⟩ (l.take (k + 1))).fin) := by
  unfold rowPs
  have h2 : (rowE j ch pr l)[k]? = some (runC j ch ⟨0, pr.mat⟩ (l.take (k + 1))).fin := by
    have e : rowE j ch pr l = rowE j ch pr (l.take (k + 1)) ++ endsC j ch (runC j ch ⟨0, pr.mat⟩ (l.take (k + 1))) (l.drop (k + 1)) := by
      unfold rowE
      rw [← endsC_app, List.take_append_drop]
    have hkl := lt_of_idx h
    rw [e]
    have hlen : (rowE j ch pr (l.take (k + 1))).length = k + 1 := by rw [rowE, endsC_len, List.length_take]; omega
    rw [List.getElem?_append_left (by omega)]
    unfold rowE
    rw [endsC_take h, List.getElem?_append_right (by rw [endsC_len, List.length_take]; omega), endsC_len, List.length_take, show k - min k l.length = 0 from by omega]
    rfl
  rw [List.zip, List.getElem?_zipWith, h, h2]

/-- a plan that can be read: right indices, not too many -/
structure POk (n : Nat) (plan : Plan) : Prop where
  inJ : ∀ l ∈ plan, InJ n l
  len : ∀ l ∈ plan, l.length ≤ 1000000

theorem ends_spec (E : Eqs c) (F : TyF c) {D D' D2 : Nat → Prop} {pv jv lv : Value} {p : List Prn} {j : List Job} {plan : Plan} {ch : Int} {w : World} (hp : Sl D ePr w pv p) (hj : Sl D' eJb w jv j) (hl : S2 D2 eI w lv plan)
    (hok : JOk j ch) (hpok : POk j.length plan) (hpl : plan.length = p.length) :
    Ret c.P c.f_farm_ends #[pv, jv, lv, vi ch] w fun u w' => Keep NoB w w' ∧ ∃ ov, u = .tuple #[ov, vi (lastP j ch p plan)] ∧ Sl (Fresh w) eI w' ov (endsO j ch p plan) := by
  have hp := hp.lt; have hj := hj.lt; have hl := hl.lt
  have hjl := hok.len
  have hlb := hl.bound
  apply E.farm_ends
  unfold wp_farm_ends
  refine hj.len (s_mkslice F.sl_int (by omega) fun b w1 hat hk1 hb hs => ?_)
  have hia := ia_new hat
  refine (hl.keep0 hk1).len ?_
  refine s_for plan.length (fun i (_ : Unit) => [vi (mxL ((planPs j ch (p.take i) (plan.take i)).map (·.2))), vi i])
    (fun i _ w' => Keep (· = b) w1 w' ∧ IA c w' b (wrO (List.replicate j.length 0) (planPs j ch (p.take i) (plan.take i)))) () (by simp [planPs, mxL]) ⟨Keep.refl _ _, by simpa [planPs, wrO] using hia⟩ ?_
  rintro i _ w2 jj nx ⟨hk2, hia⟩ hin hnx
  have hk02 : Keep NoB w w2 := hk1.new hk2 fun q hq => .inr (by omega)
  have hsz2 := hk2.size
  refine s_lss (s_condD (fun hlt => ?_) fun hge => ?_)
  rotate_left
  · obtain rfl : i = plan.length := by omega
    have e : planPs j ch (p.take plan.length) (plan.take plan.length) = planPs j ch p plan := by rw [List.take_length, hpl, List.take_length]
    rw [e] at hia
    show Keep NoB w w2 ∧ ∃ ov, Value.tuple #[_, vi (mxL ((planPs j ch (p.take plan.length) (plan.take plan.length)).map (·.2)))] = _ ∧ _
    rw [e]
    exact ⟨hk02, _, by rw [planPs_last], hia.sl (by rw [wrO_len, List.length_replicate]) (Nat.le_refl _) (by omega) (by show w.heap.size ≤ b; omega)⟩
  have hil := ofInt_lt hlt
  obtain ⟨l, hlr⟩ := idx_of_lt hil
  obtain ⟨pr, hpr⟩ := idx_of_lt (show i < p.length by omega)
  have hlj := hpok.inJ l (List.mem_of_getElem? hlr)
  have hlm := hpok.len l (List.mem_of_getElem? hlr)
  refine (hl.keep0 hk02).get hlr fun hd hsl => ?_
  refine (hp.keep0 hk02).idx (sz := 2) ePr_len hpr fun bp op _ _ hcp => s_off (s_ld (hcp 1 _ rfl) ?_)
  refine s_build F.st_clock (cells := [vi 0, .string pr.mat]) rfl ?_
  refine s_var rfl rfl rfl fun bc w4 hatc hkc hbc hsc => ?_
  have hsl4 := hsl.keep0 hkc
  have hia4 : IA c w4 b _ := At.keep0 hia hkc
  have hpt := planPs_take (j := j) (ch := ch) p plan i pr l hpr hlr
  generalize hdone : planPs j ch (p.take i) (plan.take i) = dn at *
  refine hsl4.len ?_
  refine s_for l.length (fun k (_ : Unit) => [vi (mxL ((dn ++ (rowPs j ch pr l).take k).map (·.2))), vi k])
    (fun k _ w' => Keep (fun q => q = b ∨ q = bc) w4 w' ∧ IA c w' b (wrO (List.replicate j.length 0) (dn ++ (rowPs j ch pr l).take k)) ∧ At w' bc (eCl (runC j ch ⟨0, pr.mat⟩ (l.take k))) c.t_farm_clock) () (by rw [List.take_zero, List.append_nil]; rfl) ⟨Keep.refl _ _, by simpa using hia4, hatc⟩ ?_
  rintro k _ w5 j5 nx5 ⟨hk5, hia5, hat5⟩ hkn hnx5
  have hk45 := hk5.size
  have hk05 : Keep NoB w w5 := (hk02.trans hkc).new hk5 fun q hq => .inr (by rcases hq with h | h <;> omega)
  refine s_lss (s_condD (fun hlt2 => ?_) fun hge2 => ?_)
  rotate_left
  · obtain rfl : k = l.length := by omega
    have e : (rowPs j ch pr l).take l.length = rowPs j ch pr l := List.take_of_length_le (by unfold rowPs; rw [List.length_zip, rowE, endsC_len]; omega)
    refine s_add (by omega) (by omega) ?_
    have := hnx () w5 hil ⟨(hk2.trans hkc.none).new hk5 fun q hq => hq.elim (fun h => .inl h) (fun h => .inr (by omega)), by rw [hpt]; rw [e] at hia5; exact hia5⟩
    rw [hpt] at this
    show nx [vi (mxL ((dn ++ (rowPs j ch pr l).take l.length).map (·.2))), _] w5
    rw [e]
    exact this
  have hkl := ofInt_lt hlt2
  obtain ⟨x, hx⟩ := idx_of_lt hkl
  have hrg := rowPs_get (j := j) (ch := ch) (pr := pr) hx
  have hxr := hlj x (List.mem_of_getElem? hx)
  obtain ⟨q, rfl⟩ := Int.eq_ofNat_of_zero_le hxr.1
  obtain ⟨y, hy⟩ := idx_of_lt (show q < j.length by omega)
  have hjy := jobAt_get hy
  have hyb := hok.mins y (List.mem_of_getElem? hy)
  have hsl5 := hsl4.keep hk5 fun q hq h => by have hq : q < w.heap.size := hq; rcases h with h | h <;> omega
  refine hsl5.idx (sz := 1) eI_len hx fun b6 o6 _ _ hc6 => s_ldC0 hc6 ?_
  have hrt := runC_take (j := j) (ch := ch) (k := ⟨0, pr.mat⟩) hx
  rw [hjy] at hrt
  have hbd := runC_bd hok (l.take k) ⟨0, pr.mat⟩ (hlj.take k)
  have hbl : (l.take k).length ≤ 1000000 := by rw [List.length_take]; omega
  have hfin0 : (Clk.mk 0 pr.mat).fin = 0 := rfl
  rw [hfin0] at hbd
  refine s_ldAAt hat5.drew rfl ?_
  refine (hj.keep0 hk05).drew.idx (sz := 4) eJb_len hy fun b7 o7 _ _ hc7 => s_ldA hc7 rfl ?_
  refine (do_spec E F (runC j ch ⟨0, pr.mat⟩ (l.take k)) y ch w5.drew (by omega) (by omega) hok.ch0 hok.ch1 (by omega) (by omega)).mono ?_
  rintro u w6 ⟨hk6, rfl⟩
  rw [← hrt]
  refine s_stA (vs := eCl (runC j ch ⟨0, pr.mat⟩ (l.take (k + 1)))) (hat5.drew.keep0 hk6) rfl rfl rfl fun w7 hat7 hk7 hs7 => ?_
  have hk57 : Keep (fun q => q = b ∨ q = bc) w5 w7 := ((keep_drew _ w5).trans hk6.none).trans (hk7.mono fun q h => .inr h)
  refine s_off (s_ldAt hat7 rfl ?_)
  have hia7 : IA c w7 b _ := At.keep (At.keep0 (At.drew hia5) hk6) hk7 (by omega)
  refine hia7.put (by rw [wrO_len, List.length_replicate]) (by rw [wrO_len, List.length_replicate]; omega) fun w8 hia8 hk8 hs8 => ?_
  have hat8 := hat7.keep hk8 (by omega)
  refine s_off (s_ldAt hat8 rfl ?_)
  refine s_max2 (s_add (by omega) (by omega) ?_)
  have hts : (rowPs j ch pr l).take (k + 1) = (rowPs j ch pr l).take k ++ [((q : Int), (runC j ch ⟨0, pr.mat⟩ (l.take (k + 1))).fin)] := take_snoc hrg
  have := hnx5 () w8 hkl ⟨(hk5.trans hk57).trans (hk8.mono fun q h => .inl h), by rw [hts, ← List.append_assoc, wrO_snoc]; exact hia8, hat8⟩
  rw [hts, ← List.append_assoc, mxL_snoc] at this
  exact this
end Go.Eng

/-! Contracts: what is wrong with printers, jobs, plans. (printed by mkH5.py) -/
namespace Go.Eng
open Go
variable {c : Cfg}

noncomputable def prnAt (l : List Prn) (i : Nat) : Int := match l[i]? with
  | some x => if ¬ (keyP x.key ∧ keyP x.mat) then 5 else if 0 < i ∧ leB x.key (l.getD (i - 1) ⟨⟨#[]⟩, ⟨#[]⟩⟩).key = true then 7 else 0
  | none => 0
noncomputable def prnF (l : List Prn) : Int := if l.length = 0 then 8 else if 50 < l.length then 2 else firstNZ ((List.range l.length).map (prnAt l))
noncomputable def jobFA (l : List Job) (i : Nat) : Int := match l[i]? with
  | some x => if ¬ (keyP x.key ∧ keyP x.mat) then 5 else if ¬ ((1 ≤ x.mins ∧ x.mins ≤ 100000) ∧ (0 ≤ x.due ∧ x.due ≤ 1000000000)) then 1 else if 0 < i ∧ leB x.key (l.getD (i - 1) job0).key = true then 7 else 0
  | none => 0
noncomputable def jobF (l : List Job) : Int := if 500 < l.length then 2 else firstNZ ((List.range l.length).map (jobFA l))

theorem getD_pred {α : Type} {l : List α} {i : Nat} {d x : α} (h : l[i]? = some x) : l.getD i d = x := by rw [List.getD, h]; rfl

theorem checkPrn_spec (E : Eqs c) (X : Ext c) {D : Nat → Prop} {lv : Value} {l : List Prn} {w : World} (hl : Sl D ePr w lv l) :
    Ret c.P c.f_farm_CheckPrinters #[lv] w fun u w' => Keep NoB w w' ∧ u = vi (prnF l) := by
  have hl := hl.lt
  have hlb := hl.bound
  apply E.farm_CheckPrinters
  unfold wp_farm_CheckPrinters prnF
  refine hl.len (s_eql (s_condD (fun h => ⟨Keep.refl _ _, by rw [if_pos (by omega)]⟩) fun h => ?_))
  rw [if_neg (by omega)]
  refine hl.len (s_gtr (s_condD (fun h => ⟨Keep.refl _ _, by rw [if_pos (by omega)]⟩) fun h => ?_))
  rw [if_neg (by omega)]
  refine hl.len ?_
  refine s_range l.length (fun i w' => Keep NoB w w' ∧ ∀ q, q < i → prnAt l q = 0) ⟨Keep.refl _ _, fun _ h => by omega⟩ ?_
  rintro i w1 j nx ⟨hk, h0⟩ hin hnx
  refine s_lss (s_condD (fun hlt => ?_) fun hge => ?_)
  rotate_left
  · obtain rfl : i = l.length := by omega
    exact ⟨hk, by rw [fnz_all h0]⟩
  have hil := ofInt_lt hlt
  obtain ⟨x, hx⟩ := idx_of_lt hil
  refine (hl.keep0 hk).idx (sz := 2) ePr_len hx fun b o _ _ hc => s_ldA hc rfl ?_
  refine s_var rfl rfl rfl fun b4 w3 hat3 hk3 hb4 _ => ?_
  have hk03 := hk.trans hk3
  have hbad : ∀ (w4 : World) (e : Int), Keep NoB w3 w4 → prnAt l i = e → e ≠ 0 → Keep NoB w w4 ∧ vi e = vi (firstNZ ((List.range l.length).map (prnAt l))) := fun w4 e hk4 he hne =>
    ⟨hk03.trans hk4, by rw [fnz_at h0 hil (by omega), he]⟩
  have hat : ∀ e : Int, (match l[i]? with | some x => if ¬ (keyP x.key ∧ keyP x.mat) then (5 : Int) else if 0 < i ∧ leB x.key (l.getD (i - 1) ⟨⟨#[]⟩, ⟨#[]⟩⟩).key = true then 7 else 0 | none => 0) = e → prnAt l i = e := fun e h => h
  rw [hx] at hat
  simp only [] at hat
  refine s_join (s_off (s_ldAt hat3 rfl ?_))
  refine (isKey_spec E X x.key w3).mono ?_
  rintro u w5 ⟨hk5, rfl⟩
  refine s_not (s_guardF (fun hkey => ?_) fun hkey => ?_)
  · refine s_off (s_ldAt (hat3.keep0 hk5) rfl ?_)
    refine (isKey_spec E X x.mat w5).mono ?_
    rintro u w6 ⟨hk6, rfl⟩
    have hk56 := hk5.trans hk6
    refine s_not ?_
    intro j1
    refine s_cond (fun hm => hbad _ 5 hk56 (hat 5 (if_pos fun hh => by have := hh.2; simp at hm; exact hm this)) (by omega)) fun hm => ?_
    have hok : ¬ ¬ (keyP x.key ∧ keyP x.mat) := fun hn => hn ⟨by simpa using hkey, by simpa using hm⟩
    have hat3 := hat3.keep0 hk56
    refine s_join (s_gtr (s_guardT (fun hi0 => ?_) fun hi0 => ?_))
    · have hi0 : 0 < i := by simp at hi0; omega
      obtain ⟨y, hy⟩ := idx_of_lt (show i - 1 < l.length by omega)
      refine s_off (s_ldAt hat3.drew rfl (s_sub (by omega) (by omega) ?_))
      rw [show ((i : Int) - 1) = ((i - 1 : Nat) : Int) from by omega]
      refine ((hl.keep0 (hk03.trans hk56)).drew).idx (sz := 2) ePr_len hy fun b2 o2 _ _ hc2 => s_off (s_ld (hc2 0 _ rfl) (s_leqS ?_))
      intro j2
      refine s_cond (fun hle => hbad _ 7 hk56.drew (hat 7 ?_) (by omega)) fun hle => ?_
      · rw [if_neg hok, getD_pred hy, if_pos ⟨hi0, hle⟩]
      · refine s_add (by omega) (by omega) (hnx _ hil ⟨hk03.trans hk56.drew, fun q hq => ?_⟩)
        rcases Nat.lt_or_ge q i with h | h
        · exact h0 q h
        · obtain rfl : q = i := by omega
          refine hat 0 ?_
          have hle : leB x.key y.key = false := hle
          rw [if_neg hok, getD_pred hy, hle]; simp
    · intro j2
      have hi0 : i = 0 := by simp at hi0; omega
      refine s_condF rfl (s_add (by omega) (by omega) (hnx _ hil ⟨hk03.trans hk56.drew, fun q hq => ?_⟩))
      obtain rfl : q = i := by omega
      refine hat 0 ?_
      rw [if_neg hok, if_neg (by omega)]
  · intro j1
    exact s_condT rfl (hbad _ 5 hk5 (hat 5 (if_pos fun hh => by have := hh.1; simp at hkey; exact hkey this)) (by omega))

theorem checkJob_spec (E : Eqs c) (X : Ext c) {D : Nat → Prop} {lv : Value} {l : List Job} {w : World} (hl : Sl D eJb w lv l) :
    Ret c.P c.f_farm_CheckJobs #[lv] w fun u w' => Keep NoB w w' ∧ u = vi (jobF l) := by
  have hl := hl.lt
  have hlb := hl.bound
  apply E.farm_CheckJobs
  unfold wp_farm_CheckJobs jobF
  refine hl.len (s_gtr (s_condD (fun h => ⟨Keep.refl _ _, by rw [if_pos (by omega)]⟩) fun h => ?_))
  rw [if_neg (by omega)]
  refine hl.len ?_
  refine s_range l.length (fun i w' => Keep NoB w w' ∧ ∀ q, q < i → jobFA l q = 0) ⟨Keep.refl _ _, fun _ h => by omega⟩ ?_
  rintro i w1 j nx ⟨hk, h0⟩ hin hnx
  refine s_lss (s_condD (fun hlt => ?_) fun hge => ?_)
  rotate_left
  · obtain rfl : i = l.length := by omega
    exact ⟨hk, by rw [fnz_all h0]⟩
  have hil := ofInt_lt hlt
  obtain ⟨x, hx⟩ := idx_of_lt hil
  refine (hl.keep0 hk).idx (sz := 4) eJb_len hx fun b o _ _ hc => s_ldA hc rfl ?_
  refine s_var rfl rfl rfl fun b4 w3 hat3 hk3 hb4 _ => ?_
  have hk03 := hk.trans hk3
  have hbad : ∀ (w4 : World) (e : Int), Keep NoB w3 w4 → jobFA l i = e → e ≠ 0 → Keep NoB w w4 ∧ vi e = vi (firstNZ ((List.range l.length).map (jobFA l))) := fun w4 e hk4 he hne =>
    ⟨hk03.trans hk4, by rw [fnz_at h0 hil (by omega), he]⟩
  have hat : ∀ e : Int, (match l[i]? with | some x => if ¬ (keyP x.key ∧ keyP x.mat) then (5 : Int) else if ¬ ((1 ≤ x.mins ∧ x.mins ≤ 100000) ∧ (0 ≤ x.due ∧ x.due ≤ 1000000000)) then 1 else if 0 < i ∧ leB x.key (l.getD (i - 1) job0).key = true then 7 else 0 | none => 0) = e → jobFA l i = e := fun e h => h
  rw [hx] at hat
  simp only [] at hat
  refine s_join (s_off (s_ldAt hat3 rfl ?_))
  refine (isKey_spec E X x.key w3).mono ?_
  rintro u w5 ⟨hk5, rfl⟩
  refine s_not (s_guardF (fun hkey => ?_) fun hkey => ?_)
  rotate_left
  · intro j1
    exact s_condT rfl (hbad _ 5 hk5 (hat 5 (if_pos fun hh => by have := hh.1; simp at hkey; exact hkey this)) (by omega))
  refine s_off (s_ldAt (hat3.keep0 hk5) rfl ?_)
  refine (isKey_spec E X x.mat w5).mono ?_
  rintro u w6 ⟨hk6, rfl⟩
  have hk56 := hk5.trans hk6
  refine s_not ?_
  intro j1
  refine s_cond (fun hm => hbad _ 5 hk56 (hat 5 (if_pos fun hh => by have := hh.2; simp at hm; exact hm this)) (by omega)) fun hm => ?_
  have hok : ¬ ¬ (keyP x.key ∧ keyP x.mat) := fun hn => hn ⟨by simpa using hkey, by simpa using hm⟩
  have hat3 := hat3.keep0 hk56
  have hrest : (1 ≤ x.mins ∧ x.mins ≤ 100000) ∧ (0 ≤ x.due ∧ x.due ≤ 1000000000) → joinP (fun k3 =>
      binP .gtr (vi i) (.int .i64 0) fun v37 => guardP v37 true
        (offP 0 (pb b4 0) fun v39 => ld v39 w6.drew fun v40 => binP .sub (vi i) (.int .i64 1) fun v43 => idxP 4 lv v43 fun v44 => offP 0 v44 fun v45 => ld v45 w6.drew fun v46 => binP .leq v40 v46 fun v47 => k3 [v47] w6.drew)
        (k3 [(.bool false)] w6.drew)) fun s3 j3 w10 => condP (g s3 0) (Keep NoB w w10 ∧ vi 7 = vi (firstNZ ((List.range l.length).map (jobFA l)))) (binP .add (vi i) (.int .i64 1) fun v49 => nx [v49] w10) := fun hrg => by
    refine s_join (s_gtr (s_guardT (fun hi0 => ?_) fun hi0 => ?_))
    · have hi0 : 0 < i := by simp at hi0; omega
      obtain ⟨y, hy⟩ := idx_of_lt (show i - 1 < l.length by omega)
      refine s_off (s_ldAt hat3.drew rfl (s_sub (by omega) (by omega) ?_))
      rw [show ((i : Int) - 1) = ((i - 1 : Nat) : Int) from by omega]
      refine ((hl.keep0 (hk03.trans hk56)).drew).idx (sz := 4) eJb_len hy fun b2 o2 _ _ hc2 => s_off (s_ld (hc2 0 _ rfl) (s_leqS ?_))
      intro j2
      refine s_cond (fun hle => hbad _ 7 hk56.drew (hat 7 ?_) (by omega)) fun hle => ?_
      · rw [if_neg hok, if_neg (fun hn => hn hrg), getD_pred hy, if_pos ⟨hi0, hle⟩]
      · refine s_add (by omega) (by omega) (hnx _ hil ⟨hk03.trans hk56.drew, fun q hq => ?_⟩)
        rcases Nat.lt_or_ge q i with h | h
        · exact h0 q h
        · obtain rfl : q = i := by omega
          refine hat 0 ?_
          have hle : leB x.key y.key = false := hle
          rw [if_neg hok, if_neg (fun hn => hn hrg), getD_pred hy, hle]; simp
    · intro j2
      have hi0 : i = 0 := by simp at hi0; omega
      refine s_condF rfl (s_add (by omega) (by omega) (hnx _ hil ⟨hk03.trans hk56.drew, fun q hq => ?_⟩))
      obtain rfl : q = i := by omega
      refine hat 0 ?_
      rw [if_neg hok, if_neg (fun hn => hn hrg), if_neg (by omega)]
  have hbad1 : ¬ ((1 ≤ x.mins ∧ x.mins ≤ 100000) ∧ (0 ≤ x.due ∧ x.due ≤ 1000000000)) → Keep NoB w w6 ∧ vi 1 = vi (firstNZ ((List.range l.length).map (jobFA l))) := fun hn =>
    hbad w6 1 hk56 (hat 1 (by rw [if_neg hok, if_pos hn])) (by omega)
  refine s_join (s_off (s_ldAt hat3 rfl ?_))
  refine (outside_spec E _ _ _ w6).mono ?_
  rintro u w' ⟨rfl, rfl⟩
  refine s_guardF (fun hm1 => s_off (s_ldAt hat3 rfl ?_)) fun hm1 => ?_
  · refine (outside_spec E _ _ _ _).mono ?_
    rintro u w' ⟨rfl, rfl⟩
    intro j2
    simp at hm1
    refine s_condD (fun hd => hbad1 (by omega)) fun hd => hrest (by omega)
  · intro j2
    simp at hm1
    exact s_condT rfl (hbad1 (by omega))

theorem fault_spec (E : Eqs c) (X : Ext c) {D D' : Nat → Prop} {pv jv : Value} {p : List Prn} {j : List Job} {w : World} (hp : Sl D ePr w pv p) (hj : Sl D' eJb w jv j) :
    Ret c.P c.f_farm_fault #[pv, jv] w fun u w' => Keep NoB w w' ∧ u = vi (if prnF p ≠ 0 then prnF p else jobF j) := by
  apply E.farm_fault
  unfold wp_farm_fault
  refine (checkPrn_spec E X hp).mono ?_
  rintro u w1 ⟨hk1, rfl⟩
  refine s_neq (s_condD (fun h => ⟨hk1, by rw [if_pos h]⟩) fun h => ?_)
  refine (checkJob_spec E X (hj.keep0 hk1)).mono ?_
  rintro u w2 ⟨hk2, rfl⟩
  exact ⟨hk1.trans hk2, by rw [if_neg h]⟩
theorem prnF_ok {l : List Prn} (h : prnF l = 0) : 0 < l.length ∧ l.length ≤ 50 := by
  unfold prnF at h
  by_cases h1 : l.length = 0
  · rw [if_pos h1] at h; omega
  · rw [if_neg h1] at h
    by_cases h2 : 50 < l.length
    · rw [if_pos h2] at h; omega
    · omega
theorem fnz_zero : ∀ (l : List Int), firstNZ l = 0 → ∀ x ∈ l, x = 0
  | [], _, x, hx => by cases hx
  | y :: r, h, x, hx => by
    simp only [firstNZ] at h
    by_cases hy : y = 0
    · rw [if_neg (by simp [hy])] at h
      rcases List.mem_cons.1 hx with rfl | hx
      · exact hy
      · exact fnz_zero r h x hx
    · rw [if_pos hy] at h; exact absurd h hy
theorem jobF_ok {l : List Job} (h : jobF l = 0) : l.length ≤ 500 ∧ ∀ x ∈ l, (1 ≤ x.mins ∧ x.mins ≤ 100000) ∧ (0 ≤ x.due ∧ x.due ≤ 1000000000) := by
  unfold jobF at h
  by_cases h2 : 500 < l.length
  · rw [if_pos h2] at h; omega
  · rw [if_neg h2] at h
    refine ⟨by omega, fun x hx => ?_⟩
    obtain ⟨i, hi⟩ := List.getElem?_of_mem hx
    have := fnz_zero _ h (jobFA l i) (List.mem_map.2 ⟨i, List.mem_range.2 (lt_of_idx hi), rfl⟩)
    unfold jobFA at this
    rw [hi] at this
    simp only [] at this
    by_cases h3 : (1 ≤ x.mins ∧ x.mins ≤ 100000) ∧ (0 ≤ x.due ∧ x.due ≤ 1000000000)
    · exact h3
    · by_cases h4 : ¬ (keyP x.key ∧ keyP x.mat)
      · rw [if_pos h4] at this; omega
      · rw [if_neg h4, if_pos h3] at this; omega
theorem jOk_of {l : List Job} {ch : Int} (h : jobF l = 0) (hc : 0 ≤ ch ∧ ch ≤ 100000) : JOk l ch :=
  ⟨hc.1, hc.2, fun x hx => ((jobF_ok h).2 x hx).1, fun x hx => ((jobF_ok h).2 x hx).2, (jobF_ok h).1⟩
end Go.Eng

/-! Contracts: what is wrong with a plan; its ends. -/
namespace Go.Eng
open Go
variable {c : Cfg}

def ixAt (n : Nat) (l : List Int) (i : Nat) : Int := match l[i]? with
  | some k => if 0 ≤ k ∧ k < n then (if k ∈ l.take i then 6 else 0) else 1
  | none => 0
noncomputable def planF (p : List Prn) (j : List Job) (plan : Plan) : Int :=
  if (if prnF p ≠ 0 then prnF p else jobF j) ≠ 0 then (if prnF p ≠ 0 then prnF p else jobF j) else if plan.length ≠ p.length then 3 else
    if firstNZ ((List.range plan.flatten.length).map (ixAt j.length plan.flatten)) ≠ 0 then firstNZ ((List.range plan.flatten.length).map (ixAt j.length plan.flatten)) else if plan.flatten.length < j.length then 8 else 0

theorem ixAt_ok {n : Nat} {l : List Int} : ∀ m, m ≤ l.length → (∀ q, q < m → ixAt n l q = 0) → (l.take m).Nodup ∧ InJ n (l.take m)
  | 0, _, _ => by simp [InJ]
  | m + 1, hm, h => by
    obtain ⟨h1, h2⟩ := ixAt_ok m (by omega) fun q hq => h q (by omega)
    have h3 := h m (by omega)
    unfold ixAt at h3
    obtain ⟨x, hx⟩ := idx_of_lt (show m < l.length by omega)
    rw [hx] at h3
    simp only [] at h3
    by_cases hr : 0 ≤ x ∧ x < n
    · rw [if_pos hr] at h3
      by_cases ht : x ∈ l.take m
      · rw [if_pos ht] at h3; omega
      · rw [take_snoc hx]
        refine ⟨List.nodup_append.2 ⟨h1, by simp, fun a ha b hb => by simp at hb; subst hb; exact fun h => ht (h ▸ ha)⟩, fun y hy => ?_⟩
        rcases List.mem_append.1 hy with h | h
        · exact h2 y h
        · simp at h; subst h; exact hr
    · rw [if_neg hr] at h3; omega

theorem indexB_spec (E : Eqs c) (hb : c.P.underlying c.t_bool = some .bool) {D : Nat → Prop} {lv : Value} {l : List Bool} {w : World} (hl : Sl D (fun b => [.bool b]) w lv l) (x : Bool) :
    Ret c.P c.f_slices_Contains_sl_bool_bool #[lv, .bool x] w fun u w' => w' = w ∧ u = .bool (decide (x ∈ l)) := by
  apply E.slices_Contains_sl_bool_bool
  unfold wp_slices_Contains_sl_bool_bool
  have hlb := hl.bound
  have : Ret c.P c.f_slices_Index_sl_bool_bool #[lv, .bool x] w fun u w' => w' = w ∧ ∃ r : Int, u = vi r ∧ (0 ≤ r ↔ x ∈ l) := by
    apply E.slices_Index_sl_bool_bool
    unfold wp_slices_Index_sl_bool_bool
    refine hl.len ?_
    refine s_range l.length (fun i w' => w' = w ∧ ∀ y ∈ l.take i, y ≠ x) ⟨rfl, by simp⟩ ?_
    rintro i w1 j nx ⟨rfl, h0⟩ hin hnx
    refine s_lss (s_condD (fun hlt => ?_) fun hge => ?_)
    · have hil := ofInt_lt hlt
      obtain ⟨y, hy⟩ := idx_of_lt hil
      refine hl.idx (sz := 1) (fun _ _ => rfl) hy fun b o _ _ hc => s_ldC0 hc ?_
      refine ⟨.bool (x == y), fun w => ?_, ?_⟩
      · have h1 : (eqGuard .eql c.t_bool (.tmp 11) (.tmp 15) (.bool x) (.bool y)) = pure () := rfl
        have h2 : (binOp .eql c.t_bool (.bool x) (.bool y)) = (do pure (.bool (← Op.equalIn (9999 + 1) c.t_bool (.bool x) (.bool y)))) := rfl
        rw [h1, h2]
        simp only [Sem.run_bind', run_pure', run_eqBool hb]
      · refine s_cond (fun he => ⟨rfl, _, rfl, ?_⟩) fun hne => ?_
        · have : x = y := by simpa using he
          subst this
          exact ⟨fun _ => List.mem_of_getElem? hy, fun _ => by omega⟩
        · refine s_add (by omega) (by omega) (hnx _ hil ⟨rfl, all_take hy h0 ?_⟩)
          intro h; subst h; simp at hne
    · obtain rfl : i = l.length := by omega
      exact ⟨rfl, _, rfl, ⟨fun h => by omega, fun h => absurd rfl (h0 x (by simpa using h))⟩⟩
  refine this.mono ?_
  rintro u w' ⟨rfl, r, rfl, hr⟩
  exact s_geq ⟨rfl, bool_dec hr⟩

theorem flat_bool (o : List Bool) : o.flatMap (fun b => [Value.bool b]) = o.map Value.bool := by
  induction o with
  | nil => rfl
  | cons x r ih => simp [ih]
theorem Seen.sl {w : World} {b n e cap : Nat} {p : Nat → Bool} {D : Nat → Prop} (h : Seen w b n e p) (hcap : n ≤ cap) (hb : n ≤ 1000000) (hd : D b) : Sl D (fun b => [.bool b]) w (.slice (some ⟨b, 0, none⟩) n cap) ((List.range n).map p) := by
  refine ⟨_, cap, by simp, ⟨by simp; omega, by simp; omega⟩, fun _ => ⟨b, 0, rfl, hd, At.lt h, ?_⟩⟩
  rw [flat_bool]
  have := At.cells h
  rw [List.map_map]
  exact this

theorem flat_take {plan : Plan} {i : Nat} {l : List Int} (h : plan[i]? = some l) : (plan.take (i + 1)).flatten = (plan.take i).flatten ++ l := by
  rw [take_snoc h, List.flatten_append]; simp
theorem flat_split {plan : Plan} {i : Nat} {l : List Int} (h : plan[i]? = some l) : plan.flatten = (plan.take i).flatten ++ l ++ (plan.drop (i + 1)).flatten := by
  rw [← flat_take h, ← List.flatten_append, List.take_append_drop]
theorem flat_at {plan : Plan} {i k : Nat} {l : List Int} {x : Int} (h : plan[i]? = some l) (hx : l[k]? = some x) :
    plan.flatten[(plan.take i).flatten.length + k]? = some x ∧ plan.flatten.take ((plan.take i).flatten.length + k) = (plan.take i).flatten ++ l.take k := by
  have hk := lt_of_idx hx
  rw [flat_split h]
  constructor
  · rw [List.getElem?_append_left (by rw [List.length_append]; omega), List.getElem?_append_right (by omega), Nat.add_sub_cancel_left]; exact hx
  · rw [List.take_append_of_le_length (by rw [List.length_append]; omega), List.take_length_add_append]
theorem flat_len_le {plan : Plan} {i : Nat} {l : List Int} (h : plan[i]? = some l) : (plan.take i).flatten.length + l.length ≤ plan.flatten.length := by
  rw [flat_split h]; simp only [List.length_append]; omega

theorem checkPlan_spec (E : Eqs c) (X : Ext c) (F : TyF c) {D D' D2 : Nat → Prop} {pv jv lv : Value} {p : List Prn} {j : List Job} {plan : Plan} {w : World} (hp : Sl D ePr w pv p) (hj : Sl D' eJb w jv j) (hl : S2 D2 eI w lv plan) :
    Ret c.P c.f_farm_CheckPlan #[pv, jv, lv] w fun u w' => Keep NoB w w' ∧ u = vi (planF p j plan) := by
  have hp := hp.lt; have hj := hj.lt; have hl := hl.lt
  have hlb := hl.bound
  obtain ⟨e, hT⟩ := F.sl_bool
  apply E.farm_CheckPlan
  unfold wp_farm_CheckPlan planF
  refine (fault_spec E X hp hj).mono ?_
  rintro u w1 ⟨hk1, rfl⟩
  refine s_neq (s_condD (fun h => ⟨hk1, by rw [if_pos h]⟩) fun h => ?_)
  rw [if_neg h]
  have h0 : prnF p = 0 ∧ jobF j = 0 := by
    by_cases h1 : prnF p = 0
    · rw [if_neg (by simp [h1])] at h; exact ⟨h1, by omega⟩
    · rw [if_pos h1] at h; exact absurd h1 h
  have hjl := (jobF_ok h0.2).1
  refine (hl.keep0 hk1).len ((hp.keep0 hk1).len (s_neq (s_condD (fun h => ⟨hk1, by rw [if_pos (by omega)]⟩) fun h => ?_)))
  rw [if_neg (by omega)]
  refine (hj.keep0 hk1).len (s_mkslice hT (by omega) fun b w2 hat hk2 hb hs => ?_)
  have hsn := seen_new hat
  have hk02 := hk1.trans hk2
  refine (hl.keep0 hk02).len ?_
  refine s_range plan.length (fun i w' => Keep (· = b) w2 w' ∧ Seen w' b j.length e (fun k => decide ((k : Int) ∈ (plan.take i).flatten)) ∧ ∀ q, q < (plan.take i).flatten.length → ixAt j.length plan.flatten q = 0)
    ⟨Keep.refl _ _, by simpa using hsn, fun _ h => by simp at h⟩ ?_
  rintro i w3 j3 nx ⟨hk3, hsn3, h0i⟩ hin hnx
  have hk03 : Keep NoB w w3 := hk02.new hk3 fun q hq => .inr (by have := hk1.size; omega)
  refine s_lss (s_condD (fun hlt => ?_) fun hge => ?_)
  rotate_left
  · obtain rfl : i = plan.length := by omega
    rw [List.take_length] at hsn3 h0i
    have hok := ixAt_ok plan.flatten.length (Nat.le_refl _) h0i
    rw [List.take_length] at hok
    have hz := fnz_all h0i
    rw [if_neg (by omega)]
    refine (indexB_spec E F.bool (hsn3.sl (D := fun _ => True) (cap := j.length) (Nat.le_refl _) (by omega) trivial) false).mono ?_
    rintro u w' ⟨rfl, rfl⟩
    have hal := all_len hok.1 hok.2
    have hle := (nodup_len _ _ hok.1 hok.2).1
    refine s_condD (fun h => ⟨hk03, ?_⟩) fun h => ⟨hk03, ?_⟩
    · rw [if_pos]
      obtain ⟨k, hk, hkf⟩ := List.mem_map.1 h
      have hk := List.mem_range.1 hk
      have : ¬ plan.flatten.length = j.length := fun he => by
        have := hal.1 he k hk
        simp [this] at hkf
      omega
    · rw [if_neg]
      have : plan.flatten.length = j.length := hal.2 fun k hk => by
        apply Classical.byContradiction
        intro hn
        exact h (List.mem_map.2 ⟨k, List.mem_range.2 hk, by simp [hn]⟩)
      omega
  have hil := ofInt_lt hlt
  obtain ⟨l, hlr⟩ := idx_of_lt hil
  have hfl := flat_len_le hlr
  refine (hl.keep0 hk03).get hlr fun hd hsl => ?_
  have hslb := hsl.bound
  refine hsl.len ?_
  refine s_range l.length (fun k w' => Keep (· = b) w3 w' ∧ Seen w' b j.length e (fun q => decide ((q : Int) ∈ (plan.take i).flatten ++ l.take k)) ∧ ∀ q, q < (plan.take i).flatten.length + k → ixAt j.length plan.flatten q = 0)
    ⟨Keep.refl _ _, by simpa using hsn3, fun q hq => h0i q (by omega)⟩ ?_
  rintro k w4 j4 nx4 ⟨hk4, hsn4, h0k⟩ hkn hnx4
  have hnb : ∀ q, Old w q → ¬ (q = b) := fun q hq h => by have hq : q < w.heap.size := hq; have := hk1.size; omega
  have hk04 : Keep NoB w w4 := hk03.new hk4 fun q hq => .inr (by have := hk1.size; omega)
  refine s_lss (s_condD (fun hlt2 => ?_) fun hge2 => ?_)
  rotate_left
  · obtain rfl : k = l.length := by omega
    refine s_add (by omega) (by omega) (hnx _ hil ⟨hk3.trans hk4, ?_, fun q hq => ?_⟩)
    · rw [List.take_length] at hsn4; rw [flat_take hlr]; exact hsn4
    · rw [flat_take hlr, List.length_append] at hq; exact h0k q hq
  have hkl := ofInt_lt hlt2
  obtain ⟨x, hx⟩ := idx_of_lt hkl
  obtain ⟨hfa, hft⟩ := flat_at hlr hx
  have hat0 : ∀ e : Int, (if 0 ≤ x ∧ x < (j.length : Int) then (if x ∈ (plan.take i).flatten ++ l.take k then (6 : Int) else 0) else 1) = e → ixAt j.length plan.flatten ((plan.take i).flatten.length + k) = e := fun e he => by
    unfold ixAt; rw [hfa]; simp only []; rw [hft]; exact he
  have hpos : (plan.take i).flatten.length + k < plan.flatten.length := by omega
  have hbad : ∀ (e : Int), ixAt j.length plan.flatten ((plan.take i).flatten.length + k) = e → e ≠ 0 → Keep NoB w w4 ∧ vi e = vi (if firstNZ ((List.range plan.flatten.length).map (ixAt j.length plan.flatten)) ≠ 0 then firstNZ ((List.range plan.flatten.length).map (ixAt j.length plan.flatten)) else if plan.flatten.length < j.length then 8 else 0) := fun e he hne =>
    ⟨hk04, by rw [fnz_at h0k hpos (by omega), he, if_pos hne]⟩
  refine (hsl.keep hk4 hnb).idx (sz := 1) eI_len hx fun b1 o1 _ _ hc => s_ldC0 hc ?_
  refine s_join (s_lss (s_guardF (fun h1 => (hj.keep0 hk04).len (s_geq ?_)) fun h1 => ?_))
  rotate_left
  · intro j1
    simp at h1
    exact s_condT rfl (hbad 1 (hat0 1 (by rw [if_neg (by omega)])) (by omega))
  · intro j1
    simp at h1
    refine s_condD (fun h2 => hbad 1 (hat0 1 (by rw [if_neg (by omega)])) (by omega)) fun h2 => ?_
    have hr : 0 ≤ x ∧ x < (j.length : Int) := by omega
    obtain ⟨q, rfl⟩ := Int.eq_ofNat_of_zero_le hr.1
    refine s_idx hr.1 hr.2 ?_
    rw [Int.toNat_natCast]
    refine hsn4.get (by omega) (s_condD (fun h3 => hbad 6 (hat0 6 (by rw [if_pos hr, if_pos h3])) (by omega)) fun h3 => ?_)
    refine s_idx hr.1 hr.2 ?_
    rw [Int.toNat_natCast]
    refine hsn4.put (by omega) fun w5 hsn5 hk5 _ => ?_
    refine s_add (by omega) (by omega) (hnx4 _ hkl ⟨hk4.trans hk5, ?_, fun q' hq' => ?_⟩)
    · refine cast ?_ hsn5
      congr 1
      funext k'
      rw [take_snoc hx, ← List.append_assoc]
      rw [Bool.eq_iff_iff]
      simp only [Bool.or_eq_true, decide_eq_true_eq, List.mem_append, List.mem_singleton]
      constructor
      · rintro (rfl | h)
        · exact .inr rfl
        · exact .inl h
      · rintro (h | h)
        · exact .inr h
        · exact .inl (by omega)
    · rcases Nat.lt_or_ge q' ((plan.take i).flatten.length + k) with h | h
      · exact h0k q' h
      · obtain rfl : q' = (plan.take i).flatten.length + k := by omega
        exact hat0 0 (by rw [if_pos hr, if_neg h3])

noncomputable def plannedF (p : List Prn) (j : List Job) (plan : Plan) (ch : Int) : Int := if planF p j plan ≠ 0 then planF p j plan else if 0 ≤ ch ∧ ch ≤ 100000 then 0 else 1
theorem planned_spec (E : Eqs c) (X : Ext c) (F : TyF c) {D D' D2 : Nat → Prop} {pv jv lv : Value} {p : List Prn} {j : List Job} {plan : Plan} {ch : Int} {w : World} (hp : Sl D ePr w pv p) (hj : Sl D' eJb w jv j) (hl : S2 D2 eI w lv plan) :
    Ret c.P c.f_farm_planned #[pv, jv, lv, vi ch] w fun u w' => Keep NoB w w' ∧ u = vi (plannedF p j plan ch) := by
  apply E.farm_planned
  unfold wp_farm_planned plannedF
  refine (checkPlan_spec E X F hp hj hl).mono ?_
  rintro u w1 ⟨hk1, rfl⟩
  refine s_neq (s_condD (fun h => ⟨hk1, by rw [if_pos h]⟩) fun h => ?_)
  rw [if_neg h]
  refine (change_spec E ch w1).mono ?_
  rintro u w' ⟨rfl, rfl⟩
  refine s_not (s_cond (fun h => ⟨hk1, ?_⟩) fun h => ⟨hk1, ?_⟩)
  · rw [if_neg (by simp at h; omega)]
  · rw [if_pos (by simp at h; omega)]

theorem planF_ok {p : List Prn} {j : List Job} {plan : Plan} (h : planF p j plan = 0) : prnF p = 0 ∧ jobF j = 0 ∧ plan.length = p.length ∧ Compl j.length plan := by
  unfold planF at h
  by_cases h1 : (if prnF p ≠ 0 then prnF p else jobF j) = 0
  · rw [if_neg (by simp [h1])] at h
    by_cases h2 : plan.length = p.length
    · rw [if_neg (by simp [h2])] at h
      by_cases h3 : firstNZ ((List.range plan.flatten.length).map (ixAt j.length plan.flatten)) = 0
      · rw [if_neg (fun hn => hn h3)] at h
        by_cases h4 : plan.flatten.length < j.length
        · rw [if_pos h4] at h; omega
        · have hz : ∀ q, q < plan.flatten.length → ixAt j.length plan.flatten q = 0 := fun q hq => fnz_zero _ h3 _ (List.mem_map.2 ⟨q, List.mem_range.2 hq, rfl⟩)
          have hok := ixAt_ok plan.flatten.length (Nat.le_refl _) hz
          rw [List.take_length] at hok
          have := (nodup_len _ _ hok.1 hok.2).1
          refine ⟨?_, ?_, h2, by omega, hok.1, hok.2⟩
          · by_cases h5 : prnF p = 0
            · exact h5
            · rw [if_pos h5] at h1; exact h1
          · by_cases h5 : prnF p = 0
            · rw [if_neg (by simp [h5])] at h1; exact h1
            · rw [if_pos h5] at h1; exact absurd h1 h5
      · rw [if_pos h3] at h; exact absurd h h3
    · rw [if_pos h2] at h; omega
  · rw [if_pos h1] at h; exact absurd h h1
theorem Compl.pok {n : Nat} {plan : Plan} (h : Compl n plan) (hn : n ≤ 1000000) : POk n plan :=
  ⟨fun l hl x hx => h.inJ x (List.mem_flatten.2 ⟨l, hl, hx⟩), fun l hl => by
    have := h.len
    obtain ⟨i, hi⟩ := List.getElem?_of_mem hl
    have := flat_len_le hi
    omega⟩

theorem farmEnds_spec (E : Eqs c) (X : Ext c) (F : TyF c) {D D' D2 : Nat → Prop} {pv jv lv : Value} {p : List Prn} {j : List Job} {plan : Plan} {ch : Int} {w : World} (hp : Sl D ePr w pv p) (hj : Sl D' eJb w jv j) (hl : S2 D2 eI w lv plan) :
    Ret c.P c.f_farm_Ends #[pv, jv, lv, vi ch] w fun u w' => Keep NoB w w' ∧ (plannedF p j plan ch ≠ 0 → u = .tuple #[.slice none 0 0, vi 0, vi (plannedF p j plan ch)]) ∧
      (plannedF p j plan ch = 0 → ∃ ov, u = .tuple #[ov, vi (lastP j ch p plan), vi 0] ∧ Sl (Fresh w) eI w' ov (endsO j ch p plan)) := by
  have hp := hp.lt; have hj := hj.lt; have hl := hl.lt
  apply E.farm_Ends
  unfold wp_farm_Ends
  refine (planned_spec E X F hp hj hl).mono ?_
  rintro u w1 ⟨hk1, rfl⟩
  refine s_neq (s_condD (fun h => ⟨hk1, fun _ => rfl, fun h' => absurd h' h⟩) fun h => ?_)
  have h : plannedF p j plan ch = 0 := by omega
  have h0 := h
  unfold plannedF at h0
  have hpf : planF p j plan = 0 := by
    by_cases h1 : planF p j plan = 0
    · exact h1
    · rw [if_pos h1] at h0; exact h0
  rw [if_neg (by simp [hpf])] at h0
  have hch : 0 ≤ ch ∧ ch ≤ 100000 := by
    by_cases h1 : 0 ≤ ch ∧ ch ≤ 100000
    · exact h1
    · rw [if_neg h1] at h0; omega
  obtain ⟨g1, g2, g3, g4⟩ := planF_ok hpf
  have hjl := (jobF_ok g2).1
  refine (ends_spec E F (hp.keep0 hk1) (hj.keep0 hk1) (hl.keep0 hk1) (jOk_of g2 hch) (g4.pok (by omega)) g3).mono ?_
  rintro u w2 ⟨hk2, ov, rfl, hov⟩
  refine ⟨_, rfl, ⟨_, rfl, hk1.trans hk2, fun h' => absurd h h', fun _ => ⟨ov, rfl, hov.dom fun b hb => ?_⟩⟩⟩
  have hb : w1.heap.size ≤ b := hb
  have := hk1.size
  show w.heap.size ≤ b
  omega
end Go.Eng

/-! Contracts: rows of one's own; which plan is better. -/
namespace Go.Eng
open Go
variable {c : Cfg}

theorem s_notnil {P : Program} {t e : TypeId} (hu : P.underlying t = some (.slice e)) {x y : Operand} {a : Option Addr} {n cap : Nat} {k : Value → Prop} (h : k (.bool (!a.isNone))) :
    pureP P (do eqGuard .neq t x y (.slice a n cap) (.slice none 0 0); binOp .neq t (.slice a n cap) (.slice none 0 0)) k := by
  refine ⟨_, fun w => ?_, h⟩
  have h1 : (eqGuard .neq t x y (.slice a n cap) (.slice none 0 0)) = pure () := rfl
  have h2 : (binOp .neq t (.slice a n cap) (.slice none 0 0)) = (do pure (.bool (!(← Op.equalIn (9999 + 1) t (.slice a n cap) (.slice none 0 0))))) := rfl
  rw [h1, Sem.run_bind', run_pure', h2, Op.equalIn]
  simp only [Sem.run_bind', Eng.run_und hu]
  cases a <;> rfl

/-- what one owns, less its end -/
theorem Ow.trunc {P : Program} {α : Type} {D : Nat → Prop} {t e : TypeId} {sz by_ : Nat} {z : List Value} {enc : α → List Value} {w : World} {s : Value} {l : List α} {x : α} (hT : SliceT P t e sz by_ z) (ho : Ow D e sz enc w s (l ++ [x])) (hsz : (enc x).length = sz) {k : Value → Prop}
    (hk : ∀ s', Ow D e sz enc w s' l → (∀ b, inV s' b ↔ inV s b) → k s') : pureP P (Instr.sliceAt t s none (some (vi l.length)) none) k := by
  obtain ⟨⟨h1, h2⟩, ⟨rfl, h3⟩ | ⟨b, cap, sp, rfl, h3, h4, h5, h6⟩⟩ := ho
  · simp at h3
  · simp only [List.length_append, List.length_cons, List.length_nil, Nat.zero_add] at h1 h2 h6 ⊢
    refine ⟨_, run_sliceHi hT (by omega), hk _ ?_ ?_⟩
    · have e1 : (if cap = 0 then some (⟨b, 0, none⟩ : Addr) else (some (⟨b, 0, none⟩ : Addr)).map (·.add (0 * sz))) = some ⟨b, 0, none⟩ := by
        split
        · rfl
        · simp
      rw [e1]
      simp only [List.flatMap_append, List.flatMap_cons, List.flatMap_nil, List.append_nil, List.append_assoc, List.length_append] at h1 h4 h5
      refine ⟨⟨?_, by omega⟩, .inr ⟨b, cap, enc x ++ sp, by simp, h3, h4, by simp only [List.length_append]; exact h5, by omega⟩⟩
      rw [hsz, Nat.add_mul] at h1; omega
    · intro b'
      have e1 : (if cap = 0 then some (⟨b, 0, none⟩ : Addr) else (some (⟨b, 0, none⟩ : Addr)).map (·.add (0 * sz))) = some ⟨b, 0, none⟩ := by
        split
        · rfl
        · simp
      rw [e1]
      exact Iff.rfl

/-- rows of one's own -/
structure RowsO (c : Cfg) (Dm : Nat → Prop) (w : World) (gb : Nat) (hs : List Value) (plan : Plan) : Prop where
  len : hs.length = plan.length
  at_ : At w gb hs c.t_sl_int
  own : ∀ (i : Nat) (h : Value) (l : List Int), hs[i]? = some h → plan[i]? = some l → Ow Dm c.t_int 1 eI w h l
  dist : ∀ (i i' : Nat) (h h' : Value), i ≠ i' → hs[i]? = some h → hs[i']? = some h' → ∀ b, inV h b → ¬ inV h' b
  gne : ∀ h ∈ hs, ¬ inV h gb
/-- the blocks of rows -/
def inRw (hs : List Value) (b : Nat) : Prop := ∃ h ∈ hs, inV h b

section
variable {Dm M : Nat → Prop} {w w' : World} {gb : Nat} {hs : List Value} {plan : Plan}
theorem RowsO.keep (h : RowsO c Dm w gb hs plan) (k : Keep M w w') (hg : ¬ M gb) (hm : ∀ b, inRw hs b → ¬ M b) : RowsO c Dm w' gb hs plan :=
  ⟨h.len, h.at_.keep k hg, fun i x l hx hl => (h.own i x l hx hl).keep k fun b hb => hm b ⟨x, List.mem_of_getElem? hx, hb⟩, h.dist, h.gne⟩
theorem RowsO.keep0 (h : RowsO c Dm w gb hs plan) (k : Keep NoB w w') : RowsO c Dm w' gb hs plan := h.keep k (fun h => h) fun _ _ h => h
theorem RowsO.lt (h : RowsO c Dm w gb hs plan) {b : Nat} (hb : inRw hs b) : b < w.heap.size := by
  obtain ⟨x, hx, hb⟩ := hb
  obtain ⟨i, hi⟩ := List.getElem?_of_mem hx
  have hl := List.getElem?_eq_getElem (show i < plan.length by rw [← h.len]; exact lt_of_idx hi)
  exact Own.inLt (h.own i x _ hi hl) hb
theorem RowsO.inD (h : RowsO c Dm w gb hs plan) {b : Nat} (hb : inRw hs b) : Dm b := by
  obtain ⟨x, hx, hb⟩ := hb
  obtain ⟨i, hi⟩ := List.getElem?_of_mem hx
  have hl := List.getElem?_eq_getElem (show i < plan.length by rw [← h.len]; exact lt_of_idx hi)
  exact Own.inD (h.own i x _ hi hl) hb
theorem RowsO.dom {Dm' : Nat → Prop} (h : RowsO c Dm w gb hs plan) (hd : ∀ b, inRw hs b → Dm' b) : RowsO c Dm' w gb hs plan := by
  refine ⟨h.len, h.at_, fun i x l hx hl => ?_, h.dist, h.gne⟩
  have h1 := h.own i x l hx hl
  obtain ⟨g1, g2 | ⟨b, cap, sp, e1, e2, e3⟩⟩ := h1
  · exact ⟨g1, .inl g2⟩
  · exact ⟨g1, .inr ⟨b, cap, sp, e1, hd b ⟨x, List.mem_of_getElem? hx, by rw [e1]; rfl⟩, e3⟩⟩
theorem RowsO.s2 (h : RowsO c Dm w gb hs plan) (hb : plan.length ≤ 1000000) {n : Nat} (hn : n = plan.length) : S2 (fun b => b = gb ∨ inRw hs b) eI w (.slice (some ⟨gb, 0, none⟩) n n) plan := by
  subst hn
  refine ⟨hs, h.len, ⟨_, _, by rw [h.len], ⟨by rw [h.len]; exact Nat.le_refl _, by rw [h.len]; omega⟩, fun _ => ⟨gb, 0, rfl, .inl rfl, h.at_.lt, ?_⟩⟩, fun i x l hx hl => ?_⟩
  · have : hs.flatMap (fun h => [h]) = hs := by simp
    rw [this]; exact h.at_.cells
  · have h1 := h.own i x l hx hl
    have h2 := (h1.sl)
    obtain ⟨a, cap, rfl, g1, g2⟩ := h2
    refine ⟨a, cap, rfl, g1, fun hne => ?_⟩
    obtain ⟨b, o, e1, e2, e3⟩ := g2 hne
    exact ⟨b, o, e1, .inr ⟨_, List.mem_of_getElem? hx, by rw [e1]; rfl⟩, e3⟩
/-- a row that is put in the place of another one -/
theorem RowsO.put {K : World → Prop} {k n cap : Nat} {h h' : Value} {l' : List Int} (hr : RowsO c Dm w gb hs plan) (hk : hs[k]? = some h) (kp : Keep (inV h) w w') (ho : Ow Dm c.t_int 1 eI w' h' l') (hn : n = plan.length)
    (hi : ∀ b, inV h' b → inV h b ∨ w.heap.size ≤ b) (hK : ∀ w'', RowsO c Dm w'' gb (hs.set k h') (plan.set k l') → Keep (· = gb) w' w'' → w''.heap.size = w'.heap.size → K w'') :
    idxP 1 (.slice (some ⟨gb, 0, none⟩) n cap) (vi k) fun p => st p h' w' K := by
  have hkl := lt_of_idx hk
  have hl := hr.len
  have hgk := hr.gne h (List.mem_of_getElem? hk)
  have hat := hr.at_.keep kp hgk
  have hgl := hr.at_.lt
  have hngb : ¬ inV h' gb := fun hg => (hi gb hg).elim hgk fun h1 => by omega
  refine s_slotSt hat (by omega) (by omega) ho.one fun w'' h1 h2 h3 => hK w'' ⟨by simp [hl], h1, fun i x l hx hlx => ?_, fun i i' x x' hii hx hx' b hb hb' => ?_, fun x hx hg => ?_⟩ h2 h3
  · by_cases hik : i = k
    · subst hik
      rw [List.getElem?_set_self hkl] at hx
      rw [List.getElem?_set_self (by omega)] at hlx
      cases hx; cases hlx
      exact ho.keep h2 fun b hb h => by subst h; exact hngb hb
    · rw [List.getElem?_set_ne (by omega)] at hx hlx
      refine ((hr.own i x l hx hlx).keep kp fun b hb hb' => hr.dist i k x h hik hx hk b hb hb').keep h2 fun b hb h => ?_
      subst h; exact hr.gne x (List.mem_of_getElem? hx) hb
  · by_cases hik : i = k
    · subst hik
      rw [List.getElem?_set_self hkl] at hx; cases hx
      rw [List.getElem?_set_ne (by omega)] at hx'
      rcases hi b hb with h4 | h4
      · exact hr.dist i i' h x' hii hk hx' b h4 hb'
      · have := hr.lt ⟨x', List.mem_of_getElem? hx', hb'⟩; omega
    · rw [List.getElem?_set_ne (by omega)] at hx
      by_cases hik' : i' = k
      · subst hik'
        rw [List.getElem?_set_self hkl] at hx'; cases hx'
        rcases hi b hb' with h4 | h4
        · exact hr.dist i i' x h hii hx hk b hb h4
        · have := hr.lt ⟨x, List.mem_of_getElem? hx, hb⟩; omega
      · rw [List.getElem?_set_ne (by omega)] at hx'
        exact hr.dist i i' x x' hii hx hx' b hb hb'
  · rcases List.mem_or_eq_of_mem_set hx with h4 | h4
    · exact hr.gne x h4 hg
    · subst h4; exact hngb hg
theorem inRw_set {k : Nat} {h' : Value} {b : Nat} (hb : inRw (hs.set k h') b) : inRw hs b ∨ inV h' b := by
  obtain ⟨x, hx, hb⟩ := hb
  rcases List.mem_or_eq_of_mem_set hx with h | h
  · exact .inl ⟨x, h, hb⟩
  · subst h; exact .inr hb
theorem inRw_of {k : Nat} {h : Value} {b : Nat} (hk : hs[k]? = some h) (hb : inV h b) : inRw hs b := ⟨h, List.mem_of_getElem? hk, hb⟩
end

theorem rows_new {w : World} {gb m : Nat} {Dm : Nat → Prop} (h : At w gb ((List.replicate m [Value.slice none 0 0]).flatten) c.t_sl_int) : RowsO c Dm w gb (List.replicate m (.slice none 0 0)) (List.replicate m []) := by
  rw [rep_flat] at h
  refine ⟨by simp, h, fun i x l hx hl => ?_, fun i i' x x' _ hx _ b hb => ?_, fun x hx hb => ?_⟩
  · rw [List.getElem?_replicate] at hx hl
    split at hx
    · rw [if_pos (by assumption)] at hl
      cases hx; cases hl
      exact Ow.nil
    · cases hx
  · rw [List.getElem?_replicate] at hx
    split at hx
    · cases hx; exact hb.elim
    · cases hx
  · have := List.eq_of_mem_replicate hx
    subst this; exact hb.elim

/-! ### which plan is better -/
/-- the best plan of a planner -/
def BestV (D : Nat → Prop) (w : World) (bv : Value) (best : Option Plan) : Prop := match best with
  | none => bv = .slice none 0 0
  | some pl => S2 D eI w bv pl ∧ ∃ a n cap, bv = .slice (some a) n cap
theorem BestV.keep {D M : Nat → Prop} {w w' : World} {bv : Value} {best : Option Plan} (h : BestV D w bv best) (k : Keep M w w') (hd : ∀ b, D b → ¬ M b) : BestV D w' bv best := by
  cases best with
  | none => exact h
  | some pl => exact ⟨h.1.keep k hd, h.2⟩
theorem BestV.dom {D D' : Nat → Prop} {w : World} {bv : Value} {best : Option Plan} (h : BestV D w bv best) (hd : ∀ b, D b → D' b) : BestV D' w bv best := by
  cases best with
  | none => exact h
  | some pl => exact ⟨h.1.dom hd, h.2⟩
theorem BestV.old {D : Nat → Prop} {w : World} {bv : Value} {best : Option Plan} (h : BestV D w bv best) : BestV (fun b => D b ∧ b < w.heap.size) w bv best := by
  cases best with
  | none => exact h
  | some pl => exact ⟨h.1.old, h.2⟩

end Go.Eng

