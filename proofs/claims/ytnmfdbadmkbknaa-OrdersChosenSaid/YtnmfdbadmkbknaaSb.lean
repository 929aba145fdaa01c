/- Part of a proof: the law OrdersChosen gives true for every list of integers and leaves its argument as it was; there are no conditions beyond those that the given row states. -/
import Derived.Test.YtnmfdbadmkbknaaSa
import Derived.Test.YtnmfdbadmkbknaaLib
set_option linter.unusedVariables false
set_option linter.unusedSimpArgs false
/-! Plain facts: the least way through stages. -/
namespace Go.Eng
open Go

/-- how far it is at least through all stages -/
def rest (ps : List Pth) : List (List Vis) → Pt → Int
  | [], _ => 0
  | ws :: r, a => least0 (fun v => dist a (frm ps v) + rest ps r (tov ps v)) (ws.foldl (nst fun v => dist a (frm ps v) + rest ps r (tov ps v)) none)

def StOk (ps : List Pth) (st : List (List Vis)) : Prop := ∀ ws ∈ st, ws ≠ [] ∧ ∀ v ∈ ws, VOk ps v

theorem rest_bound {ps : List Pth} (hR : Rights ps) : ∀ (st : List (List Vis)) (a : Pt), StOk ps st → Nearby a → 0 ≤ rest ps st a ∧ rest ps st a ≤ 200000 * st.length
  | [], a, _, _ => by simp [rest]
  | ws :: r, a, hok, ha => by
    obtain ⟨hne, hv⟩ := hok ws (List.mem_cons_self ..)
    obtain ⟨u, hu, hm⟩ := pick_some (f := fun v => dist a (frm ps v) + rest ps r (tov ps v)) hne
    have hn := near_ends hR (hv u hm)
    have h1 := rest_bound hR r (tov ps u) (fun w hw => hok w (List.mem_cons_of_mem _ hw)) hn.2
    have h2 := dist_bound ha hn.1
    simp only [rest, hu, least0, List.length_cons]
    omega

def stgs (ps : List Pth) (order : List Int) : List (List Vis) := order.map fun i => waysL (pAt ps i) i
theorem stgs_ok {ps : List Pth} (hR : Rights ps) {order : List Int} (h : ∀ i ∈ order, 0 ≤ i ∧ i < ps.length) : StOk ps (stgs ps order) := fun ws hw => by
  obtain ⟨i, hi, rfl⟩ := List.mem_map.1 hw
  obtain ⟨h0, h1⟩ := h i hi
  refine ⟨fun hh => ?_, fun v hv => (ways_ok hR h0 h1 hv).1⟩
  obtain ⟨q, rfl⟩ := Int.eq_ofNat_of_zero_le h0
  obtain ⟨p, hp⟩ := idx_of_lt (show q < ps.length by omega)
  have := ways_ne (p := p) (i := q) (hR.ne p (List.mem_of_getElem? hp))
  rw [pAt_get hp] at hh
  rw [hh] at this; simp at this

theorem indF_ok {n : Nat} {l : List Int} (h : indF n l = 0) : l.length = n ∧ ∀ i ∈ l, 0 ≤ i ∧ i < n := by
  unfold indF at h
  by_cases h1 : l.length ≠ n
  · rw [if_pos h1] at h; cases h
  rw [if_neg h1] at h
  refine ⟨by omega, fun x hx => ?_⟩
  obtain ⟨i, hi⟩ := List.getElem?_of_mem hx
  have hil := lt_of_idx hi
  have hall : ∀ j, j < l.length → indAt n l j = 0 := by
    intro j hj
    by_cases hh : ∃ i, i < l.length ∧ indAt n l i ≠ 0
    · obtain ⟨q, ⟨hq1, hq2⟩, hmin⟩ := least hh
      have h0 : ∀ j, j < q → indAt n l j = 0 := fun j hj => by
        by_cases hne : indAt n l j = 0
        · exact hne
        · exact absurd (hmin j ⟨by omega, hne⟩) (by omega)
      rw [fnz_at h0 hq1 hq2] at h
      exact absurd h hq2
    · by_cases hne : indAt n l j = 0
      · exact hne
      · exact absurd ⟨j, hj, hne⟩ hh
  have := hall i hil
  simp only [indAt, hi] at this
  by_cases c1 : 0 ≤ x ∧ x < n
  · exact c1
  · rw [if_neg c1] at this; cases this

/-- so many visits, one of each stage -/
def begN (ps : List Pth) (s : Pt) (st : List (List Vis)) : Nat → List Vis
  | 0 => []
  | k + 1 => begN ps s st k ++ [(((st.getD k []).foldl (nst fun v => dist (lastP ps s (begN ps s st k)) (frm ps v) + rest ps (st.drop (k + 1)) (tov ps v)) none).getD v0)]

theorem begN_facts {ps : List Pth} (s : Pt) {st : List (List Vis)} (hok : StOk ps st) : ∀ k, k ≤ st.length → (begN ps s st k).length = k ∧ ∀ v ∈ begN ps s st k, VOk ps v
  | 0, _ => ⟨rfl, by simp [begN]⟩
  | k + 1, hk => by
    obtain ⟨h1, h2⟩ := begN_facts s hok k (by omega)
    have hg := getD_get (l := st) (i := k) (d := []) (by omega)
    obtain ⟨hne, hv⟩ := hok _ (List.mem_of_getElem? hg)
    obtain ⟨u, hu, hm⟩ := pick_some (f := fun v => dist (lastP ps s (begN ps s st k)) (frm ps v) + rest ps (st.drop (k + 1)) (tov ps v)) hne
    simp only [begN, hu, Option.getD_some]
    refine ⟨by simp [h1], fun v hm' => ?_⟩
    rcases List.mem_append.1 hm' with h | h
    · exact h2 v h
    · simp at h; rw [h]; exact hv u hm
end Go.Eng

/-! Plain facts: the least way through a set. -/
namespace Go.Eng
open Go

def bitOf (set : Nat) (x : Cho) : Bool := set.testBit x.v.path.toNat
/-- how far it is at least through a set; so much fuel -/
def restB (all : List Cho) : Nat → Nat → Pt → Int
  | 0, _, _ => 0
  | f + 1, set, a => least0 (fun x => dist a x.a + restB all f (clr set x.v.path.toNat) x.b) ((all.filter (bitOf set)).foldl (nst fun x => dist a x.a + restB all f (clr set x.v.path.toNat) x.b) none)
def RB (all : List Cho) (set : Nat) (a : Pt) : Int := restB all set set a

theorem filter0 (all : List Cho) : all.filter (bitOf 0) = [] := by
  rw [List.filter_eq_nil_iff]; intro x _; simp [bitOf]

theorem least0_congr {α : Type} {f g : α → Int} {l : List α} (h : ∀ a ∈ l, f a = g a) : least0 f (l.foldl (nst f) none) = least0 g (l.foldl (nst g) none) := by
  rw [nst_congr l none h (fun u hu => by cases hu)]
  cases hh : l.foldl (nst g) none with
  | none => rfl
  | some u =>
    have : u ∈ l := by
      rcases nst_mem _ _ _ hh with h | h
      · exact h
      · cases h
    exact h u this

theorem restB_fuel (all : List Cho) : ∀ (n : Nat) (set : Nat) (f f' : Nat) (a : Pt), set ≤ n → set < 4611686018427387904 → set ≤ f → set ≤ f' → restB all f set a = restB all f' set a := by
  intro n
  induction n with
  | zero =>
    intro set f f' a h _ _ _
    obtain rfl : set = 0 := by omega
    have h0 : ∀ f, restB all f 0 a = 0 := fun f => by
      cases f with
      | zero => rfl
      | succ f => rw [restB, filter0]; rfl
    rw [h0, h0]
  | succ n ih =>
    intro set f f' a h hs hf hf'
    cases f with
    | zero =>
      obtain rfl : set = 0 := by omega
      cases f' with
      | zero => rfl
      | succ f' => rw [restB, restB, filter0]; rfl
    | succ f =>
      cases f' with
      | zero =>
        obtain rfl : set = 0 := by omega
        rw [restB, restB, filter0]; rfl
      | succ f' =>
        rw [restB, restB]
        refine least0_congr fun x hx => ?_
        have hb := (List.mem_filter.1 hx).2
        have hlt := clr_lt hs hb
        rw [ih (clr set x.v.path.toNat) f f' x.b (by omega) (by omega) (by omega) (by omega)]

theorem RB_eq (all : List Cho) {set : Nat} (hs : set < 4611686018427387904) (a : Pt) :
    RB all set a = least0 (fun x => dist a x.a + RB all (clr set x.v.path.toNat) x.b) ((all.filter (bitOf set)).foldl (nst fun x => dist a x.a + RB all (clr set x.v.path.toNat) x.b) none) := by
  unfold RB
  cases set with
  | zero => rw [filter0]; rfl
  | succ n =>
    rw [restB]
    refine least0_congr fun x hx => ?_
    have hb := (List.mem_filter.1 hx).2
    have hlt := clr_lt hs hb
    rw [restB_fuel all n (clr (n + 1) x.v.path.toNat) n _ x.b (by omega) (by omega) (by omega) (Nat.le_refl _)]

/-- the first least order of a set -/
def seqB (all : List Cho) : Nat → Nat → Pt → List Vis
  | 0, _, _ => []
  | f + 1, set, a => match (all.filter (bitOf set)).foldl (nst fun x => dist a x.a + RB all (clr set x.v.path.toNat) x.b) none with
    | none => []
    | some x => x.v :: seqB all f (clr set x.v.path.toNat) x.b
def QB (all : List Cho) (set : Nat) (a : Pt) : List Vis := seqB all set set a

theorem seqB_fuel (all : List Cho) : ∀ (n : Nat) (set : Nat) (f f' : Nat) (a : Pt), set ≤ n → set < 4611686018427387904 → set ≤ f → set ≤ f' → seqB all f set a = seqB all f' set a := by
  intro n
  induction n with
  | zero =>
    intro set f f' a h _ _ _
    obtain rfl : set = 0 := by omega
    have h0 : ∀ f, seqB all f 0 a = [] := fun f => by
      cases f with
      | zero => rfl
      | succ f => rw [seqB, filter0]; rfl
    rw [h0, h0]
  | succ n ih =>
    intro set f f' a h hs hf hf'
    cases f with
    | zero =>
      obtain rfl : set = 0 := by omega
      cases f' with
      | zero => rfl
      | succ f' => rw [seqB, seqB, filter0]; rfl
    | succ f =>
      cases f' with
      | zero =>
        obtain rfl : set = 0 := by omega
        rw [seqB, seqB, filter0]; rfl
      | succ f' =>
        rw [seqB, seqB]
        cases hh : (all.filter (bitOf set)).foldl (nst fun x => dist a x.a + RB all (clr set x.v.path.toNat) x.b) none with
        | none => rfl
        | some x =>
          have hx : x ∈ all.filter (bitOf set) := by
            rcases nst_mem _ _ _ hh with h | h
            · exact h
            · cases h
          have hlt := clr_lt hs (List.mem_filter.1 hx).2
          simp only
          rw [ih (clr set x.v.path.toNat) f f' x.b (by omega) (by omega) (by omega) (by omega)]
theorem QB_some (all : List Cho) {set : Nat} (hs : set < 4611686018427387904) (a : Pt) {x : Cho} (h : (all.filter (bitOf set)).foldl (nst fun x => dist a x.a + RB all (clr set x.v.path.toNat) x.b) none = some x) :
    QB all set a = x.v :: QB all (clr set x.v.path.toNat) x.b := by
  have hx : x ∈ all.filter (bitOf set) := by
    rcases nst_mem _ _ _ h with h | h
    · exact h
    · cases h
  have hlt := clr_lt hs (List.mem_filter.1 hx).2
  unfold QB
  cases set with
  | zero => rw [filter0] at hx; simp at hx
  | succ n =>
    rw [seqB, h]
    simp only
    rw [seqB_fuel all n (clr (n + 1) x.v.path.toNat) n _ x.b (by omega) (by omega) (by omega) (Nat.le_refl _)]
theorem QB_zero (all : List Cho) (a : Pt) : QB all 0 a = [] := rfl

/-- right choices -/
def AllOk (ps : List Pth) (all : List Cho) : Prop := ∀ x ∈ all, x = cho ps x.v ∧ VOk ps x.v
theorem RB_bound {ps : List Pth} (hR : Rights ps) {all : List Cho} (hA : AllOk ps all) : ∀ (n set : Nat) (a : Pt), set ≤ n → set < 4611686018427387904 → Nearby a → 0 ≤ RB all set a ∧ RB all set a ≤ 200000 * set := by
  intro n
  induction n with
  | zero =>
    intro set a h _ _
    obtain rfl : set = 0 := by omega
    simp [RB, restB]
  | succ n ih =>
    intro set a h hs ha
    rw [RB_eq all hs]
    cases hh : (all.filter (bitOf set)).foldl (nst fun x => dist a x.a + RB all (clr set x.v.path.toNat) x.b) none with
    | none => simp only [least0]; omega
    | some x =>
      have hx : x ∈ all.filter (bitOf set) := by
        rcases nst_mem _ _ _ hh with h | h
        · exact h
        · cases h
      obtain ⟨hxa, hxb⟩ := List.mem_filter.1 hx
      have hlt := clr_lt hs hxb
      obtain ⟨hxe, hxo⟩ := hA x hxa
      have hn := near_ends hR hxo
      have ha1 : Nearby x.a := by rw [hxe]; exact hn.1
      have hb1 : Nearby x.b := by rw [hxe]; exact hn.2
      have h1 := ih (clr set x.v.path.toNat) x.b (by omega) (by omega) hb1
      have h2 := dist_bound ha ha1
      simp only [least0]
      omega
end Go.Eng

/-! Contracts: the nearest way, orders that are begun. -/
namespace Go.Eng
open Go
variable {c : Cfg}

def whichOf (b : Option Nat) : Int := match b with
  | none => -1
  | some k => k
theorem s_buildWay (T : Ty c) (a b : Int) {k : Value → Prop} (h : k (.agg #[vi a, vi b])) : pureP c.P (Instr.build c.t_path_way #[(0, vi a), (1, vi b)]) k :=
  s_build T.st_way (cells := [vi a, vi b]) rfl h

theorem nearestWay_spec (E : Eqs c) (T : Ty c) {D D' : Nat → Prop} {lv mv : Value} {l : List Cho} {m : List Int} {a : Pt} {w : World} (hl : Sl D eC w lv l) (hm : Sl D' eI w mv m) (hlen : m.length = l.length) (ha : Nearby a)
    (hn : ∀ x ∈ l, Nearby x.a) (hb : ∀ x ∈ m, 0 ≤ x ∧ x ≤ 1000000000000) :
    Ret c.P c.f_path_nearest #[.agg (eP a).toArray, lv, mv] w fun u w' => Keep NoB w w' ∧
      u = .agg #[vi (whichOf ((List.range l.length).foldl (nst fun k => dist a (l.getD k cho0).a + m.getD k 0) none)), vi (least0 (fun k => dist a (l.getD k cho0).a + m.getD k 0) ((List.range l.length).foldl (nst fun k => dist a (l.getD k cho0).a + m.getD k 0) none))] := by
  have hl := hl.lt
  have hm := hm.lt
  apply E.path_nearest
  unfold wp_path_nearest
  generalize hF : (fun k => dist a (l.getD k cho0).a + m.getD k 0) = F
  have hFk : ∀ k, F k = dist a (l.getD k cho0).a + m.getD k 0 := fun k => by rw [← hF]
  refine s_new (cs := eP a) fun b3 w1 hat3 hk1 hb3 hs3 => ?_
  refine s_new (cs := [vi 0, vi 0]) fun b6 w2 hat6 hk2 hb6 hs6 => ?_
  refine s_buildWay T (-1) 0 ?_
  refine s_var (vs := [vi (-1), vi 0]) rfl rfl rfl fun b7 w4 hat7 hk4 hb7 hs7 => ?_
  have hk04 := (hk1.trans hk2).trans hk4
  have hat3 := (hat3.keep0 hk2).keep0 hk4
  have hat6 := hat6.keep0 hk4
  have hsz1 := hk1.size
  have hlb := hl.bound
  refine (hl.keep0 hk04).len ?_
  refine s_range l.length (fun i w' => Keep NoB w w' ∧ w4.heap.size ≤ w'.heap.size ∧ At w' b3 (eP a) c.t_api_Point ∧ At w' b6 [vi 0, vi 0] c.t_path_way ∧
      At w' b7 [vi (whichOf ((List.range i).foldl (nst F) none)), vi (least0 F ((List.range i).foldl (nst F) none))] c.t_path_way) ⟨hk04, Nat.le_refl _, hat3, hat6, hat7⟩ ?_
  rintro i w5 j nx ⟨hk5, hsz5, hat3, hat6, hat7⟩ hin hnx
  have hl5 := hl.keep0 hk5
  have hm5 := hm.keep0 hk5
  refine s_lss (s_condD (fun hlt => ?_) fun hge => ?_)
  rotate_left
  · obtain rfl : i = l.length := by omega
    refine s_ldAAt hat7 rfl ?_
    refine s_stA (vs := [vi (whichOf ((List.range l.length).foldl (nst F) none)), vi (least0 F ((List.range l.length).foldl (nst F) none))]) hat6 rfl rfl rfl fun w13 hat6 hk13 _ => ?_
    refine s_ldAAt hat6 rfl ⟨hk5.new hk13 fun i hi => .inr (by omega), rfl⟩
  have hil := ofInt_lt hlt
  obtain ⟨x, hx⟩ := idx_of_lt hil
  obtain ⟨y, hy⟩ := idx_of_lt (show i < m.length by omega)
  have hxn := hn x (List.mem_of_getElem? hx)
  have hyb := hb y (List.mem_of_getElem? hy)
  have hFi : F i = dist a x.a + y := by rw [hFk, List.getD, List.getD, hx, hy]; rfl
  have hdb := dist_bound ha hxn
  refine s_join (hl5.idx (sz := 7) eC_len hx fun b o _ _ hc => s_ldA hc rfl ?_)
  refine s_var rfl rfl rfl fun b9 w8 hat9 hk8 hb9 hs9 => ?_
  have hat3 := hat3.keep0 hk8
  have hat6 := hat6.keep0 hk8
  have hat7 := hat7.keep0 hk8
  have hk_8 := hk5.trans hk8
  have hm8 := hm5.keep0 hk8
  have hsz8 := hk8.size
  refine s_held (fun w' => Keep NoB w8 w') ⟨keep_drew _ _, ?_⟩
  refine s_ldAS (fun w' h => (hat3.keep0 h).cells) rfl ?_
  refine s_off (s_ldAS (fun w' h => cho_a (hat9.keep0 h)) rfl ?_)
  refine hm8.idx (sz := 1) eI_len hy fun b o _ _ hc => s_ldS (fun w' h => (hc.keep0 h) 0 _ rfl) ?_
  refine (distance_spec E _ _ w8.drew ha hxn).mono ?_
  rintro u w9 ⟨hk9, rfl⟩
  have hk9' : Keep NoB w8 w9 := (keep_drew _ _).trans hk9
  refine ⟨hk9', s_add (by omega) (by omega) ?_⟩
  have hat3 := hat3.keep0 hk9'
  have hat6 := hat6.keep0 hk9'
  have hat7 := hat7.keep0 hk9'
  have hk_9 := hk_8.trans hk9'
  have hsz9 := hk9'.size
  have hr1 : (List.range (i + 1)).foldl (nst F) none = nst F ((List.range i).foldl (nst F) none) i := by rw [List.range_succ, List.foldl_append]; rfl
  generalize hst : (List.range i).foldl (nst F) none = st at *
  have hgo : ∀ w', Keep (· = b7) w9 w' → At w' b7 [vi (whichOf (nst F st i)), vi (least0 F (nst F st i))] c.t_path_way → binP .add (vi i) (vi 1) fun v40 => nx [v40] w' := fun w' hk' ha' => by
    refine s_add (by omega) (by omega) (hnx w' hil ⟨hk_9.new hk' fun i hi => .inr (by omega), by have := hk'.size; omega, hat3.keep hk' (by omega), hat6.keep hk' (by omega), ?_⟩)
    rw [hr1]; exact ha'
  have htake : nst F st i = some i → pureP c.P (Instr.build c.t_path_way #[(0, vi i), (1, vi (dist a x.a + y))]) fun v39 => stA 2 (pb b7 0) v39 w9 fun w12 => binP .add (vi i) (vi 1) fun v40 => nx [v40] w12 := fun hn => by
    refine s_buildWay T _ _ ?_
    refine s_stA (vs := [vi i, vi (dist a x.a + y)]) hat7 rfl rfl rfl fun w12 ha' hk' _ => hgo w12 hk' ?_
    rw [hn]
    show At w12 b7 [vi (i : Int), vi (F i)] _
    rw [hFi]; exact ha'
  refine s_join (s_off (s_ldAt hat7 rfl (s_lss (s_guardF (fun h => ?_) fun h => ?_))))
  · have h0 : ¬ whichOf st < 0 := by simpa using h
    cases st with
    | none => simp [whichOf] at h0
    | some u0 =>
    refine s_off (s_ldAt hat7 rfl (s_lss ?_))
    intro j1
    refine s_join (s_condD (fun h1 => ?_) fun h1 => ?_)
    · have hn : nst F (some u0) i = some i := by
        have h1 : dist a x.a + y < F u0 := h1
        rw [← hFi] at h1
        simp [nst, h1]
      have := htake hn
      revert this
      intro this
      exact pureP_mono this fun v h => stA_mono h fun w' h j2 j3 => h
    · have hn : nst F (some u0) i = some u0 := by
        have h1 : ¬ dist a x.a + y < F u0 := h1
        rw [← hFi] at h1
        simp [nst, h1]
      intro j2 j3
      exact hgo w9 (Keep.refl _ _) (by rw [hn]; exact hat7)
  · have h0 : whichOf st < 0 := by simpa using h
    cases st with
    | some u0 =>
      have h0 : (u0 : Int) < 0 := h0
      omega
    | none =>
    intro j1
    refine s_join (s_condT rfl ?_)
    exact pureP_mono (htake rfl) fun v h => stA_mono h fun w' h j2 j3 => h

end Go.Eng

/-! Contract: orders that are begun, by the program. -/
namespace Go.Eng
open Go
variable {c : Cfg}

theorem s_fld1 {off : Nat} {vs : List Value} {v : Value} {k : Value → Prop} (hv : vs[off]? = some v) (h : k v) : fld1 off (.agg vs.toArray) k := ⟨v, by simpa using hv, h⟩

/-- a row of single cells -/
theorem s_slot {w : World} {b n cap i : Nat} {L : List Value} {ty : TypeId} {v : Value} {k : Value → Prop} (ha : At w b L ty) (hi : i < n) (hv : L[i]? = some v) (h : k v) :
    idxP 1 (.slice (some ⟨b, 0, none⟩) n cap) (vi i) fun p => ld p w k := by
  refine s_idx (by omega) (by omega) ?_
  rw [Int.toNat_natCast, Nat.mul_one, Nat.zero_add]
  exact s_ldAt ha hv h
theorem s_slotS {S : World → Prop} {b n cap i : Nat} {L : List Value} {ty : TypeId} {v : Value} {k : Value → Prop} (ha : ∀ w, S w → At w b L ty) (hi : i < n) (hv : L[i]? = some v) (h : k v) :
    idxP 1 (.slice (some ⟨b, 0, none⟩) n cap) (vi i) fun p => ldS S p k := by
  refine s_idx (by omega) (by omega) ?_
  rw [Int.toNat_natCast, Nat.mul_one, Nat.zero_add]
  exact s_ldS (fun w hS => by rw [(ha w hS).cell]; exact hv) h
theorem s_slotSt {w : World} {b n cap i : Nat} {L : List Value} {ty : TypeId} {v : Value} {k : World → Prop} (ha : At w b L ty) (hi : i < n) (hl : i < L.length) (hv : Eng.one v = true)
    (h : ∀ w', At w' b (L.set i v) ty → Keep (· = b) w w' → w'.heap.size = w.heap.size → k w') : idxP 1 (.slice (some ⟨b, 0, none⟩) n cap) (vi i) fun p => st p v w k := by
  refine s_idx (by omega) (by omega) ?_
  rw [Int.toNat_natCast, Nat.mul_one, Nat.zero_add]
  exact s_st ha hl hv h
theorem rep_flat (n : Nat) (v : Value) : (List.replicate n [v]).flatten = List.replicate n v := by
  induction n with
  | zero => rfl
  | succ n ih => simp [List.replicate_succ]
theorem set_self {α : Type} {l : List α} {i : Nat} {x : α} (h : l[i]? = some x) : l.set i x = l := by
  apply List.ext_getElem?
  intro j
  rw [List.getElem?_set]
  have := lt_of_idx h
  by_cases hj : i = j
  · subst hj; rw [if_pos rfl, if_pos this, h]
  · rw [if_neg hj]

/-- a least way by its index -/
theorem way_eq (ps : List Pth) (a : Pt) (ws : List Vis) (g : Vis → Int) :
    ((List.range (ws.map (cho ps)).length).foldl (nst fun k => dist a ((ws.map (cho ps)).getD k cho0).a + (ws.map g).getD k 0) none).map (fun k => ws.getD k v0) = ws.foldl (nst fun v => dist a (frm ps v) + g v) none ∧
    least0 (fun k => dist a ((ws.map (cho ps)).getD k cho0).a + (ws.map g).getD k 0) ((List.range (ws.map (cho ps)).length).foldl (nst fun k => dist a ((ws.map (cho ps)).getD k cho0).a + (ws.map g).getD k 0) none) =
      least0 (fun v => dist a (frm ps v) + g v) (ws.foldl (nst fun v => dist a (frm ps v) + g v) none) := by
  have hk : ∀ k ∈ List.range ws.length, dist a ((ws.map (cho ps)).getD k cho0).a + (ws.map g).getD k 0 = dist a (frm ps (ws.getD k v0)) + g (ws.getD k v0) := fun k hk => by
    rw [List.mem_range] at hk
    have hg := getD_get (l := ws) (i := k) (d := v0) hk
    generalize ws.getD k v0 = x at *
    rw [List.getD, List.getD, List.getElem?_map, List.getElem?_map, hg]; rfl
  have h1 := nst_range ws v0 (fun v => dist a (frm ps v) + g v) (fun _ => true)
  rw [List.filter_eq_self.2 (fun _ _ => rfl), List.filter_eq_self.2 (fun _ _ => rfl)] at h1
  rw [List.length_map]
  have h2 := nst_congr (List.range ws.length) none hk (fun u hu => by cases hu)
  rw [h2, h1]
  refine ⟨rfl, ?_⟩
  cases hf : (List.range ws.length).foldl (nst fun k => dist a (frm ps (ws.getD k v0)) + g (ws.getD k v0)) none with
  | none => rfl
  | some k =>
    have hm : k ∈ List.range ws.length := by
      rcases nst_mem _ _ _ hf with h | h
      · exact h
      · cases h
    exact hk k hm

theorem begun_spec (E : Eqs c) (T : Ty c) {D D' : Nat → Prop} {lv kv : Value} {ps : List Pth} {order : List Int} {s : Pt} {w : World} (hl : SlP D w lv ps) (ho : Sl D' eI w kv order) :
    Ret c.P c.f_path_Begun #[.agg (eP s).toArray, lv, kv] w fun u w' =>
      Gives w (if startF s (pathsF ps) ≠ 0 then startF s (pathsF ps) else indF ps.length order) (begN ps s (stgs ps order) ps.length) (trav ps s (begN ps s (stgs ps order) ps.length)) u w' := by
  have hl := hl.lt
  have ho := ho.lt
  obtain ⟨eA, hTA⟩ := T.ssl_choice
  obtain ⟨eB, hTB⟩ := T.ssl_int
  apply E.path_Begun
  unfold wp_path_Begun
  refine s_new (cs := eP s) fun b3 w1 hat3 hk1 hb3 hs3 => ?_
  refine s_ldAAt hat3 rfl ?_
  refine (startPaths_spec E _ s lv ps w1 (hl.keep0 hk1)).mono ?_
  rintro u w2 ⟨hk2, rfl⟩
  have hk02 := hk1.trans hk2
  refine s_neq (s_condD (fun h => ?_) fun h => ?_)
  · rw [if_pos h]; exact ⟨hk02, fun _ => rfl, fun h' => absurd h' h⟩
  rw [if_neg h]
  have h : startF s (pathsF ps) = 0 := by omega
  obtain ⟨hs, hR⟩ : Nearby s ∧ Rights ps := by
    unfold startF at h
    by_cases hf : farPt s = true
    · rw [if_pos hf] at h; cases h
    · rw [if_neg hf] at h; exact ⟨near_of (by simpa using hf), rights_of h⟩
  have hRl := hR.len
  refine (hl.keep0 hk02).len ?_
  refine (indices2_spec E T _ ps.length kv order w2 (ho.keep0 hk02) (by omega)).mono ?_
  rintro u w3 ⟨hk3, rfl⟩
  have hk03 := hk02.trans hk3
  refine s_neq (s_condD (fun h => ⟨hk03, fun _ => rfl, fun h' => absurd h' h⟩) fun h => ?_)
  have h : indF ps.length order = 0 := by omega
  obtain ⟨hlen, hrange⟩ := indF_ok h
  have ho3 := ho.keep0 hk03
  have hat3 := (hat3.keep0 hk2).keep0 hk3
  have hsz3 := hk03.size
  have hb3lt : b3 < w3.heap.size := by have := (hk2.trans hk3).size; omega
  have hok := stgs_ok hR hrange
  have hstl : (stgs ps order).length = ps.length := by unfold stgs; rw [List.length_map, hlen]
  generalize hst : stgs ps order = sg at *
  have hstg : ∀ (i : Nat) (x : Int), order[i]? = some x → sg[i]? = some (waysL (pAt ps x) x) := fun i x hx => by rw [← hst, stgs, List.getElem?_map, hx]; rfl
  refine ho3.len (s_mkslice hTA (by omega) fun bl w4 hatl hk4 hbl hsl => ?_)
  refine (ho3.keep0 hk4).len (s_add (by omega) (by omega) ?_)
  rw [show ((order.length : Int) + 1) = ((order.length + 1 : Nat) : Int) from by omega]
  refine s_mkslice hTB (by omega) fun br w5 hatr hk5 hbr hsr => ?_
  rw [rep_flat] at hatl hatr
  have hatl := hatl.keep0 hk5
  have hat3 := (hat3.keep0 hk4).keep0 hk5
  have hk05 := (hk03.trans hk4).trans hk5
  have hsz4 := hk4.size
  refine (ho.keep0 hk05).len (s_sub (by omega) (by omega) ?_)
  generalize hn : order.length = n at *
  let DD : Nat → Prop := fun b => b ≠ bl ∧ b ≠ br
  let gi : Nat → Vis → Int := fun i v => rest ps (sg.drop (i + 1)) (tov ps v)
  have hgi : ∀ i, i < n → ∀ v, VOk ps v → 0 ≤ gi i v ∧ gi i v ≤ 200000 * n := fun i hi v hv => by
    have := rest_bound hR (sg.drop (i + 1)) (tov ps v) (fun ws hw => hok ws (List.mem_of_mem_drop hw)) (near_ends hR hv).2
    rw [List.length_drop] at this
    show 0 ≤ rest ps (sg.drop (i + 1)) (tov ps v) ∧ rest ps (sg.drop (i + 1)) (tov ps v) ≤ 200000 * n
    exact ⟨this.1, by omega⟩
  have hchn : ∀ x : Int, 0 ≤ x → x < ps.length → ∀ y ∈ choL ps x, Nearby y.a := fun x h0 h1 y hy => by
    obtain ⟨v, hv, rfl⟩ := List.mem_map.1 hy
    exact (near_ends hR (ways_ok hR h0 h1 hv).1).1
  -- the first loop: from behind, what is left behind each choice
  refine s_while (σ := Nat) (fun i' => [vi ((i' : Int) - 1)]) (fun i' w' => i' ≤ n ∧ Keep NoB w w' ∧ w5.heap.size ≤ w'.heap.size ∧ At w' b3 (eP s) c.t_api_Point ∧ ∃ Ls Rs, At w' bl Ls eA ∧ At w' br Rs eB ∧ Ls.length = n ∧ Rs.length = n + 1 ∧
      (∀ j x lv', i' ≤ j → order[j]? = some x → Ls[j]? = some lv' → Sl DD eC w' lv' (choL ps x)) ∧
      (∀ j x rv, i' ≤ j → order[j]? = some x → Rs[j]? = some rv → Sl DD eI w' rv ((waysL (pAt ps x) x).map (gi j))) ∧
      (∀ j, j < i' → Rs[j]? = some (.slice none 0 0))) (fun i' => i') n (by simp)
    ⟨Nat.le_refl _, hk05, Nat.le_refl _, hat3, List.replicate n (.slice none 0 0), List.replicate (n + 1) (.slice none 0 0), hatl, hatr, by simp, by simp,
      fun j x lv' hj hx => by have := lt_of_idx hx; omega, fun j x rv hj hx => by have := lt_of_idx hx; omega,
      fun j hj => by rw [List.getElem?_replicate]; simp; omega⟩ ?_
  rintro i' w6 j nx ⟨hi'n, hk6, hsz6, hat3, Ls, Rs, hatl, hatr, hLl, hRl', hLs, hRs, hRn⟩ hnx
  refine s_geq (s_condD (fun hge => ?_) fun hlt => ?_)
  · have hge : 1 ≤ i' := by omega
    obtain ⟨i, rfl⟩ : ∃ i, i' = i + 1 := ⟨i' - 1, by omega⟩
    have ei : ((i + 1 : Nat) : Int) - 1 = (i : Int) := by omega
    show idxP 1 kv (vi (((i + 1 : Nat) : Int) - 1)) _
    rw [ei]
    have hin : i < n := by omega
    obtain ⟨x, hx⟩ := idx_of_lt (show i < order.length by omega)
    obtain ⟨x0, x1⟩ := hrange x (List.mem_of_getElem? hx)
    obtain ⟨q, hq⟩ := Int.eq_ofNat_of_zero_le x0
    refine (ho.keep0 hk6).idx (sz := 1) eI_len hx fun b o' _ _ hc => s_ldC0 hc ?_
    have hqx : q < ps.length := by omega
    refine (show Ret c.P c.f_path_choices #[lv, vi x] w6 _ from ?_)
    rw [hq]
    refine (choices_spec E T _ lv ps q w6 (hl.keep0 hk6) hqx hR).mono ?_
    intro u7 w7 hg7
    rw [← hq] at hg7
    have hk7 := hg7.keep
    refine s_slotSt (hatl.keep0 hk7) (by omega) (by omega) hg7.ow.one fun w8 hatl8 hk8 hs8 => ?_
    refine s_slot (v := u7) hatl8 (by omega) (by rw [List.getElem?_set, if_pos rfl, if_pos (by omega)]) ?_
    have hsz7 := hk7.size
    have hc8 : Sl DD eC w8 u7 (choL ps x) := (hg7.sl.keep hk8 fun b hb h => by have hb : w6.heap.size ≤ b := hb; omega).dom fun b hb => by
      have hb : w6.heap.size ≤ b := hb
      exact ⟨by omega, by omega⟩
    have hatr8 := (hatr.keep0 hk7).keep hk8 (by omega)
    have hat38 := (hat3.keep0 hk7).keep hk8 (by omega)
    have hk_8 : Keep NoB w w8 := (hk6.trans hk7).new hk8 fun i hi => .inr (by omega)
    have hRi := hRn i (by omega)
    have hwok : ∀ v ∈ waysL (pAt ps x) x, VOk ps v := fun v hv => (ways_ok hR x0 x1 hv).1
    have hcl : choL ps x = (waysL (pAt ps x) x).map (cho ps) := rfl
    refine hc8.len ?_
    have hclb := hc8.bound
    have hwl : (choL ps x).length = (waysL (pAt ps x) x).length := by rw [hcl, List.length_map]
    have hwb : (waysL (pAt ps x) x).length ≤ 502 := by
      have hpl : (pAt ps x).pts.length ≤ 500 := by
        obtain ⟨p, hp⟩ := idx_of_lt hqx
        rw [hq, pAt_get hp]; exact hR.le p (List.mem_of_getElem? hp)
      unfold waysL; split <;> simp; omega
    -- the next stage's rows, in w8
    have hnextL : ∀ x', order[i + 1]? = some x' → ∃ lv' rv, (Ls.set i u7)[i + 1]? = some lv' ∧ Sl (fun b => DD b ∧ b < w8.heap.size) eC w8 lv' (choL ps x') ∧
        Rs[i + 1]? = some rv ∧ Sl (fun b => DD b ∧ b < w8.heap.size) eI w8 rv ((waysL (pAt ps x') x').map (gi (i + 1))) := fun x' hx' => by
      have hlt' := lt_of_idx hx'
      obtain ⟨lv', hlv'⟩ := idx_of_lt (show i + 1 < Ls.length by omega)
      obtain ⟨rv, hrv⟩ := idx_of_lt (show i + 1 < Rs.length by omega)
      have hs1 := hLs (i + 1) x' lv' (by omega) hx' hlv'
      have hs2 := hRs (i + 1) x' rv (by omega) hx' hrv
      refine ⟨lv', rv, by rw [List.getElem?_set_ne (by omega)]; exact hlv', ?_, hrv, ?_⟩
      · exact ((hs1.keep0 hk7).keep hk8 fun b hb h => hb.1 h).old
      · exact ((hs2.keep0 hk7).keep hk8 fun b hb h => hb.1 h).old
    generalize hws : waysL (pAt ps x) x = ws at *
    refine s_for ws.length (fun k (_ : Value) => [vi k]) (fun k uv w' => Keep (· = br) w8 w' ∧ At w' br (Rs.set i uv) eB ∧ Ow (Fresh w8) c.t_int 1 eI w' uv ((ws.take k).map (gi i))) (.slice none 0 0) rfl
      ⟨Keep.refl _ _, by rw [set_self hRi]; exact hatr8, by simpa using Ow.nil⟩ ?_
    rintro k uv w9 j2 nx2 ⟨hk9, hatr9, how9⟩ hkn hnx2
    rw [hwl]
    refine s_lss (s_condD (fun hlt2 => ?_) fun hge2 => ?_)
    rotate_left
    · obtain rfl : k = ws.length := by omega
      rw [List.take_length] at how9
      refine s_sub (by omega) (by omega) ?_
      have hsz9 := hk9.size
      have := hnx i w9 ⟨by omega, hk_8.new hk9 fun i hi => .inr (by omega), by omega, hat38.keep hk9 (by omega), Ls.set i u7, Rs.set i uv, hatl8.keep hk9 (by omega), hatr9, by simpa using hLl, by simpa using hRl', ?_, ?_, ?_⟩ (by omega)
      · exact this
      · intro j x' lv' hj hx' hlv'
        by_cases hji : i = j
        · subst hji
          rw [hx] at hx'; cases hx'
          rw [List.getElem?_set] at hlv'
          simp only [if_true] at hlv'
          rw [if_pos (by omega)] at hlv'
          cases hlv'
          exact hc8.keep hk9 fun b hb h => hb.2 h
        · rw [List.getElem?_set_ne hji] at hlv'
          have hs1 := hLs j x' lv' (by omega) hx' hlv'
          exact ((hs1.keep0 hk7).keep hk8 fun b hb h => hb.1 h).keep hk9 fun b hb h => hb.2 h
      · intro j x' rv hj hx' hrv
        by_cases hji : i = j
        · subst hji
          rw [hx] at hx'; cases hx'
          rw [List.getElem?_set] at hrv
          simp only [if_true] at hrv
          rw [if_pos (by omega)] at hrv
          cases hrv
          rw [hws]
          exact how9.sl.dom fun b hb => by
            have hb : w8.heap.size ≤ b := hb
            exact ⟨by omega, by omega⟩
        · rw [List.getElem?_set_ne hji] at hrv
          have hs1 := hRs j x' rv (by omega) hx' hrv
          exact ((hs1.keep0 hk7).keep hk8 fun b hb h => hb.1 h).keep hk9 fun b hb h => hb.2 h
      · intro j hj
        rw [List.getElem?_set_ne (by omega)]
        exact hRn j (by omega)
    have hkl := ofInt_lt hlt2
    obtain ⟨v, hv⟩ := idx_of_lt hkl
    have hvo := hwok v (List.mem_of_getElem? hv)
    have hne := near_ends hR hvo
    have hcv : (choL ps x)[k]? = some (cho ps v) := by rw [hcl, List.getElem?_map, hv]; rfl
    have hc9 := hc8.keep hk9 fun b hb h => hb.2 h
    refine hc9.idx (sz := 7) eC_len hcv fun b o' _ _ hc => s_ldA hc rfl ?_
    refine s_var rfl rfl rfl fun b15 w11 hat15 hk11 hb15 hs15 => ?_
    have hk8_11 : Keep (· = br) w8 w11 := hk9.trans hk11.none
    have hatr11 := hatr9.keep0 hk11
    have how11 := how9.keep0 hk11
    have hatl11 := hatl8.keep hk8_11 (by omega)
    have hsz9 := hk9.size
    have hsz11 := hk8_11.size
    refine s_add (by omega) (by omega) ?_
    refine (ho.keep0 (hk_8.new hk8_11 fun i hi => .inr (by omega))).len ?_
    rw [hn]
    refine s_lss ?_
    -- what follows, with the number
    have hgo : ∀ (w12 : World), Keep NoB w11 w12 → idxP 1 (.slice (some ⟨br, 0, none⟩) (n + 1) (n + 1)) (vi i) fun v89 => ld v89 w12 fun v90 => semP c.P (Instr.buildSlice c.t_sl_int 1 #[(0, vi (gi i v))]) w12 fun v92 w14 =>
        semP c.P (Builtin.append_ #[c.t_sl_int, c.t_sl_int] c.t_sl_int #[v90, v92]) w14 fun v93 w15 => idxP 1 (.slice (some ⟨br, 0, none⟩) (n + 1) (n + 1)) (vi i) fun v94 => st v94 v93 w15 fun w16 => binP .add (vi k) (vi 1) fun v95 => nx2 [v95] w16 := fun w12 hk12 => by
      have hatr12 := hatr11.keep0 hk12
      refine s_slot hatr12 (by omega) (v := uv) (by rw [List.getElem?_set, if_pos rfl, if_pos (by omega)]) ?_
      have hsz12 := hk12.size
      refine s_push T.sl_int (y := gi i v) (how11.keep0 hk12) rfl rfl rfl (by rw [List.length_map, List.length_take]; omega) (by omega) (fun i hi => by show w8.heap.size ≤ i; omega) fun u15 w15 how15 hk15 hi15 => ?_
      have hinu : ∀ b, inV uv b → w8.heap.size ≤ b := fun b hb => Own.inD how11 hb
      refine s_slotSt (hatr12.keep hk15 fun h => by have := hinu _ h; omega) (by omega) (by rw [List.length_set]; omega) how15.one fun w16 hatr16 hk16 hs16 => ?_
      refine s_add (by omega) (by omega) ?_
      rw [List.set_set] at hatr16
      refine hnx2 u15 w16 hkl ⟨(((hk8_11.trans hk12.none).new hk15 fun i hi => .inr (hinu i hi)).trans hk16), hatr16, ?_⟩
      rw [take_snoc hv, List.map_append]
      refine how15.keep hk16 fun b hb h => ?_
      rcases hi15 b hb with h' | h'
      · have := hinu b h'; omega
      · omega
    have hfin : ∀ (w12 : World) (y : Value), Keep NoB w11 w12 → y = vi (gi i v) → idxP 1 (.slice (some ⟨br, 0, none⟩) (n + 1) (n + 1)) (vi i) fun v89 => ld v89 w12 fun v90 => semP c.P (Instr.buildSlice c.t_sl_int 1 #[(0, y)]) w12 fun v92 w14 =>
        semP c.P (Builtin.append_ #[c.t_sl_int, c.t_sl_int] c.t_sl_int #[v90, v92]) w14 fun v93 w15 => idxP 1 (.slice (some ⟨br, 0, none⟩) (n + 1) (n + 1)) (vi i) fun v94 => st v94 v93 w15 fun w16 => binP .add (vi k) (vi 1) fun v95 => nx2 [v95] w16 := fun w12 y hk12 hy => by
      rw [hy]; exact hgo w12 hk12
    refine s_join (s_condD (fun h1 => ?_) fun h1 => ?_)
    · obtain ⟨x', hx'⟩ := idx_of_lt (show i + 1 < order.length by omega)
      obtain ⟨y0, y1⟩ := hrange x' (List.mem_of_getElem? hx')
      obtain ⟨lv', rv, hlv', hs1, hrv, hs2⟩ := hnextL x' hx'
      have hMM : ∀ b, (DD b ∧ b < w8.heap.size) → ¬ (b = br) := fun b hb h => hb.1.2 h
      have hs1 := hs1.keep hk8_11 hMM
      have hs2 := hs2.keep hk8_11 hMM
      refine s_held (fun w' => Keep NoB w11 w') ⟨keep_drew _ _, ?_⟩
      refine s_off (s_ldAS (fun w' h => cho_b (hat15.keep0 h)) rfl ?_)
      refine s_add (by omega) (by omega) ?_
      rw [show ((i : Int) + 1) = ((i + 1 : Nat) : Int) from by omega]
      refine s_slotS (fun w' h => hatl11.keep0 h) (by omega) hlv' ?_
      refine s_add (by omega) (by omega) ?_
      rw [show ((i : Int) + 1) = ((i + 1 : Nat) : Int) from by omega]
      refine s_slotS (fun w' h => hatr11.keep0 h) (by omega) (by rw [List.getElem?_set_ne (by omega)]; exact hrv) ?_
      refine (nearestWay_spec E T hs1.drew hs2.drew (by rw [List.length_map, choL, List.length_map]) hne.2 (hchn x' y0 y1) ?_).mono ?_
      · intro y hy
        obtain ⟨v', hv', rfl⟩ := List.mem_map.1 hy
        have := hgi (i + 1) (by omega) v' (ways_ok hR y0 y1 hv').1
        omega
      · rintro u83 w13 ⟨hk13, rfl⟩
        have hk13' : Keep NoB w11 w13 := (keep_drew _ _).trans hk13
        refine ⟨hk13', s_fld1 (vs := [_, _]) rfl ?_⟩
        intro j3
        refine hfin w13 _ hk13' ?_
        show vi _ = vi (gi i v)
        congr 1
        have hw := way_eq ps (tov ps v) (waysL (pAt ps x') x') (gi (i + 1))
        rw [show choL ps x' = (waysL (pAt ps x') x').map (cho ps) from rfl]
        refine hw.2.trans ?_
        have hdrop : sg.drop (i + 1) = waysL (pAt ps x') x' :: sg.drop (i + 2) := by
          have := hstg (i + 1) x' hx'
          have hil := lt_of_idx this
          rw [List.drop_eq_getElem_cons hil]
          rw [List.getElem?_eq_getElem hil] at this
          rw [Option.some.inj this]
        show _ = rest ps (sg.drop (i + 1)) (tov ps v)
        rw [hdrop]; rfl
    · intro j3
      refine hfin w11 _ (Keep.refl _ _) ?_
      show vi 0 = vi (gi i v)
      congr 1
      have : sg.drop (i + 1) = [] := List.drop_eq_nil_of_le (by omega)
      show (0 : Int) = rest ps (sg.drop (i + 1)) (tov ps v)
      rw [this]; rfl
  · obtain rfl : i' = 0 := by omega
    refine s_ldAAt hat3 rfl ?_
    refine s_var rfl rfl rfl fun b18 w18 hat18 hk18 hb18 hs18 => ?_
    have hat3 := hat3.keep0 hk18
    have hk_18 := hk6.trans hk18
    have hsz6' := hk6.size
    refine (ho.keep0 hk_18).len ?_
    rw [hn]
    refine s_for n (fun i (u : Value) => [u, vi i]) (fun i u w' => Keep (· = b18) w18 w' ∧ Ow (Fresh w18) c.t_api_Visit 3 eV w' u (begN ps s sg i) ∧ At w' b18 (eP (lastP ps s (begN ps s sg i))) c.t_api_Point) (.slice none 0 0) rfl
      ⟨Keep.refl _ _, Ow.nil, by simpa [lastP, begN] using hat18⟩ ?_
    rintro i u w19 j2 nx2 ⟨hk19, hou, hat18⟩ hin2 hnx2
    obtain ⟨hbl, hbok⟩ := begN_facts (ps := ps) s hok i (by omega)
    have hnear := near_last hR (begN ps s sg i) s hs hbok
    have hk_19 : Keep NoB w w19 := hk_18.new hk19 fun i hi => .inr (by omega)
    have hsz19 := hk19.size
    refine s_lss (s_condD (fun hlt2 => ?_) fun hge2 => ?_)
    rotate_left
    · have hi : i = ps.length := by omega
      subst hi
      refine s_ldAAt (hat3.keep hk19 (by omega)) rfl ?_
      refine (travel_spec E _ _ s lv u ps _ w19 (hl.keep0 hk_19) hou.sl hR hs hbok (by omega)).mono ?_
      rintro v w20 ⟨hk20, rfl⟩
      exact ⟨hk_19.trans hk20, fun h' => absurd h h', fun _ => ⟨u, rfl, (hou.sl.keep0 hk20).dom fun b hb => by have hb : w18.heap.size ≤ b := hb; show w.heap.size ≤ b; omega⟩⟩
    have hil := ofInt_lt hlt2
    obtain ⟨x, hx⟩ := idx_of_lt (show i < order.length by omega)
    obtain ⟨x0, x1⟩ := hrange x (List.mem_of_getElem? hx)
    obtain ⟨lv', hlv'⟩ := idx_of_lt (show i < Ls.length by omega)
    obtain ⟨rv, hrv⟩ := idx_of_lt (show i < Rs.length by omega)
    have hM18 : ∀ b, (DD b ∧ b < w6.heap.size) → ¬ (b = b18) := fun b hb h => by have := hb.2; omega
    have hs1 : Sl (fun b => DD b ∧ b < w6.heap.size) eC w19 lv' (choL ps x) := (((hLs i x lv' (by omega) hx hlv').old).keep0 hk18).keep hk19 hM18
    have hs2 : Sl (fun b => DD b ∧ b < w6.heap.size) eI w19 rv ((waysL (pAt ps x) x).map (gi i)) := (((hRs i x rv (by omega) hx hrv).old).keep0 hk18).keep hk19 hM18
    have hbl6 := hatl.lt
    have hbr6 := hatr.lt
    have hatl19 := (hatl.keep0 hk18).keep hk19 (by omega)
    have hatr19 := (hatr.keep0 hk18).keep hk19 (by omega)
    have hat319 := hat3.keep hk19 (by omega)
    have hwok : ∀ v ∈ waysL (pAt ps x) x, VOk ps v := fun v hv => (ways_ok hR x0 x1 hv).1
    have hsgi := hstg i x hx
    have hb1 : begN ps s sg (i + 1) = begN ps s sg i ++ [((waysL (pAt ps x) x).foldl (nst fun v => dist (lastP ps s (begN ps s sg i)) (frm ps v) + gi i v) none).getD v0] := by
      have : sg.getD i [] = waysL (pAt ps x) x := by rw [List.getD, hsgi]; rfl
      simp only [begN, this]; rfl
    have hway := (way_eq ps (lastP ps s (begN ps s sg i)) (waysL (pAt ps x) x) (gi i)).1
    obtain ⟨hwne, _⟩ := hok _ (List.mem_of_getElem? hsgi)
    obtain ⟨bv, hbv, hbm⟩ := pick_some (f := fun v => dist (lastP ps s (begN ps s sg i)) (frm ps v) + gi i v) hwne
    rw [hbv] at hway hb1
    have hbo := hwok bv hbm
    rw [Option.getD_some] at hb1
    have hchl : (waysL (pAt ps x) x).map (cho ps) = choL ps x := rfl
    rw [hchl] at hway
    generalize hfold : (List.range (choL ps x).length).foldl (nst fun k => dist (lastP ps s (begN ps s sg i)) ((choL ps x).getD k cho0).a + ((waysL (pAt ps x) x).map (gi i)).getD k 0) none = fo at hway
    cases fo with
    | none => cases hway
    | some k =>
    have hkm : k ∈ List.range (choL ps x).length := by
      rcases nst_mem _ _ _ hfold with h | h
      · exact h
      · cases h
    rw [List.mem_range] at hkm
    have hkv : (choL ps x)[k]? = some (cho ps bv) := by
      have : (waysL (pAt ps x) x).getD k v0 = bv := by simpa using hway
      have hkl : k < (waysL (pAt ps x) x).length := by rw [choL, List.length_map] at hkm; exact hkm
      rw [choL, List.getElem?_map, getD_get (d := v0) hkl, this]; rfl
    have hblk : (begN ps s sg i).length = i := hbl
    have hinu : ∀ b, inV u b → w18.heap.size ≤ b ∧ b < w19.heap.size := fun b hb => ⟨Own.inD hou hb, Own.inLt hou hb⟩
    -- what follows the choice
    have hcont : ∀ (b20 : Nat) (w23 : World), Keep NoB w19 w23 → At w23 b20 (eC (cho ps bv)) c.t_path_choice → w19.heap.size ≤ b20 →
        offP 0 (pb b20 0) fun v120 => ldA 3 v120 w23 fun v121 => semP c.P (Instr.buildSlice c.t_sl_api_Visit 1 #[(0, v121)]) w23 fun v122 w27 =>
          semP c.P (Builtin.append_ #[c.t_sl_api_Visit, c.t_sl_api_Visit] c.t_sl_api_Visit #[u, v122]) w27 fun v123 w28 =>
          offP 5 (pb b20 0) fun v124 => ldA 2 v124 w28 fun v125 => stA 2 (pb b18 0) v125 w28 fun w29 => binP .add (vi i) (vi 1) fun v126 => nx2 [v123, v126] w29 := fun b20 w23 hk23 hat20 hb20 => by
      have hsz23 := hk23.size
      refine s_off (s_ldA (cho_v hat20) rfl ?_)
      refine s_push T.sl_visit (y := bv) (hou.keep0 hk23) rfl rfl rfl (by omega) (by omega) (fun i hi => by show w18.heap.size ≤ i; omega) fun u28 w28 hou28 hk28 hi28 => ?_
      refine s_off (s_ldA (cho_b (hat20.keep hk28 fun h => by have := hinu _ h; omega)) rfl ?_)
      refine s_stA (vs := eP (tov ps bv)) ((hat18.keep0 hk23).keep hk28 fun h => by have := hinu _ h; omega) rfl rfl rfl fun w29 hat29 hk29 hs29 => ?_
      refine s_add (by omega) (by omega) (hnx2 u28 w29 hil ⟨((hk19.trans hk23.none).new hk28 fun i hi => .inr (hinu i hi).1).trans hk29, ?_, ?_⟩)
      · rw [hb1]
        refine hou28.keep hk29 fun b hb h => ?_
        rcases hi28 b hb with h' | h'
        · have := hinu b h'; omega
        · omega
      · rw [hb1, lastP_snoc]; exact hat29
    refine s_join (s_held (fun w' => Keep NoB w19 w') ⟨keep_drew _ _, ?_⟩)
    refine s_slotS (fun w' h => hatl19.keep0 h) (by omega) hlv' ?_
    refine s_ldAS (fun w' h => (hat18.keep0 h).cells) rfl ?_
    refine s_slotS (fun w' h => hatl19.keep0 h) (by omega) hlv' ?_
    refine s_slotS (fun w' h => hatr19.keep0 h) (by omega) hrv ?_
    have hrb : ∀ y ∈ (waysL (pAt ps x) x).map (gi i), 0 ≤ y ∧ y ≤ 1000000000000 := fun y hy => by
      obtain ⟨v', hv', rfl⟩ := List.mem_map.1 hy
      have := hgi i (by omega) v' (hwok v' hv')
      omega
    have hel : ∀ w' , Keep NoB w19 w' → ∀ {k' : Value → Prop}, k' (.agg (eC (cho ps bv)).toArray) → idxP 7 lv' (vi k) fun a => ldAS (fun w' => Keep NoB w19 w') 7 a k' := fun w' _ k' h => by
      refine hs1.idx (sz := 7) eC_len hkv fun b o' _ _ hc => ?_
      exact s_ldAS (fun w'' h => hc.keep0 h) rfl h
    constructor
    · refine (nearestWay_spec E T hs1.drew hs2.drew (by rw [List.length_map, choL, List.length_map]) hnear (hchn x x0 x1) hrb).mono ?_
      rintro u21 w21 ⟨hk21, rfl⟩
      rw [hfold]
      have hk21' : Keep NoB w19 w21 := (keep_drew _ _).trans hk21
      refine ⟨hk21', s_fld1 (vs := [_, _]) rfl ?_⟩
      refine hel w21 hk21' ?_
      refine s_new (cs := eC cho0) fun b20 w22 hat20 hk22 hb20 hs20 => ⟨hk21'.trans hk22, ?_⟩
      refine s_stA (vs := eC (cho ps bv)) hat20 rfl rfl rfl fun w23 hat20 hk23 hs23 => ?_
      have hsz21 := hk21'.size
      intro j4
      exact hcont b20 w23 ((hk21'.trans hk22).new hk23 fun i hi => .inr (by omega)) hat20 (by omega)
    · refine s_new (cs := eC cho0) fun b20 w24 hat20 hk24 hb20 hs20 => ?_
      have hk24' : Keep NoB w19 w24 := (keep_drew _ _).trans hk24
      refine ⟨hk24', ?_⟩
      refine (nearestWay_spec E T (hs1.keep0 hk24') (hs2.keep0 hk24') (by rw [List.length_map, choL, List.length_map]) hnear (hchn x x0 x1) hrb).mono ?_
      rintro u25 w25 ⟨hk25, rfl⟩
      rw [hfold]
      refine ⟨hk24'.trans hk25, s_fld1 (vs := [_, _]) rfl ?_⟩
      refine hel w25 (hk24'.trans hk25) ?_
      refine s_stA (vs := eC (cho ps bv)) (hat20.keep0 hk25) rfl rfl rfl fun w26 hat20 hk26 hs26 => ?_
      have : b20 = w19.heap.size := hb20
      intro j4
      exact hcont b20 w26 ((hk24'.trans hk25).new hk26 fun i hi => .inr (by omega)) hat20 (by omega)
end Go.Eng

/-! Contract: the finder's next choice. -/
namespace Go.Eng
open Go
variable {c : Cfg}

def eM (r : Nat) : List Value := [.map (some r)]
theorem eM_len : ∀ {l : List Nat}, ∀ x ∈ l, (eM x).length = 1 := fun _ _ => rfl

theorem next2_spec (E : Eqs c) (T : Ty c) {D D' : Nat → Prop} {bf : Nat} {tf : TypeId} {av fv : Value} {all : List Cho} {rs : List Nat} {a : Pt} {set : Nat} {w : World} (G : Nat → Int)
    (hf : At w bf [av, fv] tf) (ha : Sl D eC w av all) (hr : Sl D' eM w fv rs) (hlen : rs.length = all.length) (hn : Nearby a) (hs : set < 1000000)
    (hall : ∀ x ∈ all, Nearby x.a ∧ 0 ≤ x.v.path ∧ x.v.path < 60)
    (hm : ∀ k x r, all[k]? = some x → rs[k]? = some r → bitOf set x = true → (0 ≤ G k ∧ G k ≤ 1000000000000) ∧ ∃ m, Mp vi w r m ∧ m (clr set x.v.path.toNat : Nat) = some (vi (G k))) :
    Ret c.P c.f_p_path_finder_next #[pb bf 0, .agg (eP a).toArray, vi set] w fun u w' => Keep NoB w w' ∧
      u = .tuple #[vi (whichOf (((List.range all.length).filter fun k => bitOf set (all.getD k cho0)).foldl (nst fun k => dist a (all.getD k cho0).a + G k) none)),
        vi (least0 (fun k => dist a (all.getD k cho0).a + G k) (((List.range all.length).filter fun k => bitOf set (all.getD k cho0)).foldl (nst fun k => dist a (all.getD k cho0).a + G k) none))] := by
  have ha := ha.lt
  have hr := hr.lt
  obtain ⟨kt, et, hu, K, hz⟩ := T.mi
  apply E.p_path_finder_next
  unfold wp_p_path_finder_next
  generalize hF : (fun k => dist a (all.getD k cho0).a + G k) = F
  have hFk : ∀ k, F k = dist a (all.getD k cho0).a + G k := fun k => by rw [← hF]
  generalize hB : (fun k => bitOf set (all.getD k cho0)) = B
  have hBk : ∀ k, B k = bitOf set (all.getD k cho0) := fun k => by rw [← hB]
  refine s_new (cs := eP a) fun b4 w1 hat4 hk1 hb4 hs4 => ?_
  refine s_nil (s_off (s_ldAt (hf.keep0 hk1) rfl ?_))
  have hlb := ha.bound
  refine (ha.keep0 hk1).len ?_
  refine s_for all.length (fun i (_ : Unit) => [vi (whichOf (((List.range i).filter B).foldl (nst F) none)), vi (least0 F (((List.range i).filter B).foldl (nst F) none)), vi i])
    (fun i _ w' => Keep NoB w w' ∧ At w' b4 (eP a) c.t_api_Point) () rfl ⟨hk1, hat4⟩ ?_
  rintro i _ w2 j nx ⟨hk2, hat4⟩ hin hnx
  refine s_lss (s_condD (fun hlt => ?_) fun hge => ?_)
  rotate_left
  · obtain rfl : i = all.length := by omega
    exact ⟨hk2, rfl⟩
  have hil := ofInt_lt hlt
  obtain ⟨x, hx⟩ := idx_of_lt hil
  obtain ⟨r, hr'⟩ := idx_of_lt (show i < rs.length by omega)
  obtain ⟨hxn, hp0, hp1⟩ := hall x (List.mem_of_getElem? hx)
  obtain ⟨q, hq⟩ := Int.eq_ofNat_of_zero_le hp0
  have hxd : all.getD i cho0 = x := by rw [List.getD, hx]; rfl
  have hFi : F i = dist a x.a + G i := by rw [hFk, hxd]
  have hBi : B i = set.testBit q := by rw [hBk, hxd, bitOf, show x.v.path.toNat = q by omega]
  have hdb := dist_bound hn hxn
  have hr1 : ((List.range (i + 1)).filter B).foldl (nst F) none = if set.testBit q then nst F (((List.range i).filter B).foldl (nst F) none) i else ((List.range i).filter B).foldl (nst F) none := by
    rw [List.range_succ, List.filter_append, List.foldl_append]
    simp only [List.filter_cons, List.filter_nil, hBi]
    split <;> rfl
  have hmem : ∀ u, ((List.range i).filter B).foldl (nst F) none = some u → u < i := fun u hu => by
    rcases nst_mem _ _ _ hu with h | h
    · exact List.mem_range.1 (List.mem_filter.1 h).1
    · cases h
  generalize hst : ((List.range i).filter B).foldl (nst F) none = st at *
  have hgo : ∀ (st' : Option Nat) (w' : World), st' = (if set.testBit q then nst F st i else st) → Keep NoB w w' → At w' b4 (eP a) c.t_api_Point → binP .add (vi i) (vi 1) fun v56 => nx [vi (whichOf st'), vi (least0 F st'), v56] w' := fun st' w' he hk' ha' => by
    refine s_add (by omega) (by omega) ?_
    have := hnx () w' hil ⟨hk', ha'⟩
    rw [hr1, ← he] at this
    exact this
  refine s_join ((ha.keep0 hk2).idx (sz := 7) eC_len hx fun b o _ _ hc => s_ldA hc rfl ?_)
  refine s_var rfl rfl rfl fun b9 w5 hat9 hk5 hb9 hs9 => ?_
  have hk_5 := hk2.trans hk5
  have hat4 := hat4.keep0 hk5
  refine s_off (s_off (s_ldAt hat9 rfl ?_))
  rw [hq]
  refine s_bit (by omega) (by omega) ?_
  refine s_eql (s_condD (fun h0 => ?_) fun h0 => ?_)
  · have hbit : set.testBit q = false := by
      cases hh : set.testBit q with
      | false => rfl
      | true => rw [hh] at h0; simp at h0
    intro j1
    exact hgo st w5 (by rw [hbit]; rfl) hk_5 hat4
  have hbit : set.testBit q = true := by
    cases hh : set.testBit q with
    | true => rfl
    | false => rw [hh] at h0; simp at h0
  obtain ⟨hG, m, hmp, hmv⟩ := hm i x r hx hr' (by rw [bitOf, show x.v.path.toNat = q by omega]; exact hbit)
  rw [show x.v.path.toNat = q by omega] at hmv
  have hmp5 := hmp.keep0 hk_5
  have hf5 := hf.keep0 hk_5
  have hr5 := hr.keep0 hk_5
  -- what follows the sum
  have hcont : ∀ (w6 : World), Keep NoB w5 w6 → (joinP (fun k3 => binP .lss (vi (whichOf st)) (.int .i64 0) fun v48 => guardP v48 false (binP .lss (vi (dist a x.a + G i)) (vi (least0 F st)) fun v52 => k3 [v52] w6) (k3 [(.bool true)] w6)) fun s3 j3 w11 =>
      joinP (fun k4 => condP (g s3 0) (k4 [vi i, vi (dist a x.a + G i)] w11) (k4 [vi (whichOf st), vi (least0 F st)] w11)) fun s4 j4 w12 =>
      ∀ (j : Nat → Value), binP .add (vi i) (vi 1) fun v56 => nx [g [g s4 0, g s4 1] 0, g [g s4 0, g s4 1] 1, v56] w12) := fun w6 hk6 => by
    have hk_6 := hk_5.trans hk6
    have hat6 := hat4.keep0 hk6
    refine s_join (s_lss (s_guardF (fun h => ?_) fun h => ?_))
    · have h0 : ¬ whichOf st < 0 := by simpa using h
      cases st with
      | none => simp [whichOf] at h0
      | some u0 =>
      refine s_lss ?_
      intro j1
      refine s_join (s_condD (fun h1 => ?_) fun h1 => ?_)
      · have hn : nst F (some u0) i = some i := by
          have h1 : dist a x.a + G i < F u0 := h1
          rw [← hFi] at h1
          simp [nst, h1]
        intro j2 j3
        have := hgo (some i) w6 (by rw [hbit, if_pos rfl, hn]) hk_6 hat6
        rw [← hFi]
        exact this
      · have hn : nst F (some u0) i = some u0 := by
          have h1 : ¬ dist a x.a + G i < F u0 := h1
          rw [← hFi] at h1
          simp [nst, h1]
        intro j2 j3
        exact hgo (some u0) w6 (by rw [hbit, if_pos rfl, hn]) hk_6 hat6
    · have h0 : whichOf st < 0 := by simpa using h
      cases st with
      | some u0 =>
        have h0 : (u0 : Int) < 0 := h0
        omega
      | none =>
      intro j1
      refine s_join (s_condT rfl ?_)
      intro j2 j3
      have := hgo (some i) w6 (by rw [hbit, if_pos rfl]; rfl) hk_6 hat6
      rw [← hFi]
      exact this
  refine s_join (s_held (fun w' => Keep NoB w5 w') ⟨keep_drew _ _, ?_⟩)
  refine s_ldAS (fun w' h => (hat4.keep0 h).cells) rfl ?_
  refine s_off (s_ldAS (fun w' h => cho_a (hat9.keep0 h)) rfl ?_)
  refine s_nil (s_off (s_ldS (fun w' h => by rw [(hf5.keep0 h).cell]; rfl) ?_))
  refine hr5.idx (sz := 1) eM_len hr' fun b o _ _ hc => s_ldS (fun w' h => (hc.keep0 h) 0 _ rfl) ?_
  refine s_off (s_off (s_ldS (fun w' h => by rw [(hat9.keep0 h).cell]; rfl) ?_))
  rw [hq]
  refine s_shl1 (by omega) (s_andNot (by omega) (by omega) ?_)
  constructor
  · refine (distance_spec E _ _ w5.drew hn hxn).mono ?_
    rintro u7 w7 ⟨hk7, rfl⟩
    have hk7' : Keep NoB w5 w7 := (keep_drew _ _).trans hk7
    refine ⟨hk7', s_lookup hu K hz (hmp5.keep0 hk7') _ ⟨hk7', ?_⟩⟩
    rw [hmv]
    refine s_add (by omega) (by omega) ?_
    intro j1
    exact hcont w7 hk7'
  · refine s_lookup hu K hz (hmp5.keep0 (keep_drew _ _)) _ ⟨keep_drew _ _, ?_⟩
    rw [hmv]
    refine (distance_spec E _ _ w5.drew hn hxn).mono ?_
    rintro u7 w7 ⟨hk7, rfl⟩
    have hk7' : Keep NoB w5 w7 := (keep_drew _ _).trans hk7
    refine ⟨hk7', s_add (by omega) (by omega) ?_⟩
    intro j1
    exact hcont w7 hk7'

end Go.Eng

/-! Contract: the best order, by the program. -/
namespace Go.Eng
open Go
variable {c : Cfg}

def allC (ps : List Pth) : List Cho := (List.range ps.length).flatMap fun (i : Nat) => choL ps i
theorem choL_len {ps : List Pth} (hR : Rights ps) {i : Nat} (hi : i < ps.length) : (choL ps i).length ≤ 502 := by
  obtain ⟨p, hp⟩ := idx_of_lt hi
  have hple := hR.le p (List.mem_of_getElem? hp)
  rw [choL, List.length_map, pAt_get hp]
  unfold waysL; split <;> simp; omega
theorem allI_len {ps : List Pth} (hR : Rights ps) : ∀ n, n ≤ ps.length → ((List.range n).flatMap fun (i : Nat) => choL ps i).length ≤ 502 * n
  | 0, _ => by simp
  | n + 1, h => by
    have h1 := allI_len hR n (by omega)
    have h2 := choL_len hR (show n < ps.length by omega)
    rw [List.range_succ, List.flatMap_append, List.length_append]
    simp only [List.flatMap_cons, List.flatMap_nil, List.append_nil]
    omega
theorem allC_ok {ps : List Pth} (hR : Rights ps) : AllOk ps (allC ps) := fun x hx => by
  obtain ⟨i, hi, hx⟩ := List.mem_flatMap.1 hx
  rw [List.mem_range] at hi
  obtain ⟨v, hv, rfl⟩ := List.mem_map.1 hx
  exact ⟨rfl, (ways_ok hR (by omega) (by omega) hv).1⟩
/-- some choice of a path -/
theorem allC_has {ps : List Pth} (hR : Rights ps) {i : Nat} (hi : i < ps.length) : ∃ x ∈ allC ps, x.v.path = i := by
  obtain ⟨p, hp⟩ := idx_of_lt hi
  have hne := ways_ne (p := p) (i := i) (hR.ne p (List.mem_of_getElem? hp))
  obtain ⟨v, hv⟩ := idx_of_lt hne
  have hvm := List.mem_of_getElem? hv
  refine ⟨cho ps v, List.mem_flatMap.2 ⟨i, by rw [List.mem_range]; exact hi, List.mem_map.2 ⟨v, by rw [pAt_get hp]; exact hvm, rfl⟩⟩, ?_⟩
  exact (ways_ok hR (show (0 : Int) ≤ (i : Int) by omega) (by omega) (by rw [pAt_get hp]; exact hvm)).2

/-- the map of a choice knows so many sets -/
def Knows (all : List Cho) (w : World) (x : Cho) (r : Nat) (t : Nat) : Prop :=
  ∃ m, Mp vi w r m ∧ m (0 : Int) = some (vi 0) ∧ ∀ s : Nat, s < t → s ≠ 0 → bitOf s x = false → m (s : Int) = some (vi (RB all s x.b))

/-- the next choice by its index -/
theorem pick_eq (all : List Cho) {set : Nat} (hs : set < 4611686018427387904) (a : Pt) :
    (all.filter (bitOf set)).foldl (nst fun x => dist a x.a + RB all (clr set x.v.path.toNat) x.b) none =
      (((List.range all.length).filter fun k => bitOf set (all.getD k cho0)).foldl (nst fun k => dist a (all.getD k cho0).a + RB all (clr set (all.getD k cho0).v.path.toNat) (all.getD k cho0).b) none).map (fun k => all.getD k cho0) ∧
    least0 (fun k => dist a (all.getD k cho0).a + RB all (clr set (all.getD k cho0).v.path.toNat) (all.getD k cho0).b) (((List.range all.length).filter fun k => bitOf set (all.getD k cho0)).foldl (nst fun k => dist a (all.getD k cho0).a + RB all (clr set (all.getD k cho0).v.path.toNat) (all.getD k cho0).b) none) = RB all set a := by
  have h1 := nst_range all cho0 (fun x => dist a x.a + RB all (clr set x.v.path.toNat) x.b) (bitOf set)
  refine ⟨h1, ?_⟩
  rw [RB_eq all hs, h1]
  cases ((List.range all.length).filter fun k => bitOf set (all.getD k cho0)).foldl (nst fun k => dist a (all.getD k cho0).a + RB all (clr set (all.getD k cho0).v.path.toNat) (all.getD k cho0).b) none <;> rfl

theorem Knows.mono {all : List Cho} {w : World} {x : Cho} {r t t' : Nat} (h : Knows all w x r t) (ht : t' ≤ t) : Knows all w x r t' := by
  obtain ⟨m, h1, h2, h3⟩ := h
  exact ⟨m, h1, h2, fun s hs => h3 s (by omega)⟩
theorem Knows.keep {all : List Cho} {w w' : World} {x : Cho} {r t : Nat} {M : Nat → Prop} (h : Knows all w x r t) (k : Keep M w w') (hm : ¬ M r) : Knows all w' x r t := by
  obtain ⟨m, h1, h2⟩ := h
  exact ⟨m, h1.keep k hm, h2⟩
/-- what the finder needs to know -/
theorem Knows.at {all : List Cho} {w : World} {x : Cho} {r t set : Nat} (h : Knows all w x r t) (hst : set ≤ t) (hs : set < 4611686018427387904) (hb : bitOf set x = true) :
    ∃ m, Mp vi w r m ∧ m (clr set x.v.path.toNat : Nat) = some (vi (RB all (clr set x.v.path.toNat) x.b)) := by
  obtain ⟨m, h1, h2, h3⟩ := h
  have hlt := clr_lt hs hb
  refine ⟨m, h1, ?_⟩
  by_cases h0 : clr set x.v.path.toNat = 0
  · rw [h0]; exact h2
  · refine h3 _ (by omega) h0 ?_
    rw [bitOf, clr_bit hs]; simp

theorem best_spec (E : Eqs c) (T : Ty c) {D : Nat → Prop} {lv : Value} {ps : List Pth} {s : Pt} {w : World} (hl : SlP D w lv ps) :
    Ret c.P c.f_path_Best #[.agg (eP s).toArray, lv] w fun u w' =>
      Gives w (if startF s (pathsF ps) ≠ 0 then startF s (pathsF ps) else if 6 < ps.length then 2 else 0) (QB (allC ps) (2 ^ ps.length - 1) s) (trav ps s (QB (allC ps) (2 ^ ps.length - 1) s)) u w' := by
  have hl := hl.lt
  obtain ⟨kt, et, hu, K, hz⟩ := T.mi
  obtain ⟨kt2, et2, hu2, K2, hz2⟩ := T.mp
  apply E.path_Best
  unfold wp_path_Best
  refine s_new (cs := eP s) fun b2 w1 hat2 hk1 hb2 hs2 => ?_
  refine s_ldAAt hat2 rfl ?_
  refine (startPaths_spec E _ s lv ps w1 (hl.keep0 hk1)).mono ?_
  rintro u w2 ⟨hk2, rfl⟩
  have hk02 := hk1.trans hk2
  refine s_neq (s_condD (fun h => ?_) fun h => ?_)
  · rw [if_pos h]; exact ⟨hk02, fun _ => rfl, fun h' => absurd h' h⟩
  rw [if_neg h]
  have h : startF s (pathsF ps) = 0 := by omega
  obtain ⟨hs, hR⟩ : Nearby s ∧ Rights ps := by
    unfold startF at h
    by_cases hf : farPt s = true
    · rw [if_pos hf] at h; cases h
    · rw [if_neg hf] at h; exact ⟨near_of (by simpa using hf), rights_of h⟩
  refine (hl.keep0 hk02).len (s_gtr (s_condD (fun h6 => ?_) fun h6 => ?_))
  · rw [if_pos (by omega)]; exact ⟨hk02, fun _ => rfl, fun h' => by cases h'⟩
  rw [if_neg (by omega)]
  have h6 : ps.length ≤ 6 := by omega
  refine s_build T.st_finder (cells := [.slice none 0 0, .slice none 0 0]) rfl ?_
  refine s_new (cs := [.slice none 0 0, .slice none 0 0]) fun bf w3 hatf hk3 hbf hsf => ?_
  have hat2 := (hat2.keep0 hk2).keep0 hk3
  have hk03 := hk02.trans hk3
  have hsz2 := hk02.size
  have hb2lt : b2 < w2.heap.size := by have := hk2.size; omega
  refine (hl.keep0 hk03).len ?_
  -- all choices
  refine s_range ps.length (fun i w' => Keep (· = bf) w3 w' ∧ ∃ av, At w' bf [av, .slice none 0 0] c.t_path_finder ∧ Ow (Fresh w3) c.t_path_choice 7 eC w' av ((List.range i).flatMap fun (i : Nat) => choL ps i))
    ⟨Keep.refl _ _, _, hatf, Ow.nil⟩ ?_
  rintro i w4 j nx ⟨hk4, av, hatf, hoa⟩ hin hnx
  have hsz4 := hk4.size
  have hk_4 : Keep NoB w w4 := hk03.new hk4 fun i hi => .inr (by omega)
  refine s_lss (s_condD (fun hlt => ?_) fun hge => ?_)
  · have hil := ofInt_lt hlt
    have hal := allI_len hR i (by omega)
    refine s_held (fun w' => Keep NoB w4 w') ⟨keep_drew _ _, ?_⟩
    refine s_nil (s_off (s_ldS (fun w' h => by rw [(hatf.keep0 h).cell]; rfl) ?_))
    refine (choices_spec E T _ lv ps i w4.drew (hl.keep0 hk_4).drew hil hR).mono ?_
    intro u5 w5 hg5
    have hk5 : Keep NoB w4 w5 := (keep_drew _ _).trans hg5.keep
    refine ⟨hk5, ?_⟩
    have hcl := choL_len hR hil
    have hsz5 := hk5.size
    have hinv : ∀ b, inV av b → w3.heap.size ≤ b := fun b hb => Own.inD hoa hb
    refine s_append T.sl_choice (hoa.keep0 hk5) (hg5.sl.src eC_len) (by
        rw [List.all_eq_true]; intro v hv
        obtain ⟨y, hy, hv⟩ := List.mem_flatMap.1 hv
        exact List.all_eq_true.1 (eC_one (l := [y]) y (List.mem_cons_self ..)) v hv) (by omega) (fun i hi => by show w3.heap.size ≤ i; omega) fun v6 w6 ho6 hk6 hi6 _ => ?_
    have hat6 := (hatf.keep0 hk5).keep hk6 fun h => by have := hinv _ h; omega
    have ho6' : Ow (Fresh w3) c.t_path_choice 7 eC w6 v6 ((List.range (i + 1)).flatMap fun (i : Nat) => choL ps i) := by
      unfold Ow
      rw [List.range_succ, List.flatMap_append, List.length_append, List.flatMap_append]
      simpa using ho6
    refine s_nil (s_off (s_st hat6 (by simp) ho6'.one fun w7 hat7 hk7 hs7 => ?_))
    refine s_add (by omega) (by omega) (hnx w7 hil ⟨(((hk4.trans hk5.none).new hk6 fun i hi => .inr (hinv i hi)).trans hk7), v6, hat7, ho6'.keep hk7 fun b hb h => ?_⟩)
    have hsz6 := hk6.size
    rcases hi6 b hb with h' | h'
    · have := hinv b h'; omega
    · omega
  obtain rfl : i = ps.length := by omega
  have hallc : (List.range ps.length).flatMap (fun (i : Nat) => choL ps i) = allC ps := rfl
  rw [hallc] at hoa
  have hal : (allC ps).length ≤ 502 * 6 := by have := allI_len hR ps.length (Nat.le_refl _); rw [hallc] at this; omega
  have hA := allC_ok hR
  have hhas : ∀ i : Nat, i < ps.length → ∃ x ∈ allC ps, x.v.path = i := fun i hi => allC_has hR hi
  generalize hall : allC ps = all at *
  have hallF : ∀ x ∈ all, Nearby x.a ∧ 0 ≤ x.v.path ∧ x.v.path < 60 := fun x hx => by
    obtain ⟨h1, h2⟩ := hA x hx
    refine ⟨by rw [h1]; exact (near_ends hR h2).1, h2.p0, by have := h2.p1; omega⟩
  have hsl4 := hoa.sl
  have hat2 := hat2.keep hk4 (by omega)
  have hbf4 := hatf.lt
  refine s_nil (s_off (s_ldAt hatf rfl ?_))
  refine hsl4.len ?_
  -- the maps
  refine s_range all.length (fun k w' => Keep (· = bf) w4 w' ∧ ∃ fv rs, At w' bf [av, fv] c.t_path_finder ∧ Ow (Fresh w4) c.t_map_int_int 1 eM w' fv rs ∧ rs.length = k ∧
      (∀ b, inV fv b → ∀ r ∈ rs, r ≠ b) ∧ rs.Nodup ∧ (∀ r ∈ rs, w4.heap.size ≤ r) ∧ ∀ q x r, all[q]? = some x → rs[q]? = some r → Knows all w' x r 1)
    ⟨Keep.refl _ _, _, [], hatf, Ow.nil, rfl, fun _ h => h.elim, by simp, by simp, fun q x r _ h => by rw [List.getElem?_nil] at h; cases h⟩ ?_
  rintro k w8 j2 nx2 ⟨hk8, fv, rs, hatf, hor, hrl, hrv, hnd, hrf, hkn⟩ hkn' hnx2
  have hsz8 := hk8.size
  refine s_lss (s_condD (fun hlt2 => ?_) fun hge2 => ?_)
  · have hkl := ofInt_lt hlt2
    refine s_nil (s_off (s_ldAt hatf rfl ?_))
    refine s_makeMap (enc := vi) fun r w9 hm9 hk9 hr9 hsr9 => ?_
    refine s_mapUpdate hu K hm9 0 (vi 0) fun w10 hm10 hk10 hs10 => ?_
    have hk8_10 : Keep NoB w8 w10 := hk9.new hk10 fun i hi => .inr (by omega)
    have hinv : ∀ b, inV fv b → w4.heap.size ≤ b ∧ b < w8.heap.size := fun b hb => ⟨Own.inD hor hb, Own.inLt hor hb⟩
    refine s_push T.sl_map (y := r) (hor.keep0 hk8_10) rfl rfl rfl (by omega) (by omega) (fun i hi => by show w4.heap.size ≤ i; omega) fun v12 w12 ho12 hk12 hi12 => ?_
    have hat12 := (hatf.keep0 hk8_10).keep hk12 fun h => by have := hinv _ h; omega
    refine s_nil (s_off (s_st hat12 (by simp) ho12.one fun w13 hat13 hk13 hs13 => ?_))
    have hsz12 := hk12.size
    have hk8_13 : Keep (fun b => b = bf ∨ inV fv b) w8 w13 := ((hk8_10.none).trans (hk12.mono fun b h => .inr h)).trans (hk13.mono fun b h => .inl h)
    have hrlt : ∀ q x r, all[q]? = some x → rs[q]? = some r → r < w8.heap.size := fun q x r hx hr => by
      obtain ⟨m, hm, _⟩ := hkn q x r hx hr
      exact hm.lt
    refine s_add (by omega) (by omega) (hnx2 w13 hkl ⟨(((hk8.trans hk8_10.none).new hk12 fun i hi => .inr (hinv i hi).1).trans hk13), v12, rs ++ [r], hat13, ho12.keep hk13 fun b hb h => ?_, by simp [hrl], ?_, ?_, ?_, ?_⟩)
    · rcases hi12 b hb with h' | h'
      · have := hinv b h'; omega
      · omega
    · intro b hb r' hr'
      rcases List.mem_append.1 hr' with h' | h'
      · rcases hi12 b hb with h'' | h''
        · exact hrv b h'' r' h'
        · obtain ⟨q, hq⟩ := List.getElem?_of_mem h'
          have hql := lt_of_idx hq
          obtain ⟨x, hx⟩ := idx_of_lt (show q < all.length by omega)
          have := hrlt q x r' hx hq
          omega
      · simp at h'; subst h'
        rcases hi12 b hb with h'' | h''
        · have := hinv b h''; omega
        · omega
    · rw [List.nodup_append]
      refine ⟨hnd, by simp, fun a ha b hb => ?_⟩
      simp at hb; subst hb
      obtain ⟨q, hq⟩ := List.getElem?_of_mem ha
      have hql := lt_of_idx hq
      obtain ⟨x, hx⟩ := idx_of_lt (show q < all.length by omega)
      have := hrlt q x a hx hq
      omega
    · intro r' hr'
      rcases List.mem_append.1 hr' with h' | h'
      · exact hrf r' h'
      · simp at h'; omega
    · intro q x r' hx hr'
      by_cases hq : q < rs.length
      · rw [List.getElem?_append_left hq] at hr'
        have hlt' := hrlt q x r' hx hr'
        obtain ⟨m, hm, h0, h1⟩ := hkn q x r' hx hr'
        refine ⟨m, hm.keep hk8_13 fun h => ?_, h0, h1⟩
        rcases h with h | h
        · have := hrf r' (List.mem_of_getElem? hr'); omega
        · exact hrv _ h r' (List.mem_of_getElem? hr') rfl
      · rw [List.getElem?_append_right (by omega)] at hr'
        have : r' = r := by
          cases hqq : q - rs.length with
          | zero => rw [hqq] at hr'; simpa using hr'.symm
          | succ n => rw [hqq] at hr'; simp at hr'
        subst this
        refine ⟨_, (hm10.keep hk12 fun h => by have := hinv _ h; omega).keep hk13 (by omega), by simp, fun s hs1 hs2 => by omega⟩
  have hkk : k = all.length := by omega
  subst hkk
  have hslr := hor.sl
  have hat28 := hat2.keep hk8 (by omega)
  have hfv8 : ∀ b, inV fv b → w4.heap.size ≤ b ∧ b < w8.heap.size := fun b hb => ⟨Own.inD hor hb, Own.inLt hor hb⟩
  have hslr8 : Sl (fun b => b ∉ rs ∧ b < w8.heap.size) eM w8 fv rs := by
    obtain ⟨a0, cap0, rfl, hc0, hc1⟩ := hslr
    refine ⟨a0, cap0, rfl, hc0, fun hne => ?_⟩
    obtain ⟨b, o, rfl, e2, e3, e4⟩ := hc1 hne
    exact ⟨b, o, rfl, ⟨fun hm => hrv b rfl b hm rfl, e3⟩, e3, e4⟩
  have hsl8 : Sl (fun b => b ∉ rs ∧ b < w8.heap.size) eC w8 av all :=
    (hoa.sl.old.keep hk8 fun b hb h => by
      have hb : w3.heap.size ≤ b := hb.1
      omega).dom fun b hb => ⟨fun hm => by have := hrf b hm; have := hb.2; omega, by have := hb.2; omega⟩
  have hpow : ∀ m, m ≤ 6 → 2 ^ m ≤ 64 := fun m hm => by
    have := Nat.pow_le_pow_right (n := 2) (by omega) hm
    omega
  have hp6 := hpow ps.length h6
  have hp1 : 1 ≤ 2 ^ ps.length := Nat.one_le_two_pow
  have hrlt : ∀ r ∈ rs, r < w8.heap.size := fun r hr => by
    obtain ⟨q, hq⟩ := List.getElem?_of_mem hr
    obtain ⟨x, hx⟩ := idx_of_lt (show q < all.length by have := lt_of_idx hq; omega)
    obtain ⟨m, hm, _⟩ := hkn q x r hx hq
    exact hm.lt
  -- the sets
  refine s_while (σ := Nat) (fun set => [vi set]) (fun set w' => (1 ≤ set ∧ set ≤ 2 ^ ps.length) ∧ Keep (fun b => b ∈ rs) w8 w' ∧ ∀ q x r, all[q]? = some x → rs[q]? = some r → Knows all w' x r set) (fun set => 64 - set) 1
    rfl ⟨by omega, Keep.refl _ _, hkn⟩ ?_
  rintro set w14 j3 nx3 ⟨⟨hset1, hset2⟩, hk14, hkn⟩ hnx3
  have hk_8 : Keep NoB w w8 := hk_4.new hk8 fun i hi => .inr (by omega)
  have hk_14 : Keep NoB w w14 := hk_8.new hk14 fun i hi => .inr (by have := hrf i hi; omega)
  have hsz14 := hk14.size
  have hatf14 := hatf.keep hk14 fun h => by have := hrf _ h; omega
  have hsl14 := hsl8.keep hk14 fun b hb => hb.1
  have hslr14 := hslr8.keep hk14 fun b hb => hb.1
  have hat214 := hat28.keep hk14 fun h => by have := hrf _ h; omega
  refine (hl.keep0 hk_14).len (s_shl1 (by omega) (s_lss (s_condD (fun hlt3 => ?_) fun hge3 => ?_)))
  · have hsetlt : set < 2 ^ ps.length := by omega
    refine s_makeMap (enc := fun p : Pt => .agg (eP p).toArray) fun r0 w15 hm15 hk15 hr0 hsr0 => ?_
    refine s_nil (s_off (s_ldAt (hatf14.keep0 hk15) rfl ?_))
    have hsl15 := hsl14.keep0 hk15
    refine hsl15.len ?_
    refine s_range all.length (fun k w' => Keep (fun b => b ∈ rs ∨ b = r0) w15 w' ∧ (∃ mk, Mp (fun p : Pt => .agg (eP p).toArray) w' r0 mk ∧ ∀ p v, mk p = some v → v = vi (RB all set p)) ∧
        ∀ q x r, all[q]? = some x → rs[q]? = some r → Knows all w' x r (if q < k then set + 1 else set))
      ⟨Keep.refl _ _, ⟨_, hm15, fun p v h => by cases h⟩, fun q x r hx hr => by
        rw [if_neg (by omega)]
        exact (hkn q x r hx hr).keep hk15 fun h => h⟩ ?_
    rintro k w16 j4 nx4 ⟨hk16, ⟨mk, hmk, hmkv⟩, hkn16⟩ hkn4 hnx4
    have hsz16 := hk16.size
    refine s_lss (s_condD (fun hlt4 => ?_) fun hge4 => ?_)
    rotate_left
    · have hkk : k = all.length := by omega
      subst hkk
      refine s_add (by omega) (by omega) ?_
      have := hnx3 (set + 1) w16 ⟨by omega, (hk14.trans hk15.none).new hk16 fun i hi => by
          rcases hi with h | h
          · exact .inl h
          · exact .inr (by omega), fun q x r hx hr => ?_⟩ (by omega)
      · exact this
      · have := hkn16 q x r hx hr
        rw [if_pos (lt_of_idx hx)] at this
        exact this
    have hkl := ofInt_lt hlt4
    obtain ⟨x, hx⟩ := idx_of_lt hkl
    obtain ⟨r, hr⟩ := idx_of_lt (show k < rs.length by omega)
    have hxm := List.mem_of_getElem? hx
    have hrm := List.mem_of_getElem? hr
    obtain ⟨hxe, hxo⟩ := hA x hxm
    have hxb : Nearby x.b := by rw [hxe]; exact (near_ends hR hxo).2
    obtain ⟨p, hp⟩ := Int.eq_ofNat_of_zero_le hxo.p0
    have hp60 : p < 60 := by have := (hallF x hxm).2.2; omega
    have hMM : ∀ b, (b ∉ rs ∧ b < w8.heap.size) → ¬ (b ∈ rs ∨ b = r0) := fun b hb h => by
      rcases h with h | h
      · exact hb.1 h
      · omega
    have hsl16 := hsl15.keep hk16 hMM
    have hgo : ∀ w', Keep (fun b => b ∈ rs ∨ b = r0) w16 w' → (∃ mk, Mp (fun p : Pt => .agg (eP p).toArray) w' r0 mk ∧ ∀ p v, mk p = some v → v = vi (RB all set p)) →
        (∀ q x r, all[q]? = some x → rs[q]? = some r → Knows all w' x r (if q < k + 1 then set + 1 else set)) → binP .add (vi k) (vi 1) fun v124 => nx4 [v124] w' := fun w' hk' hmk' hkn' =>
      s_add (by omega) (by omega) (hnx4 w' hkl ⟨hk16.trans hk', hmk', hkn'⟩)
    refine s_join (hsl16.idx (sz := 7) eC_len hx fun b o _ _ hc => s_ldA hc rfl ?_)
    refine s_var rfl rfl rfl fun b13 w19 hat13 hk19 hb13 hs13 => ?_
    refine s_off (s_off (s_ldAt hat13 rfl ?_))
    rw [hp]
    refine s_bit (by omega) (by omega) ?_
    have hbitx : bitOf set x = set.testBit p := by rw [bitOf, show x.v.path.toNat = p by omega]
    refine s_eql (s_condD (fun hb => ?_) fun hb => ?_)
    · have hbit : bitOf set x = true := by
        rw [hbitx]
        cases hh : set.testBit p with
        | true => rfl
        | false => rw [hh] at hb; simp at hb
      intro j5
      refine hgo w19 hk19.none ⟨mk, hmk.keep0 hk19, hmkv⟩ fun q y ry hy hry => ?_
      have h1 := (hkn16 q y ry hy hry).keep hk19 fun h => h
      by_cases hqk : q < k
      · rw [if_pos hqk] at h1; rw [if_pos (by omega)]; exact h1
      · rw [if_neg hqk] at h1
        by_cases hqk' : q = k
        · subst hqk'
          rw [hx] at hy; cases hy
          rw [if_pos (by omega)]
          obtain ⟨m, g1, g2, g3⟩ := h1
          refine ⟨m, g1, g2, fun s hs hs0 hsb => g3 s ?_ hs0 hsb⟩
          rcases Nat.lt_or_ge s set with h | h
          · exact h
          · obtain rfl : s = set := by omega
            rw [hbit] at hsb; cases hsb
        · rw [if_neg (by omega)]; exact h1
    have hbit : bitOf set x = false := by
      rw [hbitx]
      cases hh : set.testBit p with
      | false => rfl
      | true => rw [hh] at hb; simp at hb
    refine s_off (s_ldA (cho_b hat13) rfl ?_)
    have hmk19 := hmk.keep0 hk19
    refine s_lookup2 hu2 K2 hz2 hmk19 x.b ?_
    refine s_ex0 (s_ex1 (s_not ?_))
    refine s_joinM (fun vs w' => vs = [vi (RB all set x.b)] ∧ Keep (· = r0) w19 w' ∧ ∃ mk, Mp (fun p : Pt => .agg (eP p).toArray) w' r0 mk ∧ ∀ p v, mk p = some v → v = vi (RB all set p)) ?_ ?_
    · refine s_cond (fun hn => ?_) fun hn => ?_
      · refine s_off (s_ldA (cho_b hat13) rfl ?_)
        have hk8_19 : Keep (fun b => b ∈ rs ∨ b = r0) w8 w19 := ((hk14.trans hk15.none).mono fun b h => .inl h).trans (hk16.trans hk19.none)
        have hatf19 : At w19 bf [av, fv] c.t_path_finder := ((hatf14.keep0 hk15).keep hk16 fun h => by
          rcases h with h | h
          · have := hrf _ h; omega
          · omega).keep0 hk19
        have hnext := next2_spec E T (D := fun b => b ∉ rs ∧ b < w8.heap.size) (D' := fun b => b ∉ rs ∧ b < w8.heap.size) (bf := bf) (tf := c.t_path_finder) (av := av) (fv := fv) (all := all) (rs := rs) (a := x.b) (set := set) (w := w19)
          (fun k => RB all (clr set (all.getD k cho0).v.path.toNat) (all.getD k cho0).b) hatf19 (hsl16.keep0 hk19) (((hslr14.keep0 hk15).keep hk16 hMM).keep0 hk19) hrl hxb (by omega) hallF (fun q y ry hy hry hby => by
            have hyd : all.getD q cho0 = y := by rw [List.getD, hy]; rfl
            rw [hyd]
            obtain ⟨hye, hyo⟩ := hA y (List.mem_of_getElem? hy)
            have hyb : Nearby y.b := by rw [hye]; exact (near_ends hR hyo).2
            have hcl := clr_le (s := set) (p := y.v.path.toNat) (by omega)
            have hrb := RB_bound hR hA (clr set y.v.path.toNat) (clr set y.v.path.toNat) y.b (Nat.le_refl _) (by omega) hyb
            refine ⟨by omega, ?_⟩
            have h1 := (hkn16 q y ry hy hry).keep hk19 fun h => h
            exact h1.at (by split <;> omega) (by omega) hby)
        rw [(pick_eq all (by omega) x.b).2] at hnext
        refine hnext.mono ?_
        rintro u20 w22 ⟨hk22, rfl⟩
        refine s_ex0 (s_ex1 ?_)
        refine s_off (s_ldA (cho_b (hat13.keep0 hk22)) rfl ?_)
        refine s_mapUpdate hu2 K2 (hmk19.keep0 hk22) x.b _ fun w23 hm23 hk23 _ => ?_
        refine ⟨rfl, hk22.none.trans hk23, _, hm23, fun p v h => ?_⟩
        by_cases hpx : p = x.b
        · rw [if_pos hpx] at h; cases h; rw [hpx]
        · rw [if_neg hpx] at h; exact hmkv p v h
      · refine ⟨?_, Keep.refl _ _, mk, hmk19, hmkv⟩
        cases hh : mk x.b with
        | none => rw [hh] at hn; simp at hn
        | some v => rw [hmkv x.b v hh]; rfl
    rintro vs j5 w21 ⟨rfl, hk21, hmk21⟩
    have hatf21 : At w21 bf [av, fv] c.t_path_finder := (((hatf14.keep0 hk15).keep hk16 fun h => by
      rcases h with h | h
      · have := hrf _ h; omega
      · omega).keep0 hk19).keep hk21 (by omega)
    refine s_nil (s_off (s_ldAt hatf21 rfl ?_))
    have hslr21 : Sl (fun b => b ∉ rs ∧ b < w8.heap.size) eM w21 fv rs := (((hslr14.keep0 hk15).keep hk16 hMM).keep0 hk19).keep hk21 fun b hb h => by omega
    refine hslr21.idx (sz := 1) eM_len hr fun b o _ _ hc => s_ldC0 hc ?_
    have hkx := hkn16 k x r hx hr
    rw [if_neg (by omega)] at hkx
    have hr0 : r ≠ r0 := by have := hrlt r hrm; omega
    obtain ⟨m, hm, hm0, hms⟩ := (hkx.keep hk19 fun h => h).keep hk21 hr0
    refine s_mapUpdate hu K hm (set : Int) _ fun w24 hm24 hk24 _ => ?_
    intro j6
    have hk16_24 : Keep (fun b => b ∈ rs ∨ b = r0) w16 w24 := (hk19.none.trans (hk21.mono fun b h => .inr h)).trans (hk24.mono fun b h => .inl (by rw [h]; exact hrm))
    refine hgo w24 hk16_24 ?_ fun q y ry hy hry => ?_
    · obtain ⟨mk', h1, h2⟩ := hmk21
      exact ⟨mk', h1.keep hk24 fun h => hr0 h.symm, h2⟩
    · by_cases hqk : q = k
      · subst hqk
        rw [hx] at hy; cases hy
        rw [hr] at hry; cases hry
        rw [if_pos (by omega)]
        refine ⟨_, hm24, ?_, fun s hs hs0 hsb => ?_⟩
        · rw [if_neg (by omega)]; exact hm0
        · by_cases hss : s = set
          · subst hss; rw [if_pos rfl]; rfl
          · rw [if_neg (by omega)]; exact hms s (by omega) hs0 hsb
      · have hne : ry ≠ r := fun he => hqk ((List.getElem?_inj (lt_of_idx hry) hnd).1 (by rw [hry, hr, he]))
        have h1 := (((hkn16 q y ry hy hry).keep hk19 fun h => h).keep hk21 fun h => by have := hrlt ry (List.mem_of_getElem? hry); omega).keep hk24 hne
        by_cases hlt : q < k
        · rw [if_pos hlt] at h1; rw [if_pos (by omega)]; exact h1
        · rw [if_neg hlt] at h1; rw [if_neg (by omega)]; exact h1
  have hseteq : set = 2 ^ ps.length := by omega
  rw [hseteq] at hkn
  generalize hfull : 2 ^ ps.length - 1 = full
  have hfl : full < 64 := by omega
  refine s_ldAAt hat214 rfl ?_
  refine s_var rfl rfl rfl fun b17 w26 hat17 hk26 hb17 hs17 => ?_
  have hk_26 := hk_14.trans hk26
  refine (hl.keep0 hk_26).len (s_shl1 (by omega) (s_sub (by omega) (by omega) ?_))
  rw [show ((2 ^ ps.length : Nat) : Int) - 1 = (full : Int) from by omega]
  have hatf26 := hatf14.keep0 hk26
  have hat226 := hat214.keep0 hk26
  have hsz26 := hk26.size
  have hsl26 := hsl14.keep0 hk26
  have hslr26 := hslr14.keep0 hk26
  have hkn26 : ∀ q x r, all[q]? = some x → rs[q]? = some r → Knows all w26 x r (2 ^ ps.length) := fun q x r hx hr => (hkn q x r hx hr).keep hk26 fun h => h
  refine s_while (σ := Value × Nat) (fun σ => [σ.1, vi σ.2]) (fun σ w' => Keep (· = b17) w26 w' ∧ σ.2 ≤ full ∧ ∃ out a, Ow (Fresh w26) c.t_api_Visit 3 eV w' σ.1 out ∧ At w' b17 (eP a) c.t_api_Point ∧ Nearby a ∧
      out ++ QB all σ.2 a = QB all full s ∧ (∀ v ∈ out, VOk ps v) ∧ out.length + σ.2 ≤ full) (fun σ => σ.2) (.slice none 0 0, full) rfl
    ⟨Keep.refl _ _, Nat.le_refl _, [], s, Ow.nil, hat17, hs, by simp, by simp, by simp⟩ ?_
  rintro ⟨u, set1⟩ w27 j6 nx6 ⟨hk27, hset1l, out, a, hou, hat17, hna, hout, hook, hol⟩ hnx6
  have hk_27 : Keep NoB w w27 := hk_26.new hk27 fun i hi => .inr (by omega)
  have hsz27 := hk27.size
  simp only at hset1l hout hol hou
  refine s_gtr (s_condD (fun hpos => ?_) fun hz => ?_)
  rotate_left
  · obtain rfl : set1 = 0 := by
      have hz : ¬ (0 : Int) < set1 := hz
      omega
    rw [QB_zero, List.append_nil] at hout
    subst hout
    refine s_ldAAt (hat226.keep hk27 (by omega)) rfl ?_
    refine (travel_spec E _ _ s lv u ps _ w27 (hl.keep0 hk_27) hou.sl hR hs hook (by omega)).mono ?_
    rintro v w34 ⟨hk34, rfl⟩
    refine ⟨hk_27.trans hk34, fun h' => absurd rfl h', fun _ => ⟨u, rfl, (hou.sl.keep0 hk34).dom fun b hb => by have hb : w26.heap.size ≤ b := hb; have := hk_26.size; show w.heap.size ≤ b; omega⟩⟩
  have hpos : 0 < set1 := by
    have hpos : (0 : Int) < set1 := hpos
    omega
  have hs17M : ∀ b, (b ∉ rs ∧ b < w8.heap.size) → ¬ (b = b17) := fun b hb h => by omega
  refine s_ldAAt hat17 rfl ?_
  have hnext := next2_spec E T (D := fun b => b ∉ rs ∧ b < w8.heap.size) (D' := fun b => b ∉ rs ∧ b < w8.heap.size) (bf := bf) (tf := c.t_path_finder) (av := av) (fv := fv) (all := all) (rs := rs) (a := a) (set := set1) (w := w27)
    (fun k => RB all (clr set1 (all.getD k cho0).v.path.toNat) (all.getD k cho0).b) (hatf26.keep hk27 (by omega)) (hsl26.keep hk27 hs17M) (hslr26.keep hk27 hs17M) hrl hna (by omega) hallF (fun q y ry hy hry hby => by
      have hyd : all.getD q cho0 = y := by rw [List.getD, hy]; rfl
      rw [hyd]
      obtain ⟨hye, hyo⟩ := hA y (List.mem_of_getElem? hy)
      have hyb : Nearby y.b := by rw [hye]; exact (near_ends hR hyo).2
      have hcl := clr_le (s := set1) (p := y.v.path.toNat) (by omega)
      have hrb := RB_bound hR hA (clr set1 y.v.path.toNat) (clr set1 y.v.path.toNat) y.b (Nat.le_refl _) (by omega) hyb
      refine ⟨by omega, ?_⟩
      have h1 := (hkn26 q y ry hy hry).keep hk27 fun h => by have := hrlt ry (List.mem_of_getElem? hry); omega
      exact h1.at (by omega) (by omega) hby)
  have hpe := (pick_eq all (set := set1) (by omega) a).1
  refine hnext.mono ?_
  rintro u28 w28 ⟨hk28, rfl⟩
  -- there is a choice
  have hex : all.filter (bitOf set1) ≠ [] := by
    obtain ⟨i, hi⟩ := Nat.exists_testBit_of_ne_zero (show set1 ≠ 0 by omega)
    have hip : i < ps.length := by
      rcases Nat.lt_or_ge i ps.length with h | h
      · exact h
      · have h2 : set1 < 2 ^ i := by
          have := Nat.pow_le_pow_right (n := 2) (by omega) h
          omega
        rw [Nat.testBit_lt_two_pow h2] at hi; cases hi
    obtain ⟨x, hx, hxp⟩ := hhas i hip
    intro he
    have : x ∈ all.filter (bitOf set1) := List.mem_filter.2 ⟨hx, by rw [bitOf, hxp]; simpa using hi⟩
    rw [he] at this; simp at this
  obtain ⟨bx, hbx, hbm⟩ := pick_some (f := fun x => dist a x.a + RB all (clr set1 x.v.path.toNat) x.b) hex
  rw [hbx] at hpe
  generalize hfo : ((List.range all.length).filter fun k => bitOf set1 (all.getD k cho0)).foldl (nst fun k => dist a (all.getD k cho0).a + RB all (clr set1 (all.getD k cho0).v.path.toNat) (all.getD k cho0).b) none = fo at *
  cases fo with
  | none => cases hpe
  | some k =>
  have hkm : k < all.length := by
    rcases nst_mem _ _ _ hfo with h | h
    · exact List.mem_range.1 (List.mem_filter.1 h).1
    · cases h
  have hkx : all[k]? = some bx := by
    rw [getD_get (d := cho0) hkm]
    exact hpe.symm
  obtain ⟨hbxa, hbxb⟩ := List.mem_filter.1 hbm
  obtain ⟨hbe, hbo⟩ := hA bx hbxa
  obtain ⟨p, hp⟩ := Int.eq_ofNat_of_zero_le hbo.p0
  have hp60 : p < 60 := by have := (hallF bx hbxa).2.2; omega
  have hQ := QB_some all (set := set1) (by omega) a hbx
  rw [hQ, show bx.v.path.toNat = p by omega] at hout
  have hclt := clr_lt (s := set1) (p := p) (by omega) (by rw [bitOf, show bx.v.path.toNat = p by omega] at hbxb; exact hbxb)
  refine s_ex0 (s_ex1 ?_)
  refine s_nil (s_off (s_ldAt ((hatf26.keep hk27 (by omega)).keep0 hk28) rfl ?_))
  refine ((hsl26.keep hk27 hs17M).keep0 hk28).idx (sz := 7) eC_len hkx fun b o _ _ hc => s_ldA hc rfl ?_
  refine s_var rfl rfl rfl fun b21 w30 hat21 hk30 hb21 hs21 => ?_
  have hk27_30 := hk28.trans hk30
  have hinu : ∀ b, inV u b → w26.heap.size ≤ b ∧ b < w27.heap.size := fun b hb => ⟨Own.inD hou hb, Own.inLt hou hb⟩
  have hsz28 := hk28.size
  refine s_off (s_ldA (cho_v hat21) rfl ?_)
  refine s_push T.sl_visit (y := bx.v) (hou.keep0 hk27_30) rfl rfl rfl (by omega) (by omega) (fun i hi => by show w26.heap.size ≤ i; omega) fun u32 w32 hou32 hk32 hi32 => ?_
  have hat21 := hat21.keep hk32 fun h => by have := hinu _ h; omega
  have hat17_32 := (hat17.keep0 hk27_30).keep hk32 fun h => by have := hinu _ h; omega
  have hsz32 := hk32.size
  refine s_held (fun w' => Keep (· = b17) w32 w') ⟨keep_drew _ _, ?_⟩
  refine s_off (s_ldAS (fun w' h => cho_b (hat21.keep h (by omega))) rfl ?_)
  refine s_off (s_off (s_ldS (fun w' h => by rw [(hat21.keep h (by omega)).cell]; rfl) ?_))
  rw [hp]
  refine s_shl1 (by omega) (s_andNot (by omega) (by omega) ?_)
  refine s_stA (vs := eP bx.b) hat17_32.drew rfl rfl rfl fun w33 hat33 hk33 hs33 => ?_
  have hk33' : Keep (· = b17) w32 w33 := (keep_drew _ _).trans hk33
  refine ⟨hk33', ?_⟩
  have hbb : Nearby bx.b := by rw [hbe]; exact (near_ends hR hbo).2
  refine hnx6 (u32, clr set1 p) w33 ⟨((hk27.trans hk27_30.none).new hk32 fun i hi => .inr (hinu i hi).1).trans hk33', by show clr set1 p ≤ full; omega, out ++ [bx.v], bx.b, ?_, hat33, hbb, ?_, fun v hv => ?_, ?_⟩ hclt
  · refine hou32.keep hk33' fun b hb h => ?_
    rcases hi32 b hb with h' | h'
    · have := hinu b h'; omega
    · omega
  · rw [List.append_assoc]; exact hout
  · rcases List.mem_append.1 hv with h | h
    · exact hook v h
    · simp at h; rw [h]; exact hbo
  · show (out ++ [bx.v]).length + clr set1 p ≤ full
    rw [List.length_append]
    simp only [List.length_cons, List.length_nil]
    omega
end Go.Eng

/-! Plain law: the search finds what the program's ways find. -/
namespace Go.Eng
open Go

def cnds (ps : List Pth) (nx : List Vis → List Int) (o : List Vis) : List Vis := (nx o).flatMap fun i => waysL (pAt ps i) i
def mS (ps : List Pth) (nx : List Vis → List Int) : Nat → List Vis → Pt → Int
  | 0, _, _ => 0
  | f + 1, o, a => least0 (fun v => dist a (frm ps v) + mS ps nx f (o ++ [v]) (tov ps v)) ((cnds ps nx o).foldl (nst fun v => dist a (frm ps v) + mS ps nx f (o ++ [v]) (tov ps v)) none)
def qS (ps : List Pth) (nx : List Vis → List Int) : Nat → List Vis → Pt → List Vis
  | 0, _, _ => []
  | f + 1, o, a => match (cnds ps nx o).foldl (nst fun v => dist a (frm ps v) + mS ps nx f (o ++ [v]) (tov ps v)) none with
    | none => []
    | some v => v :: qS ps nx f (o ++ [v]) (tov ps v)

/-- the state of a search, and one choice -/
def apB {α β : Type} (F : α → Int) (res : α → β) (sum : Int) (st : β × Int) (b : Option α) : β × Int := match b with
  | none => st
  | some u => if 0 ≤ st.2 ∧ st.2 ≤ sum + F u then st else (res u, sum + F u)
theorem apB_step {α β : Type} {F : α → Int} {res : α → β} {sum : Int} {st : β × Int} {b : Option α} {v : α} (hv : 0 ≤ sum + F v) (hb : ∀ u, b = some u → 0 ≤ sum + F u) :
    (if 0 ≤ (apB F res sum st b).2 ∧ (apB F res sum st b).2 ≤ sum + F v then apB F res sum st b else (res v, sum + F v)) = apB F res sum st (nst F b v) := by
  cases b with
  | none => rfl
  | some u =>
    have hu := hb u rfl
    by_cases hc : 0 ≤ st.2 ∧ st.2 ≤ sum + F u
    · have e1 : apB F res sum st (some u) = st := by simp only [apB]; rw [if_pos hc]
      rw [e1]
      simp only [nst]
      by_cases hlt : F v < F u
      · rw [if_pos hlt]; rfl
      · rw [if_neg hlt, e1, if_pos (by omega)]
    · have e1 : apB F res sum st (some u) = (res u, sum + F u) := by simp only [apB]; rw [if_neg hc]
      rw [e1]
      simp only [nst]
      by_cases hlt : F v < F u
      · rw [if_pos hlt, if_neg (by omega)]
        simp only [apB]
        rw [if_neg (by omega)]
      · rw [if_neg hlt, e1, if_pos (by omega)]
theorem fold_best {α β : Type} {F : α → Int} {res : α → β} {sum : Int} {st : β × Int} : ∀ (l : List α) (b : Option α), (∀ v ∈ l, 0 ≤ sum + F v) → (∀ u, b = some u → 0 ≤ sum + F u) →
    l.foldl (fun st v => if 0 ≤ st.2 ∧ st.2 ≤ sum + F v then st else (res v, sum + F v)) (apB F res sum st b) = apB F res sum st (l.foldl (nst F) b)
  | [], b, _, _ => rfl
  | v :: r, b, hl, hb => by
    have hv := hl v (List.mem_cons_self ..)
    rw [List.foldl_cons, List.foldl_cons, apB_step hv hb]
    refine fold_best r _ (fun x hx => hl x (List.mem_cons_of_mem _ hx)) fun u hu => ?_
    unfold nst at hu
    split at hu
    · cases hu; exact hv
    · split at hu
      · cases hu; exact hv
      · exact hb u hu

theorem foldl_congr' {α β : Type} {f g : β → α → β} : ∀ (l : List α) (b : β), (∀ b, ∀ a ∈ l, f b a = g b a) → l.foldl f b = l.foldl g b
  | [], _, _ => rfl
  | a :: r, b, h => by
    rw [List.foldl_cons, List.foldl_cons, h b a (List.mem_cons_self ..)]
    exact foldl_congr' r _ fun b x hx => h b x (List.mem_cons_of_mem _ hx)

/-- what a search may rely on -/
structure NxOk (ps : List Pth) (nx : List Vis → List Int) (I : Nat → List Vis → Prop) : Prop where
  ne : ∀ f o, I (f + 1) o → cnds ps nx o ≠ []
  ok : ∀ f o, I (f + 1) o → ∀ v ∈ cnds ps nx o, VOk ps v ∧ I f (o ++ [v])

theorem mS_pos {ps : List Pth} {nx : List Vis → List Int} {I : Nat → List Vis → Prop} (hR : Rights ps) (hN : NxOk ps nx I) : ∀ (f : Nat) (o : List Vis) (a : Pt), I f o → Nearby a → 0 ≤ mS ps nx f o a
  | 0, _, _, _, _ => by simp [mS]
  | f + 1, o, a, hI, ha => by
    obtain ⟨u, hu, hm⟩ := pick_some (f := fun v => dist a (frm ps v) + mS ps nx f (o ++ [v]) (tov ps v)) (hN.ne f o hI)
    obtain ⟨h1, h2⟩ := hN.ok f o hI u hm
    have hn := near_ends hR h1
    have h3 := mS_pos hR hN f (o ++ [u]) (tov ps u) h2 hn.2
    have h4 := dist_bound ha hn.1
    simp only [mS, hu, least0]
    omega

theorem trav_qS {ps : List Pth} {nx : List Vis → List Int} {I : Nat → List Vis → Prop} (hN : NxOk ps nx I) : ∀ (f : Nat) (o : List Vis) (a : Pt), I f o → trav ps a (qS ps nx f o a) = mS ps nx f o a
  | 0, _, _, _ => by simp [mS, qS, trav]
  | f + 1, o, a, hI => by
    obtain ⟨u, hu, hm⟩ := pick_some (f := fun v => dist a (frm ps v) + mS ps nx f (o ++ [v]) (tov ps v)) (hN.ne f o hI)
    obtain ⟨h1, h2⟩ := hN.ok f o hI u hm
    simp only [mS, qS, hu, least0, trav]
    rw [trav_qS hN f _ _ h2]

theorem tryF_eq {ps : List Pth} {nx : List Vis → List Int} {I : Nat → List Vis → Prop} (hR : Rights ps) (hN : NxOk ps nx I) : ∀ (f : Nat) (o : List Vis) (a : Pt) (sum : Int) (st : List Vis × Int), I f o → Nearby a → 0 ≤ sum →
    tryF ps nx f o a sum st = if 0 ≤ st.2 ∧ st.2 ≤ sum + mS ps nx f o a then st else (o ++ qS ps nx f o a, sum + mS ps nx f o a)
  | 0, o, a, sum, st, _, _, _ => by simp [tryF, mS, qS]
  | f + 1, o, a, sum, st, hI, ha, hs => by
    have hm := mS_pos hR hN (f + 1) o a hI ha
    rw [tryF]
    by_cases hc : 0 ≤ st.2 ∧ st.2 ≤ sum
    · rw [if_pos hc, if_pos (by omega)]
    rw [if_neg hc, ← foldl_flat (fun st v => tryF ps nx f (o ++ [v]) (tov ps v) (sum + dist a (frm ps v)) st) (fun i => waysL (pAt ps i) i) (nx o) st]
    show (cnds ps nx o).foldl _ st = _
    have hF : ∀ v ∈ cnds ps nx o, 0 ≤ dist a (frm ps v) + mS ps nx f (o ++ [v]) (tov ps v) := fun v hv => by
      obtain ⟨h1, h2⟩ := hN.ok f o hI v hv
      have hn := near_ends hR h1
      have h3 := mS_pos hR hN f (o ++ [v]) (tov ps v) h2 hn.2
      have h4 := dist_bound ha hn.1
      omega
    rw [foldl_congr' (g := fun st v => if 0 ≤ st.2 ∧ st.2 ≤ sum + (dist a (frm ps v) + mS ps nx f (o ++ [v]) (tov ps v)) then st else (o ++ v :: qS ps nx f (o ++ [v]) (tov ps v), sum + (dist a (frm ps v) + mS ps nx f (o ++ [v]) (tov ps v))))]
    · have := fold_best (F := fun v => dist a (frm ps v) + mS ps nx f (o ++ [v]) (tov ps v)) (res := fun v => o ++ v :: qS ps nx f (o ++ [v]) (tov ps v)) (sum := sum) (st := st) (cnds ps nx o) none (fun v hv => by have := hF v hv; omega) (fun u hu => by cases hu)
      refine this.trans ?_
      obtain ⟨u, hu, hmem⟩ := pick_some (f := fun v => dist a (frm ps v) + mS ps nx f (o ++ [v]) (tov ps v)) (hN.ne f o hI)
      simp only [mS, qS, hu, apB, least0]
    · intro st v hv
      obtain ⟨h1, h2⟩ := hN.ok f o hI v hv
      have hn := near_ends hR h1
      have h4 := dist_bound ha hn.1
      rw [tryF_eq hR hN f (o ++ [v]) (tov ps v) (sum + dist a (frm ps v)) st h2 hn.2 (by omega)]
      rw [Int.add_assoc, List.append_assoc]; rfl

theorem cnds_ne {ps : List Pth} (hR : Rights ps) {nx : List Vis → List Int} {o : List Vis} {i : Int} (hi : i ∈ nx o) (h0 : 0 ≤ i) (h1 : i < ps.length) : cnds ps nx o ≠ [] := by
  obtain ⟨q, rfl⟩ := Int.eq_ofNat_of_zero_le h0
  obtain ⟨p, hp⟩ := idx_of_lt (show q < ps.length by omega)
  have hne := ways_ne (p := p) (i := q) (hR.ne p (List.mem_of_getElem? hp))
  obtain ⟨v, hv⟩ := idx_of_lt hne
  intro h
  have : v ∈ cnds ps nx o := List.mem_flatMap.2 ⟨q, hi, by rw [pAt_get hp]; exact List.mem_of_getElem? hv⟩
  rw [h] at this; simp at this

/-! ### the best order -/
theorem nxLeft {ps : List Pth} (hR : Rights ps) : NxOk ps (leftL ps.length) (fun f o => (leftL ps.length o).length = f) := {
  ne := fun f o h => by
    cases hl : leftL ps.length o with
    | nil => rw [hl] at h; simp at h
    | cons i r =>
      have hi : i ∈ leftL ps.length o := by rw [hl]; exact List.mem_cons_self ..
      exact cnds_ne hR hi (leftL_range i hi).1 (leftL_range i hi).2
  ok := fun f o h v hv => by
    obtain ⟨i, hi, hv⟩ := List.mem_flatMap.1 hv
    obtain ⟨h1, h2⟩ := ways_ok hR (leftL_range i hi).1 (leftL_range i hi).2 hv
    refine ⟨h1, ?_⟩
    have := leftL_len_snoc (n := ps.length) (o := o) (v := v) (by rw [h2]; exact hi)
    omega }

theorem filter_all {ps : List Pth} (hR : Rights ps) {o : List Vis} {set : Nat} (hb : ∀ i : Nat, i < ps.length → (set.testBit i = true ↔ (i : Int) ∈ leftL ps.length o)) :
    (allC ps).filter (bitOf set) = (cnds ps (leftL ps.length) o).map (cho ps) := by
  have h1 : ∀ n, n ≤ ps.length → ((List.range n).flatMap fun (i : Nat) => choL ps i).filter (bitOf set) = ((leftL n o).flatMap fun i => waysL (pAt ps i) i).map (cho ps) := by
    intro n
    induction n with
    | zero => intro _; rfl
    | succ n ih =>
      intro hn
      rw [List.range_succ, List.flatMap_append, List.filter_append, ih (by omega), leftL_succ, List.flatMap_append, List.map_append]
      congr 1
      simp only [List.flatMap_cons, List.flatMap_nil, List.append_nil]
      have hbn := hb n (by omega)
      have hmem : ((n : Int) ∈ leftL ps.length o) ↔ o.any (fun v => decide (v.path = (n : Int))) = false := by
        rw [mem_leftL, List.any_eq_false]
        constructor
        · rintro ⟨_, h⟩ v hv; simpa using h v hv
        · intro h
          exact ⟨by omega, fun v hv => by simpa using h v hv⟩
      have hpath : ∀ x ∈ choL ps (n : Int), bitOf set x = set.testBit n := fun x hx => by
        obtain ⟨v, hv, rfl⟩ := List.mem_map.1 hx
        have := (ways_ok hR (show (0 : Int) ≤ (n : Int) by omega) (by omega) hv).2
        show set.testBit v.path.toNat = _
        rw [this]; rfl
      by_cases ha : o.any (fun v => decide (v.path = (n : Int))) = true
      · rw [if_pos ha]
        have hf : set.testBit n = false := by
          cases hh : set.testBit n with
          | false => rfl
          | true => have := hmem.1 (hbn.1 hh); rw [ha] at this; cases this
        rw [List.filter_eq_nil_iff.2 (fun x hx => by rw [hpath x hx, hf]; simp)]
        rfl
      · have ha : o.any (fun v => decide (v.path = (n : Int))) = false := by simpa using ha
        rw [if_neg (by rw [ha]; simp)]
        have hf : set.testBit n = true := hbn.2 (hmem.2 ha)
        rw [List.filter_eq_self.2 (fun x hx => by rw [hpath x hx, hf])]
        simp [choL]
  exact h1 ps.length (Nat.le_refl _)

theorem best_eq {ps : List Pth} (hR : Rights ps) (h6 : ps.length ≤ 60) : ∀ (f : Nat) (o : List Vis) (set : Nat) (a : Pt), (leftL ps.length o).length = f → set < 2 ^ ps.length →
    (∀ i : Nat, i < ps.length → (set.testBit i = true ↔ (i : Int) ∈ leftL ps.length o)) → RB (allC ps) set a = mS ps (leftL ps.length) f o a ∧ QB (allC ps) set a = qS ps (leftL ps.length) f o a := by
  have hpow : 2 ^ ps.length ≤ 2 ^ 60 := Nat.pow_le_pow_right (by omega) h6
  have e60 : (2 : Nat) ^ 60 = 1152921504606846976 := by decide
  intro f
  induction f with
  | zero =>
    intro o set a hl hs hb
    have h0 : set = 0 := by
      rcases Nat.eq_zero_or_pos set with h | h
      · exact h
      · obtain ⟨i, hi⟩ := Nat.exists_testBit_of_ne_zero (show set ≠ 0 by omega)
        have hip : i < ps.length := by
          rcases Nat.lt_or_ge i ps.length with h | h
          · exact h
          · have h2 : set < 2 ^ i := by
              have := Nat.pow_le_pow_right (n := 2) (by omega) h
              omega
            rw [Nat.testBit_lt_two_pow h2] at hi; cases hi
        have := (hb i hip).1 hi
        rw [List.length_eq_zero_iff.1 hl] at this; simp at this
    subst h0
    exact ⟨rfl, rfl⟩
  | succ f ih =>
    intro o set a hl hs hb
    have hs62 : set < 4611686018427387904 := by omega
    have hN := nxLeft hR
    have hstep : ∀ v ∈ cnds ps (leftL ps.length) o, RB (allC ps) (clr set v.path.toNat) (tov ps v) = mS ps (leftL ps.length) f (o ++ [v]) (tov ps v) ∧ QB (allC ps) (clr set v.path.toNat) (tov ps v) = qS ps (leftL ps.length) f (o ++ [v]) (tov ps v) := fun v hv => by
      obtain ⟨h1, h2⟩ := hN.ok f o hl v hv
      refine ih (o ++ [v]) (clr set v.path.toNat) (tov ps v) h2 (by have := clr_le (s := set) (p := v.path.toNat) hs62; omega) fun i hi => ?_
      rw [clr_bit hs62, leftL_snoc, List.mem_filter, Bool.and_eq_true, hb i hi]
      have h0 := h1.p0
      constructor
      · rintro ⟨g1, g2⟩
        refine ⟨g1, ?_⟩
        simp at g2 ⊢
        omega
      · rintro ⟨g1, g2⟩
        refine ⟨g1, ?_⟩
        simp at g2 ⊢
        omega
    have hfa := filter_all hR hb
    have hmap := nst_map (fun x : Cho => dist a x.a + RB (allC ps) (clr set x.v.path.toNat) x.b) (cho ps) (cnds ps (leftL ps.length) o) none
    have hcong := nst_congr (f := fun v => dist a (cho ps v).a + RB (allC ps) (clr set (cho ps v).v.path.toNat) (cho ps v).b) (g := fun v => dist a (frm ps v) + mS ps (leftL ps.length) f (o ++ [v]) (tov ps v))
      (cnds ps (leftL ps.length) o) none (fun v hv => by
        show dist a (frm ps v) + RB (allC ps) (clr set v.path.toNat) (tov ps v) = _
        rw [(hstep v hv).1]) (fun u hu => by cases hu)
    rw [hcong] at hmap
    obtain ⟨u, hu, hm⟩ := pick_some (f := fun v => dist a (frm ps v) + mS ps (leftL ps.length) f (o ++ [v]) (tov ps v)) (hN.ne f o hl)
    rw [hu] at hmap
    have hpick : ((allC ps).filter (bitOf set)).foldl (nst fun x => dist a x.a + RB (allC ps) (clr set x.v.path.toNat) x.b) none = some (cho ps u) := by rw [hfa]; exact hmap
    constructor
    · rw [RB_eq (allC ps) hs62, hpick, mS, hu]
      show dist a (frm ps u) + RB (allC ps) (clr set u.path.toNat) (tov ps u) = _
      rw [(hstep u hm).1]; rfl
    · rw [QB_some (allC ps) hs62 a hpick, qS, hu]
      show u :: QB (allC ps) (clr set u.path.toNat) (tov ps u) = _
      rw [(hstep u hm).2]

theorem bestS_eq {ps : List Pth} (hR : Rights ps) (h6 : ps.length ≤ 60) {s : Pt} (hs : Nearby s) :
    bestS ps s = (QB (allC ps) (2 ^ ps.length - 1) s, trav ps s (QB (allC ps) (2 ^ ps.length - 1) s)) := by
  have hN := nxLeft hR
  have hI : (leftL ps.length []).length = ps.length := by rw [leftL_nil]; simp
  have hp : 0 < 2 ^ ps.length := Nat.two_pow_pos _
  have h := best_eq hR h6 ps.length [] (2 ^ ps.length - 1) s hI (by omega) fun i hi => by
    rw [Nat.testBit_two_pow_sub_one, leftL_nil]
    simp [hi]
    exact ⟨i, hi, rfl⟩
  unfold bestS
  rw [tryF_eq hR hN ps.length [] s 0 ([], -1) hI hs (by omega), if_neg (by simp), h.2, trav_qS hN _ _ _ hI]
  simp

/-! ### an order that is begun -/
theorem nextI_one {order : List Int} {o : List Vis} (h : o.length < order.length) : ∃ x, order[o.length]? = some x ∧ nextI order o = [x] := by
  obtain ⟨x, hx⟩ := idx_of_lt h
  refine ⟨x, hx, ?_⟩
  unfold nextI
  rw [take_snoc hx, List.drop_append_of_le_length (by rw [List.length_take]; omega), List.drop_eq_nil_of_le (by rw [List.length_take]; omega)]
  rfl
theorem nxNext {ps : List Pth} (hR : Rights ps) {order : List Int} (hr : ∀ i ∈ order, 0 ≤ i ∧ i < ps.length) : NxOk ps (nextI order) (fun f o => f + o.length = order.length) := {
  ne := fun f o h => by
    obtain ⟨x, hx, hn⟩ := nextI_one (order := order) (o := o) (by omega)
    have := hr x (List.mem_of_getElem? hx)
    exact cnds_ne hR (i := x) (by rw [hn]; simp) this.1 this.2
  ok := fun f o h v hv => by
    obtain ⟨x, hx, hn⟩ := nextI_one (order := order) (o := o) (by omega)
    have hxr := hr x (List.mem_of_getElem? hx)
    obtain ⟨i, hi, hv⟩ := List.mem_flatMap.1 hv
    rw [hn] at hi
    simp at hi
    subst hi
    exact ⟨(ways_ok hR hxr.1 hxr.2 hv).1, by rw [List.length_append]; simp; omega⟩ }

theorem cnds_next {ps : List Pth} {order : List Int} {o : List Vis} (h : o.length < order.length) : cnds ps (nextI order) o = (stgs ps order).getD o.length [] := by
  obtain ⟨x, hx, hn⟩ := nextI_one h
  unfold cnds
  rw [hn, List.getD, stgs, List.getElem?_map, hx]
  simp
theorem rest_eq {ps : List Pth} {order : List Int} : ∀ (f : Nat) (o : List Vis) (a : Pt), f + o.length = order.length → mS ps (nextI order) f o a = rest ps ((stgs ps order).drop o.length) a
  | 0, o, a, h => by
    rw [List.drop_eq_nil_of_le (by rw [stgs, List.length_map]; omega)]; rfl
  | f + 1, o, a, h => by
    have hlt : o.length < (stgs ps order).length := by rw [stgs, List.length_map]; omega
    have hd : (stgs ps order).drop o.length = (stgs ps order).getD o.length [] :: (stgs ps order).drop (o.length + 1) := by
      rw [List.drop_eq_getElem_cons hlt]
      congr 1
      rw [List.getD, List.getElem?_eq_getElem hlt]; rfl
    rw [mS, hd, rest, cnds_next (by omega)]
    refine least0_congr fun v hv => ?_
    rw [rest_eq f (o ++ [v]) (tov ps v) (by rw [List.length_append]; simp; omega), List.length_append]
    rfl
theorem begN_eq {ps : List Pth} {order : List Int} (hok : StOk ps (stgs ps order)) (s : Pt) : ∀ (f k : Nat), f + k = order.length →
    begN ps s (stgs ps order) order.length = begN ps s (stgs ps order) k ++ qS ps (nextI order) f (begN ps s (stgs ps order) k) (lastP ps s (begN ps s (stgs ps order) k))
  | 0, k, h => by
    have : k = order.length := by omega
    subst this; simp [qS]
  | f + 1, k, h => by
    have hl : (stgs ps order).length = order.length := by rw [stgs, List.length_map]
    obtain ⟨hk, _⟩ := begN_facts (ps := ps) s hok k (by omega)
    rw [begN_eq hok s f (k + 1) (by omega)]
    obtain ⟨hne, _⟩ := hok _ (List.mem_of_getElem? (getD_get (l := stgs ps order) (i := k) (d := []) (by omega)))
    have hf : (fun v => dist (lastP ps s (begN ps s (stgs ps order) k)) (frm ps v) + mS ps (nextI order) f (begN ps s (stgs ps order) k ++ [v]) (tov ps v)) =
        fun v => dist (lastP ps s (begN ps s (stgs ps order) k)) (frm ps v) + rest ps ((stgs ps order).drop (k + 1)) (tov ps v) := by
      funext v
      rw [rest_eq f _ _ (by rw [List.length_append, hk]; simp; omega), List.length_append, hk]
      rfl
    obtain ⟨u, hu, _⟩ := pick_some (f := fun v => dist (lastP ps s (begN ps s (stgs ps order) k)) (frm ps v) + rest ps ((stgs ps order).drop (k + 1)) (tov ps v)) hne
    have hb1 : begN ps s (stgs ps order) (k + 1) = begN ps s (stgs ps order) k ++ [u] := by
      simp only [begN, hu, Option.getD_some]
    rw [qS, cnds_next (by omega), hk, hf, hu, hb1, lastP_snoc, List.append_assoc]
    rfl

theorem begunS_eq {ps : List Pth} (hR : Rights ps) {order : List Int} (hl : order.length = ps.length) (hr : ∀ i ∈ order, 0 ≤ i ∧ i < ps.length) {s : Pt} (hs : Nearby s) :
    begunS ps order s = (begN ps s (stgs ps order) ps.length, trav ps s (begN ps s (stgs ps order) ps.length)) := by
  have hN := nxNext hR hr
  have hI : ps.length + ([] : List Vis).length = order.length := by simp [hl]
  have h := begN_eq (stgs_ok hR hr) s ps.length 0 (by omega)
  rw [hl] at h
  have h' : begN ps s (stgs ps order) ps.length = qS ps (nextI order) ps.length [] s := by rw [h]; simp [begN, lastP]
  unfold begunS
  rw [tryF_eq hR hN ps.length [] s 0 ([], -1) hI hs (by omega), if_neg (by simp), h', trav_qS hN _ _ _ hI]
  simp
end Go.Eng

/-! Contracts: what is equal; how long paths are. -/
namespace Go.Eng
open Go
variable {c : Cfg}

theorem list_ne {α : Type} {a b : List α} {i : Nat} {x y : α} (h1 : a[i]? = some x) (h2 : b[i]? = some y) (h : x ≠ y) : a ≠ b := fun he => by
  rw [he, h2] at h1; exact h (Option.some.inj h1).symm
theorem list_eq {α : Type} {a b : List α} (hl : a.length = b.length) (h : ∀ j, j < a.length → a[j]? = b[j]?) : a = b := by
  apply List.ext_getElem?
  intro j
  by_cases hj : j < a.length
  · exact h j hj
  · rw [List.getElem?_eq_none (by omega), List.getElem?_eq_none (by omega)]

def EqualISpec (c : Cfg) : Prop := ∀ (D D' : Nat → Prop) (av bv : Value) (a b : List Int) (w : World), Sl D eI w av a → Sl D' eI w bv b →
  Ret c.P c.f_slices_Equal_sl_int_int #[av, bv] w fun u w' => Keep NoB w w' ∧ ∃ r : Bool, u = .bool r ∧ (r = true ↔ a = b)
theorem equalI_spec (E : Eqs c) : EqualISpec c := by
  intro D D' av bv a b w ha hb
  apply E.slices_Equal_sl_int_int
  have hab := ha.bound
  have hbb := hb.bound
  unfold wp_slices_Equal_sl_int_int
  refine ha.len (hb.len (s_neq (s_condD (fun h => ⟨Keep.refl _ _, false, rfl, by simp; intro h'; subst h'; exact h rfl⟩) fun h => ?_)))
  have hlen : a.length = b.length := by omega
  refine ha.len ?_
  refine s_range a.length (fun i w' => Keep NoB w w' ∧ ∀ j, j < i → a[j]? = b[j]?) ⟨Keep.refl _ _, fun _ h => by omega⟩ ?_
  rintro i w1 j nx ⟨hk, h0⟩ hin hnx
  refine s_lss (s_condD (fun hlt => ?_) fun hge => ?_)
  · have hil := ofInt_lt hlt
    obtain ⟨x, hx⟩ := idx_of_lt hil
    obtain ⟨y, hy⟩ := idx_of_lt (show i < b.length by omega)
    refine (ha.keep0 hk).drew.idx (sz := 1) eI_len hx fun b1 o _ _ hc => s_ldC0 hc ?_
    refine (hb.keep0 hk).drew.idx (sz := 1) eI_len hy fun b1 o _ _ hc => s_ldC0 hc ?_
    refine s_neq (s_condD (fun hne => ⟨hk.drew, false, rfl, by simp; exact list_ne hx hy hne⟩) fun heq => ?_)
    refine s_add (by omega) (by omega) (hnx _ hil ⟨hk.drew, fun q hq => ?_⟩)
    rcases Nat.lt_or_ge q i with h | h
    · exact h0 q h
    · obtain rfl : q = i := by omega
      rw [hx, hy]; congr 1; omega
  · obtain rfl : i = a.length := by omega
    exact ⟨hk, true, rfl, by simp; exact list_eq hlen h0⟩

def EqualVSpec (c : Cfg) : Prop := ∀ (D D' : Nat → Prop) (av bv : Value) (a b : List Vis) (w : World), Sl D eV w av a → Sl D' eV w bv b →
  Ret c.P c.f_slices_Equal_sl_api_Visit_api_Visit #[av, bv] w fun u w' => Keep NoB w w' ∧ ∃ r : Bool, u = .bool r ∧ (r = true ↔ a = b)
theorem equalV_spec (E : Eqs c) (T : Ty c) : EqualVSpec c := by
  intro D D' av bv a b w ha hb
  apply E.slices_Equal_sl_api_Visit_api_Visit
  have hab := ha.bound
  have hbb := hb.bound
  unfold wp_slices_Equal_sl_api_Visit_api_Visit
  refine ha.len (hb.len (s_neq (s_condD (fun h => ⟨Keep.refl _ _, false, rfl, by simp; intro h'; subst h'; exact h rfl⟩) fun h => ?_)))
  have hlen : a.length = b.length := by omega
  refine ha.len ?_
  refine s_range a.length (fun i w' => Keep NoB w w' ∧ ∀ j, j < i → a[j]? = b[j]?) ⟨Keep.refl _ _, fun _ h => by omega⟩ ?_
  rintro i w1 j nx ⟨hk, h0⟩ hin hnx
  refine s_lss (s_condD (fun hlt => ?_) fun hge => ?_)
  · have hil := ofInt_lt hlt
    obtain ⟨x, hx⟩ := idx_of_lt hil
    obtain ⟨y, hy⟩ := idx_of_lt (show i < b.length by omega)
    refine (ha.keep0 hk).drew.idx (sz := 3) eV_len hx fun b1 o _ _ hc => s_ldA hc rfl ?_
    refine (hb.keep0 hk).drew.idx (sz := 3) eV_len hy fun b1 o _ _ hc => s_ldA hc rfl ?_
    refine s_neqTrip T.eq_visit x.path x.start y.path y.start x.back y.back ?_
    refine s_cond (fun hne => ⟨hk.drew, false, rfl, ?_⟩) fun heq => ?_
    · have : x ≠ y := fun he => by subst he; simp at hne
      simp; exact list_ne hx hy this
    · have : x = y := by
        cases x; cases y
        simp at heq
        simp [heq]
      refine s_add (by omega) (by omega) (hnx _ hil ⟨hk.drew, fun q hq => ?_⟩)
      rcases Nat.lt_or_ge q i with h | h
      · exact h0 q h
      · obtain rfl : q = i := by omega
        rw [hx, hy, this]
  · obtain rfl : i = a.length := by omega
    exact ⟨hk, true, rfl, by simp; exact list_eq hlen h0⟩

/-- the length of one open path of two points -/
theorem long1_spec (E : Eqs c) (T : Ty c) {D : Nat → Prop} {lv : Value} {a b : Pt} {w : World} (hl : SlP D w lv [⟨[a, b], false⟩]) (ha : Nearby a) (hb : Nearby b) :
    Ret c.P c.f_path_Long #[lv] w fun u w' => Keep NoB w w' ∧ ∃ v, u = .tuple #[v, vi (dist a b), vi 0] ∧ Sl (Fresh w) eI w' v [dist a b] := by
  have hl := hl.lt
  apply E.path_Long
  unfold wp_path_Long
  refine (checkPaths_spec E _ lv _ w hl).mono ?_
  rintro u w1 ⟨hk1, rfl⟩
  have hnf : pathsF [⟨[a, b], false⟩] = 0 := by
    unfold Nearby at ha hb
    have h1 : farPt a = false := by simp [farPt]; omega
    have h2 : farPt b = false := by simp [farPt]; omega
    simp [pathsF, pathF, firstNZ, h1, h2]
  refine s_neq (s_condD (fun h => absurd hnf h) fun _ => ?_)
  refine (hl.keep0 hk1).len ?_
  -- no path yet, then one
  let rep : Bool × Value → List Value := fun σ => if σ.1 then [σ.2, vi (dist a b), vi 1] else [.slice none 0 0, vi 0, vi 0]
  have hdb := dist_bound hb ha
  have hd2 := dist_bound ha hb
  refine s_while (σ := Bool × Value) rep (fun σ w' => Keep NoB w w' ∧ (σ.1 = true → Sl (Fresh w) eI w' σ.2 [dist a b])) (fun σ => if σ.1 then 0 else 1) (false, .nilIface) rfl ⟨hk1, fun h => by cases h⟩ ?_
  rintro ⟨bb, uv⟩ w2 j nx ⟨hk2, hv⟩ hnx
  cases bb with
  | true =>
    refine s_lss (s_condD (fun h => absurd h (by simp)) fun _ => ?_)
    exact ⟨hk2, uv, rfl, hv rfl⟩
  | false =>
    refine s_lss (s_condD (fun _ => ?_) fun h => absurd (by simp) h)
    refine (hl.keep0 hk2).idx (i := 0) rfl fun b0 o hd _ _ hc hs => s_ldA hc rfl ?_
    refine s_var rfl rfl (one_path hs) fun b9 w4 hat9 hk4 hb9 hs9 => ?_
    have hs := hs.keep0 hk4
    have hk_4 := hk2.trans hk4
    refine s_off (s_ldAt hat9 rfl (hs.len ?_))
    let rep2 : Nat → List Value := fun i => [vi (if i < 2 then 0 else dist a b), vi i]
    refine s_while (σ := Nat) rep2 (fun i w' => Keep NoB w4 w' ∧ i ≤ 2) (fun i => 2 - i) 0 rfl ⟨Keep.refl _ _, by omega⟩ ?_
    rintro i w5 j2 nx2 ⟨hk5, hi2⟩ hnx2
    have hs5 := hs.keep0 hk5
    have hat9' := hat9.keep0 hk5
    refine s_lss (s_condD (fun hlt => ?_) fun hge => ?_)
    · have hlt : i < 2 := by
        have hlt : (i : Int) < 2 := hlt
        omega
      obtain ⟨x, hx⟩ := idx_of_lt (show i < [a, b].length from hlt)
      have hxn : Nearby x := by
        have := List.mem_of_getElem? hx
        simp at this
        rcases this with rfl | rfl <;> assumption
      refine s_join (hs5.idx (sz := 2) eP_len hx fun b1 o1 _ _ hc1 => s_ldA hc1 rfl ?_)
      refine s_var rfl rfl rfl fun b12 w8 hat12 hk8 hb12 hs12 => ?_
      refine s_gtr ?_
      have hs8 := hs5.keep0 hk8
      have hat98 := hat9'.keep0 hk8
      refine s_join (s_condD (fun h1 => ?_) fun h1 => ?_)
      · have h1 : i = 1 := by
          have h1 : (0 : Int) < i := h1
          omega
        subst h1
        have hxb : x = b := by simpa using hx.symm
        subst hxb
        refine s_held (fun w' => Keep NoB w8 w') ⟨keep_drew _ _, ?_⟩
        refine s_off (s_ldS (fun w' h => by rw [(hat98.keep0 h).cell]; rfl) ?_)
        refine s_sub (by decide) (by decide) ?_
        refine held_elem (j := 0) hs8 (fun w' h => ⟨_, h, fun _ _ h => h⟩) rfl rfl ?_
        refine s_ldAS (fun w' h => (hat12.keep0 h).cells) rfl ?_
        refine (distance_spec E a x w8.drew ha hb).mono ?_
        rintro u10 w10 ⟨hk10, rfl⟩
        have hk10' : Keep NoB w8 w10 := (keep_drew _ _).trans hk10
        refine ⟨hk10', ?_⟩
        show binP .add (vi 0) _ _
        refine s_add (by omega) (by omega) ?_
        intro j3 j4
        refine s_add (by decide) (by decide) ?_
        have := hnx2 2 w10 ⟨(hk5.trans hk8).trans hk10', by omega⟩ (by decide)
        rw [Int.zero_add]
        exact this
      · have h1 : i = 0 := by
          have h1 : ¬ (0 : Int) < i := h1
          omega
        subst h1
        refine s_off (s_ldAt hat98 rfl (s_join (s_condF rfl ?_)))
        intro j3 j4 j5
        refine s_add (by decide) (by decide) ?_
        exact hnx2 1 w8 ⟨hk5.trans hk8, by omega⟩ (by decide)
    · have hge : i = 2 := by
        have hge : ¬ (i : Int) < 2 := hge
        omega
      subst hge
      have hgrow : Grow w5 c.t_int 1 eI w5 (.slice none 0 0) ([] : List Int) := Grow.nil
      show semP c.P (Instr.buildSlice c.t_sl_int 1 #[(0, vi (dist a b))]) w5 _
      refine hgrow.push T.sl_int (y := dist a b) rfl rfl rfl (by simp) (by omega) fun v6 w6 hg6 _ _ => ?_
      show binP .add (vi 0) (vi (dist a b)) _
      refine s_add (by omega) (by omega) ?_
      refine s_add (by decide) (by decide) ?_
      have hk_5 : Keep NoB w w5 := hk_4.trans hk5
      have := hnx (true, v6) w6 ⟨hk_5.trans hg6.keep, fun _ => hg6.sl.dom fun b hb => Nat.le_trans hk_5.size hb⟩ (by simp)
      rw [Int.zero_add]
      exact this

def PathedSpec (c : Cfg) : Prop := ∀ (w : World), Ret c.P c.f_bllaw1_pathed #[] w fun u w' => u = .bool true ∧ Keep NoB w w'
theorem pathed_spec (E : Eqs c) (T : Ty c) : PathedSpec c := by
  intro w
  apply E.bllaw1_pathed ()
  unfold wp_bllaw1_pathed
  refine s_build T.st_point (cells := eP ⟨0, 0⟩) rfl (s_build T.st_point (cells := eP ⟨3, 2⟩) rfl ?_)
  refine s_lit (w := w) T.sl_pt [.agg (eP ⟨0, 0⟩).toArray, .agg (eP ⟨3, 2⟩).toArray] [(⟨0, 0⟩ : Pt), ⟨3, 2⟩] rfl rfl rfl eP_len (by omega) (by omega) fun b w1 hg1 hk1 _ => ?_
  refine s_build T.st_path (cells := [.slice (some ⟨b, 0, none⟩) 2 2, .bool false]) rfl ?_
  refine s_bslice T.sl_path [.agg #[.slice (some ⟨b, 0, none⟩) 2 2, .bool false]] rfl rfl (fun v hv => by simp at hv; subst hv; rfl) (by omega) fun b2 w2 hat2 hk2 hb2 hs2 => ?_
  have hsl : SlP (fun _ => True) w2 (.slice (some ⟨b2, 0, none⟩) 1 1) [⟨[⟨0, 0⟩, ⟨3, 2⟩], false⟩] := by
    refine ⟨[[.slice (some ⟨b, 0, none⟩) 2 2, .bool false]], rfl, ⟨_, 1, rfl, ⟨Nat.le_refl _, by simp⟩, fun _ => ⟨b2, 0, rfl, trivial, by omega, hat2.cells⟩⟩, fun i c p hc hp => ?_⟩
    cases i with
    | zero =>
      simp at hc hp
      subst hc; subst hp
      exact ⟨_, rfl, (hg1.sl.keep0 hk2).dom fun _ _ => trivial⟩
    | succ i => simp at hc
  refine (long1_spec E T hsl (by unfold Nearby; decide) (by unfold Nearby; decide)).mono ?_
  rintro u w3 ⟨hk3, v, rfl, hv⟩
  refine s_ex0 (s_ex1 ⟨vi 0, rfl, ?_⟩)
  refine s_join (s_eql (s_guardT (fun _ => s_eql (s_guardT (fun _ => ?_) fun h => ?_)) fun h => by cases h))
  · refine s_lit (w := w3) T.sl_int [vi 3] [(3 : Int)] rfl rfl rfl eI_len (by omega) (by omega) fun b5 w5 hg5 hk5 _ => ?_
    refine (equalI_spec E _ _ v _ [dist ⟨0, 0⟩ ⟨3, 2⟩] [3] w5 (hv.keep0 hk5) hg5.sl).mono ?_
    rintro u w6 ⟨hk6, r, rfl, hr⟩
    intro j
    have : r = true := hr.2 (by decide)
    rw [this]; exact ⟨rfl, (((hk1.trans hk2).trans hk3).trans hk5).trans hk6⟩
  · exact absurd h (by decide)
end Go.Eng

/-! Contracts: points, orders and indices from the stream. -/
namespace Go.Eng
open Go
variable {c : Cfg}

/-- what is made since w0, while the stream draws -/
structure GrowS (w0 : World) (sb : Nat) {α : Type} (e : TypeId) (sz : Nat) (enc : α → List Value) (w : World) (s : Value) (l : List α) : Prop where
  keep : Keep (· = sb) w0 w
  ow : Ow (Fresh w0) e sz enc w s l
section
variable {w0 w w' : World} {sb : Nat} {α : Type} {e : TypeId} {sz : Nat} {enc : α → List Value} {s : Value} {l : List α}
theorem GrowS.nil : GrowS w0 sb e sz enc w0 (.slice none 0 0) ([] : List α) := ⟨Keep.refl _ _, Ow.nil⟩
theorem GrowS.sl (h : GrowS w0 sb e sz enc w s l) : Sl (Fresh w0) enc w s l := h.ow.sl
theorem GrowS.fresh (h : GrowS w0 sb e sz enc w s l) {b : Nat} (hb : inV s b) : w0.heap.size ≤ b := Own.inD h.ow hb
theorem GrowS.lt (h : GrowS w0 sb e sz enc w s l) {b : Nat} (hb : inV s b) : b < w.heap.size := Own.inLt h.ow hb
theorem GrowS.step (h : GrowS w0 sb e sz enc w s l) (hs : sb < w0.heap.size) (k : Keep (· = sb) w w') : GrowS w0 sb e sz enc w' s l :=
  ⟨h.keep.trans k, h.ow.keep k fun b hb h' => by have := h.fresh hb; omega⟩
theorem GrowS.push {P : Program} {t : TypeId} {by_ : Nat} {z : List Value} (hT : SliceT P t e sz by_ z) {y : α} {x : Value} {ty : TypeId} {k : Value → World → Prop} (h0 : GrowS w0 sb e sz enc w s l) (hx : x.cells = (enc y).toArray) (hsz : (enc y).length = sz)
    (hone : (enc y).all Eng.one = true) (hb : l.length + 1 ≤ 16777216) (hs : 1 * sz ≤ 16777216)
    (h : ∀ v' w', GrowS w0 sb e sz enc w' v' (l ++ [y]) → Keep (inV s) w w' → (∀ i, inV v' i → inV s i ∨ w.heap.size ≤ i) → k v' w') :
    semP P (Instr.buildSlice t 1 #[(0, x)]) w fun u w1 => semP P (Builtin.append_ #[t, t] ty #[s, u]) w1 k :=
  s_push hT h0.ow hx hsz hone hb hs (fun i hi => Nat.le_trans h0.keep.size hi) fun v' w' ho hk hi =>
    h v' w' ⟨h0.keep.new hk fun i hi => .inr (h0.fresh hi), ho⟩ hk hi
end

theorem odd_spec (E : Eqs c) (T : Ty c) {sb k : Nat} {lo hi : Int} {w : World} (h1 : lo ≤ hi) (h2 : -1000000000000 ≤ lo) (h3 : hi ≤ 1000000000000) (hs : SOk c w sb (k + 2)) :
    Ret c.P c.f_p_blmake_Stream_Odd #[pb sb 0, vi lo, vi hi] w fun v w' => ∃ r : Int, v = vi r ∧ SOk c w' sb k ∧ Keep (· = sb) w w' := by
  apply E.p_blmake_Stream_Odd
  unfold wp_p_blmake_Stream_Odd
  refine (flip_spec E sb (k + 1) 12 w (by omega) hs).mono ?_
  rintro v w1 ⟨r, rfl, hs1, hk1⟩
  refine s_cond (fun _ => ?_) fun _ => ?_
  · refine s_sub (by omega) (by omega) (s_add (by omega) (by omega) ?_)
    refine s_lit (w := w1) T.sl_int [vi (lo - 1), vi (hi + 1), vi lo, vi hi, vi (-1099511627776), vi 1099511627776] [lo - 1, hi + 1, lo, hi, -1099511627776, 1099511627776] rfl rfl rfl eI_len (by omega) (by omega) fun b w2 hg hk2 hb => ?_
    refine (pick_spec E sb k _ _ _ w2 (by simp) (by simp) (fun b hb h => by have hb : w1.heap.size ≤ b := hb; have := hs1.lt; omega) hg.sl (hs1.keep hk2)).mono ?_
    rintro v w3 ⟨r, rfl, _, hs3, hk3⟩
    exact ⟨r, rfl, hs3, (hk1.trans hk2.none).trans hk3⟩
  · refine (range_spec E sb k lo hi w1 h1 (by omega) (by omega) hs1).mono ?_
    rintro v w2 ⟨r, rfl, _, _, hs2, hk2⟩
    exact ⟨r, rfl, hs2, hk1.trans hk2⟩

theorem aPoint_spec (E : Eqs c) (T : Ty c) {sb k : Nat} {w : World} (hs : SOk c w sb (k + 5)) :
    Ret c.P c.f_p_blmake_Stream_APoint #[pb sb 0] w fun v w' => ∃ p : Pt, v = .agg (eP p).toArray ∧ SOk c w' sb k ∧ Keep (· = sb) w w' := by
  apply E.p_blmake_Stream_APoint
  unfold wp_p_blmake_Stream_APoint
  have hsb := hs.lt
  refine s_new (cs := [vi 0, vi 0]) fun b2 w1 hat2 hk1 hb2 hs2 => ?_
  refine (range_spec E sb (k + 4) (-3) 14 w1 (by omega) (by omega) (by omega) (hs.keep hk1)).mono ?_
  rintro v w2 ⟨x, rfl, _, _, hs2', hk2⟩
  refine (range_spec E sb (k + 3) (-3) 14 w2 (by omega) (by omega) (by omega) hs2').mono ?_
  rintro v w3 ⟨y, rfl, _, _, hs3, hk3⟩
  refine s_build T.st_point (cells := eP ⟨x, y⟩) rfl ?_
  refine s_var rfl rfl rfl fun b3 w5 hat3 hk5 hb3 hs5 => ?_
  have hk25 := hk2.trans hk3
  have hsz := hk25.size
  refine (flip_spec E sb (k + 2) 40 w5 (by omega) (hs3.keep hk5)).mono ?_
  rintro v w6 ⟨r, rfl, hs6, hk6⟩
  have hat3 := hat3.keep hk6 (by omega)
  have hat2 := ((hat2.keep hk25 (by omega)).keep0 hk5).keep hk6 (by omega)
  have hk06 : Keep (· = sb) w w6 := ((hk1.none.trans hk25).trans hk5.none).trans hk6
  have hsz6 := hk6.size
  have fin : ∀ (p : Pt) (w7 : World), At w7 b3 (eP p) c.t_api_Point → SOk c w7 sb k → Keep (· = sb) w w7 → At w7 b2 [vi 0, vi 0] c.t_api_Point →
      ldA 2 (pb b3 0) w7 fun v14 => stA 2 (pb b2 0) v14 w7 fun w10 => ldA 2 (pb b2 0) w10 fun v2_1 => ∃ p : Pt, v2_1 = .agg (eP p).toArray ∧ SOk c w10 sb k ∧ Keep (· = sb) w w10 := fun p w7 ha hs7 hk7 ha2 => by
    refine s_ldAAt ha rfl ?_
    refine s_stA (vs := eP p) ha2 rfl rfl rfl fun w10 ha2 hk10 _ => ?_
    refine s_ldAAt ha2 rfl ⟨p, rfl, ?_, hk7.new hk10 fun i hi => .inr (by omega)⟩
    exact hs7.keepM hk10 fun b hb => by omega
  refine s_join (s_cond (fun _ => ?_) fun _ => ?_)
  · refine (odd_spec E T (by omega) (by omega) (by omega) hs6).mono ?_
    rintro v w8 ⟨r, rfl, hs8, hk8⟩
    refine s_off (s_st (hat3.keep hk8 (by omega)) (by simp [eP]) rfl fun w9 hat9 hk9 _ => ?_)
    intro j
    exact fin ⟨r, y⟩ w9 hat9 (hs8.keepM hk9 fun b hb => by omega) ((hk06.trans hk8).new hk9 fun i hi => .inr (by omega)) ((hat2.keep hk8 (by omega)).keep hk9 (by omega))
  · intro j
    exact fin ⟨x, y⟩ w6 hat3 (hs6.less (by omega)) hk06 hat2

theorem order_spec (E : Eqs c) (T : Ty c) {sb k n : Nat} {w : World} (hn : n ≤ 1000) (hs : SOk c w sb (k + n)) :
    Ret c.P c.f_p_blmake_Stream_Order #[pb sb 0, vi n] w fun v w' => ∃ l : List Int, l.length = n ∧ GrowS w sb c.t_int 1 eI w' v l ∧ SOk c w' sb k := by
  apply E.p_blmake_Stream_Order
  unfold wp_p_blmake_Stream_Order
  have hsb := hs.lt
  refine s_for n (fun i (u : Value) => [u, vi i]) (fun i u w' => ∃ l : List Int, l.length = i ∧ Grow w c.t_int 1 eI w' u l ∧ SOk c w' sb (k + n)) (.slice none 0 0) rfl ⟨[], rfl, Grow.nil, hs⟩ ?_
  rintro i u w1 j nx ⟨l, hl, hg, hs1⟩ hin hnx
  refine s_lss (s_condD (fun hlt => ?_) fun hge => ?_)
  · have hil := ofInt_lt hlt
    refine hg.push T.sl_int (y := (i : Int)) rfl rfl rfl (by omega) (by omega) fun v' w2 hg2 hk2 _ => ?_
    refine s_add (by omega) (by omega) (hnx v' w2 hil ⟨_, by simp [hl], hg2, hs1.keepM hk2 fun b hb => by have := hg.fresh hb; omega⟩)
  · have hi : i = n := by omega
    subst hi
    refine s_sub (by omega) (by omega) ?_
    refine s_while (σ := Nat) (fun q => [vi ((q : Int) - 1)]) (fun q w' => q ≤ i ∧ ∃ l : List Int, l.length = i ∧ GrowS w sb c.t_int 1 eI w' u l ∧ SOk c w' sb (k + q)) (fun q => q) i
      rfl ⟨Nat.le_refl _, l, hl, ⟨hg.keep.none, hg.ow⟩, hs1⟩ ?_
    rintro q w4 j2 nx2 ⟨hqi, l, hl, hg, hs4⟩ hnx2
    refine s_gtr (s_condD (fun hlt => ?_) fun hge => ?_)
    · have hlt : 2 ≤ q := by
        have hlt : (0 : Int) < (q : Int) - 1 := hlt
        omega
      refine s_add (by omega) (by omega) ?_
      refine (next_spec E sb (k + (q - 1)) _ w4 (by omega) (by rw [show k + (q - 1) + 1 = k + q by omega]; exact hs4)).mono ?_
      rintro v w5 ⟨r, rfl, hr, _, hs5, hk5⟩
      obtain ⟨hr0, hr1⟩ := hr (by omega)
      obtain ⟨p, rfl⟩ := Int.eq_ofNat_of_zero_le hr0
      have hpq : p < q := by omega
      have hg5 := hg.step hsb hk5
      have e1 : (q : Int) - 1 = ((q - 1 : Nat) : Int) := by omega
      obtain ⟨x, hx⟩ := idx_of_lt (show p < l.length by omega)
      obtain ⟨y, hy⟩ := idx_of_lt (show q - 1 < l.length by omega)
      refine hg5.sl.drew.idx (sz := 1) eI_len hx fun b o _ _ hc => s_ldC0 hc ?_
      show idxP 1 u (vi ((q : Int) - 1)) _
      rw [e1]
      refine hg5.sl.drew.idx (sz := 1) eI_len hy fun b o _ _ hc => s_ldC0 hc ?_
      refine hg5.ow.drew.put1 eI_len (i := q - 1) (by omega) (y := x) rfl rfl fun w6 ho6 hk6 _ => ?_
      refine ho6.put1 eI_len (i := p) (by rw [List.length_set]; omega) (y := y) rfl rfl fun w7 ho7 hk7 _ => ?_
      refine s_sub (by omega) (by omega) ?_
      have hk57 : Keep (inV u) w5 w7 := (keep_drew _ _).trans (hk6.trans hk7)
      have := hnx2 (q - 1) w7 ⟨by omega, _, by simp [hl], ⟨hg5.keep.new hk57 fun i hi => .inr (hg.fresh hi), ho7⟩, hs5.keepM hk57 fun b hb => by have := hg.fresh hb; omega⟩ (by omega)
      exact this
    · exact ⟨l, hl, hg, hs4.less (by omega)⟩

theorem aVisit_spec (E : Eqs c) (T : Ty c) {D : Nat → Prop} {lv : Value} {ps : List Pth} {i : Int} {sb k : Nat} {w : World} (hl : SlP D w lv ps) (hD : ∀ b, D b → b ≠ sb) (hs : SOk c w sb (k + 6)) :
    Ret c.P c.f_p_blmake_Stream_AVisit #[pb sb 0, lv, vi i] w fun v w' => ∃ x : Vis, v = .agg (eV x).toArray ∧ SOk c w' sb k ∧ Keep (· = sb) w w' := by
  have hl := hl.old
  have hsb := hs.lt
  apply E.p_blmake_Stream_AVisit
  unfold wp_p_blmake_Stream_AVisit
  refine s_new (cs := eV v0) fun b6 w1 hat6 hk1 hb6 hs6 => ?_
  refine s_build T.st_visit (cells := eV ⟨i, 0, false⟩) rfl ?_
  refine s_var rfl rfl rfl fun b7 w3 hat7 hk3 hb7 hs7 => ?_
  have hk03 := hk1.trans hk3
  have hat6 := hat6.keep0 hk3
  have hl3 := hl.keep0 hk03
  have hs3 := hs.keep hk03
  have hb := hl3.bound
  have hold := hk1.size
  have hlk : ∀ w', Keep (fun b => b = sb ∨ b = b7) w3 w' → SlP (fun b => D b ∧ b < w.heap.size) w' lv ps := fun w' h => hl3.keep h fun b hb h => by
    rcases h with h | h
    · exact hD b hb.1 h
    · have := hb.2; omega
  refine s_joinM (fun vs w' => w' = w3 ∧ vs = [.bool (decide (0 ≤ i ∧ i < ps.length))]) ?_ ?_
  · refine s_geq (s_guardT (fun h => hl3.len (s_lss ⟨rfl, ?_⟩)) fun h => ⟨rfl, ?_⟩)
    · simp at h; simp [h]
    · simp at h; simp; omega
  rintro vs j w3 ⟨rfl, rfl⟩
  refine s_joinM (fun vs w' => Keep (fun b => b = sb ∨ b = b7) w3 w' ∧ SOk c w' sb (k + 5) ∧ ∃ x : Vis, At w' b7 (eV x) c.t_api_Visit) ?_ ?_
  · refine s_condD (fun hin => ?_) fun _ => ⟨Keep.refl _ _, hs3.less (by omega), _, hat7⟩
    obtain ⟨q, rfl⟩ := Int.eq_ofNat_of_zero_le hin.1
    obtain ⟨p, hp⟩ := idx_of_lt (show q < ps.length by omega)
    refine hl3.idx hp fun b o hd _ _ hc hss => s_off (s_ldC (i := 1) hc rfl (s_join (s_cond (fun _ => ?_) fun _ => ?_)))
    · refine hl3.idx hp fun b o hd _ _ hc hss => s_off (s_ldC (i := 0) hc rfl (hss.len ?_))
      have := hss.bound
      refine (next_spec E sb (k + 5) _ w3 (by omega) hs3).mono ?_
      rintro v w7 ⟨r, rfl, _, _, hs7, hk7⟩
      refine s_off (s_st (hat7.keep hk7 (by omega)) (by simp [eV]) rfl fun w8 h8 hk8 _ => ?_)
      intro j1
      exact ⟨(hk7.mono fun b h => .inl h).trans (hk8.mono fun b h => .inr h), hs7.keepM hk8 fun b hb => by omega, ⟨q, r, false⟩, h8⟩
    · refine (flip_spec E sb (k + 5) 2 w3 (by omega) hs3).mono ?_
      rintro v w7 ⟨r, rfl, hs7, hk7⟩
      refine s_off (s_st (hat7.keep hk7 (by omega)) (by simp [eV]) rfl fun w8 h8 hk8 _ => ?_)
      intro j1
      exact ⟨(hk7.mono fun b h => .inl h).trans (hk8.mono fun b h => .inr h), hs7.keepM hk8 fun b hb => by omega, ⟨q, 0, r⟩, h8⟩
  rintro vs j w5 ⟨hk5, hs5, x, hat75⟩
  refine (flip_spec E sb (k + 4) 25 w5 (by omega) hs5).mono ?_
  rintro v w11 ⟨r, rfl, hs11, hk11⟩
  have hat711 := hat75.keep hk11 (by omega)
  have hk3_11 : Keep (fun b => b = sb ∨ b = b7) w3 w11 := hk5.trans (hk11.mono fun b h => .inl h)
  have hl11 := hlk w11 hk3_11
  refine s_joinM (fun vs w' => Keep (fun b => b = sb ∨ b = b7) w3 w' ∧ SOk c w' sb k ∧ ∃ x : Vis, At w' b7 (eV x) c.t_api_Visit) ?_ ?_
  · refine s_cond (fun _ => ?_) fun _ => ⟨hk3_11, hs11.less (by omega), x, hat711⟩
    have hsz11 := hk3_11.size
    have hsbl : ∀ w', Keep (· = sb) w11 w' → ∀ b, Fresh w' b → b ≠ sb := fun w' h b hb e => by have hb : w'.heap.size ≤ b := hb; have := h.size; omega
    refine s_join (s_held (fun w' => Keep (· = sb) w11 w') ⟨keep_drew _ _, ?_⟩)
    refine s_off (s_ldS (fun w' h => by rw [(hat711.keep h (by omega)).cell]; rfl) ?_)
    refine hl11.len ?_
    refine s_off (s_ldS (fun w' h => by rw [(hat711.keep h (by omega)).cell]; rfl) ?_)
    have fin3 : ∀ (a b : Int) (q : Bool) (w18 : World), Keep (· = sb) w11 w18 → SOk c w18 sb k → st (pb b7 (0 + 0)) (vi a) w18 fun w19 => offP 1 (pb b7 0) fun v52 => st v52 (vi b) w19 fun w20 => offP 2 (pb b7 0) fun v53 => st v53 (.bool q) w20 fun w21 =>
        (Nat → Value) → (Keep (fun b => b = sb ∨ b = b7) w3 w21 ∧ SOk c w21 sb k ∧ ∃ x : Vis, At w21 b7 (eV x) c.t_api_Visit) := fun a b q w18 hk18 hs18 => by
      refine s_st (hat711.keep hk18 (by omega)) (by simp [eV]) rfl fun w19 h19 hk19 _ => ?_
      refine s_off (s_st h19 (by simp [eV]) rfl fun w20 h20 hk20 _ => ?_)
      refine s_off (s_st h20 (by simp [eV]) rfl fun w21 h21 hk21 _ => ?_)
      intro j
      have hk1821 : Keep (· = b7) w18 w21 := (hk19.trans hk20).trans hk21
      exact ⟨(hk3_11.trans (hk18.mono fun b h => .inl h)).trans (hk1821.mono fun b h => .inr h), hs18.keepM hk1821 fun b hb => by omega, ⟨a, b, q⟩, h21⟩
    -- one of some numbers
    have pk : ∀ {k' : Nat} {w' w'' : World} {u : Value} {l : List Int} {K : Value → World → Prop}, Keep (· = sb) w11 w' → Keep (· = sb) w' w'' → Sl (Fresh w') eI w'' u l → l ≠ [] → l.length ≤ 1000 → SOk c w'' sb (k' + 1) →
        (∀ r w3', SOk c w3' sb k' → Keep (· = sb) w'' w3' → K (vi r) w3') → Ret c.P c.f_p_blmake_Stream_Pick #[pb sb 0, u] w'' K := fun {k' w' w'' u l K} hka hkb hsl hne hlen hss hK => by
      refine (pick_spec E sb k' _ u l w'' hne (by omega) (hsbl w' hka) hsl hss).mono ?_
      rintro v w3' ⟨r, rfl, _, h1, h2⟩
      exact hK r w3' h1 h2
    constructor
    · refine s_lit (w := w11.drew) T.sl_int [vi x.path, vi (-1), vi ps.length, vi 0] [x.path, -1, ps.length, 0] rfl rfl rfl eI_len (by omega) (by omega) fun b1 w14 hg14 hk14 hb1 => ?_
      have hk14' : Keep (· = sb) w11 w14 := (keep_drew _ _).trans hk14.none
      refine ⟨hk14', ?_, ?_⟩
      · refine pk (k' := k + 3) (keep_drew _ _) hk14.none hg14.sl (by simp) (by simp) (hs11.keep ((keep_drew _ _).trans hk14)) fun r1 w15 hs15 hk15 => ⟨hk14'.trans hk15, s_off ?_⟩
        refine s_lit (w := w15) T.sl_int [vi x.start, vi 1, vi (-1), vi 9] [x.start, 1, -1, 9] rfl rfl rfl eI_len (by omega) (by omega) fun b2 w16 hg16 hk16 hb2 => ?_
        have hk16' := (hk14'.trans hk15).trans hk16.none
        refine ⟨hk16', pk (k' := k + 2) (hk14'.trans hk15) hk16.none hg16.sl (by simp) (by simp) (hs15.keep hk16) fun r2 w17 hs17 hk17 => ⟨hk16'.trans hk17, ?_⟩⟩
        refine (flip_spec E sb (k + 1) 2 w17 (by omega) hs17).mono ?_
        rintro v w18 ⟨r, rfl, hs18, hk18⟩
        exact ⟨(hk16'.trans hk17).trans hk18, fin3 r1 r2 r w18 ((hk16'.trans hk17).trans hk18) (hs18.less (by omega))⟩
      · refine s_lit (w := w14) T.sl_int [vi x.start, vi 1, vi (-1), vi 9] [x.start, 1, -1, 9] rfl rfl rfl eI_len (by omega) (by omega) fun b2 w22 hg22 hk22 hb2 => ?_
        have hk22' := hk14'.trans hk22.none
        refine ⟨hk22', pk (k' := k + 3) (keep_drew _ _) (hk14.trans hk22).none (hg14.sl.keep0 hk22) (by simp) (by simp) ((hs11.keep ((keep_drew _ _).trans hk14)).keep hk22) fun r1 w23 hs23 hk23 => ⟨hk22'.trans hk23, s_off ?_⟩⟩
        refine pk (k' := k + 2) hk14' (hk22.none.trans hk23) (hg22.sl.keep hk23 fun b hb h => hsbl w14 hk14' b hb h) (by simp) (by simp) hs23 fun r2 w24 hs24 hk24 => ⟨(hk22'.trans hk23).trans hk24, ?_⟩
        refine (flip_spec E sb (k + 1) 2 w24 (by omega) hs24).mono ?_
        rintro v w25 ⟨r, rfl, hs25, hk25⟩
        exact ⟨((hk22'.trans hk23).trans hk24).trans hk25, fin3 r1 r2 r w25 (((hk22'.trans hk23).trans hk24).trans hk25) (hs25.less (by omega))⟩
    · refine s_lit (w := w11.drew) T.sl_int [vi x.start, vi 1, vi (-1), vi 9] [x.start, 1, -1, 9] rfl rfl rfl eI_len (by omega) (by omega) fun b2 w29 hg29 hk29 hb2 => ?_
      have hk29' : Keep (· = sb) w11 w29 := (keep_drew _ _).trans hk29.none
      refine ⟨hk29', ?_⟩
      refine s_lit (w := w29) T.sl_int [vi x.path, vi (-1), vi ps.length, vi 0] [x.path, -1, ps.length, 0] rfl rfl rfl eI_len (by omega) (by omega) fun b1 w30 hg30 hk30 hb1 => ?_
      have hk30' := hk29'.trans hk30.none
      refine ⟨hk30', pk (k' := k + 3) hk29' hk30.none hg30.sl (by simp) (by simp) ((hs11.keep ((keep_drew _ _).trans hk29)).keep hk30) fun r1 w31 hs31 hk31 => ⟨hk30'.trans hk31, s_off ?_⟩⟩
      refine pk (k' := k + 2) (keep_drew _ _) ((hk29.trans hk30).none.trans hk31) ((hg29.sl.keep0 hk30).keep hk31 fun b hb h => hsbl w11.drew (keep_drew _ _) b hb h) (by simp) (by simp) hs31 fun r2 w32 hs32 hk32 => ⟨(hk30'.trans hk31).trans hk32, ?_⟩
      refine (flip_spec E sb (k + 1) 2 w32 (by omega) hs32).mono ?_
      rintro v w33 ⟨r, rfl, hs33, hk33⟩
      exact ⟨((hk30'.trans hk31).trans hk32).trans hk33, fin3 r1 r2 r w33 (((hk30'.trans hk31).trans hk32).trans hk33) (hs33.less (by omega))⟩
  rintro vs j w12 ⟨hk12, hs12, x', hat712⟩
  refine s_ldAAt hat712 rfl ?_
  refine s_stA (vs := eV x') (hat6.keep hk12 fun h => by rcases h with h | h <;> omega) rfl rfl rfl fun w37 h6 hk37 _ => ?_
  refine s_ldAAt h6 rfl ⟨x', rfl, hs12.keepM hk37 fun b hb => by omega, (hk03.none.new hk12 fun i hi => ?_).new hk37 fun i hi => .inr (by omega)⟩
  rcases hi with h | h
  · exact .inl h
  · exact .inr (by omega)
end Go.Eng

/-! Contracts: orders and indices from the stream. -/
namespace Go.Eng
open Go
variable {c : Cfg}

theorem GrowS.back {w0 w1 w : World} {sb : Nat} {α : Type} {e : TypeId} {sz : Nat} {enc : α → List Value} {s : Value} {l : List α} (h : GrowS w1 sb e sz enc w s l) (k : Keep (· = sb) w0 w1) : GrowS w0 sb e sz enc w s l :=
  ⟨k.trans h.keep, Own.dom h.ow fun b hb => Nat.le_trans k.size hb⟩

theorem anOrder_spec (E : Eqs c) (T : Ty c) {D : Nat → Prop} {lv : Value} {ps : List Pth} {sb k : Nat} {w : World} (hl : SlP D w lv ps) (hD : ∀ b, D b → b ≠ sb) (hlen : ps.length ≤ 1000) (hs : SOk c w sb (k + 7 * ps.length + 1)) :
    Ret c.P c.f_p_blmake_Stream_AnOrder #[pb sb 0, lv] w fun v w' => ∃ l : List Vis, l.length ≤ ps.length + 1 ∧ GrowS w sb c.t_api_Visit 3 eV w' v l ∧ SOk c w' sb k := by
  have hl := hl.old
  have hsb := hs.lt
  apply E.p_blmake_Stream_AnOrder
  unfold wp_p_blmake_Stream_AnOrder
  refine hl.len ?_
  refine (order_spec E T (sb := sb) (k := k + 6 * ps.length + 1) (n := ps.length) hlen (by rw [show k + 6 * ps.length + 1 + ps.length = k + 7 * ps.length + 1 by omega]; exact hs)).mono ?_
  rintro v11 w1 ⟨ol, hol, hg1, hs1⟩
  have hsz1 := hg1.keep.size
  have hsl1 := hg1.sl.old
  refine hg1.sl.len ?_
  refine s_for ol.length (fun i (u : Value) => [u, vi i]) (fun i u w' => ∃ l : List Vis, l.length = i ∧ GrowS w1 sb c.t_api_Visit 3 eV w' u l ∧ SOk c w' sb (k + 6 * (ps.length - i) + 1)) (.slice none 0 0) rfl ⟨[], rfl, GrowS.nil, hs1⟩ ?_
  rintro i u w2 j nx ⟨l, hll, hg2, hs2⟩ hin hnx
  have hsl2 : Sl (fun b => Fresh w b ∧ b < w1.heap.size) eI w2 v11 ol := hsl1.keep hg2.keep fun b hb h => by have hb : w.heap.size ≤ b := hb.1; omega
  have hl2 : SlP (fun b => D b ∧ b < w.heap.size) w2 lv ps := (hl.keep hg1.keep fun b hb h => hD b hb.1 h).keep hg2.keep fun b hb h => hD b hb.1 h
  refine s_lss (s_condD (fun hlt => ?_) fun hge => ?_)
  · have hil := ofInt_lt hlt
    obtain ⟨x, hx⟩ := idx_of_lt hil
    refine hsl2.idx (sz := 1) eI_len hx fun b o _ _ hc => s_ldC0 hc ?_
    refine (aVisit_spec E T (k := k + 6 * (ps.length - (i + 1)) + 1) hl2 (fun b hb => hD b hb.1) (by rw [show k + 6 * (ps.length - (i + 1)) + 1 + 6 = k + 6 * (ps.length - i) + 1 by omega]; exact hs2)).mono ?_
    rintro v w3 ⟨y, rfl, hs3, hk3⟩
    refine (hg2.step (by omega) hk3).push T.sl_visit (y := y) rfl rfl rfl (by omega) (by omega) fun v' w4 hg4 hk4 _ => ?_
    refine s_add (by omega) (by omega) (hnx v' w4 hil ⟨_, by simp [hll], hg4, hs3.keepM hk4 fun b hb => by have := hg2.fresh hb; omega⟩)
  · have hi : i = ol.length := by omega
    subst hi
    refine (flip_spec E sb k 30 w2 (by omega) (hs2.less (by omega))).mono ?_
    rintro v w6 ⟨r, rfl, hs6, hk6⟩
    have hg6 := hg2.step (by omega) hk6
    refine s_join (s_cond (fun _ => ?_) fun _ => ?_)
    · refine s_build T.st_visit (cells := eV v0) rfl ?_
      refine hg6.push T.sl_visit (y := v0) rfl rfl rfl (by omega) (by omega) fun v' w9 hg9 hk9 _ => ?_
      intro j1
      exact ⟨_, by simp; omega, hg9.back hg1.keep, hs6.keepM hk9 fun b hb => by have := hg6.fresh hb; omega⟩
    · intro j1
      exact ⟨l, by omega, hg6.back hg1.keep, hs6⟩

theorem indices_spec (E : Eqs c) (T : Ty c) {sb k n : Nat} {w : World} (hn : n ≤ 1000) (hs : SOk c w sb (k + n + 4)) :
    Ret c.P c.f_p_blmake_Stream_Indices #[pb sb 0, vi n] w fun v w' => ∃ l : List Int, GrowS w sb c.t_int 1 eI w' v l ∧ SOk c w' sb k := by
  have hsb := hs.lt
  apply E.p_blmake_Stream_Indices
  unfold wp_p_blmake_Stream_Indices
  refine (order_spec E T (sb := sb) (k := k + 4) (n := n) hn (by rw [show k + 4 + n = k + n + 4 by omega]; exact hs)).mono ?_
  rintro v8 w1 ⟨l, hll, hg1, hs1⟩
  have hsz1 := hg1.keep.size
  have fin : ∀ (l : List Int) (w4 : World), l.length = n → GrowS w sb c.t_int 1 eI w4 v8 l → SOk c w4 sb (k + 1) → Ret c.P c.f_p_blmake_Stream_Flip #[pb sb 0, (.int .i64 30)] w4 fun v25 w9 =>
      joinP (fun k2 => condP v25
        (semP c.P (Instr.buildSlice c.t_sl_int 1 #[(0, (.int .i64 0))]) w9 fun v27 w11 => semP c.P (Builtin.append_ #[c.t_sl_int, c.t_sl_int] c.t_sl_int #[v8, v27]) w11 fun v28 w12 => k2 [v28] w12)
        (k2 [v8] w9)) fun s2 j2 w10 => ∃ l : List Int, GrowS w sb c.t_int 1 eI w10 (g s2 0) l ∧ SOk c w10 sb k := fun l w4 hl hg4 hs4 => by
    refine (flip_spec E sb k 30 w4 (by omega) hs4).mono ?_
    rintro v w9 ⟨r, rfl, hs9, hk9⟩
    have hg9 := hg4.step hsb hk9
    refine s_join (s_cond (fun _ => ?_) fun _ => ?_)
    · refine hg9.push T.sl_int (y := (0 : Int)) rfl rfl rfl (by omega) (by omega) fun v' w12 hg12 hk12 _ => ?_
      intro j1
      exact ⟨_, hg12, hs9.keepM hk12 fun b hb => by have := hg9.fresh hb; omega⟩
    · intro j1
      exact ⟨l, hg9, hs9⟩
  refine s_joinM (fun vs w' => ∃ r : Bool, vs = [.bool r] ∧ (r = true → 0 < n) ∧ SOk c w' sb (k + 3) ∧ GrowS w sb c.t_int 1 eI w' v8 l) ?_ ?_
  · refine s_gtr (s_guardT (fun h => ?_) fun h => ⟨false, rfl, (fun h => by cases h), hs1.less (by omega), hg1⟩)
    have h : (0 : Int) < n := by simpa using h
    refine (flip_spec E sb (k + 3) 12 w1 (by omega) hs1).mono ?_
    rintro v w3 ⟨r, rfl, hs3, hk3⟩
    exact ⟨r, rfl, fun _ => by omega, hs3, hg1.step hsb hk3⟩
  rintro vs j w2 ⟨r, rfl, hr, hs2, hg2⟩
  refine s_join (s_cond (fun hb => ?_) fun _ => ?_)
  · have hn0 := hr hb
    refine (next_spec E sb (k + 2) _ w2 (by omega) hs2).mono ?_
    rintro v w5 ⟨x, rfl, hx, _, hs5, hk5⟩
    obtain ⟨hx0, hx1⟩ := hx (by omega)
    obtain ⟨q, rfl⟩ := Int.eq_ofNat_of_zero_le hx0
    have hg5 := hg2.step hsb hk5
    refine s_lit (w := w5) T.sl_int [vi (-1), vi n, vi 0] [-1, (n : Int), 0] rfl rfl rfl eI_len (by omega) (by omega) fun b6 w6 hg6 hk6 _ => ?_
    have hsz5 := hg5.keep.size
    refine (pick_spec E sb (k + 1) _ _ _ w6 (by simp) (by simp) (fun b hb h => by have hb : w5.heap.size ≤ b := hb; omega) hg6.sl (hs5.keep hk6)).mono ?_
    rintro v w7 ⟨y, rfl, _, hs7, hk7⟩
    have hg7 := (hg5.step hsb hk6.none).step hsb hk7
    refine hg7.ow.put1 eI_len (i := q) (by omega) (y := y) rfl rfl fun w8 ho8 hk8 _ => ?_
    intro j1
    exact fin _ w8 (by simp [hll]) ⟨hg7.keep.new hk8 fun i hi => .inr (hg7.fresh hi), ho8⟩ (hs7.keepM hk8 fun b hb => by have := hg7.fresh hb; omega)
  · intro j1
    exact fin l w2 hll hg2 (hs2.less (by omega))

end Go.Eng

/-! Contract: paths from the stream. -/
namespace Go.Eng
open Go
variable {c : Cfg}

def eQ (x : Value × Pth) : List Value := [x.1, .bool x.2.closed]
theorem eQ_len : ∀ {l : List (Value × Pth)}, ∀ x ∈ l, (eQ x).length = 2 := fun _ _ => rfl

/-- paths that are made -/
structure PLs (c : Cfg) (w0 : World) (w : World) (v : Value) (l : List (Value × Pth)) : Prop where
  ow : Ow (Fresh w0) c.t_api_Path 2 eQ w v l
  pts : ∀ x ∈ l, Sl (fun b => w0.heap.size ≤ b ∧ ¬ inV v b) eP w x.1 x.2.pts

theorem PLs.slp {w0 w : World} {v : Value} {l : List (Value × Pth)} (h : PLs c w0 w v l) : SlP (Fresh w0) w v (l.map (·.2)) := by
  refine ⟨l.map eQ, by simp, ?_, fun i cc p hc hp => ?_⟩
  · obtain ⟨a, cap, h1, h2, h3⟩ := h.ow.sl
    refine ⟨a, cap, by simpa using h1, by simpa using h2, fun hne => ?_⟩
    obtain ⟨b, o, e1, e2, e3, e4⟩ := h3 (fun hh => hne (by rw [hh]; rfl))
    exact ⟨b, o, e1, e2, e3, by simpa [List.flatMap_map] using e4⟩
  · rw [List.getElem?_map] at hc hp
    cases hx : l[i]? with
    | none => rw [hx] at hc; cases hc
    | some x =>
      rw [hx] at hc hp
      cases hc; cases hp
      exact ⟨x.1, rfl, (h.pts x (List.mem_of_getElem? hx)).dom fun b hb => hb.1⟩

theorem PLs.keep {w0 w w' : World} {v : Value} {l : List (Value × Pth)} {M : Nat → Prop} (h : PLs c w0 w v l) (k : Keep M w w') (hm : ∀ b, M b → b < w0.heap.size ∨ w.heap.size ≤ b) : PLs c w0 w' v l := by
  refine ⟨h.ow.keep k fun b hb hM => ?_, fun x hx => ?_⟩
  · have h1 : w0.heap.size ≤ b := Own.inD h.ow hb
    have h2 := Own.inLt h.ow hb
    rcases hm b hM with h' | h' <;> omega
  · exact ((h.pts x hx).old.keep k fun b hb hM => by
      have h1 := hb.1.1
      have h2 := hb.2
      rcases hm b hM with h' | h' <;> omega).dom fun b hb => hb.1

theorem pickF_spec (E : Eqs c) {sb k : Nat} {u : Value} {l : List Int} {w : World} {D : Nat → Prop} {K : Value → World → Prop} (hl : Sl D eI w u l) (hne : l ≠ []) (hlen : l.length ≤ 1000) (hD : ∀ b, D b → b ≠ sb) (hs : SOk c w sb (k + 1))
    (hK : ∀ r w', SOk c w' sb k → Keep (· = sb) w w' → K (vi r) w') : Ret c.P c.f_p_blmake_Stream_Pick #[pb sb 0, u] w K := by
  refine (pick_spec E sb k D u l w hne (by omega) hD hl hs).mono ?_
  rintro v w' ⟨r, rfl, _, h1, h2⟩
  exact hK r w' h1 h2

theorem set2_flat {l : List (Value × Pth)} {q : Nat} (hq : q < l.length) (y : Value × Pth) (sp : List Value) :
    (((l.flatMap eQ ++ sp).set (q * 2 + 1) (.bool y.2.closed)).set (q * 2) y.1) = (l.set q y).flatMap eQ ++ sp := by
  have hl := flat_len l (eQ_len (l := l))
  have hl' := flat_len (l.set q y) (eQ_len (l := l.set q y))
  rw [List.length_set] at hl'
  apply List.ext_getElem?
  intro j
  simp only [List.getElem?_set, List.length_set, List.length_append]
  by_cases h1 : q * 2 = j
  · subst h1
    rw [if_pos rfl, if_pos (by omega), List.getElem?_append_left (by omega), flat_set (eQ_len (l := l)) (by omega) hq rfl, if_pos (by omega)]
    simp [eQ]
  · rw [if_neg h1]
    by_cases h2 : q * 2 + 1 = j
    · subst h2
      rw [if_pos rfl, if_pos (by omega), List.getElem?_append_left (by omega), flat_set (eQ_len (l := l)) (by omega) hq rfl, if_pos (by omega)]
      rw [show q * 2 + 1 - q * 2 = 1 by omega]; rfl
    · rw [if_neg h2]
      by_cases h3 : j < l.length * 2
      · rw [List.getElem?_append_left (by omega), List.getElem?_append_left (by omega), flat_set (eQ_len (l := l)) (by omega) hq rfl, if_neg (by omega)]
      · rw [List.getElem?_append_right (by omega), List.getElem?_append_right (by omega), hl, hl']

theorem pathList_spec (E : Eqs c) (T : Ty c) {sb k m : Nat} {w : World} (hm : m ≤ 1000) (hs : SOk c w sb (k + 10 * m + 8)) :
    Ret c.P c.f_p_blmake_Stream_PathList #[pb sb 0, vi m] w fun v w' => ∃ ps : List Pth, ps.length ≤ m ∧ SlP (Fresh w) w' v ps ∧ SOk c w' sb k ∧ Keep (· = sb) w w' := by
  have hsb := hs.lt
  obtain ⟨eS, hTS⟩ := T.ssl_pt
  apply E.p_blmake_Stream_PathList
  unfold wp_p_blmake_Stream_PathList
  refine (range_spec E sb (k + 10 * m + 7) 0 m w (by omega) (by omega) (by omega) hs).mono ?_
  rintro v10 w1 ⟨n0, rfl, hn0, hn1, hs1, hk1⟩
  obtain ⟨n, rfl⟩ := Int.eq_ofNat_of_zero_le hn0
  have hnm : n ≤ m := by omega
  have hsz1 := hk1.size
  refine s_for n (fun i (u : Value) => [u, vi i]) (fun i u w' => ∃ l, l.length = i ∧ PLs c w w' u l ∧ Keep (· = sb) w w' ∧ SOk c w' sb (k + 10 * (m - i) + 7)) (.slice none 0 0) rfl
    ⟨[], rfl, ⟨Ow.nil, by simp⟩, hk1, hs1⟩ ?_
  rintro i u w2 j nx ⟨l, hl, hP, hk2, hs2⟩ hin hnx
  have hsz2 := hk2.size
  refine s_lss (s_condD (fun hlt => ?_) fun hge => ?_)
  · have hil := ofInt_lt hlt
    refine s_new (cs := [.slice none 0 0, .bool false]) fun b6 w3 hat6 hk3 hb6 hs6 => ?_
    refine (range_spec E sb (k + 10 * (m - (i + 1)) + 16) 1 4 w3 (by omega) (by omega) (by omega) (by rw [show k + 10 * (m - (i + 1)) + 16 + 1 = k + 10 * (m - i) + 7 by omega]; exact hs2.keep hk3)).mono ?_
    rintro v14 w4 ⟨z, rfl, hz0, hz1, hs4, hk4⟩
    obtain ⟨z, rfl⟩ := Int.eq_ofNat_of_zero_le (show 0 ≤ z by omega)
    have hz4 : z ≤ 4 := by omega
    generalize hB : k + 10 * (m - (i + 1)) = B at *
    refine s_range z (fun q w' => Keep (fun b => b = sb ∨ b = b6) w3 w' ∧ SOk c w' sb (B + 16 - 2 * q) ∧ ∃ pv pts, pts.length = q ∧ At w' b6 [pv, .bool false] c.t_api_Path ∧ Ow (Fresh w3) c.t_api_Point 2 eP w' pv pts)
      ⟨hk4.mono fun b h => .inl h, hs4, .slice none 0 0, [], rfl, hat6.keep hk4 (by omega), Ow.nil⟩ ?_
    rintro q w5 j2 nx2 ⟨hk5, hs5, pv, pts, hpl, hat5, hop⟩ hqn hnx2
    have hsz5 := hk5.size
    have hinp : ∀ b, inV pv b → w3.heap.size ≤ b ∧ b < w5.heap.size := fun b hb => ⟨Own.inD hop hb, Own.inLt hop hb⟩
    refine s_lss (s_condD (fun hlt2 => ?_) fun hge2 => ?_)
    · have hql := ofInt_lt hlt2
      refine s_joinM (fun vs w' => Keep (fun b => b = sb ∨ b = b6) w3 w' ∧ SOk c w' sb (B + 16 - 2 * (q + 1)) ∧ ∃ pv pts, pts.length = q + 1 ∧ At w' b6 [pv, .bool false] c.t_api_Path ∧ Ow (Fresh w3) c.t_api_Point 2 eP w' pv pts) ?_ ?_
      · refine s_held (fun w' => Keep (· = sb) w5 w') ⟨keep_drew _ _, ?_⟩
        refine s_off (s_ldS (fun w' h => by rw [(hat5.keep h (by omega)).cell]; rfl) ?_)
        have hpush : ∀ (x y : Int) (w10 : World), Keep (· = sb) w5 w10 → SOk c w10 sb (B + 16 - 2 * (q + 1)) → pureP c.P (Instr.build c.t_api_Point #[(0, vi x), (1, vi y)]) fun v25 =>
            semP c.P (Instr.buildSlice c.t_sl_api_Point 1 #[(0, v25)]) w10 fun v26 w11 => Keep (· = sb) w5 w11 ∧ semP c.P (Builtin.append_ #[c.t_sl_api_Point, c.t_sl_api_Point] c.t_sl_api_Point #[pv, v26]) w11 fun v27 w12 =>
              offP 0 (pb b6 0) fun v28 => st v28 v27 w12 fun w' => Keep (fun b => b = sb ∨ b = b6) w3 w' ∧ SOk c w' sb (B + 16 - 2 * (q + 1)) ∧ ∃ pv pts, pts.length = q + 1 ∧ At w' b6 [pv, .bool false] c.t_api_Path ∧ Ow (Fresh w3) c.t_api_Point 2 eP w' pv pts := fun x y w10 hk10 hs10 => by
          refine s_build T.st_point (cells := eP ⟨x, y⟩) rfl ?_
          refine s_lit (w := w10) T.sl_pt [.agg (eP ⟨x, y⟩).toArray] [(⟨x, y⟩ : Pt)] rfl rfl rfl eP_len (by omega) (by omega) fun b11 w11 hg11 hk11 _ => ⟨hk10.trans hk11.none, ?_⟩
          have hsz10 := hk10.size
          refine s_append T.sl_pt ((hop.keep hk10 fun b hb h => by have := hinp b hb; omega).keep0 hk11) (hg11.sl.src eP_len) rfl (by simp; omega) (fun i hi => by have := hk11.size; show w3.heap.size ≤ i; omega) fun v12 w12 ho12 hk12 hi12 _ => ?_
          have hsz11 := hk11.size
          have hat12 := ((hat5.keep hk10 (by omega)).keep0 hk11).keep hk12 fun h => by have := hinp _ h; omega
          have ho12' : Ow (Fresh w3) c.t_api_Point 2 eP w12 v12 (pts ++ [⟨x, y⟩]) := by
            unfold Ow
            rw [List.length_append, List.flatMap_append]; exact ho12
          refine s_off (s_st hat12 (by simp) ho12'.one fun w13 hat13 hk13 _ => ?_)
          refine ⟨((((hk5.trans (hk10.mono fun b h => .inl h)).trans hk11.none).new hk12 fun i hi => .inr (hinp i hi).1).trans (hk13.mono fun b h => .inr h)), ?_, v12, _, by simp [hpl], hat13, ho12'.keep hk13 fun b hb h => ?_⟩
          · exact ((hs10.keep hk11).keepM hk12 fun b hb => by have := hinp b hb; omega).keepM hk13 fun b hb => by omega
          · rcases hi12 b hb with h' | h'
            · have := hinp b h'; omega
            · omega
        have hfr : ∀ w', Keep (· = sb) w5 w' → ∀ b, Fresh w' b → b ≠ sb := fun w' h b hb e => by have hb : w'.heap.size ≤ b := hb; have := h.size; omega
        have hb1 : B + 16 - 2 * q = B + 16 - 2 * (q + 1) + 1 + 1 := by omega
        rw [hb1] at hs5
        constructor
        · refine s_lit (w := w5.drew) T.sl_int [vi 0, vi 1, vi 2, vi 5, vi 9] [0, 1, 2, 5, 9] rfl rfl rfl eI_len (by omega) (by omega) fun b7 w7 hg7 hk7 _ => ?_
          have hk7' : Keep (· = sb) w5 w7 := (keep_drew _ _).trans hk7.none
          have hs7 : SOk c w7 sb _ := hs5.keep ((keep_drew _ _).trans hk7)
          refine ⟨hk7', ?_, ?_⟩
          · refine pickF_spec E hg7.sl (by simp) (by simp) (hfr _ (keep_drew _ _)) hs7 fun x w8 hs8 hk8 => ⟨hk7'.trans hk8, ?_⟩
            refine s_lit (w := w8) T.sl_int [vi 0, vi 0, vi 1, vi 4] [0, 0, 1, 4] rfl rfl rfl eI_len (by omega) (by omega) fun b9 w9 hg9 hk9 _ => ?_
            have hk9' := (hk7'.trans hk8).trans hk9.none
            refine ⟨hk9', pickF_spec E hg9.sl (by simp) (by simp) (hfr _ (hk7'.trans hk8)) (hs8.keep hk9) fun y w10 hs10 hk10 => ⟨hk9'.trans hk10, hpush x y w10 (hk9'.trans hk10) hs10⟩⟩
          · refine s_lit (w := w7) T.sl_int [vi 0, vi 0, vi 1, vi 4] [0, 0, 1, 4] rfl rfl rfl eI_len (by omega) (by omega) fun b9 w14 hg9 hk14 _ => ?_
            have hk14' := hk7'.trans hk14.none
            refine ⟨hk14', pickF_spec E (hg7.sl.keep0 hk14) (by simp) (by simp) (hfr _ (keep_drew _ _)) (hs7.keep hk14) fun x w15 hs15 hk15 => ⟨hk14'.trans hk15, ?_⟩⟩
            refine pickF_spec E (hg9.sl.keep hk15 fun b hb h => hfr _ hk7' b hb h) (by simp) (by simp) (hfr _ hk7') hs15 fun y w16 hs16 hk16 => ⟨(hk14'.trans hk15).trans hk16, hpush x y w16 ((hk14'.trans hk15).trans hk16) hs16⟩
        · refine s_lit (w := w5.drew) T.sl_int [vi 0, vi 0, vi 1, vi 4] [0, 0, 1, 4] rfl rfl rfl eI_len (by omega) (by omega) fun b9 w20 hg9 hk20 _ => ?_
          have hk20' : Keep (· = sb) w5 w20 := (keep_drew _ _).trans hk20.none
          refine ⟨hk20', ?_⟩
          refine s_lit (w := w20) T.sl_int [vi 0, vi 1, vi 2, vi 5, vi 9] [0, 1, 2, 5, 9] rfl rfl rfl eI_len (by omega) (by omega) fun b7 w21 hg7 hk21 _ => ?_
          have hk21' := hk20'.trans hk21.none
          refine ⟨hk21', pickF_spec E hg7.sl (by simp) (by simp) (hfr _ hk20') (hs5.keep (((keep_drew _ _).trans hk20).trans hk21)) fun x w22 hs22 hk22 => ⟨hk21'.trans hk22, ?_⟩⟩
          refine pickF_spec E ((hg9.sl.keep0 hk21).keep hk22 fun b hb h => hfr w5.drew (keep_drew _ _) b hb h) (by simp) (by simp) (hfr w5.drew (keep_drew _ _)) hs22 fun y w23 hs23 hk23 => ⟨(hk21'.trans hk22).trans hk23, hpush x y w23 ((hk21'.trans hk22).trans hk23) hs23⟩
      rintro vs j3 w6 ⟨h1, h2, h3⟩
      exact s_add (by omega) (by omega) (hnx2 w6 hql ⟨h1, h2, h3⟩)
    · have hq : q = z := by omega
      refine s_joinM (fun vs w' => Keep (fun b => b = sb ∨ b = b6) w3 w' ∧ SOk c w' sb (B + 7) ∧ ∃ r : Bool, At w' b6 [pv, .bool r] c.t_api_Path ∧ Ow (Fresh w3) c.t_api_Point 2 eP w' pv pts) ?_ ?_
      · refine s_off (s_ldAt hat5 rfl (hop.len (s_gtr (s_guardT (fun _ => ?_) fun _ => ?_))))
        · refine (flip_spec E sb (B + 7) 2 w5 (by omega) (hs5.less (by omega))).mono ?_
          rintro v w28 ⟨r, rfl, hs28, hk28⟩
          refine s_off (s_st (hat5.keep hk28 (by omega)) (by simp) rfl fun w29 hat29 hk29 _ => ?_)
          exact ⟨(hk5.trans (hk28.mono fun b h => .inl h)).trans (hk29.mono fun b h => .inr h), hs28.keepM hk29 fun b hb => by omega, r, hat29,
            (hop.keep hk28 fun b hb h => by have := hinp b hb; omega).keep hk29 fun b hb h => by have := hinp b hb; omega⟩
        · refine s_off (s_st hat5 (by simp) rfl fun w30 hat30 hk30 _ => ?_)
          exact ⟨hk5.trans (hk30.mono fun b h => .inr h), (hs5.less (by omega)).keepM hk30 fun b hb => by omega, false, hat30, hop.keep hk30 fun b hb h => by have := hinp b hb; omega⟩
      rintro vs j3 w27 ⟨hk27, hs27, r, hat27, hop27⟩
      refine s_ldAAt hat27 rfl ?_
      have hk2_27 : Keep (· = sb) w2 w27 := hk3.none.new hk27 fun i hi => by
        rcases hi with h | h
        · exact .inl h
        · exact .inr (by omega)
      have hsz27 := hk2_27.size
      have hP27 := hP.keep hk2_27 fun b hb => .inl (by omega)
      have hinu : ∀ b, inV u b → w.heap.size ≤ b ∧ b < w2.heap.size := fun b hb => ⟨Own.inD hP.ow hb, Own.inLt hP.ow hb⟩
      refine s_push T.sl_path (y := (pv, (⟨pts, r⟩ : Pth))) hP27.ow rfl rfl (one_path hop27.sl) (by omega) (by omega) (fun i hi => by show w.heap.size ≤ i; omega) fun v32 w32 ho32 hk32 hi32 => ?_
      refine s_add (by omega) (by omega) (hnx v32 w32 hil ⟨_, by simp [hl], ⟨ho32, fun x hx => ?_⟩, (hk2.trans hk2_27).new hk32 fun i hi => .inr (hinu i hi).1, ?_⟩)
      · rcases List.mem_append.1 hx with h | h
        · exact ((hP27.pts x h).old.keep hk32 fun b hb h' => hb.1.2 h').dom fun b hb => ⟨hb.1.1, fun h' => by
            rcases hi32 b h' with h'' | h''
            · exact hb.1.2 h''
            · have := hb.2; omega⟩
        · simp at h; subst h
          exact (hop27.sl.old.keep hk32 fun b hb h' => by have := hinu b h'; have hb : w3.heap.size ≤ b := hb.1; omega).dom fun b hb => by
            have hb1 : w3.heap.size ≤ b := hb.1
            refine ⟨by omega, fun h' => ?_⟩
            rcases hi32 b h' with h'' | h''
            · have := hinu b h''; omega
            · have := hb.2; omega
      · exact hs27.keepM hk32 fun b hb => by have := hinu b hb; omega
  · have hi : i = n := by omega
    refine s_joinM (fun vs w' => ∃ r : Bool, vs = [.bool r] ∧ (r = true → 0 < l.length) ∧ Keep (· = sb) w2 w' ∧ SOk c w' sb (k + 6)) ?_ ?_
    · refine hP.ow.len (s_gtr (s_guardT (fun h => ?_) fun h => ⟨false, rfl, (fun h => by cases h), Keep.refl _ _, hs2.less (by omega)⟩))
      have h : (0 : Int) < l.length := by simpa using h
      refine (flip_spec E sb (k + 6) 15 w2 (by omega) (hs2.less (by omega))).mono ?_
      rintro v w3 ⟨r, rfl, hs3, hk3⟩
      exact ⟨r, rfl, fun _ => by omega, hk3, hs3⟩
    rintro vs j2 w33 ⟨r, rfl, hr, hk33, hs33⟩
    have hP33 := hP.keep hk33 fun b hb => .inl (by omega)
    have hk_33 := hk2.trans hk33
    have hsz33 := hk33.size
    refine s_join (s_cond (fun hb => ?_) fun _ => ?_)
    rotate_left
    · intro j3
      exact ⟨l.map (fun x : Value × Pth => x.2), by simp; omega, hP33.slp, hs33.less (by omega), hk_33⟩
    have hl0 := hr hb
    refine hP33.ow.len ?_
    refine (next_spec E sb (k + 5) _ w33 (by omega) hs33).mono ?_
    rintro v55 w36 ⟨x, rfl, hx, _, hs36, hk36⟩
    obtain ⟨hx0, hx1⟩ := hx (by omega)
    obtain ⟨q, rfl⟩ := Int.eq_ofNat_of_zero_le hx0
    have hql : q < l.length := by omega
    have hP36 := hP33.keep hk36 fun b hb => .inl (by omega)
    obtain ⟨⟨hc1, hc2⟩, ⟨rfl, h3⟩ | ⟨bo, cap, sp, rfl, hbo, hato, hcap, hlc⟩⟩ := hP36.ow
    · omega
    refine s_idx (by omega) (by omega) ?_
    rw [Int.toNat_natCast, Nat.zero_add]
    have hsz36 := hk36.size
    have hbolt := hato.lt
    have hbo : w.heap.size ≤ bo := hbo
    refine (flip_spec E sb (k + 4) 2 w36 (by omega) hs36).mono ?_
    rintro v60 w37 ⟨cl, rfl, hs37, hk37⟩
    refine s_build T.st_point (cells := eP ⟨1, 0⟩) rfl ?_
    refine s_lit (w := w37) T.sl_pt [.agg (eP ⟨1, 0⟩).toArray] [(⟨1, 0⟩ : Pt)] rfl rfl rfl eP_len (by omega) (by omega) fun b62 w38 hg38 hk38 hb62 => ?_
    refine s_build T.st_point (cells := eP ⟨1, 0⟩) rfl ?_
    refine (odd_spec E T (k := k + 2) (by omega) (by omega) (by omega) (hs37.keep hk38)).mono ?_
    rintro v65 w39 ⟨ox, rfl, hs39, hk39⟩
    refine s_build T.st_point (cells := eP ⟨ox, 0⟩) rfl ?_
    refine s_lit (w := w39) T.sl_pt [.agg (eP ⟨1, 0⟩).toArray, .agg (eP ⟨ox, 0⟩).toArray] [(⟨1, 0⟩ : Pt), ⟨ox, 0⟩] rfl rfl rfl eP_len (by omega) (by omega) fun b67 w40 hg40 hk40 hb67 => ?_
    refine s_bslice hTS [.slice none 0 0, .slice (some ⟨b62, 0, none⟩) 1 1, .slice (some ⟨b67, 0, none⟩) 2 2] rfl rfl (fun v hv => by simp at hv; rcases hv with rfl | rfl | rfl <;> rfl) (by omega) fun b68 w41 hat68 hk41 hb68 hs68 => ?_
    refine (next_spec E sb (k + 1) 3 w41 (by omega) ((hs39.keep hk40).keep hk41)).mono ?_
    rintro v70 w42 ⟨t, rfl, ht, _, hs42, hk42⟩
    obtain ⟨ht0, ht1⟩ := ht (by omega)
    obtain ⟨t, rfl⟩ := Int.eq_ofNat_of_zero_le ht0
    have hsz37 := hk37.size
    have hsz38 := hk38.size
    have hsz39 := hk39.size
    have hsz40 := hk40.size
    have hsz41 := hk41.size
    -- the points that are taken
    let DP : Nat → Prop := fun b => w36.heap.size ≤ b
    have hpts : ∃ hv ptl, ([.slice none 0 0, .slice (some ⟨b62, 0, none⟩) 1 1, .slice (some ⟨b67, 0, none⟩) 2 2] : List Value)[t]? = some hv ∧ Sl DP eP w42 hv ptl := by
      have hmv : ∀ (hv : Value) (ptl : List Pt), Sl DP eP w41 hv ptl → Sl DP eP w42 hv ptl := fun hv ptl h => h.keep hk42 fun b hb e => by have hb : w36.heap.size ≤ b := hb; omega
      have h38 : Sl DP eP w41 (.slice (some ⟨b62, 0, none⟩) 1 1) [⟨1, 0⟩] :=
        ((((hg38.sl.dom (D' := DP) fun b hb => by have hb : w37.heap.size ≤ b := hb; show w36.heap.size ≤ b; omega).keep hk39 fun b hb e => by have hb : w36.heap.size ≤ b := hb; omega).keep0 hk40).keep0 hk41)
      have h40 : Sl DP eP w41 (.slice (some ⟨b67, 0, none⟩) 2 2) [⟨1, 0⟩, ⟨ox, 0⟩] :=
        (hg40.sl.dom (D' := DP) fun b hb => by have hb : w39.heap.size ≤ b := hb; show w36.heap.size ≤ b; omega).keep0 hk41
      have ht3 : t = 0 ∨ t = 1 ∨ t = 2 := by omega
      rcases ht3 with rfl | rfl | rfl
      · exact ⟨_, _, rfl, Sl.nil⟩
      · exact ⟨_, _, rfl, hmv _ _ h38⟩
      · exact ⟨_, _, rfl, hmv _ _ h40⟩
    obtain ⟨hv, ptl, hget, hpv⟩ := hpts
    have hat68' := hat68.keep hk42 (by omega)
    refine s_slot hat68' (by omega) (v := hv) (by simpa [flat, Value.cells] using hget) ?_
    have hk36_42 : Keep (· = sb) w36 w42 := (((((hk37.trans hk38.none).trans hk39).trans hk40.none).trans hk41.none).trans hk42)
    have hato42 := hato.keep hk36_42 (by omega)
    have hlf := flat_len l (eQ_len (l := l))
    refine s_nil (s_off (s_st hato42 (by rw [List.length_append, hlf]; omega) rfl fun w43 hat43 hk43 _ => ?_))
    refine s_nil (s_off ?_)
    refine s_st hat43 (by rw [List.length_set, List.length_append, hlf]; omega) hpv.one fun w44 hat44 hk44 _ => ?_
    intro j3
    have hset := set2_flat hql (hv, (⟨ptl, cl⟩ : Pth)) sp
    simp only at hset
    rw [show q * 2 + 0 = q * 2 from rfl, hset] at hat44
    have hk42_44 : Keep (· = bo) w42 w44 := hk43.trans hk44
    refine ⟨(l.set q (hv, (⟨ptl, cl⟩ : Pth))).map (fun x : Value × Pth => x.2), by simp; omega, ?_, (hs42.less (by omega)).keepM hk42_44 fun b hb => by omega, ((hk_33.trans hk36).trans hk36_42).new hk42_44 fun i hi => .inr (by omega)⟩
    refine PLs.slp (c := c) (w0 := w) ⟨?_, fun x hx => ?_⟩
    · have hlf' := flat_len (l.set q (hv, (⟨ptl, cl⟩ : Pth))) (eQ_len (l := l.set q (hv, (⟨ptl, cl⟩ : Pth))))
      rw [List.length_set] at hlf'
      refine ⟨⟨by rw [hlf', List.length_set], by rw [List.length_set]; exact hc2⟩, .inr ⟨bo, cap, sp, by rw [List.length_set]; rfl, hbo, hat44, ?_, by rw [List.length_set]; exact hlc⟩⟩
      rw [List.length_append, hlf', ← hcap, List.length_append, hlf]
    · rcases List.mem_or_eq_of_mem_set hx with h | rfl
      · have hxp := hP36.pts x h
        exact ((hxp.old.keep hk36_42 fun b hb e => by have := hb.1.1; omega).keep hk42_44 fun b hb e => hb.1.2 e.symm).dom fun b hb => hb.1
      · refine (hpv.keep hk42_44 fun b hb e => ?_).dom fun b hb => ?_
        · have hb : w36.heap.size ≤ b := hb
          omega
        · have hb : w36.heap.size ≤ b := hb
          exact ⟨by omega, fun h' => by have : bo = b := h'; omega⟩
end Go.Eng

/-! Contract: a path that is repeated. -/
namespace Go.Eng
open Go
variable {c : Cfg}

theorem s_copy {P : Program} {t e : TypeId} {sz by_ : Nat} {z : List Value} (hT : SliceT P t e sz by_ z) {w : World} {b o dn dcap b2 o2 m capx : Nat} {L xs : List Value} {ty : TypeId} {k : Value → World → Prop}
    (hat : At w b L e) (hxs : Cells w b2 o2 xs) (hn : xs.length = min m dn * sz) (ho : o + xs.length ≤ L.length) (hv : xs.all Eng.one = true)
    (h : ∀ w' L', At w' b L' e → L'.length = L.length → (∀ j, L'[j]? = if o ≤ j ∧ j < o + xs.length then xs[j - o]? else L[j]?) → Keep (· = b) w w' → w'.heap.size = w.heap.size → k (vi (min m dn : Nat)) w') :
    semP P (Builtin.copy_ #[t, t] ty #[.slice (some ⟨b, o, none⟩) dn dcap, .slice (some ⟨b2, o2, none⟩) m capx]) w k := by
  have hfirst : (Builtin.firstCells sz (Nat.min m dn) (.slice (some ⟨b2, o2, none⟩) m capx)).run P w = .ok xs.toArray w := by
    simp only [Builtin.firstCells]
    rw [show Nat.min m dn * sz = xs.length from hn.symm]
    exact run_loadCells_list w ⟨b2, o2, none⟩ xs fun j v hj => by rw [addr_add]; exact hxs j v hj
  obtain ⟨L', h1, h2, h3, h4, h5⟩ := at_storeAll xs 0 w L o hat
  refine ⟨vi (min m dn : Nat), storeAll w ⟨b, o, none⟩ xs 0, ?_, h _ L' h1 h2 (fun j => ?_) h4 h5⟩
  · have hst := run_storeCellsAt (P := P) hat (o := o) (xs := xs) ho hv
    have hlen : (Builtin.lenOf (.slice (some ⟨b2, o2, none⟩) m capx)).run P w = .ok m w := rfl
    unfold Builtin.copy_
    simp only [List.getElem?_toArray, List.getElem?_cons_zero, List.getElem?_cons_succ, Sem.run_bind', hT.run_und, hT.run_size, hlen, hfirst, hst, run_pure']
    rfl
  · rw [h3 j]
    simp only [Nat.add_zero]
    by_cases hj : o ≤ j ∧ j < o + xs.length
    · rw [if_pos ⟨hj.1, hj.2, by omega⟩, if_pos hj]
    · rw [if_neg (by omega), if_neg hj]

theorem mul17_spec (E : Eqs c) (w : World) : Ret c.P c.f_math_bits_Mul #[.int .u64 1, .int .u64 7] w fun u w' => w' = w ∧ u = .tuple #[.int .u64 0, .int .u64 7] := by
  apply E.math_bits_Mul
  unfold wp_math_bits_Mul
  refine s_condF rfl ?_
  refine (show Ret c.P c.f_math_bits_Mul64 #[.int .u64 1, .int .u64 7] w (fun u w' => w' = w ∧ u = .tuple #[.int .u64 0, .int .u64 7]) from ?_).mono ?_
  · apply E.math_bits_Mul64
    unfold wp_math_bits_Mul64
    refine ⟨.int .u64 1, fun w => rfl, ⟨.int .u64 0, fun w => rfl, ⟨.int .u64 7, fun w => rfl, ⟨.int .u64 0, fun w => rfl, ?_⟩⟩⟩⟩
    refine ⟨.int .u64 7, rfl, ⟨.int .u64 0, rfl, ⟨.int .u64 0, fun w => rfl, ⟨.int .u64 0, rfl, ⟨.int .u64 0, fun w => rfl, ⟨.int .u64 0, fun w => rfl, ?_⟩⟩⟩⟩⟩⟩
    refine ⟨.int .u64 0, rfl, ⟨.int .u64 0, rfl, ⟨.int .u64 0, rfl, ⟨.int .u64 0, rfl, ⟨.int .u64 0, fun w => rfl, ⟨.int .u64 0, rfl, ⟨.int .u64 7, rfl, rfl, rfl⟩⟩⟩⟩⟩⟩⟩
  · rintro u w' ⟨rfl, rfl⟩
    exact ⟨_, rfl, _, rfl, rfl, rfl⟩

theorem repeat7_spec (E : Eqs c) (T : Ty c) {b : Nat} {p : Pth} {pv : Value} {w : World} (hat : At w b [pv, .bool p.closed] c.t_api_Path) (hp : Sl (fun _ => True) eP w pv p.pts) :
    Ret c.P c.f_slices_Repeat_sl_api_Path_api_Path #[.slice (some ⟨b, 0, none⟩) 1 1, vi 7] w fun u w' => Keep NoB w w' ∧ SlP (fun _ => True) w' u (List.replicate 7 p) := by
  apply E.slices_Repeat_sl_api_Path_api_Path
  unfold wp_slices_Repeat_sl_api_Path_api_Path
  refine s_lss (s_join (s_condF rfl ?_))
  intro j
  show Ret c.P c.f_math_bits_Mul #[.int .u64 1, .int .u64 7] w _
  refine (mul17_spec E w).mono ?_
  rintro u w' ⟨hw, rfl⟩
  obtain rfl := hw.symm
  refine ⟨_, rfl, _, rfl, ?_⟩
  refine s_join ⟨.bool false, rfl, ?_⟩
  refine s_guardF (fun _ => ⟨.bool false, rfl, ?_⟩) fun h => by cases h
  intro j1
  refine s_join (s_condF rfl ?_)
  intro j2
  show semP c.P (Instr.makeSlice c.t_sl_api_Path (vi (7 : Nat)) (vi (7 : Nat))) w _
  refine s_mkslice T.sl_path (n := 7) (by omega) fun b30 w7 hat7 hk7 hb30 hs30 => ?_
  have hb := hat.lt
  have hl7 : ((List.replicate 7 [Value.slice none 0 0, Value.bool false]).flatten).length = 14 := by decide
  have hv : [pv, Value.bool p.closed].all Eng.one = true := one_path hp
  refine s_copy T.sl_path (m := 1) (dn := 7) hat7 (hat.keep0 hk7).cells rfl (by rw [hl7]; simp) hv fun w8 L8 hat8 hl8 hg8 hk8 hs8 => ?_
  rw [hl7] at hl8
  have hk08 : Keep NoB w w8 := hk7.new hk8 fun i hi => .inr (by omega)
  refine s_while (σ := Nat) (fun n => [vi n]) (fun n w' => (1 ≤ n ∧ n ≤ 7) ∧ Keep NoB w w' ∧ ∃ L, At w' b30 L c.t_api_Path ∧ L.length = 14 ∧ ∀ j, j < n * 2 → L[j]? = [pv, Value.bool p.closed][j % 2]?) (fun n => 7 - n) 1 rfl
    ⟨by omega, hk08, L8, hat8, hl8, fun j hj => by
      rw [hg8 j, if_pos ⟨by omega, by show j < 0 + 2; omega⟩]
      congr 1; omega⟩ ?_
  rintro n w9 j3 nx ⟨⟨hn1, hn7⟩, hk9, L, hatL, hlL, hgL⟩ hnx
  refine s_lss (s_condD (fun hlt => ?_) fun hge => ?_)
  · have hlt : n < 7 := by
      have hlt : (n : Int) < 7 := hlt
      omega
    refine ⟨_, run_sliceLo T.sl_path (by omega), ⟨_, run_sliceHi T.sl_path (by omega), ?_⟩⟩
    rw [if_neg (by omega), if_neg (by omega)]
    simp only [Option.map_some, addr_add, Nat.zero_add, Nat.zero_mul, Nat.sub_zero]
    have hmin : (L.take (min n (7 - n) * 2)).length = min n (7 - n) * 2 := by rw [List.length_take]; omega
    refine s_copy T.sl_path (m := n) (dn := 7 - n) hatL.drew (xs := L.take (min n (7 - n) * 2)) (b2 := b30) (o2 := 0) (fun j v hj => ?_) hmin (by omega) ?_ fun w10 L10 hat10 hl10 hg10 hk10 hs10 => ?_
    · rw [List.getElem?_take] at hj
      split at hj
      · exact hatL.drew.cells j v hj
      · cases hj
    · rw [List.all_eq_true]
      intro v hv'
      obtain ⟨j, hj⟩ := List.getElem?_of_mem hv'
      have hjl := lt_of_idx hj
      rw [List.getElem?_take, if_pos (by omega), hgL j (by omega)] at hj
      exact List.all_eq_true.1 hv v (List.mem_of_getElem? hj)
    · refine s_add (by omega) (by omega) ?_
      have := hnx (n + min n (7 - n)) w10 ⟨by omega, hk9.drew.new hk10 fun i hi => .inr (by omega), L10, hat10, by rw [hl10]; exact hlL, fun j hj => ?_⟩ (by omega)
      · rw [show ((n + min n (7 - n) : Nat) : Int) = (n : Int) + (min n (7 - n) : Nat) from by omega] at this
        exact this
      · rw [hg10 j, hmin]
        by_cases hjc : n * 2 ≤ j ∧ j < n * 2 + min n (7 - n) * 2
        · rw [if_pos hjc, List.getElem?_take, if_pos (by omega), hgL _ (by omega)]
          congr 1; omega
        · rw [if_neg hjc]
          exact hgL j (by omega)
  · have hn : n = 7 := by
      have hge : ¬ (n : Int) < 7 := hge
      omega
    subst hn
    refine ⟨hk9, List.replicate 7 [pv, .bool p.closed], by simp, ⟨_, 7, rfl, ⟨by simp, by simp⟩, fun _ => ⟨b30, 0, rfl, trivial, hatL.lt, fun j v hj => ?_⟩⟩, fun i cc q hc hq => ?_⟩
    · have hlen : ((List.replicate 7 [pv, Value.bool p.closed]).flatMap fun c => c).length = 14 := by simp
      have hjl := lt_of_idx hj
      rw [Nat.zero_add, hatL.cell, hgL j (by omega)]
      have hq : (List.replicate 7 [pv, Value.bool p.closed])[j / 2]? = some [pv, .bool p.closed] := by rw [List.getElem?_replicate, if_pos (by omega)]
      have := flat_get (enc := fun c : List Value => c) (sz := 2) (List.replicate 7 [pv, Value.bool p.closed]) (fun x hx => by rw [List.eq_of_mem_replicate hx]; rfl) (j / 2) (j % 2) _ hq (by omega)
      rw [← this, show j / 2 * 2 + j % 2 = j by omega]
      exact hj
    · rw [List.getElem?_replicate] at hc hq
      split at hc
      · rw [if_pos (by assumption)] at hq
        cases hc; cases hq
        exact ⟨pv, rfl, hp.keep0 hk9⟩
      · cases hc
end Go.Eng

/-! The law: Best, Nearest, Begun and Improved are as specified. -/
namespace Go.Eng
open Go
variable {c : Cfg}

theorem Gives.uni {w w' : World} {f n : Int} {os : List Vis} {u : Value} (h : Gives w f os n u w') : Keep NoB w w' ∧ ∃ bv, u = .tuple #[bv, vi (if f = 0 then n else 0), vi f] ∧ Sl (Fresh w) eV w' bv (if f = 0 then os else []) := by
  obtain ⟨h1, h2, h3⟩ := h
  refine ⟨h1, ?_⟩
  by_cases hf : f = 0
  · obtain ⟨bv, hu, hs⟩ := h3 hf
    exact ⟨bv, by rw [hu, if_pos hf, hf], by rw [if_pos hf]; exact hs⟩
  · exact ⟨.slice none 0 0, by rw [h2 hf, if_neg hf], by rw [if_neg hf]; exact Sl.nil⟩
theorem GivesR.uni {w w' : World} {f : Int} {Q : List Vis → Prop} {n : List Vis → Int} {u : Value} (h : GivesR w f Q n u w') : Keep NoB w w' ∧ ∃ bv r, (f = 0 → Q r) ∧ u = .tuple #[bv, vi (if f = 0 then n r else 0), vi f] ∧ Sl (Fresh w) eV w' bv (if f = 0 then r else []) := by
  obtain ⟨h1, h2, h3⟩ := h
  refine ⟨h1, ?_⟩
  by_cases hf : f = 0
  · obtain ⟨bv, r, hq, hu, hs⟩ := h3 hf
    exact ⟨bv, r, fun _ => hq, by rw [hu, if_pos hf, hf], by rw [if_pos hf]; exact hs⟩
  · exact ⟨.slice none 0 0, [], fun h => absurd h hf, by rw [h2 hf, if_neg hf], by rw [if_neg hf]; exact Sl.nil⟩
theorem s_ex2 {a b d : Value} {r : List Value} {k : Value → Prop} (h : k d) : exP 2 (.tuple (a :: b :: d :: r).toArray) k := ⟨d, rfl, h⟩

theorem or2_spec (E : Eqs c) {D : Nat → Prop} {v : Value} {a b : Int} {w : World} {K : Value → World → Prop} (h : Sl D eI w v [a, b]) (hK : K (vi (if a ≠ 0 then a else b)) w) : Ret c.P c.f_cmp_Or_api_Errno #[v] w K := by
  refine (or_spec E _ _ _ w h).mono ?_
  rintro v w2 ⟨hw, rfl⟩
  obtain rfl := hw.symm
  have : firstNZ [a, b] = if a ≠ 0 then a else b := by
    simp only [firstNZ]
    by_cases ha : a ≠ 0
    · rw [if_pos ha, if_pos ha]
    · rw [if_neg ha, if_neg ha]
      by_cases hb : b ≠ 0
      · rw [if_pos hb]
      · rw [if_neg hb]; omega
  rw [this]
  exact hK
theorem pf1_spec (E : Eqs c) {D : Nat → Prop} {v : Value} {p : Pt} {w : World} {K : Value → World → Prop} (h : Sl D eP w v [p]) (hK : ∀ w', Keep NoB w w' → K (vi (if farPt p then 1 else 0)) w') : Ret c.P c.f_blref1_PointFault #[v] w K := by
  refine (pointFault_spec E D v [p] w h).mono ?_
  rintro u w' ⟨hk, rfl⟩
  have := hK w' hk
  simpa using this
theorem errno_lit (T : Ty c) {a b : Int} {w : World} {K : Value → World → Prop} (h : ∀ v w', Sl (Fresh w) eI w' v [a, b] → Keep NoB w w' → K v w') : semP c.P (Instr.buildSlice c.t_sl_api_Errno 2 #[(0, vi a), (1, vi b)]) w K := by
  obtain ⟨e, hT⟩ := T.sl_errno
  exact s_lit (w := w) hT [vi a, vi b] [a, b] rfl rfl rfl eI_len (by omega) (by omega) fun b1 w1 hg hk _ => h _ w1 hg.sl hk
theorem pt_lit (T : Ty c) {p : Pt} {w : World} {K : Value → World → Prop} (h : ∀ v w', Sl (Fresh w) eP w' v [p] → Keep NoB w w' → K v w') : semP c.P (Instr.buildSlice c.t_sl_api_Point 1 #[(0, .agg (eP p).toArray)]) w K :=
  s_lit (w := w) T.sl_pt [.agg (eP p).toArray] [p] rfl rfl rfl eP_len (by omega) (by omega) fun b1 w1 hg hk _ => h _ w1 hg.sl hk
theorem startF_or (s : Pt) (f : Int) : (if (if farPt s then (1 : Int) else 0) ≠ 0 then (if farPt s then (1 : Int) else 0) else f) = startF s f := by
  unfold startF
  cases farPt s <;> simp

set_option maxHeartbeats 1600000 in
theorem ordersChosen_spec (E : Eqs c) (T : Ty c) {D : Nat → Prop} {lv : Value} {l : List Int} {w : World} (hl : Sl D eI w lv l) (hr : ∀ x ∈ l, -9223372036854775808 ≤ x ∧ x ≤ 9223372036854775807) :
    Ret c.P c.f_bllaw1_OrdersChosen #[lv] w fun u w' => u = .bool true ∧ Keep NoB w w' := by
  have hl := hl.lt
  apply E.bllaw1_OrdersChosen
  unfold wp_bllaw1_OrdersChosen
  refine s_build T.st_stream (cells := [lv, vi 0]) (by obtain ⟨a, cap, rfl, _⟩ := hl; rfl) ?_
  refine s_new (cs := [lv, vi 0]) fun sb w1 hats hk1 hsb hss => ?_
  have hs1 : SOk c w1 sb 10000 := ⟨lv, l, 0, hats, (hl.keep0 hk1).dom fun b hb => by have hb : b < w.heap.size := hb; omega, hr, by omega, by omega⟩
  refine (aPoint_spec E T (k := 9000) (hs1.less (by omega))).mono ?_
  rintro v39 w2 ⟨s, rfl, hs2, hk2⟩
  refine (pathList_spec E T (k := 8000) (m := 4) (by omega) (hs2.less (by omega))).mono ?_
  rintro lpv w3 ⟨ps, hpl, hps, hs3, hk3⟩
  have hk13 := hk2.trans hk3
  have hsz2 := hk2.size
  refine s_var rfl rfl rfl fun b4 w5 hat4 hk5 hb4 hs5 => ?_
  have hps5 := (hps.dom (D' := fun b => b ≠ sb ∧ w.heap.size ≤ b) fun b hb => by have hb : w2.heap.size ≤ b := hb; exact ⟨by omega, by omega⟩).keep0 hk5
  have hsz3 := hk3.size
  refine (anOrder_spec E T (k := 7000) hps5 (fun b hb => hb.1) (by omega) ((hs3.keep hk5).less (by omega))).mono ?_
  rintro ov w6 ⟨os, hol, hgo, hs6⟩
  have hps6 := hps5.keep hgo.keep fun b hb => hb.1
  refine hps6.len ?_
  refine (indices_spec E T (k := 6000) (n := ps.length) (by omega) (hs6.less (by omega))).mono ?_
  rintro kv w7 ⟨ks, hgk, hs7⟩
  have hsz6 := hgo.keep.size
  have hsz7 := hgk.keep.size
  have hps7 := hps6.keep hgk.keep fun b hb => hb.1
  have hos7 : Sl (fun b => b ≠ sb ∧ w.heap.size ≤ b) eV w7 ov os := (hgo.sl.dom (D' := fun b => b ≠ sb ∧ w.heap.size ≤ b) fun b hb => by have hb : w5.heap.size ≤ b := hb; exact ⟨by omega, by omega⟩).keep hgk.keep fun b hb => hb.1
  have hks7 : Sl (fun b => b ≠ sb ∧ w.heap.size ≤ b) eI w7 kv ks := hgk.sl.dom fun b hb => by have hb : w6.heap.size ≤ b := hb; exact ⟨by omega, by omega⟩
  have hat47 : At w7 b4 (eP s) c.t_api_Point := (hat4.keep hgo.keep (by omega)).keep hgk.keep (by omega)
  have hk_7 : Keep NoB w w7 := ((((hk1.new hk13 fun i hi => .inr (by omega)).trans hk5).new hgo.keep fun i hi => .inr (by omega)).new hgk.keep fun i hi => .inr (by omega))
  have hsw7 := hk_7.size
  have hsb7 : sb < w7.heap.size := hs7.lt
  -- from here on all stays, until the stream draws again
  refine s_ldAAt hat47 rfl ?_
  refine pt_lit T fun v50 w8 hv50 hk8 => ?_
  refine pf1_spec E hv50 fun w9 hk9 => ?_
  have hk79 := hk8.trans hk9
  refine (pathsFault1_spec E _ lpv ps w9 (hps7.keep0 hk79)).mono ?_
  rintro u w10 ⟨hk10, rfl⟩
  refine errno_lit T fun v54 w11 hv54 hk11 => ?_
  refine or2_spec E hv54 ?_
  rw [startF_or]
  have hk711 := (hk79.trans hk10).trans hk11
  generalize hfault : startF s (pathsF ps) = fault
  refine s_joinM (fun vs w' => vs = [vi (if fault ≠ 0 then fault else indF ps.length ks), vi (startF s (orderF ps os))] ∧ Keep NoB w11 w') ?_ ?_
  · refine s_held (fun w' => Keep NoB w11 w') ⟨keep_drew _ _, ?_⟩
    refine (hps7.keep0 hk711).len ?_
    refine s_ldAS (fun w' h => ((hat47.keep0 hk711).keep0 h).cells) rfl ?_
    have kps : ∀ w', Keep NoB w11 w' → SlP (fun b => b ≠ sb ∧ w.heap.size ≤ b) w' lpv ps := fun w' h => (hps7.keep0 hk711).keep0 h
    have kos : ∀ w', Keep NoB w11 w' → Sl (fun b => b ≠ sb ∧ w.heap.size ≤ b) eV w' ov os := fun w' h => (hos7.keep0 hk711).keep0 h
    have kks : ∀ w', Keep NoB w11 w' → Sl (fun b => b ≠ sb ∧ w.heap.size ≤ b) eI w' kv ks := fun w' h => (hks7.keep0 hk711).keep0 h
    have ind : ∀ (w' : World) {K : Value → World → Prop}, Keep NoB w11 w' → K (vi (indF ps.length ks)) w' → Ret c.P c.f_blref1_IndicesFault #[vi ps.length, kv] w' K := fun w' K h hK => by
      refine (indices1_spec E T _ ps.length kv ks w' (kks w' h) (by omega)).mono ?_
      rintro u w'' ⟨hw, rfl⟩
      obtain rfl := hw.symm
      exact hK
    have ord : ∀ (w' : World) {K : Value → World → Prop}, Keep NoB w11 w' → (∀ w'', Keep NoB w' w'' → K (vi (orderF ps os)) w'') → Ret c.P c.f_blref1_OrderFault #[lpv, ov] w' K := fun w' K h hK => by
      refine (orderFault_spec E T _ _ lpv ov ps os w' (kps w' h) (kos w' h)).mono ?_
      rintro u w'' ⟨hk, rfl⟩
      exact hK w'' hk
    -- the last three steps are alike
    have tail : ∀ (one : Int) (v : Value) (w' : World) (hv : ∃ w0, Sl (Fresh w0) eP w' v [s]), Keep NoB w11 w' →
        Ret c.P c.f_blref1_PointFault #[v] w' fun v65 w18 => Keep NoB w11 w18 ∧ Ret c.P c.f_blref1_OrderFault #[lpv, ov] w18 fun v68 w19 => Keep NoB w11 w19 ∧
          semP c.P (Instr.buildSlice c.t_sl_api_Errno 2 #[(0, v65), (1, v68)]) w19 fun v69 w20 => Keep NoB w11 w20 ∧ Ret c.P c.f_cmp_Or_api_Errno #[v69] w20 fun v70 w21 => Keep NoB w11 w21 ∧
            ([vi one, v70] = [vi one, vi (startF s (orderF ps os))] ∧ Keep NoB w11 w21) := fun one v w' hv h => by
      obtain ⟨w0, hv⟩ := hv
      refine pf1_spec E hv fun w18 hk18 => ⟨h.trans hk18, ord w18 (h.trans hk18) fun w19 hk19 => ⟨(h.trans hk18).trans hk19, ?_⟩⟩
      refine errno_lit T fun v69 w20 hv69 hk20 => ⟨((h.trans hk18).trans hk19).trans hk20, or2_spec E hv69 ?_⟩
      rw [startF_or]
      exact ⟨((h.trans hk18).trans hk19).trans hk20, rfl, ((h.trans hk18).trans hk19).trans hk20⟩
    constructor
    · refine ind _ (keep_drew _ _) ⟨keep_drew _ _, ?_⟩
      constructor
      · refine errno_lit T fun v61 w15 hv61 hk15 => ?_
        have hk15' : Keep NoB w11 w15 := (keep_drew _ _).trans hk15
        refine ⟨hk15', ?_, ?_⟩
        · refine or2_spec E hv61 ⟨hk15', pt_lit T fun v64 w17 hv64 hk17 => ⟨hk15'.trans hk17, tail _ v64 w17 ⟨_, hv64⟩ (hk15'.trans hk17)⟩⟩
        · refine pt_lit T fun v64 w22 hv64 hk22 => ⟨hk15'.trans hk22, or2_spec E (hv61.keep0 hk22) ⟨hk15'.trans hk22, tail _ v64 w22 ⟨_, hv64⟩ (hk15'.trans hk22)⟩⟩
      · refine pt_lit T fun v64 w28 hv64 hk28 => ?_
        have hk28' : Keep NoB w11 w28 := (keep_drew _ _).trans hk28
        refine ⟨hk28', errno_lit T fun v61 w29 hv61 hk29 => ⟨hk28'.trans hk29, or2_spec E hv61 ⟨hk28'.trans hk29, tail _ v64 w29 ⟨_, hv64.keep0 hk29⟩ (hk28'.trans hk29)⟩⟩⟩
    · refine pt_lit T fun v64 w35 hv64 hk35 => ?_
      have hk35' : Keep NoB w11 w35 := (keep_drew _ _).trans hk35
      refine ⟨hk35', ind _ hk35' ⟨hk35', errno_lit T fun v61 w37 hv61 hk37 => ⟨hk35'.trans hk37, or2_spec E hv61 ⟨hk35'.trans hk37, tail _ v64 w37 ⟨_, hv64.keep0 hk37⟩ (hk35'.trans hk37)⟩⟩⟩⟩
  rintro vs j w13 ⟨rfl, hk13'⟩
  generalize hone : (if fault ≠ 0 then fault else indF ps.length ks) = one
  generalize htwo : startF s (orderF ps os) = two
  have kk : Keep NoB w7 w13 := hk711.trans hk13'
  have hat13 := hat47.keep0 kk
  have hps13 := hps7.keep0 kk
  have hos13 := hos7.keep0 kk
  have hks13 := hks7.keep0 kk
  have hs13 := hs7.keep kk
  have hk_13 := hk_7.trans kk
  have hfok : fault = 0 → Nearby s ∧ Rights ps ∧ pathsF ps = 0 := fun h => by
    rw [← hfault] at h
    unfold startF at h
    by_cases hf : farPt s = true
    · rw [if_pos hf] at h; cases h
    · rw [if_neg hf] at h; exact ⟨near_of (by simpa using hf), rights_of h, h⟩
  -- the program's four answers
  refine s_ldAAt hat13 rfl ?_
  refine (best_spec E T hps13).mono ?_
  intro u w43 hgv
  rw [hfault, show (if fault ≠ 0 then fault else if 6 < ps.length then 2 else 0) = fault from by
    by_cases h : fault ≠ 0
    · rw [if_pos h]
    · rw [if_neg h, if_neg (by omega)]; omega] at hgv
  obtain ⟨hk43, v75, rfl, hv75⟩ := hgv.uni
  refine s_ex0 (s_ex1 (s_ex2 (s_ldAAt (hat13.keep0 hk43) rfl ?_)))
  refine (nearest_spec E T (hps13.keep0 hk43)).mono ?_
  intro u w44 hgv
  rw [hfault] at hgv
  obtain ⟨hk44, v82, rfl, hv82⟩ := hgv.uni
  have kk44 := hk43.trans hk44
  refine s_ex0 (s_ex1 (s_ex2 (s_ldAAt (hat13.keep0 kk44) rfl ?_)))
  refine (begun_spec E T (hps13.keep0 kk44) (hks13.keep0 kk44)).mono ?_
  intro u w45 hgv
  rw [hfault, hone] at hgv
  obtain ⟨hk45, v90, rfl, hv90⟩ := hgv.uni
  have kk45 := kk44.trans hk45
  refine s_ex0 (s_ex1 (s_ex2 (s_ldAAt (hat13.keep0 kk45) rfl ?_)))
  refine (improved_spec E T (hps13.keep0 kk45) (hos13.keep0 kk45)).mono ?_
  intro u w46 hgv
  rw [htwo] at hgv
  obtain ⟨hk46, v98, r98, hq98, rfl, hv98⟩ := hgv.uni
  have kk46 := kk45.trans hk46
  refine s_ex0 (s_ex1 (s_ex2 ?_))
  have hv75 := ((hv75.keep0 hk44).keep0 hk45).keep0 hk46
  have hv82 := (hv82.keep0 hk45).keep0 hk46
  have hv90 := hv90.keep0 hk46
  have hps46 := hps13.keep0 kk46
  have hat46 := hat13.keep0 kk46
  -- the reference's answers
  refine s_eql (s_joinM (fun vs w' => Keep NoB w46 w' ∧ ∃ v1 v2, vs = [v1, v2, vi (if fault = 0 then trav ps s (QB (allC ps) (2 ^ ps.length - 1) s) else 0), vi (if fault = 0 then trav ps s (nearN ps s ps.length) else 0)] ∧
      (∃ D1 : Nat → Prop, Sl D1 eV w' v1 (if fault = 0 then QB (allC ps) (2 ^ ps.length - 1) s else [])) ∧ ∃ D2 : Nat → Prop, Sl D2 eV w' v2 (if fault = 0 then nearN ps s ps.length else [])) ?_ ?_)
  · refine s_condD (fun h0 => ?_) fun h0 => ⟨Keep.refl _ _, _, _, by rw [if_neg h0, if_neg h0], ⟨fun _ => True, by rw [if_neg h0]; exact Sl.nil⟩, fun _ => True, by rw [if_neg h0]; exact Sl.nil⟩
    obtain ⟨hns, hR, _⟩ := hfok h0
    refine s_ldAAt hat46 rfl ?_
    refine (bestOf_spec E T (D := fun b => w.heap.size ≤ b) (hps46.dom fun b hb => hb.2) hR hns (fun i hi => by have := hk_13.size; have := kk46.size; omega)).mono ?_
    rintro u w48 ⟨hk48, bv, rfl, hbv⟩
    rw [bestS_eq hR (by omega) hns] at hbv ⊢
    refine s_ex0 (s_ex1 (s_ldAAt (hat46.keep0 hk48) rfl ?_))
    refine (nearestOf_spec E T (hps46.keep0 hk48) hR hns).mono ?_
    rintro u w49 ⟨hk49, nv, rfl, hnv⟩
    refine s_ex0 (s_ex1 ⟨hk48.trans hk49, bv, nv, by rw [if_pos h0, if_pos h0], ⟨_, by rw [if_pos h0]; exact hbv.keep0 hk49⟩, _, by rw [if_pos h0]; exact hnv⟩)
  rintro vs j1 w47 ⟨hk47, v1, v2, rfl, ⟨D1, hv1⟩, D2, hv2⟩
  have hone0 : one = 0 → fault = 0 ∧ indF ps.length ks = 0 := fun h => by
    rw [← hone] at h
    by_cases hf : fault ≠ 0
    · rw [if_pos hf] at h; exact absurd h hf
    · rw [if_neg hf] at h; exact ⟨by omega, h⟩
  have hps47 := hps46.keep0 hk47
  have hat47' := hat46.keep0 hk47
  refine s_eql (s_joinM (fun vs w' => Keep NoB w47 w' ∧ ∃ v3, vs = [v3, vi (if one = 0 then trav ps s (begN ps s (stgs ps ks) ps.length) else 0)] ∧ ∃ D3 : Nat → Prop, Sl D3 eV w' v3 (if one = 0 then begN ps s (stgs ps ks) ps.length else [])) ?_ ?_)
  · refine s_condD (fun h0 => ?_) fun h0 => ⟨Keep.refl _ _, _, by rw [if_neg h0], fun _ => True, by rw [if_neg h0]; exact Sl.nil⟩
    have h0 : one = 0 := h0
    obtain ⟨hf0, hi0⟩ := hone0 h0
    obtain ⟨hns, hR, _⟩ := hfok hf0
    obtain ⟨hkl, hkr⟩ := indF_ok hi0
    refine s_ldAAt hat47' rfl ?_
    refine (begunOf_spec E T (D := fun b => w.heap.size ≤ b) (hps47.dom fun b hb => hb.2) (((hks13.keep0 kk46).keep0 hk47).dom fun b hb => hb.2) hR hns hkl hkr (fun i hi => by have := hk_13.size; have := kk46.size; have := hk47.size; omega)).mono ?_
    rintro u w51 ⟨hk51, bv, rfl, hbv⟩
    rw [begunS_eq hR hkl hkr hns] at hbv ⊢
    exact s_ex0 (s_ex1 ⟨hk51, bv, by rw [if_pos h0], _, by rw [if_pos h0]; exact hbv⟩)
  rintro vs j2 w50 ⟨hk50, v3, rfl, D3, hv3⟩
  have hps50 := hps47.keep0 hk50
  have hat50 := hat47'.keep0 hk50
  refine s_eql (s_joinM (fun vs w' => Keep NoB w50 w' ∧ ∃ v4, vs = [v4, vi (if two = 0 then trav ps s r98 else 0)] ∧ ∃ D4 : Nat → Prop, Sl D4 eV w' v4 (if two = 0 then r98 else [])) ?_ ?_)
  · refine s_condD (fun h0 => ?_) fun h0 => ⟨Keep.refl _ _, _, by rw [if_neg h0], fun _ => True, by rw [if_neg h0]; exact Sl.nil⟩
    have h0 : two = 0 := h0
    have h0' := h0
    rw [← htwo] at h0'
    obtain ⟨hns, hof⟩ : Nearby s ∧ orderF ps os = 0 := by
      unfold startF at h0'
      by_cases hf : farPt s = true
      · rw [if_pos hf] at h0'; cases h0'
      · rw [if_neg hf] at h0'; exact ⟨near_of (by simpa using hf), h0'⟩
    obtain ⟨hR, hlen, hok⟩ := orderF_ok hof
    refine s_ldAAt hat50 rfl ?_
    refine (improvedOf_spec E T hps50 (((hos13.keep0 kk46).keep0 hk47).keep0 hk50) hR hns hok (by omega)).mono ?_
    rintro u w53 ⟨hk53, bv, r, hir, rfl, hbv⟩
    have : r = r98 := hir.eq (hq98 h0)
    subst this
    exact s_ex0 (s_ex1 ⟨hk53, bv, by rw [if_pos h0], _, by rw [if_pos h0]; exact hbv⟩)
  rintro vs j3 w52 ⟨hk52, v4, rfl, D4, hv4⟩
  have k4752 := (hk47.trans hk50).trans hk52
  have eqv : ∀ {Da Db : Nat → Prop} {av bv : Value} {a : List Vis} {w' : World} {K A : World → Prop}, Sl Da eV w' av a → Sl Db eV w' bv a → (∀ w'', Keep NoB w' w'' → K w'') →
      Ret c.P c.f_slices_Equal_sl_api_Visit_api_Visit #[av, bv] w' fun v w'' => notP v fun v => guardP v false (K w'') (A w'') := fun ha hb hK => by
    refine (equalV_spec E T _ _ _ _ _ _ _ ha hb).mono ?_
    rintro u w'' ⟨hk, r, rfl, hr⟩
    have : r = true := hr.2 rfl
    subst this
    exact s_not (s_guardF (fun _ => hK w'' hk) fun h => by cases h)
  have neq : ∀ {a : Int} {A B : Prop}, A → binP .neq (vi a) (vi a) fun v => guardP v false A B := fun hA => s_neq (s_guardF (fun _ => hA) fun h => by simp at h)
  refine s_joinM (fun vs w' => vs = [.bool false] ∧ Keep NoB w52 w') ?_ ?_
  · refine neq (eqv (hv75.keep0 k4752) ((hv1.keep0 hk50).keep0 hk52) fun w55 hk55 => neq (neq (eqv ((hv82.keep0 k4752).keep0 hk55) (((hv2.keep0 hk50).keep0 hk52).keep0 hk55) fun w56 hk56 => neq (neq (eqv ((((hv90.keep0 k4752).keep0 hk55).keep0 hk56)) (((hv3.keep0 hk52).keep0 hk55).keep0 hk56) fun w57 hk57 =>
      neq (neq (eqv ((((hv98.keep0 k4752).keep0 hk55).keep0 hk56).keep0 hk57) (((hv4.keep0 hk55).keep0 hk56).keep0 hk57) fun w58 hk58 => s_neq ⟨by simp [g], ((hk55.trans hk56).trans hk57).trans hk58⟩)))))))
  rintro vs j4 w54 ⟨rfl, hk54⟩
  refine s_condF rfl ?_
  have kk54 : Keep NoB w13 w54 := (kk46.trans k4752).trans hk54
  refine (flip_spec E sb 5000 10 w54 (by omega) ((hs13.keep kk54).less (by omega))).mono ?_
  rintro v w59 ⟨r, rfl, hs59, hk59⟩
  have hk_59 : Keep NoB w w59 := (hk_13.trans kk54).new hk59 fun i hi => .inr (by omega)
  have fin : ∀ w60, Keep NoB w59 w60 → Ret c.P c.f_bllaw1_pathed #[] w60 fun v211 w65 => v211 = .bool true ∧ Keep NoB w w65 := fun w60 hk60 => by
    refine (pathed_spec E T w60).mono ?_
    rintro u w65 ⟨hu, hk65⟩
    exact ⟨hu, (hk_59.trans hk60).trans hk65⟩
  refine s_join (s_cond (fun _ => ?_) fun _ => ?_)
  · refine s_build T.st_point (cells := eP ⟨1, 0⟩) rfl (pt_lit T fun v198 w61 hv198 hk61 => ?_)
    refine s_build T.st_path (cells := [v198, .bool false]) (by obtain ⟨a, cap, rfl, _⟩ := hv198; rfl) ?_
    refine s_bslice T.sl_path [.agg #[v198, .bool false]] rfl rfl (fun v hv => by simp at hv; subst hv; rfl) (by omega) fun b2 w62 hat62 hk62 hb2 hs2 => ?_
    refine (repeat7_spec E T (p := ⟨[⟨1, 0⟩], false⟩) hat62 ((hv198.keep0 hk62).dom fun _ _ => trivial)).mono ?_
    rintro u w63 ⟨hk63, hsl63⟩
    refine s_build T.st_point (cells := eP ⟨0, 0⟩) rfl ?_
    refine (best_spec E T (s := ⟨0, 0⟩) hsl63).mono ?_
    rintro u w64 ⟨hk64, h2, _⟩
    have hf2 : (if startF ⟨0, 0⟩ (pathsF (List.replicate 7 ⟨[⟨1, 0⟩], false⟩)) ≠ 0 then startF ⟨0, 0⟩ (pathsF (List.replicate 7 ⟨[⟨1, 0⟩], false⟩)) else if 6 < (List.replicate 7 (⟨[⟨1, 0⟩], false⟩ : Pth)).length then (2 : Int) else 0) = 2 := by decide
    rw [hf2] at h2
    rw [h2 (by decide)]
    refine s_ex0 (s_ex1 (s_ex2 (s_neq (s_condF (by simp) ?_))))
    intro j5
    exact (fin w64 (((hk61.trans hk62).trans hk63).trans hk64)).mono fun v w h => h
  · intro j5
    exact (fin w59 (Keep.refl _ _)).mono fun v w h => h
end Go.Eng

