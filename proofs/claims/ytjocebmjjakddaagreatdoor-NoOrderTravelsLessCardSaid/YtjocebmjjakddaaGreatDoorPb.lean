/- Part of a proof: the law NoOrderTravelsLess gives true for every list of integers and leaves its argument as it was; there are no conditions beyond those that the given row states. -/
import Derived.Test.YtjocebmjjakddaaGreatDoorPa
import Derived.Test.YtjocebmjjakddaaGreatDoorLib
import Derived.Test.YtjocebmjjakddaaGreatDoorSc
set_option linter.unusedVariables false
set_option linter.unusedSimpArgs false
/-! Plain facts: the least way through stages. -/
namespace Go.Eng
open Go

/-- how far it is at least through all stages -/
def rest (ps : List Pth) : List (List Vis) → Pt → Int
  | [], _ => 0
  | ws :: r, a => least0 (fun v => dist a (frm ps v) + rest ps r (tov ps v)) (ws.foldl (nst fun v => dist a (frm ps v) + rest ps r (tov ps v)) none)

def StOk (ps : List Pth) (st : List (List Vis)) : Prop := ∀ ws ∈ st, ws ≠ [] ∧ ∀ v ∈ ws, VOk ps v

theorem rest_bound {ps : List Pth} (hR : Rights ps) : ∀ (st : List (List Vis)) (a : Pt), StOk ps st → Nearby a → 0 ≤ rest ps st a ∧ rest ps st a ≤ 200000 * st.length
  | [], a, _, _ => by simp [rest]
  | ws :: r, a, hok, ha => by
    obtain ⟨hne, hv⟩ := hok ws (List.mem_cons_self ..)
    obtain ⟨u, hu, hm⟩ := pick_some (f := fun v => dist a (frm ps v) + rest ps r (tov ps v)) hne
    have hn := near_ends hR (hv u hm)
    have h1 := rest_bound hR r (tov ps u) (fun w hw => hok w (List.mem_cons_of_mem _ hw)) hn.2
    have h2 := dist_bound ha hn.1
    simp only [rest, hu, least0, List.length_cons]
    omega

def stgs (ps : List Pth) (order : List Int) : List (List Vis) := order.map fun i => waysL (pAt ps i) i
theorem stgs_ok {ps : List Pth} (hR : Rights ps) {order : List Int} (h : ∀ i ∈ order, 0 ≤ i ∧ i < ps.length) : StOk ps (stgs ps order) := fun ws hw => by
  obtain ⟨i, hi, rfl⟩ := List.mem_map.1 hw
  obtain ⟨h0, h1⟩ := h i hi
  refine ⟨fun hh => ?_, fun v hv => (ways_ok hR h0 h1 hv).1⟩
  obtain ⟨q, rfl⟩ := Int.eq_ofNat_of_zero_le h0
  obtain ⟨p, hp⟩ := idx_of_lt (show q < ps.length by omega)
  have := ways_ne (p := p) (i := q) (hR.ne p (List.mem_of_getElem? hp))
  rw [pAt_get hp] at hh
  rw [hh] at this; simp at this

theorem indF_ok {n : Nat} {l : List Int} (h : indF n l = 0) : l.length = n ∧ ∀ i ∈ l, 0 ≤ i ∧ i < n := by
  unfold indF at h
  by_cases h1 : l.length ≠ n
  · rw [if_pos h1] at h; cases h
  rw [if_neg h1] at h
  refine ⟨by omega, fun x hx => ?_⟩
  obtain ⟨i, hi⟩ := List.getElem?_of_mem hx
  have hil := lt_of_idx hi
  have hall : ∀ j, j < l.length → indAt n l j = 0 := by
    intro j hj
    by_cases hh : ∃ i, i < l.length ∧ indAt n l i ≠ 0
    · obtain ⟨q, ⟨hq1, hq2⟩, hmin⟩ := least hh
      have h0 : ∀ j, j < q → indAt n l j = 0 := fun j hj => by
        by_cases hne : indAt n l j = 0
        · exact hne
        · exact absurd (hmin j ⟨by omega, hne⟩) (by omega)
      rw [fnz_at h0 hq1 hq2] at h
      exact absurd h hq2
    · by_cases hne : indAt n l j = 0
      · exact hne
      · exact absurd ⟨j, hj, hne⟩ hh
  have := hall i hil
  simp only [indAt, hi] at this
  by_cases c1 : 0 ≤ x ∧ x < n
  · exact c1
  · rw [if_neg c1] at this; cases this

/-- so many visits, one of each stage -/
def begN (ps : List Pth) (s : Pt) (st : List (List Vis)) : Nat → List Vis
  | 0 => []
  | k + 1 => begN ps s st k ++ [(((st.getD k []).foldl (nst fun v => dist (lastPt ps s (begN ps s st k)) (frm ps v) + rest ps (st.drop (k + 1)) (tov ps v)) none).getD v0)]

theorem begN_facts {ps : List Pth} (s : Pt) {st : List (List Vis)} (hok : StOk ps st) : ∀ k, k ≤ st.length → (begN ps s st k).length = k ∧ ∀ v ∈ begN ps s st k, VOk ps v
  | 0, _ => ⟨rfl, by simp [begN]⟩
  | k + 1, hk => by
    obtain ⟨h1, h2⟩ := begN_facts s hok k (by omega)
    have hg := getD_get (l := st) (i := k) (d := []) (by omega)
    obtain ⟨hne, hv⟩ := hok _ (List.mem_of_getElem? hg)
    obtain ⟨u, hu, hm⟩ := pick_some (f := fun v => dist (lastPt ps s (begN ps s st k)) (frm ps v) + rest ps (st.drop (k + 1)) (tov ps v)) hne
    simp only [begN, hu, Option.getD_some]
    refine ⟨by simp [h1], fun v hm' => ?_⟩
    rcases List.mem_append.1 hm' with h | h
    · exact h2 v h
    · simp at h; rw [h]; exact hv u hm
end Go.Eng

/-! Plain facts: the least way through a set. -/
namespace Go.Eng
open Go

def bitOf (set : Nat) (x : Cho) : Bool := set.testBit x.v.path.toNat
/-- how far it is at least through a set; so much fuel -/
def restB (all : List Cho) : Nat → Nat → Pt → Int
  | 0, _, _ => 0
  | f + 1, set, a => least0 (fun x => dist a x.a + restB all f (clr set x.v.path.toNat) x.b) ((all.filter (bitOf set)).foldl (nst fun x => dist a x.a + restB all f (clr set x.v.path.toNat) x.b) none)
def RB (all : List Cho) (set : Nat) (a : Pt) : Int := restB all set set a

theorem filter0 (all : List Cho) : all.filter (bitOf 0) = [] := by
  rw [List.filter_eq_nil_iff]; intro x _; simp [bitOf]

theorem least0_congr {α : Type} {f g : α → Int} {l : List α} (h : ∀ a ∈ l, f a = g a) : least0 f (l.foldl (nst f) none) = least0 g (l.foldl (nst g) none) := by
  rw [nst_congr l none h (fun u hu => by cases hu)]
  cases hh : l.foldl (nst g) none with
  | none => rfl
  | some u =>
    have : u ∈ l := by
      rcases nst_mem _ _ _ hh with h | h
      · exact h
      · cases h
    exact h u this

theorem restB_fuel (all : List Cho) : ∀ (n : Nat) (set : Nat) (f f' : Nat) (a : Pt), set ≤ n → set < 4611686018427387904 → set ≤ f → set ≤ f' → restB all f set a = restB all f' set a := by
  intro n
  induction n with
  | zero =>
    intro set f f' a h _ _ _
    obtain rfl : set = 0 := by omega
    have h0 : ∀ f, restB all f 0 a = 0 := fun f => by
      cases f with
      | zero => rfl
      | succ f => rw [restB, filter0]; rfl
    rw [h0, h0]
  | succ n ih =>
    intro set f f' a h hs hf hf'
    cases f with
    | zero =>
      obtain rfl : set = 0 := by omega
      cases f' with
      | zero => rfl
      | succ f' => rw [restB, restB, filter0]; rfl
    | succ f =>
      cases f' with
      | zero =>
        obtain rfl : set = 0 := by omega
        rw [restB, restB, filter0]; rfl
      | succ f' =>
        rw [restB, restB]
        refine least0_congr fun x hx => ?_
        have hb := (List.mem_filter.1 hx).2
        have hlt := clr_lt hs hb
        rw [ih (clr set x.v.path.toNat) f f' x.b (by omega) (by omega) (by omega) (by omega)]

theorem RB_eq (all : List Cho) {set : Nat} (hs : set < 4611686018427387904) (a : Pt) :
    RB all set a = least0 (fun x => dist a x.a + RB all (clr set x.v.path.toNat) x.b) ((all.filter (bitOf set)).foldl (nst fun x => dist a x.a + RB all (clr set x.v.path.toNat) x.b) none) := by
  unfold RB
  cases set with
  | zero => rw [filter0]; rfl
  | succ n =>
    rw [restB]
    refine least0_congr fun x hx => ?_
    have hb := (List.mem_filter.1 hx).2
    have hlt := clr_lt hs hb
    rw [restB_fuel all n (clr (n + 1) x.v.path.toNat) n _ x.b (by omega) (by omega) (by omega) (Nat.le_refl _)]

/-- the first least order of a set -/
def seqB (all : List Cho) : Nat → Nat → Pt → List Vis
  | 0, _, _ => []
  | f + 1, set, a => match (all.filter (bitOf set)).foldl (nst fun x => dist a x.a + RB all (clr set x.v.path.toNat) x.b) none with
    | none => []
    | some x => x.v :: seqB all f (clr set x.v.path.toNat) x.b
def QB (all : List Cho) (set : Nat) (a : Pt) : List Vis := seqB all set set a

theorem seqB_fuel (all : List Cho) : ∀ (n : Nat) (set : Nat) (f f' : Nat) (a : Pt), set ≤ n → set < 4611686018427387904 → set ≤ f → set ≤ f' → seqB all f set a = seqB all f' set a := by
  intro n
  induction n with
  | zero =>
    intro set f f' a h _ _ _
    obtain rfl : set = 0 := by omega
    have h0 : ∀ f, seqB all f 0 a = [] := fun f => by
      cases f with
      | zero => rfl
      | succ f => rw [seqB, filter0]; rfl
    rw [h0, h0]
  | succ n ih =>
    intro set f f' a h hs hf hf'
    cases f with
    | zero =>
      obtain rfl : set = 0 := by omega
      cases f' with
      | zero => rfl
      | succ f' => rw [seqB, seqB, filter0]; rfl
    | succ f =>
      cases f' with
      | zero =>
        obtain rfl : set = 0 := by omega
        rw [seqB, seqB, filter0]; rfl
      | succ f' =>
        rw [seqB, seqB]
        cases hh : (all.filter (bitOf set)).foldl (nst fun x => dist a x.a + RB all (clr set x.v.path.toNat) x.b) none with
        | none => rfl
        | some x =>
          have hx : x ∈ all.filter (bitOf set) := by
            rcases nst_mem _ _ _ hh with h | h
            · exact h
            · cases h
          have hlt := clr_lt hs (List.mem_filter.1 hx).2
          simp only
          rw [ih (clr set x.v.path.toNat) f f' x.b (by omega) (by omega) (by omega) (by omega)]
theorem QB_some (all : List Cho) {set : Nat} (hs : set < 4611686018427387904) (a : Pt) {x : Cho} (h : (all.filter (bitOf set)).foldl (nst fun x => dist a x.a + RB all (clr set x.v.path.toNat) x.b) none = some x) :
    QB all set a = x.v :: QB all (clr set x.v.path.toNat) x.b := by
  have hx : x ∈ all.filter (bitOf set) := by
    rcases nst_mem _ _ _ h with h | h
    · exact h
    · cases h
  have hlt := clr_lt hs (List.mem_filter.1 hx).2
  unfold QB
  cases set with
  | zero => rw [filter0] at hx; simp at hx
  | succ n =>
    rw [seqB, h]
    simp only
    rw [seqB_fuel all n (clr (n + 1) x.v.path.toNat) n _ x.b (by omega) (by omega) (by omega) (Nat.le_refl _)]
theorem QB_zero (all : List Cho) (a : Pt) : QB all 0 a = [] := rfl

/-- right choices -/
def AllOk (ps : List Pth) (all : List Cho) : Prop := ∀ x ∈ all, x = cho ps x.v ∧ VOk ps x.v
theorem RB_bound {ps : List Pth} (hR : Rights ps) {all : List Cho} (hA : AllOk ps all) : ∀ (n set : Nat) (a : Pt), set ≤ n → set < 4611686018427387904 → Nearby a → 0 ≤ RB all set a ∧ RB all set a ≤ 200000 * set := by
  intro n
  induction n with
  | zero =>
    intro set a h _ _
    obtain rfl : set = 0 := by omega
    simp [RB, restB]
  | succ n ih =>
    intro set a h hs ha
    rw [RB_eq all hs]
    cases hh : (all.filter (bitOf set)).foldl (nst fun x => dist a x.a + RB all (clr set x.v.path.toNat) x.b) none with
    | none => simp only [least0]; omega
    | some x =>
      have hx : x ∈ all.filter (bitOf set) := by
        rcases nst_mem _ _ _ hh with h | h
        · exact h
        · cases h
      obtain ⟨hxa, hxb⟩ := List.mem_filter.1 hx
      have hlt := clr_lt hs hxb
      obtain ⟨hxe, hxo⟩ := hA x hxa
      have hn := near_ends hR hxo
      have ha1 : Nearby x.a := by rw [hxe]; exact hn.1
      have hb1 : Nearby x.b := by rw [hxe]; exact hn.2
      have h1 := ih (clr set x.v.path.toNat) x.b (by omega) (by omega) hb1
      have h2 := dist_bound ha ha1
      simp only [least0]
      omega
end Go.Eng

/-! Contracts: the nearest way, orders that are begun. -/
namespace Go.Eng
open Go
variable {c : Cfg}

def whichOf (b : Option Nat) : Int := match b with
  | none => -1
  | some k => k
theorem s_buildWay (T : Ty c) (a b : Int) {k : Value → Prop} (h : k (.agg #[vi a, vi b])) : pureP c.P (Instr.build c.t_path_way #[(0, vi a), (1, vi b)]) k :=
  s_build T.st_way (cells := [vi a, vi b]) rfl h

theorem nearestWay_spec (E : Eqs c) (T : Ty c) {D D' : Nat → Prop} {lv mv : Value} {l : List Cho} {m : List Int} {a : Pt} {w : World} (hl : Sl D eC w lv l) (hm : Sl D' eI w mv m) (hlen : m.length = l.length) (ha : Nearby a)
    (hn : ∀ x ∈ l, Nearby x.a) (hb : ∀ x ∈ m, 0 ≤ x ∧ x ≤ 1000000000000) :
    Ret c.P c.f_path_nearest #[.agg (eP a).toArray, lv, mv] w fun u w' => Keep NoB w w' ∧
      u = .agg #[vi (whichOf ((List.range l.length).foldl (nst fun k => dist a (l.getD k cho0).a + m.getD k 0) none)), vi (least0 (fun k => dist a (l.getD k cho0).a + m.getD k 0) ((List.range l.length).foldl (nst fun k => dist a (l.getD k cho0).a + m.getD k 0) none))] := by
  have hl := hl.lt
  have hm := hm.lt
  apply E.path_nearest
  unfold wp_path_nearest
  generalize hF : (fun k => dist a (l.getD k cho0).a + m.getD k 0) = F
  have hFk : ∀ k, F k = dist a (l.getD k cho0).a + m.getD k 0 := fun k => by rw [← hF]
  refine s_new (cs := eP a) fun b3 w1 hat3 hk1 hb3 hs3 => ?_
  refine s_new (cs := [vi 0, vi 0]) fun b6 w2 hat6 hk2 hb6 hs6 => ?_
  refine s_buildWay T (-1) 0 ?_
  refine s_var (vs := [vi (-1), vi 0]) rfl rfl rfl fun b7 w4 hat7 hk4 hb7 hs7 => ?_
  have hk04 := (hk1.trans hk2).trans hk4
  have hat3 := (hat3.keep0 hk2).keep0 hk4
  have hat6 := hat6.keep0 hk4
  have hsz1 := hk1.size
  have hlb := hl.bound
  refine (hl.keep0 hk04).len ?_
  refine s_range l.length (fun i w' => Keep NoB w w' ∧ w4.heap.size ≤ w'.heap.size ∧ At w' b3 (eP a) c.t_api_Point ∧ At w' b6 [vi 0, vi 0] c.t_path_way ∧
      At w' b7 [vi (whichOf ((List.range i).foldl (nst F) none)), vi (least0 F ((List.range i).foldl (nst F) none))] c.t_path_way) ⟨hk04, Nat.le_refl _, hat3, hat6, hat7⟩ ?_
  rintro i w5 j nx ⟨hk5, hsz5, hat3, hat6, hat7⟩ hin hnx
  have hl5 := hl.keep0 hk5
  have hm5 := hm.keep0 hk5
  refine s_lss (s_condD (fun hlt => ?_) fun hge => ?_)
  rotate_left
  · obtain rfl : i = l.length := by omega
    refine s_ldAAt hat7 rfl ?_
    refine s_stA (vs := [vi (whichOf ((List.range l.length).foldl (nst F) none)), vi (least0 F ((List.range l.length).foldl (nst F) none))]) hat6 rfl rfl rfl fun w13 hat6 hk13 _ => ?_
    refine s_ldAAt hat6 rfl ⟨hk5.new hk13 fun i hi => .inr (by omega), rfl⟩
  have hil := ofInt_lt hlt
  obtain ⟨x, hx⟩ := idx_of_lt hil
  obtain ⟨y, hy⟩ := idx_of_lt (show i < m.length by omega)
  have hxn := hn x (List.mem_of_getElem? hx)
  have hyb := hb y (List.mem_of_getElem? hy)
  have hFi : F i = dist a x.a + y := by rw [hFk, List.getD, List.getD, hx, hy]; rfl
  have hdb := dist_bound ha hxn
  refine s_join (hl5.idx (sz := 7) eC_len hx fun b o _ _ hc => s_ldA hc rfl ?_)
  refine s_var rfl rfl rfl fun b9 w8 hat9 hk8 hb9 hs9 => ?_
  have hat3 := hat3.keep0 hk8
  have hat6 := hat6.keep0 hk8
  have hat7 := hat7.keep0 hk8
  have hk_8 := hk5.trans hk8
  have hm8 := hm5.keep0 hk8
  have hsz8 := hk8.size
  refine s_held (fun w' => Keep NoB w8 w') ⟨keep_drew _ _, ?_⟩
  refine s_ldAS (fun w' h => (hat3.keep0 h).cells) rfl ?_
  refine s_off (s_ldAS (fun w' h => cho_a (hat9.keep0 h)) rfl ?_)
  refine hm8.idx (sz := 1) eI_len hy fun b o _ _ hc => s_ldS (fun w' h => (hc.keep0 h) 0 _ rfl) ?_
  refine (distance_spec E _ _ w8.drew ha hxn).mono ?_
  rintro u w9 ⟨hk9, rfl⟩
  have hk9' : Keep NoB w8 w9 := (keep_drew _ _).trans hk9
  refine ⟨hk9', s_add (by omega) (by omega) ?_⟩
  have hat3 := hat3.keep0 hk9'
  have hat6 := hat6.keep0 hk9'
  have hat7 := hat7.keep0 hk9'
  have hk_9 := hk_8.trans hk9'
  have hsz9 := hk9'.size
  have hr1 : (List.range (i + 1)).foldl (nst F) none = nst F ((List.range i).foldl (nst F) none) i := by rw [List.range_succ, List.foldl_append]; rfl
  generalize hst : (List.range i).foldl (nst F) none = st at *
  have hgo : ∀ w', Keep (· = b7) w9 w' → At w' b7 [vi (whichOf (nst F st i)), vi (least0 F (nst F st i))] c.t_path_way → binP .add (vi i) (vi 1) fun v40 => nx [v40] w' := fun w' hk' ha' => by
    refine s_add (by omega) (by omega) (hnx w' hil ⟨hk_9.new hk' fun i hi => .inr (by omega), by have := hk'.size; omega, hat3.keep hk' (by omega), hat6.keep hk' (by omega), ?_⟩)
    rw [hr1]; exact ha'
  have htake : nst F st i = some i → pureP c.P (Instr.build c.t_path_way #[(0, vi i), (1, vi (dist a x.a + y))]) fun v39 => stA 2 (pb b7 0) v39 w9 fun w12 => binP .add (vi i) (vi 1) fun v40 => nx [v40] w12 := fun hn => by
    refine s_buildWay T _ _ ?_
    refine s_stA (vs := [vi i, vi (dist a x.a + y)]) hat7 rfl rfl rfl fun w12 ha' hk' _ => hgo w12 hk' ?_
    rw [hn]
    show At w12 b7 [vi (i : Int), vi (F i)] _
    rw [hFi]; exact ha'
  refine s_join (s_off (s_ldAt hat7 rfl (s_lss (s_guardF (fun h => ?_) fun h => ?_))))
  · have h0 : ¬ whichOf st < 0 := by simpa using h
    cases st with
    | none => simp [whichOf] at h0
    | some u0 =>
    refine s_off (s_ldAt hat7 rfl (s_lss ?_))
    intro j1
    refine s_join (s_condD (fun h1 => ?_) fun h1 => ?_)
    · have hn : nst F (some u0) i = some i := by
        have h1 : dist a x.a + y < F u0 := h1
        rw [← hFi] at h1
        simp [nst, h1]
      have := htake hn
      revert this
      intro this
      exact pureP_mono this fun v h => stA_mono h fun w' h j2 j3 => h
    · have hn : nst F (some u0) i = some u0 := by
        have h1 : ¬ dist a x.a + y < F u0 := h1
        rw [← hFi] at h1
        simp [nst, h1]
      intro j2 j3
      exact hgo w9 (Keep.refl _ _) (by rw [hn]; exact hat7)
  · have h0 : whichOf st < 0 := by simpa using h
    cases st with
    | some u0 =>
      have h0 : (u0 : Int) < 0 := h0
      omega
    | none =>
    intro j1
    refine s_join (s_condT rfl ?_)
    exact pureP_mono (htake rfl) fun v h => stA_mono h fun w' h j2 j3 => h

end Go.Eng

/-! Contract: orders that are begun, by the program. -/
namespace Go.Eng
open Go
variable {c : Cfg}

/-- a least way by its index -/
theorem way_eq (ps : List Pth) (a : Pt) (ws : List Vis) (g : Vis → Int) :
    ((List.range (ws.map (cho ps)).length).foldl (nst fun k => dist a ((ws.map (cho ps)).getD k cho0).a + (ws.map g).getD k 0) none).map (fun k => ws.getD k v0) = ws.foldl (nst fun v => dist a (frm ps v) + g v) none ∧
    least0 (fun k => dist a ((ws.map (cho ps)).getD k cho0).a + (ws.map g).getD k 0) ((List.range (ws.map (cho ps)).length).foldl (nst fun k => dist a ((ws.map (cho ps)).getD k cho0).a + (ws.map g).getD k 0) none) =
      least0 (fun v => dist a (frm ps v) + g v) (ws.foldl (nst fun v => dist a (frm ps v) + g v) none) := by
  have hk : ∀ k ∈ List.range ws.length, dist a ((ws.map (cho ps)).getD k cho0).a + (ws.map g).getD k 0 = dist a (frm ps (ws.getD k v0)) + g (ws.getD k v0) := fun k hk => by
    rw [List.mem_range] at hk
    have hg := getD_get (l := ws) (i := k) (d := v0) hk
    generalize ws.getD k v0 = x at *
    rw [List.getD, List.getD, List.getElem?_map, List.getElem?_map, hg]; rfl
  have h1 := nst_range ws v0 (fun v => dist a (frm ps v) + g v) (fun _ => true)
  rw [List.filter_eq_self.2 (fun _ _ => rfl), List.filter_eq_self.2 (fun _ _ => rfl)] at h1
  rw [List.length_map]
  have h2 := nst_congr (List.range ws.length) none hk (fun u hu => by cases hu)
  rw [h2, h1]
  refine ⟨rfl, ?_⟩
  cases hf : (List.range ws.length).foldl (nst fun k => dist a (frm ps (ws.getD k v0)) + g (ws.getD k v0)) none with
  | none => rfl
  | some k =>
    have hm : k ∈ List.range ws.length := by
      rcases nst_mem _ _ _ hf with h | h
      · exact h
      · cases h
    exact hk k hm

theorem begun_spec (E : Eqs c) (T : Ty c) {D D' : Nat → Prop} {lv kv : Value} {ps : List Pth} {order : List Int} {s : Pt} {w : World} (hl : SlP D w lv ps) (ho : Sl D' eI w kv order) :
    Ret c.P c.f_path_Begun #[.agg (eP s).toArray, lv, kv] w fun u w' =>
      Gives w (if startF s (pathsF ps) ≠ 0 then startF s (pathsF ps) else indF ps.length order) (begN ps s (stgs ps order) ps.length) (trav ps s (begN ps s (stgs ps order) ps.length)) u w' := by
  have hl := hl.lt
  have ho := ho.lt
  obtain ⟨eA, hTA⟩ := T.ssl_choice
  obtain ⟨eB, hTB⟩ := T.ssl_int
  apply E.path_Begun
  unfold wp_path_Begun
  refine s_new (cs := eP s) fun b3 w1 hat3 hk1 hb3 hs3 => ?_
  refine s_ldAAt hat3 rfl ?_
  refine (startPaths_spec E _ s lv ps w1 (hl.keep0 hk1)).mono ?_
  rintro u w2 ⟨hk2, rfl⟩
  have hk02 := hk1.trans hk2
  refine s_neq (s_condD (fun h => ?_) fun h => ?_)
  · rw [if_pos h]; exact ⟨hk02, fun _ => rfl, fun h' => absurd h' h⟩
  rw [if_neg h]
  have h : startF s (pathsF ps) = 0 := by omega
  obtain ⟨hs, hR⟩ : Nearby s ∧ Rights ps := by
    unfold startF at h
    by_cases hf : farPt s = true
    · rw [if_pos hf] at h; cases h
    · rw [if_neg hf] at h; exact ⟨near_of (by simpa using hf), rights_of h⟩
  have hRl := hR.len
  refine (hl.keep0 hk02).len ?_
  refine (indices2_spec E T _ ps.length kv order w2 (ho.keep0 hk02) (by omega)).mono ?_
  rintro u w3 ⟨hk3, rfl⟩
  have hk03 := hk02.trans hk3
  refine s_neq (s_condD (fun h => ⟨hk03, fun _ => rfl, fun h' => absurd h' h⟩) fun h => ?_)
  have h : indF ps.length order = 0 := by omega
  obtain ⟨hlen, hrange⟩ := indF_ok h
  have ho3 := ho.keep0 hk03
  have hat3 := (hat3.keep0 hk2).keep0 hk3
  have hsz3 := hk03.size
  have hb3lt : b3 < w3.heap.size := by have := (hk2.trans hk3).size; omega
  have hok := stgs_ok hR hrange
  have hstl : (stgs ps order).length = ps.length := by unfold stgs; rw [List.length_map, hlen]
  generalize hst : stgs ps order = sg at *
  have hstg : ∀ (i : Nat) (x : Int), order[i]? = some x → sg[i]? = some (waysL (pAt ps x) x) := fun i x hx => by rw [← hst, stgs, List.getElem?_map, hx]; rfl
  refine ho3.len (s_mkslice hTA (by omega) fun bl w4 hatl hk4 hbl hsl => ?_)
  refine (ho3.keep0 hk4).len (s_add (by omega) (by omega) ?_)
  rw [show ((order.length : Int) + 1) = ((order.length + 1 : Nat) : Int) from by omega]
  refine s_mkslice hTB (by omega) fun br w5 hatr hk5 hbr hsr => ?_
  rw [rep_flat] at hatl hatr
  have hatl := hatl.keep0 hk5
  have hat3 := (hat3.keep0 hk4).keep0 hk5
  have hk05 := (hk03.trans hk4).trans hk5
  have hsz4 := hk4.size
  refine (ho.keep0 hk05).len (s_sub (by omega) (by omega) ?_)
  generalize hn : order.length = n at *
  let DD : Nat → Prop := fun b => b ≠ bl ∧ b ≠ br
  let gi : Nat → Vis → Int := fun i v => rest ps (sg.drop (i + 1)) (tov ps v)
  have hgi : ∀ i, i < n → ∀ v, VOk ps v → 0 ≤ gi i v ∧ gi i v ≤ 200000 * n := fun i hi v hv => by
    have := rest_bound hR (sg.drop (i + 1)) (tov ps v) (fun ws hw => hok ws (List.mem_of_mem_drop hw)) (near_ends hR hv).2
    rw [List.length_drop] at this
    show 0 ≤ rest ps (sg.drop (i + 1)) (tov ps v) ∧ rest ps (sg.drop (i + 1)) (tov ps v) ≤ 200000 * n
    exact ⟨this.1, by omega⟩
  have hchn : ∀ x : Int, 0 ≤ x → x < ps.length → ∀ y ∈ choL ps x, Nearby y.a := fun x h0 h1 y hy => by
    obtain ⟨v, hv, rfl⟩ := List.mem_map.1 hy
    exact (near_ends hR (ways_ok hR h0 h1 hv).1).1
  -- the first loop: from behind, what is left behind each choice
  refine s_while (σ := Nat) (fun i' => [vi ((i' : Int) - 1)]) (fun i' w' => i' ≤ n ∧ Keep NoB w w' ∧ w5.heap.size ≤ w'.heap.size ∧ At w' b3 (eP s) c.t_api_Point ∧ ∃ Ls Rs, At w' bl Ls eA ∧ At w' br Rs eB ∧ Ls.length = n ∧ Rs.length = n + 1 ∧
      (∀ j x lv', i' ≤ j → order[j]? = some x → Ls[j]? = some lv' → Sl DD eC w' lv' (choL ps x)) ∧
      (∀ j x rv, i' ≤ j → order[j]? = some x → Rs[j]? = some rv → Sl DD eI w' rv ((waysL (pAt ps x) x).map (gi j))) ∧
      (∀ j, j < i' → Rs[j]? = some (.slice none 0 0))) (fun i' => i') n (by simp)
    ⟨Nat.le_refl _, hk05, Nat.le_refl _, hat3, List.replicate n (.slice none 0 0), List.replicate (n + 1) (.slice none 0 0), hatl, hatr, by simp, by simp,
      fun j x lv' hj hx => by have := lt_of_idx hx; omega, fun j x rv hj hx => by have := lt_of_idx hx; omega,
      fun j hj => by rw [List.getElem?_replicate]; simp; omega⟩ ?_
  rintro i' w6 j nx ⟨hi'n, hk6, hsz6, hat3, Ls, Rs, hatl, hatr, hLl, hRl', hLs, hRs, hRn⟩ hnx
  refine s_geq (s_condD (fun hge => ?_) fun hlt => ?_)
  · have hge : 1 ≤ i' := by omega
    obtain ⟨i, rfl⟩ : ∃ i, i' = i + 1 := ⟨i' - 1, by omega⟩
    have ei : ((i + 1 : Nat) : Int) - 1 = (i : Int) := by omega
    show idxP 1 kv (vi (((i + 1 : Nat) : Int) - 1)) _
    rw [ei]
    have hin : i < n := by omega
    obtain ⟨x, hx⟩ := idx_of_lt (show i < order.length by omega)
    obtain ⟨x0, x1⟩ := hrange x (List.mem_of_getElem? hx)
    obtain ⟨q, hq⟩ := Int.eq_ofNat_of_zero_le x0
    refine (ho.keep0 hk6).idx (sz := 1) eI_len hx fun b o' _ _ hc => s_ldC0 hc ?_
    have hqx : q < ps.length := by omega
    refine (show Ret c.P c.f_path_choices #[lv, vi x] w6 _ from ?_)
    rw [hq]
    refine (choices_spec E T _ lv ps q w6 (hl.keep0 hk6) hqx hR).mono ?_
    intro u7 w7 hg7
    rw [← hq] at hg7
    have hk7 := hg7.keep
    refine s_slotSt (hatl.keep0 hk7) (by omega) (by omega) hg7.ow.one fun w8 hatl8 hk8 hs8 => ?_
    refine s_slot (v := u7) hatl8 (by omega) (by rw [List.getElem?_set, if_pos rfl, if_pos (by omega)]) ?_
    have hsz7 := hk7.size
    have hc8 : Sl DD eC w8 u7 (choL ps x) := (hg7.sl.keep hk8 fun b hb h => by have hb : w6.heap.size ≤ b := hb; omega).dom fun b hb => by
      have hb : w6.heap.size ≤ b := hb
      exact ⟨by omega, by omega⟩
    have hatr8 := (hatr.keep0 hk7).keep hk8 (by omega)
    have hat38 := (hat3.keep0 hk7).keep hk8 (by omega)
    have hk_8 : Keep NoB w w8 := (hk6.trans hk7).new hk8 fun i hi => .inr (by omega)
    have hRi := hRn i (by omega)
    have hwok : ∀ v ∈ waysL (pAt ps x) x, VOk ps v := fun v hv => (ways_ok hR x0 x1 hv).1
    have hcl : choL ps x = (waysL (pAt ps x) x).map (cho ps) := rfl
    refine hc8.len ?_
    have hclb := hc8.bound
    have hwl : (choL ps x).length = (waysL (pAt ps x) x).length := by rw [hcl, List.length_map]
    have hwb : (waysL (pAt ps x) x).length ≤ 502 := by
      have hpl : (pAt ps x).pts.length ≤ 500 := by
        obtain ⟨p, hp⟩ := idx_of_lt hqx
        rw [hq, pAt_get hp]; exact hR.le p (List.mem_of_getElem? hp)
      unfold waysL; split <;> simp; omega
    -- the next stage's rows, in w8
    have hnextL : ∀ x', order[i + 1]? = some x' → ∃ lv' rv, (Ls.set i u7)[i + 1]? = some lv' ∧ Sl (fun b => DD b ∧ b < w8.heap.size) eC w8 lv' (choL ps x') ∧
        Rs[i + 1]? = some rv ∧ Sl (fun b => DD b ∧ b < w8.heap.size) eI w8 rv ((waysL (pAt ps x') x').map (gi (i + 1))) := fun x' hx' => by
      have hlt' := lt_of_idx hx'
      obtain ⟨lv', hlv'⟩ := idx_of_lt (show i + 1 < Ls.length by omega)
      obtain ⟨rv, hrv⟩ := idx_of_lt (show i + 1 < Rs.length by omega)
      have hs1 := hLs (i + 1) x' lv' (by omega) hx' hlv'
      have hs2 := hRs (i + 1) x' rv (by omega) hx' hrv
      refine ⟨lv', rv, by rw [List.getElem?_set_ne (by omega)]; exact hlv', ?_, hrv, ?_⟩
      · exact ((hs1.keep0 hk7).keep hk8 fun b hb h => hb.1 h).old
      · exact ((hs2.keep0 hk7).keep hk8 fun b hb h => hb.1 h).old
    generalize hws : waysL (pAt ps x) x = ws at *
    refine s_for ws.length (fun k (_ : Value) => [vi k]) (fun k uv w' => Keep (· = br) w8 w' ∧ At w' br (Rs.set i uv) eB ∧ Ow (Fresh w8) c.t_int 1 eI w' uv ((ws.take k).map (gi i))) (.slice none 0 0) rfl
      ⟨Keep.refl _ _, by rw [set_self hRi]; exact hatr8, by simpa using Ow.nil⟩ ?_
    rintro k uv w9 j2 nx2 ⟨hk9, hatr9, how9⟩ hkn hnx2
    rw [hwl]
    refine s_lss (s_condD (fun hlt2 => ?_) fun hge2 => ?_)
    rotate_left
    · obtain rfl : k = ws.length := by omega
      rw [List.take_length] at how9
      refine s_sub (by omega) (by omega) ?_
      have hsz9 := hk9.size
      have := hnx i w9 ⟨by omega, hk_8.new hk9 fun i hi => .inr (by omega), by omega, hat38.keep hk9 (by omega), Ls.set i u7, Rs.set i uv, hatl8.keep hk9 (by omega), hatr9, by simpa using hLl, by simpa using hRl', ?_, ?_, ?_⟩ (by omega)
      · exact this
      · intro j x' lv' hj hx' hlv'
        by_cases hji : i = j
        · subst hji
          rw [hx] at hx'; cases hx'
          rw [List.getElem?_set] at hlv'
          simp only [if_true] at hlv'
          rw [if_pos (by omega)] at hlv'
          cases hlv'
          exact hc8.keep hk9 fun b hb h => hb.2 h
        · rw [List.getElem?_set_ne hji] at hlv'
          have hs1 := hLs j x' lv' (by omega) hx' hlv'
          exact ((hs1.keep0 hk7).keep hk8 fun b hb h => hb.1 h).keep hk9 fun b hb h => hb.2 h
      · intro j x' rv hj hx' hrv
        by_cases hji : i = j
        · subst hji
          rw [hx] at hx'; cases hx'
          rw [List.getElem?_set] at hrv
          simp only [if_true] at hrv
          rw [if_pos (by omega)] at hrv
          cases hrv
          rw [hws]
          exact how9.sl.dom fun b hb => by
            have hb : w8.heap.size ≤ b := hb
            exact ⟨by omega, by omega⟩
        · rw [List.getElem?_set_ne hji] at hrv
          have hs1 := hRs j x' rv (by omega) hx' hrv
          exact ((hs1.keep0 hk7).keep hk8 fun b hb h => hb.1 h).keep hk9 fun b hb h => hb.2 h
      · intro j hj
        rw [List.getElem?_set_ne (by omega)]
        exact hRn j (by omega)
    have hkl := ofInt_lt hlt2
    obtain ⟨v, hv⟩ := idx_of_lt hkl
    have hvo := hwok v (List.mem_of_getElem? hv)
    have hne := near_ends hR hvo
    have hcv : (choL ps x)[k]? = some (cho ps v) := by rw [hcl, List.getElem?_map, hv]; rfl
    have hc9 := hc8.keep hk9 fun b hb h => hb.2 h
    refine hc9.idx (sz := 7) eC_len hcv fun b o' _ _ hc => s_ldA hc rfl ?_
    refine s_var rfl rfl rfl fun b15 w11 hat15 hk11 hb15 hs15 => ?_
    have hk8_11 : Keep (· = br) w8 w11 := hk9.trans hk11.none
    have hatr11 := hatr9.keep0 hk11
    have how11 := how9.keep0 hk11
    have hatl11 := hatl8.keep hk8_11 (by omega)
    have hsz9 := hk9.size
    have hsz11 := hk8_11.size
    refine s_add (by omega) (by omega) ?_
    refine (ho.keep0 (hk_8.new hk8_11 fun i hi => .inr (by omega))).len ?_
    rw [hn]
    refine s_lss ?_
    -- what follows, with the number
    have hgo : ∀ (w12 : World), Keep NoB w11 w12 → idxP 1 (.slice (some ⟨br, 0, none⟩) (n + 1) (n + 1)) (vi i) fun v89 => ld v89 w12 fun v90 => semP c.P (Instr.buildSlice c.t_sl_int 1 #[(0, vi (gi i v))]) w12 fun v92 w14 =>
        semP c.P (Builtin.append_ #[c.t_sl_int, c.t_sl_int] c.t_sl_int #[v90, v92]) w14 fun v93 w15 => idxP 1 (.slice (some ⟨br, 0, none⟩) (n + 1) (n + 1)) (vi i) fun v94 => st v94 v93 w15 fun w16 => binP .add (vi k) (vi 1) fun v95 => nx2 [v95] w16 := fun w12 hk12 => by
      have hatr12 := hatr11.keep0 hk12
      refine s_slot hatr12 (by omega) (v := uv) (by rw [List.getElem?_set, if_pos rfl, if_pos (by omega)]) ?_
      have hsz12 := hk12.size
      refine s_push T.sl_int (y := gi i v) (how11.keep0 hk12) rfl rfl rfl (by rw [List.length_map, List.length_take]; omega) (by omega) (fun i hi => by show w8.heap.size ≤ i; omega) fun u15 w15 how15 hk15 hi15 => ?_
      have hinu : ∀ b, inV uv b → w8.heap.size ≤ b := fun b hb => Own.inD how11 hb
      refine s_slotSt (hatr12.keep hk15 fun h => by have := hinu _ h; omega) (by omega) (by rw [List.length_set]; omega) how15.one fun w16 hatr16 hk16 hs16 => ?_
      refine s_add (by omega) (by omega) ?_
      rw [List.set_set] at hatr16
      refine hnx2 u15 w16 hkl ⟨(((hk8_11.trans hk12.none).new hk15 fun i hi => .inr (hinu i hi)).trans hk16), hatr16, ?_⟩
      rw [take_snoc hv, List.map_append]
      refine how15.keep hk16 fun b hb h => ?_
      rcases hi15 b hb with h' | h'
      · have := hinu b h'; omega
      · omega
    have hfin : ∀ (w12 : World) (y : Value), Keep NoB w11 w12 → y = vi (gi i v) → idxP 1 (.slice (some ⟨br, 0, none⟩) (n + 1) (n + 1)) (vi i) fun v89 => ld v89 w12 fun v90 => semP c.P (Instr.buildSlice c.t_sl_int 1 #[(0, y)]) w12 fun v92 w14 =>
        semP c.P (Builtin.append_ #[c.t_sl_int, c.t_sl_int] c.t_sl_int #[v90, v92]) w14 fun v93 w15 => idxP 1 (.slice (some ⟨br, 0, none⟩) (n + 1) (n + 1)) (vi i) fun v94 => st v94 v93 w15 fun w16 => binP .add (vi k) (vi 1) fun v95 => nx2 [v95] w16 := fun w12 y hk12 hy => by
      rw [hy]; exact hgo w12 hk12
    refine s_join (s_condD (fun h1 => ?_) fun h1 => ?_)
    · obtain ⟨x', hx'⟩ := idx_of_lt (show i + 1 < order.length by omega)
      obtain ⟨y0, y1⟩ := hrange x' (List.mem_of_getElem? hx')
      obtain ⟨lv', rv, hlv', hs1, hrv, hs2⟩ := hnextL x' hx'
      have hMM : ∀ b, (DD b ∧ b < w8.heap.size) → ¬ (b = br) := fun b hb h => hb.1.2 h
      have hs1 := hs1.keep hk8_11 hMM
      have hs2 := hs2.keep hk8_11 hMM
      refine s_held (fun w' => Keep NoB w11 w') ⟨keep_drew _ _, ?_⟩
      refine s_off (s_ldAS (fun w' h => cho_b (hat15.keep0 h)) rfl ?_)
      refine s_add (by omega) (by omega) ?_
      rw [show ((i : Int) + 1) = ((i + 1 : Nat) : Int) from by omega]
      refine s_slotS (fun w' h => hatl11.keep0 h) (by omega) hlv' ?_
      refine s_add (by omega) (by omega) ?_
      rw [show ((i : Int) + 1) = ((i + 1 : Nat) : Int) from by omega]
      refine s_slotS (fun w' h => hatr11.keep0 h) (by omega) (by rw [List.getElem?_set_ne (by omega)]; exact hrv) ?_
      refine (nearestWay_spec E T hs1.drew hs2.drew (by rw [List.length_map, choL, List.length_map]) hne.2 (hchn x' y0 y1) ?_).mono ?_
      · intro y hy
        obtain ⟨v', hv', rfl⟩ := List.mem_map.1 hy
        have := hgi (i + 1) (by omega) v' (ways_ok hR y0 y1 hv').1
        omega
      · rintro u83 w13 ⟨hk13, rfl⟩
        have hk13' : Keep NoB w11 w13 := (keep_drew _ _).trans hk13
        refine ⟨hk13', s_fld1 (vs := [_, _]) rfl ?_⟩
        intro j3
        refine hfin w13 _ hk13' ?_
        show vi _ = vi (gi i v)
        congr 1
        have hw := way_eq ps (tov ps v) (waysL (pAt ps x') x') (gi (i + 1))
        rw [show choL ps x' = (waysL (pAt ps x') x').map (cho ps) from rfl]
        refine hw.2.trans ?_
        have hdrop : sg.drop (i + 1) = waysL (pAt ps x') x' :: sg.drop (i + 2) := by
          have := hstg (i + 1) x' hx'
          have hil := lt_of_idx this
          rw [List.drop_eq_getElem_cons hil]
          rw [List.getElem?_eq_getElem hil] at this
          rw [Option.some.inj this]
        show _ = rest ps (sg.drop (i + 1)) (tov ps v)
        rw [hdrop]; rfl
    · intro j3
      refine hfin w11 _ (Keep.refl _ _) ?_
      show vi 0 = vi (gi i v)
      congr 1
      have : sg.drop (i + 1) = [] := List.drop_eq_nil_of_le (by omega)
      show (0 : Int) = rest ps (sg.drop (i + 1)) (tov ps v)
      rw [this]; rfl
  · obtain rfl : i' = 0 := by omega
    refine s_ldAAt hat3 rfl ?_
    refine s_var rfl rfl rfl fun b18 w18 hat18 hk18 hb18 hs18 => ?_
    have hat3 := hat3.keep0 hk18
    have hk_18 := hk6.trans hk18
    have hsz6' := hk6.size
    refine (ho.keep0 hk_18).len ?_
    rw [hn]
    refine s_for n (fun i (u : Value) => [u, vi i]) (fun i u w' => Keep (· = b18) w18 w' ∧ Ow (Fresh w18) c.t_api_Visit 3 eV w' u (begN ps s sg i) ∧ At w' b18 (eP (lastPt ps s (begN ps s sg i))) c.t_api_Point) (.slice none 0 0) rfl
      ⟨Keep.refl _ _, Ow.nil, by simpa [lastPt, begN] using hat18⟩ ?_
    rintro i u w19 j2 nx2 ⟨hk19, hou, hat18⟩ hin2 hnx2
    obtain ⟨hbl, hbok⟩ := begN_facts (ps := ps) s hok i (by omega)
    have hnear := near_last hR (begN ps s sg i) s hs hbok
    have hk_19 : Keep NoB w w19 := hk_18.new hk19 fun i hi => .inr (by omega)
    have hsz19 := hk19.size
    refine s_lss (s_condD (fun hlt2 => ?_) fun hge2 => ?_)
    rotate_left
    · have hi : i = ps.length := by omega
      subst hi
      refine s_ldAAt (hat3.keep hk19 (by omega)) rfl ?_
      refine (travel_spec E _ _ s lv u ps _ w19 (hl.keep0 hk_19) hou.sl hR hs hbok (by omega)).mono ?_
      rintro v w20 ⟨hk20, rfl⟩
      exact ⟨hk_19.trans hk20, fun h' => absurd h h', fun _ => ⟨u, rfl, (hou.sl.keep0 hk20).dom fun b hb => by have hb : w18.heap.size ≤ b := hb; show w.heap.size ≤ b; omega⟩⟩
    have hil := ofInt_lt hlt2
    obtain ⟨x, hx⟩ := idx_of_lt (show i < order.length by omega)
    obtain ⟨x0, x1⟩ := hrange x (List.mem_of_getElem? hx)
    obtain ⟨lv', hlv'⟩ := idx_of_lt (show i < Ls.length by omega)
    obtain ⟨rv, hrv⟩ := idx_of_lt (show i < Rs.length by omega)
    have hM18 : ∀ b, (DD b ∧ b < w6.heap.size) → ¬ (b = b18) := fun b hb h => by have := hb.2; omega
    have hs1 : Sl (fun b => DD b ∧ b < w6.heap.size) eC w19 lv' (choL ps x) := (((hLs i x lv' (by omega) hx hlv').old).keep0 hk18).keep hk19 hM18
    have hs2 : Sl (fun b => DD b ∧ b < w6.heap.size) eI w19 rv ((waysL (pAt ps x) x).map (gi i)) := (((hRs i x rv (by omega) hx hrv).old).keep0 hk18).keep hk19 hM18
    have hbl6 := hatl.lt
    have hbr6 := hatr.lt
    have hatl19 := (hatl.keep0 hk18).keep hk19 (by omega)
    have hatr19 := (hatr.keep0 hk18).keep hk19 (by omega)
    have hat319 := hat3.keep hk19 (by omega)
    have hwok : ∀ v ∈ waysL (pAt ps x) x, VOk ps v := fun v hv => (ways_ok hR x0 x1 hv).1
    have hsgi := hstg i x hx
    have hb1 : begN ps s sg (i + 1) = begN ps s sg i ++ [((waysL (pAt ps x) x).foldl (nst fun v => dist (lastPt ps s (begN ps s sg i)) (frm ps v) + gi i v) none).getD v0] := by
      have : sg.getD i [] = waysL (pAt ps x) x := by rw [List.getD, hsgi]; rfl
      simp only [begN, this]; rfl
    have hway := (way_eq ps (lastPt ps s (begN ps s sg i)) (waysL (pAt ps x) x) (gi i)).1
    obtain ⟨hwne, _⟩ := hok _ (List.mem_of_getElem? hsgi)
    obtain ⟨bv, hbv, hbm⟩ := pick_some (f := fun v => dist (lastPt ps s (begN ps s sg i)) (frm ps v) + gi i v) hwne
    rw [hbv] at hway hb1
    have hbo := hwok bv hbm
    rw [Option.getD_some] at hb1
    have hchl : (waysL (pAt ps x) x).map (cho ps) = choL ps x := rfl
    rw [hchl] at hway
    generalize hfold : (List.range (choL ps x).length).foldl (nst fun k => dist (lastPt ps s (begN ps s sg i)) ((choL ps x).getD k cho0).a + ((waysL (pAt ps x) x).map (gi i)).getD k 0) none = fo at hway
    cases fo with
    | none => cases hway
    | some k =>
    have hkm : k ∈ List.range (choL ps x).length := by
      rcases nst_mem _ _ _ hfold with h | h
      · exact h
      · cases h
    rw [List.mem_range] at hkm
    have hkv : (choL ps x)[k]? = some (cho ps bv) := by
      have : (waysL (pAt ps x) x).getD k v0 = bv := by simpa using hway
      have hkl : k < (waysL (pAt ps x) x).length := by rw [choL, List.length_map] at hkm; exact hkm
      rw [choL, List.getElem?_map, getD_get (d := v0) hkl, this]; rfl
    have hblk : (begN ps s sg i).length = i := hbl
    have hinu : ∀ b, inV u b → w18.heap.size ≤ b ∧ b < w19.heap.size := fun b hb => ⟨Own.inD hou hb, Own.inLt hou hb⟩
    -- what follows the choice
    have hcont : ∀ (b20 : Nat) (w23 : World), Keep NoB w19 w23 → At w23 b20 (eC (cho ps bv)) c.t_path_choice → w19.heap.size ≤ b20 →
        offP 0 (pb b20 0) fun v120 => ldA 3 v120 w23 fun v121 => semP c.P (Instr.buildSlice c.t_sl_api_Visit 1 #[(0, v121)]) w23 fun v122 w27 =>
          semP c.P (Builtin.append_ #[c.t_sl_api_Visit, c.t_sl_api_Visit] c.t_sl_api_Visit #[u, v122]) w27 fun v123 w28 =>
          offP 5 (pb b20 0) fun v124 => ldA 2 v124 w28 fun v125 => stA 2 (pb b18 0) v125 w28 fun w29 => binP .add (vi i) (vi 1) fun v126 => nx2 [v123, v126] w29 := fun b20 w23 hk23 hat20 hb20 => by
      have hsz23 := hk23.size
      refine s_off (s_ldA (cho_v hat20) rfl ?_)
      refine s_push T.sl_visit (y := bv) (hou.keep0 hk23) rfl rfl rfl (by omega) (by omega) (fun i hi => by show w18.heap.size ≤ i; omega) fun u28 w28 hou28 hk28 hi28 => ?_
      refine s_off (s_ldA (cho_b (hat20.keep hk28 fun h => by have := hinu _ h; omega)) rfl ?_)
      refine s_stA (vs := eP (tov ps bv)) ((hat18.keep0 hk23).keep hk28 fun h => by have := hinu _ h; omega) rfl rfl rfl fun w29 hat29 hk29 hs29 => ?_
      refine s_add (by omega) (by omega) (hnx2 u28 w29 hil ⟨((hk19.trans hk23.none).new hk28 fun i hi => .inr (hinu i hi).1).trans hk29, ?_, ?_⟩)
      · rw [hb1]
        refine hou28.keep hk29 fun b hb h => ?_
        rcases hi28 b hb with h' | h'
        · have := hinu b h'; omega
        · omega
      · rw [hb1, lastP_snoc]; exact hat29
    refine s_join (s_held (fun w' => Keep NoB w19 w') ⟨keep_drew _ _, ?_⟩)
    refine s_slotS (fun w' h => hatl19.keep0 h) (by omega) hlv' ?_
    refine s_ldAS (fun w' h => (hat18.keep0 h).cells) rfl ?_
    refine s_slotS (fun w' h => hatl19.keep0 h) (by omega) hlv' ?_
    refine s_slotS (fun w' h => hatr19.keep0 h) (by omega) hrv ?_
    have hrb : ∀ y ∈ (waysL (pAt ps x) x).map (gi i), 0 ≤ y ∧ y ≤ 1000000000000 := fun y hy => by
      obtain ⟨v', hv', rfl⟩ := List.mem_map.1 hy
      have := hgi i (by omega) v' (hwok v' hv')
      omega
    have hel : ∀ w' , Keep NoB w19 w' → ∀ {k' : Value → Prop}, k' (.agg (eC (cho ps bv)).toArray) → idxP 7 lv' (vi k) fun a => ldAS (fun w' => Keep NoB w19 w') 7 a k' := fun w' _ k' h => by
      refine hs1.idx (sz := 7) eC_len hkv fun b o' _ _ hc => ?_
      exact s_ldAS (fun w'' h => hc.keep0 h) rfl h
    constructor
    · refine (nearestWay_spec E T hs1.drew hs2.drew (by rw [List.length_map, choL, List.length_map]) hnear (hchn x x0 x1) hrb).mono ?_
      rintro u21 w21 ⟨hk21, rfl⟩
      rw [hfold]
      have hk21' : Keep NoB w19 w21 := (keep_drew _ _).trans hk21
      refine ⟨hk21', s_fld1 (vs := [_, _]) rfl ?_⟩
      refine hel w21 hk21' ?_
      refine s_new (cs := eC cho0) fun b20 w22 hat20 hk22 hb20 hs20 => ⟨hk21'.trans hk22, ?_⟩
      refine s_stA (vs := eC (cho ps bv)) hat20 rfl rfl rfl fun w23 hat20 hk23 hs23 => ?_
      have hsz21 := hk21'.size
      intro j4
      exact hcont b20 w23 ((hk21'.trans hk22).new hk23 fun i hi => .inr (by omega)) hat20 (by omega)
    · refine s_new (cs := eC cho0) fun b20 w24 hat20 hk24 hb20 hs20 => ?_
      have hk24' : Keep NoB w19 w24 := (keep_drew _ _).trans hk24
      refine ⟨hk24', ?_⟩
      refine (nearestWay_spec E T (hs1.keep0 hk24') (hs2.keep0 hk24') (by rw [List.length_map, choL, List.length_map]) hnear (hchn x x0 x1) hrb).mono ?_
      rintro u25 w25 ⟨hk25, rfl⟩
      rw [hfold]
      refine ⟨hk24'.trans hk25, s_fld1 (vs := [_, _]) rfl ?_⟩
      refine hel w25 (hk24'.trans hk25) ?_
      refine s_stA (vs := eC (cho ps bv)) (hat20.keep0 hk25) rfl rfl rfl fun w26 hat20 hk26 hs26 => ?_
      have : b20 = w19.heap.size := hb20
      intro j4
      exact hcont b20 w26 ((hk24'.trans hk25).new hk26 fun i hi => .inr (by omega)) hat20 (by omega)
end Go.Eng

/-! Contract: the finder's next choice. -/
namespace Go.Eng
open Go
variable {c : Cfg}

def eM (r : Nat) : List Value := [.map (some r)]
theorem eM_len : ∀ {l : List Nat}, ∀ x ∈ l, (eM x).length = 1 := fun _ _ => rfl

theorem next2_spec (E : Eqs c) (T : Ty c) {D D' : Nat → Prop} {bf : Nat} {tf : TypeId} {av fv : Value} {all : List Cho} {rs : List Nat} {a : Pt} {set : Nat} {w : World} (G : Nat → Int)
    (hf : At w bf [av, fv] tf) (ha : Sl D eC w av all) (hr : Sl D' eM w fv rs) (hlen : rs.length = all.length) (hn : Nearby a) (hs : set < 1000000)
    (hall : ∀ x ∈ all, Nearby x.a ∧ 0 ≤ x.v.path ∧ x.v.path < 60)
    (hm : ∀ k x r, all[k]? = some x → rs[k]? = some r → bitOf set x = true → (0 ≤ G k ∧ G k ≤ 1000000000000) ∧ ∃ m, Mp vi w r m ∧ m (clr set x.v.path.toNat : Nat) = some (vi (G k))) :
    Ret c.P c.f_p_path_finder_next #[pb bf 0, .agg (eP a).toArray, vi set] w fun u w' => Keep NoB w w' ∧
      u = .tuple #[vi (whichOf (((List.range all.length).filter fun k => bitOf set (all.getD k cho0)).foldl (nst fun k => dist a (all.getD k cho0).a + G k) none)),
        vi (least0 (fun k => dist a (all.getD k cho0).a + G k) (((List.range all.length).filter fun k => bitOf set (all.getD k cho0)).foldl (nst fun k => dist a (all.getD k cho0).a + G k) none))] := by
  have ha := ha.lt
  have hr := hr.lt
  obtain ⟨kt, et, hu, K, hz⟩ := T.mi
  apply E.p_path_finder_next
  unfold wp_p_path_finder_next
  generalize hF : (fun k => dist a (all.getD k cho0).a + G k) = F
  have hFk : ∀ k, F k = dist a (all.getD k cho0).a + G k := fun k => by rw [← hF]
  generalize hB : (fun k => bitOf set (all.getD k cho0)) = B
  have hBk : ∀ k, B k = bitOf set (all.getD k cho0) := fun k => by rw [← hB]
  refine s_new (cs := eP a) fun b4 w1 hat4 hk1 hb4 hs4 => ?_
  refine s_nil (s_off (s_ldAt (hf.keep0 hk1) rfl ?_))
  have hlb := ha.bound
  refine (ha.keep0 hk1).len ?_
  refine s_for all.length (fun i (_ : Unit) => [vi (whichOf (((List.range i).filter B).foldl (nst F) none)), vi (least0 F (((List.range i).filter B).foldl (nst F) none)), vi i])
    (fun i _ w' => Keep NoB w w' ∧ At w' b4 (eP a) c.t_api_Point) () rfl ⟨hk1, hat4⟩ ?_
  rintro i _ w2 j nx ⟨hk2, hat4⟩ hin hnx
  refine s_lss (s_condD (fun hlt => ?_) fun hge => ?_)
  rotate_left
  · obtain rfl : i = all.length := by omega
    exact ⟨hk2, rfl⟩
  have hil := ofInt_lt hlt
  obtain ⟨x, hx⟩ := idx_of_lt hil
  obtain ⟨r, hr'⟩ := idx_of_lt (show i < rs.length by omega)
  obtain ⟨hxn, hp0, hp1⟩ := hall x (List.mem_of_getElem? hx)
  obtain ⟨q, hq⟩ := Int.eq_ofNat_of_zero_le hp0
  have hxd : all.getD i cho0 = x := by rw [List.getD, hx]; rfl
  have hFi : F i = dist a x.a + G i := by rw [hFk, hxd]
  have hBi : B i = set.testBit q := by rw [hBk, hxd, bitOf, show x.v.path.toNat = q by omega]
  have hdb := dist_bound hn hxn
  have hr1 : ((List.range (i + 1)).filter B).foldl (nst F) none = if set.testBit q then nst F (((List.range i).filter B).foldl (nst F) none) i else ((List.range i).filter B).foldl (nst F) none := by
    rw [List.range_succ, List.filter_append, List.foldl_append]
    simp only [List.filter_cons, List.filter_nil, hBi]
    split <;> rfl
  have hmem : ∀ u, ((List.range i).filter B).foldl (nst F) none = some u → u < i := fun u hu => by
    rcases nst_mem _ _ _ hu with h | h
    · exact List.mem_range.1 (List.mem_filter.1 h).1
    · cases h
  generalize hst : ((List.range i).filter B).foldl (nst F) none = st at *
  have hgo : ∀ (st' : Option Nat) (w' : World), st' = (if set.testBit q then nst F st i else st) → Keep NoB w w' → At w' b4 (eP a) c.t_api_Point → binP .add (vi i) (vi 1) fun v56 => nx [vi (whichOf st'), vi (least0 F st'), v56] w' := fun st' w' he hk' ha' => by
    refine s_add (by omega) (by omega) ?_
    have := hnx () w' hil ⟨hk', ha'⟩
    rw [hr1, ← he] at this
    exact this
  refine s_join ((ha.keep0 hk2).idx (sz := 7) eC_len hx fun b o _ _ hc => s_ldA hc rfl ?_)
  refine s_var rfl rfl rfl fun b9 w5 hat9 hk5 hb9 hs9 => ?_
  have hk_5 := hk2.trans hk5
  have hat4 := hat4.keep0 hk5
  refine s_off (s_off (s_ldAt hat9 rfl ?_))
  rw [hq]
  refine s_bit (by omega) (by omega) ?_
  refine s_eql (s_condD (fun h0 => ?_) fun h0 => ?_)
  · have hbit : set.testBit q = false := by
      cases hh : set.testBit q with
      | false => rfl
      | true => rw [hh] at h0; simp at h0
    intro j1
    exact hgo st w5 (by rw [hbit]; rfl) hk_5 hat4
  have hbit : set.testBit q = true := by
    cases hh : set.testBit q with
    | true => rfl
    | false => rw [hh] at h0; simp at h0
  obtain ⟨hG, m, hmp, hmv⟩ := hm i x r hx hr' (by rw [bitOf, show x.v.path.toNat = q by omega]; exact hbit)
  rw [show x.v.path.toNat = q by omega] at hmv
  have hmp5 := hmp.keep0 hk_5
  have hf5 := hf.keep0 hk_5
  have hr5 := hr.keep0 hk_5
  -- what follows the sum
  have hcont : ∀ (w6 : World), Keep NoB w5 w6 → (joinP (fun k3 => binP .lss (vi (whichOf st)) (.int .i64 0) fun v48 => guardP v48 false (binP .lss (vi (dist a x.a + G i)) (vi (least0 F st)) fun v52 => k3 [v52] w6) (k3 [(.bool true)] w6)) fun s3 j3 w11 =>
      joinP (fun k4 => condP (g s3 0) (k4 [vi i, vi (dist a x.a + G i)] w11) (k4 [vi (whichOf st), vi (least0 F st)] w11)) fun s4 j4 w12 =>
      ∀ (j : Nat → Value), binP .add (vi i) (vi 1) fun v56 => nx [g [g s4 0, g s4 1] 0, g [g s4 0, g s4 1] 1, v56] w12) := fun w6 hk6 => by
    have hk_6 := hk_5.trans hk6
    have hat6 := hat4.keep0 hk6
    refine s_join (s_lss (s_guardF (fun h => ?_) fun h => ?_))
    · have h0 : ¬ whichOf st < 0 := by simpa using h
      cases st with
      | none => simp [whichOf] at h0
      | some u0 =>
      refine s_lss ?_
      intro j1
      refine s_join (s_condD (fun h1 => ?_) fun h1 => ?_)
      · have hn : nst F (some u0) i = some i := by
          have h1 : dist a x.a + G i < F u0 := h1
          rw [← hFi] at h1
          simp [nst, h1]
        intro j2 j3
        have := hgo (some i) w6 (by rw [hbit, if_pos rfl, hn]) hk_6 hat6
        rw [← hFi]
        exact this
      · have hn : nst F (some u0) i = some u0 := by
          have h1 : ¬ dist a x.a + G i < F u0 := h1
          rw [← hFi] at h1
          simp [nst, h1]
        intro j2 j3
        exact hgo (some u0) w6 (by rw [hbit, if_pos rfl, hn]) hk_6 hat6
    · have h0 : whichOf st < 0 := by simpa using h
      cases st with
      | some u0 =>
        have h0 : (u0 : Int) < 0 := h0
        omega
      | none =>
      intro j1
      refine s_join (s_condT rfl ?_)
      intro j2 j3
      have := hgo (some i) w6 (by rw [hbit, if_pos rfl]; rfl) hk_6 hat6
      rw [← hFi]
      exact this
  refine s_join (s_held (fun w' => Keep NoB w5 w') ⟨keep_drew _ _, ?_⟩)
  refine s_ldAS (fun w' h => (hat4.keep0 h).cells) rfl ?_
  refine s_off (s_ldAS (fun w' h => cho_a (hat9.keep0 h)) rfl ?_)
  refine s_nil (s_off (s_ldS (fun w' h => by rw [(hf5.keep0 h).cell]; rfl) ?_))
  refine hr5.idx (sz := 1) eM_len hr' fun b o _ _ hc => s_ldS (fun w' h => (hc.keep0 h) 0 _ rfl) ?_
  refine s_off (s_off (s_ldS (fun w' h => by rw [(hat9.keep0 h).cell]; rfl) ?_))
  rw [hq]
  refine s_shl1 (by omega) (s_andNot (by omega) (by omega) ?_)
  constructor
  · refine (distance_spec E _ _ w5.drew hn hxn).mono ?_
    rintro u7 w7 ⟨hk7, rfl⟩
    have hk7' : Keep NoB w5 w7 := (keep_drew _ _).trans hk7
    refine ⟨hk7', s_lookup hu K hz (hmp5.keep0 hk7') _ ⟨hk7', ?_⟩⟩
    rw [hmv]
    refine s_add (by omega) (by omega) ?_
    intro j1
    exact hcont w7 hk7'
  · refine s_lookup hu K hz (hmp5.keep0 (keep_drew _ _)) _ ⟨keep_drew _ _, ?_⟩
    rw [hmv]
    refine (distance_spec E _ _ w5.drew hn hxn).mono ?_
    rintro u7 w7 ⟨hk7, rfl⟩
    have hk7' : Keep NoB w5 w7 := (keep_drew _ _).trans hk7
    refine ⟨hk7', s_add (by omega) (by omega) ?_⟩
    intro j1
    exact hcont w7 hk7'

end Go.Eng

/-! Contract: the best order, by the program. -/
namespace Go.Eng
open Go
variable {c : Cfg}

def allC (ps : List Pth) : List Cho := (List.range ps.length).flatMap fun (i : Nat) => choL ps i
theorem choL_len {ps : List Pth} (hR : Rights ps) {i : Nat} (hi : i < ps.length) : (choL ps i).length ≤ 502 := by
  obtain ⟨p, hp⟩ := idx_of_lt hi
  have hple := hR.le p (List.mem_of_getElem? hp)
  rw [choL, List.length_map, pAt_get hp]
  unfold waysL; split <;> simp; omega
theorem allI_len {ps : List Pth} (hR : Rights ps) : ∀ n, n ≤ ps.length → ((List.range n).flatMap fun (i : Nat) => choL ps i).length ≤ 502 * n
  | 0, _ => by simp
  | n + 1, h => by
    have h1 := allI_len hR n (by omega)
    have h2 := choL_len hR (show n < ps.length by omega)
    rw [List.range_succ, List.flatMap_append, List.length_append]
    simp only [List.flatMap_cons, List.flatMap_nil, List.append_nil]
    omega
theorem allC_ok {ps : List Pth} (hR : Rights ps) : AllOk ps (allC ps) := fun x hx => by
  obtain ⟨i, hi, hx⟩ := List.mem_flatMap.1 hx
  rw [List.mem_range] at hi
  obtain ⟨v, hv, rfl⟩ := List.mem_map.1 hx
  exact ⟨rfl, (ways_ok hR (by omega) (by omega) hv).1⟩
/-- some choice of a path -/
theorem allC_has {ps : List Pth} (hR : Rights ps) {i : Nat} (hi : i < ps.length) : ∃ x ∈ allC ps, x.v.path = i := by
  obtain ⟨p, hp⟩ := idx_of_lt hi
  have hne := ways_ne (p := p) (i := i) (hR.ne p (List.mem_of_getElem? hp))
  obtain ⟨v, hv⟩ := idx_of_lt hne
  have hvm := List.mem_of_getElem? hv
  refine ⟨cho ps v, List.mem_flatMap.2 ⟨i, by rw [List.mem_range]; exact hi, List.mem_map.2 ⟨v, by rw [pAt_get hp]; exact hvm, rfl⟩⟩, ?_⟩
  exact (ways_ok hR (show (0 : Int) ≤ (i : Int) by omega) (by omega) (by rw [pAt_get hp]; exact hvm)).2

/-- the map of a choice knows so many sets -/
def Knows (all : List Cho) (w : World) (x : Cho) (r : Nat) (t : Nat) : Prop :=
  ∃ m, Mp vi w r m ∧ m (0 : Int) = some (vi 0) ∧ ∀ s : Nat, s < t → s ≠ 0 → bitOf s x = false → m (s : Int) = some (vi (RB all s x.b))

/-- the next choice by its index -/
theorem pick_eq (all : List Cho) {set : Nat} (hs : set < 4611686018427387904) (a : Pt) :
    (all.filter (bitOf set)).foldl (nst fun x => dist a x.a + RB all (clr set x.v.path.toNat) x.b) none =
      (((List.range all.length).filter fun k => bitOf set (all.getD k cho0)).foldl (nst fun k => dist a (all.getD k cho0).a + RB all (clr set (all.getD k cho0).v.path.toNat) (all.getD k cho0).b) none).map (fun k => all.getD k cho0) ∧
    least0 (fun k => dist a (all.getD k cho0).a + RB all (clr set (all.getD k cho0).v.path.toNat) (all.getD k cho0).b) (((List.range all.length).filter fun k => bitOf set (all.getD k cho0)).foldl (nst fun k => dist a (all.getD k cho0).a + RB all (clr set (all.getD k cho0).v.path.toNat) (all.getD k cho0).b) none) = RB all set a := by
  have h1 := nst_range all cho0 (fun x => dist a x.a + RB all (clr set x.v.path.toNat) x.b) (bitOf set)
  refine ⟨h1, ?_⟩
  rw [RB_eq all hs, h1]
  cases ((List.range all.length).filter fun k => bitOf set (all.getD k cho0)).foldl (nst fun k => dist a (all.getD k cho0).a + RB all (clr set (all.getD k cho0).v.path.toNat) (all.getD k cho0).b) none <;> rfl

theorem Knows.mono {all : List Cho} {w : World} {x : Cho} {r t t' : Nat} (h : Knows all w x r t) (ht : t' ≤ t) : Knows all w x r t' := by
  obtain ⟨m, h1, h2, h3⟩ := h
  exact ⟨m, h1, h2, fun s hs => h3 s (by omega)⟩
theorem Knows.keep {all : List Cho} {w w' : World} {x : Cho} {r t : Nat} {M : Nat → Prop} (h : Knows all w x r t) (k : Keep M w w') (hm : ¬ M r) : Knows all w' x r t := by
  obtain ⟨m, h1, h2⟩ := h
  exact ⟨m, h1.keep k hm, h2⟩
/-- what the finder needs to know -/
theorem Knows.at {all : List Cho} {w : World} {x : Cho} {r t set : Nat} (h : Knows all w x r t) (hst : set ≤ t) (hs : set < 4611686018427387904) (hb : bitOf set x = true) :
    ∃ m, Mp vi w r m ∧ m (clr set x.v.path.toNat : Nat) = some (vi (RB all (clr set x.v.path.toNat) x.b)) := by
  obtain ⟨m, h1, h2, h3⟩ := h
  have hlt := clr_lt hs hb
  refine ⟨m, h1, ?_⟩
  by_cases h0 : clr set x.v.path.toNat = 0
  · rw [h0]; exact h2
  · refine h3 _ (by omega) h0 ?_
    rw [bitOf, clr_bit hs]; simp

theorem best_spec (E : Eqs c) (T : Ty c) {D : Nat → Prop} {lv : Value} {ps : List Pth} {s : Pt} {w : World} (hl : SlP D w lv ps) :
    Ret c.P c.f_path_Best #[.agg (eP s).toArray, lv] w fun u w' =>
      Gives w (if startF s (pathsF ps) ≠ 0 then startF s (pathsF ps) else if 6 < ps.length then 2 else 0) (QB (allC ps) (2 ^ ps.length - 1) s) (trav ps s (QB (allC ps) (2 ^ ps.length - 1) s)) u w' := by
  have hl := hl.lt
  obtain ⟨kt, et, hu, K, hz⟩ := T.mi
  obtain ⟨kt2, et2, hu2, K2, hz2⟩ := T.mp
  apply E.path_Best
  unfold wp_path_Best
  refine s_new (cs := eP s) fun b2 w1 hat2 hk1 hb2 hs2 => ?_
  refine s_ldAAt hat2 rfl ?_
  refine (startPaths_spec E _ s lv ps w1 (hl.keep0 hk1)).mono ?_
  rintro u w2 ⟨hk2, rfl⟩
  have hk02 := hk1.trans hk2
  refine s_neq (s_condD (fun h => ?_) fun h => ?_)
  · rw [if_pos h]; exact ⟨hk02, fun _ => rfl, fun h' => absurd h' h⟩
  rw [if_neg h]
  have h : startF s (pathsF ps) = 0 := by omega
  obtain ⟨hs, hR⟩ : Nearby s ∧ Rights ps := by
    unfold startF at h
    by_cases hf : farPt s = true
    · rw [if_pos hf] at h; cases h
    · rw [if_neg hf] at h; exact ⟨near_of (by simpa using hf), rights_of h⟩
  refine (hl.keep0 hk02).len (s_gtr (s_condD (fun h6 => ?_) fun h6 => ?_))
  · rw [if_pos (by omega)]; exact ⟨hk02, fun _ => rfl, fun h' => by cases h'⟩
  rw [if_neg (by omega)]
  have h6 : ps.length ≤ 6 := by omega
  refine s_build T.st_finder (cells := [.slice none 0 0, .slice none 0 0]) rfl ?_
  refine s_new (cs := [.slice none 0 0, .slice none 0 0]) fun bf w3 hatf hk3 hbf hsf => ?_
  have hat2 := (hat2.keep0 hk2).keep0 hk3
  have hk03 := hk02.trans hk3
  have hsz2 := hk02.size
  have hb2lt : b2 < w2.heap.size := by have := hk2.size; omega
  refine (hl.keep0 hk03).len ?_
  -- all choices
  refine s_range ps.length (fun i w' => Keep (· = bf) w3 w' ∧ ∃ av, At w' bf [av, .slice none 0 0] c.t_path_finder ∧ Ow (Fresh w3) c.t_path_choice 7 eC w' av ((List.range i).flatMap fun (i : Nat) => choL ps i))
    ⟨Keep.refl _ _, _, hatf, Ow.nil⟩ ?_
  rintro i w4 j nx ⟨hk4, av, hatf, hoa⟩ hin hnx
  have hsz4 := hk4.size
  have hk_4 : Keep NoB w w4 := hk03.new hk4 fun i hi => .inr (by omega)
  refine s_lss (s_condD (fun hlt => ?_) fun hge => ?_)
  · have hil := ofInt_lt hlt
    have hal := allI_len hR i (by omega)
    refine s_held (fun w' => Keep NoB w4 w') ⟨keep_drew _ _, ?_⟩
    refine s_nil (s_off (s_ldS (fun w' h => by rw [(hatf.keep0 h).cell]; rfl) ?_))
    refine (choices_spec E T _ lv ps i w4.drew (hl.keep0 hk_4).drew hil hR).mono ?_
    intro u5 w5 hg5
    have hk5 : Keep NoB w4 w5 := (keep_drew _ _).trans hg5.keep
    refine ⟨hk5, ?_⟩
    have hcl := choL_len hR hil
    have hsz5 := hk5.size
    have hinv : ∀ b, inV av b → w3.heap.size ≤ b := fun b hb => Own.inD hoa hb
    refine s_append T.sl_choice (hoa.keep0 hk5) (hg5.sl.src eC_len) (by
        rw [List.all_eq_true]; intro v hv
        obtain ⟨y, hy, hv⟩ := List.mem_flatMap.1 hv
        exact List.all_eq_true.1 (eC_one (l := [y]) y (List.mem_cons_self ..)) v hv) (by omega) (fun i hi => by show w3.heap.size ≤ i; omega) fun v6 w6 ho6 hk6 hi6 _ => ?_
    have hat6 := (hatf.keep0 hk5).keep hk6 fun h => by have := hinv _ h; omega
    have ho6' : Ow (Fresh w3) c.t_path_choice 7 eC w6 v6 ((List.range (i + 1)).flatMap fun (i : Nat) => choL ps i) := by
      unfold Ow
      rw [List.range_succ, List.flatMap_append, List.length_append, List.flatMap_append]
      simpa using ho6
    refine s_nil (s_off (s_st hat6 (by simp) ho6'.one fun w7 hat7 hk7 hs7 => ?_))
    refine s_add (by omega) (by omega) (hnx w7 hil ⟨(((hk4.trans hk5.none).new hk6 fun i hi => .inr (hinv i hi)).trans hk7), v6, hat7, ho6'.keep hk7 fun b hb h => ?_⟩)
    have hsz6 := hk6.size
    rcases hi6 b hb with h' | h'
    · have := hinv b h'; omega
    · omega
  obtain rfl : i = ps.length := by omega
  have hallc : (List.range ps.length).flatMap (fun (i : Nat) => choL ps i) = allC ps := rfl
  rw [hallc] at hoa
  have hal : (allC ps).length ≤ 502 * 6 := by have := allI_len hR ps.length (Nat.le_refl _); rw [hallc] at this; omega
  have hA := allC_ok hR
  have hhas : ∀ i : Nat, i < ps.length → ∃ x ∈ allC ps, x.v.path = i := fun i hi => allC_has hR hi
  generalize hall : allC ps = all at *
  have hallF : ∀ x ∈ all, Nearby x.a ∧ 0 ≤ x.v.path ∧ x.v.path < 60 := fun x hx => by
    obtain ⟨h1, h2⟩ := hA x hx
    refine ⟨by rw [h1]; exact (near_ends hR h2).1, h2.p0, by have := h2.p1; omega⟩
  have hsl4 := hoa.sl
  have hat2 := hat2.keep hk4 (by omega)
  have hbf4 := hatf.lt
  refine s_nil (s_off (s_ldAt hatf rfl ?_))
  refine hsl4.len ?_
  -- the maps
  refine s_range all.length (fun k w' => Keep (· = bf) w4 w' ∧ ∃ fv rs, At w' bf [av, fv] c.t_path_finder ∧ Ow (Fresh w4) c.t_map_int_int 1 eM w' fv rs ∧ rs.length = k ∧
      (∀ b, inV fv b → ∀ r ∈ rs, r ≠ b) ∧ rs.Nodup ∧ (∀ r ∈ rs, w4.heap.size ≤ r) ∧ ∀ q x r, all[q]? = some x → rs[q]? = some r → Knows all w' x r 1)
    ⟨Keep.refl _ _, _, [], hatf, Ow.nil, rfl, fun _ h => h.elim, by simp, by simp, fun q x r _ h => by rw [List.getElem?_nil] at h; cases h⟩ ?_
  rintro k w8 j2 nx2 ⟨hk8, fv, rs, hatf, hor, hrl, hrv, hnd, hrf, hkn⟩ hkn' hnx2
  have hsz8 := hk8.size
  refine s_lss (s_condD (fun hlt2 => ?_) fun hge2 => ?_)
  · have hkl := ofInt_lt hlt2
    refine s_nil (s_off (s_ldAt hatf rfl ?_))
    refine s_makeMap (enc := vi) fun r w9 hm9 hk9 hr9 hsr9 => ?_
    refine s_mapUpdate hu K hm9 0 (vi 0) fun w10 hm10 hk10 hs10 => ?_
    have hk8_10 : Keep NoB w8 w10 := hk9.new hk10 fun i hi => .inr (by omega)
    have hinv : ∀ b, inV fv b → w4.heap.size ≤ b ∧ b < w8.heap.size := fun b hb => ⟨Own.inD hor hb, Own.inLt hor hb⟩
    refine s_push T.sl_map (y := r) (hor.keep0 hk8_10) rfl rfl rfl (by omega) (by omega) (fun i hi => by show w4.heap.size ≤ i; omega) fun v12 w12 ho12 hk12 hi12 => ?_
    have hat12 := (hatf.keep0 hk8_10).keep hk12 fun h => by have := hinv _ h; omega
    refine s_nil (s_off (s_st hat12 (by simp) ho12.one fun w13 hat13 hk13 hs13 => ?_))
    have hsz12 := hk12.size
    have hk8_13 : Keep (fun b => b = bf ∨ inV fv b) w8 w13 := ((hk8_10.none).trans (hk12.mono fun b h => .inr h)).trans (hk13.mono fun b h => .inl h)
    have hrlt : ∀ q x r, all[q]? = some x → rs[q]? = some r → r < w8.heap.size := fun q x r hx hr => by
      obtain ⟨m, hm, _⟩ := hkn q x r hx hr
      exact hm.lt
    refine s_add (by omega) (by omega) (hnx2 w13 hkl ⟨(((hk8.trans hk8_10.none).new hk12 fun i hi => .inr (hinv i hi).1).trans hk13), v12, rs ++ [r], hat13, ho12.keep hk13 fun b hb h => ?_, by simp [hrl], ?_, ?_, ?_, ?_⟩)
    · rcases hi12 b hb with h' | h'
      · have := hinv b h'; omega
      · omega
    · intro b hb r' hr'
      rcases List.mem_append.1 hr' with h' | h'
      · rcases hi12 b hb with h'' | h''
        · exact hrv b h'' r' h'
        · obtain ⟨q, hq⟩ := List.getElem?_of_mem h'
          have hql := lt_of_idx hq
          obtain ⟨x, hx⟩ := idx_of_lt (show q < all.length by omega)
          have := hrlt q x r' hx hq
          omega
      · simp at h'; subst h'
        rcases hi12 b hb with h'' | h''
        · have := hinv b h''; omega
        · omega
    · rw [List.nodup_append]
      refine ⟨hnd, by simp, fun a ha b hb => ?_⟩
      simp at hb; subst hb
      obtain ⟨q, hq⟩ := List.getElem?_of_mem ha
      have hql := lt_of_idx hq
      obtain ⟨x, hx⟩ := idx_of_lt (show q < all.length by omega)
      have := hrlt q x a hx hq
      omega
    · intro r' hr'
      rcases List.mem_append.1 hr' with h' | h'
      · exact hrf r' h'
      · simp at h'; omega
    · intro q x r' hx hr'
      by_cases hq : q < rs.length
      · rw [List.getElem?_append_left hq] at hr'
        have hlt' := hrlt q x r' hx hr'
        obtain ⟨m, hm, h0, h1⟩ := hkn q x r' hx hr'
        refine ⟨m, hm.keep hk8_13 fun h => ?_, h0, h1⟩
        rcases h with h | h
        · have := hrf r' (List.mem_of_getElem? hr'); omega
        · exact hrv _ h r' (List.mem_of_getElem? hr') rfl
      · rw [List.getElem?_append_right (by omega)] at hr'
        have : r' = r := by
          cases hqq : q - rs.length with
          | zero => rw [hqq] at hr'; simpa using hr'.symm
          | succ n => rw [hqq] at hr'; simp at hr'
        subst this
        refine ⟨_, (hm10.keep hk12 fun h => by have := hinv _ h; omega).keep hk13 (by omega), by simp, fun s hs1 hs2 => by omega⟩
  have hkk : k = all.length := by omega
  subst hkk
  have hslr := hor.sl
  have hat28 := hat2.keep hk8 (by omega)
  have hfv8 : ∀ b, inV fv b → w4.heap.size ≤ b ∧ b < w8.heap.size := fun b hb => ⟨Own.inD hor hb, Own.inLt hor hb⟩
  have hslr8 : Sl (fun b => b ∉ rs ∧ b < w8.heap.size) eM w8 fv rs := by
    obtain ⟨a0, cap0, rfl, hc0, hc1⟩ := hslr
    refine ⟨a0, cap0, rfl, hc0, fun hne => ?_⟩
    obtain ⟨b, o, rfl, e2, e3, e4⟩ := hc1 hne
    exact ⟨b, o, rfl, ⟨fun hm => hrv b rfl b hm rfl, e3⟩, e3, e4⟩
  have hsl8 : Sl (fun b => b ∉ rs ∧ b < w8.heap.size) eC w8 av all :=
    (hoa.sl.old.keep hk8 fun b hb h => by
      have hb : w3.heap.size ≤ b := hb.1
      omega).dom fun b hb => ⟨fun hm => by have := hrf b hm; have := hb.2; omega, by have := hb.2; omega⟩
  have hpow : ∀ m, m ≤ 6 → 2 ^ m ≤ 64 := fun m hm => by
    have := Nat.pow_le_pow_right (n := 2) (by omega) hm
    omega
  have hp6 := hpow ps.length h6
  have hp1 : 1 ≤ 2 ^ ps.length := Nat.one_le_two_pow
  have hrlt : ∀ r ∈ rs, r < w8.heap.size := fun r hr => by
    obtain ⟨q, hq⟩ := List.getElem?_of_mem hr
    obtain ⟨x, hx⟩ := idx_of_lt (show q < all.length by have := lt_of_idx hq; omega)
    obtain ⟨m, hm, _⟩ := hkn q x r hx hq
    exact hm.lt
  -- the sets
  refine s_while (σ := Nat) (fun set => [vi set]) (fun set w' => (1 ≤ set ∧ set ≤ 2 ^ ps.length) ∧ Keep (fun b => b ∈ rs) w8 w' ∧ ∀ q x r, all[q]? = some x → rs[q]? = some r → Knows all w' x r set) (fun set => 64 - set) 1
    rfl ⟨by omega, Keep.refl _ _, hkn⟩ ?_
  rintro set w14 j3 nx3 ⟨⟨hset1, hset2⟩, hk14, hkn⟩ hnx3
  have hk_8 : Keep NoB w w8 := hk_4.new hk8 fun i hi => .inr (by omega)
  have hk_14 : Keep NoB w w14 := hk_8.new hk14 fun i hi => .inr (by have := hrf i hi; omega)
  have hsz14 := hk14.size
  have hatf14 := hatf.keep hk14 fun h => by have := hrf _ h; omega
  have hsl14 := hsl8.keep hk14 fun b hb => hb.1
  have hslr14 := hslr8.keep hk14 fun b hb => hb.1
  have hat214 := hat28.keep hk14 fun h => by have := hrf _ h; omega
  refine (hl.keep0 hk_14).len (s_shl1 (by omega) (s_lss (s_condD (fun hlt3 => ?_) fun hge3 => ?_)))
  · have hsetlt : set < 2 ^ ps.length := by omega
    refine s_makeMap (enc := fun p : Pt => .agg (eP p).toArray) fun r0 w15 hm15 hk15 hr0 hsr0 => ?_
    refine s_nil (s_off (s_ldAt (hatf14.keep0 hk15) rfl ?_))
    have hsl15 := hsl14.keep0 hk15
    refine hsl15.len ?_
    refine s_range all.length (fun k w' => Keep (fun b => b ∈ rs ∨ b = r0) w15 w' ∧ (∃ mk, Mp (fun p : Pt => .agg (eP p).toArray) w' r0 mk ∧ ∀ p v, mk p = some v → v = vi (RB all set p)) ∧
        ∀ q x r, all[q]? = some x → rs[q]? = some r → Knows all w' x r (if q < k then set + 1 else set))
      ⟨Keep.refl _ _, ⟨_, hm15, fun p v h => by cases h⟩, fun q x r hx hr => by
        rw [if_neg (by omega)]
        exact (hkn q x r hx hr).keep hk15 fun h => h⟩ ?_
    rintro k w16 j4 nx4 ⟨hk16, ⟨mk, hmk, hmkv⟩, hkn16⟩ hkn4 hnx4
    have hsz16 := hk16.size
    refine s_lss (s_condD (fun hlt4 => ?_) fun hge4 => ?_)
    rotate_left
    · have hkk : k = all.length := by omega
      subst hkk
      refine s_add (by omega) (by omega) ?_
      have := hnx3 (set + 1) w16 ⟨by omega, (hk14.trans hk15.none).new hk16 fun i hi => by
          rcases hi with h | h
          · exact .inl h
          · exact .inr (by omega), fun q x r hx hr => ?_⟩ (by omega)
      · exact this
      · have := hkn16 q x r hx hr
        rw [if_pos (lt_of_idx hx)] at this
        exact this
    have hkl := ofInt_lt hlt4
    obtain ⟨x, hx⟩ := idx_of_lt hkl
    obtain ⟨r, hr⟩ := idx_of_lt (show k < rs.length by omega)
    have hxm := List.mem_of_getElem? hx
    have hrm := List.mem_of_getElem? hr
    obtain ⟨hxe, hxo⟩ := hA x hxm
    have hxb : Nearby x.b := by rw [hxe]; exact (near_ends hR hxo).2
    obtain ⟨p, hp⟩ := Int.eq_ofNat_of_zero_le hxo.p0
    have hp60 : p < 60 := by have := (hallF x hxm).2.2; omega
    have hMM : ∀ b, (b ∉ rs ∧ b < w8.heap.size) → ¬ (b ∈ rs ∨ b = r0) := fun b hb h => by
      rcases h with h | h
      · exact hb.1 h
      · omega
    have hsl16 := hsl15.keep hk16 hMM
    have hgo : ∀ w', Keep (fun b => b ∈ rs ∨ b = r0) w16 w' → (∃ mk, Mp (fun p : Pt => .agg (eP p).toArray) w' r0 mk ∧ ∀ p v, mk p = some v → v = vi (RB all set p)) →
        (∀ q x r, all[q]? = some x → rs[q]? = some r → Knows all w' x r (if q < k + 1 then set + 1 else set)) → binP .add (vi k) (vi 1) fun v124 => nx4 [v124] w' := fun w' hk' hmk' hkn' =>
      s_add (by omega) (by omega) (hnx4 w' hkl ⟨hk16.trans hk', hmk', hkn'⟩)
    refine s_join (hsl16.idx (sz := 7) eC_len hx fun b o _ _ hc => s_ldA hc rfl ?_)
    refine s_var rfl rfl rfl fun b13 w19 hat13 hk19 hb13 hs13 => ?_
    refine s_off (s_off (s_ldAt hat13 rfl ?_))
    rw [hp]
    refine s_bit (by omega) (by omega) ?_
    have hbitx : bitOf set x = set.testBit p := by rw [bitOf, show x.v.path.toNat = p by omega]
    refine s_eql (s_condD (fun hb => ?_) fun hb => ?_)
    · have hbit : bitOf set x = true := by
        rw [hbitx]
        cases hh : set.testBit p with
        | true => rfl
        | false => rw [hh] at hb; simp at hb
      intro j5
      refine hgo w19 hk19.none ⟨mk, hmk.keep0 hk19, hmkv⟩ fun q y ry hy hry => ?_
      have h1 := (hkn16 q y ry hy hry).keep hk19 fun h => h
      by_cases hqk : q < k
      · rw [if_pos hqk] at h1; rw [if_pos (by omega)]; exact h1
      · rw [if_neg hqk] at h1
        by_cases hqk' : q = k
        · subst hqk'
          rw [hx] at hy; cases hy
          rw [if_pos (by omega)]
          obtain ⟨m, g1, g2, g3⟩ := h1
          refine ⟨m, g1, g2, fun s hs hs0 hsb => g3 s ?_ hs0 hsb⟩
          rcases Nat.lt_or_ge s set with h | h
          · exact h
          · obtain rfl : s = set := by omega
            rw [hbit] at hsb; cases hsb
        · rw [if_neg (by omega)]; exact h1
    have hbit : bitOf set x = false := by
      rw [hbitx]
      cases hh : set.testBit p with
      | false => rfl
      | true => rw [hh] at hb; simp at hb
    refine s_off (s_ldA (cho_b hat13) rfl ?_)
    have hmk19 := hmk.keep0 hk19
    refine s_lookup2 hu2 K2 hz2 hmk19 x.b ?_
    refine s_ex0 (s_ex1 (s_not ?_))
    refine s_joinM (fun vs w' => vs = [vi (RB all set x.b)] ∧ Keep (· = r0) w19 w' ∧ ∃ mk, Mp (fun p : Pt => .agg (eP p).toArray) w' r0 mk ∧ ∀ p v, mk p = some v → v = vi (RB all set p)) ?_ ?_
    · refine s_cond (fun hn => ?_) fun hn => ?_
      · refine s_off (s_ldA (cho_b hat13) rfl ?_)
        have hk8_19 : Keep (fun b => b ∈ rs ∨ b = r0) w8 w19 := ((hk14.trans hk15.none).mono fun b h => .inl h).trans (hk16.trans hk19.none)
        have hatf19 : At w19 bf [av, fv] c.t_path_finder := ((hatf14.keep0 hk15).keep hk16 fun h => by
          rcases h with h | h
          · have := hrf _ h; omega
          · omega).keep0 hk19
        have hnext := next2_spec E T (D := fun b => b ∉ rs ∧ b < w8.heap.size) (D' := fun b => b ∉ rs ∧ b < w8.heap.size) (bf := bf) (tf := c.t_path_finder) (av := av) (fv := fv) (all := all) (rs := rs) (a := x.b) (set := set) (w := w19)
          (fun k => RB all (clr set (all.getD k cho0).v.path.toNat) (all.getD k cho0).b) hatf19 (hsl16.keep0 hk19) (((hslr14.keep0 hk15).keep hk16 hMM).keep0 hk19) hrl hxb (by omega) hallF (fun q y ry hy hry hby => by
            have hyd : all.getD q cho0 = y := by rw [List.getD, hy]; rfl
            rw [hyd]
            obtain ⟨hye, hyo⟩ := hA y (List.mem_of_getElem? hy)
            have hyb : Nearby y.b := by rw [hye]; exact (near_ends hR hyo).2
            have hcl := clr_le (s := set) (p := y.v.path.toNat) (by omega)
            have hrb := RB_bound hR hA (clr set y.v.path.toNat) (clr set y.v.path.toNat) y.b (Nat.le_refl _) (by omega) hyb
            refine ⟨by omega, ?_⟩
            have h1 := (hkn16 q y ry hy hry).keep hk19 fun h => h
            exact h1.at (by split <;> omega) (by omega) hby)
        rw [(pick_eq all (by omega) x.b).2] at hnext
        refine hnext.mono ?_
        rintro u20 w22 ⟨hk22, rfl⟩
        refine s_ex0 (s_ex1 ?_)
        refine s_off (s_ldA (cho_b (hat13.keep0 hk22)) rfl ?_)
        refine s_mapUpdate hu2 K2 (hmk19.keep0 hk22) x.b _ fun w23 hm23 hk23 _ => ?_
        refine ⟨rfl, hk22.none.trans hk23, _, hm23, fun p v h => ?_⟩
        by_cases hpx : p = x.b
        · rw [if_pos hpx] at h; cases h; rw [hpx]
        · rw [if_neg hpx] at h; exact hmkv p v h
      · refine ⟨?_, Keep.refl _ _, mk, hmk19, hmkv⟩
        cases hh : mk x.b with
        | none => rw [hh] at hn; simp at hn
        | some v => rw [hmkv x.b v hh]; rfl
    rintro vs j5 w21 ⟨rfl, hk21, hmk21⟩
    have hatf21 : At w21 bf [av, fv] c.t_path_finder := (((hatf14.keep0 hk15).keep hk16 fun h => by
      rcases h with h | h
      · have := hrf _ h; omega
      · omega).keep0 hk19).keep hk21 (by omega)
    refine s_nil (s_off (s_ldAt hatf21 rfl ?_))
    have hslr21 : Sl (fun b => b ∉ rs ∧ b < w8.heap.size) eM w21 fv rs := (((hslr14.keep0 hk15).keep hk16 hMM).keep0 hk19).keep hk21 fun b hb h => by omega
    refine hslr21.idx (sz := 1) eM_len hr fun b o _ _ hc => s_ldC0 hc ?_
    have hkx := hkn16 k x r hx hr
    rw [if_neg (by omega)] at hkx
    have hr0 : r ≠ r0 := by have := hrlt r hrm; omega
    obtain ⟨m, hm, hm0, hms⟩ := (hkx.keep hk19 fun h => h).keep hk21 hr0
    refine s_mapUpdate hu K hm (set : Int) _ fun w24 hm24 hk24 _ => ?_
    intro j6
    have hk16_24 : Keep (fun b => b ∈ rs ∨ b = r0) w16 w24 := (hk19.none.trans (hk21.mono fun b h => .inr h)).trans (hk24.mono fun b h => .inl (by rw [h]; exact hrm))
    refine hgo w24 hk16_24 ?_ fun q y ry hy hry => ?_
    · obtain ⟨mk', h1, h2⟩ := hmk21
      exact ⟨mk', h1.keep hk24 fun h => hr0 h.symm, h2⟩
    · by_cases hqk : q = k
      · subst hqk
        rw [hx] at hy; cases hy
        rw [hr] at hry; cases hry
        rw [if_pos (by omega)]
        refine ⟨_, hm24, ?_, fun s hs hs0 hsb => ?_⟩
        · rw [if_neg (by omega)]; exact hm0
        · by_cases hss : s = set
          · subst hss; rw [if_pos rfl]; rfl
          · rw [if_neg (by omega)]; exact hms s (by omega) hs0 hsb
      · have hne : ry ≠ r := fun he => hqk ((List.getElem?_inj (lt_of_idx hry) hnd).1 (by rw [hry, hr, he]))
        have h1 := (((hkn16 q y ry hy hry).keep hk19 fun h => h).keep hk21 fun h => by have := hrlt ry (List.mem_of_getElem? hry); omega).keep hk24 hne
        by_cases hlt : q < k
        · rw [if_pos hlt] at h1; rw [if_pos (by omega)]; exact h1
        · rw [if_neg hlt] at h1; rw [if_neg (by omega)]; exact h1
  have hseteq : set = 2 ^ ps.length := by omega
  rw [hseteq] at hkn
  generalize hfull : 2 ^ ps.length - 1 = full
  have hfl : full < 64 := by omega
  refine s_ldAAt hat214 rfl ?_
  refine s_var rfl rfl rfl fun b17 w26 hat17 hk26 hb17 hs17 => ?_
  have hk_26 := hk_14.trans hk26
  refine (hl.keep0 hk_26).len (s_shl1 (by omega) (s_sub (by omega) (by omega) ?_))
  rw [show ((2 ^ ps.length : Nat) : Int) - 1 = (full : Int) from by omega]
  have hatf26 := hatf14.keep0 hk26
  have hat226 := hat214.keep0 hk26
  have hsz26 := hk26.size
  have hsl26 := hsl14.keep0 hk26
  have hslr26 := hslr14.keep0 hk26
  have hkn26 : ∀ q x r, all[q]? = some x → rs[q]? = some r → Knows all w26 x r (2 ^ ps.length) := fun q x r hx hr => (hkn q x r hx hr).keep hk26 fun h => h
  refine s_while (σ := Value × Nat) (fun σ => [σ.1, vi σ.2]) (fun σ w' => Keep (· = b17) w26 w' ∧ σ.2 ≤ full ∧ ∃ out a, Ow (Fresh w26) c.t_api_Visit 3 eV w' σ.1 out ∧ At w' b17 (eP a) c.t_api_Point ∧ Nearby a ∧
      out ++ QB all σ.2 a = QB all full s ∧ (∀ v ∈ out, VOk ps v) ∧ out.length + σ.2 ≤ full) (fun σ => σ.2) (.slice none 0 0, full) rfl
    ⟨Keep.refl _ _, Nat.le_refl _, [], s, Ow.nil, hat17, hs, by simp, by simp, by simp⟩ ?_
  rintro ⟨u, set1⟩ w27 j6 nx6 ⟨hk27, hset1l, out, a, hou, hat17, hna, hout, hook, hol⟩ hnx6
  have hk_27 : Keep NoB w w27 := hk_26.new hk27 fun i hi => .inr (by omega)
  have hsz27 := hk27.size
  simp only at hset1l hout hol hou
  refine s_gtr (s_condD (fun hpos => ?_) fun hz => ?_)
  rotate_left
  · obtain rfl : set1 = 0 := by
      have hz : ¬ (0 : Int) < set1 := hz
      omega
    rw [QB_zero, List.append_nil] at hout
    subst hout
    refine s_ldAAt (hat226.keep hk27 (by omega)) rfl ?_
    refine (travel_spec E _ _ s lv u ps _ w27 (hl.keep0 hk_27) hou.sl hR hs hook (by omega)).mono ?_
    rintro v w34 ⟨hk34, rfl⟩
    refine ⟨hk_27.trans hk34, fun h' => absurd rfl h', fun _ => ⟨u, rfl, (hou.sl.keep0 hk34).dom fun b hb => by have hb : w26.heap.size ≤ b := hb; have := hk_26.size; show w.heap.size ≤ b; omega⟩⟩
  have hpos : 0 < set1 := by
    have hpos : (0 : Int) < set1 := hpos
    omega
  have hs17M : ∀ b, (b ∉ rs ∧ b < w8.heap.size) → ¬ (b = b17) := fun b hb h => by omega
  refine s_ldAAt hat17 rfl ?_
  have hnext := next2_spec E T (D := fun b => b ∉ rs ∧ b < w8.heap.size) (D' := fun b => b ∉ rs ∧ b < w8.heap.size) (bf := bf) (tf := c.t_path_finder) (av := av) (fv := fv) (all := all) (rs := rs) (a := a) (set := set1) (w := w27)
    (fun k => RB all (clr set1 (all.getD k cho0).v.path.toNat) (all.getD k cho0).b) (hatf26.keep hk27 (by omega)) (hsl26.keep hk27 hs17M) (hslr26.keep hk27 hs17M) hrl hna (by omega) hallF (fun q y ry hy hry hby => by
      have hyd : all.getD q cho0 = y := by rw [List.getD, hy]; rfl
      rw [hyd]
      obtain ⟨hye, hyo⟩ := hA y (List.mem_of_getElem? hy)
      have hyb : Nearby y.b := by rw [hye]; exact (near_ends hR hyo).2
      have hcl := clr_le (s := set1) (p := y.v.path.toNat) (by omega)
      have hrb := RB_bound hR hA (clr set1 y.v.path.toNat) (clr set1 y.v.path.toNat) y.b (Nat.le_refl _) (by omega) hyb
      refine ⟨by omega, ?_⟩
      have h1 := (hkn26 q y ry hy hry).keep hk27 fun h => by have := hrlt ry (List.mem_of_getElem? hry); omega
      exact h1.at (by omega) (by omega) hby)
  have hpe := (pick_eq all (set := set1) (by omega) a).1
  refine hnext.mono ?_
  rintro u28 w28 ⟨hk28, rfl⟩
  -- there is a choice
  have hex : all.filter (bitOf set1) ≠ [] := by
    obtain ⟨i, hi⟩ := Nat.exists_testBit_of_ne_zero (show set1 ≠ 0 by omega)
    have hip : i < ps.length := by
      rcases Nat.lt_or_ge i ps.length with h | h
      · exact h
      · have h2 : set1 < 2 ^ i := by
          have := Nat.pow_le_pow_right (n := 2) (by omega) h
          omega
        rw [Nat.testBit_lt_two_pow h2] at hi; cases hi
    obtain ⟨x, hx, hxp⟩ := hhas i hip
    intro he
    have : x ∈ all.filter (bitOf set1) := List.mem_filter.2 ⟨hx, by rw [bitOf, hxp]; simpa using hi⟩
    rw [he] at this; simp at this
  obtain ⟨bx, hbx, hbm⟩ := pick_some (f := fun x => dist a x.a + RB all (clr set1 x.v.path.toNat) x.b) hex
  rw [hbx] at hpe
  generalize hfo : ((List.range all.length).filter fun k => bitOf set1 (all.getD k cho0)).foldl (nst fun k => dist a (all.getD k cho0).a + RB all (clr set1 (all.getD k cho0).v.path.toNat) (all.getD k cho0).b) none = fo at *
  cases fo with
  | none => cases hpe
  | some k =>
  have hkm : k < all.length := by
    rcases nst_mem _ _ _ hfo with h | h
    · exact List.mem_range.1 (List.mem_filter.1 h).1
    · cases h
  have hkx : all[k]? = some bx := by
    rw [getD_get (d := cho0) hkm]
    exact hpe.symm
  obtain ⟨hbxa, hbxb⟩ := List.mem_filter.1 hbm
  obtain ⟨hbe, hbo⟩ := hA bx hbxa
  obtain ⟨p, hp⟩ := Int.eq_ofNat_of_zero_le hbo.p0
  have hp60 : p < 60 := by have := (hallF bx hbxa).2.2; omega
  have hQ := QB_some all (set := set1) (by omega) a hbx
  rw [hQ, show bx.v.path.toNat = p by omega] at hout
  have hclt := clr_lt (s := set1) (p := p) (by omega) (by rw [bitOf, show bx.v.path.toNat = p by omega] at hbxb; exact hbxb)
  refine s_ex0 (s_ex1 ?_)
  refine s_nil (s_off (s_ldAt ((hatf26.keep hk27 (by omega)).keep0 hk28) rfl ?_))
  refine ((hsl26.keep hk27 hs17M).keep0 hk28).idx (sz := 7) eC_len hkx fun b o _ _ hc => s_ldA hc rfl ?_
  refine s_var rfl rfl rfl fun b21 w30 hat21 hk30 hb21 hs21 => ?_
  have hk27_30 := hk28.trans hk30
  have hinu : ∀ b, inV u b → w26.heap.size ≤ b ∧ b < w27.heap.size := fun b hb => ⟨Own.inD hou hb, Own.inLt hou hb⟩
  have hsz28 := hk28.size
  refine s_off (s_ldA (cho_v hat21) rfl ?_)
  refine s_push T.sl_visit (y := bx.v) (hou.keep0 hk27_30) rfl rfl rfl (by omega) (by omega) (fun i hi => by show w26.heap.size ≤ i; omega) fun u32 w32 hou32 hk32 hi32 => ?_
  have hat21 := hat21.keep hk32 fun h => by have := hinu _ h; omega
  have hat17_32 := (hat17.keep0 hk27_30).keep hk32 fun h => by have := hinu _ h; omega
  have hsz32 := hk32.size
  refine s_held (fun w' => Keep (· = b17) w32 w') ⟨keep_drew _ _, ?_⟩
  refine s_off (s_ldAS (fun w' h => cho_b (hat21.keep h (by omega))) rfl ?_)
  refine s_off (s_off (s_ldS (fun w' h => by rw [(hat21.keep h (by omega)).cell]; rfl) ?_))
  rw [hp]
  refine s_shl1 (by omega) (s_andNot (by omega) (by omega) ?_)
  refine s_stA (vs := eP bx.b) hat17_32.drew rfl rfl rfl fun w33 hat33 hk33 hs33 => ?_
  have hk33' : Keep (· = b17) w32 w33 := (keep_drew _ _).trans hk33
  refine ⟨hk33', ?_⟩
  have hbb : Nearby bx.b := by rw [hbe]; exact (near_ends hR hbo).2
  refine hnx6 (u32, clr set1 p) w33 ⟨((hk27.trans hk27_30.none).new hk32 fun i hi => .inr (hinu i hi).1).trans hk33', by show clr set1 p ≤ full; omega, out ++ [bx.v], bx.b, ?_, hat33, hbb, ?_, fun v hv => ?_, ?_⟩ hclt
  · refine hou32.keep hk33' fun b hb h => ?_
    rcases hi32 b hb with h' | h'
    · have := hinu b h'; omega
    · omega
  · rw [List.append_assoc]; exact hout
  · rcases List.mem_append.1 hv with h | h
    · exact hook v h
    · simp at h; rw [h]; exact hbo
  · show (out ++ [bx.v]).length + clr set1 p ≤ full
    rw [List.length_append]
    simp only [List.length_cons, List.length_nil]
    omega
end Go.Eng

/-! Plain law: the search finds what the program's ways find. -/
namespace Go.Eng
open Go

def cnds (ps : List Pth) (nx : List Vis → List Int) (o : List Vis) : List Vis := (nx o).flatMap fun i => waysL (pAt ps i) i
def mS (ps : List Pth) (nx : List Vis → List Int) : Nat → List Vis → Pt → Int
  | 0, _, _ => 0
  | f + 1, o, a => least0 (fun v => dist a (frm ps v) + mS ps nx f (o ++ [v]) (tov ps v)) ((cnds ps nx o).foldl (nst fun v => dist a (frm ps v) + mS ps nx f (o ++ [v]) (tov ps v)) none)
def qS (ps : List Pth) (nx : List Vis → List Int) : Nat → List Vis → Pt → List Vis
  | 0, _, _ => []
  | f + 1, o, a => match (cnds ps nx o).foldl (nst fun v => dist a (frm ps v) + mS ps nx f (o ++ [v]) (tov ps v)) none with
    | none => []
    | some v => v :: qS ps nx f (o ++ [v]) (tov ps v)

/-- the state of a search, and one choice -/
def apB {α β : Type} (F : α → Int) (res : α → β) (sum : Int) (st : β × Int) (b : Option α) : β × Int := match b with
  | none => st
  | some u => if 0 ≤ st.2 ∧ st.2 ≤ sum + F u then st else (res u, sum + F u)
theorem apB_step {α β : Type} {F : α → Int} {res : α → β} {sum : Int} {st : β × Int} {b : Option α} {v : α} (hv : 0 ≤ sum + F v) (hb : ∀ u, b = some u → 0 ≤ sum + F u) :
    (if 0 ≤ (apB F res sum st b).2 ∧ (apB F res sum st b).2 ≤ sum + F v then apB F res sum st b else (res v, sum + F v)) = apB F res sum st (nst F b v) := by
  cases b with
  | none => rfl
  | some u =>
    have hu := hb u rfl
    by_cases hc : 0 ≤ st.2 ∧ st.2 ≤ sum + F u
    · have e1 : apB F res sum st (some u) = st := by simp only [apB]; rw [if_pos hc]
      rw [e1]
      simp only [nst]
      by_cases hlt : F v < F u
      · rw [if_pos hlt]; rfl
      · rw [if_neg hlt, e1, if_pos (by omega)]
    · have e1 : apB F res sum st (some u) = (res u, sum + F u) := by simp only [apB]; rw [if_neg hc]
      rw [e1]
      simp only [nst]
      by_cases hlt : F v < F u
      · rw [if_pos hlt, if_neg (by omega)]
        simp only [apB]
        rw [if_neg (by omega)]
      · rw [if_neg hlt, e1, if_pos (by omega)]
theorem fold_best {α β : Type} {F : α → Int} {res : α → β} {sum : Int} {st : β × Int} : ∀ (l : List α) (b : Option α), (∀ v ∈ l, 0 ≤ sum + F v) → (∀ u, b = some u → 0 ≤ sum + F u) →
    l.foldl (fun st v => if 0 ≤ st.2 ∧ st.2 ≤ sum + F v then st else (res v, sum + F v)) (apB F res sum st b) = apB F res sum st (l.foldl (nst F) b)
  | [], b, _, _ => rfl
  | v :: r, b, hl, hb => by
    have hv := hl v (List.mem_cons_self ..)
    rw [List.foldl_cons, List.foldl_cons, apB_step hv hb]
    refine fold_best r _ (fun x hx => hl x (List.mem_cons_of_mem _ hx)) fun u hu => ?_
    unfold nst at hu
    split at hu
    · cases hu; exact hv
    · split at hu
      · cases hu; exact hv
      · exact hb u hu

theorem foldl_congr' {α β : Type} {f g : β → α → β} : ∀ (l : List α) (b : β), (∀ b, ∀ a ∈ l, f b a = g b a) → l.foldl f b = l.foldl g b
  | [], _, _ => rfl
  | a :: r, b, h => by
    rw [List.foldl_cons, List.foldl_cons, h b a (List.mem_cons_self ..)]
    exact foldl_congr' r _ fun b x hx => h b x (List.mem_cons_of_mem _ hx)

/-- what a search may rely on -/
structure NxOk (ps : List Pth) (nx : List Vis → List Int) (I : Nat → List Vis → Prop) : Prop where
  ne : ∀ f o, I (f + 1) o → cnds ps nx o ≠ []
  ok : ∀ f o, I (f + 1) o → ∀ v ∈ cnds ps nx o, VOk ps v ∧ I f (o ++ [v])

theorem mS_pos {ps : List Pth} {nx : List Vis → List Int} {I : Nat → List Vis → Prop} (hR : Rights ps) (hN : NxOk ps nx I) : ∀ (f : Nat) (o : List Vis) (a : Pt), I f o → Nearby a → 0 ≤ mS ps nx f o a
  | 0, _, _, _, _ => by simp [mS]
  | f + 1, o, a, hI, ha => by
    obtain ⟨u, hu, hm⟩ := pick_some (f := fun v => dist a (frm ps v) + mS ps nx f (o ++ [v]) (tov ps v)) (hN.ne f o hI)
    obtain ⟨h1, h2⟩ := hN.ok f o hI u hm
    have hn := near_ends hR h1
    have h3 := mS_pos hR hN f (o ++ [u]) (tov ps u) h2 hn.2
    have h4 := dist_bound ha hn.1
    simp only [mS, hu, least0]
    omega

theorem trav_qS {ps : List Pth} {nx : List Vis → List Int} {I : Nat → List Vis → Prop} (hN : NxOk ps nx I) : ∀ (f : Nat) (o : List Vis) (a : Pt), I f o → trav ps a (qS ps nx f o a) = mS ps nx f o a
  | 0, _, _, _ => by simp [mS, qS, trav]
  | f + 1, o, a, hI => by
    obtain ⟨u, hu, hm⟩ := pick_some (f := fun v => dist a (frm ps v) + mS ps nx f (o ++ [v]) (tov ps v)) (hN.ne f o hI)
    obtain ⟨h1, h2⟩ := hN.ok f o hI u hm
    simp only [mS, qS, hu, least0, trav]
    rw [trav_qS hN f _ _ h2]

theorem tryF_eq {ps : List Pth} {nx : List Vis → List Int} {I : Nat → List Vis → Prop} (hR : Rights ps) (hN : NxOk ps nx I) : ∀ (f : Nat) (o : List Vis) (a : Pt) (sum : Int) (st : List Vis × Int), I f o → Nearby a → 0 ≤ sum →
    tryF ps nx f o a sum st = if 0 ≤ st.2 ∧ st.2 ≤ sum + mS ps nx f o a then st else (o ++ qS ps nx f o a, sum + mS ps nx f o a)
  | 0, o, a, sum, st, _, _, _ => by simp [tryF, mS, qS]
  | f + 1, o, a, sum, st, hI, ha, hs => by
    have hm := mS_pos hR hN (f + 1) o a hI ha
    rw [tryF]
    by_cases hc : 0 ≤ st.2 ∧ st.2 ≤ sum
    · rw [if_pos hc, if_pos (by omega)]
    rw [if_neg hc, ← foldl_flat (fun st v => tryF ps nx f (o ++ [v]) (tov ps v) (sum + dist a (frm ps v)) st) (fun i => waysL (pAt ps i) i) (nx o) st]
    show (cnds ps nx o).foldl _ st = _
    have hF : ∀ v ∈ cnds ps nx o, 0 ≤ dist a (frm ps v) + mS ps nx f (o ++ [v]) (tov ps v) := fun v hv => by
      obtain ⟨h1, h2⟩ := hN.ok f o hI v hv
      have hn := near_ends hR h1
      have h3 := mS_pos hR hN f (o ++ [v]) (tov ps v) h2 hn.2
      have h4 := dist_bound ha hn.1
      omega
    rw [foldl_congr' (g := fun st v => if 0 ≤ st.2 ∧ st.2 ≤ sum + (dist a (frm ps v) + mS ps nx f (o ++ [v]) (tov ps v)) then st else (o ++ v :: qS ps nx f (o ++ [v]) (tov ps v), sum + (dist a (frm ps v) + mS ps nx f (o ++ [v]) (tov ps v))))]
    · have := fold_best (F := fun v => dist a (frm ps v) + mS ps nx f (o ++ [v]) (tov ps v)) (res := fun v => o ++ v :: qS ps nx f (o ++ [v]) (tov ps v)) (sum := sum) (st := st) (cnds ps nx o) none (fun v hv => by have := hF v hv; omega) (fun u hu => by cases hu)
      refine this.trans ?_
      obtain ⟨u, hu, hmem⟩ := pick_some (f := fun v => dist a (frm ps v) + mS ps nx f (o ++ [v]) (tov ps v)) (hN.ne f o hI)
      simp only [mS, qS, hu, apB, least0]
    · intro st v hv
      obtain ⟨h1, h2⟩ := hN.ok f o hI v hv
      have hn := near_ends hR h1
      have h4 := dist_bound ha hn.1
      rw [tryF_eq hR hN f (o ++ [v]) (tov ps v) (sum + dist a (frm ps v)) st h2 hn.2 (by omega)]
      rw [Int.add_assoc, List.append_assoc]; rfl

theorem cnds_ne {ps : List Pth} (hR : Rights ps) {nx : List Vis → List Int} {o : List Vis} {i : Int} (hi : i ∈ nx o) (h0 : 0 ≤ i) (h1 : i < ps.length) : cnds ps nx o ≠ [] := by
  obtain ⟨q, rfl⟩ := Int.eq_ofNat_of_zero_le h0
  obtain ⟨p, hp⟩ := idx_of_lt (show q < ps.length by omega)
  have hne := ways_ne (p := p) (i := q) (hR.ne p (List.mem_of_getElem? hp))
  obtain ⟨v, hv⟩ := idx_of_lt hne
  intro h
  have : v ∈ cnds ps nx o := List.mem_flatMap.2 ⟨q, hi, by rw [pAt_get hp]; exact List.mem_of_getElem? hv⟩
  rw [h] at this; simp at this

/-! ### the best order -/
theorem nxLeft {ps : List Pth} (hR : Rights ps) : NxOk ps (leftL ps.length) (fun f o => (leftL ps.length o).length = f) := {
  ne := fun f o h => by
    cases hl : leftL ps.length o with
    | nil => rw [hl] at h; simp at h
    | cons i r =>
      have hi : i ∈ leftL ps.length o := by rw [hl]; exact List.mem_cons_self ..
      exact cnds_ne hR hi (leftL_range i hi).1 (leftL_range i hi).2
  ok := fun f o h v hv => by
    obtain ⟨i, hi, hv⟩ := List.mem_flatMap.1 hv
    obtain ⟨h1, h2⟩ := ways_ok hR (leftL_range i hi).1 (leftL_range i hi).2 hv
    refine ⟨h1, ?_⟩
    have := leftL_len_snoc (n := ps.length) (o := o) (v := v) (by rw [h2]; exact hi)
    omega }

theorem filter_all {ps : List Pth} (hR : Rights ps) {o : List Vis} {set : Nat} (hb : ∀ i : Nat, i < ps.length → (set.testBit i = true ↔ (i : Int) ∈ leftL ps.length o)) :
    (allC ps).filter (bitOf set) = (cnds ps (leftL ps.length) o).map (cho ps) := by
  have h1 : ∀ n, n ≤ ps.length → ((List.range n).flatMap fun (i : Nat) => choL ps i).filter (bitOf set) = ((leftL n o).flatMap fun i => waysL (pAt ps i) i).map (cho ps) := by
    intro n
    induction n with
    | zero => intro _; rfl
    | succ n ih =>
      intro hn
      rw [List.range_succ, List.flatMap_append, List.filter_append, ih (by omega), leftL_succ, List.flatMap_append, List.map_append]
      congr 1
      simp only [List.flatMap_cons, List.flatMap_nil, List.append_nil]
      have hbn := hb n (by omega)
      have hmem : ((n : Int) ∈ leftL ps.length o) ↔ o.any (fun v => decide (v.path = (n : Int))) = false := by
        rw [mem_leftL, List.any_eq_false]
        constructor
        · rintro ⟨_, h⟩ v hv; simpa using h v hv
        · intro h
          exact ⟨by omega, fun v hv => by simpa using h v hv⟩
      have hpath : ∀ x ∈ choL ps (n : Int), bitOf set x = set.testBit n := fun x hx => by
        obtain ⟨v, hv, rfl⟩ := List.mem_map.1 hx
        have := (ways_ok hR (show (0 : Int) ≤ (n : Int) by omega) (by omega) hv).2
        show set.testBit v.path.toNat = _
        rw [this]; rfl
      by_cases ha : o.any (fun v => decide (v.path = (n : Int))) = true
      · rw [if_pos ha]
        have hf : set.testBit n = false := by
          cases hh : set.testBit n with
          | false => rfl
          | true => have := hmem.1 (hbn.1 hh); rw [ha] at this; cases this
        rw [List.filter_eq_nil_iff.2 (fun x hx => by rw [hpath x hx, hf]; simp)]
        rfl
      · have ha : o.any (fun v => decide (v.path = (n : Int))) = false := by simpa using ha
        rw [if_neg (by rw [ha]; simp)]
        have hf : set.testBit n = true := hbn.2 (hmem.2 ha)
        rw [List.filter_eq_self.2 (fun x hx => by rw [hpath x hx, hf])]
        simp [choL]
  exact h1 ps.length (Nat.le_refl _)

theorem best_eq {ps : List Pth} (hR : Rights ps) (h6 : ps.length ≤ 60) : ∀ (f : Nat) (o : List Vis) (set : Nat) (a : Pt), (leftL ps.length o).length = f → set < 2 ^ ps.length →
    (∀ i : Nat, i < ps.length → (set.testBit i = true ↔ (i : Int) ∈ leftL ps.length o)) → RB (allC ps) set a = mS ps (leftL ps.length) f o a ∧ QB (allC ps) set a = qS ps (leftL ps.length) f o a := by
  have hpow : 2 ^ ps.length ≤ 2 ^ 60 := Nat.pow_le_pow_right (by omega) h6
  have e60 : (2 : Nat) ^ 60 = 1152921504606846976 := by decide
  intro f
  induction f with
  | zero =>
    intro o set a hl hs hb
    have h0 : set = 0 := by
      rcases Nat.eq_zero_or_pos set with h | h
      · exact h
      · obtain ⟨i, hi⟩ := Nat.exists_testBit_of_ne_zero (show set ≠ 0 by omega)
        have hip : i < ps.length := by
          rcases Nat.lt_or_ge i ps.length with h | h
          · exact h
          · have h2 : set < 2 ^ i := by
              have := Nat.pow_le_pow_right (n := 2) (by omega) h
              omega
            rw [Nat.testBit_lt_two_pow h2] at hi; cases hi
        have := (hb i hip).1 hi
        rw [List.length_eq_zero_iff.1 hl] at this; simp at this
    subst h0
    exact ⟨rfl, rfl⟩
  | succ f ih =>
    intro o set a hl hs hb
    have hs62 : set < 4611686018427387904 := by omega
    have hN := nxLeft hR
    have hstep : ∀ v ∈ cnds ps (leftL ps.length) o, RB (allC ps) (clr set v.path.toNat) (tov ps v) = mS ps (leftL ps.length) f (o ++ [v]) (tov ps v) ∧ QB (allC ps) (clr set v.path.toNat) (tov ps v) = qS ps (leftL ps.length) f (o ++ [v]) (tov ps v) := fun v hv => by
      obtain ⟨h1, h2⟩ := hN.ok f o hl v hv
      refine ih (o ++ [v]) (clr set v.path.toNat) (tov ps v) h2 (by have := clr_le (s := set) (p := v.path.toNat) hs62; omega) fun i hi => ?_
      rw [clr_bit hs62, leftL_snoc, List.mem_filter, Bool.and_eq_true, hb i hi]
      have h0 := h1.p0
      constructor
      · rintro ⟨g1, g2⟩
        refine ⟨g1, ?_⟩
        simp at g2 ⊢
        omega
      · rintro ⟨g1, g2⟩
        refine ⟨g1, ?_⟩
        simp at g2 ⊢
        omega
    have hfa := filter_all hR hb
    have hmap := nst_map (fun x : Cho => dist a x.a + RB (allC ps) (clr set x.v.path.toNat) x.b) (cho ps) (cnds ps (leftL ps.length) o) none
    have hcong := nst_congr (f := fun v => dist a (cho ps v).a + RB (allC ps) (clr set (cho ps v).v.path.toNat) (cho ps v).b) (g := fun v => dist a (frm ps v) + mS ps (leftL ps.length) f (o ++ [v]) (tov ps v))
      (cnds ps (leftL ps.length) o) none (fun v hv => by
        show dist a (frm ps v) + RB (allC ps) (clr set v.path.toNat) (tov ps v) = _
        rw [(hstep v hv).1]) (fun u hu => by cases hu)
    rw [hcong] at hmap
    obtain ⟨u, hu, hm⟩ := pick_some (f := fun v => dist a (frm ps v) + mS ps (leftL ps.length) f (o ++ [v]) (tov ps v)) (hN.ne f o hl)
    rw [hu] at hmap
    have hpick : ((allC ps).filter (bitOf set)).foldl (nst fun x => dist a x.a + RB (allC ps) (clr set x.v.path.toNat) x.b) none = some (cho ps u) := by rw [hfa]; exact hmap
    constructor
    · rw [RB_eq (allC ps) hs62, hpick, mS, hu]
      show dist a (frm ps u) + RB (allC ps) (clr set u.path.toNat) (tov ps u) = _
      rw [(hstep u hm).1]; rfl
    · rw [QB_some (allC ps) hs62 a hpick, qS, hu]
      show u :: QB (allC ps) (clr set u.path.toNat) (tov ps u) = _
      rw [(hstep u hm).2]

theorem bestS_eq {ps : List Pth} (hR : Rights ps) (h6 : ps.length ≤ 60) {s : Pt} (hs : Nearby s) :
    bestS ps s = (QB (allC ps) (2 ^ ps.length - 1) s, trav ps s (QB (allC ps) (2 ^ ps.length - 1) s)) := by
  have hN := nxLeft hR
  have hI : (leftL ps.length []).length = ps.length := by rw [leftL_nil]; simp
  have hp : 0 < 2 ^ ps.length := Nat.two_pow_pos _
  have h := best_eq hR h6 ps.length [] (2 ^ ps.length - 1) s hI (by omega) fun i hi => by
    rw [Nat.testBit_two_pow_sub_one, leftL_nil]
    simp [hi]
    exact ⟨i, hi, rfl⟩
  unfold bestS
  rw [tryF_eq hR hN ps.length [] s 0 ([], -1) hI hs (by omega), if_neg (by simp), h.2, trav_qS hN _ _ _ hI]
  simp

/-! ### an order that is begun -/
theorem nextI_one {order : List Int} {o : List Vis} (h : o.length < order.length) : ∃ x, order[o.length]? = some x ∧ nextI order o = [x] := by
  obtain ⟨x, hx⟩ := idx_of_lt h
  refine ⟨x, hx, ?_⟩
  unfold nextI
  rw [take_snoc hx, List.drop_append_of_le_length (by rw [List.length_take]; omega), List.drop_eq_nil_of_le (by rw [List.length_take]; omega)]
  rfl
theorem nxNext {ps : List Pth} (hR : Rights ps) {order : List Int} (hr : ∀ i ∈ order, 0 ≤ i ∧ i < ps.length) : NxOk ps (nextI order) (fun f o => f + o.length = order.length) := {
  ne := fun f o h => by
    obtain ⟨x, hx, hn⟩ := nextI_one (order := order) (o := o) (by omega)
    have := hr x (List.mem_of_getElem? hx)
    exact cnds_ne hR (i := x) (by rw [hn]; simp) this.1 this.2
  ok := fun f o h v hv => by
    obtain ⟨x, hx, hn⟩ := nextI_one (order := order) (o := o) (by omega)
    have hxr := hr x (List.mem_of_getElem? hx)
    obtain ⟨i, hi, hv⟩ := List.mem_flatMap.1 hv
    rw [hn] at hi
    simp at hi
    subst hi
    exact ⟨(ways_ok hR hxr.1 hxr.2 hv).1, by rw [List.length_append]; simp; omega⟩ }

theorem cnds_next {ps : List Pth} {order : List Int} {o : List Vis} (h : o.length < order.length) : cnds ps (nextI order) o = (stgs ps order).getD o.length [] := by
  obtain ⟨x, hx, hn⟩ := nextI_one h
  unfold cnds
  rw [hn, List.getD, stgs, List.getElem?_map, hx]
  simp
theorem rest_eq {ps : List Pth} {order : List Int} : ∀ (f : Nat) (o : List Vis) (a : Pt), f + o.length = order.length → mS ps (nextI order) f o a = rest ps ((stgs ps order).drop o.length) a
  | 0, o, a, h => by
    rw [List.drop_eq_nil_of_le (by rw [stgs, List.length_map]; omega)]; rfl
  | f + 1, o, a, h => by
    have hlt : o.length < (stgs ps order).length := by rw [stgs, List.length_map]; omega
    have hd : (stgs ps order).drop o.length = (stgs ps order).getD o.length [] :: (stgs ps order).drop (o.length + 1) := by
      rw [List.drop_eq_getElem_cons hlt]
      congr 1
      rw [List.getD, List.getElem?_eq_getElem hlt]; rfl
    rw [mS, hd, rest, cnds_next (by omega)]
    refine least0_congr fun v hv => ?_
    rw [rest_eq f (o ++ [v]) (tov ps v) (by rw [List.length_append]; simp; omega), List.length_append]
    rfl
theorem begN_eq {ps : List Pth} {order : List Int} (hok : StOk ps (stgs ps order)) (s : Pt) : ∀ (f k : Nat), f + k = order.length →
    begN ps s (stgs ps order) order.length = begN ps s (stgs ps order) k ++ qS ps (nextI order) f (begN ps s (stgs ps order) k) (lastPt ps s (begN ps s (stgs ps order) k))
  | 0, k, h => by
    have : k = order.length := by omega
    subst this; simp [qS]
  | f + 1, k, h => by
    have hl : (stgs ps order).length = order.length := by rw [stgs, List.length_map]
    obtain ⟨hk, _⟩ := begN_facts (ps := ps) s hok k (by omega)
    rw [begN_eq hok s f (k + 1) (by omega)]
    obtain ⟨hne, _⟩ := hok _ (List.mem_of_getElem? (getD_get (l := stgs ps order) (i := k) (d := []) (by omega)))
    have hf : (fun v => dist (lastPt ps s (begN ps s (stgs ps order) k)) (frm ps v) + mS ps (nextI order) f (begN ps s (stgs ps order) k ++ [v]) (tov ps v)) =
        fun v => dist (lastPt ps s (begN ps s (stgs ps order) k)) (frm ps v) + rest ps ((stgs ps order).drop (k + 1)) (tov ps v) := by
      funext v
      rw [rest_eq f _ _ (by rw [List.length_append, hk]; simp; omega), List.length_append, hk]
      rfl
    obtain ⟨u, hu, _⟩ := pick_some (f := fun v => dist (lastPt ps s (begN ps s (stgs ps order) k)) (frm ps v) + rest ps ((stgs ps order).drop (k + 1)) (tov ps v)) hne
    have hb1 : begN ps s (stgs ps order) (k + 1) = begN ps s (stgs ps order) k ++ [u] := by
      simp only [begN, hu, Option.getD_some]
    rw [qS, cnds_next (by omega), hk, hf, hu, hb1, lastP_snoc, List.append_assoc]
    rfl

theorem begunS_eq {ps : List Pth} (hR : Rights ps) {order : List Int} (hl : order.length = ps.length) (hr : ∀ i ∈ order, 0 ≤ i ∧ i < ps.length) {s : Pt} (hs : Nearby s) :
    begunS ps order s = (begN ps s (stgs ps order) ps.length, trav ps s (begN ps s (stgs ps order) ps.length)) := by
  have hN := nxNext hR hr
  have hI : ps.length + ([] : List Vis).length = order.length := by simp [hl]
  have h := begN_eq (stgs_ok hR hr) s ps.length 0 (by omega)
  rw [hl] at h
  have h' : begN ps s (stgs ps order) ps.length = qS ps (nextI order) ps.length [] s := by rw [h]; simp [begN, lastPt]
  unfold begunS
  rw [tryF_eq hR hN ps.length [] s 0 ([], -1) hI hs (by omega), if_neg (by simp), h', trav_qS hN _ _ _ hI]
  simp
end Go.Eng

/-! Contracts: what is equal; how long paths are. -/
namespace Go.Eng
open Go
variable {c : Cfg}

end Go.Eng

/-! Contracts: points, orders and indices from the stream. -/
namespace Go.Eng
open Go
variable {c : Cfg}

end Go.Eng

/-! Contracts: orders and indices from the stream. -/
namespace Go.Eng
open Go
variable {c : Cfg}

end Go.Eng

/-! Contract: paths from the stream. -/
namespace Go.Eng
open Go
variable {c : Cfg}

def eQ (x : Value × Pth) : List Value := [x.1, .bool x.2.closed]
theorem eQ_len : ∀ {l : List (Value × Pth)}, ∀ x ∈ l, (eQ x).length = 2 := fun _ _ => rfl

/-- paths that are made -/
structure PLs (c : Cfg) (w0 : World) (w : World) (v : Value) (l : List (Value × Pth)) : Prop where
  ow : Ow (Fresh w0) c.t_api_Path 2 eQ w v l
  pts : ∀ x ∈ l, Sl (fun b => w0.heap.size ≤ b ∧ ¬ inV v b) eP w x.1 x.2.pts

theorem PLs.slp {w0 w : World} {v : Value} {l : List (Value × Pth)} (h : PLs c w0 w v l) : SlP (Fresh w0) w v (l.map (·.2)) := by
  refine ⟨l.map eQ, by simp, ?_, fun i cc p hc hp => ?_⟩
  · obtain ⟨a, cap, h1, h2, h3⟩ := h.ow.sl
    refine ⟨a, cap, by simpa using h1, by simpa using h2, fun hne => ?_⟩
    obtain ⟨b, o, e1, e2, e3, e4⟩ := h3 (fun hh => hne (by rw [hh]; rfl))
    exact ⟨b, o, e1, e2, e3, by simpa [List.flatMap_map] using e4⟩
  · rw [List.getElem?_map] at hc hp
    cases hx : l[i]? with
    | none => rw [hx] at hc; cases hc
    | some x =>
      rw [hx] at hc hp
      cases hc; cases hp
      exact ⟨x.1, rfl, (h.pts x (List.mem_of_getElem? hx)).dom fun b hb => hb.1⟩

theorem PLs.keep {w0 w w' : World} {v : Value} {l : List (Value × Pth)} {M : Nat → Prop} (h : PLs c w0 w v l) (k : Keep M w w') (hm : ∀ b, M b → b < w0.heap.size ∨ w.heap.size ≤ b) : PLs c w0 w' v l := by
  refine ⟨h.ow.keep k fun b hb hM => ?_, fun x hx => ?_⟩
  · have h1 : w0.heap.size ≤ b := Own.inD h.ow hb
    have h2 := Own.inLt h.ow hb
    rcases hm b hM with h' | h' <;> omega
  · exact ((h.pts x hx).old.keep k fun b hb hM => by
      have h1 := hb.1.1
      have h2 := hb.2
      rcases hm b hM with h' | h' <;> omega).dom fun b hb => hb.1

theorem pickF_spec (E : Eqs c) {sb k : Nat} {u : Value} {l : List Int} {w : World} {D : Nat → Prop} {K : Value → World → Prop} (hl : Sl D eI w u l) (hne : l ≠ []) (hlen : l.length ≤ 1000) (hD : ∀ b, D b → b ≠ sb) (hs : SOk c w sb (k + 1))
    (hK : ∀ r w', SOk c w' sb k → Keep (· = sb) w w' → K (vi r) w') : Ret c.P c.f_p_blmake_Stream_Pick #[pb sb 0, u] w K := by
  refine (pick_spec E sb k D u l w hne (by omega) hD hl hs).mono ?_
  rintro v w' ⟨r, rfl, _, h1, h2⟩
  exact hK r w' h1 h2

theorem set2_flat {l : List (Value × Pth)} {q : Nat} (hq : q < l.length) (y : Value × Pth) (sp : List Value) :
    (((l.flatMap eQ ++ sp).set (q * 2 + 1) (.bool y.2.closed)).set (q * 2) y.1) = (l.set q y).flatMap eQ ++ sp := by
  have hl := flat_len l (eQ_len (l := l))
  have hl' := flat_len (l.set q y) (eQ_len (l := l.set q y))
  rw [List.length_set] at hl'
  apply List.ext_getElem?
  intro j
  simp only [List.getElem?_set, List.length_set, List.length_append]
  by_cases h1 : q * 2 = j
  · subst h1
    rw [if_pos rfl, if_pos (by omega), List.getElem?_append_left (by omega), flat_set (eQ_len (l := l)) (by omega) hq rfl, if_pos (by omega)]
    simp [eQ]
  · rw [if_neg h1]
    by_cases h2 : q * 2 + 1 = j
    · subst h2
      rw [if_pos rfl, if_pos (by omega), List.getElem?_append_left (by omega), flat_set (eQ_len (l := l)) (by omega) hq rfl, if_pos (by omega)]
      rw [show q * 2 + 1 - q * 2 = 1 by omega]; rfl
    · rw [if_neg h2]
      by_cases h3 : j < l.length * 2
      · rw [List.getElem?_append_left (by omega), List.getElem?_append_left (by omega), flat_set (eQ_len (l := l)) (by omega) hq rfl, if_neg (by omega)]
      · rw [List.getElem?_append_right (by omega), List.getElem?_append_right (by omega), hl, hl']

theorem pathList_spec (E : Eqs c) (T : Ty c) {sb k m : Nat} {w : World} (hm : m ≤ 1000) (hs : SOk c w sb (k + 10 * m + 8)) :
    Ret c.P c.f_p_blmake_Stream_PathList #[pb sb 0, vi m] w fun v w' => ∃ ps : List Pth, ps.length ≤ m ∧ SlP (Fresh w) w' v ps ∧ SOk c w' sb k ∧ Keep (· = sb) w w' := by
  have hsb := hs.lt
  obtain ⟨eS, hTS⟩ := T.ssl_pt
  apply E.p_blmake_Stream_PathList
  unfold wp_p_blmake_Stream_PathList
  refine (range_spec E sb (k + 10 * m + 7) 0 m w (by omega) (by omega) (by omega) hs).mono ?_
  rintro v10 w1 ⟨n0, rfl, hn0, hn1, hs1, hk1⟩
  obtain ⟨n, rfl⟩ := Int.eq_ofNat_of_zero_le hn0
  have hnm : n ≤ m := by omega
  have hsz1 := hk1.size
  refine s_for n (fun i (u : Value) => [u, vi i]) (fun i u w' => ∃ l, l.length = i ∧ PLs c w w' u l ∧ Keep (· = sb) w w' ∧ SOk c w' sb (k + 10 * (m - i) + 7)) (.slice none 0 0) rfl
    ⟨[], rfl, ⟨Ow.nil, by simp⟩, hk1, hs1⟩ ?_
  rintro i u w2 j nx ⟨l, hl, hP, hk2, hs2⟩ hin hnx
  have hsz2 := hk2.size
  refine s_lss (s_condD (fun hlt => ?_) fun hge => ?_)
  · have hil := ofInt_lt hlt
    refine s_new (cs := [.slice none 0 0, .bool false]) fun b6 w3 hat6 hk3 hb6 hs6 => ?_
    refine (range_spec E sb (k + 10 * (m - (i + 1)) + 16) 1 4 w3 (by omega) (by omega) (by omega) (by rw [show k + 10 * (m - (i + 1)) + 16 + 1 = k + 10 * (m - i) + 7 by omega]; exact hs2.keep hk3)).mono ?_
    rintro v14 w4 ⟨z, rfl, hz0, hz1, hs4, hk4⟩
    obtain ⟨z, rfl⟩ := Int.eq_ofNat_of_zero_le (show 0 ≤ z by omega)
    have hz4 : z ≤ 4 := by omega
    generalize hB : k + 10 * (m - (i + 1)) = B at *
    refine s_range z (fun q w' => Keep (fun b => b = sb ∨ b = b6) w3 w' ∧ SOk c w' sb (B + 16 - 2 * q) ∧ ∃ pv pts, pts.length = q ∧ At w' b6 [pv, .bool false] c.t_api_Path ∧ Ow (Fresh w3) c.t_api_Point 2 eP w' pv pts)
      ⟨hk4.mono fun b h => .inl h, hs4, .slice none 0 0, [], rfl, hat6.keep hk4 (by omega), Ow.nil⟩ ?_
    rintro q w5 j2 nx2 ⟨hk5, hs5, pv, pts, hpl, hat5, hop⟩ hqn hnx2
    have hsz5 := hk5.size
    have hinp : ∀ b, inV pv b → w3.heap.size ≤ b ∧ b < w5.heap.size := fun b hb => ⟨Own.inD hop hb, Own.inLt hop hb⟩
    refine s_lss (s_condD (fun hlt2 => ?_) fun hge2 => ?_)
    · have hql := ofInt_lt hlt2
      refine s_joinM (fun vs w' => Keep (fun b => b = sb ∨ b = b6) w3 w' ∧ SOk c w' sb (B + 16 - 2 * (q + 1)) ∧ ∃ pv pts, pts.length = q + 1 ∧ At w' b6 [pv, .bool false] c.t_api_Path ∧ Ow (Fresh w3) c.t_api_Point 2 eP w' pv pts) ?_ ?_
      · refine s_held (fun w' => Keep (· = sb) w5 w') ⟨keep_drew _ _, ?_⟩
        refine s_off (s_ldS (fun w' h => by rw [(hat5.keep h (by omega)).cell]; rfl) ?_)
        have hpush : ∀ (x y : Int) (w10 : World), Keep (· = sb) w5 w10 → SOk c w10 sb (B + 16 - 2 * (q + 1)) → pureP c.P (Instr.build c.t_api_Point #[(0, vi x), (1, vi y)]) fun v25 =>
            semP c.P (Instr.buildSlice c.t_sl_api_Point 1 #[(0, v25)]) w10 fun v26 w11 => Keep (· = sb) w5 w11 ∧ semP c.P (Builtin.append_ #[c.t_sl_api_Point, c.t_sl_api_Point] c.t_sl_api_Point #[pv, v26]) w11 fun v27 w12 =>
              offP 0 (pb b6 0) fun v28 => st v28 v27 w12 fun w' => Keep (fun b => b = sb ∨ b = b6) w3 w' ∧ SOk c w' sb (B + 16 - 2 * (q + 1)) ∧ ∃ pv pts, pts.length = q + 1 ∧ At w' b6 [pv, .bool false] c.t_api_Path ∧ Ow (Fresh w3) c.t_api_Point 2 eP w' pv pts := fun x y w10 hk10 hs10 => by
          refine s_build T.st_point (cells := eP ⟨x, y⟩) rfl ?_
          refine s_lit (w := w10) T.sl_pt [.agg (eP ⟨x, y⟩).toArray] [(⟨x, y⟩ : Pt)] rfl rfl rfl eP_lenS (by omega) (by omega) fun b11 w11 hg11 hk11 _ => ⟨hk10.trans hk11.none, ?_⟩
          have hsz10 := hk10.size
          refine s_append T.sl_pt ((hop.keep hk10 fun b hb h => by have := hinp b hb; omega).keep0 hk11) (hg11.sl.src eP_lenS) rfl (by simp; omega) (fun i hi => by have := hk11.size; show w3.heap.size ≤ i; omega) fun v12 w12 ho12 hk12 hi12 _ => ?_
          have hsz11 := hk11.size
          have hat12 := ((hat5.keep hk10 (by omega)).keep0 hk11).keep hk12 fun h => by have := hinp _ h; omega
          have ho12' : Ow (Fresh w3) c.t_api_Point 2 eP w12 v12 (pts ++ [⟨x, y⟩]) := by
            unfold Ow
            rw [List.length_append, List.flatMap_append]; exact ho12
          refine s_off (s_st hat12 (by simp) ho12'.one fun w13 hat13 hk13 _ => ?_)
          refine ⟨((((hk5.trans (hk10.mono fun b h => .inl h)).trans hk11.none).new hk12 fun i hi => .inr (hinp i hi).1).trans (hk13.mono fun b h => .inr h)), ?_, v12, _, by simp [hpl], hat13, ho12'.keep hk13 fun b hb h => ?_⟩
          · exact ((hs10.keep hk11).keepM hk12 fun b hb => by have := hinp b hb; omega).keepM hk13 fun b hb => by omega
          · rcases hi12 b hb with h' | h'
            · have := hinp b h'; omega
            · omega
        have hfr : ∀ w', Keep (· = sb) w5 w' → ∀ b, Fresh w' b → b ≠ sb := fun w' h b hb e => by have hb : w'.heap.size ≤ b := hb; have := h.size; omega
        have hb1 : B + 16 - 2 * q = B + 16 - 2 * (q + 1) + 1 + 1 := by omega
        rw [hb1] at hs5
        constructor
        · refine s_lit (w := w5.drew) T.sl_int [vi 0, vi 1, vi 2, vi 5, vi 9] [0, 1, 2, 5, 9] rfl rfl rfl eI_len (by omega) (by omega) fun b7 w7 hg7 hk7 _ => ?_
          have hk7' : Keep (· = sb) w5 w7 := (keep_drew _ _).trans hk7.none
          have hs7 : SOk c w7 sb _ := hs5.keep ((keep_drew _ _).trans hk7)
          refine ⟨hk7', ?_, ?_⟩
          · refine pickF_spec E hg7.sl (by simp) (by simp) (hfr _ (keep_drew _ _)) hs7 fun x w8 hs8 hk8 => ⟨hk7'.trans hk8, ?_⟩
            refine s_lit (w := w8) T.sl_int [vi 0, vi 0, vi 1, vi 4] [0, 0, 1, 4] rfl rfl rfl eI_len (by omega) (by omega) fun b9 w9 hg9 hk9 _ => ?_
            have hk9' := (hk7'.trans hk8).trans hk9.none
            refine ⟨hk9', pickF_spec E hg9.sl (by simp) (by simp) (hfr _ (hk7'.trans hk8)) (hs8.keep hk9) fun y w10 hs10 hk10 => ⟨hk9'.trans hk10, hpush x y w10 (hk9'.trans hk10) hs10⟩⟩
          · refine s_lit (w := w7) T.sl_int [vi 0, vi 0, vi 1, vi 4] [0, 0, 1, 4] rfl rfl rfl eI_len (by omega) (by omega) fun b9 w14 hg9 hk14 _ => ?_
            have hk14' := hk7'.trans hk14.none
            refine ⟨hk14', pickF_spec E (hg7.sl.keep0 hk14) (by simp) (by simp) (hfr _ (keep_drew _ _)) (hs7.keep hk14) fun x w15 hs15 hk15 => ⟨hk14'.trans hk15, ?_⟩⟩
            refine pickF_spec E (hg9.sl.keep hk15 fun b hb h => hfr _ hk7' b hb h) (by simp) (by simp) (hfr _ hk7') hs15 fun y w16 hs16 hk16 => ⟨(hk14'.trans hk15).trans hk16, hpush x y w16 ((hk14'.trans hk15).trans hk16) hs16⟩
        · refine s_lit (w := w5.drew) T.sl_int [vi 0, vi 0, vi 1, vi 4] [0, 0, 1, 4] rfl rfl rfl eI_len (by omega) (by omega) fun b9 w20 hg9 hk20 _ => ?_
          have hk20' : Keep (· = sb) w5 w20 := (keep_drew _ _).trans hk20.none
          refine ⟨hk20', ?_⟩
          refine s_lit (w := w20) T.sl_int [vi 0, vi 1, vi 2, vi 5, vi 9] [0, 1, 2, 5, 9] rfl rfl rfl eI_len (by omega) (by omega) fun b7 w21 hg7 hk21 _ => ?_
          have hk21' := hk20'.trans hk21.none
          refine ⟨hk21', pickF_spec E hg7.sl (by simp) (by simp) (hfr _ hk20') (hs5.keep (((keep_drew _ _).trans hk20).trans hk21)) fun x w22 hs22 hk22 => ⟨hk21'.trans hk22, ?_⟩⟩
          refine pickF_spec E ((hg9.sl.keep0 hk21).keep hk22 fun b hb h => hfr w5.drew (keep_drew _ _) b hb h) (by simp) (by simp) (hfr w5.drew (keep_drew _ _)) hs22 fun y w23 hs23 hk23 => ⟨(hk21'.trans hk22).trans hk23, hpush x y w23 ((hk21'.trans hk22).trans hk23) hs23⟩
      rintro vs j3 w6 ⟨h1, h2, h3⟩
      exact s_add (by omega) (by omega) (hnx2 w6 hql ⟨h1, h2, h3⟩)
    · have hq : q = z := by omega
      refine s_joinM (fun vs w' => Keep (fun b => b = sb ∨ b = b6) w3 w' ∧ SOk c w' sb (B + 7) ∧ ∃ r : Bool, At w' b6 [pv, .bool r] c.t_api_Path ∧ Ow (Fresh w3) c.t_api_Point 2 eP w' pv pts) ?_ ?_
      · refine s_off (s_ldAt hat5 rfl (hop.len (s_gtr (s_guardT (fun _ => ?_) fun _ => ?_))))
        · refine (flip_spec E sb (B + 7) 2 w5 (by omega) (hs5.less (by omega))).mono ?_
          rintro v w28 ⟨r, rfl, hs28, hk28⟩
          refine s_off (s_st (hat5.keep hk28 (by omega)) (by simp) rfl fun w29 hat29 hk29 _ => ?_)
          exact ⟨(hk5.trans (hk28.mono fun b h => .inl h)).trans (hk29.mono fun b h => .inr h), hs28.keepM hk29 fun b hb => by omega, r, hat29,
            (hop.keep hk28 fun b hb h => by have := hinp b hb; omega).keep hk29 fun b hb h => by have := hinp b hb; omega⟩
        · refine s_off (s_st hat5 (by simp) rfl fun w30 hat30 hk30 _ => ?_)
          exact ⟨hk5.trans (hk30.mono fun b h => .inr h), (hs5.less (by omega)).keepM hk30 fun b hb => by omega, false, hat30, hop.keep hk30 fun b hb h => by have := hinp b hb; omega⟩
      rintro vs j3 w27 ⟨hk27, hs27, r, hat27, hop27⟩
      refine s_ldAAt hat27 rfl ?_
      have hk2_27 : Keep (· = sb) w2 w27 := hk3.none.new hk27 fun i hi => by
        rcases hi with h | h
        · exact .inl h
        · exact .inr (by omega)
      have hsz27 := hk2_27.size
      have hP27 := hP.keep hk2_27 fun b hb => .inl (by omega)
      have hinu : ∀ b, inV u b → w.heap.size ≤ b ∧ b < w2.heap.size := fun b hb => ⟨Own.inD hP.ow hb, Own.inLt hP.ow hb⟩
      refine s_push T.sl_path (y := (pv, (⟨pts, r⟩ : Pth))) hP27.ow rfl rfl (one_path hop27.sl) (by omega) (by omega) (fun i hi => by show w.heap.size ≤ i; omega) fun v32 w32 ho32 hk32 hi32 => ?_
      refine s_add (by omega) (by omega) (hnx v32 w32 hil ⟨_, by simp [hl], ⟨ho32, fun x hx => ?_⟩, (hk2.trans hk2_27).new hk32 fun i hi => .inr (hinu i hi).1, ?_⟩)
      · rcases List.mem_append.1 hx with h | h
        · exact ((hP27.pts x h).old.keep hk32 fun b hb h' => hb.1.2 h').dom fun b hb => ⟨hb.1.1, fun h' => by
            rcases hi32 b h' with h'' | h''
            · exact hb.1.2 h''
            · have := hb.2; omega⟩
        · simp at h; subst h
          exact (hop27.sl.old.keep hk32 fun b hb h' => by have := hinu b h'; have hb : w3.heap.size ≤ b := hb.1; omega).dom fun b hb => by
            have hb1 : w3.heap.size ≤ b := hb.1
            refine ⟨by omega, fun h' => ?_⟩
            rcases hi32 b h' with h'' | h''
            · have := hinu b h''; omega
            · have := hb.2; omega
      · exact hs27.keepM hk32 fun b hb => by have := hinu b hb; omega
  · have hi : i = n := by omega
    refine s_joinM (fun vs w' => ∃ r : Bool, vs = [.bool r] ∧ (r = true → 0 < l.length) ∧ Keep (· = sb) w2 w' ∧ SOk c w' sb (k + 6)) ?_ ?_
    · refine hP.ow.len (s_gtr (s_guardT (fun h => ?_) fun h => ⟨false, rfl, (fun h => by cases h), Keep.refl _ _, hs2.less (by omega)⟩))
      have h : (0 : Int) < l.length := by simpa using h
      refine (flip_spec E sb (k + 6) 15 w2 (by omega) (hs2.less (by omega))).mono ?_
      rintro v w3 ⟨r, rfl, hs3, hk3⟩
      exact ⟨r, rfl, fun _ => by omega, hk3, hs3⟩
    rintro vs j2 w33 ⟨r, rfl, hr, hk33, hs33⟩
    have hP33 := hP.keep hk33 fun b hb => .inl (by omega)
    have hk_33 := hk2.trans hk33
    have hsz33 := hk33.size
    refine s_join (s_cond (fun hb => ?_) fun _ => ?_)
    rotate_left
    · intro j3
      exact ⟨l.map (fun x : Value × Pth => x.2), by simp; omega, hP33.slp, hs33.less (by omega), hk_33⟩
    have hl0 := hr hb
    refine hP33.ow.len ?_
    refine (next_spec E sb (k + 5) _ w33 (by omega) hs33).mono ?_
    rintro v55 w36 ⟨x, rfl, hx, _, hs36, hk36⟩
    obtain ⟨hx0, hx1⟩ := hx (by omega)
    obtain ⟨q, rfl⟩ := Int.eq_ofNat_of_zero_le hx0
    have hql : q < l.length := by omega
    have hP36 := hP33.keep hk36 fun b hb => .inl (by omega)
    obtain ⟨⟨hc1, hc2⟩, ⟨rfl, h3⟩ | ⟨bo, cap, sp, rfl, hbo, hato, hcap, hlc⟩⟩ := hP36.ow
    · omega
    refine s_idx (by omega) (by omega) ?_
    rw [Int.toNat_natCast, Nat.zero_add]
    have hsz36 := hk36.size
    have hbolt := hato.lt
    have hbo : w.heap.size ≤ bo := hbo
    refine (flip_spec E sb (k + 4) 2 w36 (by omega) hs36).mono ?_
    rintro v60 w37 ⟨cl, rfl, hs37, hk37⟩
    refine s_build T.st_point (cells := eP ⟨1, 0⟩) rfl ?_
    refine s_lit (w := w37) T.sl_pt [.agg (eP ⟨1, 0⟩).toArray] [(⟨1, 0⟩ : Pt)] rfl rfl rfl eP_lenS (by omega) (by omega) fun b62 w38 hg38 hk38 hb62 => ?_
    refine s_build T.st_point (cells := eP ⟨1, 0⟩) rfl ?_
    refine (odd_spec E T.toTyB (k := k + 2) (by omega) (by omega) (by omega) (hs37.keep hk38)).mono ?_
    rintro v65 w39 ⟨ox, rfl, hs39, hk39⟩
    refine s_build T.st_point (cells := eP ⟨ox, 0⟩) rfl ?_
    refine s_lit (w := w39) T.sl_pt [.agg (eP ⟨1, 0⟩).toArray, .agg (eP ⟨ox, 0⟩).toArray] [(⟨1, 0⟩ : Pt), ⟨ox, 0⟩] rfl rfl rfl eP_lenS (by omega) (by omega) fun b67 w40 hg40 hk40 hb67 => ?_
    refine s_bslice hTS [.slice none 0 0, .slice (some ⟨b62, 0, none⟩) 1 1, .slice (some ⟨b67, 0, none⟩) 2 2] rfl rfl (fun v hv => by simp at hv; rcases hv with rfl | rfl | rfl <;> rfl) (by omega) fun b68 w41 hat68 hk41 hb68 hs68 => ?_
    refine (next_spec E sb (k + 1) 3 w41 (by omega) ((hs39.keep hk40).keep hk41)).mono ?_
    rintro v70 w42 ⟨t, rfl, ht, _, hs42, hk42⟩
    obtain ⟨ht0, ht1⟩ := ht (by omega)
    obtain ⟨t, rfl⟩ := Int.eq_ofNat_of_zero_le ht0
    have hsz37 := hk37.size
    have hsz38 := hk38.size
    have hsz39 := hk39.size
    have hsz40 := hk40.size
    have hsz41 := hk41.size
    -- the points that are taken
    let DP : Nat → Prop := fun b => w36.heap.size ≤ b
    have hpts : ∃ hv ptl, ([.slice none 0 0, .slice (some ⟨b62, 0, none⟩) 1 1, .slice (some ⟨b67, 0, none⟩) 2 2] : List Value)[t]? = some hv ∧ Sl DP eP w42 hv ptl := by
      have hmv : ∀ (hv : Value) (ptl : List Pt), Sl DP eP w41 hv ptl → Sl DP eP w42 hv ptl := fun hv ptl h => h.keep hk42 fun b hb e => by have hb : w36.heap.size ≤ b := hb; omega
      have h38 : Sl DP eP w41 (.slice (some ⟨b62, 0, none⟩) 1 1) [⟨1, 0⟩] :=
        ((((hg38.sl.dom (D' := DP) fun b hb => by have hb : w37.heap.size ≤ b := hb; show w36.heap.size ≤ b; omega).keep hk39 fun b hb e => by have hb : w36.heap.size ≤ b := hb; omega).keep0 hk40).keep0 hk41)
      have h40 : Sl DP eP w41 (.slice (some ⟨b67, 0, none⟩) 2 2) [⟨1, 0⟩, ⟨ox, 0⟩] :=
        (hg40.sl.dom (D' := DP) fun b hb => by have hb : w39.heap.size ≤ b := hb; show w36.heap.size ≤ b; omega).keep0 hk41
      have ht3 : t = 0 ∨ t = 1 ∨ t = 2 := by omega
      rcases ht3 with rfl | rfl | rfl
      · exact ⟨_, _, rfl, Sl.nil⟩
      · exact ⟨_, _, rfl, hmv _ _ h38⟩
      · exact ⟨_, _, rfl, hmv _ _ h40⟩
    obtain ⟨hv, ptl, hget, hpv⟩ := hpts
    have hat68' := hat68.keep hk42 (by omega)
    refine s_slot hat68' (by omega) (v := hv) (by simpa [flat, Value.cells] using hget) ?_
    have hk36_42 : Keep (· = sb) w36 w42 := (((((hk37.trans hk38.none).trans hk39).trans hk40.none).trans hk41.none).trans hk42)
    have hato42 := hato.keep hk36_42 (by omega)
    have hlf := flat_len l (eQ_len (l := l))
    refine s_nil (s_off (s_st hato42 (by rw [List.length_append, hlf]; omega) rfl fun w43 hat43 hk43 _ => ?_))
    refine s_nil (s_off ?_)
    refine s_st hat43 (by rw [List.length_set, List.length_append, hlf]; omega) hpv.one fun w44 hat44 hk44 _ => ?_
    intro j3
    have hset := set2_flat hql (hv, (⟨ptl, cl⟩ : Pth)) sp
    simp only at hset
    rw [show q * 2 + 0 = q * 2 from rfl, hset] at hat44
    have hk42_44 : Keep (· = bo) w42 w44 := hk43.trans hk44
    refine ⟨(l.set q (hv, (⟨ptl, cl⟩ : Pth))).map (fun x : Value × Pth => x.2), by simp; omega, ?_, (hs42.less (by omega)).keepM hk42_44 fun b hb => by omega, ((hk_33.trans hk36).trans hk36_42).new hk42_44 fun i hi => .inr (by omega)⟩
    refine PLs.slp (c := c) (w0 := w) ⟨?_, fun x hx => ?_⟩
    · have hlf' := flat_len (l.set q (hv, (⟨ptl, cl⟩ : Pth))) (eQ_len (l := l.set q (hv, (⟨ptl, cl⟩ : Pth))))
      rw [List.length_set] at hlf'
      refine ⟨⟨by rw [hlf', List.length_set], by rw [List.length_set]; exact hc2⟩, .inr ⟨bo, cap, sp, by rw [List.length_set]; rfl, hbo, hat44, ?_, by rw [List.length_set]; exact hlc⟩⟩
      rw [List.length_append, hlf', ← hcap, List.length_append, hlf]
    · rcases List.mem_or_eq_of_mem_set hx with h | rfl
      · have hxp := hP36.pts x h
        exact ((hxp.old.keep hk36_42 fun b hb e => by have := hb.1.1; omega).keep hk42_44 fun b hb e => hb.1.2 e.symm).dom fun b hb => hb.1
      · refine (hpv.keep hk42_44 fun b hb e => ?_).dom fun b hb => ?_
        · have hb : w36.heap.size ≤ b := hb
          omega
        · have hb : w36.heap.size ≤ b := hb
          exact ⟨by omega, fun h' => by have : bo = b := h'; omega⟩
end Go.Eng

/-! Contract: a path that is repeated. -/
namespace Go.Eng
open Go
variable {c : Cfg}

theorem s_copy {P : Program} {t e : TypeId} {sz by_ : Nat} {z : List Value} (hT : SliceT P t e sz by_ z) {w : World} {b o dn dcap b2 o2 m capx : Nat} {L xs : List Value} {ty : TypeId} {k : Value → World → Prop}
    (hat : At w b L e) (hxs : Cells w b2 o2 xs) (hn : xs.length = min m dn * sz) (ho : o + xs.length ≤ L.length) (hv : xs.all Eng.one = true)
    (h : ∀ w' L', At w' b L' e → L'.length = L.length → (∀ j, L'[j]? = if o ≤ j ∧ j < o + xs.length then xs[j - o]? else L[j]?) → Keep (· = b) w w' → w'.heap.size = w.heap.size → k (vi (min m dn : Nat)) w') :
    semP P (Builtin.copy_ #[t, t] ty #[.slice (some ⟨b, o, none⟩) dn dcap, .slice (some ⟨b2, o2, none⟩) m capx]) w k := by
  have hfirst : (Builtin.firstCells sz (Nat.min m dn) (.slice (some ⟨b2, o2, none⟩) m capx)).run P w = .ok xs.toArray w := by
    simp only [Builtin.firstCells]
    rw [show Nat.min m dn * sz = xs.length from hn.symm]
    exact run_loadCells_list w ⟨b2, o2, none⟩ xs fun j v hj => by rw [addr_add]; exact hxs j v hj
  obtain ⟨L', h1, h2, h3, h4, h5⟩ := at_storeAll xs 0 w L o hat
  refine ⟨vi (min m dn : Nat), storeAll w ⟨b, o, none⟩ xs 0, ?_, h _ L' h1 h2 (fun j => ?_) h4 h5⟩
  · have hst := run_storeCellsAt (P := P) hat (o := o) (xs := xs) ho hv
    have hlen : (Builtin.lenOf (.slice (some ⟨b2, o2, none⟩) m capx)).run P w = .ok m w := rfl
    unfold Builtin.copy_
    simp only [List.getElem?_toArray, List.getElem?_cons_zero, List.getElem?_cons_succ, Sem.run_bind', hT.run_und, hT.run_size, hlen, hfirst, hst, run_pure']
    rfl
  · rw [h3 j]
    simp only [Nat.add_zero]
    by_cases hj : o ≤ j ∧ j < o + xs.length
    · rw [if_pos ⟨hj.1, hj.2, by omega⟩, if_pos hj]
    · rw [if_neg (by omega), if_neg hj]

end Go.Eng

/-! The law: Best, Nearest, Begun and Improved are as specified. -/
namespace Go.Eng
open Go
variable {c : Cfg}

theorem Gives.uni {w w' : World} {f n : Int} {os : List Vis} {u : Value} (h : Gives w f os n u w') : Keep NoB w w' ∧ ∃ bv, u = .tuple #[bv, vi (if f = 0 then n else 0), vi f] ∧ Sl (Fresh w) eV w' bv (if f = 0 then os else []) := by
  obtain ⟨h1, h2, h3⟩ := h
  refine ⟨h1, ?_⟩
  by_cases hf : f = 0
  · obtain ⟨bv, hu, hs⟩ := h3 hf
    exact ⟨bv, by rw [hu, if_pos hf, hf], by rw [if_pos hf]; exact hs⟩
  · exact ⟨.slice none 0 0, by rw [h2 hf, if_neg hf], by rw [if_neg hf]; exact Sl.nil⟩
theorem GivesR.uni {w w' : World} {f : Int} {Q : List Vis → Prop} {n : List Vis → Int} {u : Value} (h : GivesR w f Q n u w') : Keep NoB w w' ∧ ∃ bv r, (f = 0 → Q r) ∧ u = .tuple #[bv, vi (if f = 0 then n r else 0), vi f] ∧ Sl (Fresh w) eV w' bv (if f = 0 then r else []) := by
  obtain ⟨h1, h2, h3⟩ := h
  refine ⟨h1, ?_⟩
  by_cases hf : f = 0
  · obtain ⟨bv, r, hq, hu, hs⟩ := h3 hf
    exact ⟨bv, r, fun _ => hq, by rw [hu, if_pos hf, hf], by rw [if_pos hf]; exact hs⟩
  · exact ⟨.slice none 0 0, [], fun h => absurd h hf, by rw [h2 hf, if_neg hf], by rw [if_neg hf]; exact Sl.nil⟩
theorem s_ex2 {a b d : Value} {r : List Value} {k : Value → Prop} (h : k d) : exP 2 (.tuple (a :: b :: d :: r).toArray) k := ⟨d, rfl, h⟩

theorem pf1_spec (E : Eqs c) {D : Nat → Prop} {v : Value} {p : Pt} {w : World} {K : Value → World → Prop} (h : Sl D eP w v [p]) (hK : ∀ w', Keep NoB w w' → K (vi (if farPt p then 1 else 0)) w') : Ret c.P c.f_blref1_PointFault #[v] w K := by
  refine (pointFault_spec E D v [p] w h).mono ?_
  rintro u w' ⟨hk, rfl⟩
  have := hK w' hk
  simpa using this
theorem pt_lit (T : Ty c) {p : Pt} {w : World} {K : Value → World → Prop} (h : ∀ v w', Sl (Fresh w) eP w' v [p] → Keep NoB w w' → K v w') : semP c.P (Instr.buildSlice c.t_sl_api_Point 1 #[(0, .agg (eP p).toArray)]) w K :=
  s_lit (w := w) T.sl_pt [.agg (eP p).toArray] [p] rfl rfl rfl eP_lenS (by omega) (by omega) fun b1 w1 hg hk _ => h _ w1 hg.sl hk
theorem startF_or (s : Pt) (f : Int) : (if (if farPt s then (1 : Int) else 0) ≠ 0 then (if farPt s then (1 : Int) else 0) else f) = startF s f := by
  unfold startF
  cases farPt s <;> simp

end Go.Eng

/-! Plain laws on orders of paths. -/
namespace Go.Eng
open Go

/-- an order that is right -/
structure OkO (ps : List Pth) (os : List Vis) : Prop where
  len : os.length = ps.length
  nodup : (os.map fun v => v.path).Nodup
  vis : ∀ v ∈ os, (0 ≤ v.path ∧ v.path < ps.length) ∧ v ∈ waysL (pAt ps v.path) v.path

theorem fz : ∀ (l : List Int), firstNZ l = 0 → ∀ z ∈ l, z = 0
  | a :: t, h, z, hz => by
    simp only [firstNZ] at h
    by_cases ha : a ≠ 0
    · rw [if_pos ha] at h; exact absurd h ha
    · rw [if_neg ha] at h
      rcases List.mem_cons.1 hz with h' | h'
      · subst h'; omega
      · exact fz t h z h'

theorem ways_iff {p : Pth} {v : Vis} (hp : 0 < p.pts.length) : vF2 p v = 0 ↔ v ∈ waysL p v.path := by
  obtain ⟨i, s, b⟩ := v
  unfold vF2 vBad waysL
  cases hc : p.closed with
  | true =>
    simp only [Bool.true_and, Bool.not_true, Bool.false_and, Bool.or_false, if_true]
    constructor
    · intro h
      cases b with
      | true => simp at h
      | false =>
        simp only [Bool.false_eq_true, if_false] at h
        by_cases hr : 0 ≤ s ∧ s < p.pts.length
        · exact List.mem_map.2 ⟨s.toNat, List.mem_range.2 (by omega), by rw [show ((s.toNat : Nat) : Int) = s by omega]⟩
        · rw [if_neg hr] at h; omega
    · intro h
      obtain ⟨k, hk, he⟩ := List.mem_map.1 h
      have hk := List.mem_range.1 hk
      simp only [Vis.mk.injEq, true_and] at he
      obtain ⟨rfl, rfl⟩ := he
      simp only [Bool.false_eq_true, if_false]
      rw [if_pos ⟨by omega, by omega⟩]
  | false =>
    simp only [Bool.false_and, Bool.not_false, Bool.true_and, Bool.false_or, Bool.false_eq_true, if_false]
    constructor
    · intro h
      by_cases hs : s = 0
      · subst hs
        cases b <;> simp
      · rw [if_pos (by simpa using hs)] at h; omega
    · intro h
      have hs : s = 0 := by
        simp at h
        rcases h with h | h <;> exact h.1
      subst hs
      rw [if_neg (by simp), if_pos ⟨by omega, by omega⟩]

theorem pAt_pos {ps : List Pth} (hR : Rights ps) {i : Int} (h0 : 0 ≤ i) (h1 : i < ps.length) : 0 < (pAt ps i).pts.length := by
  obtain ⟨q, rfl⟩ := Int.eq_ofNat_of_zero_le h0
  obtain ⟨p, hp⟩ := idx_of_lt (show q < ps.length by omega)
  rw [pAt_get hp]; exact hR.ne p (List.mem_of_getElem? hp)

theorem orderF_iff {ps : List Pth} {os : List Vis} (hp : pathsF ps = 0) : orderF ps os = 0 ↔ OkO ps os := by
  have hR := rights_of hp
  have hv : ∀ (i : Nat) (v : Vis), os[i]? = some v → (visAt ps os i = 0 ↔ ((0 ≤ v.path ∧ v.path < ps.length) ∧ v ∈ waysL (pAt ps v.path) v.path) ∧ v.path ∉ (os.take i).map fun v => v.path) := by
    intro i v hi
    have e : visAt ps os i = visF ps (os.take i) v := by unfold visAt; rw [hi]
    rw [e]
    unfold visF
    by_cases h1 : 0 ≤ v.path ∧ v.path < ps.length
    · rw [if_pos h1]
      cases h2 : (os.take i).any (fun x => decide (x.path = v.path)) with
      | true =>
        rw [if_pos rfl]
        obtain ⟨x, hx, hxe⟩ := List.any_eq_true.1 h2
        have hxe := of_decide_eq_true hxe
        constructor
        · intro h; omega
        · intro h; exact absurd (List.mem_map.2 ⟨x, hx, hxe⟩) h.2
      | false =>
        rw [if_neg (by simp), ways_iff (pAt_pos hR h1.1 h1.2)]
        constructor
        · intro h
          refine ⟨⟨h1, h⟩, fun hm => ?_⟩
          obtain ⟨x, hx, hxe⟩ := List.mem_map.1 hm
          have := List.any_eq_false.1 h2 x hx
          simp at this
          exact this hxe
        · intro h; exact h.1.2
    · rw [if_neg h1]
      constructor
      · intro h; omega
      · intro h; exact absurd h.1.1 h1
  unfold orderF
  rw [if_neg (by simp [hp])]
  constructor
  · intro h
    by_cases hl : os.length ≠ ps.length
    · rw [if_pos hl] at h; omega
    · rw [if_neg hl] at h
      have hz : ∀ (i : Nat) (v : Vis), os[i]? = some v → visAt ps os i = 0 := fun i v hi => fz _ h _ (List.mem_map.2 ⟨i, List.mem_range.2 (lt_of_idx hi), rfl⟩)
      refine ⟨by omega, ?_, fun v hm => ?_⟩
      · have : ∀ m, m ≤ os.length → ((os.take m).map fun v => v.path).Nodup := by
          intro m
          induction m with
          | zero => simp
          | succ m ih =>
            intro hm
            obtain ⟨v, hi⟩ := idx_of_lt (show m < os.length by omega)
            rw [take_snoc hi, List.map_append, List.map_cons, List.map_nil, nodup_snoc]
            exact ⟨ih (by omega), ((hv m v hi).1 (hz m v hi)).2⟩
        have := this os.length (Nat.le_refl _)
        rwa [List.take_length] at this
      · obtain ⟨i, hi⟩ := List.getElem?_of_mem hm
        exact ((hv i v hi).1 (hz i v hi)).1
  · intro h
    rw [if_neg (by simp [h.len])]
    refine firstNZ_all fun q hq => ?_
    have hq : q < os.length := by simpa using hq
    obtain ⟨v, hi⟩ := idx_of_lt hq
    rw [List.getElem?_map, List.getElem?_range hq]
    show some (visAt ps os q) = some 0
    rw [(hv q v hi).2 ⟨h.vis v (List.mem_of_getElem? hi), ?_⟩]
    have hn : ((os.take (q + 1)).map fun v => v.path).Nodup := List.Nodup.sublist ((List.take_sublist _ _).map _) h.nodup
    rw [take_snoc hi, List.map_append, List.map_cons, List.map_nil, nodup_snoc] at hn
    exact hn.2

theorem OkO.perm {ps : List Pth} {a b : List Vis} (h : OkO ps a) (hp : b.Perm a) : OkO ps b :=
  ⟨by rw [hp.length_eq]; exact h.len, (hp.map _).nodup_iff.2 h.nodup, fun v hv => h.vis v (hp.mem_iff.1 hv)⟩

theorem nst_le {α : Type} {F : α → Int} : ∀ (vs : List α) (b : Option α), (∀ v ∈ vs, least0 F (vs.foldl (nst F) b) ≤ F v) ∧ ∀ u, b = some u → least0 F (vs.foldl (nst F) b) ≤ F u
  | [], b => ⟨fun v hv => (by cases hv), fun u hu => by subst hu; exact Int.le_refl _⟩
  | x :: r, b => by
    have ih := nst_le (F := F) r (nst F b x)
    have hx : least0 F (r.foldl (nst F) (nst F b x)) ≤ F x := by
      cases b with
      | none => exact ih.2 x rfl
      | some u =>
        by_cases hlt : F x < F u
        · exact ih.2 x (by unfold nst; exact if_pos hlt)
        · have := ih.2 u (by unfold nst; exact if_neg hlt)
          omega
    refine ⟨fun v hv => ?_, fun u hu => ?_⟩
    · rw [List.foldl_cons]
      rcases List.mem_cons.1 hv with h | h
      · subst h; exact hx
      · exact ih.1 v h
    · rw [List.foldl_cons]
      subst hu
      by_cases hlt : F x < F u
      · have := ih.2 x (by unfold nst; exact if_pos hlt)
        omega
      · exact ih.2 u (by unfold nst; exact if_neg hlt)

theorem mS_le {ps : List Pth} : ∀ (t : List Vis) (o : List Vis) (a : Pt), (leftL ps.length o).length = t.length → ((o ++ t).map fun v => v.path).Nodup → (∀ v ∈ t, (0 ≤ v.path ∧ v.path < ps.length) ∧ v ∈ waysL (pAt ps v.path) v.path) →
    mS ps (leftL ps.length) t.length o a ≤ trav ps a t
  | [], o, a, _, _, _ => by simp [mS, trav]
  | v :: r, o, a, hl, hn, hv => by
    obtain ⟨hr, hw⟩ := hv v (by simp)
    have hleft : v.path ∈ leftL ps.length o := by
      refine mem_leftL.2 ⟨hr, fun u hu he => ?_⟩
      rw [List.map_append, List.nodup_append] at hn
      exact hn.2.2 u.path (List.mem_map.2 ⟨u, hu, rfl⟩) v.path (by simp) he
    have hmem : v ∈ cnds ps (leftL ps.length) o := List.mem_flatMap.2 ⟨v.path, hleft, hw⟩
    have hls := leftL_len_snoc (n := ps.length) (o := o) (v := v) hleft
    have ih := mS_le (ps := ps) r (o ++ [v]) (tov ps v) (by rw [List.length_cons] at hl; omega) (by rw [List.append_assoc]; exact hn) fun u hu => hv u (by simp [hu])
    have hle := (nst_le (F := fun v => dist a (frm ps v) + mS ps (leftL ps.length) r.length (o ++ [v]) (tov ps v)) (cnds ps (leftL ps.length) o) none).1 v hmem
    rw [List.length_cons, mS, trav]
    exact Int.le_trans hle (by omega)

theorem qS_ok {ps : List Pth} (hR : Rights ps) : ∀ (f : Nat) (o : List Vis) (a : Pt), (leftL ps.length o).length = f →
    (qS ps (leftL ps.length) f o a).length = f ∧ (∀ v ∈ qS ps (leftL ps.length) f o a, ((0 ≤ v.path ∧ v.path < ps.length) ∧ v ∈ waysL (pAt ps v.path) v.path) ∧ ∀ u ∈ o, u.path ≠ v.path) ∧ ((qS ps (leftL ps.length) f o a).map fun v => v.path).Nodup
  | 0, o, a, _ => by simp [qS]
  | f + 1, o, a, hl => by
    obtain ⟨u, hu, hm⟩ := pick_some (f := fun v => dist a (frm ps v) + mS ps (leftL ps.length) f (o ++ [v]) (tov ps v)) ((nxLeft hR).ne f o hl)
    obtain ⟨i, hi, hui⟩ := List.mem_flatMap.1 hm
    obtain ⟨hir, hio⟩ := mem_leftL.1 hi
    obtain ⟨_, hpath⟩ := ways_ok hR hir.1 hir.2 hui
    have hls := leftL_len_snoc (n := ps.length) (o := o) (v := u) (by rw [hpath]; exact hi)
    obtain ⟨h1, h2, h3⟩ := qS_ok hR f (o ++ [u]) (tov ps u) (by omega)
    simp only [qS, hu]
    refine ⟨by rw [List.length_cons, h1], fun v hv => ?_, ?_⟩
    · rcases List.mem_cons.1 hv with h | h
      · subst h
        exact ⟨⟨by rw [hpath]; exact hir, by rw [hpath]; exact hui⟩, fun x hx => by rw [hpath]; exact hio x hx⟩
      · obtain ⟨g1, g2⟩ := h2 v h
        exact ⟨g1, fun x hx => g2 x (by simp [hx])⟩
    · rw [List.map_cons, List.nodup_cons]
      refine ⟨fun hmem => ?_, h3⟩
      obtain ⟨v, hv, he⟩ := List.mem_map.1 hmem
      exact (h2 v hv).2 u (by simp) he.symm

theorem near_ok {ps : List Pth} (hR : Rights ps) (s : Pt) : ∀ k, k ≤ ps.length → (∀ v ∈ nearN ps s k, (0 ≤ v.path ∧ v.path < ps.length) ∧ v ∈ waysL (pAt ps v.path) v.path) ∧ ((nearN ps s k).map fun v => v.path).Nodup
  | 0, _ => by simp [nearN]
  | k + 1, hk => by
    obtain ⟨h1, h2⟩ := near_ok hR s k (by omega)
    obtain ⟨f1, f2, f3⟩ := nearN_facts hR s k (by omega)
    have hne : cand ps (nearN ps s k) ≠ [] := (nxLeft hR).ne ((leftL ps.length (nearN ps s k)).length - 1) (nearN ps s k) (by omega)
    obtain ⟨u, hu, hm⟩ := pick_some (f := fun v => dist (lastPt ps s (nearN ps s k)) (frm ps v)) hne
    obtain ⟨i, hi, hui⟩ := List.mem_flatMap.1 hm
    obtain ⟨hir, hio⟩ := mem_leftL.1 hi
    obtain ⟨_, hpath⟩ := ways_ok hR hir.1 hir.2 hui
    simp only [nearN, hu, Option.getD_some]
    refine ⟨fun v hv => ?_, ?_⟩
    · rcases List.mem_append.1 hv with h | h
      · exact h1 v h
      · simp at h; subst h
        exact ⟨by rw [hpath]; exact hir, by rw [hpath]; exact hui⟩
    · rw [List.map_append, List.map_cons, List.map_nil, nodup_snoc]
      refine ⟨h2, fun hmem => ?_⟩
      obtain ⟨v, hv, he⟩ := List.mem_map.1 hmem
      rw [hpath] at he
      exact hio v hv he
end Go.Eng

/-! Plain laws on orders of paths: the best, one that is begun, one that is improved. -/
namespace Go.Eng
open Go

theorem QB_eq {ps : List Pth} (hR : Rights ps) (h6 : ps.length ≤ 60) (s : Pt) : QB (allC ps) (2 ^ ps.length - 1) s = qS ps (leftL ps.length) ps.length [] s := by
  have hI : (leftL ps.length []).length = ps.length := by rw [leftL_nil]; simp
  have hp : 0 < 2 ^ ps.length := Nat.two_pow_pos _
  have h := best_eq hR h6 ps.length [] (2 ^ ps.length - 1) s hI (by omega) fun i hi => by
    rw [Nat.testBit_two_pow_sub_one, leftL_nil]
    simp [hi]
    exact ⟨i, hi, rfl⟩
  exact h.2

theorem QB_ok {ps : List Pth} (hR : Rights ps) (h6 : ps.length ≤ 60) (s : Pt) : OkO ps (QB (allC ps) (2 ^ ps.length - 1) s) := by
  have hI : (leftL ps.length []).length = ps.length := by rw [leftL_nil]; simp
  rw [QB_eq hR h6]
  obtain ⟨h1, h2, h3⟩ := qS_ok hR ps.length [] s hI
  exact ⟨h1, h3, fun v hv => (h2 v hv).1⟩

theorem QB_le {ps : List Pth} (hR : Rights ps) (h6 : ps.length ≤ 60) (s : Pt) {t : List Vis} (ht : OkO ps t) : trav ps s (QB (allC ps) (2 ^ ps.length - 1) s) ≤ trav ps s t := by
  have hI : (leftL ps.length []).length = ps.length := by rw [leftL_nil]; simp
  rw [QB_eq hR h6, trav_qS (nxLeft hR) _ _ _ hI]
  have := mS_le (ps := ps) t [] s (by rw [hI, ht.len]) (by simpa using ht.nodup) ht.vis
  rw [ht.len] at this
  exact this

theorem nearN_okO {ps : List Pth} (hR : Rights ps) (s : Pt) : OkO ps (nearN ps s ps.length) := by
  obtain ⟨h1, h2⟩ := near_ok hR s ps.length (Nat.le_refl _)
  exact ⟨(nearN_facts hR s ps.length (Nat.le_refl _)).1, h2, h1⟩

theorem beg_ok {ps : List Pth} (hR : Rights ps) (s : Pt) {order : List Int} (hr : ∀ i ∈ order, 0 ≤ i ∧ i < ps.length) : ∀ k, k ≤ order.length →
    (begN ps s (stgs ps order) k).map (fun v => v.path) = order.take k ∧ ∀ v ∈ begN ps s (stgs ps order) k, (0 ≤ v.path ∧ v.path < ps.length) ∧ v ∈ waysL (pAt ps v.path) v.path
  | 0, _ => by simp [begN]
  | k + 1, hk => by
    obtain ⟨h1, h2⟩ := beg_ok hR s hr k (by omega)
    obtain ⟨i, hi⟩ := idx_of_lt (show k < order.length by omega)
    have hir := hr i (List.mem_of_getElem? hi)
    have hg : (stgs ps order).getD k [] = waysL (pAt ps i) i := by
      unfold stgs
      rw [List.getD, List.getElem?_map, hi]; rfl
    have hne : (stgs ps order).getD k [] ≠ [] := by
      rw [hg]
      have := ways_ne (p := pAt ps i) (i := i) (pAt_pos hR hir.1 hir.2)
      intro h; rw [h] at this; simp at this
    obtain ⟨u, hu, hm⟩ := pick_some (f := fun v => dist (lastPt ps s (begN ps s (stgs ps order) k)) (frm ps v) + rest ps ((stgs ps order).drop (k + 1)) (tov ps v)) hne
    rw [hg] at hm
    obtain ⟨_, hpath⟩ := ways_ok hR hir.1 hir.2 hm
    simp only [begN, hu, Option.getD_some]
    refine ⟨?_, fun v hv => ?_⟩
    · rw [List.map_append, h1, take_snoc hi, List.map_cons, List.map_nil, hpath]
    · rcases List.mem_append.1 hv with h | h
      · exact h2 v h
      · simp at h; subst h
        exact ⟨by rw [hpath]; exact hir, by rw [hpath]; exact hm⟩

theorem begN_okO {ps : List Pth} (hR : Rights ps) (s : Pt) {order : List Int} (hp : order.Perm (iotaI ps.length)) : OkO ps (begN ps s (stgs ps order) ps.length) ∧ (begN ps s (stgs ps order) ps.length).map (fun v => v.path) = order := by
  have hl : order.length = ps.length := by rw [hp.length_eq, iotaI_len]
  obtain ⟨h1, h2⟩ := beg_ok hR s (fun i hi => mem_iotaI.1 (hp.mem_iff.1 hi)) ps.length (by omega)
  rw [List.take_of_length_le (by omega)] at h1
  refine ⟨⟨?_, by rw [h1]; exact hp.nodup_iff.2 (iotaI_nodup _), h2⟩, h1⟩
  have := congrArg List.length h1
  simpa [hl] using this

theorem swp_perm {o : List Vis} {i k : Nat} (hi : i < o.length) (hk : k < o.length) : (swp o i k).Perm o := by
  have hx := List.getElem?_eq_getElem hi
  have hy := List.getElem?_eq_getElem hk
  unfold swp
  rw [show o.getD k ⟨0, 0, false⟩ = o[k] by rw [List.getD, hy]; rfl, show o.getD i ⟨0, 0, false⟩ = o[i] by rw [List.getD, hx]; rfl]
  exact List.set_set_perm hi hk
theorem imp_ok {ps : List Pth} {s : Pt} {o r : List Vis} (h : Imp ps s o r) (ho : OkO ps o) : OkO ps r ∧ trav ps s r ≤ trav ps s o := by
  induction h with
  | done _ => exact ⟨ho, Int.le_refl _⟩
  | step hs _ ih =>
    have hlt := hs.lt
    obtain ⟨i, k, h1, h2, _, _, rfl⟩ := hs
    have := ih (ho.perm (swp_perm (by omega) h2))
    exact ⟨this.1, by omega⟩

theorem indF_perm {n : Nat} {l : List Int} (hp : l.Perm (iotaI n)) : indF n l = 0 := by
  have hl : l.length = n := by rw [hp.length_eq, iotaI_len]
  have hnd : l.Nodup := hp.nodup_iff.2 (iotaI_nodup _)
  unfold indF
  rw [if_neg (by omega)]
  refine firstNZ_all fun q hq => ?_
  have hq : q < l.length := by simpa using hq
  obtain ⟨x, hx⟩ := idx_of_lt hq
  rw [List.getElem?_map, List.getElem?_range hq]
  show some (indAt n l q) = some 0
  have hin := mem_iotaI.1 (hp.mem_iff.1 (List.mem_of_getElem? hx))
  have hn : (l.take (q + 1)).Nodup := List.Nodup.sublist (List.take_sublist _ _) hnd
  rw [take_snoc hx, nodup_snoc] at hn
  unfold indAt
  rw [hx]
  show some (if 0 ≤ x ∧ x < n then (if x ∈ l.take q then (6 : Int) else 0) else 1) = some 0
  rw [if_pos hin, if_neg hn.2]
end Go.Eng

/-! The law: no order travels less. -/
namespace Go.Eng
open Go
variable {c : Cfg}

structure TyO (c : Cfg) : Prop where
  T : Ty c
  K : TyK c
  ssv : ∃ e, SliceT c.P c.t_sl_sl_api_Visit e 1 24 [.slice none 0 0]

theorem rightPaths_spec (E : Eqs c) (T : Ty c) {sb k m : Nat} {w : World} (hm : m ≤ 5) (hs : SOk c w sb (k + 400)) :
    Ret c.P c.f_p_blmake_Stream_RightPaths #[pb sb 0, vi m] w fun v w' => ∃ ps : List Pth, ps.length ≤ m ∧ pathsF ps = 0 ∧ SlP (Fresh w) w' v ps ∧ SOk c w' sb k ∧ Keep (· = sb) w w' := by
  apply E.p_blmake_Stream_RightPaths
  unfold wp_p_blmake_Stream_RightPaths
  refine s_range 6 (fun i w' => Keep (· = sb) w w' ∧ SOk c w' sb (k + 60 * (6 - i))) ⟨Keep.refl _ _, hs.less (by omega)⟩ ?_
  rintro i w1 j nx ⟨hk, hs1⟩ hin hnx
  have hz := hk.size
  refine s_lss (s_condD (fun hlt => ?_) fun hge => ?_)
  · have hil : i < 6 := by omega
    refine (pathList_spec E T (k := k + 60 * (6 - (i + 1))) (m := m) (by omega) (hs1.less (by omega))).mono ?_
    rintro v w2 ⟨ps, hl, hS, hs2, k2⟩
    refine (pathsFault1_spec E _ _ _ _ hS).mono ?_
    rintro u w3 ⟨k3, rfl⟩
    refine s_eql (s_condD (fun h => ⟨ps, hl, h, (hS.keep0 k3).dom fun b hb => ?_, (hs2.keep k3).less (by omega), (hk.trans k2).trans k3.none⟩) fun h => ?_)
    · have hb : w1.heap.size ≤ b := hb
      show w.heap.size ≤ b; omega
    · exact s_add (by omega) (by omega) (hnx w3 hil ⟨(hk.trans k2).trans k3.none, hs2.keep k3⟩)
  · refine ⟨[], by simp, ?_, ?_, hs1.less (by omega), hk⟩
    · decide
    · exact ⟨[], rfl, Sl.nil, fun i c p hc => by simp at hc⟩

theorem travelF_spec (E : Eqs c) (T : Ty c) {D D' : Nat → Prop} {s : Pt} {lv ov : Value} {ps : List Pth} {os : List Vis} {w : World} (hl : SlP D w lv ps) (ho : Sl D' eV w ov os) (hp : pathsF ps = 0) (hs : farPt s = false) (hok : OkO ps os) :
    Ret c.P c.f_path_Travel #[.agg (eP s).toArray, lv, ov] w fun v w' => Keep NoB w w' ∧ v = .tuple #[vi (trav ps s os), vi 0] := by
  have hl := hl.lt; have ho := ho.lt
  have hR := rights_of hp
  have hord := (orderF_iff hp).2 hok
  apply E.path_Travel
  unfold wp_path_Travel
  refine s_new (cs := eP s) fun b3 w1 a3 k1 e1 z1 => ?_
  refine s_ldAAt a3 rfl ?_
  refine (start_spec E T _ _ s lv ov ps os w1 (hl.keep0 k1) (ho.keep0 k1)).mono ?_
  rintro u w2 ⟨k2, rfl⟩
  have h0 : startF s (orderF ps os) = 0 := by unfold startF; rw [hs, hord]; rfl
  rw [h0]
  refine s_neq (s_condD (fun h => absurd rfl h) fun _ => ?_)
  refine s_ldAAt (a3.keep0 k2) rfl ?_
  refine (travel_spec E _ _ s lv ov ps os w2 ((hl.keep0 k1).keep0 k2) ((ho.keep0 k1).keep0 k2) hR (near_of hs) (fun v hv => (ways_ok hR (hok.vis v hv).1.1 (hok.vis v hv).1.2 (hok.vis v hv).2).1) (by rw [hok.len]; have := hR.len; omega)).mono ?_
  rintro u w3 ⟨k3, rfl⟩
  exact ⟨(k1.trans k2).trans k3, rfl⟩

theorem noOrder_spec (E : Eqs c) (Y : Ext c) (X : ExtR c) (O : TyO c) {D : Nat → Prop} {lv : Value} {l : List Int} {w : World} (hl : Sl D eI w lv l) (hr : ∀ x ∈ l, -9223372036854775808 ≤ x ∧ x ≤ 9223372036854775807) :
    Ret c.P c.f_blkeep1_NoOrderTravelsLess #[lv] w fun u w' => u = .bool true ∧ Keep NoB w w' := by
  have hl := hl.lt
  have T := O.T
  have K := O.K
  have B := T.toTyB
  obtain ⟨ev, hTv⟩ := O.ssv
  apply E.blkeep1_NoOrderTravelsLess
  unfold wp_blkeep1_NoOrderTravelsLess
  refine s_build B.st_stream (cells := [lv, vi 0]) (by obtain ⟨a, cap, rfl, _⟩ := hl; rfl) ?_
  refine s_new (cs := [lv, vi 0]) fun sb w1 hats hk1 hsb hss => ?_
  have hs1 : SOk c w1 sb 10000 := ⟨lv, l, 0, hats, (hl.keep0 hk1).dom fun b hb => by have hb : b < w.heap.size := hb; omega, hr, by omega, by omega⟩
  refine (range_spec E sb 9000 (-3) 9 w1 (by omega) (by omega) (by omega) (hs1.less (by omega))).mono ?_
  rintro v w2 ⟨x, rfl, hx1, hx2, hs2, k2⟩
  refine (range_spec E sb 8000 (-3) 9 w2 (by omega) (by omega) (by omega) (hs2.less (by omega))).mono ?_
  rintro v w3 ⟨y, rfl, hy1, hy2, hs3, k3⟩
  refine s_build T.st_point (cells := eP ⟨x, y⟩) rfl ?_
  have hfar : farPt ⟨x, y⟩ = false := decide_eq_false (by show ¬ (x < -100000 ∨ 100000 < x ∨ y < -100000 ∨ 100000 < y); omega)
  generalize (⟨x, y⟩ : Pt) = s at hfar
  refine (rightPaths_spec E T (k := 7000) (m := 5) (by omega) (hs3.less (by omega))).mono ?_
  rintro pv w4 ⟨ps, hpl, hpF, hS, hs4, k4⟩
  have hR := rights_of hpF
  refine s_var rfl rfl rfl fun bs w6 as k6 es zs => ?_
  have hz14 := ((k2.trans k3).trans k4).size
  refine (hS.keep0 k6).len ?_
  refine (order_perm E B (k := 6000) (n := ps.length) (by omega) ((hs4.keep k6).less (by omega))).mono ?_
  rintro gv w7 ⟨o, hperm, hgo, hs7⟩
  have hperm : o.Perm (iotaI ps.length) := hperm
  have hol : o.length = ps.length := by rw [hperm.length_eq, iotaI_len]
  have hlt1 := hs1.lt
  have k17 : Keep (· = sb) w1 w7 := (((k2.trans k3).trans k4).trans k6.none).trans hgo.keep
  have k07 : Keep NoB w w7 := hk1.new k17 fun b h => .inr (by omega)
  have hS7 : SlP (Fresh w3) w7 pv ps := (hS.keep0 k6).keep hgo.keep fun b hb h => by
    have hb : w3.heap.size ≤ b := hb
    have := (k2.trans k3).size
    omega
  have as7 : At w7 bs (eP s) c.t_api_Point := as.keep hgo.keep (by omega)
  have ho7 := hgo.sl
  have hstart0 : startF s 0 = 0 := by unfold startF; rw [hfar]; rfl
  have hpath0 : startF s (pathsF ps) = 0 := by rw [hpF]; exact hstart0
  -- the best
  refine s_ldAAt as7 rfl ?_
  refine (best_spec E T (s := s) hS7).mono ?_
  rintro u w8 ⟨k8, _, hb⟩
  obtain ⟨av, rfl, hA⟩ := hb (by rw [hpath0, if_neg (by simp), if_neg (by omega)])
  have hokA := QB_ok hR (show ps.length ≤ 60 by omega) s
  have hleA : ∀ t, OkO ps t → trav ps s (QB (allC ps) (2 ^ ps.length - 1) s) ≤ trav ps s t := fun t ht => QB_le hR (by omega) s ht
  generalize QB (allC ps) (2 ^ ps.length - 1) s = qa at *
  refine p_ex0 (p_ex1 (p_ex2 (s_ldAAt (as7.keep0 k8) rfl ?_)))
  refine (nearest_spec E T (s := s) (hS7.keep0 k8)).mono ?_
  rintro u w9 ⟨k9, _, hb⟩
  obtain ⟨bv, rfl, hB⟩ := hb hpath0
  have hokB := nearN_okO hR s
  generalize nearN ps s ps.length = qb at *
  have k79 := k8.trans k9
  refine p_ex0 (p_ex1 (p_ex2 (s_ldAAt (as7.keep0 k79) rfl ?_)))
  refine (begun_spec E T (s := s) (hS7.keep0 k79) (ho7.keep0 k79)).mono ?_
  rintro u w10 ⟨k10, _, hb⟩
  obtain ⟨cv, rfl, hC⟩ := hb (by rw [hpath0, if_neg (by simp), indF_perm hperm])
  obtain ⟨hokC, hpc⟩ := begN_okO hR s hperm
  generalize begN ps s (stgs ps o) ps.length = qc at *
  have k710 := k79.trans k10
  refine p_ex0 (p_ex1 (p_ex2 (s_ldAAt (as7.keep0 k710) rfl ?_)))
  refine (improved_spec E T (s := s) (hS7.keep0 k710) hC).mono ?_
  rintro u w11 ⟨k11, _, hb⟩
  obtain ⟨dv, qd, himp, rfl, hDd⟩ := hb (by rw [(orderF_iff hpF).2 hokC]; exact hstart0)
  obtain ⟨hokD, hleD⟩ := imp_ok himp hokC
  have k711 := k710.trans k11
  refine p_ex0 (p_ex1 (p_ex2 ?_))
  have hab := hleA qb hokB
  have had := hleA qd hokD
  refine s_joinM (fun vs w' => w' = w11 ∧ vs = [.bool false]) ?_ ?_
  · refine s_neq (s_guardF (fun _ => ?_) fun h => by simp at h)
    refine s_neq (s_guardF (fun _ => ?_) fun h => by simp at h)
    refine s_neq (s_guardF (fun _ => ?_) fun h => by simp at h)
    refine s_neq (s_guardF (fun _ => ?_) fun h => by simp at h)
    refine s_gtr (s_guardF (fun _ => ?_) fun h => by simp at h; omega)
    refine s_gtr (s_guardF (fun _ => ?_) fun h => by simp at h; omega)
    exact s_gtr ⟨rfl, by rw [decide_eq_false (by omega)]⟩
  rintro vs j0 w12 ⟨hw, rfl⟩
  have hw := hw.symm
  subst hw
  refine s_condF rfl ?_
  have k811 := (k9.trans k10).trans k11
  have hA11 := hA.keep0 k811
  have hB11 := hB.keep0 (k10.trans k11)
  have hC11 := hC.keep0 k11
  have c1 : ∀ {D : Nat → Prop} {v : Value} {q : List Vis}, Sl D eV w11 v q → v.cells = #[v] := fun h => by obtain ⟨a, cap, e, _⟩ := h; subst e; rfl
  have hfl : flat [av, bv, cv, dv] = [av, bv, cv, dv] := by simp [flat, c1 hA11, c1 hB11, c1 hC11, c1 hDd]
  refine s_bslice hTv [av, bv, cv, dv] rfl rfl (fun v hv => by simp at hv; rcases hv with rfl | rfl | rfl | rfl <;> simp [c1 hA11, c1 hB11, c1 hC11, c1 hDd]) (by omega) fun b13 w13 a13 k13 e13 z13 => ?_
  rw [hfl] at a13
  refine Sl.len (D := fun _ => True) (enc := fun h : Value => [h]) (w := w13) (l := [av, bv, cv, dv]) ⟨_, 4, rfl, ⟨by simp, by simp⟩, fun _ => ⟨b13, 0, rfl, trivial, a13.lt, a13.cells⟩⟩ ?_
  refine s_range 4 (fun i w' => Keep NoB w13 w') (Keep.refl _ _) ?_
  rintro i w14 j14 nx k14 hin hnx
  have hl4 : [av, bv, cv, dv].length = 4 := rfl
  have k1114 := k13.trans k14
  have k714 := k711.trans k1114
  have hS14 := hS7.keep0 k714
  refine s_lss (s_condD (fun hlt => ?_) fun hge => ?_)
  · have hil : i < 4 := by omega
    obtain ⟨xv, q, hxv, hxz, ⟨Dx, hSx⟩, hokx⟩ : ∃ (xv : Value) (q : List Vis), [av, bv, cv, dv][i]? = some xv ∧ [trav ps s qa, trav ps s qb, trav ps s qc, trav ps s qd][i]? = some (trav ps s q) ∧ (∃ Dx, Sl Dx eV w14 xv q) ∧ OkO ps q := by
      match i, hil with
      | 0, _ => exact ⟨av, qa, rfl, rfl, ⟨_, hA11.keep0 k1114⟩, hokA⟩
      | 1, _ => exact ⟨bv, qb, rfl, rfl, ⟨_, hB11.keep0 k1114⟩, hokB⟩
      | 2, _ => exact ⟨cv, qc, rfl, rfl, ⟨_, hC11.keep0 k1114⟩, hokC⟩
      | 3, _ => exact ⟨dv, qd, rfl, rfl, ⟨_, hDd.keep0 k1114⟩, hokD⟩
    refine s_slot (a13.keep0 k14) hil hxv (s_ldAAt (as7.keep0 k714) rfl ?_)
    refine (travelF_spec E T hS14 hSx hpF hfar hokx).mono ?_
    rintro u w15 ⟨k15, rfl⟩
    refine p_ex0 (p_ex1 ?_)
    refine s_joinM (fun vs w' => Keep NoB w15 w' ∧ vs = [.bool false]) ?_ ?_
    · refine s_neq (s_guardF (fun _ => ?_) fun h => by simp at h)
      refine s_lit (enc := eI) B.sl_int [vi (trav ps s qa), vi (trav ps s qb), vi (trav ps s qc), vi (trav ps s qd)] [trav ps s qa, trav ps s qb, trav ps s qc, trav ps s qd] rfl rfl rfl (fun y hy => rfl) (by omega) (by omega) fun _ w17 hg17 k17' _ => ?_
      refine hg17.sl.idx (sz := 1) eI_len hxz fun b' o' _ _ hc => s_ldC0 hc ?_
      refine s_neq (s_guardF (fun _ => ?_) fun h => by simp at h)
      have k1417 := k15.trans k17'
      refine (checkOrder_spec E T _ _ _ _ _ _ _ (hS14.keep0 k1417) (hSx.keep0 k1417)).mono ?_
      rintro u w18 ⟨k18, rfl⟩
      rw [(orderF_iff hpF).2 hokx]
      exact s_neq ⟨k17'.trans k18, rfl⟩
    rintro vs j16 w16 ⟨k16, rfl⟩
    exact s_condF rfl (s_add (by omega) (by omega) (hnx w16 hil ((k14.trans k15).trans k16)))
  have hC14 := hC11.keep0 k1114
  have ho14 := ho7.keep0 k714
  have hqcl := hokC.len
  refine hC14.len ?_
  refine s_range qc.length (fun i w' => Keep NoB w14 w') (Keep.refl _ _) ?_
  rintro q w19 j19 nx3 k19 hqn hnx3
  refine s_lss (s_condD (fun hlt => ?_) fun hge => ?_)
  · have hql := ofInt_lt hlt
    obtain ⟨v, hv⟩ := idx_of_lt hql
    have hov : o[q]? = some v.path := by rw [← hpc, List.getElem?_map, hv]; rfl
    refine (hC14.keep0 k19).idx (sz := 3) (fun _ _ => rfl) hv fun b' o' _ _ hc => s_ldA hc rfl ?_
    refine s_var rfl rfl rfl fun b24 w21 a24 k21 e21 z21 => ?_
    refine s_off (s_ldAt a24.drew rfl ?_)
    refine ((ho14.keep0 k19).keep0 k21).drew.idx (sz := 1) eI_len hov fun b' o' _ _ hc => s_ldC0 hc ?_
    refine s_neq (s_condD (fun h => absurd rfl h) fun _ => ?_)
    exact s_add (by omega) (by omega) (hnx3 _ hql (k19.trans k21).drew)
  refine (ready_spec E Y X K w19).mono ?_
  rintro u w22 ⟨rfl, k22⟩
  exact ⟨rfl, (((k07.trans k714).trans k19).trans k22)⟩
end Go.Eng

