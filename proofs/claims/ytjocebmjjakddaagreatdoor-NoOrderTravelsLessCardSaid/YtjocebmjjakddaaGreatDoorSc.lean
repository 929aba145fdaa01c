/- Part of a proof: the law NoOrderTravelsLess gives true for every list of integers and leaves its argument as it was; there are no conditions beyond those that the given row states. -/
import Derived.Test.YtjocebmjjakddaaGreatDoorSa
import Derived.Test.YtjocebmjjakddaaGreatDoorSb
set_option linter.unusedVariables false
set_option linter.unusedSimpArgs false
/-! Contracts: sides of rings. -/
namespace Go.Eng
open Go
variable {c : Cfg}

theorem min2_eq (a b : Int) : (if b < a then b else a) = min a b := by omega
theorem s_min2 {P : Program} {k : Value → Prop} {t1 : TypeId} {ts : Array TypeId} {a b : Int} (h : k (vi (min a b))) : pureP P (Builtin.min_ ts t1 #[vi a, vi b]) k :=
  ⟨vi (min a b), fun w => by rw [← min2_eq]; rfl, h⟩

theorem mul_bd {a b : Int} (h1 : -200000 ≤ a) (h2 : a ≤ 200000) (h3 : -200000 ≤ b) (h4 : b ≤ 200000) : -40000000000 ≤ a * b ∧ a * b ≤ 40000000000 := by
  have : (a * b).natAbs ≤ 200000 * 200000 := by rw [Int.natAbs_mul]; exact Nat.mul_le_mul (by omega) (by omega)
  omega

/-- a point that is in range -/
def NP (p : Pt) : Prop := (-100000 ≤ p.x ∧ p.x ≤ 100000) ∧ -100000 ≤ p.y ∧ p.y ≤ 100000
theorem np_of {p : Pt} (h : farPt p = false) : NP p := by
  unfold farPt at h
  have h := of_decide_eq_false h
  unfold NP; omega

def turnI (a b d : Pt) : Int := (b.x - a.x) * (d.y - a.y) - (b.y - a.y) * (d.x - a.x)
theorem turn_bd {a b d : Pt} (ha : NP a) (hb : NP b) (hd : NP d) : -80000000000 ≤ turnI a b d ∧ turnI a b d ≤ 80000000000 := by
  obtain ⟨⟨a1, a2⟩, a3, a4⟩ := ha; obtain ⟨⟨b1, b2⟩, b3, b4⟩ := hb; obtain ⟨⟨d1, d2⟩, d3, d4⟩ := hd
  have e1 := mul_bd (a := b.x - a.x) (b := d.y - a.y) (by omega) (by omega) (by omega) (by omega)
  have e2 := mul_bd (a := b.y - a.y) (b := d.x - a.x) (by omega) (by omega) (by omega) (by omega)
  unfold turnI
  omega

theorem turn_spec (E : Eqs c) {a b d : Pt} {w : World} (ha : NP a) (hb : NP b) (hd : NP d) :
    Ret c.P c.f_region_turn #[.agg (eP a).toArray, .agg (eP b).toArray, .agg (eP d).toArray] w fun v w' => Keep NoB w w' ∧ v = vi (turnI a b d) := by
  apply E.region_turn
  unfold wp_region_turn
  obtain ⟨⟨a1, a2⟩, a3, a4⟩ := ha; obtain ⟨⟨b1, b2⟩, b3, b4⟩ := hb; obtain ⟨⟨d1, d2⟩, d3, d4⟩ := hd
  have e1 := mul_bd (a := b.x - a.x) (b := d.y - a.y) (by omega) (by omega) (by omega) (by omega)
  have e2 := mul_bd (a := b.y - a.y) (b := d.x - a.x) (by omega) (by omega) (by omega) (by omega)
  refine s_new (cs := eP a) fun pa w1 h1 k1 _ _ => ?_
  refine s_new (cs := eP b) fun pb' w2 h2 k2 _ _ => ?_
  refine s_new (cs := eP d) fun pd w3 h3 k3 _ _ => ?_
  have h1 := (h1.keep0 k2).keep0 k3
  have h2 := h2.keep0 k3
  refine s_off (s_ldAt h2 rfl (s_off (s_ldAt h1 rfl (s_sub (by omega) (by omega) ?_))))
  refine s_off (s_ldAt h3 rfl (s_off (s_ldAt h1 rfl (s_sub (by omega) (by omega) ?_))))
  refine s_mul (by omega) (by omega) ?_
  refine s_off (s_ldAt h2 rfl (s_off (s_ldAt h1 rfl (s_sub (by omega) (by omega) ?_))))
  refine s_off (s_ldAt h3 rfl (s_off (s_ldAt h1 rfl (s_sub (by omega) (by omega) ?_))))
  refine s_mul (by omega) (by omega) (s_sub (by omega) (by omega) ?_)
  exact ⟨(k1.trans k2).trans k3, rfl⟩

def apartB (a b d e : Int) : Bool := decide (max a b < min d e) || decide (max d e < min a b)
theorem apart_spec (E : Eqs c) (a b d e : Int) (w : World) : Ret c.P c.f_region_apart #[vi a, vi b, vi d, vi e] w fun v w' => w' = w ∧ v = .bool (apartB a b d e) := by
  apply E.region_apart
  unfold wp_region_apart
  refine s_join (s_max2 (s_min2 (s_lss (s_guardF (fun h => s_max2 (s_min2 (s_lss ?_))) fun h => ?_))))
  · intro j
    exact ⟨rfl, by unfold apartB; rw [h, Bool.false_or]; rfl⟩
  · intro j
    exact ⟨rfl, by unfold apartB; rw [h, Bool.true_or]; rfl⟩

def acrossB (m n : Int) : Bool := decide (min m n ≤ 0) && decide (0 ≤ max m n)
theorem across_spec (E : Eqs c) (m n : Int) (w : World) : Ret c.P c.f_region_Meet_1 #[vi m, vi n] w fun v w' => w' = w ∧ v = .bool (acrossB m n) := by
  apply E.region_Meet_1
  unfold wp_region_Meet_1
  refine s_join (s_min2 (s_leq (s_guardT (fun h => s_max2 (s_geq ?_)) fun h => ?_)))
  · intro j
    exact ⟨rfl, by unfold acrossB; rw [h, Bool.true_and]; rfl⟩
  · intro j
    exact ⟨rfl, by unfold acrossB; rw [h, Bool.false_and]; rfl⟩

def meetB (a b d e : Pt) : Bool := !(apartB a.x b.x d.x e.x || apartB a.y b.y d.y e.y) && (acrossB (turnI a b d) (turnI a b e) && acrossB (turnI d e a) (turnI d e b))
theorem meet_spec (E : Eqs c) {a b d e : Pt} {w : World} (ha : NP a) (hb : NP b) (hd : NP d) (he : NP e) :
    Ret c.P c.f_region_Meet #[.agg (eP a).toArray, .agg (eP b).toArray, .agg (eP d).toArray, .agg (eP e).toArray] w fun v w' => Keep NoB w w' ∧ v = .bool (meetB a b d e) := by
  apply E.region_Meet
  unfold wp_region_Meet
  refine s_new (cs := eP a) fun pa w1 h1 k1 _ _ => ?_
  refine s_new (cs := eP b) fun pb' w2 h2 k2 _ _ => ?_
  refine s_new (cs := eP d) fun pd w3 h3 k3 _ _ => ?_
  refine s_new (cs := eP e) fun pe w4 h4 k4 _ _ => ?_
  have h1 := ((h1.keep0 k2).keep0 k3).keep0 k4
  have h2 := (h2.keep0 k3).keep0 k4
  have h3 := h3.keep0 k4
  have k04 := ((k1.trans k2).trans k3).trans k4
  refine s_joinM (fun vs w' => w' = w4 ∧ vs = [.bool (apartB a.x b.x d.x e.x || apartB a.y b.y d.y e.y)]) ?_ ?_
  · refine s_off (s_ldAt h1 rfl (s_off (s_ldAt h2 rfl (s_off (s_ldAt h3 rfl (s_off (s_ldAt h4 rfl ?_)))))))
    refine (apart_spec E _ _ _ _ w4).mono ?_
    rintro v w' ⟨rfl, rfl⟩
    refine s_guardF (fun h => ?_) fun h => ⟨rfl, by rw [h]; rfl⟩
    refine s_off (s_ldAt h1 rfl (s_off (s_ldAt h2 rfl (s_off (s_ldAt h3 rfl (s_off (s_ldAt h4 rfl ?_)))))))
    refine (apart_spec E _ _ _ _ _).mono ?_
    rintro v w' ⟨rfl, rfl⟩
    exact ⟨rfl, by rw [h]; rfl⟩
  rintro vs j w5 ⟨hw, rfl⟩
  have hw := hw.symm
  subst hw
  refine s_cond (fun h => ⟨k04, by unfold meetB; rw [h]; rfl⟩) fun h => ?_
  refine s_joinM (fun vs w' => Keep NoB w4 w' ∧ vs = [.bool (acrossB (turnI a b d) (turnI a b e) && acrossB (turnI d e a) (turnI d e b))]) ?_ ?_
  · refine s_held (fun w' => Keep NoB w4 w') ⟨keep_drew _ _, ?_⟩
    have q : ∀ {b : Nat} {cs : List Value} {t : TypeId}, At w4 b cs t → ∀ w', Keep NoB w4 w' → Cells w' b 0 cs := fun h w' k => (h.keep0 k).cells
    refine s_ldAS (q h1) rfl (s_ldAS (q h2) rfl (s_ldAS (q h3) rfl (s_ldAS (q h1) rfl (s_ldAS (q h2) rfl (s_ldAS (q h4) rfl ?_)))))
    refine (turn_spec E ha hb hd).mono ?_
    rintro v w6 ⟨k6, rfl⟩
    have k6 := (keep_drew NoB w4).trans k6
    refine ⟨k6, (turn_spec E ha hb he).mono ?_⟩
    rintro v w7 ⟨k7, rfl⟩
    have k7 := k6.trans k7
    refine ⟨k7, ?_⟩
    show Ret c.P c.f_region_Meet_1 #[vi (turnI a b d), vi (turnI a b e)] w7 _
    refine (across_spec E _ _ w7).mono ?_
    rintro v w' ⟨rfl, rfl⟩
    refine ⟨k7, s_guardT (fun h => ?_) fun h => ⟨k7, by rw [h]; rfl⟩⟩
    refine s_ldAS (q h3) rfl (s_ldAS (q h4) rfl (s_ldAS (q h1) rfl (s_ldAS (q h3) rfl (s_ldAS (q h4) rfl (s_ldAS (q h2) rfl ?_)))))
    refine (turn_spec E hd he ha).mono ?_
    rintro v w8 ⟨k8, rfl⟩
    have k8 := k7.trans k8
    refine ⟨k8, (turn_spec E hd he hb).mono ?_⟩
    rintro v w9 ⟨k9, rfl⟩
    have k9 := k8.trans k9
    refine ⟨k9, ?_⟩
    show Ret c.P c.f_region_Meet_1 #[vi (turnI d e a), vi (turnI d e b)] w9 _
    refine (across_spec E _ _ w9).mono ?_
    rintro v w' ⟨rfl, rfl⟩
    exact ⟨k9, k9, by rw [h]; rfl⟩
  rintro vs j2 w6 ⟨k6, rfl⟩
  exact ⟨k04.trans k6, by unfold meetB; rw [h]; rfl⟩

def foldB (o a b : Pt) : Bool := decide (turnI o a b = 0) && decide (0 < (a.x - o.x) * (b.x - o.x) + (a.y - o.y) * (b.y - o.y))
theorem fold_spec (E : Eqs c) {o a b : Pt} {w : World} (ho : NP o) (ha : NP a) (hb : NP b) :
    Ret c.P c.f_region_foldsBack #[.agg (eP o).toArray, .agg (eP a).toArray, .agg (eP b).toArray] w fun v w' => Keep NoB w w' ∧ v = .bool (foldB o a b) := by
  apply E.region_foldsBack
  unfold wp_region_foldsBack
  refine s_new (cs := eP o) fun pa w1 h1 k1 _ _ => ?_
  refine s_new (cs := eP a) fun pb' w2 h2 k2 _ _ => ?_
  refine s_new (cs := eP b) fun pd w3 h3 k3 _ _ => ?_
  have h1 := (h1.keep0 k2).keep0 k3
  have h2 := h2.keep0 k3
  refine s_join (s_ldAAt h1 rfl (s_ldAAt h2 rfl (s_ldAAt h3 rfl ?_)))
  refine (turn_spec E ho ha hb).mono ?_
  rintro v w4 ⟨k4, rfl⟩
  have h1 := h1.keep0 k4; have h2 := h2.keep0 k4; have h3 := h3.keep0 k4
  obtain ⟨⟨o1, o2⟩, o3, o4⟩ := ho; obtain ⟨⟨a1, a2⟩, a3, a4⟩ := ha; obtain ⟨⟨b1, b2⟩, b3, b4⟩ := hb
  have e1 := mul_bd (a := a.x - o.x) (b := b.x - o.x) (by omega) (by omega) (by omega) (by omega)
  have e2 := mul_bd (a := a.y - o.y) (b := b.y - o.y) (by omega) (by omega) (by omega) (by omega)
  have k04 := ((k1.trans k2).trans k3).trans k4
  refine s_eql (s_guardT (fun h => ?_) fun h => fun j => ⟨k04, by unfold foldB; rw [h]; rfl⟩)
  refine s_off (s_ldAt h2 rfl (s_off (s_ldAt h1 rfl (s_sub (by omega) (by omega) ?_))))
  refine s_off (s_ldAt h3 rfl (s_off (s_ldAt h1 rfl (s_sub (by omega) (by omega) (s_mul (by omega) (by omega) ?_)))))
  refine s_off (s_ldAt h2 rfl (s_off (s_ldAt h1 rfl (s_sub (by omega) (by omega) ?_))))
  refine s_off (s_ldAt h3 rfl (s_off (s_ldAt h1 rfl (s_sub (by omega) (by omega) (s_mul (by omega) (by omega) ?_)))))
  refine s_add (by omega) (by omega) (s_gtr ?_)
  intro j
  exact ⟨k04, by unfold foldB; rw [h]; rfl⟩
end Go.Eng

/-! Contracts: what is wrong with a ring. -/
namespace Go.Eng
open Go
variable {c : Cfg}

structure Sd where
  ring : Int
  a : Pt
  b : Pt
def eSd (s : Sd) : List Value := [vi s.ring, vi s.a.x, vi s.a.y, vi s.b.x, vi s.b.y]

/-- the type rows that regions use -/
structure TyR (c : Cfg) : Prop extends TyB c where
  mpb : ∃ kt et, c.P.underlying c.t_map_api_Point_bool = some (.map kt et) ∧ KeyT c.P kt (fun p : Pt => .agg (eP p).toArray) ∧ ∀ w, (zeroValue et).run c.P w = .ok (.bool false) w
  st_side : StructT c.P c.t_region_side [(0, 1), (1, 2), (3, 2)] [vi 0, vi 0, vi 0, vi 0, vi 0]
  sl_side : SliceT c.P c.t_sl_region_side c.t_region_side 5 40 [vi 0, vi 0, vi 0, vi 0, vi 0]
  bool : c.P.underlying c.t_bool = some .bool

def rg (r : List Pt) (i : Nat) : Pt := r.getD (i % r.length) ⟨0, 0⟩
theorem rg_get {r : List Pt} (h : 0 < r.length) (i : Nat) : r[i % r.length]? = some (rg r i) := by
  have := Nat.mod_lt i h
  unfold rg
  rw [List.getD, List.getElem?_eq_getElem this]; rfl
theorem rg_lt {r : List Pt} {i : Nat} (h : i < r.length) : r[i]? = some (rg r i) := by
  have := rg_get (show 0 < r.length by omega) i
  rwa [Nat.mod_eq_of_lt h] at this
theorem rg_mem {r : List Pt} (h : 0 < r.length) (i : Nat) : rg r i ∈ r := List.mem_of_getElem? (rg_get h i)
theorem eP_len {l : List Pt} : ∀ p ∈ l, (eP p).length = 2 := fun _ _ => rfl

/-- a point of the ring, the index taken around -/
theorem s_around {D : Nat → Prop} {w : World} {rv : Value} {r : List Pt} {i : Nat} {z : Int} {k : Value → Prop} (hr : Sl D eP w rv r) (hp : 0 < r.length) (hz : z = i)
    (h : ∀ b o, D b → Cells w b o (eP (rg r i)) → k (pb b o)) : binP .rem (vi z) (vi r.length) fun v => idxP 2 rv v k := by
  subst hz
  refine s_rem (by omega) ?_
  show idxP 2 rv (vi ((i % r.length : Nat) : Int)) k
  exact hr.idx (sz := 2) eP_len (rg_get hp i) fun b o hb _ hc => h b o hb hc

theorem cfRing_spec (E : Eqs c) {D : Nat → Prop} {rv fv : Value} {r : List Pt} {p : Pt → Bool} {w : World} (hr : Sl D eP w rv r) (ht : Tells c.P fv (fun v => Value.agg (eP v).toArray) p w) :
    Ret c.P c.f_slices_ContainsFunc_api_Ring_api_Point #[rv, fv] w fun v w' => Keep NoB w w' ∧ v = .bool (r.any p) := by
  apply E.slices_ContainsFunc_api_Ring_api_Point
  unfold wp_slices_ContainsFunc_api_Ring_api_Point
  have hrb := hr.bound
  have hI : Ret c.P c.f_slices_IndexFunc_api_Ring_api_Point #[rv, fv] w fun v w' => Keep NoB w w' ∧ ∃ z : Int, v = vi z ∧ decide (0 ≤ z) = r.any p := by
    apply E.slices_IndexFunc_api_Ring_api_Point
    unfold wp_slices_IndexFunc_api_Ring_api_Point
    refine hr.len ?_
    refine s_range r.length (fun i w' => Keep NoB w w' ∧ ∀ x ∈ r.take i, p x = false) ⟨Keep.refl _ _, by simp⟩ ?_
    rintro i w1 j nx ⟨hk, hf⟩ hin hnx
    refine s_lss (s_condD (fun hlt => ?_) fun hge => ?_)
    · have hil := ofInt_lt hlt
      obtain ⟨x, hx⟩ := idx_of_lt hil
      refine (hr.keep0 hk).idx (sz := 2) eP_len hx fun b o _ _ hc => s_ldA hc rfl ?_
      refine callV_mono (ht x w1 hk) ?_
      rintro v w2 ⟨hk2, rfl⟩
      refine s_cond (fun h => ⟨hk.trans hk2, _, rfl, ?_⟩) fun h => ?_
      · have : r.any p = true := List.any_eq_true.2 ⟨x, List.mem_of_getElem? hx, h⟩
        rw [this]; simp
      · refine s_add (by omega) (by omega) (hnx _ hil ⟨hk.trans hk2, fun y hy => ?_⟩)
        rw [take_snoc hx] at hy
        rcases List.mem_append.1 hy with h' | h'
        · exact hf y h'
        · simp at h'; subst h'; exact h
    · obtain rfl : i = r.length := by omega
      rw [List.take_length] at hf
      refine ⟨hk, _, rfl, ?_⟩
      have : r.any p = false := by rw [List.any_eq_false]; intro x hx; rw [hf x hx]; simp
      rw [this]; simp
  refine hI.mono ?_
  rintro v w1 ⟨hk, z, rfl, hz⟩
  exact s_geq ⟨hk, by rw [hz]⟩

/-- what is wrong at a side -/
def badI (r : List Pt) (i : Nat) : Bool :=
  foldB (rg r (i + 1)) (rg r i) (rg r (i + 2)) || (List.range r.length).any fun k => decide (i + 2 ≤ k ∧ ¬ (i = 0 ∧ k = r.length - 1)) && meetB (rg r i) (rg r (i + 1)) (rg r k) (rg r (k + 1))
def sidesF (r : List Pt) : Int := if (List.range r.length).any (badI r) then 13 else 0
def ringF (r : List Pt) : Int := if r.length < 3 then 3 else if 500 < r.length then 2 else if r.any farPt then 1 else if ¬ r.Nodup then 6 else sidesF r

theorem sidesFault_spec (E : Eqs c) {D : Nat → Prop} {rv : Value} {r : List Pt} {w : World} (hr : Sl D eP w rv r) (hnp : ∀ p ∈ r, NP p) :
    Ret c.P c.f_region_sidesFault #[rv] w fun v w' => Keep NoB w w' ∧ v = vi (sidesF r) := by
  have hrb := hr.bound
  apply E.region_sidesFault
  unfold wp_region_sidesFault
  refine hr.len (hr.len ?_)
  refine s_range r.length (fun i w' => Keep NoB w w' ∧ ∀ q, q < i → badI r q = false) ⟨Keep.refl _ _, fun _ h => by omega⟩ ?_
  rintro i w1 j nx ⟨hk, hf⟩ hin hnx
  refine s_lss (s_condD (fun hlt => ?_) fun hge => ?_)
  rotate_left
  · obtain rfl : i = r.length := by omega
    refine ⟨hk, ?_⟩
    have : (List.range r.length).any (badI r) = false := by rw [List.any_eq_false]; intro q hq; rw [hf q (List.mem_range.1 hq)]; simp
    unfold sidesF
    rw [this]; rfl
  have hil := ofInt_lt hlt
  have hp : 0 < r.length := by omega
  have hr1 := hr.keep0 hk
  have hN : ∀ q, NP (rg r q) := fun q => hnp _ (rg_mem hp q)
  have hbad : badI r i = true → sidesF r = 13 := fun h => if_pos (List.any_eq_true.2 ⟨i, List.mem_range.2 hil, h⟩)
  refine s_joinM (fun vs w' => ∃ pa pc, vs = [pb pa 0, pb pc 0] ∧ At w' pa (eP (rg r i)) c.t_api_Point ∧ At w' pc (eP (rg r (i + 1))) c.t_api_Point ∧ Keep NoB w1 w') ?_ ?_
  · refine s_held (fun w' => Keep NoB w1 w') ⟨keep_drew _ _, ?_⟩
    refine hr1.idx (sz := 2) eP_len (rg_lt hil) fun b1 o1 _ _ hc1 => s_ldAS (fun w' h => hc1.keep0 h) rfl ?_
    refine s_add (by omega) (by omega) (s_around hr1 hp (i := i + 1) (by omega) fun b2 o2 _ hc2 => s_ldAS (fun w' h => hc2.keep0 h) rfl ?_)
    refine ⟨?_, ?_⟩
    · refine s_new (cs := [vi 0, vi 0]) fun pa w3 a3 k3 e3 z3 => ?_
      have j3 := (keep_drew NoB w1).trans k3
      refine ⟨j3, s_new (cs := [vi 0, vi 0]) fun pc w4 a4 k4 e4 z4 => ⟨j3.trans k4, ?_⟩⟩
      refine s_stA (vs := eP (rg r i)) (a3.keep0 k4) rfl rfl rfl fun w5 a5 k5 z5 => ?_
      have j5 : Keep NoB w1 w5 := (j3.trans k4).new k5 fun b h => .inr (by have : w1.drew.heap.size = w1.heap.size := rfl; omega)
      refine ⟨j5, ?_⟩
      refine s_stA (vs := eP (rg r (i + 1))) (a4.keep k5 (by omega)) rfl rfl rfl fun w6 a6 k6 z6 => ?_
      exact ⟨pa, pc, rfl, a5.keep k6 (by omega), a6, j5.new k6 fun b h => .inr (by have : w1.drew.heap.size = w1.heap.size := rfl; omega)⟩
    · refine s_new (cs := [vi 0, vi 0]) fun pc w3 a3 k3 e3 z3 => ?_
      have j3 := (keep_drew NoB w1).trans k3
      refine ⟨j3, s_new (cs := [vi 0, vi 0]) fun pa w4 a4 k4 e4 z4 => ⟨j3.trans k4, ?_⟩⟩
      refine s_stA (vs := eP (rg r i)) a4 rfl rfl rfl fun w5 a5 k5 z5 => ?_
      have j5 : Keep NoB w1 w5 := (j3.trans k4).new k5 fun b h => .inr (by have : w1.drew.heap.size = w1.heap.size := rfl; omega)
      refine ⟨j5, ?_⟩
      refine s_stA (vs := eP (rg r (i + 1))) ((a3.keep0 k4).keep k5 (by omega)) rfl rfl rfl fun w6 a6 k6 z6 => ?_
      exact ⟨pa, pc, rfl, a5.keep k6 (by omega), a6, j5.new k6 fun b h => .inr (by have : w1.drew.heap.size = w1.heap.size := rfl; omega)⟩
  rintro vs j1 w2 ⟨pa, pc, rfl, ha, hc, k2⟩
  have hk2 := hk.trans k2
  refine s_ldAAt hc.drew rfl (s_ldAAt ha.drew rfl (s_add (by omega) (by omega) ?_))
  refine s_around (hr.keep0 hk2).drew hp (i := i + 2) (by omega) fun b2 o2 _ hc2 => s_ldA hc2 rfl ?_
  refine (fold_spec E (hN _) (hN _) (hN _)).mono ?_
  rintro v w3 ⟨k3, rfl⟩
  have k13 := k2.drew.trans k3
  refine s_cond (fun h => ⟨hk.trans k13, by rw [hbad (by unfold badI; rw [h]; rfl)]⟩) fun hfold => ?_
  refine s_add (by omega) (by omega) ?_
  refine s_while (σ := Nat) (fun q => [vi q]) (fun q w' => i + 2 ≤ q ∧ Keep NoB w1 w' ∧ At w' pa (eP (rg r i)) c.t_api_Point ∧ At w' pc (eP (rg r (i + 1))) c.t_api_Point ∧ ∀ k, i + 2 ≤ k → k < q → meetB (rg r i) (rg r (i + 1)) (rg r k) (rg r (k + 1)) = false) (fun q => r.length - q) (i + 2)
    rfl ⟨Nat.le_refl _, k13, ha.drew.keep0 k3, hc.drew.keep0 k3, fun k h1 h2 => by omega⟩ ?_
  rintro q w4 j2 nx2 ⟨hq, k14, ha4, hc4, hm⟩ hnx2
  refine s_joinM (fun vs w' => w' = w4 ∧ vs = [.bool (decide (q < r.length ∧ ¬ (i = 0 ∧ q = r.length - 1)))]) ?_ ?_
  · refine s_lss (s_guardT (fun h => ?_) fun h => ⟨rfl, by have h := of_decide_eq_false h; rw [decide_eq_false (fun h' => h (by omega))]⟩)
    have h := of_decide_eq_true h
    refine s_eql (s_guardT (fun h0 => ?_) fun h0 => ?_)
    · have h0 := of_decide_eq_true h0
      refine s_sub (by omega) (by omega) (s_eql (s_not ⟨rfl, ?_⟩))
      congr 2
      by_cases hq1 : (q : Int) = (r.length : Int) - 1
      · rw [decide_eq_true hq1, decide_eq_false (fun h' => h'.2 ⟨by omega, by omega⟩)]; rfl
      · rw [decide_eq_false hq1, decide_eq_true ⟨by omega, fun h' => hq1 (by omega)⟩]; rfl
    · have h0 := of_decide_eq_false h0
      refine s_not ⟨rfl, ?_⟩
      rw [decide_eq_true (show q < r.length ∧ ¬ (i = 0 ∧ q = r.length - 1) from ⟨by omega, fun h' => h0 (by omega)⟩)]; rfl
  rintro vs j3 w5 ⟨hw, rfl⟩
  have hw := hw.symm
  subst hw
  refine s_condD (fun h => ?_) fun h => ?_
  · have hr4 := hr.keep0 (hk.trans k14)
    refine s_ldAAt ha4.drew rfl (s_ldAAt hc4.drew rfl ?_)
    refine hr4.drew.idx (sz := 2) eP_len (rg_lt h.1) fun b1 o1 _ _ hc1 => s_ldA hc1 rfl ?_
    refine s_add (by omega) (by omega) (s_around hr4.drew hp (i := q + 1) (by omega) fun b2 o2 _ hc2 => s_ldA hc2 rfl ?_)
    refine (meet_spec E (hN _) (hN _) (hN _) (hN _)).mono ?_
    rintro v w6 ⟨k6, rfl⟩
    refine s_cond (fun hh => ⟨hk.trans (k14.drew.trans k6), ?_⟩) fun hh => ?_
    · rw [hbad]
      unfold badI
      have : ((List.range r.length).any fun k => decide (i + 2 ≤ k ∧ ¬ (i = 0 ∧ k = r.length - 1)) && meetB (rg r i) (rg r (i + 1)) (rg r k) (rg r (k + 1))) = true :=
        List.any_eq_true.2 ⟨q, List.mem_range.2 h.1, by rw [hh, Bool.and_true, decide_eq_true_iff]; exact ⟨hq, h.2⟩⟩
      rw [this, Bool.or_true]
    · refine s_add (by omega) (by omega) (hnx2 (q + 1) w6 ⟨by omega, k14.drew.trans k6, ha4.drew.keep0 k6, hc4.drew.keep0 k6, fun k h1 h2 => ?_⟩ (by omega))
      by_cases hkq : k = q
      · subst hkq; exact hh
      · exact hm k h1 (by omega)
  · refine s_add (by omega) (by omega) (hnx _ hil ⟨hk.trans k14, fun p hp' => ?_⟩)
    by_cases hpi : p = i
    · subst hpi
      unfold badI
      rw [hfold, Bool.false_or, List.any_eq_false]
      intro k hkm
      have hkm := List.mem_range.1 hkm
      by_cases hc : p + 2 ≤ k ∧ ¬ (p = 0 ∧ k = r.length - 1)
      · rw [hm k hc.1 (by omega)]; simp
      · rw [decide_eq_false hc]; simp
    · exact hf p (by omega)
end Go.Eng

/-! Contracts: CheckRing, sides. -/
namespace Go.Eng
open Go
variable {c : Cfg}

theorem far_tells (E : Eqs c) (w : World) : Tells c.P (.func (.func c.f_region_IsFar) #[] #[]) (fun v => Value.agg (eP v).toArray) farPt w := fun x w' _ => (far_spec E x w').mono fun v w'' h => h
theorem np_all {r : List Pt} (h : r.any farPt = false) : ∀ p ∈ r, NP p := fun p hp => np_of (by
  have := List.any_eq_false.1 h p hp
  simpa using this)

theorem nodup_snoc {α : Type} {l : List α} {x : α} : (l ++ [x]).Nodup ↔ l.Nodup ∧ x ∉ l := by
  rw [List.nodup_append]
  simp only [List.nodup_cons, List.not_mem_nil, not_false_eq_true, List.nodup_nil, and_true, List.mem_singleton, true_and]
  exact ⟨fun h => ⟨h.1, fun hx => h.2 x hx x rfl rfl⟩, fun h => ⟨h.1, fun a ha b hb e => h.2 (by rw [← hb, ← e]; exact ha)⟩⟩

theorem checkRing_spec (E : Eqs c) (T : TyR c) {D : Nat → Prop} {rv : Value} {r : List Pt} {w : World} (hr : Sl D eP w rv r) :
    Ret c.P c.f_region_CheckRing #[rv] w fun v w' => Keep NoB w w' ∧ v = vi (ringF r) := by
  have hrb := hr.bound
  obtain ⟨kt, et, hu, hK, hz⟩ := T.mpb
  apply E.region_CheckRing
  unfold wp_region_CheckRing ringF
  refine hr.len (s_lss (s_condD (fun h => ⟨Keep.refl _ _, by rw [if_pos (by omega)]⟩) fun h => ?_))
  rw [if_neg (by omega)]
  refine hr.len (s_gtr (s_condD (fun h => ⟨Keep.refl _ _, by rw [if_pos (by omega)]⟩) fun h => ?_))
  rw [if_neg (by omega)]
  refine (cfRing_spec E hr (far_tells E w)).mono ?_
  rintro v w1 ⟨k1, rfl⟩
  refine s_cond (fun h => ⟨k1, by rw [if_pos h]⟩) fun h => ?_
  rw [if_neg (by simp [h])]
  refine s_makeMap (enc := fun p : Pt => .agg (eP p).toArray) fun m w2 hm k2 em zm => ?_
  have z1 := k1.size
  refine (hr.keep0 (k1.trans k2)).len ?_
  refine s_range r.length (fun i w' => Keep (· = m) w2 w' ∧ Mp (fun p : Pt => .agg (eP p).toArray) w' m (fun p => if p ∈ r.take i then some (.bool true) else none) ∧ (r.take i).Nodup) ⟨Keep.refl _ _, by simpa using hm, by simp⟩ ?_
  rintro i w3 j nx ⟨k3, hm3, hnd⟩ hin hnx
  have k03 : Keep NoB w w3 := (k1.trans k2).new k3 fun b h => .inr (by omega)
  have hz3 := k3.size
  refine s_lss (s_condD (fun hlt => ?_) fun hge => ?_)
  · have hil := ofInt_lt hlt
    obtain ⟨x, hx⟩ := idx_of_lt hil
    refine (hr.keep0 k03).idx (sz := 2) eP_len hx fun b o _ _ hc => s_ldA hc rfl ?_
    refine s_var rfl rfl rfl fun b5 w5 a5 k5 e5 z5 => ?_
    refine s_ldAAt a5 rfl ?_
    refine s_lookup hu hK hz (hm3.keep0 k5) x ?_
    have hts := take_snoc hx
    by_cases hmem : x ∈ r.take i
    · rw [if_pos hmem]
      refine s_cond (fun _ => ⟨k03.trans k5, ?_⟩) fun h => by simp at h
      rw [if_pos fun hn => ?_]
      have : (r.take (i + 1)).Nodup := List.Nodup.sublist (List.take_sublist _ _) hn
      rw [hts, nodup_snoc] at this
      exact this.2 hmem
    · rw [if_neg hmem]
      refine s_cond (fun h => by simp at h) fun _ => ?_
      refine s_ldAAt a5 rfl (s_mapUpdate hu hK (hm3.keep0 k5) x _ fun w7 hm7 k7 z7 => ?_)
      refine s_add (by omega) (by omega) (hnx w7 hil ⟨(k3.trans k5.none).trans k7, ?_, ?_⟩)
      · have he : (fun b => if b = x then some (Value.bool true) else if b ∈ r.take i then some (.bool true) else none) = fun p => if p ∈ r.take (i + 1) then some (.bool true) else none := by
          funext p
          rw [hts]
          by_cases h1 : p = x
          · subst h1; rw [if_pos rfl, if_pos (by simp)]
          · rw [if_neg h1]
            by_cases h2 : p ∈ r.take i
            · rw [if_pos h2, if_pos (by simp [h2])]
            · rw [if_neg h2, if_neg (by simp [h1, h2])]
        rw [he] at hm7
        exact hm7
      · rw [hts, nodup_snoc]; exact ⟨hnd, hmem⟩
  · obtain rfl : i = r.length := by omega
    rw [List.take_length] at hnd
    rw [if_neg (fun h => h hnd)]
    refine (sidesFault_spec E (hr.keep0 k03) (np_all h)).mono ?_
    rintro v w8 ⟨k8, rfl⟩
    exact ⟨k03.trans k8, rfl⟩

theorem ringF_ok {r : List Pt} (h : ringF r = 0) : 3 ≤ r.length ∧ r.length ≤ 500 ∧ (∀ p ∈ r, NP p) := by
  unfold ringF at h
  by_cases h1 : r.length < 3
  · rw [if_pos h1] at h; omega
  · rw [if_neg h1] at h
    by_cases h2 : 500 < r.length
    · rw [if_pos h2] at h; omega
    · rw [if_neg h2] at h
      cases h3 : r.any farPt with
      | true => rw [h3] at h; simp at h
      | false => exact ⟨by omega, by omega, np_all h3⟩

/-- the sides of a ring, and of all rings -/
def ringS (i : Nat) (r : List Pt) (n : Nat) : List Sd := (List.range n).map fun k => ⟨i, rg r k, rg r (k + 1)⟩
def sidesT (r : List (List Pt)) (n : Nat) : List Sd := ((List.range n).map fun i => ringS i (r.getD i []) (r.getD i []).length).flatten
theorem ringS_len (i : Nat) (r : List Pt) (n : Nat) : (ringS i r n).length = n := by simp [ringS]
theorem ringS_succ (i : Nat) (r : List Pt) (n : Nat) : ringS i r (n + 1) = ringS i r n ++ [⟨i, rg r n, rg r (n + 1)⟩] := by
  unfold ringS
  rw [List.range_succ, List.map_append]; rfl
theorem sidesT_succ (r : List (List Pt)) (n : Nat) : sidesT r (n + 1) = sidesT r n ++ ringS n (r.getD n []) (r.getD n []).length := by
  unfold sidesT
  rw [List.range_succ, List.map_append, List.flatten_append]
  simp
theorem sidesT_len {r : List (List Pt)} (h : ∀ x ∈ r, x.length ≤ 500) : ∀ n, n ≤ r.length → (sidesT r n).length ≤ n * 500
  | 0, _ => by simp [sidesT]
  | n + 1, hn => by
    have ih := sidesT_len h n (by omega)
    obtain ⟨x, hx⟩ := idx_of_lt (show n < r.length by omega)
    have hxe : r.getD n [] = x := by rw [List.getD, hx]; rfl
    have := h x (List.mem_of_getElem? hx)
    rw [sidesT_succ, List.length_append, ringS_len, hxe]
    omega
theorem eSd_len {l : List Sd} : ∀ p ∈ l, (eSd p).length = 5 := fun _ _ => rfl

theorem sides_spec (E : Eqs c) (T : TyR c) {D : Nat → Prop} {rv : Value} {r : List (List Pt)} {w : World} (hr : S2 D eP w rv r) (h1 : r.length ≤ 100) (h2 : ∀ x ∈ r, x.length ≤ 500) :
    Ret c.P c.f_region_sides #[rv] w fun v w' => Grow w c.t_region_side 5 eSd w' v (sidesT r r.length) := by
  have hr := hr.lt
  apply E.region_sides
  unfold wp_region_sides
  refine hr.len ?_
  refine s_for r.length (fun i (u : Value) => [u, vi i]) (fun i u w' => Grow w c.t_region_side 5 eSd w' u (sidesT r i)) (.slice none 0 0) rfl Grow.nil ?_
  rintro i u w1 j nx hg hin hnx
  have hlen := sidesT_len h2 i hin
  refine s_lss (s_condD (fun hlt => ?_) fun hge => ?_)
  rotate_left
  · obtain rfl : i = r.length := by omega
    exact hg
  have hil := ofInt_lt hlt
  obtain ⟨x, hx⟩ := idx_of_lt hil
  have hxl := h2 x (List.mem_of_getElem? hx)
  have hxe : r.getD i [] = x := by rw [List.getD, hx]; rfl
  have hsucc := sidesT_succ r i
  rw [hxe] at hsucc
  refine (hr.keep0 hg.keep).get hx fun xv hxv => ?_
  refine hxv.len ?_
  refine s_for x.length (fun k (u : Value) => [u, vi k]) (fun k u w' => Grow w c.t_region_side 5 eSd w' u (sidesT r i ++ ringS i x k) ∧ Sl (Old w) eP w' xv x) u rfl ⟨by simpa [ringS] using hg, hxv⟩ ?_
  rintro k u w2 j2 nx2 ⟨hg2, hx2⟩ hkn hnx2
  have hl2 : (sidesT r i ++ ringS i x k).length ≤ 100000 := by rw [List.length_append, ringS_len]; omega
  refine s_lss (s_condD (fun hlt => ?_) fun hge => ?_)
  · have hkl := ofInt_lt hlt
    have hp : 0 < x.length := by omega
    have hz2 := hg2.keep.size
    refine hx2.idx (sz := 2) eP_len (rg_lt hkl) fun b o _ _ hc => s_ldA hc rfl ?_
    refine s_var rfl rfl rfl fun b7 w4 a7 k7 e7 z7 => ?_
    have hg4 : Grow w c.t_region_side 5 eSd w4 u (sidesT r i ++ ringS i x k) := ⟨hg2.keep.trans k7, hg2.ow.keep0 k7⟩
    have hx4 := hx2.keep0 k7
    have hb7 : ¬ inV u b7 := fun h => by have := Own.inLt hg2.ow h; omega
    refine s_held (fun w' => Keep (inV u) w4 w') ⟨keep_drew _ _, ?_⟩
    have hol : ∀ b, Old w b → ¬ inV u b := fun b hb h => by have h := hg4.fresh h; have hb : b < w.heap.size := hb; omega
    refine s_ldAS (fun w' h => (a7.keep h hb7).cells) rfl ?_
    refine s_add (by omega) (by omega) (hx4.len (s_around hx4 hp (i := k + 1) (by omega) fun b2 o2 hd2 hc2 => s_ldAS (fun w' h => hc2.keep h (hol _ hd2)) rfl ?_))
    refine s_build T.st_side (cells := eSd ⟨i, rg x k, rg x (k + 1)⟩) rfl ?_
    refine s_pushH T.sl_side (y := (⟨i, rg x k, rg x (k + 1)⟩ : Sd)) hg4.ow.drew rfl rfl rfl (by omega) (by omega) (fun q hq => by have : w4.drew.heap.size = w4.heap.size := rfl; have := hg4.keep.size; show w.heap.size ≤ q; omega) (fun w' hk => (keep_drew (inV u) w4).trans hk) fun v' w6 ho6 k6 hi6 => ?_
    have k46 : Keep (inV u) w4 w6 := (keep_drew (inV u) w4).trans k6
    refine s_add (by omega) (by omega) (hnx2 v' w6 hkl ⟨⟨hg4.keep.new k46 fun q hq => .inr (hg4.fresh hq), ?_⟩, hx4.keep k46 hol⟩)
    rw [ringS_succ, ← List.append_assoc]
    exact ho6
  · obtain rfl : k = x.length := by omega
    refine s_add (by omega) (by omega) (hnx u w2 hil ?_)
    rw [hsucc]; exact hg2
end Go.Eng

/-! Contracts: isIn, Doubled, depths. -/
namespace Go.Eng
open Go
variable {c : Cfg}

theorem s_bneq {P : Program} {t : TypeId} (hu : P.underlying t = some .bool) {ox oy : Operand} {x y : Bool} {k : Value → Prop} (h : k (.bool (x != y))) :
    pureP P (do eqGuard .neq t ox oy (.bool x) (.bool y); binOp .neq t (.bool x) (.bool y)) k := by
  refine ⟨_, fun w => ?_, h⟩
  have h1 : (eqGuard .neq t ox oy (.bool x) (.bool y)) = pure () := rfl
  have h2 : (binOp .neq t (.bool x) (.bool y)) = (do pure (.bool (!(← Op.equalIn (9999 + 1) t (.bool x) (.bool y))))) := rfl
  rw [h1, Sem.run_bind', run_pure', h2, Op.equalIn]
  simp only [Sem.run_bind', Eng.run_und hu]
  cases x <;> cases y <;> rfl
theorem s_beq {P : Program} {t : TypeId} (hu : P.underlying t = some .bool) {ox oy : Operand} {x y : Bool} {k : Value → Prop} (h : k (.bool (x == y))) :
    pureP P (do eqGuard .eql t ox oy (.bool x) (.bool y); binOp .eql t (.bool x) (.bool y)) k := by
  refine ⟨_, fun w => ?_, h⟩
  have h1 : (eqGuard .eql t ox oy (.bool x) (.bool y)) = pure () := rfl
  have h2 : (binOp .eql t (.bool x) (.bool y)) = (do pure (.bool (← Op.equalIn (9999 + 1) t (.bool x) (.bool y)))) := rfl
  rw [h1, Sem.run_bind', run_pure', h2, Op.equalIn]
  simp only [Sem.run_bind', Eng.run_und hu]
  cases x <;> cases y <;> rfl

/-- a side crosses the way from a point -/
def crossB (a b p : Pt) : Bool := (decide (p.y < a.y) != decide (p.y < b.y)) && (decide (0 < turnI a b p) == decide (a.y < b.y))
def isInN (r : List Pt) (p : Pt) : Nat → Bool
  | 0 => false
  | n + 1 => if crossB (rg r n) (rg r (n + 1)) p then !isInN r p n else isInN r p n
def isInB (r : List Pt) (p : Pt) : Bool := isInN r p r.length

theorem isIn_spec (E : Eqs c) (T : TyR c) {D : Nat → Prop} {rv : Value} {r : List Pt} {p : Pt} {w : World} (hr : Sl D eP w rv r) (hnp : ∀ p ∈ r, NP p) (hp : NP p) :
    Ret c.P c.f_region_isIn #[rv, .agg (eP p).toArray] w fun v w' => Keep NoB w w' ∧ v = .bool (isInB r p) := by
  have hrb := hr.bound
  apply E.region_isIn
  unfold wp_region_isIn
  refine s_new (cs := eP p) fun b3 w1 a3 k1 e1 z1 => ?_
  refine (hr.keep0 k1).len ?_
  refine s_for r.length (fun i (_ : Unit) => [.bool (isInN r p i), vi i]) (fun i _ w' => Keep NoB w1 w') () rfl (Keep.refl _ _) ?_
  rintro i _ w2 j nx hk hin hnx
  refine s_lss (s_condD (fun hlt => ?_) fun hge => ?_)
  rotate_left
  · obtain rfl : i = r.length := by omega
    exact ⟨k1.trans hk, rfl⟩
  have hil := ofInt_lt hlt
  have hp0 : 0 < r.length := by omega
  have hr2 := hr.keep0 (k1.trans hk)
  have hN : ∀ q, NP (rg r q) := fun q => hnp _ (rg_mem hp0 q)
  refine s_join (hr2.idx (sz := 2) eP_len (rg_lt hil) fun b1 o1 _ _ hc1 => s_ldA hc1 rfl ?_)
  refine s_var rfl rfl rfl fun b7 w5 a7 k5 e5 z5 => ?_
  refine s_add (by omega) (by omega) ((hr2.keep0 k5).len (s_around (hr2.keep0 k5) hp0 (i := i + 1) (by omega) fun b2 o2 _ hc2 => s_ldA hc2 rfl ?_))
  refine s_var rfl rfl rfl fun b8 w7 a8 k7 e7 z7 => ?_
  have a7 := a7.keep0 k7
  have a3' := ((a3.keep0 hk).keep0 k5).keep0 k7
  have k27 := (hk.trans k5).trans k7
  have hnext : ∀ (w8 : World), Keep NoB w1 w8 → joinP (fun k3 => condP (.bool (crossB (rg r i) (rg r (i + 1)) p)) (notP (.bool (isInN r p i)) fun v49 => k3 [v49] w8) (k3 [.bool (isInN r p i)] w8)) fun s3 j3 w10 =>
      ∀ (j1 : Nat → Value), binP .add (vi i) (.int .i64 1) fun v50 => nx [g s3 0, v50] w10 := fun w8 k8 => by
    have := hnx () w8 hil k8
    refine s_join (s_cond (fun h => s_not ?_) fun h => ?_)
    · intro j1 j2
      refine s_add (by omega) (by omega) ?_
      have e : isInN r p (i + 1) = !isInN r p i := by rw [isInN, if_pos h]
      rw [e] at this; exact this
    · intro j1 j2
      refine s_add (by omega) (by omega) ?_
      have e : isInN r p (i + 1) = isInN r p i := by rw [isInN, if_neg (by simp [h])]
      rw [e] at this; exact this
  refine s_joinM (fun vs w' => Keep NoB w1 w' ∧ vs = [.bool (crossB (rg r i) (rg r (i + 1)) p)]) ?_ ?_
  · refine s_held (fun w' => Keep NoB w7 w') ⟨keep_drew _ _, ?_⟩
    have q : ∀ {b : Nat} {cs : List Value} {t : TypeId}, At w7 b cs t → ∀ w', Keep NoB w7 w' → Cells w' b 0 cs := fun h w' k => (h.keep0 k).cells
    have q1 : ∀ {b : Nat} {p : Pt} {t : TypeId}, At w7 b (eP p) t → ∀ w', Keep NoB w7 w' → w'.cell? ⟨b, 0 + 1, none⟩ = some (vi p.y) := fun h w' k => q h w' k 1 _ rfl
    refine s_off (s_ldS (q1 a7) (s_off (s_ldS (q1 a3') (s_gtr ?_))))
    refine s_off (s_ldS (q1 a8) (s_off (s_ldS (q1 a3') (s_gtr ?_))))
    refine s_bneq T.bool (s_guardT (fun h => ?_) fun h => ?_)
    · refine s_ldAS (q a7) rfl (s_ldAS (q a8) rfl (s_ldAS (q a3') rfl ?_))
      refine s_off (s_ldS (q1 a8) (s_off (s_ldS (q1 a7) (s_gtr ?_))))
      refine (turn_spec E (hN _) (hN _) hp).mono ?_
      rintro v w9 ⟨k9, rfl⟩
      have k9 := (keep_drew NoB w7).trans k9
      refine ⟨k9, s_gtr (s_beq T.bool ?_)⟩
      exact ⟨k27.trans k9, by unfold crossB; rw [h, Bool.true_and]⟩
    · exact ⟨k27.drew, by unfold crossB; rw [h, Bool.false_and]⟩
  rintro vs j2 w8 ⟨k8, rfl⟩
  exact hnext w8 k8

def dblN (r : List Pt) : Nat → Int
  | 0 => 0
  | n + 1 => dblN r n + ((rg r n).x * (rg r (n + 1)).y - (rg r n).y * (rg r (n + 1)).x)
def dblI (r : List Pt) : Int := dblN r r.length
theorem dbl_bd {r : List Pt} (hp : 0 < r.length) (hnp : ∀ p ∈ r, NP p) : ∀ n : Nat, -(80000000000 * (n : Int)) ≤ dblN r n ∧ dblN r n ≤ 80000000000 * (n : Int)
  | 0 => by simp [dblN]
  | n + 1 => by
    have ih := dbl_bd hp hnp n
    obtain ⟨⟨a1, a2⟩, a3, a4⟩ := hnp _ (rg_mem hp n)
    obtain ⟨⟨b1, b2⟩, b3, b4⟩ := hnp _ (rg_mem hp (n + 1))
    have e1 := mul_bd (a := (rg r n).x) (b := (rg r (n + 1)).y) (by omega) (by omega) (by omega) (by omega)
    have e2 := mul_bd (a := (rg r n).y) (b := (rg r (n + 1)).x) (by omega) (by omega) (by omega) (by omega)
    rw [dblN]
    omega

theorem doubled_spec (E : Eqs c) {D : Nat → Prop} {rv : Value} {r : List Pt} {w : World} (hr : Sl D eP w rv r) (hnp : ∀ p ∈ r, NP p) (hlen : r.length ≤ 100000) :
    Ret c.P c.f_region_Doubled #[rv] w fun v w' => Keep NoB w w' ∧ v = vi (dblI r) := by
  apply E.region_Doubled
  unfold wp_region_Doubled
  refine hr.len ?_
  refine s_for r.length (fun i (_ : Unit) => [vi (dblN r i), vi i]) (fun i _ w' => Keep NoB w w') () rfl (Keep.refl _ _) ?_
  rintro i _ w2 j nx hk hin hnx
  refine s_lss (s_condD (fun hlt => ?_) fun hge => ?_)
  rotate_left
  · obtain rfl : i = r.length := by omega
    exact ⟨hk, rfl⟩
  have hil := ofInt_lt hlt
  have hp0 : 0 < r.length := by omega
  have hr2 := hr.keep0 hk
  have hb := dbl_bd hp0 hnp i
  have hb1 := dbl_bd hp0 hnp (i + 1)
  obtain ⟨⟨a1, a2⟩, a3, a4⟩ := hnp _ (rg_mem hp0 i)
  obtain ⟨⟨b1, b2⟩, b3, b4⟩ := hnp _ (rg_mem hp0 (i + 1))
  have e1 := mul_bd (a := (rg r i).x) (b := (rg r (i + 1)).y) (by omega) (by omega) (by omega) (by omega)
  have e2 := mul_bd (a := (rg r i).y) (b := (rg r (i + 1)).x) (by omega) (by omega) (by omega) (by omega)
  have hs : dblN r (i + 1) = dblN r i + ((rg r i).x * (rg r (i + 1)).y - (rg r i).y * (rg r (i + 1)).x) := rfl
  refine hr2.idx (sz := 2) eP_len (rg_lt hil) fun b1 o1 _ _ hc1 => s_ldA hc1 rfl ?_
  refine s_var rfl rfl rfl fun b7 w5 a7 k5 e5 z5 => ?_
  refine s_add (by omega) (by omega) ((hr2.keep0 k5).len (s_around (hr2.keep0 k5) hp0 (i := i + 1) (by omega) fun b2 o2 _ hc2 => s_ldA hc2 rfl ?_))
  refine s_var rfl rfl rfl fun b8 w7 a8 k7 e7 z7 => ?_
  have a7 := a7.keep0 k7
  refine s_off (s_ldAt a7 rfl (s_off (s_ldAt a8 rfl (s_mul (by omega) (by omega) ?_))))
  refine s_off (s_ldAt a7 rfl (s_off (s_ldAt a8 rfl (s_mul (by omega) (by omega) (s_sub (by omega) (by omega) ?_)))))
  refine s_add (by omega) (by omega) (s_add (by omega) (by omega) (hnx () w7 hil ((hk.trans k5).trans k7)))

theorem abs_spec (E : Eqs c) (n : Int) (w : World) (h1 : -9223372036854775807 ≤ n) (h2 : n ≤ 9223372036854775807) : Ret c.P c.f_region_abs #[vi n] w fun v w' => w' = w ∧ v = vi (max n (-n)) := by
  apply E.region_abs
  unfold wp_region_abs
  exact s_neg h1 h2 (s_max2 ⟨rfl, rfl⟩)

/-- in how many other rings a ring lies -/
def depN (r : List (List Pt)) (i : Nat) : Nat → Nat
  | 0 => 0
  | n + 1 => depN r i n + if i ≠ n ∧ isInB (r.getD n []) ((r.getD i []).getD 0 ⟨0, 0⟩) = true then 1 else 0
theorem depN_le (r : List (List Pt)) (i : Nat) : ∀ n, depN r i n ≤ n
  | 0 => Nat.le_refl _
  | n + 1 => by
    have := depN_le r i n
    rw [depN]; split <;> omega
def depL (r : List (List Pt)) : List Int := (List.range r.length).map fun i => (depN r i r.length : Int)
/-- the numbers when k rings are done, and the next one with n others -/
def depP (r : List (List Pt)) (i n : Nat) : List Int := (List.range r.length).map fun q => if q < i then (depN r q r.length : Int) else if q = i then (depN r i n : Int) else 0

theorem depths_spec (E : Eqs c) (T : TyR c) {D : Nat → Prop} {rv : Value} {r : List (List Pt)} {w : World} (hr : S2 D eP w rv r) (h1 : r.length ≤ 100) (h2 : ∀ x ∈ r, 0 < x.length ∧ ∀ p ∈ x, NP p) :
    Ret c.P c.f_region_depths #[rv] w fun v w' => Keep NoB w w' ∧ Sl (Fresh w) eI w' v (depL r) := by
  apply E.region_depths
  unfold wp_region_depths
  refine hr.len (s_mkslice T.sl_int (by omega) fun ob w1 ha k1 e1 z1 => ?_)
  have hia := ia_new (c := c) ha
  refine (hr.keep0 k1).len ?_
  have hdl : ∀ i n, (depP r i n).length = r.length := fun i n => by simp [depP]
  have hdg : ∀ i n, i < r.length → (depP r i n)[i]? = some (depN r i n : Int) := fun i n hi => by
    unfold depP
    rw [List.getElem?_map, List.getElem?_range hi]
    simp
  have hds : ∀ i n (z : Int), i < r.length → z = (depN r i (n + 1) : Int) → (depP r i n).set i z = depP r i (n + 1) := fun i n z hi hz => by
    apply List.ext_getElem?
    intro q
    rw [List.getElem?_set]
    by_cases hq : i = q
    · subst hq
      rw [if_pos rfl, if_pos (by rw [hdl]; exact hi), hdg i (n + 1) hi, hz]
    · rw [if_neg hq]
      unfold depP
      rw [List.getElem?_map, List.getElem?_map]
      cases hx : (List.range r.length)[q]? with
      | none => rfl
      | some y =>
        have hy := lt_of_idx hx
        rw [List.length_range] at hy
        rw [List.getElem?_range hy] at hx
        cases hx
        simp only [Option.map_some]
        rw [if_neg (show ¬ q = i by omega), if_neg (show ¬ q = i by omega)]
  have hd0 : depP r 0 0 = List.replicate r.length 0 := by
    apply List.ext_getElem?
    intro q
    by_cases hq : q < r.length
    · rw [List.getElem?_replicate, if_pos hq]
      unfold depP
      rw [List.getElem?_map, List.getElem?_range hq]
      simp only [Option.map_some, Nat.not_lt_zero, if_false]
      split <;> rfl
    · rw [List.getElem?_eq_none (by rw [hdl]; omega), List.getElem?_eq_none (by simp; omega)]
  have hdn : ∀ i, i < r.length → depP r i r.length = depP r (i + 1) 0 := fun i hi => by
    unfold depP
    apply List.map_congr_left
    intro q hq
    by_cases h1 : q < i
    · rw [if_pos h1, if_pos (by omega)]
    · by_cases h2 : q = i
      · subst h2
        rw [if_neg h1, if_pos rfl, if_pos (by omega)]
      · rw [if_neg h1, if_neg h2, if_neg (by omega)]
        split <;> rfl
  have hde : depP r r.length 0 = depL r := by
    unfold depP depL
    apply List.map_congr_left
    intro q hq
    rw [if_pos (List.mem_range.1 hq)]
  rw [← hd0] at hia
  refine s_range r.length (fun i w' => Keep (· = ob) w1 w' ∧ IA c w' ob (depP r i 0)) ⟨Keep.refl _ _, hia⟩ ?_
  rintro i w2 j nx ⟨hk, hi2⟩ hin hnx
  have hr0 := hr.lt
  have k02 : Keep NoB w w2 := k1.new hk fun b h => .inr (by omega)
  refine s_lss (s_condD (fun hlt => ?_) fun hge => ?_)
  rotate_left
  · obtain rfl : i = r.length := by omega
    rw [hde] at hi2
    refine ⟨k02, ?_⟩
    exact hi2.sl (by simp [depL]) (Nat.le_refl _) (by omega) (show w.heap.size ≤ ob by omega)
  have hil := ofInt_lt hlt
  obtain ⟨x, hx⟩ := idx_of_lt hil
  have hxe : r.getD i [] = x := by rw [List.getD, hx]; rfl
  obtain ⟨hx0, hxn⟩ := h2 x (List.mem_of_getElem? hx)
  obtain ⟨p0, hp0⟩ := idx_of_lt hx0
  have hpe : x.getD 0 ⟨0, 0⟩ = p0 := by rw [List.getD, hp0]; rfl
  refine (hr0.keep0 k02).get hx fun xv hxv => ?_
  refine (hr0.keep0 k02).len ?_
  refine s_range r.length (fun n w' => Keep (· = ob) w1 w' ∧ IA c w' ob (depP r i n) ∧ Sl (Old w) eP w' xv x) ⟨hk, hi2, hxv⟩ ?_
  rintro n w3 j2 nx2 ⟨hk3, hi3, hx3⟩ hn hnx2
  have k03 : Keep NoB w w3 := k1.new hk3 fun b h => .inr (by omega)
  refine s_lss (s_condD (fun hlt2 => ?_) fun hge2 => ?_)
  rotate_left
  · obtain rfl : n = r.length := by omega
    rw [hdn i hil] at hi3
    exact s_add (by omega) (by omega) (hnx w3 hil ⟨hk3, hi3⟩)
  have hnl := ofInt_lt hlt2
  obtain ⟨y, hy⟩ := idx_of_lt hnl
  have hye : r.getD n [] = y := by rw [List.getD, hy]; rfl
  obtain ⟨hy0, hyn⟩ := h2 y (List.mem_of_getElem? hy)
  have hds1 : depN r i (n + 1) = depN r i n + if i ≠ n ∧ isInB y p0 = true then 1 else 0 := by rw [depN, hye, hxe, hpe]
  have hdle := depN_le r i n
  have hold : ∀ b, Old w b → ¬ b = ob := fun b hb h => by have hb : b < w.heap.size := hb; omega
  refine s_join ((hr0.keep0 k03).get hy fun yv hyv => ?_)
  refine s_joinM (fun vs w' => Keep NoB w3 w' ∧ vs = [.bool (decide (i ≠ n ∧ isInB y p0 = true))]) (s_neq (s_guardT (fun h => ?_) fun h => ⟨Keep.refl _ _, ?_⟩)) ?_
  · have h := of_decide_eq_true h
    show idxP 2 xv (vi (0 : Nat)) _
    refine hx3.idx (sz := 2) eP_len hp0 fun b o _ _ hc => s_ldA hc rfl ?_
    refine (isIn_spec E T hyv hyn (hxn p0 (List.mem_of_getElem? hp0))).mono ?_
    rintro v w6 ⟨k6, rfl⟩
    refine ⟨k6, ?_⟩
    congr 2
    rw [Bool.eq_iff_iff, decide_eq_true_iff]
    exact ⟨fun h' => ⟨by omega, h'⟩, fun h' => h'.2⟩
  · have h := of_decide_eq_false h
    rw [decide_eq_false (fun h' => h (by omega))]
  rintro vs j3 w5 ⟨k5, rfl⟩
  have hi5 : IA c w5 ob (depP r i n) := At.keep0 hi3 k5
  have hsl5 := hi5.sl (n := r.length) (cap := r.length) (D := fun _ => True) (by rw [hdl]) (Nat.le_refl _) (by omega) trivial
  refine s_join (s_condD (fun h => ?_) fun h => ?_)
  · rw [if_pos h] at hds1
    refine hsl5.idx (sz := 1) eI_len (hdg i n hil) fun b o _ _ hc => s_ldC0 hc ?_
    refine s_add (by omega) (by omega) ?_
    refine hi5.put (by rw [hdl]) (by rw [hdl]; exact hil) fun w8 hi8 k8 z8 => ?_
    intro j4 j5
    rw [hds i n _ hil (by rw [hds1]; omega)] at hi8
    exact s_add (by omega) (by omega) (hnx2 w8 hnl ⟨(hk3.trans k5.none).trans k8, hi8, (hx3.keep0 k5).keep k8 hold⟩)
  · rw [if_neg h] at hds1
    intro j4 j5
    have := hds i n _ hil rfl
    rw [hds1, Nat.add_zero] at this
    have he : (depP r i n).set i (depN r i n : Int) = depP r i n := by
      have hg := hdg i n hil
      apply List.ext_getElem?
      intro q
      rw [List.getElem?_set]
      by_cases hq : i = q
      · subst hq; rw [if_pos rfl, if_pos (by rw [hdl]; exact hil), hg]
      · rw [if_neg hq]
    rw [he] at this
    rw [this] at hi5
    exact s_add (by omega) (by omega) (hnx2 w5 hnl ⟨hk3.trans k5.none, hi5, hx3.keep0 k5⟩)
end Go.Eng

/-! Contracts: CheckRegion, Area. -/
namespace Go.Eng
open Go
variable {c : Cfg}

def minX (s : Sd) : Int := min s.a.x s.b.x
def maxX (s : Sd) : Int := max s.a.x s.b.x
def hitB (x y : Sd) : Bool := decide (x.ring ≠ y.ring) && meetB x.a x.b y.a y.b
def crossS (l : List Sd) : Bool := l.any fun x => l.any fun y => hitB x y
def cornN (r : List (List Pt)) : Nat → Nat
  | 0 => 0
  | n + 1 => cornN r n + (r.getD n []).length
def regF (r : List (List Pt)) : Int :=
  if 100 < r.length ∨ 2000 < cornN r r.length then 2 else if firstNZ (r.map ringF) ≠ 0 then firstNZ (r.map ringF) else if crossS (sidesT r r.length) = true then 13 else 0

/-- the library's sort, at sides -/
structure ExtR (c : Cfg) : Prop where
  sort : ∀ {D : Nat → Prop} {v : Value} {l : List Sd} {w : World}, Ow D c.t_region_side 5 eSd w v l → l.length ≤ 100000 →
    Ret c.P c.f_slices_SortFunc_sl_region_side_region_side #[v, .func (.func c.f_region_CheckRegion_1) #[] #[]] w fun _ w' => ∃ l' : List Sd, l'.Perm l ∧ l'.Pairwise (fun x y => minX x ≤ minX y) ∧ Sl D eSd w' v l' ∧ Keep (inV v) w w'

theorem apartB_comm (a b d e : Int) : apartB a b d e = apartB d e a b := by unfold apartB; rw [Bool.or_comm]
theorem meetB_comm (a b d e : Pt) : meetB a b d e = meetB d e a b := by
  unfold meetB
  rw [apartB_comm a.x, apartB_comm a.y, Bool.and_comm (acrossB (turnI a b d) _)]
theorem hitB_comm (x y : Sd) : hitB x y = hitB y x := by
  unfold hitB
  rw [meetB_comm]
  congr 1
  rw [Bool.eq_iff_iff, decide_eq_true_iff, decide_eq_true_iff]
  exact ⟨fun h e => h e.symm, fun h e => h e.symm⟩
theorem hitB_self (x : Sd) : hitB x x = false := by unfold hitB; simp
theorem hitB_far {x y : Sd} (h : maxX x < minX y) : hitB x y = false := by
  have : apartB x.a.x x.b.x y.a.x y.b.x = true := by
    unfold apartB
    rw [Bool.or_eq_true]; left; exact decide_eq_true h
  unfold hitB meetB
  rw [this]; simp

theorem cross_false {l l' : List Sd} (hp : l'.Perm l) (h : ∀ i x, l'[i]? = some x → ∀ y ∈ l'.drop (i + 1), hitB x y = false) : crossS l = false := by
  unfold crossS
  rw [List.any_eq_false]
  intro x hx
  simp only [Bool.not_eq_true]
  rw [List.any_eq_false]
  intro y hy
  simp only [Bool.not_eq_true]
  obtain ⟨i, hi⟩ := List.getElem?_of_mem (hp.mem_iff.2 hx)
  obtain ⟨k, hk⟩ := List.getElem?_of_mem (hp.mem_iff.2 hy)
  rcases Nat.lt_trichotomy i k with h' | h' | h'
  · refine h i x hi y ?_
    refine List.mem_of_getElem? (i := k - (i + 1)) ?_
    rw [List.getElem?_drop, show i + 1 + (k - (i + 1)) = k by omega]; exact hk
  · subst h'
    rw [hi] at hk; cases hk; exact hitB_self x
  · rw [hitB_comm]
    refine h k y hk x ?_
    refine List.mem_of_getElem? (i := i - (k + 1)) ?_
    rw [List.getElem?_drop, show k + 1 + (i - (k + 1)) = i by omega]; exact hi
theorem cross_true {l l' : List Sd} (hp : l'.Perm l) {x y : Sd} (hx : x ∈ l') (hy : y ∈ l') (h : hitB x y = true) : crossS l = true := by
  unfold crossS
  exact List.any_eq_true.2 ⟨x, hp.mem_iff.1 hx, List.any_eq_true.2 ⟨y, hp.mem_iff.1 hy, h⟩⟩

theorem cornN_le {r : List (List Pt)} (h : ∀ x ∈ r, x.length ≤ 100000) : ∀ n, n ≤ r.length → cornN r n ≤ n * 100000
  | 0, _ => by simp [cornN]
  | n + 1, hn => by
    have ih := cornN_le h n (by omega)
    obtain ⟨x, hx⟩ := idx_of_lt (show n < r.length by omega)
    have hxe : r.getD n [] = x := by rw [List.getD, hx]; rfl
    have := h x (List.mem_of_getElem? hx)
    rw [cornN, hxe]; omega

theorem np_sides {r : List (List Pt)} (h : ∀ x ∈ r, 0 < x.length ∧ ∀ p ∈ x, NP p) : ∀ n, n ≤ r.length → ∀ s ∈ sidesT r n, NP s.a ∧ NP s.b
  | 0, _ => by simp [sidesT]
  | n + 1, hn => by
    have ih := np_sides h n (by omega)
    obtain ⟨x, hx⟩ := idx_of_lt (show n < r.length by omega)
    have hxe : r.getD n [] = x := by rw [List.getD, hx]; rfl
    obtain ⟨h1, h2⟩ := h x (List.mem_of_getElem? hx)
    intro s hs
    rw [sidesT_succ, hxe] at hs
    rcases List.mem_append.1 hs with h' | h'
    · exact ih s h'
    · unfold ringS at h'
      obtain ⟨k, hk, rfl⟩ := List.mem_map.1 h'
      exact ⟨h2 _ (rg_mem h1 k), h2 _ (rg_mem h1 (k + 1))⟩

theorem checkRegion_spec (E : Eqs c) (T : TyR c) (X : ExtR c) {D : Nat → Prop} {rv : Value} {r : List (List Pt)} {w : World} (hr : S2 D eP w rv r) (h1 : r.length ≤ 10000) (h2 : ∀ x ∈ r, x.length ≤ 100000) :
    Ret c.P c.f_region_CheckRegion #[rv] w fun v w' => Keep NoB w w' ∧ v = vi (regF r) := by
  have hr := hr.lt
  apply E.region_CheckRegion
  unfold wp_region_CheckRegion
  refine hr.len ?_
  refine s_for r.length (fun i (_ : Unit) => [vi (cornN r i), vi i]) (fun i _ w' => w' = w) () rfl rfl ?_
  rintro i _ w1 j nx hw hin hnx
  have hw := hw.symm
  subst hw
  have hcl := cornN_le h2 i hin
  refine s_lss (s_condD (fun hlt => ?_) fun hge => ?_)
  · have hil := ofInt_lt hlt
    obtain ⟨x, hx⟩ := idx_of_lt hil
    have hxe : r.getD i [] = x := by rw [List.getD, hx]; rfl
    have hxl := h2 x (List.mem_of_getElem? hx)
    refine hr.get hx fun xv hxv => hxv.len (s_add (by omega) (by omega) (s_add (by omega) (by omega) ?_))
    have := hnx () w hil rfl
    rw [cornN, hxe] at this
    exact this
  obtain rfl : i = r.length := by omega
  refine s_joinM (fun vs w' => w' = w ∧ vs = [.bool (decide (100 < r.length ∨ 2000 < cornN r r.length))]) (hr.len (s_gtr (s_guardF (fun h => s_gtr ⟨rfl, ?_⟩) fun h => ⟨rfl, ?_⟩))) ?_
  · have h := of_decide_eq_false h
    congr 2
    rw [Bool.eq_iff_iff, decide_eq_true_iff, decide_eq_true_iff]
    omega
  · have h := of_decide_eq_true h
    rw [decide_eq_true (by omega)]
  rintro vs j1 w2 ⟨hw, rfl⟩
  have hw := hw.symm
  subst hw
  unfold regF
  refine s_condD (fun h => ⟨Keep.refl _ _, by rw [if_pos h]⟩) fun h => ?_
  rw [if_neg h]
  refine hr.len ?_
  refine s_range r.length (fun i w' => Keep NoB w w' ∧ ∀ q, q < i → (r.map ringF)[q]? = some 0) ⟨Keep.refl _ _, fun _ h => by omega⟩ ?_
  rintro i w3 j3 nx3 ⟨k3, hz⟩ hin3 hnx3
  refine s_lss (s_condD (fun hlt => ?_) fun hge => ?_)
  · have hil := ofInt_lt hlt
    obtain ⟨x, hx⟩ := idx_of_lt hil
    have hm : (r.map ringF)[i]? = some (ringF x) := by rw [List.getElem?_map, hx]; rfl
    refine (hr.keep0 k3).get hx fun xv hxv => ?_
    refine (checkRing_spec E T hxv).mono ?_
    rintro v w4 ⟨k4, rfl⟩
    refine s_neq (s_condD (fun hne => ⟨k3.trans k4, ?_⟩) fun heq => ?_)
    · have := firstNZ_at hz hm hne
      rw [this, if_pos hne]
    · refine s_add (by omega) (by omega) (hnx3 w4 hil ⟨k3.trans k4, fun q hq => ?_⟩)
      by_cases hqi : q = i
      · subst hqi; rw [hm]; congr 1; omega
      · exact hz q (by omega)
  obtain rfl : i = r.length := by omega
  have hz0 : firstNZ (r.map ringF) = 0 := firstNZ_all fun q hq => hz q (by simpa using hq)
  rw [hz0, if_neg (by simp)]
  have hok : ∀ x ∈ r, 3 ≤ x.length ∧ x.length ≤ 500 ∧ ∀ p ∈ x, NP p := fun x hx => by
    obtain ⟨q, hq⟩ := List.getElem?_of_mem hx
    have := hz q (lt_of_idx hq)
    rw [List.getElem?_map, hq] at this
    exact ringF_ok (Option.some.inj this)
  have h100 : r.length ≤ 100 := by omega
  refine (sides_spec E T (hr.keep0 k3) h100 fun x hx => (hok x hx).2.1).mono ?_
  intro v45 w5 hg5
  have hnp := np_sides (fun x hx => ⟨by have := (hok x hx).1; omega, (hok x hx).2.2⟩) r.length (Nat.le_refl _)
  have hsl := sidesT_len (fun x hx => (hok x hx).2.1) r.length (Nat.le_refl _)
  generalize sidesT r r.length = l at *
  refine (X.sort hg5.ow (by omega)).mono ?_
  rintro u w6 ⟨l', hperm, hsort, hs6, k6⟩
  have k06 : Keep NoB w w6 := k3.trans (hg5.keep.new k6 fun b hb => .inr (hg5.fresh hb))
  have hnp' : ∀ s ∈ l', NP s.a ∧ NP s.b := fun s hs => hnp s (hperm.mem_iff.1 hs)
  have hll : l'.length ≤ 100000 := by rw [hperm.length_eq]; omega
  refine hs6.len ?_
  refine s_range l'.length (fun i w' => Keep NoB w6 w' ∧ ∀ q, q < i → ∀ x, l'[q]? = some x → ∀ y ∈ l'.drop (q + 1), hitB x y = false) ⟨Keep.refl _ _, fun _ h => by omega⟩ ?_
  rintro i w7 j7 nx7 ⟨k7, hc⟩ hin7 hnx7
  refine s_lss (s_condD (fun hlt => ?_) fun hge => ?_)
  rotate_left
  · obtain rfl : i = l'.length := by omega
    refine ⟨k06.trans k7, ?_⟩
    rw [if_neg]
    rw [cross_false hperm fun q x hq => hc q (lt_of_idx hq) x hq]; simp
  have hil := ofInt_lt hlt
  obtain ⟨x, hx⟩ := idx_of_lt hil
  obtain ⟨hxa, hxb⟩ := hnp' x (List.mem_of_getElem? hx)
  have hs7 := hs6.keep0 k7
  refine hs7.idx (sz := 5) eSd_len hx fun b o _ _ hcx => s_ldA hcx rfl ?_
  refine s_var rfl rfl rfl fun bx w9 ax k9 ex z9 => ?_
  refine s_add (by omega) (by omega) (s_sliceLo T.sl_side (hs7.keep0 k9) eSd_len (lo := i + 1) (by omega) fun v58 h58 => ?_)
  refine h58.len ?_
  have hdl : (l'.drop (i + 1)).length = l'.length - (i + 1) := List.length_drop
  refine s_joinM (fun _ w' => Keep NoB w9 w' ∧ ∀ y ∈ l'.drop (i + 1), hitB x y = false) ?_ ?_
  · refine s_range (l'.drop (i + 1)).length (fun k w' => Keep NoB w9 w' ∧ ∀ q, q < k → ∀ y, (l'.drop (i + 1))[q]? = some y → hitB x y = false) ⟨Keep.refl _ _, fun _ h => by omega⟩ ?_
    rintro k w11 j11 nx11 ⟨k11, hq⟩ hkn hnx11
    refine s_lss (s_condD (fun hlt2 => ?_) fun hge2 => ?_)
    rotate_left
    · obtain rfl : k = (l'.drop (i + 1)).length := by omega
      refine ⟨k11, fun y hy => ?_⟩
      obtain ⟨q, hq'⟩ := List.getElem?_of_mem hy
      exact hq q (lt_of_idx hq') y hq'
    have hkl := ofInt_lt hlt2
    obtain ⟨y, hy⟩ := idx_of_lt hkl
    have hyl : l'[i + 1 + k]? = some y := by rw [← List.getElem?_drop]; exact hy
    obtain ⟨hya, hyb⟩ := hnp' y (List.mem_of_getElem? hyl)
    refine (h58.keep0 k11).idx (sz := 5) eSd_len hy fun b o _ _ hcy => s_ldA hcy rfl ?_
    refine s_var rfl rfl rfl fun by' w13 ay k13 ey z13 => ?_
    have ax := (ax.keep0 k11).keep0 k13
    have k913 := k11.trans k13
    refine s_off (s_off (s_ldAt ay rfl (s_off (s_off (s_ldAt ay rfl (s_min2 ?_))))))
    refine s_off (s_off (s_ldAt ax rfl (s_off (s_off (s_ldAt ax rfl (s_max2 ?_))))))
    refine s_gtr (s_condD (fun hfar => ?_) fun hnear => ?_)
    · refine ⟨k913, fun z hz => ?_⟩
      obtain ⟨q, hq'⟩ := List.getElem?_of_mem hz
      by_cases hqk : q < k
      · exact hq q hqk z hq'
      · have hzl : l'[i + 1 + q]? = some z := by rw [← List.getElem?_drop]; exact hq'
        have hle : minX y ≤ minX z := by
          rcases Nat.lt_or_ge k q with h' | h'
          · have := List.pairwise_iff_getElem.1 hsort (i + 1 + k) (i + 1 + q) (lt_of_idx hyl) (lt_of_idx hzl) (by omega)
            rw [List.getElem?_eq_getElem (lt_of_idx hyl)] at hyl
            rw [List.getElem?_eq_getElem (lt_of_idx hzl)] at hzl
            rw [Option.some.inj hyl, Option.some.inj hzl] at this
            exact this
          · obtain rfl : q = k := by omega
            rw [hyl] at hzl; cases hzl; exact Int.le_refl _
        refine hitB_far (Int.lt_of_lt_of_le ?_ hle)
        exact hfar
    refine s_joinM (fun vs w' => Keep NoB w13 w' ∧ vs = [.bool (hitB x y)]) ?_ ?_
    · refine s_off (s_ldAt ax rfl (s_off (s_ldAt ay rfl (s_neq (s_guardT (fun hne => ?_) fun he => ⟨Keep.refl _ _, ?_⟩)))))
      · have p1 : Cells w13 bx (0 + 1) (eP x.a) := fun q v hq => by
          have := ax.cells (1 + q) v (by match q, hq with | 0, hq => exact hq | 1, hq => exact hq)
          rw [show 0 + 1 + q = 0 + (1 + q) by omega]; exact this
        have p2 : Cells w13 bx (0 + 3) (eP x.b) := fun q v hq => by
          have := ax.cells (3 + q) v (by match q, hq with | 0, hq => exact hq | 1, hq => exact hq)
          rw [show 0 + 3 + q = 0 + (3 + q) by omega]; exact this
        have p3 : Cells w13 by' (0 + 1) (eP y.a) := fun q v hq => by
          have := ay.cells (1 + q) v (by match q, hq with | 0, hq => exact hq | 1, hq => exact hq)
          rw [show 0 + 1 + q = 0 + (1 + q) by omega]; exact this
        have p4 : Cells w13 by' (0 + 3) (eP y.b) := fun q v hq => by
          have := ay.cells (3 + q) v (by match q, hq with | 0, hq => exact hq | 1, hq => exact hq)
          rw [show 0 + 3 + q = 0 + (3 + q) by omega]; exact this
        refine s_off (s_ldA p1 rfl (s_off (s_ldA p2 rfl (s_off (s_ldA p3 rfl (s_off (s_ldA p4 rfl ?_)))))))
        refine (meet_spec E hxa hxb hya hyb).mono ?_
        rintro v w15 ⟨k15, rfl⟩
        refine ⟨k15, ?_⟩
        unfold hitB
        rw [show decide (x.ring ≠ y.ring) = true from hne, Bool.true_and]
      · unfold hitB
        rw [show decide (x.ring ≠ y.ring) = false from he, Bool.false_and]
    rintro vs j14 w14 ⟨k14, rfl⟩
    refine s_cond (fun hh => ?_) fun hh => ?_
    · refine ⟨k06.trans (((k7.trans k9).trans k913).trans k14), ?_⟩
      rw [cross_true hperm (List.mem_of_getElem? hx) (List.mem_of_getElem? hyl) hh, if_pos rfl]
    · refine s_add (by omega) (by omega) (hnx11 w14 hkl ⟨k913.trans k14, fun q hqk z hz => ?_⟩)
      by_cases hqk' : q = k
      · subst hqk'
        rw [hy] at hz; cases hz; exact hh
      · exact hq q (by omega) z hz
  · rintro vs j10 w10 ⟨k10, hd⟩
    refine s_add (by omega) (by omega) (hnx7 w10 hil ⟨(k7.trans k9).trans k10, fun q hq z hz => ?_⟩)
    by_cases hqi : q = i
    · subst hqi
      rw [hx] at hz; cases hz; exact hd
    · exact hc q (by omega) z hz
end Go.Eng

/-! Contracts: Area. -/
namespace Go.Eng
open Go
variable {c : Cfg}

theorem regF_ok {r : List (List Pt)} (h : regF r = 0) : r.length ≤ 100 ∧ (∀ x ∈ r, 3 ≤ x.length ∧ x.length ≤ 500 ∧ ∀ p ∈ x, NP p) := by
  unfold regF at h
  by_cases h1 : 100 < r.length ∨ 2000 < cornN r r.length
  · rw [if_pos h1] at h; omega
  rw [if_neg h1] at h
  by_cases h2 : firstNZ (r.map ringF) ≠ 0
  · rw [if_pos h2] at h; exact absurd h h2
  · refine ⟨by omega, fun x hx => ringF_ok ?_⟩
    obtain ⟨q, hq⟩ := List.getElem?_of_mem hx
    have h2 : firstNZ (r.map ringF) = 0 := by omega
    apply Classical.byContradiction
    intro hne
    have : ∀ (l : List Int) (z : Int), z ∈ l → z ≠ 0 → firstNZ l ≠ 0 := by
      intro l
      induction l with
      | nil => intro z hz; cases hz
      | cons a t ih =>
        intro z hz hz0
        simp only [firstNZ]
        by_cases ha : a ≠ 0
        · rw [if_pos ha]; exact ha
        · rw [if_neg ha]
          rcases List.mem_cons.1 hz with h' | h'
          · subst h'; exact absurd hz0 ha
          · exact ih z h' hz0
    exact this _ _ (List.mem_map.2 ⟨x, hx, rfl⟩) hne h2

def areaN (r : List (List Pt)) : Nat → Int
  | 0 => 0
  | n + 1 => areaN r n + if depN r n r.length % 2 = 0 then max (dblI (r.getD n [])) (-dblI (r.getD n [])) else -max (dblI (r.getD n [])) (-dblI (r.getD n []))
def areaI (r : List (List Pt)) : Int := areaN r r.length

theorem area_bd {r : List (List Pt)} (h : ∀ x ∈ r, 3 ≤ x.length ∧ x.length ≤ 500 ∧ ∀ p ∈ x, NP p) : ∀ n : Nat, n ≤ r.length → -(40000000000000 * (n : Int)) ≤ areaN r n ∧ areaN r n ≤ 40000000000000 * (n : Int)
  | 0, _ => by simp [areaN]
  | n + 1, hn => by
    have ih := area_bd h n (by omega)
    obtain ⟨x, hx⟩ := idx_of_lt (show n < r.length by omega)
    have hxe : r.getD n [] = x := by rw [List.getD, hx]; rfl
    obtain ⟨h1, h2, h3⟩ := h x (List.mem_of_getElem? hx)
    have hb := dbl_bd (by omega) h3 x.length
    have hb : -40000000000000 ≤ dblI x ∧ dblI x ≤ 40000000000000 := by unfold dblI; omega
    rw [areaN, hxe]
    split <;> omega

theorem area_spec (E : Eqs c) (T : TyR c) (X : ExtR c) {D : Nat → Prop} {rv : Value} {r : List (List Pt)} {w : World} (hr : S2 D eP w rv r) (h1 : r.length ≤ 10000) (h2 : ∀ x ∈ r, x.length ≤ 100000) :
    Ret c.P c.f_region_Area #[rv] w fun v w' => Keep NoB w w' ∧ v = .tuple #[vi (if regF r ≠ 0 then 0 else areaI r), vi (regF r)] := by
  have hr := hr.lt
  apply E.region_Area
  unfold wp_region_Area
  refine (checkRegion_spec E T X hr h1 h2).mono ?_
  rintro v w1 ⟨k1, rfl⟩
  refine s_neq (s_condD (fun h => ⟨k1, by rw [if_pos h]⟩) fun h => ?_)
  have h0 : regF r = 0 := by omega
  rw [if_neg (by omega), h0]
  obtain ⟨h100, hok⟩ := regF_ok h0
  refine (depths_spec E T (hr.keep0 k1) h100 fun x hx => ⟨by have := (hok x hx).1; omega, (hok x hx).2.2⟩).mono ?_
  rintro dv w2 ⟨k2, hd⟩
  have k02 := k1.trans k2
  have hdl : (depL r).length = r.length := by simp [depL]
  refine hd.len ?_
  rw [hdl]
  refine s_for r.length (fun i (_ : Unit) => [vi (areaN r i), vi i]) (fun i _ w' => Keep NoB w2 w') () rfl (Keep.refl _ _) ?_
  rintro i _ w3 j nx k3 hin hnx
  refine s_lss (s_condD (fun hlt => ?_) fun hge => ?_)
  rotate_left
  · obtain rfl : i = r.length := by omega
    exact ⟨k02.trans k3, rfl⟩
  have hil := ofInt_lt hlt
  obtain ⟨x, hx⟩ := idx_of_lt hil
  have hxe : r.getD i [] = x := by rw [List.getD, hx]; rfl
  obtain ⟨hx1, hx2, hx3⟩ := hok x (List.mem_of_getElem? hx)
  have hb := dbl_bd (by omega) hx3 x.length
  have hb : -40000000000000 ≤ dblI x ∧ dblI x ≤ 40000000000000 := by unfold dblI; omega
  have hab := area_bd hok i (by omega)
  have hgd : (depL r)[i]? = some (depN r i r.length : Int) := by
    unfold depL
    rw [List.getElem?_map, List.getElem?_range hil]; rfl
  have hsu : areaN r (i + 1) = areaN r i + if depN r i r.length % 2 = 0 then max (dblI x) (-dblI x) else -max (dblI x) (-dblI x) := by rw [areaN, hxe]
  have hcall : ∀ K : Value → World → Prop, (∀ w7, Keep NoB w3 w7 → K (vi (max (dblI x) (-dblI x))) w7) → idxP 1 rv (vi i) fun v27 => ld v27 w3 fun v28 => Ret c.P c.f_region_Doubled #[v28] w3 fun v29 w6 => Ret c.P c.f_region_abs #[v29] w6 K := fun K hK => by
    refine (hr.keep0 (k02.trans k3)).get hx fun xv hxv => ?_
    refine (doubled_spec E hxv hx3 (by omega)).mono ?_
    rintro v w6 ⟨k6, rfl⟩
    refine (abs_spec E (dblI x) w6 (by omega) (by omega)).mono ?_
    rintro v w' ⟨rfl, rfl⟩
    exact hK _ k6
  refine s_join ((hd.keep0 k3).idx (sz := 1) eI_len hgd fun b o _ _ hc => s_ldC0 hc (s_rem (by omega) (s_eql (s_join (s_condD (fun he => ?_) fun he => ?_)))))
  · have he : depN r i r.length % 2 = 0 := by
      have : ((depN r i r.length : Int)).tmod 2 = ((depN r i r.length % 2 : Nat) : Int) := rfl
      rw [this] at he; omega
    refine hcall _ fun w7 k7 => s_add (by omega) (by omega) ?_
    intro j2 j3
    have := hnx () w7 hil (k3.trans k7)
    rw [hsu, if_pos he] at this
    exact s_add (by omega) (by omega) this
  · have he : ¬ depN r i r.length % 2 = 0 := by
      have : ((depN r i r.length : Int)).tmod 2 = ((depN r i r.length % 2 : Nat) : Int) := rfl
      rw [this] at he; omega
    refine hcall _ fun w7 k7 => s_sub (by omega) (by omega) ?_
    intro j2 j3
    have := hnx () w7 hil (k3.trans k7)
    rw [hsu, if_neg he] at this
    exact s_add (by omega) (by omega) this
end Go.Eng

/-! What the laws of one program lean on: volumes, areas, ends. -/
namespace Go.Eng
open Go
variable {c : Cfg}

structure Bd where
  long : Int
  wide : Int
  high : Int
def eBd (b : Bd) : List Value := [vi b.long, vi b.wide, vi b.high]

structure TyK (c : Cfg) : Prop where
  F : TyF c
  R : TyR c
  st_bead : StructT c.P c.t_api_Bead [(0, 1), (1, 1), (2, 1)] [vi 0, vi 0, vi 0]
  sl_bead : SliceT c.P c.t_sl_api_Bead c.t_api_Bead 3 24 [vi 0, vi 0, vi 0]
  st_point : StructT c.P c.t_api_Point [(0, 1), (1, 1)] [vi 0, vi 0]
  sl_ring : SliceT c.P c.t_api_Ring c.t_api_Point 2 16 [vi 0, vi 0]
  ssl_ring : SliceT c.P c.t_sl_api_Ring c.t_api_Ring 1 24 [.slice none 0 0]

/-- a bead that is right -/
def BdOk (b : Bd) : Prop := (0 ≤ b.long ∧ b.long ≤ 10000000) ∧ (1 ≤ b.wide ∧ b.wide ≤ 5000) ∧ (1 ≤ b.high ∧ b.high ≤ 5000)
theorem prod_bd {a b m n : Nat} {x y : Int} (hx : 0 ≤ x ∧ x ≤ m) (hy : 0 ≤ y ∧ y ≤ n) : 0 ≤ x * y ∧ x * y ≤ ((m * n : Nat) : Int) := by
  obtain ⟨p, rfl⟩ := Int.eq_ofNat_of_zero_le hx.1
  obtain ⟨q, rfl⟩ := Int.eq_ofNat_of_zero_le hy.1
  have := Nat.mul_le_mul (show p ≤ m by omega) (show q ≤ n by omega)
  have e : ((p : Int) * (q : Int)) = ((p * q : Nat) : Int) := by simp
  rw [e]; omega
def volN (l : List Bd) : Int := sumL (l.map fun b => b.long * b.wide * b.high)

theorem bead_bd {b : Bd} (h : BdOk b) : (0 ≤ b.long * b.wide ∧ b.long * b.wide ≤ 50000000000) ∧ 0 ≤ b.long * b.wide * b.high ∧ b.long * b.wide * b.high ≤ 250000000000000 := by
  obtain ⟨h1, h2, h3⟩ := h
  have e1 := prod_bd (a := 0) (b := 0) (m := 10000000) (n := 5000) (x := b.long) (y := b.wide) (by omega) (by omega)
  have e2 := prod_bd (a := 0) (b := 0) (m := 50000000000) (n := 5000) (x := b.long * b.wide) (y := b.high) (by omega) (by omega)
  omega
theorem volN_bd {l : List Bd} (h : ∀ b ∈ l, BdOk b) : ∀ i, i ≤ l.length → 0 ≤ volN (l.take i) ∧ volN (l.take i) ≤ 250000000000000 * (i : Int)
  | 0, _ => by simp [volN, sumL]
  | i + 1, hi => by
    have ih := volN_bd h i (by omega)
    obtain ⟨x, hx⟩ := idx_of_lt (show i < l.length by omega)
    have := bead_bd (h x (List.mem_of_getElem? hx))
    unfold volN at *
    rw [take_snoc hx, List.map_append, sumL_app]
    simp only [List.map_cons, List.map_nil, sumL_one]
    omega

theorem checkBeads_ok (E : Eqs c) {D : Nat → Prop} {bv : Value} {l : List Bd} {w : World} (hl : Sl D eBd w bv l) (h : ∀ b ∈ l, BdOk b) (hn : l.length ≤ 5000) :
    Ret c.P c.f_flow_CheckBeads #[bv] w fun v w' => Keep NoB w w' ∧ v = vi 0 := by
  apply E.flow_CheckBeads
  unfold wp_flow_CheckBeads
  refine hl.len (s_gtr (s_condD (fun h => by omega) fun _ => ?_))
  refine hl.len ?_
  refine s_range l.length (fun i w' => Keep NoB w w') (Keep.refl _ _) ?_
  rintro i w1 j nx hk hin hnx
  refine s_lss (s_condD (fun hlt => ?_) fun hge => ⟨hk, rfl⟩)
  have hil := ofInt_lt hlt
  obtain ⟨x, hx⟩ := idx_of_lt hil
  obtain ⟨⟨a1, a2⟩, ⟨b1, b2⟩, d1, d2⟩ := h x (List.mem_of_getElem? hx)
  refine (hl.keep0 hk).idx (sz := 3) (fun _ _ => rfl) hx fun b o _ _ hc => s_ldA hc rfl ?_
  refine s_var rfl rfl rfl fun b4 w3 a4 k4 e4 z4 => ?_
  refine s_joinM (fun vs w' => w' = w3 ∧ vs = [.bool false]) ?_ ?_
  · refine s_off (s_ldAt a4 rfl ?_)
    refine (outside_spec E _ _ _ w3).mono ?_
    rintro v w' ⟨rfl, rfl⟩
    refine s_guardF (fun _ => s_off (s_ldAt a4 rfl ?_)) fun h => by simp at h; omega
    refine (outside_spec E _ _ _ _).mono ?_
    rintro v w' ⟨rfl, rfl⟩
    refine s_guardF (fun _ => s_off (s_ldAt a4 rfl ?_)) fun h => by simp at h; omega
    refine (outside_spec E _ _ _ _).mono ?_
    rintro v w' ⟨rfl, rfl⟩
    exact ⟨rfl, by congr 2; exact decide_eq_false (by show ¬ (x.high < 1 ∨ 5000 < x.high); omega)⟩
  rintro vs j2 w4 ⟨hw, rfl⟩
  have hw := hw.symm
  subst hw
  exact s_condF rfl (s_add (by omega) (by omega) (hnx w3 hil (hk.trans k4)))

theorem volume_spec (E : Eqs c) {D : Nat → Prop} {bv : Value} {l : List Bd} {w : World} (hl : Sl D eBd w bv l) (h : ∀ b ∈ l, BdOk b) (hn : l.length ≤ 5000) :
    Ret c.P c.f_flow_volume #[bv] w fun v w' => Keep NoB w w' ∧ v = vi (volN l) := by
  apply E.flow_volume
  unfold wp_flow_volume
  refine hl.len ?_
  refine s_for l.length (fun i (_ : Unit) => [vi (volN (l.take i)), vi i]) (fun i _ w' => Keep NoB w w') () rfl (Keep.refl _ _) ?_
  rintro i _ w1 j nx hk hin hnx
  refine s_lss (s_condD (fun hlt => ?_) fun hge => ?_)
  rotate_left
  · obtain rfl : i = l.length := by omega
    exact ⟨hk, by rw [List.take_length]; rfl⟩
  have hil := ofInt_lt hlt
  obtain ⟨x, hx⟩ := idx_of_lt hil
  have hb := bead_bd (h x (List.mem_of_getElem? hx))
  have hv := volN_bd h i (by omega)
  have hs : volN (l.take (i + 1)) = volN (l.take i) + x.long * x.wide * x.high := by
    unfold volN
    rw [take_snoc hx, List.map_append, sumL_app]
    simp only [List.map_cons, List.map_nil, sumL_one]
  refine (hl.keep0 hk).idx (sz := 3) (fun _ _ => rfl) hx fun b o _ _ hc => s_ldA hc rfl ?_
  refine s_var rfl rfl rfl fun b4 w3 a4 k4 e4 z4 => ?_
  refine s_off (s_ldAt a4 rfl (s_off (s_ldAt a4 rfl (s_mul (by show _ ≤ x.long * x.wide; omega) (by show x.long * x.wide ≤ _; omega) (s_off (s_ldAt a4 rfl (s_mul (by show _ ≤ x.long * x.wide * x.high; omega) (by show x.long * x.wide * x.high ≤ _; omega) ?_)))))))
  refine s_add (by show _ ≤ volN (l.take i) + x.long * x.wide * x.high; omega) (by show volN (l.take i) + x.long * x.wide * x.high ≤ _; omega) (s_add (by omega) (by omega) ?_)
  have := hnx () w3 hil (hk.trans k4)
  rw [hs] at this
  exact this

theorem flowVolume_ok (E : Eqs c) {D : Nat → Prop} {bv : Value} {l : List Bd} {w : World} (hl : Sl D eBd w bv l) (h : ∀ b ∈ l, BdOk b) (hn : l.length ≤ 4000) :
    Ret c.P c.f_flow_Volume #[bv] w fun v w' => Keep NoB w w' ∧ v = .tuple #[vi (volN l), vi 0] := by
  apply E.flow_Volume
  unfold wp_flow_Volume
  refine (checkBeads_ok E hl h (by omega)).mono ?_
  rintro v w1 ⟨k1, rfl⟩
  refine s_neq (s_condD (fun h => absurd rfl h) fun _ => ?_)
  refine (volume_spec E (hl.keep0 k1) h (by omega)).mono ?_
  rintro v w2 ⟨k2, rfl⟩
  have hv := volN_bd h l.length (Nat.le_refl _)
  rw [List.take_length] at hv
  exact s_gtr (s_condD (fun h => by omega) fun _ => ⟨k1.trans k2, rfl⟩)

def sqR : List Pt := [⟨0, 0⟩, ⟨4, 0⟩, ⟨4, 4⟩, ⟨0, 4⟩]
theorem sq_regF : regF [sqR] = 0 := by decide
theorem sq_area : areaI [sqR] = 32 := by decide

/-- the square as a region, and its area -/
theorem sq_lit (E : Eqs c) (K : TyK c) (X : ExtR c) {w : World} {k : Value → World → Prop} (h : ∀ w', Keep NoB w w' → k (.tuple #[vi 32, vi 0]) w') :
    pureP c.P (Instr.build c.t_api_Point #[]) fun v15 =>
    pureP c.P (Instr.build c.t_api_Point #[(0, (.int .i64 4))]) fun v16 =>
    pureP c.P (Instr.build c.t_api_Point #[(0, (.int .i64 4)), (1, (.int .i64 4))]) fun v17 =>
    pureP c.P (Instr.build c.t_api_Point #[(1, (.int .i64 4))]) fun v18 =>
    semP c.P (Instr.buildSlice c.t_api_Ring 4 #[(0, v15), (1, v16), (2, v17), (3, v18)]) w fun v19 w3 =>
    semP c.P (Instr.buildSlice c.t_sl_api_Ring 1 #[(0, v19)]) w3 fun v20 w4 =>
    Ret c.P c.f_region_Area #[v20] w4 k := by
  refine s_build K.st_point (cells := eP ⟨0, 0⟩) rfl (s_build K.st_point (cells := eP ⟨4, 0⟩) rfl (s_build K.st_point (cells := eP ⟨4, 4⟩) rfl (s_build K.st_point (cells := eP ⟨0, 4⟩) rfl ?_)))
  refine s_lit (enc := eP) K.sl_ring [.agg (eP ⟨0, 0⟩).toArray, .agg (eP ⟨4, 0⟩).toArray, .agg (eP ⟨4, 4⟩).toArray, .agg (eP ⟨0, 4⟩).toArray] sqR rfl rfl rfl (fun y hy => rfl) (by omega) (by omega) fun b3 w3 hg3 k3 _ => ?_
  refine s_bslice K.ssl_ring [.slice (some ⟨b3, 0, none⟩) 4 4] rfl rfl (fun v hv => by simp at hv; subst hv; rfl) (by omega) fun b4 w4 hat4 k4 hb4 hs4 => ?_
  have hfl : flat [Value.slice (some ⟨b3, 0, none⟩) 4 4] = [Value.slice (some ⟨b3, 0, none⟩) 4 4] := rfl
  rw [hfl] at hat4
  have hS2 : S2 (fun _ => True) eP w4 (.slice (some ⟨b4, 0, none⟩) 1 1) [sqR] := by
    refine ⟨[.slice (some ⟨b3, 0, none⟩) 4 4], rfl, ⟨_, 1, rfl, ⟨by simp, by simp⟩, fun _ => ⟨b4, 0, rfl, trivial, hat4.lt, hat4.cells⟩⟩, fun i x l hx hl => ?_⟩
    cases i with
    | zero =>
      cases hx; cases hl
      exact (hg3.sl.keep0 k4).dom fun _ _ => trivial
    | succ i => simp at hx
  refine (area_spec E K.R X hS2 (by simp) (fun x hx => by simp at hx; subst hx; decide)).mono ?_
  rintro v w5 ⟨k5, rfl⟩
  rw [sq_regF, if_neg (by simp), sq_area]
  exact h w5 ((k3.trans k4).trans k5)

theorem ready_spec (E : Eqs c) (Y : Ext c) (X : ExtR c) (K : TyK c) (w : World) : Ret c.P c.f_blkeep1_ready #[] w fun u w' => u = .bool true ∧ Keep NoB w w' := by
  have F := K.F
  apply E.blkeep1_ready ()
  unfold wp_blkeep1_ready
  refine s_build K.st_bead (cells := eBd ⟨10, 3, 2⟩) rfl ?_
  refine s_lit (enc := eBd) K.sl_bead [.agg (eBd ⟨10, 3, 2⟩).toArray] [⟨10, 3, 2⟩] rfl rfl rfl (fun y hy => rfl) (by omega) (by omega) fun _ w1 hg1 k1 _ => ?_
  refine (flowVolume_ok E hg1.sl (fun b hb => by simp at hb; subst hb; exact ⟨⟨by decide, by decide⟩, ⟨by decide, by decide⟩, by decide, by decide⟩) (by simp)).mono ?_
  rintro v w2 ⟨k2, rfl⟩
  have hv : volN [⟨10, 3, 2⟩] = 60 := by decide
  rw [hv]
  refine p_ex0 (p_ex1 ?_)
  refine sq_lit E K X fun w3 k3 => p_ex0 (p_ex1 ?_)
  refine s_build F.st_prn (cells := ePr fP) rfl ?_
  refine s_lit (enc := ePr) F.sl_prn [.agg (ePr fP).toArray] [fP] rfl rfl rfl (fun y hy => rfl) (by omega) (by omega) fun _ w4 hg4 k4 _ => ?_
  refine s_build F.st_job (cells := eJb fJ) rfl ?_
  refine s_lit (enc := eJb) F.sl_job [.agg (eJb fJ).toArray] [fJ] rfl rfl rfl (fun y hy => rfl) (by omega) (by omega) fun _ w5 hg5 k5 _ => ?_
  refine s_lit (enc := eI) F.sl_int [vi 0] [0] rfl rfl rfl (fun y hy => rfl) (by omega) (by omega) fun b3 w6 hg6 k6 _ => ?_
  refine s_bslice F.ssl_int [.slice (some ⟨b3, 0, none⟩) 1 1] rfl rfl (fun v hv => by simp at hv; subst hv; rfl) (by omega) fun b4 w7 hat4 k7 hb4 hs4 => ?_
  have hfl : flat [Value.slice (some ⟨b3, 0, none⟩) 1 1] = [Value.slice (some ⟨b3, 0, none⟩) 1 1] := rfl
  rw [hfl] at hat4
  have hS2 : S2 (fun _ => True) eI w7 (.slice (some ⟨b4, 0, none⟩) 1 1) [[0]] := by
    refine ⟨[.slice (some ⟨b3, 0, none⟩) 1 1], rfl, ⟨_, 1, rfl, ⟨by simp, by simp⟩, fun _ => ⟨b4, 0, rfl, trivial, hat4.lt, hat4.cells⟩⟩, fun i x l hx hl => ?_⟩
    cases i with
    | zero =>
      cases hx; cases hl
      exact (hg6.sl.keep0 k7).dom fun _ _ => trivial
    | succ i => simp at hx
  refine (farmEnds_spec E Y F (((hg4.sl.keep0 k5).keep0 k6).keep0 k7) ((hg5.sl.keep0 k6).keep0 k7) hS2).mono ?_
  rintro u w8 ⟨k8, _, hr⟩
  obtain ⟨ov, rfl, hsl⟩ := hr farmed_f
  rw [farmed_last]
  rw [farmed_ends] at hsl
  have k08 : Keep NoB w w8 := ((((((k1.trans k2).trans k3).trans k4).trans k5).trans k6).trans k7).trans k8
  refine p_ex0 (p_ex1 (p_ex2 ?_))
  refine s_join (s_eql (s_guardT (fun _ => s_eql (s_guardT (fun _ => s_eql (s_guardT (fun _ => s_eql (s_guardT (fun _ => s_eql (s_guardT (fun _ => s_eql (s_guardT (fun _ => ?_) fun h => by simp at h)) fun h => by simp at h)) fun h => by simp at h)) fun h => by simp at h)) fun h => by simp at h)) fun h => by simp at h))
  refine hsl.len (s_eql ?_)
  intro _
  exact ⟨rfl, k08⟩
end Go.Eng

/-! Contracts: right printers, right jobs, plans that are drawn. -/
namespace Go.Eng
open Go
variable {c : Cfg}

theorem key_of {l : List Nat} (h1 : (Bs l).size ≤ 40) (h2 : ∃ b, (Bs l).data.toList[0]? = some b ∧ b ∈ smallL.data.toList) (h3 : ∀ b ∈ (Bs l).data.toList, b ∈ keyL.data.toList) : keyP (Bs l) := by
  refine ⟨⟨?_, h1⟩, h2, h3⟩
  obtain ⟨b, hb, _⟩ := h2
  have := lt_of_idx hb
  show 1 ≤ (Bs l).data.size
  rw [Array.length_toList] at this
  omega
def dfP : Prn := ⟨Bs [112, 49], Bs [112, 108, 97]⟩
theorem dfP_ok : prnF [dfP] = 0 := by
  have h : prnAt [dfP] 0 = 0 := by
    show (if ¬ (keyP (Bs [112, 49]) ∧ keyP (Bs [112, 108, 97])) then (5 : Int) else if 0 < 0 ∧ _ then 7 else 0) = 0
    rw [if_neg (fun h => h ⟨key_of (by decide) ⟨_, rfl, by decide⟩ (by decide), key_of (by decide) ⟨_, rfl, by decide⟩ (by decide)⟩), if_neg (by omega)]
  unfold prnF
  rw [if_neg (by simp), if_neg (by simp)]
  exact firstNZ_all fun i hi => by
    have hi : i < 1 := by simpa using hi
    obtain rfl : i = 0 := by omega
    show some (prnAt [dfP] 0) = some 0
    rw [h]

theorem ow_at {α : Type} {D : Nat → Prop} {e : TypeId} {sz : Nat} {enc : α → List Value} {w : World} {l : List α} {b : Nat} (h : At w b (l.flatMap enc) e) (hl : (l.flatMap enc).length = l.length * sz) (hn : l.length ≤ 16777216) (hD : D b) :
    Ow D e sz enc w (.slice (some ⟨b, 0, none⟩) l.length l.length) l :=
  ⟨⟨hl, hn⟩, .inr ⟨b, l.length, [], rfl, hD, by rw [List.append_nil]; exact h, by rw [List.append_nil]; exact hl, Nat.le_refl _⟩⟩

end Go.Eng

/-! Contracts: slices.Grow from nothing, slices.Concat. -/
namespace Go.Eng
open Go
variable {c : Cfg}

theorem s_appendZ {P : Program} {D : Nat → Prop} {w : World} {t e ti ty : TypeId} {sz by_ : Nat} {z : List Value} {m : Nat} {k : Value → World → Prop} (hT : SliceT P t e sz by_ z) (hi : P.underlying ti = some (.int .i64)) (hm : 0 < m) (hb : m ≤ 1000000) (hby0 : by_ ≤ 1024) (hD : ∀ i, w.heap.size ≤ i → D i)
    (h : ∀ v' w' cs, Own D e sz w' v' m cs → Keep NoB w w' → k v' w') : semP P (Builtin.append_ #[t, ti] ty #[.slice none 0 0, vi m]) w k := by
  have hund := hT.run_und (P := P)
  have hsz := hT.run_size (P := P)
  have hargs : ((#[t, ti] : Array TypeId)[0]? = some t) ∧ ((#[t, ti] : Array TypeId)[1]? = some ti) := ⟨rfl, rfl⟩
  obtain ⟨i0, hi0, hby⟩ := hT.run_info (P := P) w
  have hcap : Builtin.nextslicecap m 0 = m := by unfold Builtin.nextslicecap; rw [if_pos (by omega)]
  have hroom : ¬ (Builtin.nextslicecap m 0 * by_ > 2 ^ 48) := by
    rw [hcap]
    have : m * by_ ≤ 1000000 * 1024 := Nat.mul_le_mul hb hby0
    omega
  have hl0 : ¬ ((m : Int) < 0) := by omega
  have hlb : ¬ ((m : Int) * (by_ : Int) > 2 ^ 48) := by
    have : m * by_ ≤ 1000000 * 1024 := Nat.mul_le_mul hb hby0
    have h2 : (m : Int) * (by_ : Int) = ((m * by_ : Nat) : Int) := by simp
    rw [h2]; omega
  have hwr : IntKind.i64.wrap (m : Int) = m := wr_id (by omega) (by omega)
  have hneed : ¬ (((m : Nat) : Int) > IntKind.i64.max) := by
    have : IntKind.i64.max = 9223372036854775807 := by decide
    omega
  obtain ⟨nc, hncn, hch⟩ : ∃ nc, 0 + m ≤ nc ∧ (choose (.appendCap (0 + m) 0 e)).run P w = .ok nc { w with drawn := w.drawn + 1 } :=
    ⟨_, Nat.le_add_right _ _, rfl⟩
  generalize hw1 : ({ w with drawn := w.drawn + 1 } : World) = w1 at hch
  have hk1 : Keep NoB w w1 := by subst hw1; exact keep_drew _ _
  have hs1 : w1.heap.size = w.heap.size := by subst hw1; rfl
  obtain ⟨zv, hzv, hzc⟩ := hT.run_zero (P := P) w1
  obtain ⟨i1, hi1, hby1⟩ := hT.run_info (P := P) w1
  have hask : ∀ (by' : Nat) (w' : World), (askRoom by').run P w' = .ok () w' := fun by' w' => by
    unfold askRoom; split <;> rfl
  have hpos : ¬ (m * sz = 0) := fun h0 => by
    have := hT.pos
    rcases Nat.mul_eq_zero.1 h0 with h | h <;> omega
  have hint : ∀ w, (asInt (vi m)).run P w = .ok (m : Int) w := fun w => rfl
  have hund2 : ∀ w, (underlying ti).run P w = .ok (.int .i64) w := fun w => Eng.run_und hi
  have hrun : (Builtin.append_ #[t, ti] ty #[.slice none 0 0, vi m]).run P w = .ok (.slice (some ⟨w1.heap.size, 0, none⟩) (0 + m) nc)
      (w1.alloc (.cells (#[] ++ Builtin.zeroCells z.toArray m ++ Builtin.zeroCells z.toArray (nc - (0 + m))) e)) := by
    simp only [Builtin.append_, Sem.run_bind', hargs.1, hargs.2, hund, hsz, run_pure', List.getElem?_toArray, hund2]
    simp only [List.getElem?_cons_zero, List.getElem?_cons_succ, hund, hund2, hsz, Sem.run_bind', run_pure', if_true, hint, hwr, hl0, if_false, hi0, hby, hlb, Int.toNat_natCast]
    rw [if_neg (show ¬ (0 + m ≤ 0) by omega)]
    simp only [Sem.run_bind', hi0, hby, true_or, and_true]
    rw [if_neg (show ¬ (((0 + m : Nat) : Int) > IntKind.i64.max) by rw [Nat.zero_add]; exact hneed)]
    simp only [Sem.run_bind', hi0, hby]
    rw [if_neg (show ¬ (Builtin.nextslicecap (0 + m) 0 * by_ > 2 ^ 48) by rw [Nat.zero_add]; exact hroom)]
    have hfs : ∀ w, (Builtin.firstCells sz 0 (.slice none 0 0)).run P w = .ok #[] w := fun w => rfl
    simp only [Sem.run_bind', hch, hi1, hask, hfs, Bool.not_true, Bool.false_eq_true, if_false, if_neg hpos, hzv, hzc, run_newRow, run_pure']
  refine ⟨_, _, hrun, ?_⟩
  have hz1 := zeroCells_len z m
  have hz2 := zeroCells_len z (nc - (0 + m))
  rw [hT.zlen] at hz1 hz2
  rw [Nat.zero_add] at hncn ⊢
  rw [Nat.zero_add] at hz2
  generalize Builtin.zeroCells z.toArray m = zs at *
  generalize Builtin.zeroCells z.toArray (nc - m) = rest at *
  have hh : (w1.alloc (.cells (#[] ++ zs ++ rest) e)).heap = w1.heap.push (.cells (#[] ++ zs ++ rest) e) := rfl
  refine h _ _ zs.toList ⟨⟨by rw [Array.length_toList, hz1], by omega⟩, .inr ⟨w1.heap.size, nc, rest.toList, rfl, hD _ (by omega), ?_, ?_, hncn⟩⟩ ?_
  · unfold At
    rw [hh]
    simp
  · rw [List.length_append, Array.length_toList, Array.length_toList, hz1, hz2, ← Nat.add_mul]
    congr 1; omega
  · refine ⟨hk1.os, hk1.tape, hk1.output, by rw [hh]; simp; omega, fun i hi hm => ?_⟩
    rw [hh, Array.getElem?_push, if_neg (by omega)]
    exact hk1.block i hi fun h => h

/-- a row of one's own, cut to nothing -/
theorem own_cut {P : Program} {D : Nat → Prop} {w : World} {t e : TypeId} {sz by_ : Nat} {z : List Value} {v : Value} {m : Nat} {cs : List Value} {k : Value → Prop} (hT : SliceT P t e sz by_ z) (ho : Own D e sz w v m cs)
    (h : ∀ v', Own D e sz w v' 0 [] → k v') : pureP P (Instr.sliceAt t v none (some (vi (0 : Nat))) none) k := by
  obtain ⟨⟨h1, h2⟩, ⟨rfl, h3⟩ | ⟨b, cap, sp, rfl, h3, h4, h5, h6⟩⟩ := ho
  · exact ⟨_, run_sliceHi hT (Nat.zero_le _), h _ ⟨⟨by simp, Nat.zero_le _⟩, .inl ⟨by simp, rfl⟩⟩⟩
  · refine ⟨_, run_sliceHi hT (Nat.zero_le _), h _ ?_⟩
    have e1 : (if cap = 0 then some (⟨b, 0, none⟩ : Addr) else (some (⟨b, 0, none⟩ : Addr)).map (·.add (0 * sz))) = some ⟨b, 0, none⟩ := by
      split
      · rfl
      · simp
    rw [e1]
    exact ⟨⟨by simp, by omega⟩, .inr ⟨b, cap, cs ++ sp, by simp, h3, by simpa using h4, by simpa using h5, by omega⟩⟩

theorem cap_nil {P : Program} {t e ti : TypeId} {sz by_ : Nat} {z : List Value} {w : World} {k : Value → World → Prop} (hT : SliceT P t e sz by_ z) (h : k (vi (0 : Nat)) w) : semP P (Builtin.cap_ #[t] ti #[.slice none 0 0]) w k := by
  refine ⟨_, _, ?_, h⟩
  have hund := hT.run_und (P := P) (w := w)
  simp only [Builtin.cap_, Sem.run_bind', List.getElem?_toArray, List.getElem?_cons_zero, hund]
  rfl
theorem cut_nil {P : Program} {t e : TypeId} {sz by_ : Nat} {z : List Value} {k : Value → Prop} (hT : SliceT P t e sz by_ z) (h : k (.slice none 0 0)) : pureP P (Instr.sliceAt t (.slice none 0 0) none (some (vi (0 : Nat))) none) k :=
  ⟨_, run_sliceHi hT (Nat.zero_le _), by simpa using h⟩

end Go.Eng

/-! Contract: Bound. Plain laws on plans. -/
namespace Go.Eng
open Go
variable {c : Cfg}

def minsL (j : List Job) : List Int := j.map fun x => x.mins
def boundI (p : List Prn) (j : List Job) : Int := max (mxL (minsL j)) ((sumL (minsL j) + p.length - 1).tdiv p.length)

theorem sumM_bd {j : List Job} (h : ∀ x ∈ j, 1 ≤ x.mins ∧ x.mins ≤ 100000) : ∀ i, i ≤ j.length → 0 ≤ sumL (minsL (j.take i)) ∧ sumL (minsL (j.take i)) ≤ 100000 * (i : Int)
  | 0, _ => by simp [minsL, sumL]
  | i + 1, hi => by
    have ih := sumM_bd h i (by omega)
    obtain ⟨x, hx⟩ := idx_of_lt (show i < j.length by omega)
    have := h x (List.mem_of_getElem? hx)
    unfold minsL at *
    rw [take_snoc hx, List.map_append, sumL_app]
    simp only [List.map_cons, List.map_nil, sumL_one]
    omega

/-! ### plain laws -/
section
variable {j : List Job} {ch : Int}
theorem run_sum (h : JOk j ch) : ∀ (l : List Int) (k : Clk), InJ j.length l → k.fin + sumL (l.map fun i => (jobAt j i).mins) ≤ (runC j ch k l).fin
  | [], k, _ => by simp [runC, sumL]
  | i :: r, k, hin => by
    have hi := hin i (by simp)
    have ih := run_sum h r (k.go (jobAt j i) ch) fun x hx => hin x (by simp [hx])
    have hm := h.mins _ (jobAt_mem hi.1 hi.2)
    have hc := h.ch0
    have e : (k.go (jobAt j i) ch).fin = k.fin + (if eqB k.mat (jobAt j i).mat then 0 else ch) + (jobAt j i).mins := rfl
    have e2 : runC j ch k (i :: r) = runC j ch (k.go (jobAt j i) ch) r := rfl
    have e3 : sumL ((i :: r).map fun i => (jobAt j i).mins) = (jobAt j i).mins + sumL (r.map fun i => (jobAt j i).mins) := rfl
    rw [e2, e3]
    split at e <;> omega
theorem run_max : ∀ (l : List Int) (k : Clk), (runC j ch k l).fin ≤ max k.fin (mxL (endsC j ch k l))
  | [], k => by simp [runC]; omega
  | i :: r, k => by
    have ih := run_max r (k.go (jobAt j i) ch)
    have e2 : runC j ch k (i :: r) = runC j ch (k.go (jobAt j i) ch) r := rfl
    have e3 : mxL (endsC j ch k (i :: r)) = max (k.go (jobAt j i) ch).fin (mxL (endsC j ch (k.go (jobAt j i) ch) r)) := rfl
    rw [e2, e3]; omega
theorem row_sum (h : JOk j ch) (pr : Prn) (l : List Int) (hin : InJ j.length l) : sumL (l.map fun i => (jobAt j i).mins) ≤ mxL (rowE j ch pr l) := by
  have h1 := run_sum h l ⟨0, pr.mat⟩ hin
  have h2 := run_max (j := j) (ch := ch) l ⟨0, pr.mat⟩
  have h3 := mxL_nonneg (rowE j ch pr l)
  have e0 : (Clk.mk 0 pr.mat).fin = 0 := rfl
  rw [e0] at h1 h2
  unfold rowE at *
  omega
theorem lastP_nonneg : ∀ (p : List Prn) (plan : Plan), 0 ≤ lastP j ch p plan
  | [], plan => by cases plan <;> simp [lastP]
  | _ :: _, [] => by simp [lastP]
  | pr :: ps, l :: ls => by
    have := lastP_nonneg ps ls
    simp only [lastP]; omega
theorem plan_sum (h : JOk j ch) : ∀ (p : List Prn) (plan : Plan), plan.length ≤ p.length → InJ j.length plan.flatten → sumL (plan.flatten.map fun i => (jobAt j i).mins) ≤ (plan.length : Int) * lastP j ch p plan
  | p, [], _, _ => by simp [sumL]
  | [], l :: ls, hl, _ => by simp at hl
  | pr :: ps, l :: ls, hl, hin => by
    have h1 := row_sum h pr l fun x hx => hin x (by simp [hx])
    have h2 := plan_sum h ps ls (by simpa using hl) fun x hx => hin x (by rw [List.flatten_cons]; exact List.mem_append.2 (.inr hx))
    have h0 := lastP_nonneg (j := j) (ch := ch) ps ls
    have e : lastP j ch (pr :: ps) (l :: ls) = max (mxL (rowE j ch pr l)) (lastP j ch ps ls) := rfl
    rw [List.flatten_cons, List.map_append, sumL_app, e]
    have h3 := Int.mul_le_mul_of_nonneg_left (show lastP j ch ps ls ≤ max (mxL (rowE j ch pr l)) (lastP j ch ps ls) by omega) (show (0 : Int) ≤ ls.length by omega)
    have h4 : (((l :: ls).length : Nat) : Int) * max (mxL (rowE j ch pr l)) (lastP j ch ps ls) = (ls.length : Int) * max (mxL (rowE j ch pr l)) (lastP j ch ps ls) + max (mxL (rowE j ch pr l)) (lastP j ch ps ls) := by
      rw [List.length_cons, Int.natCast_add, Int.add_mul]; simp
    rw [h4]
    omega
theorem mem_sum {f : Int → Int} : ∀ (l : List Int) (x : Int), x ∈ l → (∀ y ∈ l, 0 ≤ f y) → f x ≤ sumL (l.map f) ∧ 0 ≤ sumL (l.map f)
  | y :: r, x, hx, hn => by
    have e : sumL ((y :: r).map f) = f y + sumL (r.map f) := rfl
    have hy := hn y (by simp)
    rw [e]
    have hr : 0 ≤ sumL (r.map f) := by
      clear hx e
      induction r with
      | nil => simp [sumL]
      | cons z t ih =>
        have e : sumL ((z :: t).map f) = f z + sumL (t.map f) := rfl
        have := hn z (by simp)
        have := ih fun y hy => hn y (by simp at hy ⊢; rcases hy with h | h <;> simp [h])
        omega
    rcases List.mem_cons.1 hx with h | h
    · subst h; omega
    · have := (mem_sum r x h fun z hz => hn z (by simp [hz])).1
      omega
theorem plan_mem (h : JOk j ch) : ∀ (p : List Prn) (plan : Plan) (x : Int), plan.length ≤ p.length → InJ j.length plan.flatten → x ∈ plan.flatten → (jobAt j x).mins ≤ lastP j ch p plan
  | p, [], x, _, _, hx => by simp at hx
  | [], l :: ls, x, hl, _, _ => by simp at hl
  | pr :: ps, l :: ls, x, hl, hin, hx => by
    have e : lastP j ch (pr :: ps) (l :: ls) = max (mxL (rowE j ch pr l)) (lastP j ch ps ls) := rfl
    rw [e]
    rw [List.flatten_cons] at hx hin
    rcases List.mem_append.1 hx with h' | h'
    · have h1 := row_sum h pr l fun x hx => hin x (by simp [hx])
      have h2 := (mem_sum (f := fun i => (jobAt j i).mins) l x h' fun y hy => by
        have := hin y (by simp [hy])
        have := h.mins _ (jobAt_mem this.1 this.2)
        show 0 ≤ (jobAt j y).mins
        omega).1
      have h2 : (jobAt j x).mins ≤ sumL (l.map fun i => (jobAt j i).mins) := h2
      omega
    · have := plan_mem h ps ls x (by simpa using hl) (fun y hy => hin y (List.mem_append.2 (.inr hy))) h'
      omega
end

theorem sum_perm {f : Int → Int} {a b : List Int} (h : a.Perm b) : sumL (a.map f) = sumL (b.map f) := by
  induction h with
  | nil => rfl
  | cons x _ ih =>
    have e : ∀ l : List Int, sumL ((x :: l).map f) = f x + sumL (l.map f) := fun _ => rfl
    rw [e, e, ih]
  | swap x y l =>
    have e : ∀ (x : Int) (l : List Int), sumL ((x :: l).map f) = f x + sumL (l.map f) := fun _ _ => rfl
    rw [e, e, e, e]; omega
  | trans _ _ h1 h2 => rw [h1, h2]
theorem perm_iota : ∀ (n : Nat) (l : List Int), l.Nodup → InJ n l → l.length = n → l.Perm (iotaI n)
  | 0, l, _, _, h => by
    have : l = [] := List.length_eq_zero_iff.1 h
    subst this; exact List.Perm.nil
  | n + 1, l, hn, hi, h => by
    have hm : (n : Int) ∈ l := (all_len hn hi).1 h n (by omega)
    have hp := List.perm_cons_erase hm
    have hn' := hp.nodup_iff.1 hn
    rw [List.nodup_cons] at hn'
    have ih := perm_iota n (l.erase (n : Int)) hn'.2 (fun x hx => by
      have h1 := hi x (List.mem_of_mem_erase hx)
      have : x ≠ n := fun e => by subst e; exact hn'.1 hx
      omega) (by rw [List.length_erase_of_mem hm, h]; rfl)
    refine hp.trans ?_
    have e : iotaI (n + 1) = iotaI n ++ [(n : Int)] := by unfold iotaI; rw [List.range_succ, List.map_append]; rfl
    rw [e]
    exact (List.Perm.cons _ ih).trans (List.perm_append_singleton _ _).symm
theorem mins_iota (j : List Job) : (iotaI j.length).map (fun i => (jobAt j i).mins) = minsL j := by
  apply List.ext_getElem?
  intro q
  unfold iotaI minsL
  rw [List.map_map, List.getElem?_map, List.getElem?_map]
  by_cases hq : q < j.length
  · obtain ⟨x, hx⟩ := idx_of_lt hq
    rw [List.getElem?_range hq, hx]
    show some ((jobAt j (q : Int)).mins) = some x.mins
    rw [jobAt_get hx]
  · rw [List.getElem?_eq_none (by simp; omega), List.getElem?_eq_none (by omega)]; rfl

theorem bound_le {p : List Prn} {j : List Job} {ch : Int} {full : Plan} (h : JOk j ch) (hp : 0 < p.length) (ha : AllP j.length p.length full) : boundI p j ≤ lastP j ch p full := by
  obtain ⟨hc, hl⟩ := ha
  have hperm := perm_iota j.length full.flatten hc.nodup hc.inJ hc.len
  have hs := plan_sum h p full (by omega) hc.inJ
  rw [sum_perm (f := fun i => (jobAt j i).mins) hperm, mins_iota, hl] at hs
  have h0 := lastP_nonneg (j := j) (ch := ch) p full
  have hsb := (sumM_bd (fun x hx => h.mins x hx) j.length (Nat.le_refl _)).1
  rw [List.take_length] at hsb
  obtain ⟨L, hL⟩ := Int.eq_ofNat_of_zero_le h0
  obtain ⟨N, hN⟩ := Int.eq_ofNat_of_zero_le (show 0 ≤ sumL (minsL j) + p.length - 1 by omega)
  unfold boundI
  rw [hN]
  have hq : ((N : Int)).tdiv (p.length : Int) = ((N / p.length : Nat) : Int) := rfl
  have h2 : N / p.length < L + 1 := by
    refine Nat.div_lt_of_lt_mul ?_
    rw [hL] at hs
    have e : (p.length : Int) * ((L : Nat) : Int) = ((p.length * L : Nat) : Int) := by simp
    rw [e] at hs
    rw [Nat.mul_add]
    omega
  have h1 : mxL (minsL j) ≤ (L : Int) := by
    rw [← hL]
    have hmx : ∀ (l : List Int) (b : Int), 0 ≤ b → (∀ x ∈ l, x ≤ b) → mxL l ≤ b := by
      intro l b hb
      induction l with
      | nil => intro _; simp [mxL]; exact hb
      | cons y t ih =>
        intro hx
        have e : mxL (y :: t) = max y (mxL t) := rfl
        have := hx y (by simp)
        have := ih fun x hx' => hx x (by simp [hx'])
        rw [e]; omega
    refine hmx _ _ h0 fun x hx => ?_
    rw [← mins_iota] at hx
    obtain ⟨i, hi, rfl⟩ := List.mem_map.1 hx
    exact plan_mem h p full i (by omega) hc.inJ (hperm.mem_iff.2 hi)
  rw [hq, hL]
  generalize N / p.length = M at h2
  omega

theorem planF_all {p : List Prn} {j : List Job} {full : Plan} (h1 : prnF p = 0) (h2 : jobF j = 0) (ha : AllP j.length p.length full) : planF p j full = 0 := by
  obtain ⟨hc, hl⟩ := ha
  unfold planF
  rw [h1, h2, if_neg (by simp), if_neg (by simp [hl])]
  have hz : firstNZ ((List.range full.flatten.length).map (ixAt j.length full.flatten)) = 0 := firstNZ_all fun q hq => by
    have hq : q < full.flatten.length := by simpa using hq
    obtain ⟨x, hx⟩ := idx_of_lt hq
    rw [List.getElem?_map, List.getElem?_range hq]
    show some (ixAt j.length full.flatten q) = some 0
    have hin := hc.inJ x (List.mem_of_getElem? hx)
    have hnd : (full.flatten.take (q + 1)).Nodup := List.Nodup.sublist (List.take_sublist _ _) hc.nodup
    rw [take_snoc hx, nodup_snoc] at hnd
    unfold ixAt
    rw [hx]
    show some (if 0 ≤ x ∧ x < j.length then (if x ∈ full.flatten.take q then (6 : Int) else 0) else 1) = some 0
    rw [if_pos hin, if_neg hnd.2]
  have hlen := hc.len
  rw [hz, if_neg (by simp), if_neg (by omega)]

theorem set_perm {x : Int} : ∀ (plan : Plan) (k : Nat) (l : List Int), plan[k]? = some l → (plan.set k (l ++ [x])).flatten.Perm (plan.flatten ++ [x])
  | [], k, l, h => by simp at h
  | m :: r, 0, l, h => by
    cases h
    rw [List.set_cons_zero, List.flatten_cons, List.flatten_cons, List.append_assoc, List.append_assoc]
    exact List.Perm.append_left m List.perm_append_comm
  | m :: r, k + 1, l, h => by
    rw [List.set_cons_succ, List.flatten_cons, List.flatten_cons, List.append_assoc]
    exact List.Perm.append_left m (set_perm r k l (by simpa using h))
theorem gPlan_perm {j : List Job} {ch : Int} {p : List Prn} (hp : 0 < p.length) : ∀ t, (gPlan j ch p t).flatten.Perm (iotaI t)
  | 0 => by
    have : (gPlan j ch p 0).flatten = [] := flat_rep p.length
    rw [this]; exact List.Perm.nil
  | t + 1 => by
    have ih := gPlan_perm (j := j) (ch := ch) hp t
    have hlt := amin_lt (gEnd j ch p t) p.length hp
    obtain ⟨l, hl⟩ := idx_of_lt (show amin (gEnd j ch p t) p.length < (gPlan j ch p t).length by rw [gPlan_len]; exact hlt)
    rw [gPlan_succ, getD_pred hl]
    have e : iotaI (t + 1) = iotaI t ++ [(t : Int)] := by unfold iotaI; rw [List.range_succ, List.map_append]; rfl
    rw [e]
    exact (set_perm _ _ l hl).trans (List.Perm.append_right _ ih)
theorem gPlan_all {j : List Job} {ch : Int} {p : List Prn} (hp : 0 < p.length) : AllP j.length p.length (gPlan j ch p j.length) := by
  have h := gPlan_perm (j := j) (ch := ch) hp j.length
  exact ⟨⟨by rw [h.length_eq, iotaI_len], h.nodup_iff.2 (iotaI_nodup _), fun x hx => mem_iotaI.1 (h.mem_iff.1 hx)⟩, gPlan_len p _⟩
theorem lst_least {p : List Prn} {j : List Job} {ch : Int} {b x : Plan} (h : Lst (cmpPl p j ch) (AllP j.length p.length) none (some b)) (hx : AllP j.length p.length x) : lastP j ch p b ≤ lastP j ch p x := by
  obtain ⟨y, hy, hle⟩ := h.all x hx
  cases hy
  have e : cmpPl p j ch b x = firstNZ [cmpI (lastP j ch p b) (lastP j ch p x), cmpI (sumP j ch p b) (sumP j ch p x), cmpP b x] := rfl
  rw [e] at hle
  apply Classical.byContradiction
  intro hlt
  have hc : cmpI (lastP j ch p b) (lastP j ch p x) = 1 := by unfold cmpI; rw [if_neg (by omega), if_pos (by omega)]
  simp only [firstNZ] at hle
  rw [hc, if_pos (by omega)] at hle
  omega
theorem lst_all {p : List Prn} {j : List Job} {ch : Int} {b : Plan} (h : Lst (cmpPl p j ch) (AllP j.length p.length) none (some b)) : AllP j.length p.length b := by
  rcases h.src with e | ⟨x, e, hx⟩
  · cases e
  · cases e; exact hx
end Go.Eng

