/- Part of a proof: the law NoOrderTravelsLess gives true for every list of integers and leaves its argument as it was; there are no conditions beyond those that the given row states. -/
import Derived.Test.YtjocebmjjakddaaGreatDoorSa
import Derived.Test.YtjocebmjjakddaaGreatDoorLib
set_option linter.unusedVariables false
set_option linter.unusedSimpArgs false
/-! Contracts: the stream of numbers; what is wrong with paths. -/
namespace Go.Eng
open Go

structure Pth where
  pts : List Pt
  closed : Bool

structure Vis where
  path : Int
  start : Int
  back : Bool
  deriving DecidableEq

def eV (v : Vis) : List Value := [vi v.path, vi v.start, .bool v.back]

/-- the type rows of this program that proofs use -/
structure Ty (c : Cfg) : Prop extends TyB c where
  sl_pt : SliceT c.P c.t_sl_api_Point c.t_api_Point 2 16 [vi 0, vi 0]
  sl_path : SliceT c.P c.t_sl_api_Path c.t_api_Path 2 32 [.slice none 0 0, .bool false]
  st_visit : StructT c.P c.t_api_Visit [(0, 1), (1, 1), (2, 1)] [vi 0, vi 0, .bool false]
  st_choice : StructT c.P c.t_path_choice [(0, 3), (3, 2), (5, 2)] [vi 0, vi 0, .bool false, vi 0, vi 0, vi 0, vi 0]
  st_way : StructT c.P c.t_path_way [(0, 1), (1, 1)] [vi 0, vi 0]
  sl_choice : SliceT c.P c.t_sl_path_choice c.t_path_choice 7 56 [vi 0, vi 0, .bool false, vi 0, vi 0, vi 0, vi 0]
  ssl_choice : ∃ e, SliceT c.P c.t_sl_sl_path_choice e 1 24 [.slice none 0 0]
  ssl_int : ∃ e, SliceT c.P c.t_sl_sl_int e 1 24 [.slice none 0 0]
  st_finder : StructT c.P c.t_path_finder [(0, 1), (1, 1)] [.slice none 0 0, .slice none 0 0]
  sl_map : SliceT c.P c.t_sl_map_int_int c.t_map_int_int 1 8 [.map none]
  mi : ∃ kt et, c.P.underlying c.t_map_int_int = some (.map kt et) ∧ KeyT c.P kt vi ∧ ∀ w, (zeroValue et).run c.P w = .ok (vi 0) w
  mp : ∃ kt et, c.P.underlying c.t_map_api_Point_int = some (.map kt et) ∧ KeyT c.P kt (fun p : Pt => .agg (eP p).toArray) ∧ ∀ w, (zeroValue et).run c.P w = .ok (vi 0) w
  eq_visit : TripT c.P c.t_api_Visit
  st_point : StructT c.P c.t_api_Point [(0, 1), (1, 1)] [vi 0, vi 0]
  st_path : StructT c.P c.t_api_Path [(0, 1), (1, 1)] [.slice none 0 0, .bool false]
  ssl_pt : ∃ e, SliceT c.P c.t_sl_sl_api_Point e 1 24 [.slice none 0 0]
  sl_visit : SliceT c.P c.t_sl_api_Visit c.t_api_Visit 3 24 [vi 0, vi 0, .bool false]

/-- paths that are read -/
def SlP (D : Nat → Prop) (w : World) (v : Value) (l : List Pth) : Prop :=
  ∃ cs : List (List Value), cs.length = l.length ∧ Sl D (fun c => c) w v cs ∧
    ∀ (i : Nat) (c : List Value) (p : Pth), cs[i]? = some c → l[i]? = some p → ∃ h, c = [h, .bool p.closed] ∧ Sl D eP w h p.pts

variable {c : Cfg}

theorem SlP.keep {D M : Nat → Prop} {w w' : World} {v : Value} {l : List Pth} (h : SlP D w v l) (k : Keep M w w') (hd : ∀ b, D b → ¬ M b) : SlP D w' v l := by
  obtain ⟨cs, h1, h2, h3⟩ := h
  exact ⟨cs, h1, h2.keep k hd, fun i c p hc hp => let ⟨u, e1, e2⟩ := h3 i c p hc hp; ⟨u, e1, e2.keep k hd⟩⟩
theorem SlP.keep0 {D : Nat → Prop} {w w' : World} {v : Value} {l : List Pth} (h : SlP D w v l) (k : Keep NoB w w') : SlP D w' v l := h.keep k fun _ _ h => h
theorem SlP.lt {D : Nat → Prop} {w : World} {v : Value} {l : List Pth} (h : SlP D w v l) : SlP (Old w) w v l := by
  obtain ⟨cs, h1, h2, h3⟩ := h
  exact ⟨cs, h1, h2.lt, fun i c p hc hp => let ⟨u, e1, e2⟩ := h3 i c p hc hp; ⟨u, e1, e2.lt⟩⟩
theorem SlP.dom {D D' : Nat → Prop} {w : World} {v : Value} {l : List Pth} (h : SlP D w v l) (hd : ∀ b, D b → D' b) : SlP D' w v l := by
  obtain ⟨cs, h1, h2, h3⟩ := h
  exact ⟨cs, h1, h2.dom hd, fun i c p hc hp => let ⟨u, e1, e2⟩ := h3 i c p hc hp; ⟨u, e1, e2.dom hd⟩⟩
theorem SlP.old {D : Nat → Prop} {w : World} {v : Value} {l : List Pth} (h : SlP D w v l) : SlP (fun b => D b ∧ b < w.heap.size) w v l := by
  obtain ⟨cs, h1, h2, h3⟩ := h
  exact ⟨cs, h1, h2.old, fun i c p hc hp => let ⟨u, e1, e2⟩ := h3 i c p hc hp; ⟨u, e1, e2.old⟩⟩
theorem SlP.drew {D : Nat → Prop} {w : World} {v : Value} {l : List Pth} (h : SlP D w v l) : SlP D w.drew v l := h.keep0 (keep_drew _ _)
theorem SlP.bound {D : Nat → Prop} {w : World} {v : Value} {l : List Pth} (h : SlP D w v l) : l.length ≤ 281474976710656 := by
  obtain ⟨cs, h1, h2, _⟩ := h; rw [← h1]; exact h2.bound
theorem SlP.len {D : Nat → Prop} {w : World} {v : Value} {l : List Pth} (h : SlP D w v l) {k : Value → Prop} (hk : k (vi l.length)) : lenP v k := by
  obtain ⟨cs, h1, h2, _⟩ := h
  exact h2.len (by rw [h1]; exact hk)

theorem SlP.idx {D : Nat → Prop} {w : World} {v : Value} {l : List Pth} (h : SlP D w v l) {i : Nat} {p : Pth} (hp : l[i]? = some p) {k : Value → Prop}
    (hk : ∀ b o hd, D b → b < w.heap.size → Cells w b o [hd, .bool p.closed] → Sl D eP w hd p.pts → k (pb b o)) : idxP 2 v (vi i) k := by
  obtain ⟨cs, h1, h2, h3⟩ := h
  have hi : i < l.length := by
    rcases Nat.lt_or_ge i l.length with h | h
    · exact h
    · rw [List.getElem?_eq_none h] at hp; cases hp
  have hx : cs[i]? = some (cs[i]'(by omega)) := List.getElem?_eq_getElem _
  obtain ⟨hd, e1, e2⟩ := h3 i _ p hx hp
  refine h2.idx (sz := 2) (fun x hx' => ?_) hx fun b o hd' hb hc => ?_
  · obtain ⟨j, hj⟩ := List.getElem?_of_mem hx'
    have hjl : j < l.length := by
      rw [← h1]
      rcases Nat.lt_or_ge j cs.length with h | h
      · exact h
      · rw [List.getElem?_eq_none h] at hj; cases hj
    obtain ⟨hd2, e3, _⟩ := h3 j x _ hj (List.getElem?_eq_getElem hjl)
    rw [e3]; rfl
  · rw [e1] at hc
    exact hk b o hd hd' hb hc e2

/-! ### numbers -/
end Go.Eng

/-! Contracts: what is wrong with points, paths, indices, visits. -/
namespace Go.Eng
open Go
variable {c : Cfg}

def pathF (p : Pth) : Int :=
  if p.pts.length = 0 then 8 else if 500 < p.pts.length then 2 else if p.closed = true ∧ p.pts.length < 3 then 3 else if p.pts.any farPt then 1 else 0
def pathsF (l : List Pth) : Int := if 200 < l.length then 2 else firstNZ (l.map pathF)

def PointFaultSpec (c : Cfg) : Prop := ∀ (D : Nat → Prop) (lv : Value) (l : List Pt) (w : World), Sl D eP w lv l →
  Ret c.P c.f_blref1_PointFault #[lv] w fun v w' => Keep NoB w w' ∧ v = vi (if l.any farPt then 1 else 0)
theorem pointFault_spec (E : Eqs c) : PointFaultSpec c := by
  intro D lv l w hl
  apply E.blref1_PointFault
  have hlb := hl.bound
  unfold wp_blref1_PointFault
  refine hl.len ?_
  refine s_range l.length (fun i w' => Keep NoB w w' ∧ ∀ x ∈ l.take i, farPt x = false) ⟨Keep.refl _ _, by simp⟩ ?_
  rintro i w1 j nx ⟨hk, hfar⟩ hin hnx
  refine s_lss (s_condD (fun hlt => ?_) fun hge => ?_)
  · have hil : i < l.length := by omega
    have hx := List.getElem?_eq_getElem hil
    generalize hxe : l[i] = p at hx
    refine (hl.keep0 hk).idx (sz := 2) (fun _ _ => rfl) hx fun b o _ _ hc => ?_
    refine s_ldA hc rfl ?_
    refine s_new (cs := [vi 0, vi 0]) fun b2 w2 hat2 hk2 _ _ => ?_
    refine s_stA (vs := eP p) hat2 rfl rfl rfl fun w3 hat3 hk3 _ => ?_
    have hk3' : Keep NoB w w3 := (hk.trans hk2).new hk3 fun i hi => .inr (by have := hk.size; omega)
    have hbad : ∀ w4, Keep NoB w w4 → farPt p = true → Keep NoB w w4 ∧ vi 1 = vi (if l.any farPt then 1 else 0) := fun w4 hk4 hf => by
      refine ⟨hk4, ?_⟩
      rw [if_pos (List.any_eq_true.2 ⟨p, List.mem_of_getElem? hx, hf⟩)]
    have hgood : ∀ w4, Keep NoB w w4 → farPt p = false → nx [vi ((i : Int) + 1)] w4 := fun w4 hk4 hf => by
      refine hnx _ hil ⟨hk4, fun x hx' => ?_⟩
      rw [List.take_succ_eq_append_getElem hil] at hx'
      rcases List.mem_append.1 hx' with h | h
      · exact hfar x h
      · simp at h; rw [h, hxe]; exact hf
    refine s_join (s_off (s_ldAt hat3 rfl ?_))
    refine (in_spec E _ _ _ w3).mono ?_
    rintro v w' ⟨rfl, rfl⟩
    refine s_not (s_guardF (fun h => s_off (s_ldAt hat3 rfl ?_)) fun h => ?_)
    · refine (in_spec E _ _ _ _).mono ?_
      rintro v w' ⟨rfl, rfl⟩
      refine s_not ?_
      intro j
      simp at h
      refine s_cond (fun h2 => hbad _ hk3' ?_) fun h2 => s_add (by omega) (by omega) (hgood _ hk3' ?_)
      · simp at h2; simp [farPt]; omega
      · simp at h2; simp [farPt]; omega
    · intro j
      simp at h
      refine s_condT rfl (hbad _ hk3' ?_)
      simp [farPt]; omega
  · have : i = l.length := by omega
    subst this
    refine ⟨hk, ?_⟩
    rw [if_neg]
    intro h
    obtain ⟨x, hx, hf⟩ := List.any_eq_true.1 h
    rw [hfar x (by simpa using hx)] at hf
    cases hf

end Go.Eng

/-! Contracts: what is wrong with paths, indices, visits. -/
namespace Go.Eng
open Go
variable {c : Cfg}

/-! ### a path's fault -/
def pthV (h : Value) (p : Pth) : Value := .agg #[h, .bool p.closed]

def PathFault1Spec (c : Cfg) : Prop := ∀ (D : Nat → Prop) (h : Value) (p : Pth) (w : World), Sl D eP w h p.pts →
  Ret c.P c.f_blref1_pathFault #[pthV h p] w fun v w' => Keep NoB w w' ∧ v = vi (pathF p)
theorem pathFault1_spec (E : Eqs c) : PathFault1Spec c := by
  intro D h p w hl
  apply E.blref1_pathFault
  have hlb := hl.bound
  unfold wp_blref1_pathFault pathF
  refine s_new (cs := [h, .bool p.closed]) fun b w1 hat hk _ _ => ?_
  have hl1 := hl.keep0 hk
  refine s_off (s_ldAt hat rfl (hl1.len (s_eql (s_condD (fun h0 => ⟨hk, by rw [if_pos (by omega)]⟩) fun h0 => ?_))))
  rw [if_neg (by omega)]
  refine s_off (s_ldAt hat rfl (hl1.len (s_gtr (s_condD (fun h1 => ⟨hk, by rw [if_pos (by omega)]⟩) fun h1 => ?_))))
  rw [if_neg (by omega)]
  refine s_join (s_off (s_ldAt hat rfl (s_guardT (fun hcl => s_off (s_ldAt hat rfl (hl1.len (s_lss ?_)))) fun hcl => ?_)))
  · intro j
    refine s_condD (fun h2 => ⟨hk, by rw [if_pos ⟨hcl, by omega⟩]⟩) fun h2 => ?_
    rw [if_neg (by omega)]
    refine s_off (s_ldAt hat rfl ((pointFault_spec E D h p.pts w1 hl1).mono ?_))
    rintro v w' ⟨hk2, rfl⟩
    exact ⟨hk.trans hk2, rfl⟩
  · intro j
    refine s_condF rfl ?_
    rw [if_neg (by simp [hcl])]
    refine s_off (s_ldAt hat rfl ((pointFault_spec E D h p.pts w1 hl1).mono ?_))
    rintro v w' ⟨hk2, rfl⟩
    exact ⟨hk.trans hk2, rfl⟩

/-! ### searches -/
def IndexFuncPSpec (c : Cfg) : Prop := ∀ (D : Nat → Prop) (lv fv : Value) (l : List Pt) (p : Pt → Bool) (w : World), Sl D eP w lv l → Tells c.P fv (fun v => .agg (eP v).toArray) p w →
  Ret c.P c.f_slices_IndexFunc_sl_api_Point_api_Point #[lv, fv] w fun v w' => Keep NoB w w' ∧ ∃ r : Int, v = vi r ∧ (0 ≤ r ↔ l.any p = true)
theorem indexFuncP_spec (E : Eqs c) : IndexFuncPSpec c := by
  intro D lv fv l p w hl hf
  apply E.slices_IndexFunc_sl_api_Point_api_Point
  have hlb := hl.bound
  unfold wp_slices_IndexFunc_sl_api_Point_api_Point
  refine hl.len ?_
  refine s_range l.length (fun i w' => Keep NoB w w' ∧ ∀ y ∈ l.take i, p y = false) ⟨Keep.refl _ _, by simp⟩ ?_
  rintro i w1 j nx ⟨hk, h0⟩ hin hnx
  refine s_lss (s_condD (fun hlt => ?_) fun hge => ?_)
  · have hil := ofInt_lt hlt
    have hx := List.getElem?_eq_getElem hil
    generalize hxe : l[i] = y at hx
    refine (hl.keep0 hk).idx (sz := 2) (fun _ _ => rfl) hx fun b o _ _ hc => s_ldA hc rfl ?_
    have := hf y w1 hk
    unfold callV at *
    split at this
    · refine this.mono ?_
      rintro v w2 ⟨hk2, rfl⟩
      refine s_cond (fun he => ⟨hk.trans hk2, _, rfl, ?_⟩) fun hne => ?_
      · exact ⟨fun _ => List.any_eq_true.2 ⟨y, List.mem_of_getElem? hx, he⟩, fun _ => by omega⟩
      · refine s_add (by omega) (by omega) (hnx _ hil ⟨hk.trans hk2, fun z hz => ?_⟩)
        rw [List.take_succ_eq_append_getElem hil] at hz
        rcases List.mem_append.1 hz with h | h
        · exact h0 z h
        · simp at h; rw [h, hxe]; exact hne
    · exact this.elim
  · obtain rfl : i = l.length := by omega
    refine ⟨hk, _, rfl, ⟨fun h => by omega, fun h => ?_⟩⟩
    obtain ⟨y, hy, hp⟩ := List.any_eq_true.1 h
    rw [h0 y (by simpa using hy)] at hp; cases hp

def ContainsFuncPSpec (c : Cfg) : Prop := ∀ (D : Nat → Prop) (lv fv : Value) (l : List Pt) (p : Pt → Bool) (w : World), Sl D eP w lv l → Tells c.P fv (fun v => .agg (eP v).toArray) p w →
  Ret c.P c.f_slices_ContainsFunc_sl_api_Point_api_Point #[lv, fv] w fun v w' => Keep NoB w w' ∧ v = .bool (l.any p)
theorem containsFuncP_spec (E : Eqs c) : ContainsFuncPSpec c := by
  intro D lv fv l p w hl hf
  apply E.slices_ContainsFunc_sl_api_Point_api_Point
  unfold wp_slices_ContainsFunc_sl_api_Point_api_Point
  refine (indexFuncP_spec E D lv fv l p w hl hf).mono ?_
  rintro v w' ⟨hk, r, rfl, hr⟩
  refine s_geq ⟨hk, ?_⟩
  cases h : l.any p with
  | true => rw [decide_eq_true (hr.2 h)]
  | false => rw [decide_eq_false (fun hh => by rw [hr.1 hh] at h; cases h)]

/-! ### the program's fault of a path -/
def PathFault2Spec (c : Cfg) : Prop := ∀ (D : Nat → Prop) (h : Value) (p : Pth) (w : World), Sl D eP w h p.pts →
  Ret c.P c.f_path_PathFault #[pthV h p] w fun v w' => Keep NoB w w' ∧ v = vi (pathF p)
theorem pathFault2_spec (E : Eqs c) : PathFault2Spec c := by
  intro D h p w hl
  apply E.path_PathFault
  have hlb := hl.bound
  unfold wp_path_PathFault pathF
  refine s_new (cs := [h, .bool p.closed]) fun b w1 hat hk _ _ => ?_
  have hl1 := hl.keep0 hk
  have htell : Tells c.P (.func (.func c.f_region_IsFar) #[] #[]) (fun v => Value.agg (eP v).toArray) farPt w1 := fun x w' hk' =>
    (far_spec E x w').mono fun v w'' h => h
  refine s_off (s_ldAt hat rfl (hl1.len (s_eql (s_condD (fun h0 => ⟨hk, by rw [if_pos (by omega)]⟩) fun h0 => ?_))))
  rw [if_neg (by omega)]
  refine s_off (s_ldAt hat rfl (hl1.len (s_gtr (s_condD (fun h1 => ⟨hk, by rw [if_pos (by omega)]⟩) fun h1 => ?_))))
  rw [if_neg (by omega)]
  refine s_join (s_off (s_ldAt hat rfl (s_guardT (fun hcl => s_off (s_ldAt hat rfl (hl1.len (s_lss ?_)))) fun hcl => ?_)))
  · intro j
    refine s_condD (fun h2 => ⟨hk, by rw [if_pos ⟨hcl, by omega⟩]⟩) fun h2 => ?_
    rw [if_neg (by omega)]
    refine s_off (s_ldAt hat rfl ((containsFuncP_spec E D h _ p.pts farPt w1 hl1 htell).mono ?_))
    rintro v w' ⟨hk2, rfl⟩
    exact s_cond (fun h => ⟨hk.trans hk2, by rw [if_pos h]⟩) fun h => ⟨hk.trans hk2, by rw [if_neg (by simp [h])]⟩
  · intro j
    refine s_condF rfl ?_
    rw [if_neg (by simp [hcl])]
    refine s_off (s_ldAt hat rfl ((containsFuncP_spec E D h _ p.pts farPt w1 hl1 htell).mono ?_))
    rintro v w' ⟨hk2, rfl⟩
    exact s_cond (fun h => ⟨hk.trans hk2, by rw [if_pos h]⟩) fun h => ⟨hk.trans hk2, by rw [if_neg (by simp [h])]⟩

end Go.Eng

/-! Contracts: what is wrong with lists of paths, indices, orders. -/
namespace Go.Eng
open Go
variable {c : Cfg}

theorem one_path {D : Nat → Prop} {w : World} {h : Value} {p : List Pt} {q : Bool} (hs : Sl D eP w h p) : [h, .bool q].all one = true := by
  obtain ⟨a, cap, rfl, _⟩ := hs; rfl

/-! ### paths -/
def PathsFault1Spec (c : Cfg) : Prop := ∀ (D : Nat → Prop) (lv : Value) (l : List Pth) (w : World), SlP D w lv l →
  Ret c.P c.f_blref1_PathsFault #[lv] w fun v w' => Keep NoB w w' ∧ v = vi (pathsF l)
theorem pathsFault1_spec (E : Eqs c) : PathsFault1Spec c := by
  intro D lv l w hl
  apply E.blref1_PathsFault
  have hlb := hl.bound
  unfold wp_blref1_PathsFault pathsF
  refine hl.len (s_gtr (s_condD (fun h => ⟨Keep.refl _ _, by rw [if_pos (by omega)]⟩) fun h => ?_))
  rw [if_neg (by omega)]
  refine hl.len ?_
  refine s_range l.length (fun i w' => Keep NoB w w' ∧ ∀ j, j < i → (l.map pathF)[j]? = some 0) ⟨Keep.refl _ _, fun _ h => by omega⟩ ?_
  rintro i w1 j nx ⟨hk, h0⟩ hin hnx
  refine s_lss (s_condD (fun hlt => ?_) fun hge => ?_)
  · have hil := ofInt_lt hlt
    obtain ⟨p, hp⟩ := idx_of_lt hil
    refine (hl.keep0 hk).idx hp fun b o hd _ _ hc hs => ?_
    refine s_ldA hc rfl ?_
    refine s_var rfl rfl (one_path hs) fun b2 w3 hat3 hk3 _ _ => ?_
    refine s_ldAAt hat3 rfl ?_
    refine (pathFault1_spec E D hd p w3 (hs.keep0 hk3)).mono ?_
    rintro v w4 ⟨hk4, rfl⟩
    have hpf : (l.map pathF)[i]? = some (pathF p) := by rw [List.getElem?_map, hp]; rfl
    refine s_neq (s_condD (fun hne => ⟨(hk.trans hk3).trans hk4, by rw [firstNZ_at h0 hpf hne]⟩) fun heq => ?_)
    refine s_add (by omega) (by omega) (hnx _ hil ⟨(hk.trans hk3).trans hk4, fun j hj => ?_⟩)
    rcases Nat.lt_or_ge j i with h | h
    · exact h0 j h
    · obtain rfl : j = i := by omega
      rw [hpf]; congr 1; omega
  · obtain rfl : i = l.length := by omega
    exact ⟨hk, by rw [firstNZ_all (by simpa using h0)]⟩

def CheckPathsSpec (c : Cfg) : Prop := ∀ (D : Nat → Prop) (lv : Value) (l : List Pth) (w : World), SlP D w lv l →
  Ret c.P c.f_path_CheckPaths #[lv] w fun v w' => Keep NoB w w' ∧ v = vi (pathsF l)
theorem checkPaths_spec (E : Eqs c) : CheckPathsSpec c := by
  intro D lv l w hl
  apply E.path_CheckPaths
  have hlb := hl.bound
  unfold wp_path_CheckPaths pathsF
  refine hl.len (s_gtr (s_condD (fun h => ⟨Keep.refl _ _, by rw [if_pos (by omega)]⟩) fun h => ?_))
  rw [if_neg (by omega)]
  refine hl.len ?_
  refine s_range l.length (fun i w' => Keep NoB w w' ∧ ∀ j, j < i → (l.map pathF)[j]? = some 0) ⟨Keep.refl _ _, fun _ h => by omega⟩ ?_
  rintro i w1 j nx ⟨hk, h0⟩ hin hnx
  refine s_lss (s_condD (fun hlt => ?_) fun hge => ?_)
  · have hil := ofInt_lt hlt
    obtain ⟨p, hp⟩ := idx_of_lt hil
    refine (hl.keep0 hk).idx hp fun b o hd _ _ hc hs => ?_
    refine s_ldA hc rfl ?_
    refine s_var rfl rfl (one_path hs) fun b2 w3 hat3 hk3 _ _ => ?_
    refine s_ldAAt hat3 rfl ?_
    refine (pathFault2_spec E D hd p w3 (hs.keep0 hk3)).mono ?_
    rintro v w4 ⟨hk4, rfl⟩
    have hpf : (l.map pathF)[i]? = some (pathF p) := by rw [List.getElem?_map, hp]; rfl
    refine s_neq (s_condD (fun hne => ⟨(hk.trans hk3).trans hk4, by rw [firstNZ_at h0 hpf hne]⟩) fun heq => ?_)
    refine s_add (by omega) (by omega) (hnx _ hil ⟨(hk.trans hk3).trans hk4, fun j hj => ?_⟩)
    rcases Nat.lt_or_ge j i with h | h
    · exact h0 j h
    · obtain rfl : j = i := by omega
      rw [hpf]; congr 1; omega
  · obtain rfl : i = l.length := by omega
    exact ⟨hk, by rw [firstNZ_all (by simpa using h0)]⟩

/-! ### indices -/
def indAt (n : Nat) (l : List Int) (i : Nat) : Int := match l[i]? with
  | some k => if 0 ≤ k ∧ k < n then (if k ∈ l.take i then 6 else 0) else 1
  | none => 0
def indF (n : Nat) (l : List Int) : Int := if l.length ≠ n then 3 else firstNZ ((List.range l.length).map (indAt n l))

def Indices2Spec (c : Cfg) : Prop := ∀ (D : Nat → Prop) (n : Nat) (lv : Value) (l : List Int) (w : World), Sl D eI w lv l → n ≤ 1000000 →
  Ret c.P c.f_path_indicesFault #[vi n, lv] w fun v w' => Keep NoB w w' ∧ v = vi (indF n l)
theorem indices2_spec (E : Eqs c) (T : Ty c) : Indices2Spec c := by
  intro D n lv l w hl hn
  apply E.path_indicesFault
  have hlb := hl.bound
  obtain ⟨e, hT⟩ := T.sl_bool
  unfold wp_path_indicesFault indF
  refine hl.len (s_neq (s_condD (fun h => ⟨Keep.refl _ _, by rw [if_pos (by omega)]⟩) fun h => ?_))
  rw [if_neg (by omega)]
  refine s_mkslice hT (by omega) fun b w1 hat hk1 hb hs => ?_
  have hl1 := hl.keep0 hk1
  refine hl1.len ?_
  refine s_range l.length (fun i w' => Keep NoB w w' ∧ Keep (· = b) w1 w' ∧ Seen w' b n e (fun k => decide ((k : Int) ∈ l.take i)) ∧ ∀ j, j < i → indAt n l j = 0) ⟨hk1, Keep.refl _ _, by simpa using seen_new hat, fun _ h => by omega⟩ ?_
  rintro i w2 j nx ⟨hk, hk2, hsn, h0⟩ hin hnx
  have hl2 := hl.keep0 hk
  refine s_lss (s_condD (fun hlt => ?_) fun hge => ?_)
  · have hil := ofInt_lt hlt
    obtain ⟨p, hp⟩ := idx_of_lt hil
    refine hl2.idx (sz := 1) (fun _ _ => rfl) hp fun b o _ _ hc => s_ldC0 hc ?_
    have hbad : ¬ (0 ≤ p ∧ p < n) → Keep NoB w w2 ∧ vi 1 = vi (firstNZ ((List.range l.length).map (indAt n l))) := fun h1 => by
      have : indAt n l i = 1 := by simp [indAt, hp, h1]
      exact ⟨hk, by rw [fnz_at h0 hil (by omega), this]⟩
    refine s_join (s_lss (s_guardF (fun h1 => s_geq ?_) fun h1 => ?_))
    · intro j1
      refine s_condD (fun h2 => hbad (by omega)) fun h2 => ?_
      have h1 : 0 ≤ p ∧ p < n := by simp at h1; omega
      obtain ⟨q, rfl⟩ := Int.eq_ofNat_of_zero_le h1.1
      refine s_idx h1.1 h1.2 ?_
      rw [Int.toNat_natCast]
      refine hsn.get (by omega) (s_condD (fun h3 => ?_) fun h3 => ?_)
      · have : indAt n l i = 6 := by simp [indAt, hp, h1, h3]
        exact ⟨hk, by rw [fnz_at h0 hil (by omega), this]⟩
      · refine s_idx h1.1 h1.2 ?_
        rw [Int.toNat_natCast]
        refine hsn.put (by omega) fun w3 hsn3 hk3 _ => ?_
        have : indAt n l i = 0 := by simp [indAt, hp, h1, h3]
        refine s_add (by omega) (by omega) (hnx _ hil ⟨hk.new hk3 fun i hi => .inr (by omega), hk2.trans hk3, ?_, fun j hj => ?_⟩)
        · refine cast ?_ hsn3
          congr 1
          funext k
          rw [take_snoc hp]
          simp only [List.mem_append, List.mem_singleton]
          rw [Bool.eq_iff_iff]
          simp only [Bool.or_eq_true, decide_eq_true_eq]
          constructor
          · rintro (rfl | h)
            · exact .inr rfl
            · exact .inl h
          · rintro (h | h)
            · exact .inr h
            · exact .inl (by omega)
        · rcases Nat.lt_or_ge j i with h | h
          · exact h0 j h
          · obtain rfl : j = i := by omega
            exact this
    · intro j1
      simp at h1
      exact s_condT rfl (hbad (by omega))
  · obtain rfl : i = l.length := by omega
    exact ⟨hk, by rw [fnz_all h0]⟩

end Go.Eng

/-! Contracts: what is wrong with visits and orders. -/
namespace Go.Eng
open Go
variable {c : Cfg}

def pAt (ps : List Pth) (i : Int) : Pth := ps.getD i.toNat ⟨[], false⟩
def vBad (p : Pth) (v : Vis) : Bool := (p.closed && v.back) || (!p.closed && decide (v.start ≠ 0))
def vF2 (p : Pth) (v : Vis) : Int := if vBad p v then 3 else if 0 ≤ v.start ∧ v.start < p.pts.length then 0 else 1
def visF (ps : List Pth) (before : List Vis) (v : Vis) : Int :=
  if 0 ≤ v.path ∧ v.path < ps.length then (if before.any (fun x => decide (x.path = v.path)) then 6 else vF2 (pAt ps v.path) v) else 1
def visAt (ps : List Pth) (os : List Vis) (i : Nat) : Int := match os[i]? with
  | some v => visF ps (os.take i) v
  | none => 0
def orderF (ps : List Pth) (os : List Vis) : Int :=
  if pathsF ps ≠ 0 then pathsF ps else if os.length ≠ ps.length then 3 else firstNZ ((List.range os.length).map (visAt ps os))

theorem pAt_get {ps : List Pth} {i : Nat} {p : Pth} (h : ps[i]? = some p) : pAt ps i = p := by
  simp [pAt, List.getD, h]

theorem pathsF_ok {ps : List Pth} (h : pathsF ps = 0) : ps.length ≤ 200 ∧ ∀ p ∈ ps, pathF p = 0 := by
  unfold pathsF at h
  split at h
  · omega
  · refine ⟨by omega, ?_⟩
    intro p hp
    by_cases hh : ∃ i, i < ps.length ∧ (ps.map pathF)[i]? ≠ some 0
    · obtain ⟨i, hi⟩ := hh
      obtain ⟨k, hk, hmin⟩ := least (Q := fun i => i < ps.length ∧ (ps.map pathF)[i]? ≠ some 0) ⟨i, hi⟩
      have h0 : ∀ j, j < k → (ps.map pathF)[j]? = some 0 := fun j hj => by
        by_cases hne : (ps.map pathF)[j]? = some 0
        · exact hne
        · exact absurd (hmin j ⟨by omega, hne⟩) (by omega)
      obtain ⟨q, hq⟩ := idx_of_lt hk.1
      have hq' : (ps.map pathF)[k]? = some (pathF q) := by rw [List.getElem?_map, hq]; rfl
      have hne : pathF q ≠ 0 := fun h => hk.2 (by rw [hq', h])
      rw [firstNZ_at h0 hq' hne] at h
      exact absurd h hne
    · obtain ⟨i, hi⟩ := List.getElem?_of_mem hp
      have hil := lt_of_idx hi
      by_cases hne : (ps.map pathF)[i]? = some 0
      · rw [List.getElem?_map, hi] at hne; simpa using hne
      · exact absurd ⟨i, hil, hne⟩ hh

def VisitFault2Spec (c : Cfg) : Prop := ∀ (D : Nat → Prop) (lv : Value) (ps : List Pth) (v : Vis) (w : World), SlP D w lv ps → 0 ≤ v.path → v.path < ps.length →
  Ret c.P c.f_path_visitFault #[lv, .agg (eV v).toArray] w fun u w' => Keep NoB w w' ∧ u = vi (vF2 (pAt ps v.path) v)
theorem visitFault2_spec (E : Eqs c) : VisitFault2Spec c := by
  intro D lv ps v w hl h1 h2
  apply E.path_visitFault
  have hlb := hl.bound
  unfold wp_path_visitFault vF2
  refine s_new (cs := eV v) fun b1 w1 hat1 hk1 hb1 hs1 => ?_
  refine s_off (s_ldAt hat1 rfl ?_)
  obtain ⟨i, hi⟩ := Int.eq_ofNat_of_zero_le h1
  obtain ⟨p, hp⟩ := idx_of_lt (show i < ps.length by omega)
  rw [hi, pAt_get hp]
  refine (hl.keep0 hk1).idx hp fun b o hd _ _ hc hs => ?_
  refine s_ldA hc rfl ?_
  refine s_var rfl rfl (one_path hs) fun b2 w3 hat3 hk3 hb3 hs3 => ?_
  have hk := hk1.trans hk3
  have hat1 := hat1.keep0 hk3
  have hs := hs.keep0 hk3
  refine s_joinM (fun vs w' => w' = w3 ∧ vs = [.bool (vBad p v)]) ?_ ?_
  · refine s_off (s_ldAt hat3 rfl (s_guardT (fun h2 => ?_) fun h2 => ?_))
    · refine s_off (s_ldAt hat1 rfl (s_guardF (fun h3 => ?_) fun h3 => ⟨rfl, by simp [vBad, h2, h3]⟩))
      refine s_off (s_ldAt hat3 rfl (s_not (s_guardT (fun h4 => ?_) fun h4 => ⟨rfl, by simp [vBad, h2, h3]⟩)))
      simp [h2] at h4
    · refine s_off (s_ldAt hat3 rfl (s_not (s_guardT (fun h4 => ?_) fun h4 => ?_)))
      · exact s_off (s_ldAt hat1 rfl (s_neq ⟨rfl, by simp [vBad, h2]⟩))
      · simp [h2] at h4
  rintro vs j w' ⟨rfl, rfl⟩
  refine s_cond (fun h2 => ⟨hk, by rw [if_pos h2]⟩) fun h2 => ?_
  rw [if_neg (by rw [h2]; simp)]
  refine s_joinM (fun vs w4 => w4 = w' ∧ vs = [.bool (decide (¬ (0 ≤ v.start ∧ v.start < p.pts.length)))]) ?_ ?_
  · refine s_off (s_ldAt hat1 rfl (s_lss (s_guardF (fun h3 => ?_) fun h3 => ?_)))
    · refine s_off (s_ldAt hat1 rfl (s_off (s_ldAt hat3 rfl (hs.len (s_geq ⟨rfl, ?_⟩)))))
      congr 1
      simp at h3
      exact bool_dec (by omega)
    · refine ⟨rfl, ?_⟩
      congr 1
      simp at h3
      show Value.bool true = _
      rw [decide_eq_true (by omega)]
  rintro vs j w' ⟨rfl, rfl⟩
  exact s_condD (fun h3 => ⟨hk, by rw [if_neg h3]⟩) fun h3 => ⟨hk, by rw [if_pos (by omega)]⟩

def OrderFault2Spec (c : Cfg) : Prop := ∀ (D D' : Nat → Prop) (lv ov : Value) (ps : List Pth) (os : List Vis) (w : World), SlP D w lv ps → Sl D' eV w ov os → ps.length ≤ 1000 →
  Ret c.P c.f_path_orderFault #[lv, ov] w fun u w' => Keep NoB w w' ∧ u = vi (if os.length ≠ ps.length then 3 else firstNZ ((List.range os.length).map (visAt ps os)))
theorem orderFault2_spec (E : Eqs c) (T : Ty c) : OrderFault2Spec c := by
  intro D D' lv ov ps os w hl ho hps
  apply E.path_orderFault
  have hob := ho.bound
  obtain ⟨e, hT⟩ := T.sl_bool
  unfold wp_path_orderFault
  refine ho.len (hl.len (s_neq (s_condD (fun h => ⟨Keep.refl _ _, by rw [if_pos (by omega)]⟩) fun h => ?_)))
  rw [if_neg (by omega)]
  refine hl.len (s_mkslice hT (by omega) fun b w1 hat hk1 hb hs => ?_)
  refine (ho.keep0 hk1).len ?_
  refine s_range os.length (fun i w' => Keep NoB w w' ∧ Seen w' b ps.length e (fun k => (os.take i).any fun x => decide (x.path = (k : Int))) ∧ ∀ j, j < i → visAt ps os j = 0)
    ⟨hk1, by simpa using seen_new hat, fun _ h => by omega⟩ ?_
  rintro i w2 j nx ⟨hk, hsn, h0⟩ hin hnx
  refine s_lss (s_condD (fun hlt => ?_) fun hge => ?_)
  · have hil := ofInt_lt hlt
    obtain ⟨v, hv⟩ := idx_of_lt hil
    have hva : visAt ps os i = visF ps (os.take i) v := by simp [visAt, hv]
    have hbw : b < w2.heap.size := hsn.lt
    refine (ho.keep0 hk).idx (sz := 3) (fun _ _ => rfl) hv fun b1 o _ _ hc => ?_
    refine s_ldA hc rfl ?_
    refine s_var rfl rfl rfl fun b2 w3 hat3 hk3 hb2 _ => ?_
    have hk := hk.trans hk3
    have hsn : Seen w3 b _ _ _ := At.keep0 hsn hk3
    refine s_joinM (fun vs w' => w' = w3 ∧ vs = [.bool (decide (¬ (0 ≤ v.path ∧ v.path < ps.length)))]) ?_ ?_
    · refine s_off (s_ldAt hat3 rfl (s_lss (s_guardF (fun h3 => ?_) fun h3 => ?_)))
      · refine s_off (s_ldAt hat3 rfl ((hl.keep0 hk).len (s_geq ⟨rfl, ?_⟩)))
        congr 1
        simp at h3
        exact bool_dec (by omega)
      · refine ⟨rfl, ?_⟩
        congr 1
        simp at h3
        show Value.bool true = _
        rw [decide_eq_true (by omega)]
    rintro vs j w' ⟨rfl, rfl⟩
    refine s_condD (fun h1 => ?_) fun h1 => ?_
    · have : visAt ps os i = 1 := by rw [hva, visF, if_neg h1]
      exact ⟨hk, by rw [fnz_at h0 hil (by omega), this]⟩
    have h1 : 0 ≤ v.path ∧ v.path < ps.length := by omega
    refine s_off (s_ldAt hat3 rfl ?_)
    obtain ⟨q, hq⟩ := Int.eq_ofNat_of_zero_le h1.1
    refine s_idx h1.1 h1.2 ?_
    rw [show v.path.toNat = q by omega]
    refine hsn.get (by omega) (s_cond (fun h2 => ?_) fun h2 => ?_)
    · have : visAt ps os i = 6 := by rw [hva, visF, if_pos h1, if_pos (by rw [hq]; exact h2)]
      exact ⟨hk, by rw [fnz_at h0 hil (by omega), this]⟩
    have hv2 : visAt ps os i = vF2 (pAt ps v.path) v := by rw [hva, visF, if_pos h1, if_neg (by rw [hq, h2]; simp)]
    refine s_off (s_ldAt hat3 rfl (s_idx h1.1 h1.2 ?_))
    rw [show v.path.toNat = q by omega]
    refine hsn.put (by omega) fun w4 hsn4 hk4 hs4 => ?_
    refine s_ldAAt (hat3.keep hk4 (by omega)) rfl ?_
    have hk := hk.new hk4 fun i hi => .inr (by omega)
    refine (visitFault2_spec E D lv ps v w4 (hl.keep0 hk) h1.1 h1.2).mono ?_
    rintro u w5 ⟨hk5, rfl⟩
    have hk := hk.trans hk5
    refine s_neq (s_condD (fun hne => ⟨hk, by rw [fnz_at h0 hil (by omega), hv2]⟩) fun heq => ?_)
    refine s_add (by omega) (by omega) (hnx _ hil ⟨hk, ?_, fun j hj => ?_⟩)
    · refine cast ?_ (At.keep0 hsn4 hk5)
      show _ = Seen w5 b _ e _
      unfold Seen
      congr 3
      funext k
      rw [take_snoc hv]
      rw [Value.bool.injEq, Bool.eq_iff_iff]
      simp only [Bool.or_eq_true, decide_eq_true_eq, List.any_append, List.any_cons, List.any_nil, Bool.or_false]
      constructor
      · rintro (rfl | h)
        · exact .inr hq
        · exact .inl h
      · rintro (h | h)
        · exact .inr h
        · exact .inl (by omega)
    · rcases Nat.lt_or_ge j i with h | h
      · exact h0 j h
      · obtain rfl : j = i := by omega
        omega
  · obtain rfl : i = os.length := by omega
    exact ⟨hk, by rw [fnz_all h0]⟩

def CheckOrderSpec (c : Cfg) : Prop := ∀ (D D' : Nat → Prop) (lv ov : Value) (ps : List Pth) (os : List Vis) (w : World), SlP D w lv ps → Sl D' eV w ov os →
  Ret c.P c.f_path_CheckOrder #[lv, ov] w fun u w' => Keep NoB w w' ∧ u = vi (orderF ps os)
theorem checkOrder_spec (E : Eqs c) (T : Ty c) : CheckOrderSpec c := by
  intro D D' lv ov ps os w hl ho
  apply E.path_CheckOrder
  unfold wp_path_CheckOrder orderF
  refine (checkPaths_spec E D lv ps w hl).mono ?_
  rintro v w1 ⟨hk, rfl⟩
  refine s_neq (s_condD (fun h => ⟨hk, by rw [if_pos h]⟩) fun h => ?_)
  rw [if_neg h]
  have := (pathsF_ok (ps := ps) (by omega)).1
  refine (orderFault2_spec E T D D' lv ov ps os w1 (hl.keep0 hk) (ho.keep0 hk) (by omega)).mono ?_
  rintro v w2 ⟨hk2, rfl⟩
  exact ⟨hk.trans hk2, rfl⟩

/-- the fault of where one starts, and of paths -/
def startF (s : Pt) (f : Int) : Int := if farPt s then 1 else f
def StartPathsSpec (c : Cfg) : Prop := ∀ (D : Nat → Prop) (s : Pt) (lv : Value) (ps : List Pth) (w : World), SlP D w lv ps →
  Ret c.P c.f_path_startPathsFault #[.agg (eP s).toArray, lv] w fun u w' => Keep NoB w w' ∧ u = vi (startF s (pathsF ps))
theorem startPaths_spec (E : Eqs c) : StartPathsSpec c := by
  intro D s lv ps w hl
  apply E.path_startPathsFault
  unfold wp_path_startPathsFault startF
  refine s_new (cs := eP s) fun b1 w1 hat1 hk1 hb1 hs1 => ?_
  refine s_ldAAt hat1 rfl ?_
  refine (far_spec E s w1).mono ?_
  rintro v w2 ⟨hk2, rfl⟩
  have hk := hk1.trans hk2
  refine s_cond (fun h => ⟨hk, by rw [if_pos h]⟩) fun h => ?_
  rw [if_neg (by rw [h]; simp)]
  refine (checkPaths_spec E D lv ps w2 (hl.keep0 hk)).mono ?_
  rintro v w3 ⟨hk3, rfl⟩
  exact ⟨hk.trans hk3, rfl⟩

def StartSpec (c : Cfg) : Prop := ∀ (D D' : Nat → Prop) (s : Pt) (lv ov : Value) (ps : List Pth) (os : List Vis) (w : World), SlP D w lv ps → Sl D' eV w ov os →
  Ret c.P c.f_path_startFault #[.agg (eP s).toArray, lv, ov] w fun u w' => Keep NoB w w' ∧ u = vi (startF s (orderF ps os))
theorem start_spec (E : Eqs c) (T : Ty c) : StartSpec c := by
  intro D D' s lv ov ps os w hl ho
  apply E.path_startFault
  unfold wp_path_startFault startF
  refine s_new (cs := eP s) fun b1 w1 hat1 hk1 hb1 hs1 => ?_
  refine s_ldAAt hat1 rfl ?_
  refine (far_spec E s w1).mono ?_
  rintro v w2 ⟨hk2, rfl⟩
  have hk := hk1.trans hk2
  refine s_cond (fun h => ⟨hk, by rw [if_pos h]⟩) fun h => ?_
  rw [if_neg (by rw [h]; simp)]
  refine (checkOrder_spec E T D D' lv ov ps os w2 (hl.keep0 hk) (ho.keep0 hk)).mono ?_
  rintro v w3 ⟨hk3, rfl⟩
  exact ⟨hk.trans hk3, rfl⟩

end Go.Eng

/-! Contracts: distances, ends of visits, travel. -/
namespace Go.Eng
open Go
variable {c : Cfg}

def dist (a b : Pt) : Int := max (max (a.x - b.x) (b.x - a.x)) (max (a.y - b.y) (b.y - a.y))
def Nearby (p : Pt) : Prop := -100000 ≤ p.x ∧ p.x ≤ 100000 ∧ -100000 ≤ p.y ∧ p.y ≤ 100000
theorem near_of {p : Pt} (h : farPt p = false) : Nearby p := by
  simp [farPt] at h; unfold Nearby; omega
theorem dist_bound {a b : Pt} (ha : Nearby a) (hb : Nearby b) : 0 ≤ dist a b ∧ dist a b ≤ 200000 := by
  unfold Nearby at *; unfold dist; omega

def AbsSpec (c : Cfg) : Prop := ∀ (n : Int) (w : World), -1000000000 ≤ n → n ≤ 1000000000 → Ret c.P c.f_path_abs #[vi n] w fun v w' => w' = w ∧ v = vi (max n (-n))
theorem sabs_spec (E : Eqs c) : AbsSpec c := by
  intro n w h1 h2
  apply E.path_abs
  unfold wp_path_abs
  exact s_neg (by omega) (by omega) (s_max2 ⟨rfl, rfl⟩)

def DistanceSpec (c : Cfg) : Prop := ∀ (a b : Pt) (w : World), Nearby a → Nearby b →
  Ret c.P c.f_path_Distance #[.agg (eP a).toArray, .agg (eP b).toArray] w fun v w' => Keep NoB w w' ∧ v = vi (dist a b)
theorem distance_spec (E : Eqs c) : DistanceSpec c := by
  intro a b w ha hb
  unfold Nearby at ha hb
  apply E.path_Distance
  unfold wp_path_Distance
  refine s_new (cs := eP a) fun b1 w1 hat1 hk1 _ _ => ?_
  refine s_new (cs := eP b) fun b2 w2 hat2 hk2 _ _ => ?_
  have hat1 := hat1.keep0 hk2
  have hk := hk1.trans hk2
  refine s_held (fun w' => w' = w2.drew) ⟨rfl, ?_⟩
  have h1 : ∀ w', w' = w2.drew → At w' b1 (eP a) c.t_api_Point := fun w' h => by subst h; exact hat1
  have h2 : ∀ w', w' = w2.drew → At w' b2 (eP b) c.t_api_Point := fun w' h => by subst h; exact hat2
  refine s_off (s_ldS (fun w' h => by rw [(h1 w' h).cell]; rfl) ?_)
  refine s_off (s_ldS (fun w' h => by rw [(h2 w' h).cell]; rfl) ?_)
  refine s_sub (by omega) (by omega) ?_
  refine s_off (s_ldS (fun w' h => by rw [(h1 w' h).cell]; rfl) ?_)
  refine s_off (s_ldS (fun w' h => by rw [(h2 w' h).cell]; rfl) ?_)
  refine s_sub (by omega) (by omega) ?_
  refine (sabs_spec E _ _ (by omega) (by omega)).mono ?_
  rintro v w' ⟨rfl, rfl⟩
  refine ⟨rfl, ?_⟩
  refine (sabs_spec E _ _ (by omega) (by omega)).mono ?_
  rintro v w' ⟨rfl, rfl⟩
  refine ⟨rfl, s_max2 ⟨hk.drew, ?_⟩⟩
  congr 1; unfold dist; omega

/-! ### ends -/
def pt0 : Pt := ⟨0, 0⟩
def frmP (p : Pth) (v : Vis) : Pt := if p.closed then p.pts.getD v.start.toNat pt0 else if v.back then p.pts.getD (p.pts.length - 1) pt0 else p.pts.getD 0 pt0
def tovP (p : Pth) (v : Vis) : Pt := if p.closed then p.pts.getD v.start.toNat pt0 else if v.back then p.pts.getD 0 pt0 else p.pts.getD (p.pts.length - 1) pt0
def frm (ps : List Pth) (v : Vis) : Pt := frmP (pAt ps v.path) v
def tov (ps : List Pth) (v : Vis) : Pt := tovP (pAt ps v.path) v
/-- a right visit -/
structure VOk (ps : List Pth) (v : Vis) : Prop where
  p0 : 0 ≤ v.path
  p1 : v.path < ps.length
  s0 : 0 ≤ v.start
  s1 : v.start < (pAt ps v.path).pts.length
  cl : (pAt ps v.path).closed = true → v.back = false
  op : (pAt ps v.path).closed = false → v.start = 0

theorem VOk.get {ps : List Pth} {v : Vis} (h : VOk ps v) : ∃ i : Nat, v.path = i ∧ i < ps.length ∧ ps[i]? = some (pAt ps v.path) := by
  obtain ⟨i, hi⟩ := Int.eq_ofNat_of_zero_le h.p0
  have hlt : i < ps.length := by have := h.p1; omega
  obtain ⟨p, hp⟩ := idx_of_lt hlt
  exact ⟨i, hi, hlt, by rw [hi, pAt_get hp]; exact hp⟩

theorem getD_get {α : Type} {l : List α} {i : Nat} {d : α} (h : i < l.length) : l[i]? = some (l.getD i d) := by
  rw [List.getD, List.getElem?_eq_getElem h]; rfl

/-- a load of an element while something is held -/
theorem held_elem {D : Nat → Prop} {w : World} {S : World → Prop} {hd : Value} {l : List Pt} (hs : Sl D eP w hd l) (hS : ∀ w', S w' → ∃ M, Keep M w w' ∧ ∀ b, D b → ¬ M b)
    {k : Value → Prop} {x : Pt} {j : Nat} {e : Int} (hj : e = j) (hx : l[j]? = some x) (hk : k (.agg (eP x).toArray)) : idxP 2 hd (vi e) fun a => ldAS S 2 a k := by
  subst hj
  refine hs.idx (sz := 2) (fun _ _ => rfl) hx fun b o hb _ hc => ?_
  refine s_ldAS (fun w' hw => ?_) rfl hk
  obtain ⟨M, hk, hm⟩ := hS w' hw
  exact hc.keep hk (hm b hb)

def EndsSpec (c : Cfg) : Prop := ∀ (D : Nat → Prop) (lv : Value) (ps : List Pth) (v : Vis) (w : World), SlP D w lv ps → VOk ps v →
  Ret c.P c.f_path_ends #[lv, .agg (eV v).toArray] w fun u w' => Keep NoB w w' ∧ u = .tuple #[.agg (eP (frm ps v)).toArray, .agg (eP (tov ps v)).toArray]
theorem sends_spec (E : Eqs c) : EndsSpec c := by
  intro D lv ps v w hl hv
  have hl := hl.lt
  apply E.path_ends
  unfold wp_path_ends frm tov
  refine s_new (cs := eV v) fun b1 w1 hat1 hk1 hb1 hs1 => ?_
  refine s_new (cs := [vi 0, vi 0]) fun b2 w2 hat2 hk2 hb2 hs2 => ?_
  refine s_new (cs := [vi 0, vi 0]) fun b3 w3 hat3 hk3 hb3 hs3 => ?_
  have hk := (hk1.trans hk2).trans hk3
  have hat1 := (hat1.keep0 hk2).keep0 hk3
  have hat2 := hat2.keep0 hk3
  have hold := hk1.size
  obtain ⟨i, hi, hil, hp⟩ := hv.get
  have hs0 := hv.s0
  have hs1' := hv.s1
  generalize hpd : pAt ps v.path = p at *
  refine s_off (s_ldAt hat1 rfl ?_)
  rw [hi]
  refine (hl.keep0 hk).idx hp fun b o hd _ _ hc hs => ?_
  refine s_off (s_ldC (i := 0) hc rfl ?_)
  refine s_off (s_ldAt hat1 rfl ?_)
  rw [hi]
  refine (hl.keep0 hk).idx hp fun b' o' hd' _ _ hc' hs' => ?_
  refine s_off (s_ldC (i := 1) hc' rfl ?_)
  have hsb := hs.bound
  -- what is held while the results are written
  let S : World → Prop := fun w' => Keep (· = b2) w3 w'
  have hS0 : S w3.drew := keep_drew _ _
  have hS : ∀ w', S w' → ∃ M, Keep M w3 w' ∧ ∀ b, Old w b → ¬ M b := fun w' h => ⟨_, h, fun b hb => by have : b < w.heap.size := hb; omega⟩
  have hat1S : ∀ w', S w' → At w' b1 (eV v) c.t_api_Visit := fun w' h => hat1.keep h (by omega)
  obtain ⟨q, hq⟩ := Int.eq_ofNat_of_zero_le hs0
  have hlast : ((p.pts.length : Int) - 1) = ((p.pts.length - 1 : Nat) : Int) := by omega
  have fin : ∀ (x y : Pt), stA 2 (pb b2 0) (.agg (eP x).toArray) w3.drew fun w4 => S w4 ∧ stA 2 (pb b3 0) (.agg (eP y).toArray) w4 fun w5 =>
      ldA 2 (pb b2 0) w5 fun u => ldA 2 (pb b3 0) w5 fun u' => Keep NoB w w5 ∧ Value.tuple #[u, u'] = .tuple #[.agg (eP x).toArray, .agg (eP y).toArray] := fun x y => by
    refine s_stA (vs := eP x) hat2.drew rfl rfl rfl fun w4 hat2 hk4 _ => ⟨(keep_drew _ _).trans hk4, ?_⟩
    refine s_stA (vs := eP y) (hat3.drew.keep hk4 (by omega)) rfl rfl rfl fun w5 hat3 hk5 _ => ?_
    refine s_ldAAt (hat2.keep hk5 (by omega)) rfl (s_ldAAt hat3 rfl ⟨?_, rfl⟩)
    exact (hk.drew.new hk4 fun i hi => .inr (by omega)).new hk5 fun i hi => .inr (by omega)
  refine s_cond (fun hcl => ?_) fun hop => s_off (s_ldAt hat1 rfl (s_cond (fun hb => ?_) fun hb => ?_))
  · refine s_held S ⟨hS0, ?_⟩
    have hx : p.pts[q]? = some (p.pts.getD v.start.toNat pt0) := by rw [show v.start.toNat = q by omega]; exact getD_get (by omega)
    refine s_off (s_ldS (fun w' h => by rw [(hat1S w' h).cell]; rfl) ?_)
    refine held_elem hs hS hq hx ?_
    refine s_off (s_ldS (fun w' h => by rw [(hat1S w' h).cell]; rfl) ?_)
    refine held_elem hs hS hq hx ?_
    have := fin (p.pts.getD v.start.toNat pt0) (p.pts.getD v.start.toNat pt0)
    simp only [frmP, tovP, hcl, if_true]
    exact this
  · refine s_held S ⟨hS0, ?_⟩
    refine hs.len (s_sub (by omega) (by omega) ?_)
    refine held_elem hs hS hlast (getD_get (d := pt0) (by omega)) ?_
    refine held_elem (j := 0) hs hS rfl (getD_get (d := pt0) (by omega)) ?_
    have := fin (p.pts.getD (p.pts.length - 1) pt0) (p.pts.getD 0 pt0)
    simp only [frmP, tovP, hop, hb, if_true, Bool.false_eq_true, if_false]
    exact this
  · refine s_held S ⟨hS0, ?_⟩
    refine held_elem (j := 0) hs hS rfl (getD_get (d := pt0) (by omega)) ?_
    refine hs.len (s_sub (by omega) (by omega) ?_)
    refine held_elem hs hS hlast (getD_get (d := pt0) (by omega)) ?_
    have := fin (p.pts.getD 0 pt0) (p.pts.getD (p.pts.length - 1) pt0)
    simp only [frmP, tovP, hop, hb, Bool.false_eq_true, if_false]
    exact this
end Go.Eng

/-! Contracts: travel. -/
namespace Go.Eng
open Go
variable {c : Cfg}

theorem s_ex0 {a : Value} {r : List Value} {k : Value → Prop} (h : k a) : exP 0 (.tuple (a :: r).toArray) k := ⟨a, rfl, h⟩
theorem s_ex1 {a b : Value} {r : List Value} {k : Value → Prop} (h : k b) : exP 1 (.tuple (a :: b :: r).toArray) k := ⟨b, rfl, h⟩

/-- right paths -/
structure Rights (ps : List Pth) : Prop where
  len : ps.length ≤ 200
  ne : ∀ p ∈ ps, 0 < p.pts.length
  le : ∀ p ∈ ps, p.pts.length ≤ 500
  near : ∀ p ∈ ps, ∀ x ∈ p.pts, Nearby x

theorem rights_of {ps : List Pth} (h : pathsF ps = 0) : Rights ps := by
  obtain ⟨h1, h2⟩ := pathsF_ok h
  have h3 : ∀ p ∈ ps, 0 < p.pts.length ∧ p.pts.length ≤ 500 ∧ p.pts.any farPt = false := fun p hp => by
    have := h2 p hp
    unfold pathF at this
    by_cases a1 : p.pts.length = 0
    · rw [if_pos a1] at this; cases this
    rw [if_neg a1] at this
    by_cases a2 : 500 < p.pts.length
    · rw [if_pos a2] at this; cases this
    rw [if_neg a2] at this
    by_cases a3 : p.closed = true ∧ p.pts.length < 3
    · rw [if_pos a3] at this; cases this
    rw [if_neg a3] at this
    by_cases a4 : p.pts.any farPt = true
    · rw [if_pos a4] at this; cases this
    · exact ⟨by omega, by omega, by simpa using a4⟩
  refine ⟨h1, fun p hp => (h3 p hp).1, fun p hp => (h3 p hp).2.1, fun p hp x hx => near_of ?_⟩
  have := (h3 p hp).2.2
  rw [List.any_eq_false] at this
  simpa using this x hx

theorem getD_mem {α : Type} {l : List α} {i : Nat} {d : α} (h : i < l.length) : l.getD i d ∈ l := List.mem_of_getElem? (getD_get h)

theorem near_ends {ps : List Pth} {v : Vis} (h : Rights ps) (hv : VOk ps v) : Nearby (frm ps v) ∧ Nearby (tov ps v) := by
  obtain ⟨i, hi, hil, hp⟩ := hv.get
  have hn := h.near _ (List.mem_of_getElem? hp)
  have h0 := hv.s0
  have h1 := hv.s1
  have hx : ∀ j, j < (pAt ps v.path).pts.length → Nearby ((pAt ps v.path).pts.getD j pt0) := fun j hj => hn _ (getD_mem hj)
  unfold frm tov frmP tovP
  constructor
  · split
    · exact hx _ (by omega)
    · split <;> exact hx _ (by omega)
  · split
    · exact hx _ (by omega)
    · split <;> exact hx _ (by omega)

/-- how far one travels -/
def trav (ps : List Pth) : Pt → List Vis → Int
  | _, [] => 0
  | s, v :: r => dist s (frm ps v) + trav ps (tov ps v) r
def lastPt (ps : List Pth) (s : Pt) (os : List Vis) : Pt := os.foldl (fun _ v => tov ps v) s

theorem trav_snoc (ps : List Pth) (v : Vis) : ∀ (os : List Vis) (s : Pt), trav ps s (os ++ [v]) = trav ps s os + dist (lastPt ps s os) (frm ps v)
  | [], s => by simp [trav, lastPt]
  | u :: r, s => by
    have := trav_snoc ps v r (tov ps u)
    simp only [List.cons_append, trav, this]
    simp only [lastPt, List.foldl_cons]; omega
theorem lastP_snoc (ps : List Pth) (s : Pt) (os : List Vis) (v : Vis) : lastPt ps s (os ++ [v]) = tov ps v := by simp [lastPt]
theorem near_last {ps : List Pth} (h : Rights ps) : ∀ (os : List Vis) (s : Pt), Nearby s → (∀ v ∈ os, VOk ps v) → Nearby (lastPt ps s os)
  | [], s, hs, _ => hs
  | v :: r, s, hs, ho => near_last h r (tov ps v) (near_ends h (ho v (List.mem_cons_self ..))).2 fun u hu => ho u (List.mem_cons_of_mem _ hu)
theorem trav_bound {ps : List Pth} (h : Rights ps) : ∀ (os : List Vis) (s : Pt), Nearby s → (∀ v ∈ os, VOk ps v) → 0 ≤ trav ps s os ∧ trav ps s os ≤ 200000 * os.length
  | [], s, hs, _ => by simp [trav]
  | v :: r, s, hs, ho => by
    have h1 := near_ends h (ho v (List.mem_cons_self ..))
    have h2 := trav_bound h r (tov ps v) h1.2 fun u hu => ho u (List.mem_cons_of_mem _ hu)
    have h3 := dist_bound hs h1.1
    simp only [trav, List.length_cons]; omega

def TravelSpec (c : Cfg) : Prop := ∀ (D D' : Nat → Prop) (s : Pt) (lv ov : Value) (ps : List Pth) (os : List Vis) (w : World), SlP D w lv ps → Sl D' eV w ov os → Rights ps → Nearby s → (∀ v ∈ os, VOk ps v) → os.length ≤ 1000 →
  Ret c.P c.f_path_travel #[.agg (eP s).toArray, lv, ov] w fun u w' => Keep NoB w w' ∧ u = vi (trav ps s os)
theorem travel_spec (E : Eqs c) : TravelSpec c := by
  intro D D' s lv ov ps os w hl ho hR hs hok hlen
  have hl := hl.lt
  have ho := ho.lt
  apply E.path_travel
  unfold wp_path_travel
  refine s_new (cs := eP s) fun b1 w1 hat1 hk1 hb1 hs1 => ?_
  refine (ho.keep0 hk1).len ?_
  refine s_for os.length (fun i (_ : Unit) => [vi (trav ps s (os.take i)), vi i]) (fun i _ w' => Keep NoB w w' ∧ b1 < w'.heap.size ∧ At w' b1 (eP (lastPt ps s (os.take i))) c.t_api_Point) () (by simp [trav])
    ⟨hk1, by omega, by simpa [lastPt] using hat1⟩ ?_
  rintro i _ w2 j nx ⟨hk, hbw, hat⟩ hin hnx
  refine s_lss (s_condD (fun hlt => ?_) fun hge => ?_)
  · have hil := ofInt_lt hlt
    obtain ⟨v, hv⟩ := idx_of_lt hil
    have hvo := hok v (List.mem_of_getElem? hv)
    refine (ho.keep0 hk).idx (sz := 3) (fun _ _ => rfl) hv fun b o _ _ hc => ?_
    refine s_ldA hc rfl ?_
    refine s_var rfl rfl rfl fun b2 w3 hat3 hk3 hb2 hs2 => ?_
    have hk := hk.trans hk3
    have hat := hat.keep0 hk3
    refine s_ldAAt hat3 rfl ?_
    refine (sends_spec E _ lv ps v w3 (hl.keep0 hk) hvo).mono ?_
    rintro u w4 ⟨hk4, rfl⟩
    have hk := hk.trans hk4
    have hat := hat.keep0 hk4
    have hsz4 := hk4.size
    refine s_ex0 (s_ex1 ?_)
    refine s_new (cs := [vi 0, vi 0]) fun b5 w5 hat5 hk5 hb5 hs5 => ?_
    refine s_new (cs := [vi 0, vi 0]) fun b6 w6 hat6 hk6 hb6 hs6 => ?_
    refine s_stA (vs := eP (frm ps v)) (hat5.keep0 hk6) rfl rfl rfl fun w7 hat5 hk7 hs7 => ?_
    refine s_stA (vs := eP (tov ps v)) (hat6.keep hk7 (by omega)) rfl rfl rfl fun w8 hat6 hk8 hs8 => ?_
    have hat5 := hat5.keep hk8 (by omega)
    have hat := (((hat.keep0 hk5).keep0 hk6).keep hk7 (by omega)).keep hk8 (by omega)
    have hk := (((hk.trans hk5).trans hk6).new hk7 fun i hi => .inr (by have := hk.size; omega)).new hk8 fun i hi => .inr (by have := hk.size; omega)
    have hnl := near_last hR (os.take i) s hs fun v hv => hok v (List.mem_of_mem_take hv)
    have hne := near_ends hR hvo
    refine s_ldAAt hat rfl (s_ldAAt hat5 rfl ?_)
    refine (distance_spec E _ _ w8 hnl hne.1).mono ?_
    rintro u w9 ⟨hk9, rfl⟩
    have hk := hk.trans hk9
    have hat := hat.keep0 hk9
    have hat6 := hat6.keep0 hk9
    have hsz9 := hk9.size
    have htb := trav_bound hR (os.take i) s hs fun v hv => hok v (List.mem_of_mem_take hv)
    have htl : (os.take i).length ≤ 1000 := by rw [List.length_take]; omega
    have hdb := dist_bound hnl hne.1
    refine s_add (by omega) (by omega) ?_
    refine s_ldAAt hat6 rfl ?_
    refine s_stA (vs := eP (tov ps v)) hat rfl rfl rfl fun w10 hat hk10 hs10 => ?_
    have hk := hk.new hk10 fun i hi => .inr (by omega)
    refine s_add (by omega) (by omega) ?_
    have := hnx () w10 hil ⟨hk, by omega, ?_⟩
    · rw [take_snoc hv, trav_snoc] at this
      exact this
    · rw [take_snoc hv, lastP_snoc]; exact hat
  · obtain rfl : i = os.length := by omega
    exact ⟨hk, by show vi _ = vi _; rw [List.take_length]⟩

end Go.Eng

/-! Contracts: points that are printed. -/
namespace Go.Eng
open Go
variable {c : Cfg}

theorem eP_lenS : ∀ {l : List Pt}, ∀ x ∈ l, (eP x).length = 2 := fun _ _ => rfl
theorem eV_len : ∀ {l : List Vis}, ∀ x ∈ l, (eV x).length = 3 := fun _ _ => rfl
theorem eP_one : ∀ {l : List Pt}, ∀ x ∈ l, (eP x).all Eng.one = true := fun _ _ => rfl
theorem eV_one : ∀ {l : List Vis}, ∀ x ∈ l, (eV x).all Eng.one = true := fun _ _ => rfl
theorem eI_oneS : ∀ {l : List Int}, ∀ x ∈ l, (eI x).all Eng.one = true := fun _ _ => rfl

def CloneVSpec (c : Cfg) : Prop := ∀ (D : Nat → Prop) (lv : Value) (l : List Vis) (w : World), Sl D eV w lv l → l.length ≤ 1000000 →
  Ret c.P c.f_slices_Clone_sl_api_Visit_api_Visit #[lv] w fun v w' => Grow w c.t_api_Visit 3 eV w' v l
theorem cloneV_spec (E : Eqs c) (T : Ty c) : CloneVSpec c := by
  intro D lv l w hl hb
  apply E.slices_Clone_sl_api_Visit_api_Visit
  unfold wp_slices_Clone_sl_api_Visit_api_Visit
  have hl0 := hl
  obtain ⟨a, cap, rfl, hcap, hne⟩ := hl0
  refine s_isnil T.sl_visit.und (s_cond (fun h => ?_) fun h => ?_)
  · have : l = [] := by
      cases l with
      | nil => rfl
      | cons x r => obtain ⟨b, o, rfl, _⟩ := hne (by simp); cases h
    subst this
    exact Grow.nil
  · refine s_lit (w := w) T.sl_visit [] ([] : List Vis) rfl rfl rfl eV_len (by omega) (by omega) fun b w1 hg hk _ => ?_
    exact hg.app T.sl_visit (hl.keep0 hk) eV_len eV_one (by simp; omega) fun v' w2 hg2 _ _ => by simpa using hg2

/-- the points that are printed -/
def prn (p : Pth) (v : Vis) : List Pt :=
  let r := p.pts.drop v.start.toNat ++ p.pts.take v.start.toNat
  if p.closed then r ++ r.take 1 else if v.back then r.reverse else r

theorem prn_len {p : Pth} {v : Vis} : p.pts.length ≤ (prn p v).length ∧ (prn p v).length ≤ p.pts.length + 1 := by
  unfold prn
  simp only []
  split
  · simp; omega
  · split <;> simp <;> omega

theorem prn_ends {ps : List Pth} {v : Vis} (h : VOk ps v) : (prn (pAt ps v.path) v)[0]? = some (frm ps v) ∧
    (prn (pAt ps v.path) v)[(prn (pAt ps v.path) v).length - 1]? = some (tov ps v) := by
  have h0 := h.s0
  have h1 := h.s1
  have h2 := h.cl
  have h3 := h.op
  unfold frm tov frmP tovP prn
  generalize pAt ps v.path = p at *
  obtain ⟨q, hq⟩ := Int.eq_ofNat_of_zero_le h0
  have hqt : v.start.toNat = q := by omega
  simp only []
  have hd : (p.pts.drop q)[0]? = some (p.pts.getD q pt0) := by rw [List.getElem?_drop]; exact getD_get (by omega)
  rw [hqt]
  by_cases hc : p.closed = true
  · simp only [hc, if_true]
    have hr : (p.pts.drop q ++ p.pts.take q)[0]? = some (p.pts.getD q pt0) := by rw [List.getElem?_append_left (by simp; omega)]; exact hd
    have ht : (p.pts.drop q ++ p.pts.take q).take 1 = [p.pts.getD q pt0] := by
      cases hh : p.pts.drop q ++ p.pts.take q with
      | nil => rw [hh] at hr; simp at hr
      | cons x r => rw [hh] at hr; simp at hr; simp [hr]
    rw [ht]
    constructor
    · rw [List.getElem?_append_left (by simp; omega)]; exact hr
    · rw [List.getElem?_append_right (by simp)]; simp
  · have hc : p.closed = false := by simpa using hc
    have hq0 : q = 0 := by have := h3 hc; omega
    subst hq0
    simp only [hc, Bool.false_eq_true, if_false, List.drop_zero, List.take_zero, List.append_nil]
    by_cases hb : v.back = true
    · simp only [hb, if_true]
      constructor
      · rw [List.getElem?_reverse (by omega)]; exact getD_get (by omega)
      · rw [List.length_reverse, List.getElem?_reverse (by omega)]
        rw [show p.pts.length - 1 - (p.pts.length - 1) = 0 by omega]
        exact getD_get (by omega)
    · have hb : v.back = false := by simpa using hb
      simp only [hb, Bool.false_eq_true, if_false]
      exact ⟨getD_get (by omega), getD_get (by omega)⟩

end Go.Eng

/-! Contracts: ways, choices, paths that are left. -/
namespace Go.Eng
open Go
variable {c : Cfg}

/-- the visits of a path -/
def waysL (p : Pth) (i : Int) : List Vis := if p.closed then (List.range p.pts.length).map fun (k : Nat) => ⟨i, k, false⟩ else [⟨i, 0, false⟩, ⟨i, 0, true⟩]

theorem ways_ok {ps : List Pth} (h : Rights ps) {i : Int} (h0 : 0 ≤ i) (h1 : i < ps.length) {v : Vis} (hv : v ∈ waysL (pAt ps i) i) : VOk ps v ∧ v.path = i := by
  obtain ⟨q, rfl⟩ := Int.eq_ofNat_of_zero_le h0
  have hq : q < ps.length := by omega
  obtain ⟨p, hp⟩ := idx_of_lt hq
  have hne := h.ne p (List.mem_of_getElem? hp)
  rw [pAt_get hp] at hv
  unfold waysL at hv
  by_cases hc : p.closed = true
  · rw [if_pos hc] at hv
    obtain ⟨k, hk, rfl⟩ := List.mem_map.1 hv
    rw [List.mem_range] at hk
    exact ⟨⟨h0, h1, by simp, by show (k : Int) < ((pAt ps (q : Int)).pts.length : Int); rw [pAt_get hp]; omega, fun _ => rfl, fun ho => by
      have ho : (pAt ps (q : Int)).closed = false := ho
      rw [pAt_get hp, hc] at ho; cases ho⟩, rfl⟩
  · rw [if_neg hc] at hv
    simp only [List.mem_cons, List.not_mem_nil, or_false] at hv
    rcases hv with rfl | rfl
    · exact ⟨⟨h0, h1, by simp, by show (0 : Int) < ((pAt ps (q : Int)).pts.length : Int); rw [pAt_get hp]; omega, fun _ => rfl, fun _ => rfl⟩, rfl⟩
    · exact ⟨⟨h0, h1, by simp, by show (0 : Int) < ((pAt ps (q : Int)).pts.length : Int); rw [pAt_get hp]; omega, fun ho => by
        have ho : (pAt ps (q : Int)).closed = true := ho
        rw [pAt_get hp] at ho; exact absurd ho hc, fun _ => rfl⟩, rfl⟩
theorem ways_ne {p : Pth} {i : Int} (h : 0 < p.pts.length) : 0 < (waysL p i).length := by
  unfold waysL; split
  · simpa using h
  · simp

/-- a visit with its ends -/
structure Cho where
  v : Vis
  a : Pt
  b : Pt
def eC (x : Cho) : List Value := [vi x.v.path, vi x.v.start, .bool x.v.back, vi x.a.x, vi x.a.y, vi x.b.x, vi x.b.y]
theorem eC_len : ∀ {l : List Cho}, ∀ x ∈ l, (eC x).length = 7 := fun _ _ => rfl
theorem eC_one : ∀ {l : List Cho}, ∀ x ∈ l, (eC x).all Eng.one = true := fun _ _ => rfl
def cho (ps : List Pth) (v : Vis) : Cho := ⟨v, frm ps v, tov ps v⟩
def choL (ps : List Pth) (i : Int) : List Cho := (waysL (pAt ps i) i).map (cho ps)

theorem s_buildCho (T : Ty c) (v : Vis) (a b : Pt) {k : Value → Prop} (h : k (.agg (eC ⟨v, a, b⟩).toArray)) :
    pureP c.P (Instr.build c.t_path_choice #[(0, .agg (eV v).toArray), (1, .agg (eP a).toArray), (2, .agg (eP b).toArray)]) k :=
  s_build T.st_choice (cells := eC ⟨v, a, b⟩) rfl h

def ChoicesSpec (c : Cfg) : Prop := ∀ (D : Nat → Prop) (lv : Value) (ps : List Pth) (i : Nat) (w : World), SlP D w lv ps → i < ps.length → Rights ps →
  Ret c.P c.f_path_choices #[lv, vi i] w fun u w' => Grow w c.t_path_choice 7 eC w' u (choL ps i)
theorem choices_spec (E : Eqs c) (T : Ty c) : ChoicesSpec c := by
  intro D lv ps i w hl hil hR
  have hl := hl.lt
  obtain ⟨p, hp⟩ := idx_of_lt hil
  have hple := hR.le p (List.mem_of_getElem? hp)
  have hok : ∀ v ∈ waysL p i, VOk ps v := fun v hv => (ways_ok (i := (i : Int)) hR (by omega) (by omega) (by rw [pAt_get hp]; exact hv)).1
  apply E.path_choices
  unfold wp_path_choices choL
  rw [pAt_get hp]
  have hwl : (waysL p i).length ≤ 502 := by unfold waysL; split <;> simp; omega
  refine hl.idx hp fun b o hd _ _ hc hs => s_off (s_ldC (i := 1) hc rfl ?_)
  refine s_joinM (fun vs w' => ∃ u, vs = [u] ∧ Grow w c.t_api_Visit 3 eV w' u (waysL p i)) ?_ ?_
  · refine s_cond (fun h => ?_) fun h => ?_
    · have hwe : waysL p i = (List.range p.pts.length).map fun (k : Nat) => (⟨i, k, false⟩ : Vis) := by unfold waysL; rw [if_pos h]
      rw [hwe]
      refine hl.idx hp fun b o hd _ _ hc hs => s_off (s_ldC (i := 0) hc rfl (hs.len ?_))
      refine s_for p.pts.length (fun k (u : Value) => [u, vi k]) (fun k u w' => Grow w c.t_api_Visit 3 eV w' u ((List.range k).map fun (k : Nat) => ⟨i, k, false⟩)) (.slice none 0 0) rfl Grow.nil ?_
      rintro k u w1 j nx hg hin hnx
      refine s_lss (s_condD (fun hlt => ?_) fun hge => ?_)
      · have hkl := ofInt_lt hlt
        refine s_build T.st_visit (cells := eV ⟨i, k, false⟩) rfl ?_
        refine hg.push T.sl_visit (y := (⟨i, k, false⟩ : Vis)) rfl rfl rfl (by simp; omega) (by omega) fun v' w2 hg2 _ _ => ?_
        refine s_add (by omega) (by omega) (hnx v' w2 hkl ?_)
        rw [List.range_succ, List.map_append]; exact hg2
      · obtain rfl : k = p.pts.length := by omega
        exact ⟨u, rfl, hg⟩
    · have hwe : waysL p i = [⟨i, 0, false⟩, ⟨i, 0, true⟩] := by unfold waysL; rw [if_neg (by rw [h]; simp)]
      rw [hwe]
      refine s_build T.st_visit (cells := eV ⟨i, 0, false⟩) rfl ?_
      refine s_build T.st_visit (cells := eV ⟨i, 0, true⟩) rfl ?_
      exact s_lit (w := w) T.sl_visit [.agg (eV ⟨i, 0, false⟩).toArray, .agg (eV ⟨i, 0, true⟩).toArray] [(⟨i, 0, false⟩ : Vis), ⟨i, 0, true⟩] rfl rfl rfl eV_len (by omega) (by omega) fun b w1 hg _ _ => ⟨_, rfl, hg⟩
  rintro vs j w1 ⟨lw, rfl, hgw⟩
  have hkw := hgw.keep
  refine hgw.sl.len ?_
  refine s_for (waysL p i).length (fun k (u : Value) => [u, vi k]) (fun k u w' => Grow w1 c.t_path_choice 7 eC w' u (((waysL p i).take k).map (cho ps))) (.slice none 0 0) rfl Grow.nil ?_
  rintro k u w2 j nx hg hin hnx
  refine s_lss (s_condD (fun hlt => ?_) fun hge => ?_)
  · have hkl := ofInt_lt hlt
    obtain ⟨v, hv⟩ := idx_of_lt hkl
    have hvo := hok v (List.mem_of_getElem? hv)
    have hk := hkw.trans hg.keep
    refine (hgw.sl.keep0 hg.keep).idx (sz := 3) eV_len hv fun b o _ _ hc => s_ldA hc rfl ?_
    refine s_var rfl rfl rfl fun b2 w3 hat3 hk3 hb2 hs2 => ?_
    refine s_ldAAt hat3 rfl ?_
    refine (sends_spec E _ lv ps v w3 (hl.keep0 (hk.trans hk3)) hvo).mono ?_
    rintro u4 w4 ⟨hk4, rfl⟩
    refine s_ex0 (s_ex1 ?_)
    have hat3 := hat3.keep0 hk4
    have hsz4 := hk4.size
    refine s_new (cs := [vi 0, vi 0]) fun b5 w5 hat5 hk5 hb5 hs5 => ?_
    refine s_new (cs := [vi 0, vi 0]) fun b6 w6 hat6 hk6 hb6 hs6 => ?_
    refine s_stA (vs := eP (frm ps v)) (hat5.keep0 hk6) rfl rfl rfl fun w7 hat5 hk7 hs7 => ?_
    refine s_stA (vs := eP (tov ps v)) (hat6.keep hk7 (by omega)) rfl rfl rfl fun w8 hat6 hk8 hs8 => ?_
    have hat5 := hat5.keep hk8 (by omega)
    have hat3 := (((hat3.keep0 hk5).keep0 hk6).keep hk7 (by omega)).keep hk8 (by omega)
    have hg4 := ((hg.step hk3).step hk4)
    have hgl : ∀ b, inV u b → b < w4.heap.size := fun b hb => hg4.lt hb
    have hsz1 := hg4.keep.size
    have hg8 : Grow w1 c.t_path_choice 7 eC w8 u (((waysL p i).take k).map (cho ps)) :=
      ((((hg4.step hk5).step hk6).stepM hk7 (fun b hb => by omega) fun b hb h => by have := hgl b hb; omega).stepM hk8 (fun b hb => by omega) fun b hb h => by have := hgl b hb; omega)
    refine s_ldAAt hat3 rfl (s_ldAAt hat5 rfl (s_ldAAt hat6 rfl ?_))
    refine s_buildCho T v _ _ ?_
    refine hg8.push T.sl_choice (y := cho ps v) rfl rfl rfl (by rw [List.length_map, List.length_take]; omega) (by omega) fun v' w9 hg9 _ _ => ?_
    refine s_add (by omega) (by omega) (hnx v' w9 hkl ?_)
    rw [take_snoc hv, List.map_append]; exact hg9
  · obtain rfl : k = (waysL p i).length := by omega
    rw [List.take_length] at hg
    exact hg.back hkw

/-! ### paths that are left -/
def leftL (n : Nat) (os : List Vis) : List Int := ((List.range n).map fun (i : Nat) => (i : Int)).filter fun i => !os.any fun v => decide (v.path = i)

end Go.Eng

/-! Plain facts: what is left, what is nearest. -/
namespace Go.Eng
open Go

theorem mem_leftL {n : Nat} {o : List Vis} {i : Int} : i ∈ leftL n o ↔ (0 ≤ i ∧ i < n) ∧ ∀ v ∈ o, v.path ≠ i := by
  unfold leftL
  rw [List.mem_filter]
  constructor
  · rintro ⟨h1, h2⟩
    obtain ⟨k, hk, rfl⟩ := List.mem_map.1 h1
    rw [List.mem_range] at hk
    refine ⟨by omega, fun v hv h => ?_⟩
    have : (o.any fun v => decide (v.path = (k : Int))) = true := List.any_eq_true.2 ⟨v, hv, by simpa using h⟩
    rw [this] at h2; cases h2
  · rintro ⟨⟨h0, h1⟩, h2⟩
    obtain ⟨k, rfl⟩ := Int.eq_ofNat_of_zero_le h0
    refine ⟨List.mem_map.2 ⟨k, by rw [List.mem_range]; omega, rfl⟩, ?_⟩
    have : (o.any fun v => decide (v.path = (k : Int))) = false := by
      rw [List.any_eq_false]
      intro v hv; simpa using h2 v hv
    rw [this]; rfl

theorem leftL_snoc (n : Nat) (o : List Vis) (v : Vis) : leftL n (o ++ [v]) = (leftL n o).filter fun i => i != v.path := by
  unfold leftL
  rw [List.filter_filter]
  congr 1
  funext i
  rw [List.any_append]
  by_cases h : v.path = i
  · simp [h]
  · have h' : i ≠ v.path := fun e => h e.symm
    simp [h, h']

theorem range_nodup (n : Nat) : ((List.range n).map fun (i : Nat) => (i : Int)).Nodup := by
  rw [List.nodup_iff_pairwise_ne, List.pairwise_map]
  exact (List.nodup_range (n := n)).imp fun h e => h (by omega)
theorem leftL_nodup (n : Nat) (o : List Vis) : (leftL n o).Nodup := (range_nodup n).filter _
theorem leftL_len_snoc {n : Nat} {o : List Vis} {v : Vis} (h : v.path ∈ leftL n o) : (leftL n (o ++ [v])).length + 1 = (leftL n o).length := by
  rw [leftL_snoc, ← (leftL_nodup n o).erase_eq_filter, List.length_erase_of_mem h]
  have := List.length_pos_of_mem h
  omega
theorem leftL_nil (n : Nat) : leftL n [] = (List.range n).map fun (i : Nat) => (i : Int) := by
  unfold leftL
  rw [List.filter_eq_self]
  intro a _; rfl

/-- the first visit that is least -/
def nst {α : Type} (f : α → Int) (b : Option α) (v : α) : Option α := match b with
  | none => some v
  | some u => if f v < f u then some v else some u
section
variable {α β : Type}
theorem nst_mem {f : α → Int} : ∀ (vs : List α) (b : Option α) (u : α), vs.foldl (nst f) b = some u → u ∈ vs ∨ b = some u
  | [], b, u, h => .inr h
  | v :: r, b, u, h => by
    rcases nst_mem r _ u h with h | h
    · exact .inl (List.mem_cons_of_mem _ h)
    · unfold nst at h
      split at h
      · cases h; exact .inl (List.mem_cons_self ..)
      · split at h
        · cases h; exact .inl (List.mem_cons_self ..)
        · exact .inr h
theorem nst_some {f : α → Int} : ∀ (vs : List α) (u : α), ∃ u', vs.foldl (nst f) (some u) = some u'
  | [], u => ⟨u, rfl⟩
  | v :: r, u => by
    simp only [List.foldl_cons, nst]
    split
    · exact nst_some r v
    · exact nst_some r u
theorem pick_some {f : α → Int} {vs : List α} (h : vs ≠ []) : ∃ u, vs.foldl (nst f) none = some u ∧ u ∈ vs := by
  cases vs with
  | nil => exact absurd rfl h
  | cons v r =>
    obtain ⟨u, hu⟩ := nst_some (f := f) r v
    have hu : (v :: r).foldl (nst f) none = some u := hu
    refine ⟨u, hu, ?_⟩
    rcases nst_mem _ _ _ hu with h | h
    · exact h
    · cases h
theorem nst_map (f : β → Int) (g : α → β) : ∀ (l : List α) (b : Option α), (l.map g).foldl (nst f) (b.map g) = (l.foldl (nst fun a => f (g a)) b).map g
  | [], b => rfl
  | a :: r, b => by
    have : nst f (b.map g) (g a) = (nst (fun a => f (g a)) b a).map g := by
      cases b with
      | none => rfl
      | some u => simp only [Option.map_some, nst]; split <;> rfl
    rw [List.map_cons, List.foldl_cons, List.foldl_cons, this]
    exact nst_map f g r _
theorem nst_congr {f g : α → Int} : ∀ (l : List α) (b : Option α), (∀ a ∈ l, f a = g a) → (∀ u, b = some u → f u = g u) → l.foldl (nst f) b = l.foldl (nst g) b
  | [], b, _, _ => rfl
  | a :: r, b, h, hb => by
    have ha := h a (List.mem_cons_self ..)
    have : nst f b a = nst g b a := by
      cases b with
      | none => rfl
      | some u => simp only [nst, ha, hb u rfl]
    rw [List.foldl_cons, List.foldl_cons, this]
    refine nst_congr r _ (fun x hx => h x (List.mem_cons_of_mem _ hx)) fun u hu => ?_
    unfold nst at hu
    split at hu
    · cases hu; exact ha
    · split at hu
      · cases hu; exact ha
      · exact hb u hu
/-- a list by its indices -/
theorem list_range (l : List α) (d : α) : l = (List.range l.length).map fun k => l.getD k d := by
  apply List.ext_getElem?
  intro i
  rw [List.getElem?_map]
  by_cases h : i < l.length
  · rw [List.getElem?_range h, getD_get (d := d) h]; rfl
  · rw [List.getElem?_eq_none (by omega), List.getElem?_eq_none (by simp; omega)]; rfl
/-- the least of a list, by its index -/
theorem nst_range (l : List α) (d : α) (f : α → Int) (q : α → Bool) : (l.filter q).foldl (nst f) none = (((List.range l.length).filter fun k => q (l.getD k d)).foldl (nst fun k => f (l.getD k d)) none).map fun k => l.getD k d := by
  conv => lhs; rw [list_range l d, List.filter_map]
  exact nst_map f (fun k => l.getD k d) _ none
end

theorem foldl_flat {α β γ : Type} (f : γ → β → γ) (g : α → List β) : ∀ (l : List α) (x : γ), (l.flatMap g).foldl f x = l.foldl (fun x a => (g a).foldl f x) x
  | [], _ => rfl
  | a :: r, x => by rw [List.flatMap_cons, List.foldl_append, foldl_flat f g r]; rfl

/-- all that can be visited next -/
def cand (ps : List Pth) (o : List Vis) : List Vis := (leftL ps.length o).flatMap fun i => waysL (pAt ps i) i
def v0 : Vis := ⟨0, 0, false⟩
/-- so many visits, each to what is nearest -/
def nearN (ps : List Pth) (s : Pt) : Nat → List Vis
  | 0 => []
  | k + 1 => nearN ps s k ++ [((cand ps (nearN ps s k)).foldl (nst fun v => dist (lastPt ps s (nearN ps s k)) (frm ps v)) none).getD v0]

theorem nearN_facts {ps : List Pth} (hR : Rights ps) (s : Pt) : ∀ k, k ≤ ps.length → (nearN ps s k).length = k ∧ (∀ v ∈ nearN ps s k, VOk ps v) ∧ (leftL ps.length (nearN ps s k)).length + k = ps.length
  | 0, _ => ⟨rfl, by simp [nearN], by simp [nearN, leftL_nil]⟩
  | k + 1, hk => by
    obtain ⟨h1, h2, h3⟩ := nearN_facts hR s k (by omega)
    have hne : cand ps (nearN ps s k) ≠ [] := by
      cases hl : leftL ps.length (nearN ps s k) with
      | nil => rw [hl] at h3; simp at h3; omega
      | cons i r =>
        have hi : i ∈ leftL ps.length (nearN ps s k) := by rw [hl]; exact List.mem_cons_self ..
        obtain ⟨⟨i0, i1⟩, _⟩ := mem_leftL.1 hi
        obtain ⟨q, rfl⟩ := Int.eq_ofNat_of_zero_le i0
        obtain ⟨p, hp⟩ := idx_of_lt (show q < ps.length by omega)
        have := ways_ne (p := p) (i := q) (hR.ne p (List.mem_of_getElem? hp))
        unfold cand
        rw [hl, List.flatMap_cons, pAt_get hp]
        intro h
        rw [(List.append_eq_nil_iff.1 h).1] at this
        simp at this
    obtain ⟨u, hu, hm⟩ := pick_some (f := fun v => dist (lastPt ps s (nearN ps s k)) (frm ps v)) hne
    unfold cand at hm
    obtain ⟨i, hi, hui⟩ := List.mem_flatMap.1 hm
    obtain ⟨⟨i0, i1⟩, _⟩ := mem_leftL.1 hi
    obtain ⟨hok, hpath⟩ := ways_ok hR i0 i1 hui
    simp only [nearN, hu, Option.getD_some]
    refine ⟨by simp [h1], fun v hv => ?_, ?_⟩
    · rcases List.mem_append.1 hv with h | h
      · exact h2 v h
      · simp at h; rw [h]; exact hok
    · have := leftL_len_snoc (n := ps.length) (o := nearN ps s k) (v := u) (by rw [hpath]; exact hi)
      omega

/-- the state of a search for what is nearest -/
def leastOf {α : Type} (f : α → Int) (b : Option α) : Int := match b with
  | none => -1
  | some u => f u
/-- the same, with 0 for nothing -/
def least0 {α : Type} (f : α → Int) (b : Option α) : Int := match b with
  | none => 0
  | some u => f u
end Go.Eng

/-! Plain facts: exchanges that make the travel less. -/
namespace Go.Eng
open Go

/-- two visits in each other's place -/
def swp (o : List Vis) (i k : Nat) : List Vis := (o.set i (o.getD k ⟨0, 0, false⟩)).set k (o.getD i ⟨0, 0, false⟩)
theorem swp_len (o : List Vis) (i k : Nat) : (swp o i k).length = o.length := by simp [swp]
theorem swp_mem {o : List Vis} {i k : Nat} (hi : i < o.length) (hk : k < o.length) : ∀ v ∈ swp o i k, v ∈ o := fun v hv => by
  unfold swp at hv
  rcases List.mem_or_eq_of_mem_set hv with h | rfl
  · rcases List.mem_or_eq_of_mem_set h with h | rfl
    · exact h
    · exact getD_mem hk
  · exact getD_mem hi
theorem swp_swp {o : List Vis} {i k : Nat} (hi : i < o.length) (hk : k < o.length) : swp (swp o i k) i k = o := by
  apply List.ext_getElem?
  intro j
  have e1 := getD_get (d := (⟨0, 0, false⟩ : Vis)) hi
  have e2 := getD_get (d := (⟨0, 0, false⟩ : Vis)) hk
  unfold swp
  generalize o.getD i ⟨0, 0, false⟩ = x at *
  generalize o.getD k ⟨0, 0, false⟩ = y at *
  have g1 : ((o.set i y).set k x).getD k ⟨0, 0, false⟩ = x := by simp [List.getD, hk]
  have g2 : ((o.set i y).set k x).getD i ⟨0, 0, false⟩ = y := by
    by_cases hik : k = i
    · subst hik
      rw [e1] at e2; cases e2
      simp [List.getD, hk]
    · simp [List.getD, hik, hi, List.getElem?_set]
  rw [g1, g2]
  simp only [List.getElem?_set, List.length_set]
  by_cases h1 : k = j
  · subst h1; rw [if_pos rfl, if_pos hk, e2]
  · by_cases h2 : i = j
    · subst h2; rw [if_neg h1, if_pos rfl, if_pos hi, e1]
    · simp [h1, h2]

def Better (ps : List Pth) (s : Pt) (o : List Vis) (i k : Nat) : Prop := trav ps s (swp o i k) < trav ps s o
def Step (ps : List Pth) (s : Pt) (o o' : List Vis) : Prop :=
  ∃ i k, i < k ∧ k < o.length ∧ Better ps s o i k ∧ (∀ i' k', i' < k' → k' < o.length → (i' < i ∨ (i' = i ∧ k' < k)) → ¬ Better ps s o i' k') ∧ o' = swp o i k
def Stuck (ps : List Pth) (s : Pt) (o : List Vis) : Prop := ∀ i k, i < k → k < o.length → ¬ Better ps s o i k
inductive Imp (ps : List Pth) (s : Pt) : List Vis → List Vis → Prop where
  | done {o : List Vis} : Stuck ps s o → Imp ps s o o
  | step {o o' r : List Vis} : Step ps s o o' → Imp ps s o' r → Imp ps s o r

theorem Step.eq {ps : List Pth} {s : Pt} {o a b : List Vis} (ha : Step ps s o a) (hb : Step ps s o b) : a = b := by
  obtain ⟨i, k, h1, h2, h3, h4, rfl⟩ := ha
  obtain ⟨i', k', g1, g2, g3, g4, rfl⟩ := hb
  have c1 : ¬ (i' < i ∨ (i' = i ∧ k' < k)) := fun h => h4 i' k' g1 g2 h g3
  have c2 : ¬ (i < i' ∨ (i = i' ∧ k < k')) := fun h => g4 i k h1 h2 h h3
  have : i = i' ∧ k = k' := by omega
  rw [this.1, this.2]
theorem Step.not {ps : List Pth} {s : Pt} {o a : List Vis} (ha : Step ps s o a) (hb : Stuck ps s o) : False := by
  obtain ⟨i, k, h1, h2, h3, h4, rfl⟩ := ha
  exact hb i k h1 h2 h3
theorem Imp.eq {ps : List Pth} {s : Pt} {o a b : List Vis} (ha : Imp ps s o a) (hb : Imp ps s o b) : a = b := by
  induction ha with
  | done h =>
    cases hb with
    | done _ => rfl
    | step h' _ => exact (h'.not h).elim
  | step h _ ih =>
    cases hb with
    | done h' => exact (h.not h').elim
    | step h' g => rw [← h.eq h'] at g; exact ih g
theorem Step.len {ps : List Pth} {s : Pt} {o a : List Vis} (h : Step ps s o a) : a.length = o.length := by
  obtain ⟨i, k, h1, h2, h3, h4, rfl⟩ := h; exact swp_len _ _ _
theorem Step.mem {ps : List Pth} {s : Pt} {o a : List Vis} (h : Step ps s o a) : ∀ v ∈ a, v ∈ o := by
  obtain ⟨i, k, h1, h2, h3, h4, rfl⟩ := h; exact swp_mem (by omega) h2
theorem Step.lt {ps : List Pth} {s : Pt} {o a : List Vis} (h : Step ps s o a) : trav ps s a < trav ps s o := by
  obtain ⟨i, k, h1, h2, h3, h4, rfl⟩ := h; exact h3
end Go.Eng

/-! Contracts: the search over all orders. -/
namespace Go.Eng
open Go
variable {c : Cfg}

/-- one try, as the search's inner function does it: what is best so far, and how long it is (below 0: nothing) -/
def tryF (ps : List Pth) (nx : List Vis → List Int) : Nat → List Vis → Pt → Int → List Vis × Int → List Vis × Int
  | 0, o, _, sum, st => if 0 ≤ st.2 ∧ st.2 ≤ sum then st else (o, sum)
  | f + 1, o, at_, sum, st => if 0 ≤ st.2 ∧ st.2 ≤ sum then st else
      (nx o).foldl (fun st i => (waysL (pAt ps i) i).foldl (fun st v => tryF ps nx f (o ++ [v]) (tov ps v) (sum + dist at_ (frm ps v)) st) st) st

/-- what is next is told -/
def NextOk (c : Cfg) (w0 : World) (M D : Nat → Prop) (fv : Value) (ps : List Pth) (many : Nat) (nx : List Vis → List Int) : Prop :=
  ∀ (w : World) (ov : Value) (o : List Vis), Keep M w0 w → Sl D eV w ov o → (∀ v ∈ o, VOk ps v) → o.length < many →
    (∀ i ∈ nx o, 0 ≤ i ∧ i < ps.length) ∧ callV c.P fv #[ov] w fun u w' => Keep NoB w w' ∧ Sl D eI w' u (nx o)

/-- what is best so far -/
def SBest (w : World) (D : Nat → Prop) (bL bB : Nat) (st : List Vis × Int) : Prop :=
  (∃ ty, At w bL [vi st.2] ty) ∧ ∃ ty bv, At w bB [bv] ty ∧ Sl D eV w bv st.1

theorem SBest.keep {w w' : World} {D M : Nat → Prop} {bL bB : Nat} {st : List Vis × Int} (h : SBest w D bL bB st) (k : Keep M w w') (h1 : ¬ M bL) (h2 : ¬ M bB) (h3 : ∀ b, D b → ¬ M b) : SBest w' D bL bB st := by
  obtain ⟨⟨ty, ha⟩, ty2, bv, hb, hs⟩ := h
  exact ⟨⟨ty, ha.keep k h1⟩, ty2, bv, hb.keep k h2, hs.keep k h3⟩
theorem SBest.keep0 {w w' : World} {D : Nat → Prop} {bL bB : Nat} {st : List Vis × Int} (h : SBest w D bL bB st) (k : Keep NoB w w') : SBest w' D bL bB st := h.keep k (fun h => h) (fun h => h) fun _ _ h => h

end Go.Eng

/-! Contracts: the references of Best and Begun. -/
namespace Go.Eng
open Go
variable {c : Cfg}

theorem SlP.cells {D : Nat → Prop} {w : World} {v : Value} {l : List Pth} (h : SlP D w v l) : Value.cells v = [v].toArray := by
  obtain ⟨cs, h1, ⟨a, cap, rfl, _⟩, h3⟩ := h; rfl
theorem Sl.cells {α : Type} {D : Nat → Prop} {enc : α → List Value} {w : World} {v : Value} {l : List α} (h : Sl D enc w v l) : Value.cells v = [v].toArray := by
  obtain ⟨a, cap, rfl, _⟩ := h; rfl

theorem leftL_range {n : Nat} {os : List Vis} : ∀ i ∈ leftL n os, 0 ≤ i ∧ i < n := fun i hi => by
  unfold leftL at hi
  obtain ⟨h1, _⟩ := List.mem_filter.1 hi
  obtain ⟨k, hk, rfl⟩ := List.mem_map.1 h1
  rw [List.mem_range] at hk
  omega

/-- what the search of the best order finds -/
def bestS (ps : List Pth) (s : Pt) : List Vis × Int := tryF ps (leftL ps.length) ps.length [] s 0 ([], -1)

/-- what the search of an order that is begun finds -/
def nextI (order : List Int) (o : List Vis) : List Int := (order.take (o.length + 1)).drop o.length
def begunS (ps : List Pth) (order : List Int) (s : Pt) : List Vis × Int := tryF ps (nextI order) ps.length [] s 0 ([], -1)

end Go.Eng

/-! Contracts: the nearest path. -/
namespace Go.Eng
open Go
variable {c : Cfg}

theorem Rights.le_at {ps : List Pth} (h : Rights ps) {v : Vis} (hv : VOk ps v) : (pAt ps v.path).pts.length ≤ 500 := by
  obtain ⟨_, _, _, hp⟩ := hv.get
  exact h.le _ (List.mem_of_getElem? hp)

end Go.Eng

/-! Contract: the program's nearest path. -/
namespace Go.Eng
open Go
variable {c : Cfg}

theorem leftL_succ (i : Nat) (o : List Vis) : leftL (i + 1) o = leftL i o ++ (if o.any (fun v => decide (v.path = (i : Int))) then [] else [(i : Int)]) := by
  unfold leftL
  rw [List.range_succ, List.map_append, List.filter_append]
  congr 1
  simp only [List.map_cons, List.map_nil, List.filter_cons, List.filter_nil]
  by_cases h : o.any (fun v => decide (v.path = (i : Int))) = true
  · simp [h]
  · have h : o.any (fun v => decide (v.path = (i : Int))) = false := by simpa using h
    simp [h]

theorem At.sub {w : World} {b o : Nat} {cs L : List Value} {ty : TypeId} (h : At w b cs ty) (hs : ∀ (j : Nat) v, L[j]? = some v → cs[o + j]? = some v) : Cells w b o L :=
  fun j v hj => by rw [h.cell]; exact hs j v hj
theorem cho_v {w : World} {b : Nat} {x : Cho} {ty : TypeId} (h : At w b (eC x) ty) : Cells w b 0 (eV x.v) := h.sub fun j v hj => by
  rcases j with _ | _ | _ | j <;> first | exact hj | simp [eV] at hj
theorem cho_a {w : World} {b : Nat} {x : Cho} {ty : TypeId} (h : At w b (eC x) ty) : Cells w b 3 (eP x.a) := h.sub fun j v hj => by
  rcases j with _ | _ | j <;> first | exact hj | simp [eP] at hj
theorem cho_b {w : World} {b : Nat} {x : Cho} {ty : TypeId} (h : At w b (eC x) ty) : Cells w b 5 (eP x.b) := h.sub fun j v hj => by
  rcases j with _ | _ | j <;> first | exact hj | simp [eP] at hj

def cho0 : Cho := ⟨v0, pt0, pt0⟩

/-- what a function that gives an order tells -/
def Gives (w : World) (f : Int) (os : List Vis) (n : Int) (u : Value) (w' : World) : Prop :=
  Keep NoB w w' ∧ (f ≠ 0 → u = .tuple #[.slice none 0 0, vi 0, vi f]) ∧ (f = 0 → ∃ bv, u = .tuple #[bv, vi n, vi 0] ∧ Sl (Fresh w) eV w' bv os)

theorem nearest_spec (E : Eqs c) (T : Ty c) {D : Nat → Prop} {lv : Value} {ps : List Pth} {s : Pt} {w : World} (hl : SlP D w lv ps) :
    Ret c.P c.f_path_Nearest #[.agg (eP s).toArray, lv] w fun u w' => Gives w (startF s (pathsF ps)) (nearN ps s ps.length) (trav ps s (nearN ps s ps.length)) u w' := by
  have hl := hl.lt
  obtain ⟨e, hT⟩ := T.sl_bool
  apply E.path_Nearest
  unfold wp_path_Nearest
  refine s_new (cs := eP s) fun b2 w1 hat2 hk1 hb2 hs2 => ?_
  refine s_ldAAt hat2 rfl ?_
  refine (startPaths_spec E _ s lv ps w1 (hl.keep0 hk1)).mono ?_
  rintro u w2 ⟨hk2, rfl⟩
  have hk02 := hk1.trans hk2
  refine s_neq (s_condD (fun h => ⟨hk02, fun _ => rfl, fun h' => absurd h' h⟩) fun h => ?_)
  have h : startF s (pathsF ps) = 0 := by omega
  obtain ⟨hs, hR⟩ : Nearby s ∧ Rights ps := by
    unfold startF at h
    by_cases hf : farPt s = true
    · rw [if_pos hf] at h; cases h
    · rw [if_neg hf] at h; exact ⟨near_of (by simpa using hf), rights_of h⟩
  have hRl := hR.len
  have hl2 := hl.keep0 hk02
  refine hl2.len (s_mkslice hT (by omega) fun b24 w3 hat24 hk3 hb24 hs24 => ?_)
  have hsn := seen_new hat24
  have hat2 := (hat2.keep0 hk2).keep0 hk3
  refine s_ldAAt hat2 rfl ?_
  refine s_var rfl rfl rfl fun b10 w5 hat10 hk5 hb10 hs10 => ?_
  have hat2 := hat2.keep0 hk5
  have hk05 := (hk02.trans hk3).trans hk5
  have hsz2 := hk02.size
  have hb2lt : b2 < w5.heap.size := by have := hk2.size; omega
  have hb2ge : w.heap.size ≤ b2 := by omega
  have hb2n : b2 < w2.heap.size := by have := hk2.size; omega
  refine (hl.keep0 hk05).len ?_
  refine s_for ps.length (fun k (u : Value) => [u, vi k]) (fun k u w' => Keep NoB w w' ∧ w5.heap.size ≤ w'.heap.size ∧ Ow (Fresh w5) c.t_api_Visit 3 eV w' u (nearN ps s k) ∧
      At w' b10 (eP (lastPt ps s (nearN ps s k))) c.t_api_Point ∧ Seen w' b24 ps.length e (fun q => (nearN ps s k).any fun v => decide (v.path = (q : Int))) ∧ At w' b2 (eP s) c.t_api_Point) (.slice none 0 0) rfl
    ⟨hk05, Nat.le_refl _, Ow.nil, by simpa [lastPt, nearN] using hat10, At.keep0 hsn hk5, hat2⟩ ?_
  rintro k u w6 j nx ⟨hk, hsz, hou, hat10, hsn, hat2⟩ hkn hnx
  obtain ⟨hnl, hnok, hleft⟩ := nearN_facts hR s k hkn
  have hnear := near_last hR (nearN ps s k) s hs hnok
  have hl6 := hl.keep0 hk
  refine s_lss (s_condD (fun hlt => ?_) fun hge => ?_)
  rotate_left
  · obtain rfl : k = ps.length := by omega
    refine s_ldAAt hat2 rfl ?_
    refine (travel_spec E _ _ s lv u ps _ w6 hl6 hou.sl hR hs hnok (by omega)).mono ?_
    rintro v w7 ⟨hk7, rfl⟩
    exact ⟨hk.trans hk7, fun h' => absurd h h', fun _ => ⟨u, rfl, (hou.sl.keep0 hk7).dom fun b hb => by have hb : w5.heap.size ≤ b := hb; show w.heap.size ≤ b; omega⟩⟩
  have hklt := ofInt_lt hlt
  have hin : ∀ b, inV u b → w5.heap.size ≤ b ∧ b < w6.heap.size := fun b hb => ⟨Own.inD hou hb, Own.inLt hou hb⟩
  refine s_new (cs := eC cho0) fun b11 w7 hat11 hk7 hb11 hs11 => ?_
  have hou7 := hou.keep0 hk7
  have hat10 := hat10.keep0 hk7
  have hat2 := hat2.keep0 hk7
  have hsn : Seen w7 b24 _ e _ := At.keep0 hsn hk7
  have hl7 := hl6.keep0 hk7
  have hn1 : nearN ps s (k + 1) = nearN ps s k ++ [((cand ps (nearN ps s k)).foldl (nst fun v => dist (lastPt ps s (nearN ps s k)) (frm ps v)) none).getD v0] := rfl
  obtain ⟨_, hok1, hleft1⟩ := nearN_facts hR s (k + 1) (by omega)
  generalize ho : nearN ps s k = o at *
  generalize hf : (fun v => dist (lastPt ps s o) (frm ps v)) = f at hn1
  have hfd : ∀ v, dist (lastPt ps s o) (frm ps v) = f v := fun v => by rw [← hf]
  have hcand : cand ps o = (leftL ps.length o).flatMap fun i => waysL (pAt ps i) i := rfl
  have hWok : ∀ i : Int, 0 ≤ i → i < ps.length → ∀ v ∈ waysL (pAt ps i) i, VOk ps v := fun i h0 h1 v hv => (ways_ok hR h0 h1 hv).1
  have hpre : ∀ i, i ≤ ps.length → ∀ v ∈ (leftL i o).flatMap (fun i => waysL (pAt ps i) i), VOk ps v := fun i hi v hv => by
    obtain ⟨x, hx, hv⟩ := List.mem_flatMap.1 hv
    have := leftL_range x hx
    exact hWok x this.1 (by omega) v hv
  have hstok : ∀ (l : List Vis), (∀ v ∈ l, VOk ps v) → ∀ u, l.foldl (nst f) none = some u → VOk ps u := fun l hl u hu => by
    rcases nst_mem _ _ _ hu with h | h
    · exact hl u h
    · cases h
  have hMlv : ∀ b, Old w b → ¬ (b = b11) := fun b hb h => by have hb : b < w.heap.size := hb; have := hk.size; omega
  have hsz6 := hk.size
  refine hl7.len ?_
  refine s_for ps.length (fun i (_ : Unit) => [.bool (((leftL i o).flatMap fun i => waysL (pAt ps i) i).foldl (nst f) none).isSome, vi i])
    (fun i _ w' => Keep (· = b11) w7 w' ∧ At w' b11 (eC (((((leftL i o).flatMap fun i => waysL (pAt ps i) i).foldl (nst f) none).map (cho ps)).getD cho0)) c.t_path_choice) () rfl
    ⟨Keep.refl _ _, hat11⟩ ?_
  rintro i _ w8 j1 nx1 ⟨hk8, hat11⟩ hin1 hnx1
  have hsz8 := hk8.size
  refine s_lss (s_condD (fun hlt1 => ?_) fun hge1 => ?_)
  · have hil := ofInt_lt hlt1
    have hsn8 : Seen w8 b24 _ e _ := At.keep hsn hk8 (by omega)
    have hgo1 : ∀ (st : Option Vis) (w' : World), st = ((leftL (i + 1) o).flatMap fun i => waysL (pAt ps i) i).foldl (nst f) none → Keep (· = b11) w7 w' → At w' b11 (eC ((st.map (cho ps)).getD cho0)) c.t_path_choice →
        binP .add (vi i) (vi 1) fun v62 => nx1 [.bool st.isSome, v62] w' := fun st w' he hk' ha' => by
      refine s_add (by omega) (by omega) ?_
      subst he
      exact hnx1 () w' hil ⟨hk', ha'⟩
    refine s_join (s_idx (by omega) (by omega) ?_)
    rw [Int.toNat_natCast]
    refine hsn8.get hil (s_cond (fun hu => ?_) fun hu => ?_)
    · intro j2
      refine hgo1 _ w8 ?_ hk8 hat11
      rw [leftL_succ, if_pos hu, List.append_nil]
    · have hLs : (leftL (i + 1) o).flatMap (fun i => waysL (pAt ps i) i) = (leftL i o).flatMap (fun i => waysL (pAt ps i) i) ++ waysL (pAt ps (i : Int)) i := by
        rw [leftL_succ, if_neg (by rw [hu]; simp), List.flatMap_append]; simp
      refine (choices_spec E T _ lv ps i w8 (hl7.keep hk8 hMlv) hil hR).mono ?_
      intro u10 w10 hg10
      have hk10 := hg10.keep
      have hc10 := hg10.sl
      have hat11 := hat11.keep0 hk10
      have hWi := hWok i (by omega) (by omega)
      have hpri := hpre i (by omega)
      unfold choL at hc10
      generalize hwl : waysL (pAt ps (i : Int)) i = wl at *
      generalize hpr : (leftL i o).flatMap (fun i => waysL (pAt ps i) i) = pr at *
      have hM10 : ∀ b, Fresh w8 b → ¬ (b = b11) := fun b hb h => by have hb : w8.heap.size ≤ b := hb; omega
      have hlb := hc10.bound
      rw [List.length_map] at hlb
      refine hc10.len ?_
      rw [List.length_map]
      refine s_for wl.length (fun m (_ : Unit) => [.bool ((pr ++ wl.take m).foldl (nst f) none).isSome, vi m])
        (fun m _ w' => Keep (· = b11) w10 w' ∧ At w' b11 (eC ((((pr ++ wl.take m).foldl (nst f) none).map (cho ps)).getD cho0)) c.t_path_choice) () (by rw [List.take_zero, List.append_nil]; rfl)
        ⟨Keep.refl _ _, by simpa using hat11⟩ ?_
      rintro m _ w11 j3 nx3 ⟨hk11, hat11⟩ hmn hnx3
      refine s_lss (s_condD (fun hlt2 => ?_) fun hge2 => ?_)
      · have hml := ofInt_lt hlt2
        obtain ⟨v, hv⟩ := idx_of_lt hml
        have hvo := hWi v (List.mem_of_getElem? hv)
        have hne := near_ends hR hvo
        have hst : ∀ u, (pr ++ wl.take m).foldl (nst f) none = some u → VOk ps u := hstok _ fun v hv => by
          rcases List.mem_append.1 hv with h | h
          · exact hpri v h
          · exact hWi v (List.mem_of_mem_take h)
        have hnext : (pr ++ wl.take (m + 1)).foldl (nst f) none = nst f ((pr ++ wl.take m).foldl (nst f) none) v := by
          rw [take_snoc hv, ← List.append_assoc, List.foldl_append]; rfl
        generalize hstd : (pr ++ wl.take m).foldl (nst f) none = st at *
        have hcv : (wl.map (cho ps))[m]? = some (cho ps v) := by rw [List.getElem?_map, hv]; rfl
        have hk7_11 : Keep (· = b11) w7 w11 := (hk8.trans hk10.none).trans hk11
        refine s_join ((hc10.keep hk11 hM10).idx (sz := 7) eC_len hcv fun b o' _ _ hc => s_ldA hc rfl ?_)
        refine s_var rfl rfl rfl fun b15 w14 hat15 hk14 hb15 hs15 => ?_
        have hat11 := hat11.keep0 hk14
        have hsz711 := hk7_11.size
        have hat10' := (hat10.keep hk7_11 (by omega)).keep0 hk14
        have hgo : ∀ (st' : Option Vis) (w' : World), st' = nst f st v → Keep (· = b11) w14 w' → At w' b11 (eC ((st'.map (cho ps)).getD cho0)) c.t_path_choice → binP .add (vi m) (vi 1) fun v61 => nx3 [.bool st'.isSome, v61] w' := fun st' w' he hk' ha' => by
          refine s_add (by omega) (by omega) ?_
          have := hnx3 () w' hml ⟨(hk11.trans hk14.none).trans hk', by rw [hnext, ← he]; exact ha'⟩
          rw [hnext, ← he] at this
          exact this
        have htake : ∀ (K : World → Prop) (w15 : World), Keep NoB w14 w15 → (∀ w', Keep (· = b11) w14 w' → At w' b11 (eC (cho ps v)) c.t_path_choice → K w') → ldA 7 (pb b15 0) w15 fun v60 => stA 7 (pb b11 0) v60 w15 fun w19 => K w19 := fun K w15 hk15 hK => by
          refine s_ldAAt (hat15.keep0 hk15) rfl ?_
          exact s_stA (vs := eC (cho ps v)) (hat11.keep0 hk15) rfl rfl rfl fun w19 ha hk19 _ => hK w19 (hk15.none.trans hk19) ha
        refine s_join (s_held (fun w' => Keep NoB w14 w') ⟨keep_drew _ _, ?_⟩)
        refine s_not (s_guardF (fun hsome => ?_) fun hnone => ?_)
        · cases st with
          | none => simp at hsome
          | some u0 =>
          have hu0 := hst u0 rfl
          have hnu := near_ends hR hu0
          refine s_ldAS (fun w' h => (hat10'.keep0 h).cells) rfl ?_
          refine s_off (s_ldAS (fun w' h => cho_a (hat15.keep0 h)) rfl ?_)
          refine s_ldAS (fun w' h => (hat10'.keep0 h).cells) rfl ?_
          refine s_off (s_ldAS (fun w' h => cho_a (hat11.keep0 h)) rfl ?_)
          refine (distance_spec E _ _ w14.drew hnear hne.1).mono ?_
          rintro u16 w16 ⟨hk16, rfl⟩
          have hk16' : Keep NoB w14 w16 := (keep_drew _ _).trans hk16
          refine ⟨hk16', ?_⟩
          refine (distance_spec E _ _ w16 hnear hnu.1).mono ?_
          rintro u17 w17 ⟨hk17, rfl⟩
          refine ⟨hk16'.trans hk17, s_lss ?_⟩
          intro j5
          refine s_join (s_condD (fun h1 => ?_) fun h1 => ?_)
          · have hn : some v = nst f (some u0) v := by
              have h1 : dist (lastPt ps s o) (frm ps v) < dist (lastPt ps s o) (frm ps u0) := h1
              rw [hfd, hfd] at h1
              simp [nst, h1]
            refine htake _ w17 (hk16'.trans hk17) fun w' h a => ?_
            intro j6 j7
            exact hgo (some v) w' hn h a
          · have hn : some u0 = nst f (some u0) v := by
              have h1 : ¬ dist (lastPt ps s o) (frm ps v) < dist (lastPt ps s o) (frm ps u0) := h1
              rw [hfd, hfd] at h1
              simp [nst, h1]
            intro j6 j7
            exact hgo (some u0) w17 hn (hk16'.trans hk17).none (hat11.keep0 (hk16'.trans hk17))
        · cases st with
          | some u0 => simp at hnone
          | none =>
          intro j5
          refine s_join (s_condT rfl ?_)
          refine htake _ w14.drew (keep_drew _ _) fun w' h a => ?_
          intro j6 j7
          exact hgo (some v) w' rfl h a
      · obtain rfl : m = wl.length := by omega
        rw [List.take_length] at hat11
        intro j4
        show binP .add (vi i) (vi 1) fun v62 => nx1 [.bool ((pr ++ wl.take wl.length).foldl (nst f) none).isSome, v62] w11
        rw [List.take_length]
        exact hgo1 _ w11 (by rw [hLs]) ((hk8.trans hk10.none).trans hk11) hat11
  · obtain rfl : i = ps.length := by omega
    rw [← hcand] at hat11
    have hne : ∃ bv, (cand ps o).foldl (nst f) none = some bv := by
      cases hh : (cand ps o).foldl (nst f) none with
      | some bv => exact ⟨bv, rfl⟩
      | none =>
        have hce : cand ps o ≠ [] := fun hce => by
          cases hL : leftL ps.length o with
          | nil => rw [hL] at hleft; simp at hleft; omega
          | cons x r =>
            have hx : x ∈ leftL ps.length o := by rw [hL]; exact List.mem_cons_self ..
            have hxr := leftL_range x hx
            obtain ⟨q, rfl⟩ := Int.eq_ofNat_of_zero_le hxr.1
            obtain ⟨p, hp⟩ := idx_of_lt (show q < ps.length by omega)
            have := ways_ne (p := p) (i := q) (hR.ne p (List.mem_of_getElem? hp))
            rw [hcand, hL, List.flatMap_cons, pAt_get hp] at hce
            rw [(List.append_eq_nil_iff.1 hce).1] at this
            simp at this
        obtain ⟨u, hu, _⟩ := pick_some (f := f) hce
        rw [hu] at hh; cases hh
    obtain ⟨bv, hbv⟩ := hne
    rw [hbv] at hn1 hat11
    simp only [Option.map_some, Option.getD_some] at hn1 hat11
    rw [hn1] at hok1
    have hbo : VOk ps bv := hok1 bv (by simp)
    obtain ⟨q, hq, hql, _⟩ := hbo.get
    have hou8 := hou7.keep hk8 fun b hb h => by have := hin b hb; omega
    refine s_off (s_off (s_ldAt hat11 rfl ?_))
    refine s_idx hbo.p0 hbo.p1 ?_
    show st (pb b24 (0 + bv.path.toNat * 1)) _ _ _
    rw [show bv.path.toNat = q by omega]
    have hsn8 : Seen w8 b24 _ e _ := At.keep hsn hk8 (by omega)
    refine hsn8.put hql fun w20 hsn20 hk20 hs20 => ?_
    have hat11 := hat11.keep hk20 (by omega)
    refine s_off (s_ldA (cho_v hat11) rfl ?_)
    have hou20 := hou8.keep hk20 fun b hb h => by have := hin b hb; omega
    refine s_push T.sl_visit (y := bv) hou20 rfl rfl rfl (by rw [hnl]; omega) (by omega) (fun i hi => by show w5.heap.size ≤ i; omega) fun u22 w22 hou22 hk22 hi22 => ?_
    have hat11 := hat11.keep hk22 fun h => by have := hin _ h; omega
    have hsn22 : Seen w22 b24 _ e _ := At.keep hsn20 hk22 fun h => by have := hin _ h; omega
    have hat2 := ((hat2.keep hk8 (by omega)).keep hk20 (by omega)).keep hk22 fun h => by have := hin _ h; omega
    have hat10 := ((hat10.keep hk8 (by omega)).keep hk20 (by omega)).keep hk22 fun h => by have := hin _ h; omega
    have hk_22 : Keep NoB w w22 := (((hk.trans hk7).new hk8 fun i hi => .inr (by omega)).new hk20 fun i hi => .inr (by omega)).new hk22 fun i hi => .inr (by have := hin _ hi; omega)
    refine s_off (s_ldA (cho_b hat11) rfl ?_)
    refine s_stA (vs := eP (tov ps bv)) hat10 rfl rfl rfl fun w23 hat10 hk23 hs23 => ?_
    have hsz22 := hk22.size
    refine s_add (by omega) (by omega) (hnx u22 w23 hklt ⟨hk_22.new hk23 fun i hi => .inr (by omega), by omega, ?_, ?_, ?_, hat2.keep hk23 (by omega)⟩)
    · rw [hn1]
      refine hou22.keep hk23 fun b hb h => ?_
      rcases hi22 b hb with h' | h'
      · have := hin _ h'; omega
      · omega
    · rw [hn1, lastP_snoc]; exact hat10
    · rw [hn1]
      have hsn23 : Seen w23 b24 _ e _ := At.keep hsn22 hk23 (by omega)
      refine cast ?_ hsn23
      congr 1
      funext x
      rw [Bool.eq_iff_iff]
      simp only [Bool.or_eq_true, decide_eq_true_eq, List.any_append, List.any_cons, List.any_nil, Bool.or_false]
      constructor
      · rintro (rfl | h)
        · exact .inr hq
        · exact .inl h
      · rintro (h | h)
        · exact .inr h
        · exact .inl (by omega)
end Go.Eng

/-! Contracts: orders that are improved. -/
namespace Go.Eng
open Go
variable {c : Cfg}

theorem swp_put {o : List Vis} {i k : Nat} {x y : Vis} (hx : o[i]? = some x) (hy : o[k]? = some y) : (o.set i y).set k x = swp o i k := by
  unfold swp
  rw [List.getD, List.getD, hx, hy]; rfl

theorem exchange_spec (E : Eqs c) {D D' : Nat → Prop} {lv ov : Value} {ps : List Pth} {o : List Vis} {s : Pt} {w : World} (hl : SlP D w lv ps) (hR : Rights ps) (hs : Nearby s)
    (ho : Ow D' c.t_api_Visit 3 eV w ov o) (hDD : ∀ b, D b → ¬ inV ov b) (hok : ∀ v ∈ o, VOk ps v) (hlen : o.length ≤ 1000) :
    Ret c.P c.f_path_exchange #[.agg (eP s).toArray, lv, ov] w fun u w' => Keep (inV ov) w w' ∧
      ((u = .bool true ∧ ∃ o', Step ps s o o' ∧ Ow D' c.t_api_Visit 3 eV w' ov o') ∨ (u = .bool false ∧ Stuck ps s o ∧ Ow D' c.t_api_Visit 3 eV w' ov o)) := by
  apply E.path_exchange
  unfold wp_path_exchange
  refine s_new (cs := eP s) fun b3 w1 hat3 hk1 hb3 hs3 => ?_
  refine s_ldAAt hat3 rfl ?_
  refine (travel_spec E _ _ s lv ov ps o w1 (hl.keep0 hk1) (ho.keep0 hk1).sl hR hs hok hlen).mono ?_
  rintro u w2 ⟨hk2, rfl⟩
  have hk02 := hk1.trans hk2
  have ho2 := ho.keep0 hk02
  have hin : ∀ b, inV ov b → b < w.heap.size := fun b hb => Own.inLt ho hb
  have hat3 := hat3.keep0 hk2
  have hM3 : ¬ inV ov b3 := fun h => by have := hin _ h; omega
  refine ho2.len ?_
  refine s_range o.length (fun i w' => Keep (inV ov) w w' ∧ At w' b3 (eP s) c.t_api_Point ∧ Ow D' c.t_api_Visit 3 eV w' ov o ∧ ∀ i' k', i' < k' → k' < o.length → i' < i → ¬ Better ps s o i' k')
    ⟨hk02.none, hat3, ho2, fun _ _ _ _ h => by omega⟩ ?_
  rintro i w3 j nx ⟨hk3, hat3, ho3, hnb⟩ hin1 hnx
  refine s_lss (s_condD (fun hlt => ?_) fun hge => ?_)
  rotate_left
  · obtain rfl : i = o.length := by omega
    exact ⟨hk3, .inr ⟨rfl, fun i' k' h1 h2 => hnb i' k' h1 h2 (by omega), ho3⟩⟩
  have hil := ofInt_lt hlt
  refine s_add (by omega) (by omega) ?_
  refine s_while (σ := Nat) (fun k => [vi k]) (fun k w' => (i + 1 ≤ k ∧ k ≤ o.length) ∧ Keep (inV ov) w w' ∧ At w' b3 (eP s) c.t_api_Point ∧ Ow D' c.t_api_Visit 3 eV w' ov o ∧ ∀ k', i < k' → k' < k → ¬ Better ps s o i k') (fun k => o.length - k) (i + 1)
    (by simp) ⟨by omega, hk3, hat3, ho3, fun _ h1 h2 => by omega⟩ ?_
  rintro k w4 j2 nx2 ⟨⟨hk1', hk2'⟩, hk4, hat4, ho4, hnb2⟩ hnx2
  refine ho4.len (s_lss (s_condD (fun hlt2 => ?_) fun hge2 => ?_))
  rotate_left
  · obtain rfl : k = o.length := by omega
    refine s_add (by omega) (by omega) (hnx w4 hil ⟨hk4, hat4, ho4, fun i' k' h1 h2 h3 => ?_⟩)
    rcases Nat.lt_or_ge i' i with h | h
    · exact hnb i' k' h1 h2 h
    · obtain rfl : i' = i := by omega
      exact hnb2 k' h1 h2
  have hkl := ofInt_lt hlt2
  obtain ⟨x, hx⟩ := idx_of_lt hil
  obtain ⟨y, hy⟩ := idx_of_lt hkl
  have hsl := ho4.drew.sl
  refine hsl.idx (sz := 3) eV_len hy fun b o' _ _ hc => s_ldA hc rfl ?_
  refine hsl.idx (sz := 3) eV_len hx fun b o' _ _ hc => s_ldA hc rfl ?_
  refine ho4.drew.put eV_len (by omega) hil rfl rfl fun w5 ho5 hk5 _ => ?_
  refine ho5.put eV_len (by omega) (by rw [List.length_set]; exact hkl) rfl rfl fun w6 ho6 hk6 _ => ?_
  rw [swp_put hx hy] at ho6
  have hk_6 : Keep (inV ov) w w6 := (hk4.drew.trans hk5).trans hk6
  have hat6 := (hat4.drew.keep hk5 hM3).keep hk6 hM3
  refine s_ldAAt hat6 rfl ?_
  refine (travel_spec E _ _ s lv ov ps _ w6 (hl.keep hk_6 hDD) ho6.sl hR hs (fun v hv => hok v (swp_mem hil hkl v hv)) (by rw [swp_len]; exact hlen)).mono ?_
  rintro u w7 ⟨hk7, rfl⟩
  have hk_7 := hk_6.trans hk7.none
  refine s_lss (s_condD (fun hb => ?_) fun hb => ?_)
  · refine ⟨hk_7, .inl ⟨rfl, _, ⟨i, k, by omega, hkl, hb, fun i' k' h1 h2 h3 => ?_, rfl⟩, ho6.keep0 hk7⟩⟩
    rcases h3 with h | ⟨rfl, h⟩
    · exact hnb i' k' h1 h2 h
    · exact hnb2 k' h1 h
  · have ho7 := ho6.keep0 hk7
    have hx' : (swp o i k)[i]? = some y := by
      rw [← swp_put hx hy, List.getElem?_set, List.getElem?_set]; simp [hil]; omega
    have hy' : (swp o i k)[k]? = some x := by
      rw [← swp_put hx hy, List.getElem?_set]; simp [hkl]
    have hsl := ho7.drew.sl
    refine hsl.idx (sz := 3) eV_len hy' fun b o' _ _ hc => s_ldA hc rfl ?_
    refine hsl.idx (sz := 3) eV_len hx' fun b o' _ _ hc => s_ldA hc rfl ?_
    refine ho7.drew.put eV_len (by omega) (by rw [swp_len]; exact hil) rfl rfl fun w8 ho8 hk8 _ => ?_
    refine ho8.put eV_len (by omega) (by rw [List.length_set, swp_len]; exact hkl) rfl rfl fun w9 ho9 hk9 _ => ?_
    rw [swp_put hx' hy', swp_swp hil hkl] at ho9
    have hat9 := ((hat6.keep0 hk7).drew.keep hk8 hM3).keep hk9 hM3
    refine s_add (by omega) (by omega) ?_
    have := hnx2 (k + 1) w9 ⟨by omega, (hk_7.drew.trans hk8).trans hk9, hat9, ho9, fun k' h1 h2 => ?_⟩ (by omega)
    · exact this
    · rcases Nat.lt_or_ge k' k with h | h
      · exact hnb2 k' h1 h
      · obtain rfl : k' = k := by omega
        exact hb

theorem orderF_ok {ps : List Pth} {os : List Vis} (h : orderF ps os = 0) : Rights ps ∧ os.length = ps.length ∧ (∀ v ∈ os, VOk ps v) := by
  unfold orderF at h
  by_cases h1 : pathsF ps ≠ 0
  · rw [if_pos h1] at h; exact absurd h h1
  rw [if_neg h1] at h
  by_cases h2 : os.length ≠ ps.length
  · rw [if_pos h2] at h; cases h
  rw [if_neg h2] at h
  refine ⟨rights_of (by omega), by omega, fun v hv => ?_⟩
  obtain ⟨i, hi⟩ := List.getElem?_of_mem hv
  have hil := lt_of_idx hi
  have hall : ∀ j, j < os.length → visAt ps os j = 0 := by
    intro j hj
    by_cases hh : ∃ i, i < os.length ∧ visAt ps os i ≠ 0
    · obtain ⟨q, ⟨hq1, hq2⟩, hmin⟩ := least hh
      have h0 : ∀ j, j < q → visAt ps os j = 0 := fun j hj => by
        by_cases hne : visAt ps os j = 0
        · exact hne
        · exact absurd (hmin j ⟨by omega, hne⟩) (by omega)
      rw [fnz_at h0 hq1 hq2] at h
      exact absurd h hq2
    · by_cases hne : visAt ps os j = 0
      · exact hne
      · exact absurd ⟨j, hj, hne⟩ hh
  have hv0 := hall i hil
  simp only [visAt, hi, visF] at hv0
  by_cases c1 : 0 ≤ v.path ∧ v.path < ps.length
  · rw [if_pos c1] at hv0
    by_cases c2 : (os.take i).any (fun x => decide (x.path = v.path)) = true
    · rw [if_pos c2] at hv0; cases hv0
    · rw [if_neg c2] at hv0
      unfold vF2 at hv0
      by_cases c3 : vBad (pAt ps v.path) v = true
      · rw [if_pos c3] at hv0; cases hv0
      · rw [if_neg c3] at hv0
        by_cases c4 : 0 ≤ v.start ∧ v.start < (pAt ps v.path).pts.length
        · have c3 : vBad (pAt ps v.path) v = false := by simpa using c3
          unfold vBad at c3
          refine ⟨c1.1, c1.2, c4.1, c4.2, fun hc => ?_, fun hc => ?_⟩
          · rw [hc] at c3; simpa using c3
          · rw [hc] at c3; simpa using c3
        · rw [if_neg c4] at hv0; cases hv0
  · rw [if_neg c1] at hv0; cases hv0

/-- what Improved tells -/
def GivesR (w : World) (f : Int) (Q : List Vis → Prop) (n : List Vis → Int) (u : Value) (w' : World) : Prop :=
  Keep NoB w w' ∧ (f ≠ 0 → u = .tuple #[.slice none 0 0, vi 0, vi f]) ∧ (f = 0 → ∃ bv r, Q r ∧ u = .tuple #[bv, vi (n r), vi 0] ∧ Sl (Fresh w) eV w' bv r)

theorem improved_spec (E : Eqs c) (T : Ty c) {D D' : Nat → Prop} {lv ov : Value} {ps : List Pth} {o : List Vis} {s : Pt} {w : World} (hl : SlP D w lv ps) (ho : Sl D' eV w ov o) :
    Ret c.P c.f_path_Improved #[.agg (eP s).toArray, lv, ov] w fun u w' => GivesR w (startF s (orderF ps o)) (Imp ps s o) (trav ps s) u w' := by
  have hl := hl.lt
  have ho := ho.lt
  apply E.path_Improved
  unfold wp_path_Improved
  refine s_new (cs := eP s) fun b3 w1 hat3 hk1 hb3 hs3 => ?_
  refine s_ldAAt hat3 rfl ?_
  refine (start_spec E T _ _ s lv ov ps o w1 (hl.keep0 hk1) (ho.keep0 hk1)).mono ?_
  rintro u w2 ⟨hk2, rfl⟩
  have hk02 := hk1.trans hk2
  refine s_neq (s_condD (fun h => ⟨hk02, fun _ => rfl, fun h' => absurd h' h⟩) fun h => ?_)
  have h : startF s (orderF ps o) = 0 := by omega
  obtain ⟨hs, hof⟩ : Nearby s ∧ orderF ps o = 0 := by
    unfold startF at h
    by_cases hf : farPt s = true
    · rw [if_pos hf] at h; cases h
    · rw [if_neg hf] at h; exact ⟨near_of (by simpa using hf), h⟩
  obtain ⟨hR, hlen, hok⟩ := orderF_ok hof
  have hRl := hR.len
  refine (cloneV_spec E T _ ov o w2 (ho.keep0 hk02) (by omega)).mono ?_
  intro u3 w3 hg
  have hat3 := (hat3.keep0 hk2).keep0 hg.keep
  have hk03 := hk02.trans hg.keep
  have hsz2 := hk02.size
  have hin : ∀ b, inV u3 b → w2.heap.size ≤ b := fun b hb => hg.fresh hb
  have hb3lt : b3 < w2.heap.size := by have := hk2.size; omega
  refine s_while (σ := List Vis) (fun _ => []) (fun cur w' => Keep NoB w w' ∧ At w' b3 (eP s) c.t_api_Point ∧ Ow (Fresh w2) c.t_api_Visit 3 eV w' u3 cur ∧ cur.length = o.length ∧ (∀ v ∈ cur, VOk ps v) ∧ ∀ r, Imp ps s cur r → Imp ps s o r)
    (fun cur => (trav ps s cur).toNat) o rfl ⟨hk03, hat3, hg.ow, rfl, hok, fun r h => h⟩ ?_
  rintro cur w4 j nx ⟨hk4, hat4, ho4, hl4, hok4, himp⟩ hnx
  refine s_ldAAt hat4 rfl ?_
  refine (exchange_spec E (hl.keep0 hk4) hR hs ho4 (fun b hb h => by have hb : b < w.heap.size := hb; have := hin b h; omega) hok4 (by omega)).mono ?_
  rintro u5 w5 ⟨hk5, hres⟩
  have hk_5 : Keep NoB w w5 := hk4.new hk5 fun i hi => .inr (by have := hin i hi; omega)
  have hat5 := hat4.keep hk5 fun h => by have := hin _ h; omega
  rcases hres with ⟨rfl, o', hst, ho5⟩ | ⟨rfl, hst, ho5⟩
  · refine s_condT rfl ?_
    have hlt := hst.lt
    have h0 := trav_bound hR o' s hs fun v hv => hok4 v (hst.mem v hv)
    exact hnx o' w5 ⟨hk_5, hat5, ho5, hst.len.trans hl4, fun v hv => hok4 v (hst.mem v hv), fun r hr => himp r (.step hst hr)⟩ (by show Int.toNat _ < Int.toNat _; omega)
  · refine s_condF rfl ?_
    refine s_ldAAt hat5 rfl ?_
    refine (travel_spec E _ _ s lv u3 ps cur w5 (hl.keep0 hk_5) ho5.sl hR hs hok4 (by omega)).mono ?_
    rintro u6 w6 ⟨hk6, rfl⟩
    exact ⟨hk_5.trans hk6, fun h' => absurd h h', fun _ => ⟨u3, cur, himp cur (.done hst), rfl, (ho5.sl.keep0 hk6).dom fun b hb => by have hb : w2.heap.size ≤ b := hb; show w.heap.size ≤ b; omega⟩⟩

/-! ### the reference -/
end Go.Eng

