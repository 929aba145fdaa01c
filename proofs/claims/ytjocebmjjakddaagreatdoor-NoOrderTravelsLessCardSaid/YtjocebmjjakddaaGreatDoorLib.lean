/- Part of a proof: the law NoOrderTravelsLess gives true for every list of integers and leaves its argument as it was; there are no conditions beyond those that the given row states. -/
import Derived.Test.YtjocebmjjakddaaGreatDoorEng
import Derived.Laws.Strings
set_option linter.unusedVariables false
set_option linter.unusedSimpArgs false
/-! Words for proofs over the printed normal forms: memory, slices, steps. -/
namespace Go.Eng
open Go

abbrev pb (b o : Nat) : Value := .pointer (some ⟨b, o, none⟩)
abbrev vi (n : Int) : Value := .int .i64 n

def NoB : Nat → Prop := fun _ => False

/-- What was there stays, but for the blocks of M. -/
structure Keep (M : Nat → Prop) (w w' : World) : Prop where
  os : w'.os = w.os
  tape : w'.tape = w.tape
  output : w'.output = w.output
  size : w.heap.size ≤ w'.heap.size
  block : ∀ k, k < w.heap.size → ¬ M k → w'.heap[k]? = w.heap[k]?

theorem Keep.refl (M : Nat → Prop) (w : World) : Keep M w w := ⟨rfl, rfl, rfl, Nat.le_refl _, fun _ _ _ => rfl⟩
theorem Keep.trans {M : Nat → Prop} {a b c : World} (h : Keep M a b) (k : Keep M b c) : Keep M a c :=
  ⟨k.os.trans h.os, k.tape.trans h.tape, k.output.trans h.output, Nat.le_trans h.size k.size,
    fun i hi hm => (k.block i (Nat.lt_of_lt_of_le hi h.size) hm).trans (h.block i hi hm)⟩
theorem Keep.mono {M M' : Nat → Prop} {a b : World} (h : Keep M a b) (hm : ∀ k, M k → M' k) : Keep M' a b :=
  ⟨h.os, h.tape, h.output, h.size, fun i hi hn => h.block i hi fun hM => hn (hm i hM)⟩
theorem Keep.none {M : Nat → Prop} {a b : World} (h : Keep NoB a b) : Keep M a b := h.mono fun _ h => h.elim
/-- a step that writes blocks that are new since a -/
theorem Keep.new {M M' : Nat → Prop} {a b c : World} (h : Keep M a b) (k : Keep M' b c) (hn : ∀ i, M' i → M i ∨ a.heap.size ≤ i) : Keep M a c :=
  ⟨k.os.trans h.os, k.tape.trans h.tape, k.output.trans h.output, Nat.le_trans h.size k.size,
    fun i hi hm => (k.block i (Nat.lt_of_lt_of_le hi h.size) fun hM => by rcases hn i hM with h' | h' <;> first | exact hm h' | omega).trans (h.block i hi hm)⟩
theorem Keep.drew {M : Nat → Prop} {a b : World} (h : Keep M a b) : Keep M a b.drew := ⟨h.os, h.tape, h.output, h.size, h.block⟩
theorem Keep.of_drew {M : Nat → Prop} {a b : World} (h : Keep M a.drew b) : Keep M a b := ⟨h.os, h.tape, h.output, h.size, h.block⟩
theorem keep_drew (M : Nat → Prop) (w : World) : Keep M w w.drew := ⟨rfl, rfl, rfl, Nat.le_refl _, fun _ _ _ => rfl⟩

/-- a block, whole -/
def At (w : World) (b : Nat) (cs : List Value) (ty : TypeId) : Prop := w.heap[b]? = some (.cells cs.toArray ty (0, 0))

/-- cells from an address on -/
def Cells (w : World) (b o : Nat) (L : List Value) : Prop := ∀ (j : Nat) (v : Value), L[j]? = some v → w.cell? ⟨b, o + j, none⟩ = some v

theorem At.lt {w : World} {b : Nat} {cs : List Value} {ty : TypeId} (h : At w b cs ty) : b < w.heap.size := by
  rcases Nat.lt_or_ge b w.heap.size with h' | h'
  · exact h'
  · rw [At, Array.getElem?_eq_none h'] at h; cases h
theorem At.keep {M : Nat → Prop} {w w' : World} {b : Nat} {cs : List Value} {ty : TypeId} (h : At w b cs ty) (k : Keep M w w') (hm : ¬ M b) : At w' b cs ty := by
  unfold At; rw [k.block b h.lt hm]; exact h
theorem At.keep0 {w w' : World} {b : Nat} {cs : List Value} {ty : TypeId} (h : At w b cs ty) (k : Keep NoB w w') : At w' b cs ty := h.keep k fun h => h
theorem At.drew {w : World} {b : Nat} {cs : List Value} {ty : TypeId} (h : At w b cs ty) : At w.drew b cs ty := h

theorem At.cell {w : World} {b : Nat} {cs : List Value} {ty : TypeId} (h : At w b cs ty) (o : Nat) : w.cell? ⟨b, o, none⟩ = cs[o]? := by
  unfold At at h
  simp [World.cell?, h]
theorem At.free {w : World} {b : Nat} {cs : List Value} {ty : TypeId} (h : At w b cs ty) (o : Nat) : w.frozen? ⟨b, o, none⟩ = false := by
  unfold At at h
  simp [World.frozen?, h]
theorem At.cells {w : World} {b : Nat} {cs : List Value} {ty : TypeId} (h : At w b cs ty) : Cells w b 0 cs := fun j v hj => by
  rw [Nat.zero_add, h.cell]; exact hj

theorem cell_lt {w : World} {b o : Nat} {v : Value} (h : w.cell? ⟨b, o, none⟩ = some v) : b < w.heap.size := by
  unfold World.cell? at h
  rcases Nat.lt_or_ge b w.heap.size with h' | h'
  · exact h'
  · simp [Array.getElem?_eq_none h'] at h

theorem cell_keep {M : Nat → Prop} {w w' : World} {b o : Nat} {v : Value} (h : w.cell? ⟨b, o, none⟩ = some v) (k : Keep M w w') (hm : ¬ M b) : w'.cell? ⟨b, o, none⟩ = some v := by
  have := k.block b (cell_lt h) hm
  unfold World.cell? at *
  rw [this]; exact h

theorem Cells.keep {M : Nat → Prop} {w w' : World} {b o : Nat} {L : List Value} (h : Cells w b o L) (k : Keep M w w') (hm : ¬ M b) : Cells w' b o L :=
  fun j v hj => cell_keep (h j v hj) k hm
theorem Cells.keep0 {w w' : World} {b o : Nat} {L : List Value} (h : Cells w b o L) (k : Keep NoB w w') : Cells w' b o L := h.keep k fun h => h
theorem Cells.drew {w : World} {b o : Nat} {L : List Value} (h : Cells w b o L) : Cells w.drew b o L := h

/-! ## steps -/
@[simp] theorem addr_add (b o n : Nat) : (⟨b, o, none⟩ : Addr).add n = ⟨b, o + n, none⟩ := by
  unfold Addr.add; split
  · subst_vars; rfl
  · rfl

section
variable {P : Program} {w : World}

theorem s_off {off b o : Nat} {k : Value → Prop} (h : k (pb b (o + off))) : offP off (pb b o) k := by
  show k (.pointer (some ((⟨b, o, none⟩ : Addr).add off)))
  rw [addr_add]; exact h

theorem s_nil {b o : Nat} {k : Value → Prop} (h : k (pb b o)) : nilP (pb b o) k := h

theorem s_ld {b o : Nat} {v : Value} {k : Value → Prop} (hc : w.cell? ⟨b, o, none⟩ = some v) (h : k v) : ld (pb b o) w k := ⟨v, hc, h⟩
/-- a field of a block that is known whole -/
theorem s_ldAt {b o : Nat} {cs : List Value} {ty : TypeId} {v : Value} {k : Value → Prop} (ha : At w b cs ty) (hc : cs[o]? = some v) (h : k v) : ld (pb b o) w k :=
  ⟨v, by rw [ha.cell]; exact hc, h⟩
theorem s_ldC {b o i : Nat} {L : List Value} {v : Value} {k : Value → Prop} (ha : Cells w b o L) (hc : L[i]? = some v) (h : k v) : ld (pb b (o + i)) w k :=
  ⟨v, ha i v hc, h⟩
theorem s_ldC0 {b o : Nat} {x : Value} {L : List Value} {k : Value → Prop} (ha : Cells w b o (x :: L)) (h : k x) : ld (pb b o) w k := ⟨x, ha 0 x rfl, h⟩
theorem s_ldA {n b o : Nat} {L : List Value} {k : Value → Prop} (ha : Cells w b o L) (hn : L.length = n) (h : k (.agg L.toArray)) : ldA n (pb b o) w k :=
  ⟨L, hn, fun i v hi => by rw [addr_add]; exact ha i v hi, h⟩
theorem s_ldAAt {n b : Nat} {cs : List Value} {ty : TypeId} {k : Value → Prop} (ha : At w b cs ty) (hn : cs.length = n) (h : k (.agg cs.toArray)) : ldA n (pb b 0) w k :=
  s_ldA ha.cells hn h

theorem s_ldS {S : World → Prop} {b o : Nat} {v : Value} {k : Value → Prop} (hc : ∀ w, S w → w.cell? ⟨b, o, none⟩ = some v) (h : k v) : ldS S (pb b o) k := ⟨v, hc, h⟩
theorem s_ldAS {S : World → Prop} {n b o : Nat} {L : List Value} {k : Value → Prop} (ha : ∀ w, S w → Cells w b o L) (hn : L.length = n) (h : k (.agg L.toArray)) : ldAS S n (pb b o) k :=
  ⟨L, hn, fun w hS i v hi => by rw [addr_add]; exact ha w hS i v hi, h⟩

/-- a new block -/
theorem s_new {e : TypeId} {cs : List Value} {k : Value → World → Prop}
    (h : ∀ b w', At w' b cs e → Keep NoB w w' → b = w.heap.size → w'.heap.size = b + 1 → k (pb b 0) w') : newP e cs.toArray w k := by
  have hh : (w.alloc (.cells cs.toArray e)).heap = w.heap.push (.cells cs.toArray e) := rfl
  refine h w.heap.size (w.alloc (.cells cs.toArray e)) ?_ ⟨rfl, rfl, rfl, by rw [hh]; simp, fun i hi _ => ?_⟩ rfl (by rw [hh]; simp)
  · unfold At; rw [hh]; simp
  · rw [hh, Array.getElem?_push, if_neg (by omega)]

theorem heap_setCell {a : Addr} {v : Value} {c : Array Value} {e : TypeId} (ha : w.heap[a.block]? = some (.cells c e (0, 0))) (hs : a.spot = none) :
    (w.setCell a v).heap = w.heap.setIfInBounds a.block (.cells (c.setIfInBounds a.off v) e (0, 0)) := by
  apply Array.ext_getElem?
  intro i
  simp only [World.setCell, Array.getElem?_modify, Array.getElem?_setIfInBounds]
  by_cases hi : a.block = i
  · subst hi
    have : a.block < w.heap.size := by
      rcases Nat.lt_or_ge a.block w.heap.size with h | h
      · exact h
      · rw [Array.getElem?_eq_none h] at ha; cases ha
    simp only [if_true, ha, Option.map_some, this, hs]
    rfl
  · simp [hi]

theorem at_setCell {b o : Nat} {cs : List Value} {ty : TypeId} (ha : At w b cs ty) (v : Value) :
    At (w.setCell ⟨b, o, none⟩ v) b (cs.set o v) ty ∧ Keep (· = b) w (w.setCell ⟨b, o, none⟩ v) := by
  have hl := ha.lt
  have hh := heap_setCell (w := w) (a := ⟨b, o, none⟩) (v := v) ha rfl
  refine ⟨?_, rfl, rfl, rfl, by rw [hh]; simp, fun i hi hm => ?_⟩
  · unfold At
    rw [hh]
    simp [hl]
  · rw [hh, Array.getElem?_setIfInBounds, if_neg (fun h => hm h.symm)]

/-- a store into a block that is known whole -/
theorem s_st {b o : Nat} {cs : List Value} {ty : TypeId} {v : Value} {k : World → Prop} (ha : At w b cs ty) (ho : o < cs.length) (hv : one v = true)
    (h : ∀ w', At w' b (cs.set o v) ty → Keep (· = b) w w' → w'.heap.size = w.heap.size → k w') : st (pb b o) v w k := by
  obtain ⟨h1, h2⟩ := at_setCell (o := o) ha v
  refine ⟨hv, ⟨_, by rw [ha.cell, List.getElem?_eq_getElem ho]⟩, ha.free o, h _ h1 h2 (by simp [World.setCell])⟩

theorem at_storeAll {b : Nat} {ty : TypeId} : ∀ (vs : List Value) (i : Nat) (w : World) (cs : List Value) (o : Nat), At w b cs ty →
    ∃ cs', At (storeAll w ⟨b, o, none⟩ vs i) b cs' ty ∧ cs'.length = cs.length ∧ (∀ j, cs'[j]? = if o + i ≤ j ∧ j < o + i + vs.length ∧ j < cs.length then vs[j - (o + i)]? else cs[j]?) ∧
      Keep (· = b) w (storeAll w ⟨b, o, none⟩ vs i) ∧ (storeAll w ⟨b, o, none⟩ vs i).heap.size = w.heap.size
  | [], i, w, cs, o, h => ⟨cs, h, rfl, fun j => by rw [if_neg]; simp; omega, Keep.refl _ _, rfl⟩
  | v :: r, i, w, cs, o, h => by
    obtain ⟨h1, h2⟩ := at_setCell (o := o + i) h v
    have hadd : (⟨b, o, none⟩ : Addr).add i = ⟨b, o + i, none⟩ := addr_add _ _ _
    obtain ⟨cs', ha, hl, hg, hk, hs⟩ := at_storeAll r (i + 1) (w.setCell ⟨b, o + i, none⟩ v) _ o h1
    simp only [storeAll, hadd]
    refine ⟨cs', ha, by simpa using hl, fun j => ?_, h2.trans hk, by rw [hs]; simp [World.setCell]⟩
    rw [hg j]
    simp only [List.length_set, List.length_cons, List.getElem?_set]
    by_cases h0 : j = o + i
    · subst h0
      rw [if_neg (by omega)]
      simp only [if_true]
      by_cases hlt : o + i < cs.length
      · rw [if_pos hlt, if_pos ⟨by omega, by omega, hlt⟩]; simp
      · rw [if_neg hlt, if_neg (by omega), List.getElem?_eq_none (by omega)]
    · by_cases hc : o + (i + 1) ≤ j ∧ j < o + (i + 1) + r.length ∧ j < cs.length
      · rw [if_pos hc, if_pos ⟨by omega, by omega, hc.2.2⟩]
        rw [show j - (o + i) = (j - (o + (i + 1))) + 1 from by omega]
        simp
      · rw [if_neg hc, if_neg (by omega), if_neg (by omega)]

/-- a store of a whole struct into its block -/
theorem s_stA {n b : Nat} {cs vs : List Value} {ty : TypeId} {k : World → Prop} (ha : At w b cs ty) (hn : vs.length = n) (hl : cs.length = n) (hv : vs.all one = true)
    (h : ∀ w', At w' b vs ty → Keep (· = b) w w' → w'.heap.size = w.heap.size → k w') : stA n (pb b 0) (.agg vs.toArray) w k := by
  obtain ⟨cs', h1, h2, h3, h4, h5⟩ := at_storeAll vs 0 w cs 0 ha
  refine ⟨by simpa using hn, fun i v hi => ?_, ?_⟩
  · have hi : vs[i]? = some v := by simpa using hi
    have hil : i < vs.length := by
      rcases Nat.lt_or_ge i vs.length with h | h
      · exact h
      · rw [List.getElem?_eq_none h] at hi; cases hi
    refine ⟨(List.all_eq_true.1 hv) v (List.mem_of_getElem? hi), ⟨cs[i]'(by omega), ?_⟩, ?_⟩
    · rw [addr_add, ha.cell, Nat.zero_add, List.getElem?_eq_getElem (by omega)]
    · rw [addr_add]; exact ha.free _
  · have : cs' = vs := by
      apply List.ext_getElem?
      intro j
      rw [h3 j]
      by_cases hj : j < n
      · rw [if_pos (by omega)]; simp
      · rw [if_neg (by omega), List.getElem?_eq_none (by omega), List.getElem?_eq_none (by omega)]
    rw [this] at h1
    simpa using h _ h1 h4 h5

end
end Go.Eng

/-! Slices. -/
namespace Go.Eng
open Go

/-- what is known of a slice's type: its element's type, cells, bytes, zero -/
structure SliceT (P : Program) (t e : TypeId) (sz by_ : Nat) (z : List Value) : Prop where
  und : P.underlying t = some (.slice e)
  info : ∃ i zv, P.info? e = some i ∧ i.size = sz ∧ i.bytes = by_ ∧ i.zero = some zv ∧ zv.cells = z.toArray
  zlen : z.length = sz
  pos : 0 < sz
  fit : by_ ≤ 1024

/-- a slice that is read: its elements' cells are those of l -/
def Sl {α : Type} (D : Nat → Prop) (enc : α → List Value) (w : World) (v : Value) (l : List α) : Prop :=
  ∃ a cap, v = .slice a l.length cap ∧ (l.length ≤ cap ∧ l.length ≤ 281474976710656) ∧ (l ≠ [] → ∃ b o, a = some ⟨b, o, none⟩ ∧ D b ∧ b < w.heap.size ∧ Cells w b o (l.flatMap enc))

/-- the blocks of a slice value -/
def inV (v : Value) (k : Nat) : Prop := match v with | .slice (some a) _ _ => a.block = k | _ => False

/-- a slice of one's own: it begins its block, the rest of the block is spare -/
def Own (D : Nat → Prop) (e : TypeId) (sz : Nat) (w : World) (v : Value) (n : Nat) (cs : List Value) : Prop :=
  (cs.length = n * sz ∧ n ≤ 16777216) ∧ ((v = .slice none 0 0 ∧ n = 0) ∨
    ∃ b cap sp, v = .slice (some ⟨b, 0, none⟩) n cap ∧ D b ∧ At w b (cs ++ sp) e ∧ (cs ++ sp).length = cap * sz ∧ n ≤ cap)

section
variable {α : Type} {D : Nat → Prop} {enc : α → List Value} {w w' : World} {v : Value} {l : List α}

theorem Sl.keep {M : Nat → Prop} (h : Sl D enc w v l) (k : Keep M w w') (hd : ∀ b, D b → ¬ M b) : Sl D enc w' v l := by
  obtain ⟨a, cap, h1, h2, h3⟩ := h
  exact ⟨a, cap, h1, h2, fun hne => let ⟨b, o, e1, e2, e3, e4⟩ := h3 hne; ⟨b, o, e1, e2, Nat.lt_of_lt_of_le e3 k.size, e4.keep k (hd b e2)⟩⟩
theorem Sl.keep0 (h : Sl D enc w v l) (k : Keep NoB w w') : Sl D enc w' v l := h.keep k fun _ _ h => h
theorem Sl.drew (h : Sl D enc w v l) : Sl D enc w.drew v l := h.keep0 (keep_drew _ _)
theorem Sl.of_drew (h : Sl D enc w.drew v l) : Sl D enc w v l := h
theorem Sl.dom {D' : Nat → Prop} (h : Sl D enc w v l) (hd : ∀ b, D b → D' b) : Sl D' enc w v l := by
  obtain ⟨a, cap, h1, h2, h3⟩ := h
  exact ⟨a, cap, h1, h2, fun hne => let ⟨b, o, e1, e2, e3⟩ := h3 hne; ⟨b, o, e1, hd b e2, e3⟩⟩
theorem Sl.nil : Sl D enc w (.slice none 0 0) [] := ⟨none, 0, rfl, ⟨Nat.le_refl _, by simp⟩, fun h => absurd rfl h⟩
theorem Sl.bound (h : Sl D enc w v l) : l.length ≤ 281474976710656 := by
  obtain ⟨a, cap, _, h, _⟩ := h; exact h.2
theorem Sl.len (h : Sl D enc w v l) {k : Value → Prop} (hk : k (vi l.length)) : lenP v k := by
  obtain ⟨a, cap, rfl, _⟩ := h; exact hk

theorem flat_get {enc : α → List Value} {sz : Nat} : ∀ (l : List α) (_ : ∀ x ∈ l, (enc x).length = sz) (i j : Nat) (x : α), l[i]? = some x → j < sz → (l.flatMap enc)[i * sz + j]? = (enc x)[j]?
  | [], _, i, j, x, h, _ => by simp at h
  | y :: r, hsz, 0, j, x, h, hj => by
    simp at h; subst h
    rw [List.flatMap_cons, Nat.zero_mul, Nat.zero_add, List.getElem?_append_left (by rw [hsz y (List.mem_cons_self ..)]; exact hj)]
  | y :: r, hsz, i + 1, j, x, h, hj => by
    have := flat_get r (fun x hx => hsz x (List.mem_cons_of_mem _ hx)) i j x (by simpa using h) hj
    have hy := hsz y (List.mem_cons_self ..)
    rw [List.flatMap_cons, List.getElem?_append_right (by rw [hy, Nat.add_mul]; omega), hy, Nat.add_mul, Nat.one_mul,
      show i * sz + sz + j - sz = i * sz + j from by omega]
    exact this

theorem flat_len {enc : α → List Value} {sz : Nat} : ∀ (l : List α) (_ : ∀ x ∈ l, (enc x).length = sz), (l.flatMap enc).length = l.length * sz
  | [], _ => by simp
  | x :: r, hsz => by
    rw [List.flatMap_cons, List.length_append, hsz x (List.mem_cons_self ..), flat_len r (fun x hx => hsz x (List.mem_cons_of_mem _ hx)), List.length_cons, Nat.add_mul, Nat.one_mul, Nat.add_comm]

/-- an element -/
theorem Sl.idx {sz : Nat} (h : Sl D enc w v l) (hsz : ∀ x ∈ l, (enc x).length = sz) {i : Nat} {x : α} (hx : l[i]? = some x) {k : Value → Prop}
    (hk : ∀ b o, D b → b < w.heap.size → Cells w b o (enc x) → k (pb b o)) : idxP sz v (vi i) k := by
  obtain ⟨a, cap, rfl, hcap, h3⟩ := h
  have hi : i < l.length := by
    rcases Nat.lt_or_ge i l.length with h | h
    · exact h
    · rw [List.getElem?_eq_none h] at hx; cases hx
  obtain ⟨b, o, rfl, hd, hb, hc⟩ := h3 (by rintro rfl; simp at hi)
  refine ⟨⟨by omega, by omega⟩, ?_⟩
  rw [addr_add, Int.toNat_natCast]
  refine hk b _ hd hb fun j u hj => ?_
  have hjs : j < sz := by
    rw [← hsz x (List.mem_of_getElem? hx)]
    rcases Nat.lt_or_ge j (enc x).length with h | h
    · exact h
    · rw [List.getElem?_eq_none h] at hj; cases hj
  have := hc (i * sz + j) u (by rw [flat_get l hsz i j x hx hjs]; exact hj)
  rwa [show o + i * sz + j = o + (i * sz + j) from by omega]

theorem Own.keep {M : Nat → Prop} {e : TypeId} {sz n : Nat} {cs : List Value} (h : Own D e sz w v n cs) (k : Keep M w w') (hd : ∀ b, inV v b → ¬ M b) : Own D e sz w' v n cs := by
  obtain ⟨h1, h2 | ⟨b, cap, sp, rfl, e2, e3, e4, e5⟩⟩ := h
  · exact ⟨h1, .inl h2⟩
  · exact ⟨h1, .inr ⟨b, cap, sp, rfl, e2, e3.keep k (hd b rfl), e4, e5⟩⟩
theorem Own.keep0 {e : TypeId} {sz n : Nat} {cs : List Value} (h : Own D e sz w v n cs) (k : Keep NoB w w') : Own D e sz w' v n cs := h.keep k fun _ _ h => h
theorem Own.drew {e : TypeId} {sz n : Nat} {cs : List Value} (h : Own D e sz w v n cs) : Own D e sz w.drew v n cs := h
theorem Own.nil {e : TypeId} {sz : Nat} : Own D e sz w (.slice none 0 0) 0 [] := ⟨⟨by simp, by simp⟩, .inl ⟨rfl, rfl⟩⟩
theorem Own.bound {e : TypeId} {sz n : Nat} {cs : List Value} (h : Own D e sz w v n cs) : n ≤ 16777216 := h.1.2
theorem Own.dom {D' : Nat → Prop} {e : TypeId} {sz n : Nat} {cs : List Value} (h : Own D e sz w v n cs) (hd : ∀ b, D b → D' b) : Own D' e sz w v n cs := by
  obtain ⟨h1, h2 | ⟨b, cap, sp, e1, e2, e3⟩⟩ := h
  · exact ⟨h1, .inl h2⟩
  · exact ⟨h1, .inr ⟨b, cap, sp, e1, hd b e2, e3⟩⟩
theorem Own.inD {e : TypeId} {sz n : Nat} {cs : List Value} (h : Own D e sz w v n cs) {b : Nat} (hb : inV v b) : D b := by
  obtain ⟨h1, ⟨rfl, _⟩ | ⟨b', cap, sp, rfl, e2, e3⟩⟩ := h
  · exact hb.elim
  · cases hb; exact e2
theorem Own.inLt {e : TypeId} {sz n : Nat} {cs : List Value} (h : Own D e sz w v n cs) {b : Nat} (hb : inV v b) : b < w.heap.size := by
  obtain ⟨h1, ⟨rfl, _⟩ | ⟨b', cap, sp, rfl, e2, e3, _⟩⟩ := h
  · exact hb.elim
  · cases hb; exact e3.lt

/-- what one owns can be read -/
theorem Own.sl {e : TypeId} {sz n : Nat} (h : Own D e sz w v n (l.flatMap enc)) (hn : n = l.length) : Sl D enc w v l := by
  obtain ⟨h1, ⟨rfl, h2⟩ | ⟨b, cap, sp, rfl, e2, e3, e4, e5⟩⟩ := h
  · have : l = [] := by apply List.length_eq_zero_iff.1; omega
    subst this; exact Sl.nil
  · subst hn
    refine ⟨_, cap, rfl, ⟨e5, by omega⟩, fun _ => ⟨b, 0, rfl, e2, e3.lt, fun j u hj => ?_⟩⟩
    rw [Nat.zero_add, e3.cell, List.getElem?_append_left]
    · exact hj
    · rcases Nat.lt_or_ge j (l.flatMap enc).length with h | h
      · exact h
      · rw [List.getElem?_eq_none h] at hj; cases hj
theorem Own.len {e : TypeId} {sz n : Nat} {cs : List Value} (h : Own D e sz w v n cs) {k : Value → Prop} (hk : k (vi n)) : lenP v k := by
  obtain ⟨h1, ⟨rfl, h2⟩ | ⟨b, cap, sp, rfl, _⟩⟩ := h
  · subst h2; exact hk
  · exact hk
end

/-! ### cells that are given -/
/-- the first m*sz cells of a slice value -/
def Src (w : World) (sz : Nat) (x : Value) (m : Nat) (xs : List Value) : Prop :=
  ∃ a capx, x = .slice a m capx ∧ xs.length = m * sz ∧ (xs ≠ [] → ∃ b o, a = some ⟨b, o, none⟩ ∧ Cells w b o xs)

theorem Sl.src {α : Type} {D : Nat → Prop} {enc : α → List Value} {w : World} {v : Value} {l : List α} {sz : Nat} (h : Sl D enc w v l) (hsz : ∀ x ∈ l, (enc x).length = sz) :
    Src w sz v l.length (l.flatMap enc) := by
  obtain ⟨a, cap, rfl, _, h3⟩ := h
  refine ⟨a, cap, rfl, flat_len l hsz, fun hne => ?_⟩
  obtain ⟨b, o, e1, _, _, e4⟩ := h3 (by rintro rfl; exact hne rfl)
  exact ⟨b, o, e1, e4⟩

theorem src_new {w : World} {b : Nat} {cs : List Value} {ty : TypeId} {n cap sz : Nat} (h : At w b cs ty) (hn : cs.length = n * sz) : Src w sz (.slice (some ⟨b, 0, none⟩) n cap) n cs :=
  ⟨_, _, rfl, hn, fun _ => ⟨b, 0, rfl, h.cells⟩⟩

theorem growBy_le (n : Nat) : ∀ (r c : Nat), Builtin.growBy n r c + 256 ≤ 2 ^ r * (c + 256)
  | 0, c => by simp [Builtin.growBy]
  | r + 1, c => by
    have h6 : c + 256 ≤ 1 * (2 * (c + 256)) := by omega
    have h2 : c + (c + 768) / 4 + 256 ≤ 2 * (c + 256) := by omega
    have ih := growBy_le n r (c + (c + 768) / 4)
    unfold Builtin.growBy
    have hp : 1 ≤ 2 ^ r := Nat.one_le_two_pow
    have h3 := Nat.mul_le_mul_left (2 ^ r) h2
    have h4 := Nat.mul_le_mul_right (2 * (c + 256)) hp
    have h5 : 2 ^ (r + 1) * (c + 256) = 2 ^ r * (2 * (c + 256)) := by rw [Nat.pow_succ, Nat.mul_assoc]
    rw [h5]
    split
    · exact Nat.le_trans h6 h4
    · exact Nat.le_trans ih h3

theorem nextcap_le {n c : Nat} (h : c ≤ n) : Builtin.nextslicecap n c ≤ 16 * (n + 256) := by
  unfold Builtin.nextslicecap
  split
  · omega
  · split
    · omega
    · have := growBy_le n 4 c
      generalize Builtin.growBy n 4 c = q at *
      have e : 2 ^ 4 = 16 := by decide
      rw [e] at this
      omega

section
variable {P : Program} {t e : TypeId} {sz by_ : Nat} {z : List Value}

theorem SliceT.run_und (h : SliceT P t e sz by_ z) (w : World) : (underlying t).run P w = .ok (.slice e) w := Eng.run_und h.und
theorem SliceT.run_size (h : SliceT P t e sz by_ z) (w : World) : (sizeOf e).run P w = .ok sz w := by
  obtain ⟨i, zv, h1, h2, _⟩ := h.info; rw [Eng.run_size h1, h2]
theorem SliceT.run_zero (h : SliceT P t e sz by_ z) (w : World) : ∃ zv, (zeroValue e).run P w = .ok zv w ∧ zv.cells = z.toArray := by
  obtain ⟨i, zv, h1, h2, h3, h4, h5⟩ := h.info
  refine ⟨zv, ?_, h5⟩
  rw [zeroValue, Sem.run_bind', run_typeInfo h1]
  simp [h4, run_pure']
theorem SliceT.run_info (h : SliceT P t e sz by_ z) (w : World) : ∃ i, (typeInfo e).run P w = .ok i w ∧ i.bytes = by_ := by
  obtain ⟨i, zv, h1, h2, h3, h4, h5⟩ := h.info
  exact ⟨i, run_typeInfo h1, h3⟩

theorem run_newRow {w : World} (cs : Array Value) : (newRow e cs).run P w = .ok ⟨w.heap.size, 0, none⟩ (w.alloc (.cells cs e)) := rfl

theorem run_firstCells {w : World} {x : Value} {m : Nat} {xs : List Value} (h : Src w sz x m xs) : (Builtin.firstCells sz m x).run P w = .ok xs.toArray w := by
  obtain ⟨a, cap, rfl, hl, hc⟩ := h
  cases a with
  | none =>
    have : xs = [] := by
      cases xs with
      | nil => rfl
      | cons y r => obtain ⟨b, o, hh, _⟩ := hc (by simp); cases hh
    subst this; rfl
  | some ad =>
    simp only [Builtin.firstCells]
    rw [← hl]
    refine run_loadCells_list w ad xs fun j v hj => ?_
    obtain ⟨b, o, hh, hcc⟩ := hc (by rintro rfl; simp at hj)
    cases hh
    rw [addr_add]; exact hcc j v hj

theorem at_write {w : World} {b : Nat} {cs sp xs : List Value} {ty : TypeId} (ha : At w b (cs ++ sp) ty) (hx : xs.length ≤ sp.length) :
    At (storeAll w ⟨b, cs.length, none⟩ xs 0) b ((cs ++ xs) ++ sp.drop xs.length) ty ∧ Keep (· = b) w (storeAll w ⟨b, cs.length, none⟩ xs 0) ∧
      (storeAll w ⟨b, cs.length, none⟩ xs 0).heap.size = w.heap.size := by
  obtain ⟨cs', h1, h2, h3, h4, h5⟩ := at_storeAll xs 0 w (cs ++ sp) cs.length ha
  have : cs' = (cs ++ xs) ++ sp.drop xs.length := by
    apply List.ext_getElem?
    intro j
    rw [h3 j]
    simp only [List.length_append, Nat.add_zero]
    by_cases hj : cs.length ≤ j ∧ j < cs.length + xs.length
    · rw [if_pos ⟨hj.1, hj.2, by omega⟩, List.getElem?_append_left (by simp; omega), List.getElem?_append_right hj.1]
    · rw [if_neg (by omega)]
      by_cases hlt : j < cs.length
      · rw [List.getElem?_append_left hlt, List.getElem?_append_left (by simp; omega), List.getElem?_append_left hlt]
      · rw [List.getElem?_append_right (by omega), List.getElem?_append_right (by simp; omega), List.getElem?_drop]
        congr 1
        simp; omega
  rw [this] at h1
  exact ⟨h1, h4, h5⟩

theorem zeroCells_len (z : List Value) (n : Nat) : (Builtin.zeroCells z.toArray n).size = n * z.length := by
  simp [Builtin.zeroCells]

theorem run_storeCellsAt {w : World} {b o : Nat} {cs : List Value} {ty : TypeId} (ha : At w b cs ty) {xs : List Value} (hx : o + xs.length ≤ cs.length) (hv : xs.all one = true) :
    (storeCells ⟨b, o, none⟩ xs).run P w = .ok () (storeAll w ⟨b, o, none⟩ xs 0) := by
  refine run_storeCells xs 0 w fun j v hj => ?_
  have hjl : j < xs.length := by
    rcases Nat.lt_or_ge j xs.length with h | h
    · exact h
    · rw [List.getElem?_eq_none h] at hj; cases hj
  rw [Nat.zero_add, addr_add]
  exact ⟨(List.all_eq_true.1 hv) v (List.mem_of_getElem? hj), ⟨cs[o + j]'(by omega), by rw [ha.cell, List.getElem?_eq_getElem]⟩, ha.free _⟩

/-- append to a slice of one's own -/
theorem s_append {D : Nat → Prop} {w : World} {s x : Value} {n m : Nat} {cs xs : List Value} {ty : TypeId} {k : Value → World → Prop}
    (hT : SliceT P t e sz by_ z) (ho : Own D e sz w s n cs) (hx : Src w sz x m xs) (hv : xs.all one = true) (hb : n + m ≤ 16777216) (hD : ∀ i, w.heap.size ≤ i → D i)
    (h : ∀ v' w', Own D e sz w' v' (n + m) (cs ++ xs) → Keep (inV s) w w' → (∀ i, inV v' i → inV s i ∨ w.heap.size ≤ i) → (n + m = 0 → v' = s) → k v' w') :
    semP P (Builtin.append_ #[t, t] ty #[s, x]) w k := by
  obtain ⟨⟨hcl, _⟩, hown⟩ := ho
  have hxl : xs.length = m * sz := by obtain ⟨_, _, _, h, _⟩ := hx; exact h
  have hlenx : ∀ w, (Builtin.lenOf x).run P w = .ok m w := by obtain ⟨a, c, rfl, _⟩ := hx; intro w; rfl
  have hund := hT.run_und (P := P)
  have hsz := hT.run_size (P := P)
  obtain ⟨base, cap, rfl, hncap, hsrc, hgo⟩ : ∃ base cap, s = .slice base n cap ∧ n ≤ cap ∧ Src w sz s n cs ∧
      ((base = none ∧ cap = 0 ∧ n = 0) ∨ ∃ b sp, base = some ⟨b, 0, none⟩ ∧ D b ∧ At w b (cs ++ sp) e ∧ (cs ++ sp).length = cap * sz) := by
    rcases hown with ⟨rfl, rfl⟩ | ⟨b, cap, sp, rfl, e2, e3, e4, e5⟩
    · refine ⟨none, 0, rfl, Nat.le_refl _, ⟨none, 0, rfl, hcl, fun hne => ?_⟩, .inl ⟨rfl, rfl, rfl⟩⟩
      exact absurd (List.length_eq_zero_iff.1 (by simpa using hcl)) hne
    · refine ⟨_, cap, rfl, e5, ⟨_, _, rfl, hcl, fun _ => ⟨b, 0, rfl, fun j u hj => ?_⟩⟩, .inr ⟨b, sp, rfl, e2, e3, e4⟩⟩
      rw [Nat.zero_add, e3.cell, List.getElem?_append_left]
      · exact hj
      · rcases Nat.lt_or_ge j cs.length with h | h
        · exact h
        · rw [List.getElem?_eq_none h] at hj; cases hj
  have hargs : ((#[t, t] : Array TypeId)[0]? = some t) ∧ ((#[t, t] : Array TypeId)[1]? = some t) := ⟨rfl, rfl⟩
  have hfx : ∀ w', (∀ b o j v, w.cell? ⟨b, o + j, none⟩ = some v → w'.cell? ⟨b, o + j, none⟩ = some v) → (Builtin.firstCells sz m x).run P w' = .ok xs.toArray w' := fun w' hw' => by
    obtain ⟨a, c, h1, h2, h3⟩ := hx
    exact run_firstCells ⟨a, c, h1, h2, fun hne => let ⟨b, o, h4, h5⟩ := h3 hne; ⟨b, o, h4, fun j v hj => hw' b o j v (h5 j v hj)⟩⟩
  have hfs : ∀ w', (∀ b o j v, w.cell? ⟨b, o + j, none⟩ = some v → w'.cell? ⟨b, o + j, none⟩ = some v) → (Builtin.firstCells sz n (.slice base n cap)).run P w' = .ok cs.toArray w' := fun w' hw' => by
    obtain ⟨a, c, h1, h2, h3⟩ := hsrc
    exact run_firstCells ⟨a, c, h1, h2, fun hne => let ⟨b, o, h4, h5⟩ := h3 hne; ⟨b, o, h4, fun j v hj => hw' b o j v (h5 j v hj)⟩⟩
  by_cases hfit : n + m ≤ cap
  · -- there is room
    have hrun : ∃ w', (Builtin.append_ #[t, t] ty #[.slice base n cap, x]).run P w = .ok (.slice base (n + m) cap) w' ∧
        ((base = none ∧ w' = w) ∨ ∃ b, base = some ⟨b, 0, none⟩ ∧ w' = storeAll w ⟨b, n * sz, none⟩ xs 0) := by
      rcases hgo with ⟨rfl, hc0, hn0⟩ | ⟨b, sp, rfl, hdb, hat, hlen⟩
      · refine ⟨w, ?_, .inl ⟨rfl, rfl⟩⟩
        simp [Builtin.append_, Sem.run_bind', hund, hsz, hlenx, hfit, hfx w (fun _ _ _ _ h => h), run_pure']
      · refine ⟨_, ?_, .inr ⟨b, rfl, rfl⟩⟩
        have hst : (storeCells ⟨b, n * sz, none⟩ xs).run P w = .ok () (storeAll w ⟨b, n * sz, none⟩ xs 0) := by
          refine run_storeCellsAt hat ?_ hv
          rw [hlen, hxl, ← Nat.add_mul]
          exact Nat.mul_le_mul_right _ hfit
        simp [Builtin.append_, Sem.run_bind', hund, hsz, hlenx, hfit, hfx w (fun _ _ _ _ h => h), run_pure', hst]
    obtain ⟨w', hrun, hw'⟩ := hrun
    refine ⟨_, _, hrun, ?_⟩
    rcases hgo with ⟨rfl, rfl, rfl⟩ | ⟨b, sp, rfl, hdb, hat, hlen⟩
    · rcases hw' with ⟨_, rfl⟩ | ⟨b, hh, _⟩
      · have hm : m = 0 := by omega
        subst hm
        have hxs : xs = [] := List.length_eq_zero_iff.1 (by omega)
        have hcs : cs = [] := List.length_eq_zero_iff.1 (by omega)
        subst hxs; subst hcs
        exact h _ _ Own.nil (Keep.refl _ _) (fun i hi => .inl hi) (fun _ => rfl)
      · cases hh
    · rcases hw' with ⟨hh, _⟩ | ⟨b', hh, rfl⟩
      · cases hh
      · cases hh
        rw [← hcl]
        have hxsp : xs.length ≤ sp.length := by
          have h1 := Nat.mul_le_mul_right sz hfit
          rw [Nat.add_mul] at h1
          rw [List.length_append] at hlen
          omega
        obtain ⟨h1, h2, h3⟩ := at_write hat hxsp
        refine h _ _ ⟨⟨by rw [List.length_append, hcl, hxl, Nat.add_mul], hb⟩, .inr ⟨b, cap, _, rfl, hdb, h1, ?_, hfit⟩⟩ (h2.mono fun i hi => hi.symm) (fun i hi => .inl hi) (fun h0 => ?_)
        · simp only [List.length_append, List.length_drop] at hlen ⊢
          omega
        · have : m = 0 := by omega
          subst this; rfl
  · -- a new array
    obtain ⟨i0, hi0, hby⟩ := hT.run_info (P := P) w
    have hinfo := fun w => (hT.run_info (P := P) w)
    have hcapn : cap ≤ n + m := by omega
    have hnc := nextcap_le hcapn
    have hroom : ¬ (Builtin.nextslicecap (n + m) cap * by_ > 2 ^ 48) := by
      have h1 := Nat.mul_le_mul hnc hT.fit
      have : 16 * (n + m + 256) * 1024 ≤ 2 ^ 48 := by omega
      omega
    have hneed : ¬ ((((n + m : Nat) : Int)) > IntKind.i64.max ∧ by_ = 0) := by
      rintro ⟨h1, _⟩
      have : IntKind.i64.max = 9223372036854775807 := by decide
      omega
    have hneed' : ¬ ((((n + m : Nat) : Int)) > IntKind.i64.max ∧ ((false = true) ∨ by_ = 0)) := by
      rintro ⟨h1, _⟩
      have : IntKind.i64.max = 9223372036854775807 := by decide
      omega
    obtain ⟨nc, hncn, hch⟩ : ∃ nc, n + m ≤ nc ∧ (choose (.appendCap (n + m) cap e)).run P w = .ok nc { w with drawn := w.drawn + 1 } :=
      ⟨_, Nat.le_add_right _ _, rfl⟩
    generalize hw1 : ({ w with drawn := w.drawn + 1 } : World) = w1 at hch
    have hcell : ∀ b o j v, w.cell? ⟨b, o + j, none⟩ = some v → w1.cell? ⟨b, o + j, none⟩ = some v := by subst hw1; exact fun _ _ _ _ h => h
    have hk1 : Keep NoB w w1 := by subst hw1; exact keep_drew _ _
    have hs1 : w1.heap.size = w.heap.size := by subst hw1; rfl
    obtain ⟨zv, hzv, hzc⟩ := hT.run_zero (P := P) w1
    obtain ⟨i1, hi1, hby1⟩ := hT.run_info (P := P) w1
    have hask : ∀ (by' : Nat) (w' : World), (askRoom by').run P w' = .ok () w' := fun by' w' => by
      unfold askRoom; split <;> rfl
    have hrun : (Builtin.append_ #[t, t] ty #[.slice base n cap, x]).run P w = .ok (.slice (some ⟨w1.heap.size, 0, none⟩) (n + m) nc)
        (w1.alloc (.cells (cs.toArray ++ xs.toArray ++ Builtin.zeroCells z.toArray (nc - (n + m))) e)) := by
      simp only [Builtin.append_, Sem.run_bind', hargs.1, hargs.2, hund, hsz, hlenx, run_pure', List.getElem?_toArray]
      simp only [List.getElem?_cons_zero, List.getElem?_cons_succ, hund, hsz, hlenx, Sem.run_bind', run_pure', Bool.false_eq_true, if_false, if_neg hfit, hi0, hby, false_or]
      rw [if_neg hneed]
      simp only [Sem.run_bind', hi0, hby]
      rw [if_neg hroom]
      simp only [Sem.run_bind', hch, hi1, hask, hfs w1 hcell, Bool.not_false, if_true, hfx w1 hcell, hzv, hzc, run_newRow, run_pure']
    refine ⟨_, _, hrun, ?_⟩
    have hh : (w1.alloc (.cells (cs.toArray ++ xs.toArray ++ Builtin.zeroCells z.toArray (nc - (n + m))) e)).heap =
        w1.heap.push (.cells (cs.toArray ++ xs.toArray ++ Builtin.zeroCells z.toArray (nc - (n + m))) e) := rfl
    have hzl := zeroCells_len z (nc - (n + m))
    rw [hT.zlen] at hzl
    generalize Builtin.zeroCells z.toArray (nc - (n + m)) = rest at *
    refine h _ _ ⟨⟨by rw [List.length_append, hcl, hxl, Nat.add_mul], hb⟩, .inr ⟨w1.heap.size, nc, rest.toList, rfl, hD _ (by omega), ?_, ?_, hncn⟩⟩ ?_ ?_ ?_
    · unfold At
      rw [hh]
      simp
    · rw [List.length_append, List.length_append, hcl, hxl, Array.length_toList, hzl, ← Nat.add_mul, ← Nat.add_mul]
      congr 1; omega
    · refine ⟨hk1.os, hk1.tape, hk1.output, by rw [hh]; simp; omega, fun i hi hm => ?_⟩
      rw [hh, Array.getElem?_push, if_neg (by omega)]
      exact hk1.block i hi fun h => h
    · intro i hi
      exact .inr (by have : w1.heap.size = i := hi; omega)
    · intro h0; omega
end
end Go.Eng

/-! Steps of plain operations; slices that are made. -/
namespace Go.Eng
open Go

def inR (n : Int) : Prop := -9223372036854775808 ≤ n ∧ n ≤ 9223372036854775807
abbrev wr (n : Int) : Int := IntKind.i64.wrap n

theorem wr_id {n : Int} (h1 : -9223372036854775808 ≤ n) (h2 : n ≤ 9223372036854775807) : IntKind.i64.wrap n = n := by
  have e1 : (2 ^ IntKind.i64.bits : Int) = 18446744073709551616 := by decide
  have e2 : (2 ^ (IntKind.i64.bits - 1) : Int) = 9223372036854775808 := by decide
  have e3 : IntKind.i64.signed = true := rfl
  unfold IntKind.wrap
  rw [e1, e2, e3]
  simp only [Bool.true_and, decide_eq_true_eq]
  split <;> omega

theorem wr_lo (n : Int) : -9223372036854775808 ≤ IntKind.i64.wrap n := by
  have e1 : (2 ^ IntKind.i64.bits : Int) = 18446744073709551616 := by decide
  have e2 : (2 ^ (IntKind.i64.bits - 1) : Int) = 9223372036854775808 := by decide
  have e3 : IntKind.i64.signed = true := rfl
  unfold IntKind.wrap
  rw [e1, e2, e3]
  simp only [Bool.true_and, decide_eq_true_eq]
  split <;> omega
theorem wr_hi (n : Int) : IntKind.i64.wrap n ≤ 9223372036854775807 := by
  have e1 : (2 ^ IntKind.i64.bits : Int) = 18446744073709551616 := by decide
  have e2 : (2 ^ (IntKind.i64.bits - 1) : Int) = 9223372036854775808 := by decide
  have e3 : IntKind.i64.signed = true := rfl
  unfold IntKind.wrap
  rw [e1, e2, e3]
  simp only [Bool.true_and, decide_eq_true_eq]
  split <;> omega

section
variable {k : Value → Prop} {a b : Int} {A B : Prop}

theorem s_add (h1 : -9223372036854775808 ≤ a + b) (h2 : a + b ≤ 9223372036854775807) (h : k (vi (a + b))) : binP .add (vi a) (vi b) k := ⟨_, rfl, by rw [wr_id h1 h2]; exact h⟩
theorem s_sub (h1 : -9223372036854775808 ≤ a - b) (h2 : a - b ≤ 9223372036854775807) (h : k (vi (a - b))) : binP .sub (vi a) (vi b) k := ⟨_, rfl, by rw [wr_id h1 h2]; exact h⟩
theorem s_mul (h1 : -9223372036854775808 ≤ a * b) (h2 : a * b ≤ 9223372036854775807) (h : k (vi (a * b))) : binP .mul (vi a) (vi b) k := ⟨_, rfl, by rw [wr_id h1 h2]; exact h⟩
theorem s_addw (h : k (vi (wr (a + b)))) : binP .add (vi a) (vi b) k := ⟨_, rfl, h⟩
theorem s_subw (h : k (vi (wr (a - b)))) : binP .sub (vi a) (vi b) k := ⟨_, rfl, h⟩
theorem s_mulw (h : k (vi (wr (a * b)))) : binP .mul (vi a) (vi b) k := ⟨_, rfl, h⟩
theorem s_rem (hb : b ≠ 0) (h : k (vi (a.tmod b))) : binP .rem (vi a) (vi b) k := ⟨_, by simp [binV, hb], h⟩
theorem s_quow (hb : b ≠ 0) (h : k (vi (wr (a.tdiv b)))) : binP .quo (vi a) (vi b) k := ⟨_, by simp [binV, hb], h⟩
theorem s_quo (hb : b ≠ 0) (h1 : -9223372036854775808 ≤ a.tdiv b) (h2 : a.tdiv b ≤ 9223372036854775807) (h : k (vi (a.tdiv b))) : binP .quo (vi a) (vi b) k :=
  ⟨vi (wr (a.tdiv b)), by simp [binV, hb], by
    show k (.int .i64 (IntKind.i64.wrap (a.tdiv b)))
    rw [wr_id h1 h2]; exact h⟩
theorem s_eql (h : k (.bool (decide (a = b)))) : binP .eql (vi a) (vi b) k := ⟨_, rfl, h⟩
theorem s_neq (h : k (.bool (decide (a ≠ b)))) : binP .neq (vi a) (vi b) k := ⟨_, rfl, by
  have : (a != b) = decide (a ≠ b) := by rw [Bool.eq_iff_iff]; simp
  rw [this]; exact h⟩
theorem s_lss (h : k (.bool (decide (a < b)))) : binP .lss (vi a) (vi b) k := ⟨_, rfl, h⟩
theorem s_leq (h : k (.bool (decide (a ≤ b)))) : binP .leq (vi a) (vi b) k := ⟨_, rfl, h⟩
theorem s_gtr (h : k (.bool (decide (b < a)))) : binP .gtr (vi a) (vi b) k := ⟨_, rfl, h⟩
theorem s_geq (h : k (.bool (decide (b ≤ a)))) : binP .geq (vi a) (vi b) k := ⟨_, rfl, h⟩

theorem s_cond {c : Bool} (hA : c = true → A) (hB : c = false → B) : condP (.bool c) A B := ⟨hA, hB⟩
theorem s_condD {p : Prop} [Decidable p] (hA : p → A) (hB : ¬ p → B) : condP (.bool (decide p)) A B := ⟨fun h => hA (of_decide_eq_true h), fun h => hB (of_decide_eq_false h)⟩
theorem s_condT {c : Bool} (hc : c = true) (hA : A) : condP (.bool c) A B := ⟨fun _ => hA, fun h => (by rw [hc] at h; cases h)⟩
theorem s_condF {c : Bool} (hc : c = false) (hB : B) : condP (.bool c) A B := ⟨fun h => (by rw [hc] at h; cases h), fun _ => hB⟩
theorem s_guardT {c : Bool} (hA : c = true → A) (hB : c = false → B) : guardP (.bool c) true A B := ⟨hA, hB⟩
theorem s_guardF {c : Bool} (hA : c = false → A) (hB : c = true → B) : guardP (.bool c) false A B := ⟨hA, hB⟩
theorem s_not {c : Bool} (h : k (.bool (!c))) : notP (.bool c) k := h
theorem s_pick {c : Bool} {x y : Value} (h : k (if c then x else y)) : pickP (.bool c) x y k := by
  cases c
  · exact h
  · exact h

theorem bool_dec {p q : Prop} [Decidable p] [Decidable q] (h : p ↔ q) : Value.bool (decide p) = .bool (decide q) := by simp [h]

/-- what is joined goes on in each way -/
theorem s_join {B : (List Value → World → Prop) → Prop} {K : List Value → (Nat → Value) → World → Prop} (h : B fun vs w => ∀ j, K vs j w) : joinP B K :=
  ⟨_, h, fun _ j _ h => h j⟩
/-- what is joined goes on from a middle -/
theorem s_joinM {B : (List Value → World → Prop) → Prop} {K : List Value → (Nat → Value) → World → Prop} (M : List Value → World → Prop) (h : B M) (hM : ∀ vs j w, M vs w → K vs j w) : joinP B K :=
  ⟨M, h, hM⟩
theorem s_loop {body : (List Value → World → Prop) → List Value → (Nat → Value) → World → Prop} {init : List Value} {w : World}
    (I : List Value → World → Prop) (μ : List Value → World → Nat) (h0 : I init w)
    (h : ∀ vs j w, I vs w → body (fun vs' w' => I vs' w' ∧ μ vs' w' < μ vs w) vs j w) : loopP body init w := ⟨I, μ, h0, h⟩
theorem s_held {body : (World → Prop) → Prop} (S : World → Prop) (h : body S) : heldP body := ⟨S, h⟩

end

section
variable {P : Program} {w : World} {k : Value → World → Prop}

/-- an index of a slice that begins at a known place -/
theorem s_idx {b o n cap sz : Nat} {i : Int} {k : Value → Prop} (h0 : 0 ≤ i) (h1 : i < n) (h : k (pb b (o + i.toNat * sz))) : idxP sz (.slice (some ⟨b, o, none⟩) n cap) (vi i) k :=
  ⟨⟨h0, h1⟩, by rw [addr_add]; exact h⟩

theorem s_pure {P : Program} {s : Sem Value} {k : Value → Prop} {v : Value} (hr : ∀ w, s.run P w = .ok v w) (h : k v) : pureP P s k := ⟨v, hr, h⟩
theorem s_sem {s : Sem Value} {v : Value} {w' : World} (hr : s.run P w = .ok v w') (h : k v w') : semP P s w k := ⟨v, w', hr, h⟩

/-- parts in order -/
def idxd (vs : List Value) : Nat → List (Nat × Value)
  | i => match vs with
    | [] => []
    | v :: r => (i, v) :: idxd r (i + 1)

theorem foldl_seg (off : Nat) : ∀ (vs : List Value) (i : Nat) (cs : Array Value), off + i + vs.length ≤ cs.size →
    ∃ r, (vs.zipIdx i).foldl (fun (cs : Array Value) (x : Value × Nat) => cs.setIfInBounds (off + x.2) x.1) cs = r ∧ r.size = cs.size ∧
      ∀ j, r[j]? = if off + i ≤ j ∧ j < off + i + vs.length then vs[j - (off + i)]? else cs[j]?
  | [], i, cs, _ => ⟨cs, rfl, rfl, fun j => by rw [if_neg (by simp)]⟩
  | v :: t, i, cs, h => by
    simp only [List.length_cons] at h
    obtain ⟨r, h1, h2, h3⟩ := foldl_seg off t (i + 1) (cs.setIfInBounds (off + i) v) (by simp; omega)
    refine ⟨r, by rw [List.zipIdx_cons, List.foldl_cons]; exact h1, by simpa using h2, fun j => ?_⟩
    rw [h3 j]
    simp only [Array.getElem?_setIfInBounds, List.length_cons]
    by_cases h0 : j = off + i
    · subst h0
      rw [if_neg (by omega), if_pos rfl, if_pos (by omega), if_pos ⟨by omega, by omega⟩]
      simp
    · by_cases hc : off + (i + 1) ≤ j ∧ j < off + (i + 1) + t.length
      · rw [if_pos hc, if_pos ⟨by omega, by omega⟩, show j - (off + i) = (j - (off + (i + 1))) + 1 from by omega]
        simp
      · rw [if_neg hc, if_neg (by omega), if_neg (by omega)]

/-- what a slice's literal holds -/
def flat (vs : List Value) : List Value := vs.flatMap fun v => v.cells.toList

theorem fill_idxd (sz : Nat) : ∀ (vs : List Value) (i : Nat) (cs : Array Value), (∀ v ∈ vs, v.cells.size = sz) → (i + vs.length) * sz ≤ cs.size →
    ∃ r, Instr.fill (fun i => some (i * sz, sz)) cs (idxd vs i) = some r ∧ r.size = cs.size ∧
      ∀ j, r[j]? = if i * sz ≤ j ∧ j < (i + vs.length) * sz then (flat vs)[j - i * sz]? else cs[j]?
  | [], i, cs, _, _ => ⟨cs, rfl, rfl, fun j => by rw [if_neg (by simp)]⟩
  | v :: t, i, cs, hs, hl => by
    have hv := hs v (List.mem_cons_self ..)
    simp only [List.length_cons] at hl
    have e1 : (i + (t.length + 1)) * sz = i * sz + sz + t.length * sz := by rw [Nat.add_mul, Nat.add_mul, Nat.one_mul]; omega
    have e2 : (i + 1 + t.length) * sz = i * sz + sz + t.length * sz := by rw [Nat.add_mul, Nat.add_mul, Nat.one_mul]
    have e3 : (i + 1) * sz = i * sz + sz := by rw [Nat.add_mul, Nat.one_mul]
    have hfit : i * sz + v.cells.size ≤ cs.size := by omega
    obtain ⟨r0, g1, g2, g3⟩ := foldl_seg (i * sz) v.cells.toList 0 cs (by simpa using hfit)
    obtain ⟨r, h1, h2, h3⟩ := fill_idxd sz t (i + 1) r0 (fun u hu => hs u (List.mem_cons_of_mem _ hu)) (by omega)
    refine ⟨r, ?_, by omega, fun j => ?_⟩
    · simp only [idxd, Instr.fill]
      have hfold : v.cells.zipIdx.foldl (fun cs (x : Value × Nat) => cs.setIfInBounds (i * sz + x.2) x.1) cs = r0 := by
        rw [← g1, ← Array.foldl_toList]
        congr 1
        simp
      have hfold' : Array.foldl (fun (cs : Array Value) (x : Value × Nat) => cs.setIfInBounds (i * sz + x.2) x.1) cs v.cells.zipIdx 0 v.cells.size = r0 := by
        rw [← hfold]; simp
      rw [if_neg (by simp [hv]; omega)]
      first | (rw [hfold]; exact h1) | (rw [hfold']; exact h1) | simpa [hfold'] using h1
    · rw [h3 j, g3 j]
      simp only [List.length_cons, Array.length_toList, Nat.add_zero, hv]
      have hfl : flat (v :: t) = v.cells.toList ++ flat t := by simp [flat]
      rw [hfl]
      simp only [e1, e2, e3]
      by_cases ha : i * sz ≤ j ∧ j < i * sz + sz
      · rw [if_neg (by omega), if_pos ha, if_pos (by omega), List.getElem?_append_left (by simp [hv]; omega)]
      · rw [if_neg ha]
        by_cases hb : i * sz + sz ≤ j ∧ j < i * sz + sz + t.length * sz
        · rw [if_pos hb, if_pos (by omega), List.getElem?_append_right (by simp [hv]; omega)]
          congr 1
          simp [hv]; omega
        · rw [if_neg hb, if_neg (by omega)]

theorem flat_size {vs : List Value} {sz : Nat} (h : ∀ v ∈ vs, v.cells.size = sz) : (flat vs).length = vs.length * sz := by
  induction vs with
  | nil => simp [flat]
  | cons v t ih =>
    have hfl : flat (v :: t) = v.cells.toList ++ flat t := by simp [flat]
    rw [hfl, List.length_append, ih fun u hu => h u (List.mem_cons_of_mem _ hu), Array.length_toList, h v (List.mem_cons_self ..), List.length_cons, Nat.add_mul, Nat.one_mul, Nat.add_comm]

/-- a slice's literal -/
theorem s_bslice {t e : TypeId} {sz by_ : Nat} {z : List Value} (hT : SliceT P t e sz by_ z) (vs : List Value) {n : Nat} {parts : Array (Nat × Value)}
    (hp : parts.toList = idxd vs 0) (hn : vs.length = n) (hs : ∀ v ∈ vs, v.cells.size = sz) (hb : n * sz ≤ 16777216)
    (h : ∀ b w', At w' b (flat vs) e → Keep NoB w w' → b = w.heap.size → w'.heap.size = b + 1 → k (.slice (some ⟨b, 0, none⟩) n n) w') :
    semP P (Instr.buildSlice t n parts) w k := by
  subst hn
  obtain ⟨zv, hzv, hzc⟩ := hT.run_zero (P := P) w
  let c0 : Array Value := (Array.range (vs.length * sz)).map fun i => (if vs.length * sz = 0 then (#[] : Array Value) else zv.cells)[i % (if vs.length * sz = 0 then (#[] : Array Value) else zv.cells).size]!
  have hc0 : c0.size = vs.length * sz := by simp [c0]
  obtain ⟨r, h1, h2, h3⟩ := fill_idxd sz vs 0 c0 hs (by rw [hc0, Nat.zero_add]; exact Nat.le_refl _)
  have hr : r = (flat vs).toArray := by
    apply Array.ext_getElem?
    intro j
    rw [h3 j]
    simp only [Nat.zero_mul, Nat.zero_le, true_and, Nat.zero_add, Nat.sub_zero, List.getElem?_toArray]
    split
    · rfl
    · rw [Array.getElem?_eq_none (by omega), List.getElem?_eq_none (by rw [flat_size hs]; omega)]
  subst hr
  have hrun : (Instr.buildSlice t vs.length parts).run P w = .ok (.slice (some ⟨w.heap.size, 0, none⟩) vs.length vs.length) (w.alloc (.cells (flat vs).toArray e)) := by
    have hlim : ¬ (vs.length * sz > 2 ^ 24) := by omega
    unfold Instr.buildSlice
    simp only [Sem.run_bind', hT.run_und, hT.run_size]
    rw [if_neg hlim]
    by_cases h0 : vs.length * sz = 0
    · simp only [h0, if_true] at h1 ⊢
      simp only [Sem.run_bind', run_pure', hp]
      have : c0 = (Array.range 0).map fun i => (#[] : Array Value)[i % (#[] : Array Value).size]! := by simp [c0, h0]
      rw [this] at h1
      rw [h1]
      simp only [Sem.run_bind', run_newRow, run_pure']
    · simp only [h0, if_false] at h1 ⊢
      simp only [Sem.run_bind', hzv, run_pure', hp]
      have : c0 = (Array.range (vs.length * sz)).map fun i => zv.cells[i % zv.cells.size]! := by simp [c0, h0]
      rw [this] at h1
      rw [h1]
      simp only [Sem.run_bind', run_newRow, run_pure']
  refine ⟨_, _, hrun, ?_⟩
  have hh : (w.alloc (.cells (flat vs).toArray e)).heap = w.heap.push (.cells (flat vs).toArray e) := rfl
  refine h w.heap.size _ ?_ ⟨rfl, rfl, rfl, by rw [hh]; simp, fun i hi _ => ?_⟩ rfl (by rw [hh]; simp)
  · unfold At; rw [hh]; simp
  · rw [hh, Array.getElem?_push, if_neg (by omega)]

/-- a slice that is made, n elements of zero -/
theorem s_mkslice {t e : TypeId} {sz by_ : Nat} {z : List Value} (hT : SliceT P t e sz by_ z) {n : Nat} (hb : n ≤ 16777216)
    (h : ∀ b w', At w' b ((List.replicate n z).flatten) e → Keep NoB w w' → b = w.heap.size → w'.heap.size = b + 1 → k (.slice (some ⟨b, 0, none⟩) n n) w') :
    semP P (Instr.makeSlice t (vi n) (vi n)) w k := by
  obtain ⟨zv, hzv, hzc⟩ := hT.run_zero (P := P) w
  obtain ⟨i0, hi0, hby⟩ := hT.run_info (P := P) w
  have hw : IntKind.i64.wrap (n : Int) = n := wr_id (by omega) (by omega)
  have hask : ∀ (by' : Nat) (w' : World), (askRoom by').run P w' = .ok () w' := fun by' w' => by
    unfold askRoom; split <;> rfl
  have hbig : ¬ ((by_ : Int) * n > 2 ^ 48) := by
    have h1 : (by_ : Int) * n ≤ 1024 * 16777216 := by
      have := Nat.mul_le_mul hT.fit hb
      omega
    have : (2 ^ 48 : Int) = 281474976710656 := by decide
    omega
  have hrep : (Array.range (n * sz)).map (fun i => zv.cells[i % zv.cells.size]!) = ((List.replicate n z).flatten).toArray := by
    apply Array.ext_getElem?
    intro j
    rw [hzc]
    have hfl : ((List.replicate n z).flatten).length = n * sz := by simp [hT.zlen]
    by_cases hj : j < n * sz
    · have hsz : z.toArray.size = sz := by simp [hT.zlen]
      have hm : j % sz < z.length := by rw [hT.zlen]; exact Nat.mod_lt _ hT.pos
      have hg : ∀ (n j : Nat), j < n * sz → ((List.replicate n z).flatten)[j]? = z[j % sz]? := by
        intro n
        induction n with
        | zero => intro j hj; simp at hj
        | succ n ih =>
          intro j hj
          rw [List.replicate_succ, List.flatten_cons]
          by_cases h1 : j < sz
          · rw [List.getElem?_append_left (by rw [hT.zlen]; exact h1), Nat.mod_eq_of_lt h1]
          · rw [List.getElem?_append_right (by rw [hT.zlen]; omega), hT.zlen, ih _ (by rw [Nat.add_mul] at hj; omega)]
            rw [← Nat.mod_eq_sub_mod (by omega)]
      have hR : ((List.replicate n z).flatten.toArray)[j]? = z[j % sz]? := by rw [List.getElem?_toArray]; exact hg n j hj
      rw [hR]
      simp [hj, hT.zlen, hm, getElem!_pos, List.getElem?_eq_getElem hm]
    · rw [Array.getElem?_eq_none (by simp; omega), List.getElem?_toArray, List.getElem?_eq_none (by omega)]
  have hasI : (asInt (vi n)).run P w = .ok (n : Int) w := rfl
  have hl0 : ¬ ((n : Int) < 0) := by omega
  have hrun : (Instr.makeSlice t (vi n) (vi n)).run P w = .ok (.slice (some ⟨w.heap.size, 0, none⟩) n n) (w.alloc (.cells ((List.replicate n z).flatten).toArray e)) := by
    unfold Instr.makeSlice
    simp only [Sem.run_bind', hT.run_und, hasI, hi0, hby, hw, hl0, hbig, decide_false, Bool.or_self, Int.lt_irrefl, gt_iff_lt, Bool.false_eq_true, if_false, run_pure', hask, hT.run_size, Int.toNat_natCast]
    by_cases h0 : n * sz = 0
    · simp only [h0, if_true, run_pure']
      have hn0 : n = 0 := by rcases Nat.mul_eq_zero.1 h0 with h | h; exact h; have := hT.pos; omega
      subst hn0
      have e0 : (Array.range 0).map (fun x => (#[] : Array Value)[x % (#[] : Array Value).size]!) = #[] := by simp
      simp only [Sem.run_bind', run_pure', e0, run_newRow]
      rfl
    · simp only [h0, if_false, Sem.run_bind', hzv, run_pure', hrep, run_newRow]
  refine ⟨_, _, hrun, ?_⟩
  have hh : (w.alloc (.cells ((List.replicate n z).flatten).toArray e)).heap = w.heap.push (.cells ((List.replicate n z).flatten).toArray e) := rfl
  refine h w.heap.size _ ?_ ⟨rfl, rfl, rfl, by rw [hh]; simp, fun i hi _ => ?_⟩ rfl (by rw [hh]; simp)
  · unfold At; rw [hh]; simp
  · rw [hh, Array.getElem?_push, if_neg (by omega)]

theorem run_asInt (n : Int) (w : World) : (asIntOf (vi n)).run P w = .ok (.i64, n) w := rfl

/-- x[lo:hi] of a slice -/
theorem run_slice {t e : TypeId} {sz by_ : Nat} {z : List Value} (hT : SliceT P t e sz by_ z) {a : Option Addr} {n cap lo hi : Nat} (h1 : lo ≤ hi) (h2 : hi ≤ cap) (w : World) :
    (Instr.sliceAt t (.slice a n cap) (some (vi lo)) (some (vi hi)) none).run P w = .ok (.slice (if cap = lo then a else a.map (·.add (lo * sz))) (hi - lo) (cap - lo)) w := by
  have c1 : (0 : Int) ≤ hi ∧ (hi : Int) ≤ cap := by omega
  have c2 : (0 : Int) ≤ lo ∧ (lo : Int) ≤ hi := by omega
  have c3 : ¬ hi < lo := by omega
  simp [c3, Instr.sliceAt, Sem.run_bind', hT.run_und, Instr.slice, Instr.sliceBounds, Instr.sliceBound, run_asInt, c1, c2, hT.run_size, run_pure']
theorem run_sliceLo {t e : TypeId} {sz by_ : Nat} {z : List Value} (hT : SliceT P t e sz by_ z) {a : Option Addr} {n cap lo : Nat} (h1 : lo ≤ n) (w : World) :
    (Instr.sliceAt t (.slice a n cap) (some (vi lo)) none none).run P w = .ok (.slice (if cap = lo then a else a.map (·.add (lo * sz))) (n - lo) (cap - lo)) w := by
  have c2 : (0 : Int) ≤ lo ∧ (lo : Int) ≤ n := by omega
  simp [Instr.sliceAt, Sem.run_bind', hT.run_und, Instr.slice, Instr.sliceBounds, Instr.sliceBound, run_asInt, c2, hT.run_size, run_pure']
theorem run_sliceHi {t e : TypeId} {sz by_ : Nat} {z : List Value} (hT : SliceT P t e sz by_ z) {a : Option Addr} {n cap hi : Nat} (h2 : hi ≤ cap) (w : World) :
    (Instr.sliceAt t (.slice a n cap) none (some (vi hi)) none).run P w = .ok (.slice (if cap = 0 then a else a.map (·.add (0 * sz))) (hi - 0) (cap - 0)) w := by
  have c1 : (0 : Int) ≤ hi ∧ (hi : Int) ≤ cap := by omega
  simp [Instr.sliceAt, Sem.run_bind', hT.run_und, Instr.slice, Instr.sliceBounds, Instr.sliceBound, run_asInt, c1, hT.run_size, run_pure']

/-- a part of a slice that is read -/
theorem Sl.part {α : Type} {D : Nat → Prop} {enc : α → List Value} {w : World} {v : Value} {l : List α} {sz : Nat} (hs : Sl D enc w v l) (hsz : ∀ x ∈ l, (enc x).length = sz)
    {a : Option Addr} {n cap lo hi : Nat} (hv : v = .slice a n cap) (h1 : lo ≤ hi) (h2 : hi ≤ l.length) :
    Sl D enc w (.slice (if cap = lo then a else a.map (·.add (lo * sz))) (hi - lo) (cap - lo)) ((l.take hi).drop lo) := by
  obtain ⟨a', cap', hv', hcap, h3⟩ := hs
  rw [hv] at hv'
  cases hv'
  refine ⟨_, _, by rw [List.length_drop, List.length_take]; congr 1; omega, by rw [List.length_drop, List.length_take]; omega, fun hne => ?_⟩
  have hlt : lo < hi := by
    rcases Nat.lt_or_ge lo hi with h | h
    · exact h
    · exact absurd (List.drop_eq_nil_of_le (by rw [List.length_take]; omega)) hne
  obtain ⟨b, o, rfl, hd, hb, hc⟩ := h3 (by rintro rfl; simp at h2; omega)
  rw [if_neg (by omega)]
  refine ⟨b, o + lo * sz, by simp, hd, hb, fun j u hj => ?_⟩
  have hlen : (((l.take hi).drop lo).flatMap enc).length = (hi - lo) * sz := by
    rw [flat_len _ (fun x hx => hsz x (List.mem_of_mem_take (List.mem_of_mem_drop hx))), List.length_drop, List.length_take]; congr 1; omega
  have hjl : j < (hi - lo) * sz := by
    rw [← hlen]
    rcases Nat.lt_or_ge j (((l.take hi).drop lo).flatMap enc).length with h | h
    · exact h
    · rw [List.getElem?_eq_none h] at hj; cases hj
  have hpos : 0 < sz := by rcases Nat.eq_zero_or_pos sz with h | h; subst h; simp at hjl; exact h
  have hq : j / sz < hi - lo := Nat.div_lt_of_lt_mul (by rw [Nat.mul_comm]; exact hjl)
  have hr : j % sz < sz := Nat.mod_lt _ hpos
  have hjq : j = j / sz * sz + j % sz := by have := Nat.div_add_mod j sz; rw [Nat.mul_comm] at this; omega
  have hx : ((l.take hi).drop lo)[j / sz]? = l[lo + j / sz]? := by rw [List.getElem?_drop, List.getElem?_take]; simp; omega
  have hin : lo + j / sz < l.length := by omega
  have hx1 : l[lo + j / sz]? = some l[lo + j / sz] := List.getElem?_eq_getElem hin
  have e1 := flat_get _ (fun x hx => hsz x (List.mem_of_mem_take (List.mem_of_mem_drop hx))) (j / sz) (j % sz) _ (hx.trans hx1) hr
  have e2 := flat_get l hsz (lo + j / sz) (j % sz) _ hx1 hr
  rw [← hjq] at e1
  have := hc ((lo + j / sz) * sz + j % sz) u (by rw [e2, ← e1]; exact hj)
  rw [show o + lo * sz + j = o + ((lo + j / sz) * sz + j % sz) from by rw [Nat.add_mul]; omega]
  exact this
end
end Go.Eng

/-! Loops. -/
namespace Go.Eng
open Go

theorem least {Q : Nat → Prop} (h : ∃ k, Q k) : ∃ k, Q k ∧ ∀ m, Q m → k ≤ m := by
  obtain ⟨k, hk⟩ := h
  induction k using Nat.strongRecOn with
  | _ k ih =>
    by_cases h : ∃ m, m < k ∧ Q m
    · obtain ⟨m, hm, hq⟩ := h; exact ih m hm hq
    · exact ⟨k, hk, fun m hq => by
        rcases Nat.lt_or_ge m k with h' | h'
        · exact absurd ⟨m, h', hq⟩ h
        · exact h'⟩

/-- A loop over states that a measure lowers. -/
theorem s_while {σ : Type} {body : (List Value → World → Prop) → List Value → (Nat → Value) → World → Prop} {init : List Value} {w : World}
    (rep : σ → List Value) (J : σ → World → Prop) (m : σ → Nat) (s0 : σ) (hi : init = rep s0) (h0 : J s0 w)
    (h : ∀ s w' j nx, J s w' → (∀ s' w'', J s' w'' → m s' < m s → nx (rep s') w'') → body nx (rep s) j w') : loopP body init w := by
  classical
  let Qk : List Value → World → Nat → Prop := fun vs w k => ∃ s, vs = rep s ∧ J s w ∧ m s = k
  let μ : List Value → World → Nat := fun vs w => if hh : ∃ k, Qk vs w k then Classical.choose (least hh) else 0
  have hμ : ∀ s w, J s w → μ (rep s) w ≤ m s := fun s w hj => by
    have hh : ∃ k, Qk (rep s) w k := ⟨_, s, rfl, hj, rfl⟩
    simp only [μ, dif_pos hh]
    exact (Classical.choose_spec (least hh)).2 _ ⟨s, rfl, hj, rfl⟩
  refine ⟨fun vs w => ∃ s, vs = rep s ∧ J s w, μ, ⟨s0, hi, h0⟩, ?_⟩
  rintro vs j w' ⟨s1, rfl, hj1⟩
  have hh : ∃ k, Qk (rep s1) w' k := ⟨_, s1, rfl, hj1, rfl⟩
  obtain ⟨⟨s, hs, hj, hm⟩, _⟩ := Classical.choose_spec (least hh)
  have hms : m s = μ (rep s1) w' := by simp only [μ, dif_pos hh]; exact hm
  have := h s w' j (fun vs' w'' => (∃ s, vs' = rep s ∧ J s w'') ∧ μ vs' w'' < μ (rep s1) w') hj fun s' w'' hj' hlt =>
    ⟨⟨s', rfl, hj'⟩, by have := hμ s' w'' hj'; omega⟩
  rw [← hs] at this
  exact this

/-- A loop that counts from 0 to n. -/
theorem s_for {σ : Type} {body : (List Value → World → Prop) → List Value → (Nat → Value) → World → Prop} {init : List Value} {w : World}
    (n : Nat) (rep : Nat → σ → List Value) (J : Nat → σ → World → Prop) (s0 : σ) (hi : init = rep 0 s0) (h0 : J 0 s0 w)
    (h : ∀ i s w' j nx, J i s w' → i ≤ n → (∀ s' w'', i < n → J (i + 1) s' w'' → nx (rep (i + 1) s') w'') → body nx (rep i s) j w') : loopP body init w := by
  refine s_while (σ := Nat × σ) (fun p => rep p.1 p.2) (fun p w => p.1 ≤ n ∧ J p.1 p.2 w) (fun p => n - p.1) (0, s0) hi ⟨Nat.zero_le _, h0⟩ ?_
  rintro ⟨i, s⟩ w' j nx ⟨hin, hj⟩ hnx
  exact h i s w' j nx hj hin fun s' w'' hlt hj' => hnx (i + 1, s') w'' ⟨hlt, hj'⟩ (by show n - (i + 1) < n - i; omega)

/-- the same with no state but the count -/
theorem s_range {body : (List Value → World → Prop) → List Value → (Nat → Value) → World → Prop} {w : World}
    (n : Nat) (J : Nat → World → Prop) (h0 : J 0 w)
    (h : ∀ i w' j nx, J i w' → i ≤ n → (∀ w'', i < n → J (i + 1) w'' → nx [vi ((i : Int) + 1)] w'') → body nx [vi i] j w') : loopP body [vi 0] w :=
  s_for (σ := Unit) n (fun i _ => [vi i]) (fun i _ w => J i w) () rfl h0 fun i _ w' j nx hj hn hnx => h i w' j nx hj hn fun w'' => hnx () w''

end Go.Eng

/-! Steps that come together often. -/
namespace Go.Eng
open Go

section
variable {P : Program} {w : World}

/-- a variable of its own that gets a value -/
theorem s_var {e : TypeId} {z : Array Value} {n : Nat} {vs : List Value} {K : Value → World → Prop} (hz : z.size = n) (hn : vs.length = n) (hv : vs.all one = true)
    (h : ∀ b w', At w' b vs e → Keep NoB w w' → b = w.heap.size → w'.heap.size = b + 1 → K (pb b 0) w') : newP e z w fun v w2 => stA n v (.agg vs.toArray) w2 (K v) := by
  have : z = z.toList.toArray := by simp
  rw [this]
  refine s_new (cs := z.toList) fun b w2 hat hk hb hs => ?_
  refine s_stA hat hn (by simpa using hz) hv fun w3 hat3 hk3 hs3 => ?_
  exact h b w3 hat3 (hk.new hk3 fun i hi => .inr (by omega)) hb (by omega)

/-- a variable of its own that gets one cell -/
theorem s_var1 {e : TypeId} {z v : Value} {K : Value → World → Prop} (hv : one v = true)
    (h : ∀ b w', At w' b [v] e → Keep NoB w w' → b = w.heap.size → w'.heap.size = b + 1 → K (pb b 0) w') : newP e #[z] w fun p w2 => st p v w2 (K p) := by
  refine s_new (cs := [z]) fun b w2 hat hk hb hs => ?_
  refine s_st hat (by simp) hv fun w3 hat3 hk3 hs3 => ?_
  exact h b w3 hat3 (hk.new hk3 fun i hi => .inr (by omega)) hb (by omega)

variable {α : Type} {D : Nat → Prop} {enc : α → List Value} {v : Value} {l : List α} {t e : TypeId} {sz by_ : Nat} {z : List Value} {k : Value → Prop}

theorem s_sliceHi (hT : SliceT P t e sz by_ z) (hl : Sl D enc w v l) (hsz : ∀ x ∈ l, (enc x).length = sz) {hi : Nat} (h : hi ≤ l.length)
    (hk : ∀ v', Sl D enc w v' (l.take hi) → k v') : pureP P (Instr.sliceAt t v none (some (vi hi)) none) k := by
  have hl0 := hl
  obtain ⟨a, cap, rfl, hcap, _⟩ := hl0
  refine ⟨_, run_sliceHi hT (by omega), hk _ ?_⟩
  have := hl.part hsz rfl (lo := 0) (hi := hi) (by omega) h
  simpa using this
theorem s_sliceLo (hT : SliceT P t e sz by_ z) (hl : Sl D enc w v l) (hsz : ∀ x ∈ l, (enc x).length = sz) {lo : Nat} (h : lo ≤ l.length)
    (hk : ∀ v', Sl D enc w v' (l.drop lo) → k v') : pureP P (Instr.sliceAt t v (some (vi lo)) none none) k := by
  have hl0 := hl
  obtain ⟨a, cap, rfl, hcap, _⟩ := hl0
  refine ⟨_, run_sliceLo hT (by omega), hk _ ?_⟩
  have := hl.part hsz rfl (lo := lo) (hi := l.length) (by omega) (Nat.le_refl _)
  simpa using this
theorem s_slice (hT : SliceT P t e sz by_ z) (hl : Sl D enc w v l) (hsz : ∀ x ∈ l, (enc x).length = sz) {lo hi : Nat} (h1 : lo ≤ hi) (h2 : hi ≤ l.length)
    (hk : ∀ v', Sl D enc w v' ((l.take hi).drop lo) → k v') : pureP P (Instr.sliceAt t v (some (vi lo)) (some (vi hi)) none) k := by
  have hl0 := hl
  obtain ⟨a, cap, rfl, hcap, _⟩ := hl0
  exact ⟨_, run_slice hT h1 (by omega), hk _ (hl.part hsz rfl h1 h2)⟩
end

theorem Sl.one {α : Type} {D : Nat → Prop} {enc : α → List Value} {w : World} {v : Value} {l : List α} (h : Sl D enc w v l) : Eng.one v = true := by
  obtain ⟨a, cap, rfl, _⟩ := h; rfl
/-- blocks that were there -/
abbrev Old (w0 : World) : Nat → Prop := fun i => i < w0.heap.size
theorem Sl.lt {α : Type} {D : Nat → Prop} {enc : α → List Value} {w : World} {v : Value} {l : List α} (h : Sl D enc w v l) : Sl (Old w) enc w v l := by
  obtain ⟨a, cap, rfl, h1, h2⟩ := h
  exact ⟨a, cap, rfl, h1, fun hne => let ⟨b, o, e1, e2, e3, e4⟩ := h2 hne; ⟨b, o, e1, e3, e3, e4⟩⟩
theorem callV_mono {P : Program} {f : Value} {args : Array Value} {w : World} {K K' : Value → World → Prop} (h : callV P f args w K) (hk : ∀ v w', K v w' → K' v w') : callV P f args w K' := by
  unfold callV at *
  split at h
  · exact h.mono hk
  · exact h.elim
theorem Sl.old {α : Type} {D : Nat → Prop} {enc : α → List Value} {w : World} {v : Value} {l : List α} (h : Sl D enc w v l) : Sl (fun b => D b ∧ b < w.heap.size) enc w v l := by
  obtain ⟨a, cap, rfl, h1, h2⟩ := h
  exact ⟨a, cap, rfl, h1, fun hne => let ⟨b, o, e1, e2, e3, e4⟩ := h2 hne; ⟨b, o, e1, ⟨e2, e3⟩, e3, e4⟩⟩
theorem pureP_mono {P : Program} {q : Sem Value} {K K' : Value → Prop} (h : pureP P q K) (hk : ∀ v, K v → K' v) : pureP P q K' := let ⟨v, h1, h2⟩ := h; ⟨v, h1, hk v h2⟩
theorem stA_mono {n : Nat} {a v : Value} {w : World} {K K' : World → Prop} (h : stA n a v w K) (hk : ∀ w', K w' → K' w') : stA n a v w K' := by
  unfold stA at *
  split at h
  · exact ⟨h.1, h.2.1, hk _ h.2.2⟩
  · exact h.elim
theorem idx_of_lt {α : Type} {l : List α} {i : Nat} (h : i < l.length) : ∃ x, l[i]? = some x := ⟨_, List.getElem?_eq_getElem h⟩
theorem lt_of_idx {α : Type} {l : List α} {i : Nat} {x : α} (h : l[i]? = some x) : i < l.length := by
  rcases Nat.lt_or_ge i l.length with h' | h'
  · exact h'
  · rw [List.getElem?_eq_none h'] at h; cases h
theorem take_snoc {α : Type} {l : List α} {i : Nat} {x : α} (h : l[i]? = some x) : l.take (i + 1) = l.take i ++ [x] := by
  rw [List.take_add_one, h]; rfl
theorem all_take {α : Type} {l : List α} {i : Nat} {x : α} {p : α → Prop} (h : l[i]? = some x) (h0 : ∀ y ∈ l.take i, p y) (hx : p x) : ∀ y ∈ l.take (i + 1), p y := by
  rw [take_snoc h]
  intro y hy
  rcases List.mem_append.1 hy with h' | h'
  · exact h0 y h'
  · simp at h'; rw [h']; exact hx

end Go.Eng

/-! Structs that are built; numbers; slices that grow and change. -/
namespace Go.Eng
open Go

/-- what is known of a struct's type: where its fields lie, and its zero -/
structure StructT (P : Program) (t : TypeId) (places : List (Nat × Nat)) (z : List Value) : Prop where
  und : ∃ fs, P.underlying t = some (.struct fs) ∧ fs.toList.map (fun f => (f.offset, (P.info? f.type).map (·.size))) = places.map fun p => (p.1, some p.2)
  zero : ∃ i zv, P.info? t = some i ∧ i.zero = some zv ∧ zv.cells = z.toArray

section
variable {P : Program} {w : World} {k : Value → Prop}

theorem run_places : ∀ (fs : List Field) (places : List (Nat × Nat)) (w : World), fs.map (fun f => (f.offset, (P.info? f.type).map (·.size))) = places.map (fun p => (p.1, some p.2)) →
    (fs.mapM fun f => do pure (f.offset, ← sizeOf f.type) : Sem (List (Nat × Nat))).run P w = .ok places w
  | [], [], w, _ => rfl
  | [], _ :: _, w, h => by simp at h
  | _ :: _, [], w, h => by simp at h
  | f :: r, p :: q, w, h => by
    simp only [List.map_cons, List.cons.injEq, Prod.mk.injEq] at h
    obtain ⟨⟨h1, h2⟩, h3⟩ := h
    cases hi : P.info? f.type with
    | none => rw [hi] at h2; cases h2
    | some i =>
      rw [hi] at h2
      have h2 : i.size = p.2 := by simpa using h2
      rw [List.mapM_cons, Sem.run_bind', Sem.run_bind', Eng.run_size hi]
      simp only [run_pure', Sem.run_bind', run_places r q w h3]
      rw [h1, h2]

theorem StructT.run_build {t : TypeId} {places : List (Nat × Nat)} {z : List Value} (h : StructT P t places z) (parts : Array (Nat × Value)) {cells : Array Value}
    (hf : Instr.fill (fun i => places[i]?) z.toArray parts.toList = some cells) (w : World) : (Instr.build t parts).run P w = .ok (.agg cells) w := by
  obtain ⟨fs, h1, h2⟩ := h.und
  obtain ⟨i, zv, h3, h4, h5⟩ := h.zero
  have hz : (zeroValue t).run P w = .ok zv w := by
    rw [zeroValue, Sem.run_bind', run_typeInfo h3]
    simp [h4, run_pure']
  have hm : (fs.mapM fun f => do pure (f.offset, ← sizeOf f.type) : Sem (Array (Nat × Nat))).run P w = .ok places.toArray w := by
    rw [Array.mapM_eq_mapM_toList, map_eq_pure_bind, Sem.run_bind', run_places _ _ _ h2]
    rfl
  unfold Instr.build
  simp only [Sem.run_bind', hz, Eng.run_und h1, hm]
  have : (fun x : Nat => places.toArray[x]?) = fun i : Nat => places[i]? := by funext i; simp
  rw [this, h5, hf]
  rfl

theorem fold_cells (off : Nat) : ∀ (vs : List Value) (i : Nat) (cs : List Value), 
    (vs.zipIdx i).foldl (fun (cs : Array Value) (x : Value × Nat) => cs.setIfInBounds (off + x.2) x.1) cs.toArray = 
     ((vs.zipIdx i).foldl (fun (cs : List Value) (x : Value × Nat) => cs.set (off + x.2) x.1) cs).toArray 
  | [], i, cs => rfl
  | v :: t, i, cs => by
    rw [List.zipIdx_cons, List.foldl_cons, List.foldl_cons, List.setIfInBounds_toArray, fold_cells]
/-- the same over lists -/
def fillL (place : Nat → Option (Nat × Nat)) (cells : List Value) : List (Nat × Value) → Option (List Value)
  | [] => some cells
  | (i, v) :: rest =>
    match place i with
    | none => none
    | some (off, size) =>
      if v.cells.toList.length ≠ size || off + v.cells.toList.length > cells.length then none
      else fillL place ((v.cells.toList.zipIdx).foldl (fun cs (x : Value × Nat) => cs.set (off + x.2) x.1) cells) rest
theorem fill_list (place : Nat → Option (Nat × Nat)) : ∀ (parts : List (Nat × Value)) (cells : List Value), Instr.fill place cells.toArray parts = (fillL place cells parts).map List.toArray
  | [], cells => rfl
  | (i, v) :: rest, cells => by
    simp only [Instr.fill, fillL]
    cases place i with
    | none => rfl
    | some p =>
      simp only [Array.length_toList, List.size_toArray]
      split
      · rfl
      · rw [← fill_list place rest]
        congr 1
        rw [← fold_cells, ← Array.toList_zipIdx, Array.foldl_toList]
theorem s_build {t : TypeId} {places : List (Nat × Nat)} {z : List Value} (h : StructT P t places z) {parts : Array (Nat × Value)} {cells : List Value}
    (hf : fillL (fun i => places[i]?) z parts.toList = some cells) (hk : k (.agg cells.toArray)) : pureP P (Instr.build t parts) k :=
  ⟨_, h.run_build parts (by rw [fill_list, hf]; rfl), hk⟩

/-! ### numbers -/
theorem s_neg {a : Int} (h1 : -9223372036854775807 ≤ a) (h2 : a ≤ 9223372036854775807) (h : k (vi (-a))) : pureP P (Op.unary .neg (vi a)) k :=
  ⟨vi (wr (0 - a)), fun w => rfl, by rw [show wr (0 - a) = -a from by rw [show wr (0 - a) = 0 - a from wr_id (by omega) (by omega)]; omega]; exact h⟩
theorem max2_eq (a b : Int) : (if b > a then b else a) = max a b := by omega
theorem s_max2 {t1 : TypeId} {ts : Array TypeId} {a b : Int} (h : k (vi (max a b))) : pureP P (Builtin.max_ ts t1 #[vi a, vi b]) k :=
  ⟨vi (max a b), fun w => by rw [← max2_eq]; rfl, h⟩
theorem s_max4 {t1 : TypeId} {ts : Array TypeId} {a b c d : Int} (h : k (vi (max (max (max a b) c) d))) : pureP P (Builtin.max_ ts t1 #[vi a, vi b, vi c, vi d]) k :=
  ⟨vi (max (max (max a b) c) d), fun w => by rw [← max2_eq, ← max2_eq, ← max2_eq]; rfl, h⟩

theorem bits64 : IntKind.i64.bits = 64 := rfl

theorem s_shr {t : TypeId} {x y : Operand} {s p : Nat} (hp : p < 64) (h : k (vi ((s / 2 ^ p : Nat) : Int))) :
    pureP P (do eqGuard .shr t x y (vi s) (vi p); binOp .shr t (vi s) (vi p)) k := by
  refine ⟨_, fun w => ?_, h⟩
  have h0 : ¬ ((p : Int) < 0) := by omega
  have : (binOp .shr t (vi s) (vi p)) = pure (vi ((s / 2 ^ p : Nat) : Int)) := by
    show Op.shift .shr .i64 s .i64 p = _
    unfold Op.shift
    rw [if_neg h0]
    simp only [Int.toNat_natCast, bits64]
    rw [Nat.min_eq_left (by omega)]
    congr 2
    rw [Int.fdiv_eq_ediv_of_nonneg _ (by exact Int.pow_nonneg (by omega))]
    simp
  rw [this]; rfl

theorem s_shl1 {t : TypeId} {x y : Operand} {p : Nat} (hp : p < 62) (h : k (vi ((2 ^ p : Nat) : Int))) :
    pureP P (do eqGuard .shl t x y (vi 1) (vi p); binOp .shl t (vi 1) (vi p)) k := by
  refine ⟨_, fun w => ?_, h⟩
  have h0 : ¬ ((p : Int) < 0) := by omega
  have : (binOp .shl t (vi 1) (vi p)) = pure (vi ((2 ^ p : Nat) : Int)) := by
    show Op.shift .shl .i64 1 .i64 p = _
    unfold Op.shift
    rw [if_neg h0]
    simp only [Int.toNat_natCast, bits64]
    rw [Nat.min_eq_left (by omega), Int.one_mul]
    have h1 : (2 : Int) ^ p = ((2 ^ p : Nat) : Int) := by simp
    have h2 : 2 ^ p ≤ 2 ^ 62 := Nat.pow_le_pow_right (by omega) (by omega)
    rw [h1]
    generalize 2 ^ p = q at h2
    rw [wr_id (by omega) (by omega)]
  rw [this]; rfl

theorem s_bit {t t' : TypeId} {x y x' y' : Operand} {s p : Nat} (hp : p < 64) (hs : s < 4611686018427387904) (h : k (vi (if s.testBit p then 1 else 0))) :
    pureP P (do eqGuard .shr t x y (vi s) (vi p); binOp .shr t (vi s) (vi p)) fun v =>
    pureP P (do eqGuard .and t' x' y' v (.int .i64 1); binOp .and t' v (.int .i64 1)) k := by
  refine s_shr hp ?_
  refine ⟨_, fun w => ?_, h⟩
  have hle : s / 2 ^ p ≤ s := Nat.div_le_self _ _
  have hb : (if s.testBit p then (1 : Int) else 0) = ((s / 2 ^ p % 2 : Nat) : Int) := by
    rw [Nat.testBit_eq_decide_div_mod_eq]
    by_cases hh : s / 2 ^ p % 2 = 1
    · simp [hh]
    · have : s / 2 ^ p % 2 = 0 := by omega
      simp [this]
  generalize s / 2 ^ p = q at *
  have : (binOp .and t' (vi q) (.int .i64 1)) = pure (vi ((q % 2 : Nat) : Int)) := by
    show Op.intBits .and .i64 q 1 = _
    unfold Op.intBits
    have e1 : (BitVec.ofInt IntKind.i64.bits (q : Int) &&& BitVec.ofInt IntKind.i64.bits 1).toNat = q % 2 := by
      show (BitVec.ofInt 64 (q : Int) &&& BitVec.ofInt 64 ((1 : Nat) : Int)).toNat = q % 2
      rw [BitVec.ofInt_natCast, BitVec.ofInt_natCast, BitVec.toNat_and, BitVec.toNat_ofNat, BitVec.toNat_ofNat, Nat.mod_eq_of_lt (by omega), Nat.mod_eq_of_lt (by decide), Nat.and_one_is_mod]
    simp only [e1]
    congr 2
    exact wr_id (by omega) (by omega)
  rw [this, hb]; rfl

/-- a set without a number -/
def clr (s p : Nat) : Nat := (BitVec.ofNat 64 s &&& ~~~ BitVec.ofNat 64 (2 ^ p)).toNat

theorem clr_bit {s p : Nat} (hs : s < 4611686018427387904) (q : Nat) : (clr s p).testBit q = (s.testBit q && decide (q ≠ p)) := by
  unfold clr
  rw [BitVec.testBit_toNat, BitVec.getLsbD_and, BitVec.getLsbD_not, BitVec.getLsbD_ofNat, BitVec.getLsbD_ofNat, Nat.testBit_two_pow]
  by_cases hq : q < 64
  · by_cases hqp : q = p
    · simp [hq, hqp]
    · have : p ≠ q := fun h => hqp h.symm
      simp [hq, hqp, this]
  · have : s.testBit q = false := Nat.testBit_lt_two_pow (Nat.lt_of_lt_of_le hs (show 4611686018427387904 ≤ 2 ^ q from by
      have : (2 : Nat) ^ 62 ≤ 2 ^ q := Nat.pow_le_pow_right (by omega) (by omega)
      exact this))
    simp [hq, this]
theorem clr_le {s p : Nat} (hs : s < 4611686018427387904) : clr s p ≤ s := by
  apply Nat.le_of_testBit
  intro i h
  rw [clr_bit hs] at h
  simp at h; exact h.1
theorem clr_lt {s p : Nat} (hs : s < 4611686018427387904) (hb : s.testBit p = true) : clr s p < s := by
  refine Nat.lt_of_le_of_ne (clr_le hs) fun h => ?_
  have := clr_bit (p := p) hs p
  rw [h, hb] at this; simp at this

theorem s_andNot {t : TypeId} {x y : Operand} {s p : Nat} (hs : s < 4611686018427387904) (hp : p < 62) (h : k (vi (clr s p : Nat))) :
    pureP P (do eqGuard .andNot t x y (vi s) (vi ((2 ^ p : Nat) : Int)); binOp .andNot t (vi s) (vi ((2 ^ p : Nat) : Int))) k := by
  refine ⟨_, fun w => ?_, h⟩
  have hle := clr_le (p := p) hs
  have : (binOp .andNot t (vi s) (vi ((2 ^ p : Nat) : Int))) = pure (vi (clr s p : Nat)) := by
    show Op.intBits .andNot .i64 s ((2 ^ p : Nat) : Int) = _
    unfold Op.intBits
    have e1 : (BitVec.ofInt IntKind.i64.bits (s : Int) &&& ~~~ BitVec.ofInt IntKind.i64.bits ((2 ^ p : Nat) : Int)).toNat = clr s p := by
      show (BitVec.ofInt 64 (s : Int) &&& ~~~ BitVec.ofInt 64 ((2 ^ p : Nat) : Int)).toNat = clr s p
      rw [BitVec.ofInt_natCast, BitVec.ofInt_natCast]; rfl
    simp only [e1]
    congr 2
    exact wr_id (by omega) (by omega)
  rw [this]; rfl

end

/-! ### slices that are nil -/
theorem s_isnil {P : Program} {t e : TypeId} (hu : P.underlying t = some (.slice e)) {x y : Operand} {a : Option Addr} {n cap : Nat} {k : Value → Prop} (h : k (.bool a.isNone)) :
    pureP P (do eqGuard .eql t x y (.slice a n cap) (.slice none 0 0); binOp .eql t (.slice a n cap) (.slice none 0 0)) k := by
  refine ⟨_, fun w => ?_, h⟩
  have h1 : (eqGuard .eql t x y (.slice a n cap) (.slice none 0 0)) = pure () := rfl
  have h2 : (binOp .eql t (.slice a n cap) (.slice none 0 0)) = (do pure (.bool (← Op.equalIn (9999 + 1) t (.slice a n cap) (.slice none 0 0)))) := rfl
  rw [h1, Sem.run_bind', run_pure', h2, Op.equalIn]
  simp only [Sem.run_bind', Eng.run_und hu]
  cases a <;> rfl

end Go.Eng

/-! Lists that a function makes, lengthens and changes. -/
namespace Go.Eng
open Go

/-- blocks that are new since w0 -/
abbrev Fresh (w0 : World) : Nat → Prop := fun i => w0.heap.size ≤ i

section
variable {α : Type} {P : Program} {D : Nat → Prop} {t e : TypeId} {sz by_ : Nat} {z : List Value} {enc : α → List Value} {w : World} {s : Value} {l : List α}

/-- a list of one's own -/
def Ow (D : Nat → Prop) (e : TypeId) (sz : Nat) (enc : α → List Value) (w : World) (v : Value) (l : List α) : Prop := Own D e sz w v l.length (l.flatMap enc)

theorem Ow.sl (h : Ow D e sz enc w s l) : Sl D enc w s l := Own.sl h rfl
theorem Ow.nil : Ow D e sz enc w (.slice none 0 0) ([] : List α) := Own.nil
theorem Ow.keep {M : Nat → Prop} {w' : World} (h : Ow D e sz enc w s l) (k : Keep M w w') (hd : ∀ b, inV s b → ¬ M b) : Ow D e sz enc w' s l := Own.keep h k hd
theorem Ow.keep0 {w' : World} (h : Ow D e sz enc w s l) (k : Keep NoB w w') : Ow D e sz enc w' s l := Own.keep0 h k
theorem Ow.drew (h : Ow D e sz enc w s l) : Ow D e sz enc w.drew s l := Own.drew h
theorem Ow.len (h : Ow D e sz enc w s l) {k : Value → Prop} (hk : k (vi l.length)) : lenP s k := Own.len h hk
theorem Ow.one (h : Ow D e sz enc w s l) : Eng.one s = true := h.sl.one

/-- an element that is appended -/
theorem s_push (hT : SliceT P t e sz by_ z) {y : α} {x : Value} {ty : TypeId} {k : Value → World → Prop} (ho : Ow D e sz enc w s l) (hx : x.cells = (enc y).toArray) (hsz : (enc y).length = sz)
    (hone : (enc y).all Eng.one = true) (hb : l.length + 1 ≤ 16777216) (hs : 1 * sz ≤ 16777216) (hD : ∀ i, w.heap.size ≤ i → D i)
    (h : ∀ v' w', Ow D e sz enc w' v' (l ++ [y]) → Keep (inV s) w w' → (∀ i, inV v' i → inV s i ∨ w.heap.size ≤ i) → k v' w') :
    semP P (Instr.buildSlice t 1 #[(0, x)]) w fun u w1 => semP P (Builtin.append_ #[t, t] ty #[s, u]) w1 k := by
  have hfl : flat [x] = enc y := by simp [flat, hx]
  refine s_bslice hT [x] rfl rfl (fun v hv => by simp at hv; subst hv; simp [hx, hsz]) hs fun b w1 hat hk hbw hsz1 => ?_
  rw [hfl] at hat
  refine s_append hT (ho.keep0 hk) (src_new hat (by rw [hsz, Nat.one_mul])) hone hb (fun i hi => hD i (by have := hk.size; omega)) fun v' w' ho' hk' hi' _ => ?_
  refine h v' w' ?_ (hk.none.trans hk') fun i hi => ?_
  · unfold Ow
    rw [List.length_append, List.flatMap_append]
    simpa using ho'
  · rcases hi' i hi with h' | h'
    · exact .inl h'
    · exact .inr (by have := hk.size; omega)

/-- what is made since w0, and a list of one's own among it -/
structure Grow (w0 : World) (e : TypeId) (sz : Nat) (enc : α → List Value) (w : World) (s : Value) (l : List α) : Prop where
  keep : Keep NoB w0 w
  ow : Ow (Fresh w0) e sz enc w s l

variable {w0 : World}

theorem Grow.nil : Grow w0 e sz enc w0 (.slice none 0 0) ([] : List α) := ⟨Keep.refl _ _, Ow.nil⟩
theorem Grow.sl (h : Grow w0 e sz enc w s l) : Sl (Fresh w0) enc w s l := h.ow.sl
theorem Grow.fresh (h : Grow w0 e sz enc w s l) {b : Nat} (hb : inV s b) : w0.heap.size ≤ b := Own.inD h.ow hb
theorem Grow.lt (h : Grow w0 e sz enc w s l) {b : Nat} (hb : inV s b) : b < w.heap.size := Own.inLt h.ow hb
theorem Grow.step {w' : World} (h : Grow w0 e sz enc w s l) (k : Keep NoB w w') : Grow w0 e sz enc w' s l := ⟨h.keep.trans k, h.ow.keep0 k⟩
theorem Grow.drew (h : Grow w0 e sz enc w s l) : Grow w0 e sz enc w.drew s l := h.step (keep_drew _ _)
/-- a step that writes new blocks that are not the list's -/
theorem Grow.stepM {M : Nat → Prop} {w' : World} (h : Grow w0 e sz enc w s l) (k : Keep M w w') (hn : ∀ b, M b → w0.heap.size ≤ b) (hd : ∀ b, inV s b → ¬ M b) : Grow w0 e sz enc w' s l :=
  ⟨h.keep.new k fun i hi => .inr (hn i hi), h.ow.keep k hd⟩
theorem Grow.back {w1 : World} (h : Grow w1 e sz enc w s l) (k : Keep NoB w0 w1) : Grow w0 e sz enc w s l :=
  ⟨k.trans h.keep, Own.dom h.ow fun b hb => Nat.le_trans k.size hb⟩

theorem Grow.push (hT : SliceT P t e sz by_ z) {y : α} {x : Value} {ty : TypeId} {k : Value → World → Prop} (h0 : Grow w0 e sz enc w s l) (hx : x.cells = (enc y).toArray) (hsz : (enc y).length = sz)
    (hone : (enc y).all Eng.one = true) (hb : l.length + 1 ≤ 16777216) (hs : 1 * sz ≤ 16777216)
    (h : ∀ v' w', Grow w0 e sz enc w' v' (l ++ [y]) → Keep (inV s) w w' → (∀ i, inV v' i → inV s i ∨ w.heap.size ≤ i) → k v' w') :
    semP P (Instr.buildSlice t 1 #[(0, x)]) w fun u w1 => semP P (Builtin.append_ #[t, t] ty #[s, u]) w1 k :=
  s_push hT h0.ow hx hsz hone hb hs (fun i hi => Nat.le_trans h0.keep.size hi) fun v' w' ho hk hi =>
    h v' w' ⟨h0.keep.new hk fun i hi => .inr (h0.fresh hi), ho⟩ hk hi

theorem Grow.app (hT : SliceT P t e sz by_ z) {D' : Nat → Prop} {l2 : List α} {x : Value} {ty : TypeId} {k : Value → World → Prop} (h0 : Grow w0 e sz enc w s l) (hx : Sl D' enc w x l2) (hsz : ∀ y ∈ l2, (enc y).length = sz)
    (hone : ∀ y ∈ l2, (enc y).all Eng.one = true) (hb : l.length + l2.length ≤ 16777216)
    (h : ∀ v' w', Grow w0 e sz enc w' v' (l ++ l2) → Keep (inV s) w w' → (∀ i, inV v' i → inV s i ∨ w.heap.size ≤ i) → k v' w') :
    semP P (Builtin.append_ #[t, t] ty #[s, x]) w k := by
  refine s_append hT h0.ow (hx.src hsz) ?_ hb (fun i hi => Nat.le_trans h0.keep.size hi) fun v' w' ho hk hi _ => ?_
  · rw [List.all_eq_true]
    intro v hv
    obtain ⟨y, hy, hv⟩ := List.mem_flatMap.1 hv
    exact List.all_eq_true.1 (hone y hy) v hv
  · refine h v' w' ⟨h0.keep.new hk fun i hi => .inr (h0.fresh hi), ?_⟩ hk hi
    unfold Ow
    rw [List.length_append, List.flatMap_append]; exact ho

/-- a literal slice -/
theorem s_lit (hT : SliceT P t e sz by_ z) (xs : List Value) (ys : List α) {n : Nat} {parts : Array (Nat × Value)} {k : Value → World → Prop} (hp : parts.toList = idxd xs 0) (hn : xs.length = n)
    (hxy : xs.map (fun x => x.cells.toList) = ys.map enc) (hsz : ∀ y ∈ ys, (enc y).length = sz) (hb : n * sz ≤ 16777216) (hn2 : n ≤ 16777216)
    (h : ∀ b w', Grow w e sz enc w' (.slice (some ⟨b, 0, none⟩) n n) ys → Keep NoB w w' → b = w.heap.size → k (.slice (some ⟨b, 0, none⟩) n n) w') : semP P (Instr.buildSlice t n parts) w k := by
  have hfl : flat xs = ys.flatMap enc := by
    unfold flat
    rw [List.flatMap_def, hxy, ← List.flatMap_def]
  have hlen : ys.length = n := by
    have := congrArg List.length hxy
    simp at this; omega
  refine s_bslice hT xs hp hn (fun v hv => ?_) hb fun b w' hat hk hbw hs => ?_
  · have : v.cells.toList ∈ ys.map enc := by rw [← hxy]; exact List.mem_map.2 ⟨v, hv, rfl⟩
    obtain ⟨y, hy, he⟩ := List.mem_map.1 this
    have := hsz y hy
    rw [he] at this; simpa using this
  · rw [hfl] at hat
    refine h b w' ⟨hk, ⟨by rw [flat_len ys hsz], by omega⟩, .inr ⟨b, n, [], by rw [hlen], by rw [hbw]; exact Nat.le_refl _, by simpa using hat, ?_, by omega⟩⟩ hk hbw
    rw [List.append_nil, flat_len ys hsz, hlen]

/-- a store of cells into a block -/
theorem s_stOff {n b o : Nat} {cs vs : List Value} {ty : TypeId} {k : World → Prop} (ha : At w b cs ty) (hn : vs.length = n) (hl : o + n ≤ cs.length) (hv : vs.all Eng.one = true)
    (h : ∀ w' cs', At w' b cs' ty → cs'.length = cs.length → (∀ j, cs'[j]? = if o ≤ j ∧ j < o + n then vs[j - o]? else cs[j]?) → Keep (· = b) w w' → w'.heap.size = w.heap.size → k w') :
    stA n (pb b o) (.agg vs.toArray) w k := by
  obtain ⟨cs', h1, h2, h3, h4, h5⟩ := at_storeAll vs 0 w cs o ha
  refine ⟨by simpa using hn, fun i v hi => ?_, ?_⟩
  · have hi : vs[i]? = some v := by simpa using hi
    have hil := lt_of_idx hi
    refine ⟨(List.all_eq_true.1 hv) v (List.mem_of_getElem? hi), ⟨cs[o + i]'(by omega), ?_⟩, ?_⟩
    · rw [addr_add, ha.cell, List.getElem?_eq_getElem (by omega)]
    · rw [addr_add]; exact ha.free _
  · refine h _ cs' h1 h2 (fun j => ?_) h4 h5
    rw [h3 j]
    simp only [Nat.add_zero, hn]
    by_cases hj : o ≤ j ∧ j < o + n
    · rw [if_pos ⟨hj.1, hj.2, by omega⟩, if_pos hj]
    · rw [if_neg (by omega), if_neg hj]

theorem flat_set {l : List α} (hsz : ∀ x ∈ l, (enc x).length = sz) (hpos : 0 < sz) {i : Nat} (hi : i < l.length) {y : α} (hy : (enc y).length = sz) (j : Nat) :
    ((l.set i y).flatMap enc)[j]? = if i * sz ≤ j ∧ j < i * sz + sz then (enc y)[j - i * sz]? else (l.flatMap enc)[j]? := by
  have hsz' : ∀ x ∈ l.set i y, (enc x).length = sz := fun x hx => by
    rcases List.mem_or_eq_of_mem_set hx with h | h
    · exact hsz x h
    · rw [h]; exact hy
  have hl := flat_len l hsz
  have hl' := flat_len _ hsz'
  rw [List.length_set] at hl'
  by_cases hj : j < l.length * sz
  · have hq : j / sz < l.length := Nat.div_lt_of_lt_mul (by rw [Nat.mul_comm]; exact hj)
    have hr : j % sz < sz := Nat.mod_lt _ hpos
    have hjq : j = j / sz * sz + j % sz := by have := Nat.div_add_mod j sz; rw [Nat.mul_comm] at this; omega
    have hx := List.getElem?_eq_getElem hq
    have e2 := flat_get l hsz (j / sz) (j % sz) _ hx hr
    rw [← hjq] at e2
    by_cases hqi : j / sz = i
    · have hx' : (l.set i y)[j / sz]? = some y := by rw [hqi]; simp [hi]
      have e1 := flat_get _ hsz' (j / sz) (j % sz) y hx' hr
      rw [← hjq] at e1
      rw [hqi] at hjq
      rw [e1, if_pos (by omega)]
      congr 1; omega
    · have hx' : (l.set i y)[j / sz]? = some l[j / sz] := by rw [List.getElem?_set_ne (by omega)]; exact hx
      have e1 := flat_get _ hsz' (j / sz) (j % sz) _ hx' hr
      rw [← hjq] at e1
      rw [e1, ← e2, if_neg]
      rintro ⟨h1, h2⟩
      have : j / sz = i := by
        rw [Nat.div_eq_iff (by omega)]
        refine ⟨h1, ?_⟩
        omega
      exact hqi this
  · have : i * sz + sz ≤ l.length * sz := by
      have := Nat.mul_le_mul_right sz (show i + 1 ≤ l.length by omega)
      rw [Nat.add_mul, Nat.one_mul] at this; exact this
    rw [List.getElem?_eq_none (by omega), if_neg (by omega), List.getElem?_eq_none (by omega)]

/-- an element that is changed -/
theorem Ow.put (ho : Ow D e sz enc w s l) (hsz : ∀ x ∈ l, (enc x).length = sz) (hpos : 0 < sz) {i : Nat} (hi : i < l.length) {y : α} (hy : (enc y).length = sz) (hone : (enc y).all Eng.one = true) {K : World → Prop}
    (h : ∀ w', Ow D e sz enc w' s (l.set i y) → Keep (inV s) w w' → w'.heap.size = w.heap.size → K w') : idxP sz s (vi i) fun p => stA sz p (.agg (enc y).toArray) w K := by
  obtain ⟨⟨h1, h2⟩, ⟨rfl, h3⟩ | ⟨b, cap, sp, rfl, h3, h4, h5, h6⟩⟩ := ho
  · omega
  refine s_idx (by omega) (by omega) ?_
  rw [Int.toNat_natCast, Nat.zero_add]
  have hle : i * sz + sz ≤ l.length * sz := by
    have := Nat.mul_le_mul_right sz (show i + 1 ≤ l.length by omega)
    rw [Nat.add_mul, Nat.one_mul] at this; exact this
  refine s_stOff h4 hy (by rw [List.length_append]; omega) hone fun w' cs' g1 g2 g3 g4 g5 => ?_
  have hsz' : ∀ x ∈ l.set i y, (enc x).length = sz := fun x hx => by
    rcases List.mem_or_eq_of_mem_set hx with h | h
    · exact hsz x h
    · rw [h]; exact hy
  have hl' := flat_len _ hsz'
  rw [List.length_set] at hl'
  have hcs : cs' = (l.set i y).flatMap enc ++ sp := by
    apply List.ext_getElem?
    intro j
    rw [g3 j]
    by_cases hj : j < l.length * sz
    · rw [List.getElem?_append_left (by omega), List.getElem?_append_left (by omega), flat_set hsz hpos hi hy]
    · rw [if_neg (by omega), List.getElem?_append_right (by omega), List.getElem?_append_right (by omega), h1, hl']
  rw [hcs] at g1
  refine h w' ⟨⟨by rw [hl', List.length_set], by rw [List.length_set]; exact h2⟩, .inr ⟨b, cap, sp, by rw [List.length_set], h3, g1, ?_, by rw [List.length_set]; exact h6⟩⟩ (g4.mono fun i hi => hi.symm) g5
  rw [List.length_append, hl', ← h5, List.length_append, h1]

/-- an element of one cell that is changed -/
theorem Ow.put1 (ho : Ow D e 1 enc w s l) (hsz : ∀ x ∈ l, (enc x).length = 1) {i : Nat} (hi : i < l.length) {y : α} {v : Value} (hy : enc y = [v]) (hone : Eng.one v = true) {K : World → Prop}
    (h : ∀ w', Ow D e 1 enc w' s (l.set i y) → Keep (inV s) w w' → w'.heap.size = w.heap.size → K w') : idxP 1 s (vi i) fun p => st p v w K := by
  have := ho.put hsz (by omega) hi (y := y) (by rw [hy]; rfl) (by rw [hy]; simp [hone]) (K := K) h
  obtain ⟨hb, hst⟩ := (show _ ∧ _ from by
    obtain ⟨⟨h1, h2⟩, ⟨rfl, h3⟩ | ⟨b, cap, sp, rfl, h3, h4, h5, h6⟩⟩ := ho
    · omega
    · exact ⟨trivial, trivial⟩ : True ∧ True)
  obtain ⟨⟨h1, h2⟩, ⟨rfl, h3⟩ | ⟨b, cap, sp, rfl, h3, h4, h5, h6⟩⟩ := ho
  · omega
  · obtain ⟨g1, g2⟩ := this
    refine ⟨g1, ?_⟩
    rw [hy] at g2
    obtain ⟨g3, g4, g5⟩ := g2
    have := g4 0 v rfl
    simp only [addr_add, Nat.add_zero] at this g5 ⊢
    exact ⟨this.1, this.2.1, this.2.2, g5⟩

end
end Go.Eng

/-! Maps. -/
namespace Go.Eng
open Go

/-- the first entry of a key -/
def findL {α : Type} [DecidableEq α] (a : α) : List (α × Value) → Nat → Option (Nat × Value)
  | [], _ => none
  | (b, v) :: r, i => if a = b then some (i, v) else findL a r (i + 1)

structure KeyT {α : Type} [DecidableEq α] (P : Program) (kt : TypeId) (enc : α → Value) : Prop where
  check : ∀ (em : Bool) (a : α) (w : World), (Instr.checkKey em 10000 kt (enc a)).run P w = .ok () w
  find : ∀ (a : α) (es : List MapEntry) (l : List (α × Value)) (w : World), es.map (fun e => (e.key, e.val)) = l.map (fun p => (enc p.1, p.2)) → (Instr.findKey kt (enc a) es).run P w = .ok (findL a l 0) w
  stays : ∀ (a : α) (w : World), (Instr.keyThatStays (enc a) (enc a)).run P w = .ok (enc a) w

section
variable {P : Program}

theorem findNow_int {k0 : IntKind} (a : Int) : ∀ (es : List MapEntry) (l : List (Int × Value)) (i : Nat), es.map (fun e => (e.key, e.val)) = l.map (fun p => (vi p.1, p.2)) →
    Instr.findNow (.int k0) (vi a) es i = some (findL a l i)
  | [], [], i, _ => rfl
  | [], _ :: _, i, h => by simp at h
  | _ :: _, [], i, h => by simp at h
  | e :: es, (b, v) :: l, i, h => by
    simp only [List.map_cons, List.cons.injEq, Prod.mk.injEq] at h
    obtain ⟨⟨h1, h2⟩, h3⟩ := h
    have ih := findNow_int (k0 := k0) a es l (i + 1) h3
    simp only [Instr.findNow, h1, Instr.sameNow, findL]
    by_cases hab : a = b
    · subst hab; simp [h2]
    · have : (a == b) = false := by simpa using hab
      simp [hab, this, ih]

theorem KeyT.int {kt : TypeId} {k0 : IntKind} (hu : P.underlying kt = some (.int k0)) : KeyT P kt vi := {
  check := fun em a w => by
    show (Instr.checkKey em (9999 + 1) kt (vi a)).run P w = _
    rw [Instr.checkKey]
    simp only [Sem.run_bind', Eng.run_und hu]
    rfl
  find := fun a es l w h => by
    unfold Instr.findKey
    simp only [Sem.run_bind', Eng.run_und hu, findNow_int a es l 0 h]
    rfl
  stays := fun a w => by
    have : Instr.sameBits 10000 (vi a) (vi a) = true := by
      show ((IntKind.i64 == IntKind.i64) && (a == a)) = true
      simp
    unfold Instr.keyThatStays
    rw [if_pos this]; rfl }

/-- what is known of the type of pairs of ints that are keys -/
structure PairT (P : Program) (kt : TypeId) : Prop where
  fs : ∃ fx fy : Field, P.underlying kt = some (.struct #[fx, fy]) ∧ fx.name ≠ "_" ∧ fy.name ≠ "_" ∧ fx.offset = 0 ∧ fy.offset = 1 ∧
    (∃ k1, P.underlying fx.type = some (.int k1)) ∧ ∃ k2, P.underlying fy.type = some (.int k2)
  not : P.stoodInHeld kt = false

theorem run_isAgg_int {t : TypeId} {k : IntKind} (h : P.underlying t = some (.int k)) (w : World) : (isAgg t).run P w = .ok false w := by
  unfold isAgg
  simp only [Sem.run_bind', Eng.run_und h]
  rfl
theorem run_part_int {t : TypeId} {k : IntKind} (h : P.underlying t = some (.int k)) {cs : Array Value} {o : Nat} {v : Value} (hv : cs[o]? = some v) (w : World) : (part t cs o).run P w = .ok v w := by
  unfold part
  simp only [Sem.run_bind', run_isAgg_int h, hv]
  rfl
theorem run_checkInt {t : TypeId} {k : IntKind} (h : P.underlying t = some (.int k)) (em : Bool) (n : Nat) (x : Int) (w : World) : (Instr.checkKey em (n + 1) t (vi x)).run P w = .ok () w := by
  rw [Instr.checkKey]
  simp only [Sem.run_bind', Eng.run_und h]
  rfl
theorem run_eqInt {t : TypeId} {k : IntKind} (h : P.underlying t = some (.int k)) (n : Nat) (x y : Int) (w : World) : (Op.equalIn (n + 1) t (vi x) (vi y)).run P w = .ok (x == y) w := by
  rw [Op.equalIn]
  simp only [Sem.run_bind', Eng.run_und h]
  rfl

theorem PairT.check {kt : TypeId} (h : PairT P kt) (em : Bool) (x y : Int) (w : World) : (Instr.checkKey em 10000 kt (.agg #[vi x, vi y])).run P w = .ok () w := by
  obtain ⟨fx, fy, hu, n1, n2, o1, o2, ⟨k1, u1⟩, k2, u2⟩ := h.fs
  show (Instr.checkKey em (9998 + 1 + 1) kt (.agg #[vi x, vi y])).run P w = _
  rw [Instr.checkKey]
  simp only [Sem.run_bind', Eng.run_und hu]
  simp [n1, n2, o1, o2, Sem.run_bind', run_part_int u1 (cs := #[vi x, vi y]) (o := 0) rfl, run_part_int u2 (cs := #[vi x, vi y]) (o := 1) rfl, run_checkInt u1, run_checkInt u2, run_pure']

theorem PairT.eq {kt : TypeId} (h : PairT P kt) (x y x' y' : Int) (w : World) : (Op.equal kt (.agg #[vi x, vi y]) (.agg #[vi x', vi y'])).run P w = .ok (decide (x = x' ∧ y = y')) w := by
  obtain ⟨fx, fy, hu, n1, n2, o1, o2, ⟨k1, u1⟩, k2, u2⟩ := h.fs
  show (Op.equalIn (9998 + 1 + 1) kt _ _).run P w = _
  rw [Op.equalIn]
  have hprog : ∀ w, (program : Sem Program).run P w = .ok P w := fun w => rfl
  simp only [Sem.run_bind', Eng.run_und hu, hprog, h.not]
  simp [n1, n2, o1, o2, Sem.run_bind', run_part_int u1 (cs := #[vi x, vi y]) (o := 0) rfl, run_part_int u1 (cs := #[vi x', vi y']) (o := 0) rfl, run_part_int u2 (cs := #[vi x, vi y]) (o := 1) rfl, run_part_int u2 (cs := #[vi x', vi y']) (o := 1) rfl,
    run_eqInt u1, run_eqInt u2, run_pure']
  by_cases h1 : x = x' <;> by_cases h2 : y = y' <;> simp [h1, h2]

theorem findAsk_pair {α : Type} [DecidableEq α] {kt : TypeId} (h : PairT P kt) (fx fy : α → Int) (hinj : ∀ a b, fx a = fx b → fy a = fy b → a = b) (a : α) : ∀ (es : List MapEntry) (l : List (α × Value)) (i : Nat) (w : World),
    es.map (fun e => (e.key, e.val)) = l.map (fun p => (.agg #[vi (fx p.1), vi (fy p.1)], p.2)) → (Instr.findAsking kt (.agg #[vi (fx a), vi (fy a)]) es i).run P w = .ok (findL a l i) w
  | [], [], i, w, _ => rfl
  | [], _ :: _, i, w, h => by simp at h
  | _ :: _, [], i, w, h => by simp at h
  | e :: es, (b, v) :: l, i, w, hh => by
    simp only [List.map_cons, List.cons.injEq, Prod.mk.injEq] at hh
    obtain ⟨⟨h1, h2⟩, h3⟩ := hh
    have ih := findAsk_pair h fx fy hinj a es l (i + 1) w h3
    simp only [Instr.findAsking, Sem.run_bind', h1, h.eq, findL]
    by_cases hab : a = b
    · subst hab; simp [h2, run_pure']
    · have : ¬ (fx a = fx b ∧ fy a = fy b) := fun hh => hab (hinj a b hh.1 hh.2)
      simp [hab, this, ih]

theorem KeyT.pair {α : Type} [DecidableEq α] {kt : TypeId} (h : PairT P kt) (fx fy : α → Int) (hinj : ∀ a b, fx a = fx b → fy a = fy b → a = b) : KeyT P kt (fun a : α => .agg #[vi (fx a), vi (fy a)]) := {
  check := fun em a w => h.check em _ _ w
  find := fun a es l w hh => by
    have hask := findAsk_pair h fx fy hinj a es l 0 w hh
    obtain ⟨f1, f2, hu, _⟩ := h.fs
    unfold Instr.findKey
    simp only [Sem.run_bind', Eng.run_und hu]
    cases es with
    | nil =>
      cases l with
      | nil => rfl
      | cons _ _ => simp at hh
    | cons e es =>
      cases l with
      | nil => simp at hh
      | cons p l =>
        simp only [List.map_cons, List.cons.injEq, Prod.mk.injEq] at hh
        have : Instr.findNow (.struct #[f1, f2]) (.agg #[vi (fx a), vi (fy a)]) (e :: es) 0 = none := by
          simp [Instr.findNow, Instr.sameNow]
        rw [this]
        exact hask
  stays := fun a w => by
    have : Instr.sameBits (9998 + 1 + 1) (.agg #[vi (fx a), vi (fy a)]) (.agg #[vi (fx a), vi (fy a)]) = true := by
      simp [Instr.sameBits]
    unfold Instr.keyThatStays
    rw [if_pos this]; rfl }

/-- a map, as a function -/
def Mp {α : Type} [DecidableEq α] (enc : α → Value) (w : World) (r : Nat) (m : α → Option Value) : Prop :=
  ∃ (es : Array MapEntry) (clock : Nat) (l : List (α × Value)), w.heap[r]? = some (.map es clock) ∧ es.toList.map (fun e => (e.key, e.val)) = l.map (fun p => (enc p.1, p.2)) ∧ ∀ a, (findL a l 0).map (·.2) = m a

section
variable {α : Type} [DecidableEq α] {enc : α → Value} {w : World} {r : Nat} {m : α → Option Value}

theorem Mp.lt (h : Mp enc w r m) : r < w.heap.size := by
  obtain ⟨es, cl, l, h1, _⟩ := h
  rcases Nat.lt_or_ge r w.heap.size with h' | h'
  · exact h'
  · rw [Array.getElem?_eq_none h'] at h1; cases h1
theorem Mp.keep {M : Nat → Prop} {w' : World} (h : Mp enc w r m) (k : Keep M w w') (hm : ¬ M r) : Mp enc w' r m := by
  have hl := h.lt
  obtain ⟨es, cl, l, h1, h2, h3⟩ := h
  exact ⟨es, cl, l, by rw [k.block r hl hm]; exact h1, h2, h3⟩
theorem Mp.keep0 {w' : World} (h : Mp enc w r m) (k : Keep NoB w w') : Mp enc w' r m := h.keep k fun h => h

theorem s_makeMap {t : TypeId} {k : Value → World → Prop} (h : ∀ r w', Mp enc w' r (fun _ => none) → Keep NoB w w' → r = w.heap.size → w'.heap.size = r + 1 → k (.map (some r)) w') : semP P (Instr.makeMap t none) w k := by
  refine ⟨_, { w with heap := w.heap.push (.map #[] 0) }, rfl, h w.heap.size _ ⟨#[], 0, [], by simp, rfl, fun _ => rfl⟩ ⟨rfl, rfl, rfl, by simp, fun i hi _ => ?_⟩ rfl (by simp)⟩
  show (w.heap.push _)[i]? = _
  rw [Array.getElem?_push, if_neg (by omega)]

theorem run_getMap {es : Array MapEntry} {cl : Nat} (h : w.heap[r]? = some (.map es cl)) : (getObj r).run P w = .ok (.map es cl) w := by
  simp [getObj, Sem.run, h]

theorem run_lookup {t kt et : TypeId} (hu : P.underlying t = some (.map kt et)) (K : KeyT P kt enc) {z : Value} (hz : ∀ w, (zeroValue et).run P w = .ok z w) (h : Mp enc w r m) (a : α) (ok : Bool) :
    (Instr.lookup t (.map (some r)) (enc a) ok).run P w = .ok (if ok then .tuple #[(m a).getD z, .bool (m a).isSome] else (m a).getD z) w := by
  obtain ⟨es, cl, l, h1, h2, h3⟩ := h
  have hf := K.find a es.toList l w h2
  have ha := h3 a
  unfold Instr.lookup
  simp only [Sem.run_bind', Eng.run_und hu, run_getMap h1, run_pure', K.check, hf]
  cases hh : findL a l 0 with
  | none =>
    rw [hh] at ha
    rw [← ha]
    simp only [Sem.run_bind', hz, run_pure']
    rfl
  | some p =>
    rw [hh] at ha
    rw [← ha]
    simp only [Sem.run_bind', run_pure']
    rfl

theorem s_lookup {t kt et : TypeId} (hu : P.underlying t = some (.map kt et)) (K : KeyT P kt enc) {z : Value} (hz : ∀ w, (zeroValue et).run P w = .ok z w) (h : Mp enc w r m) (a : α) {k : Value → World → Prop}
    (hk : k ((m a).getD z) w) : semP P (Instr.lookup t (.map (some r)) (enc a) false) w k := ⟨_, w, run_lookup hu K hz h a false, hk⟩
theorem s_lookup2 {t kt et : TypeId} (hu : P.underlying t = some (.map kt et)) (K : KeyT P kt enc) {z : Value} (hz : ∀ w, (zeroValue et).run P w = .ok z w) (h : Mp enc w r m) (a : α) {k : Value → World → Prop}
    (hk : k (.tuple #[(m a).getD z, .bool (m a).isSome]) w) : semP P (Instr.lookup t (.map (some r)) (enc a) true) w k := ⟨_, w, run_lookup hu K hz h a true, hk⟩

theorem findL_at {α : Type} [DecidableEq α] (a : α) : ∀ (l : List (α × Value)) (i j : Nat) (v : Value), findL a l i = some (j, v) → i ≤ j ∧ l[j - i]? = some (a, v) ∧ ∀ q, q < j - i → ∀ p, l[q]? = some p → p.1 ≠ a
  | [], i, j, v, h => by simp [findL] at h
  | (b, u) :: r, i, j, v, h => by
    simp only [findL] at h
    by_cases hab : a = b
    · rw [if_pos hab] at h
      cases h
      exact ⟨Nat.le_refl _, by simp [hab], fun q hq => by omega⟩
    · rw [if_neg hab] at h
      obtain ⟨h1, h2, h3⟩ := findL_at a r (i + 1) j v h
      refine ⟨by omega, ?_, fun q hq p hp => ?_⟩
      · rw [show j - i = (j - (i + 1)) + 1 from by omega]; simpa using h2
      · cases q with
        | zero => simp at hp; subst hp; exact fun h => hab h.symm
        | succ q => exact h3 q (by omega) p (by simpa using hp)

theorem findL_shift {α : Type} [DecidableEq α] (a : α) : ∀ (l : List (α × Value)) (i j : Nat), (findL a l i).map (·.2) = (findL a l j).map (·.2)
  | [], i, j => rfl
  | (b, u) :: r, i, j => by
    simp only [findL]
    split
    · rfl
    · exact findL_shift a r _ _
theorem findL_app {α : Type} [DecidableEq α] (b : α) (a : α) (v : Value) : ∀ (l : List (α × Value)) (i : Nat), (findL a l i = none) →
    (findL b (l ++ [(a, v)]) 0).map (·.2) = if b = a then some v else (findL b l 0).map (·.2)
  | [], i, _ => by simp only [List.nil_append, findL]; split <;> rfl
  | (x, u) :: r, i, h => by
    simp only [findL] at h
    by_cases hax : a = x
    · rw [if_pos hax] at h; cases h
    · rw [if_neg hax] at h
      have ih := findL_app b a v r (i + 1) h
      simp only [List.cons_append, findL]
      by_cases hbx : b = x
      · rw [if_pos hbx, if_pos hbx, if_neg (fun hh => hax (by rw [← hh, hbx]))]
      · rw [if_neg hbx, if_neg hbx, findL_shift b _ 1 0, ih, findL_shift b r 1 0]
theorem findL_set {α : Type} [DecidableEq α] (b : α) (a : α) (v u : Value) : ∀ (l : List (α × Value)) (j : Nat), l[j]? = some (a, u) → (∀ q, q < j → ∀ p, l[q]? = some p → p.1 ≠ a) →
    (findL b (l.set j (a, v)) 0).map (·.2) = if b = a then some v else (findL b l 0).map (·.2)
  | [], j, h, _ => by simp at h
  | (x, y) :: r, 0, h, _ => by
    simp at h
    obtain ⟨rfl, rfl⟩ := h
    simp only [List.set_cons_zero, findL]
    split <;> rfl
  | (x, y) :: r, j + 1, h, hq => by
    have hxa : x ≠ a := hq 0 (by omega) (x, y) rfl
    have ih := findL_set b a v u r j (by simpa using h) fun q hq' p hp => hq (q + 1) (by omega) p (by simpa using hp)
    simp only [List.set_cons_succ, findL]
    by_cases hbx : b = x
    · rw [if_pos hbx, if_pos hbx, if_neg (fun hh => hxa (by rw [← hh, hbx]))]
    · rw [if_neg hbx, if_neg hbx, findL_shift b _ 1 0, ih, findL_shift b r 1 0]

theorem run_setMap {es es' : Array MapEntry} {cl cl' : Nat} (h : w.heap[r]? = some (.map es cl)) : (setObj r (.map es' cl')).run P w = .ok () { w with heap := w.heap.setIfInBounds r (.map es' cl') } := by
  simp [setObj, Sem.run, h]

theorem run_mapUpdate {t kt et : TypeId} (hu : P.underlying t = some (.map kt et)) (K : KeyT P kt enc) (h : Mp enc w r m) (a : α) (v : Value) :
    ∃ w', (Instr.mapUpdate t (.map (some r)) (enc a) v).run P w = .ok () w' ∧ Mp enc w' r (fun b => if b = a then some v else m b) ∧ Keep (· = r) w w' ∧ w'.heap.size = w.heap.size := by
  have hlt := h.lt
  obtain ⟨es, cl, l, h1, h2, h3⟩ := h
  have hf := K.find a es.toList l w h2
  have hk : ∀ o, Keep (· = r) w { w with heap := w.heap.setIfInBounds r o } := fun o => ⟨rfl, rfl, rfl, by simp, fun i hi hm => by
    show (w.heap.setIfInBounds r o)[i]? = _
    rw [Array.getElem?_setIfInBounds, if_neg (fun h => hm h.symm)]⟩
  have hmap : ∀ o, (w.heap.setIfInBounds r o)[r]? = some o := fun o => by
    rw [Array.getElem?_setIfInBounds]; simp [hlt]
  cases hh : findL a l 0 with
  | none =>
    rw [hh] at hf
    refine ⟨{ w with heap := w.heap.setIfInBounds r (.map (es.push { key := enc a, val := v, born := cl }) (cl + 1)) }, ?_, ⟨_, _, l ++ [(a, v)], hmap _, ?_, fun b => ?_⟩, hk _, by simp⟩
    · unfold Instr.mapUpdate
      simp only [Sem.run_bind', Eng.run_und hu, run_getMap h1, K.check, hf, run_setMap h1]
    · simp [h2]
    · rw [findL_app b a v l 0 hh, h3]
  | some p =>
    obtain ⟨j, u⟩ := p
    rw [hh] at hf
    obtain ⟨_, g1, g2⟩ := findL_at a l 0 j u hh
    rw [Nat.sub_zero] at g1 g2
    have hes : (es.toList.map fun e => (e.key, e.val))[j]? = some (enc a, u) := by rw [h2, List.getElem?_map, g1]; rfl
    rw [List.getElem?_map] at hes
    obtain ⟨e0, he0, he1⟩ := Option.map_eq_some_iff.1 hes
    simp only [Prod.mk.injEq] at he1
    have hej : es[j]? = some e0 := by simpa using he0
    have hkey : ((es[j]?).map (·.key)).getD (enc a) = enc a := by rw [hej]; exact he1.1
    refine ⟨{ w with heap := w.heap.setIfInBounds r (.map (es.modify j fun e => { e with key := enc a, val := v }) cl) }, ?_, ⟨_, _, l.set j (a, v), hmap _, ?_, fun b => ?_⟩, hk _, by simp⟩
    · unfold Instr.mapUpdate
      simp only [Sem.run_bind', Eng.run_und hu, run_getMap h1, K.check, hf, hkey, K.stays, run_setMap h1]
    · apply List.ext_getElem?
      intro i
      have hi := congrArg (fun q : List (Value × Value) => q[i]?) h2
      simp only [List.getElem?_map] at hi
      rw [List.getElem?_map, List.getElem?_map, List.getElem?_set, Array.getElem?_toList, Array.getElem?_modify]
      by_cases hji : j = i
      · subst hji
        rw [if_pos rfl, if_pos rfl, if_pos (lt_of_idx g1), hej]; rfl
      · rw [if_neg hji, if_neg hji]
        rw [← hi]; simp
    · rw [findL_set b a v u l j g1 g2, h3]
theorem s_mapUpdate {t kt et : TypeId} (hu : P.underlying t = some (.map kt et)) (K : KeyT P kt enc) (h : Mp enc w r m) (a : α) (v : Value) {k : Unit → World → Prop}
    (hk : ∀ w', Mp enc w' r (fun b => if b = a then some v else m b) → Keep (· = r) w w' → w'.heap.size = w.heap.size → k () w') : semP P (Instr.mapUpdate t (.map (some r)) (enc a) v) w k := by
  obtain ⟨w', h1, h2, h3, h4⟩ := run_mapUpdate hu K h a v
  exact ⟨(), w', h1, hk w' h2 h3 h4⟩
end
end
end Go.Eng

/-! Structs that are compared. -/
namespace Go.Eng
open Go

/-- what is known of the type of an int, an int and a boolean that are compared -/
structure TripT (P : Program) (t : TypeId) : Prop where
  fs : ∃ f1 f2 f3 : Field, P.underlying t = some (.struct #[f1, f2, f3]) ∧ f1.name ≠ "_" ∧ f2.name ≠ "_" ∧ f3.name ≠ "_" ∧ f1.offset = 0 ∧ f2.offset = 1 ∧ f3.offset = 2 ∧
    (∃ k, P.underlying f1.type = some (.int k)) ∧ (∃ k, P.underlying f2.type = some (.int k)) ∧ P.underlying f3.type = some .bool
  not : P.stoodInHeld t = false
  guard : P.eqGuardType P.depth t = false

section
variable {P : Program}

theorem run_isAgg_bool {t : TypeId} (h : P.underlying t = some .bool) (w : World) : (isAgg t).run P w = .ok false w := by
  unfold isAgg
  simp only [Sem.run_bind', Eng.run_und h]
  rfl
theorem run_part_bool {t : TypeId} (h : P.underlying t = some .bool) {cs : Array Value} {o : Nat} {v : Value} (hv : cs[o]? = some v) (w : World) : (part t cs o).run P w = .ok v w := by
  unfold part
  simp only [Sem.run_bind', run_isAgg_bool h, hv]
  rfl
theorem run_eqBool {t : TypeId} (h : P.underlying t = some .bool) (n : Nat) (x y : Bool) (w : World) : (Op.equalIn (n + 1) t (.bool x) (.bool y)).run P w = .ok (x == y) w := by
  rw [Op.equalIn]
  simp only [Sem.run_bind', Eng.run_und h]
  rfl

theorem TripT.eq {t : TypeId} (h : TripT P t) (x y x' y' : Int) (b b' : Bool) (w : World) : (Op.equal t (.agg #[vi x, vi y, .bool b]) (.agg #[vi x', vi y', .bool b'])).run P w = .ok (decide (x = x' ∧ y = y' ∧ b = b')) w := by
  obtain ⟨f1, f2, f3, hu, n1, n2, n3, o1, o2, o3, ⟨k1, u1⟩, ⟨k2, u2⟩, u3⟩ := h.fs
  show (Op.equalIn (9998 + 1 + 1) t _ _).run P w = _
  rw [Op.equalIn]
  have hprog : ∀ w, (program : Sem Program).run P w = .ok P w := fun w => rfl
  simp only [Sem.run_bind', Eng.run_und hu, hprog, h.not]
  have p1 : ∀ w (a b : Int) (c : Bool), (part f1.type #[vi a, vi b, .bool c] 0).run P w = .ok (vi a) w := fun w a b c => run_part_int u1 rfl w
  have p2 : ∀ w (a b : Int) (c : Bool), (part f2.type #[vi a, vi b, .bool c] 1).run P w = .ok (vi b) w := fun w a b c => run_part_int u2 rfl w
  have p3 : ∀ w (a b : Int) (c : Bool), (part f3.type #[vi a, vi b, .bool c] 2).run P w = .ok (.bool c) w := fun w a b c => run_part_bool u3 rfl w
  simp [n1, n2, n3, o1, o2, o3, Sem.run_bind', p1, p2, p3, run_eqInt u1, run_eqInt u2, run_eqBool u3, run_pure']
  by_cases h1 : x = x' <;> by_cases h2 : y = y' <;> by_cases h3 : b = b' <;> simp [h1, h2, h3]

theorem s_neqTrip {t : TypeId} (h : TripT P t) {ox oy : Operand} (x y x' y' : Int) (b b' : Bool) {k : Value → Prop} (hk : k (.bool (!decide (x = x' ∧ y = y' ∧ b = b')))) :
    pureP P (do eqGuard .neq t ox oy (.agg #[vi x, vi y, .bool b]) (.agg #[vi x', vi y', .bool b']); binOp .neq t (.agg #[vi x, vi y, .bool b]) (.agg #[vi x', vi y', .bool b'])) k := by
  refine ⟨_, fun w => ?_, hk⟩
  have hprog : ∀ w, (program : Sem Program).run P w = .ok P w := fun w => rfl
  have h1 : (eqGuard .neq t ox oy (.agg #[vi x, vi y, .bool b]) (.agg #[vi x', vi y', .bool b'])).run P w = .ok () w := by
    unfold eqGuard
    rw [if_neg (by simp)]
    simp only [Sem.run_bind', hprog, h.guard]
    rfl
  have h2 : (binOp .neq t (.agg #[vi x, vi y, .bool b]) (.agg #[vi x', vi y', .bool b'])) = (do pure (.bool (!(← Op.equal t (.agg #[vi x, vi y, .bool b]) (.agg #[vi x', vi y', .bool b']))))) := rfl
  rw [Sem.run_bind', h1, h2]
  simp only [Sem.run_bind', h.eq, run_pure']
end
end Go.Eng

/-! Type facts from data. -/
namespace Go.Eng
open Go
variable {P : Program}
/-- what a type's row tells -/
def rowOf (P : Program) (t : TypeId) : Option (Nat × Nat × Option (List Value)) := (P.info? t).map fun i => (i.size, i.bytes, i.zero.map fun v => v.cells.toList)
theorem row_some {t : TypeId} {sz by_ : Nat} {z : List Value} (h : rowOf P t = some (sz, by_, some z)) : ∃ i zv, P.info? t = some i ∧ i.size = sz ∧ i.bytes = by_ ∧ i.zero = some zv ∧ zv.cells = z.toArray := by
  unfold rowOf at h
  cases hi : P.info? t with
  | none => rw [hi] at h; cases h
  | some i =>
    rw [hi] at h
    simp only [Option.map_some, Option.some.injEq, Prod.mk.injEq] at h
    obtain ⟨h1, h2, h3⟩ := h
    cases hz : i.zero with
    | none => rw [hz] at h3; cases h3
    | some zv =>
      rw [hz] at h3
      simp only [Option.map_some, Option.some.injEq] at h3
      exact ⟨i, zv, rfl, h1, h2, hz, by rw [← h3]⟩
theorem SliceT.of {t e : TypeId} {sz by_ : Nat} {z : List Value} (h1 : P.underlying t = some (.slice e)) (h2 : rowOf P e = some (sz, by_, some z)) (h3 : z.length = sz) (h4 : 0 < sz) (h5 : by_ ≤ 1024) : SliceT P t e sz by_ z :=
  ⟨h1, row_some h2, h3, h4, h5⟩
/-- where a struct's fields lie -/
def placesOf (P : Program) (t : TypeId) : Option (List (Nat × Option Nat)) := match P.underlying t with
  | some (.struct fs) => some (fs.toList.map fun f => (f.offset, (P.info? f.type).map (·.size)))
  | _ => none
theorem StructT.of {t : TypeId} {places : List (Nat × Nat)} {z : List Value} {sz by_ : Nat} (h1 : placesOf P t = some (places.map fun p => (p.1, some p.2))) (h3 : rowOf P t = some (sz, by_, some z)) : StructT P t places z := by
  obtain ⟨i, zv, g1, _, _, g2, g3⟩ := row_some h3
  unfold placesOf at h1
  split at h1
  · rename_i fs hu
    exact ⟨⟨fs, hu, Option.some.inj h1⟩, i, zv, g1, g2, g3⟩
  · cases h1
/-- the row of a slice's element -/
def elemRow (P : Program) (t : TypeId) : Option (Nat × Nat × Option (List Value)) := match P.underlying t with
  | some (.slice e) => rowOf P e
  | _ => none
theorem SliceT.ex {t : TypeId} {sz by_ : Nat} {z : List Value} (h : elemRow P t = some (sz, by_, some z)) (h3 : z.length = sz) (h4 : 0 < sz) (h5 : by_ ≤ 1024) : ∃ e, SliceT P t e sz by_ z := by
  unfold elemRow at h
  split at h
  · rename_i e hu
    exact ⟨e, .of hu h h3 h4 h5⟩
  · cases h
def isIntT (P : Program) (t : TypeId) : Bool := match P.underlying t with | some (.int _) => true | _ => false
def isBoolT (P : Program) (t : TypeId) : Bool := match P.underlying t with | some .bool => true | _ => false
theorem isIntT_some {t : TypeId} (h : isIntT P t = true) : ∃ k, P.underlying t = some (.int k) := by
  unfold isIntT at h
  split at h
  · rename_i k hu; exact ⟨k, hu⟩
  · cases h
theorem isBoolT_some {t : TypeId} (h : isBoolT P t = true) : P.underlying t = some .bool := by
  unfold isBoolT at h
  split at h
  · assumption
  · cases h
/-- a map's types: whether its keys are ints, the key's type, its element's zero -/
def mapRow (P : Program) (t : TypeId) : Option (TypeId × Option (Option Value)) := match P.underlying t with
  | some (.map k e) => some (k, (P.info? e).map (·.zero))
  | _ => none
theorem map_of {t k : TypeId} {z : Value} (h : mapRow P t = some (k, some (some z))) : ∃ et, P.underlying t = some (.map k et) ∧ ∀ w, (zeroValue et).run P w = .ok z w := by
  unfold mapRow at h
  split at h
  · rename_i k' e hu
    simp only [Option.some.injEq, Prod.mk.injEq] at h
    obtain ⟨rfl, h2⟩ := h
    refine ⟨e, hu, fun w => ?_⟩
    cases hi : P.info? e with
    | none => rw [hi] at h2; cases h2
    | some i =>
      rw [hi] at h2
      have h2 : i.zero = some z := by simpa using h2
      rw [zeroValue, Sem.run_bind', run_typeInfo hi]
      simp [h2, run_pure']
  · cases h
/-- the fields of a struct: names, offsets, whether they are ints or booleans -/
def fieldsOf (P : Program) (t : TypeId) : Option (List (Bool × Nat × Bool × Bool)) := match P.underlying t with
  | some (.struct fs) => some (fs.toList.map fun f => (f.name != "_", f.offset, isIntT P f.type, isBoolT P f.type))
  | _ => none
theorem PairT.of {t : TypeId} (h : fieldsOf P t = some [(true, 0, true, false), (true, 1, true, false)]) (hn : P.stoodInHeld t = false) : PairT P t := by
  unfold fieldsOf at h
  split at h
  · rename_i fs hu
    have h := Option.some.inj h
    obtain ⟨l⟩ := fs
    rcases l with _ | ⟨a, _ | ⟨b, _ | ⟨d, r⟩⟩⟩
    · simp at h
    · simp at h
    · simp only [List.map_cons, List.map_nil, List.cons.injEq, Prod.mk.injEq, and_true] at h
      obtain ⟨⟨a1, a2, a3, a4⟩, b1, b2, b3, b4⟩ := h
      exact ⟨⟨a, b, hu, by simpa using a1, by simpa using b1, a2, b2, isIntT_some a3, isIntT_some b3⟩, hn⟩
    · simp at h
  · cases h
theorem TripT.of {t : TypeId} (h : fieldsOf P t = some [(true, 0, true, false), (true, 1, true, false), (true, 2, false, true)]) (hn : P.stoodInHeld t = false) (hg : P.eqGuardType P.depth t = false) : TripT P t := by
  unfold fieldsOf at h
  split at h
  · rename_i fs hu
    have h := Option.some.inj h
    obtain ⟨l⟩ := fs
    rcases l with _ | ⟨a, _ | ⟨b, _ | ⟨d, _ | ⟨d', r⟩⟩⟩⟩
    · simp at h
    · simp at h
    · simp at h
    · simp only [List.map_cons, List.map_nil, List.cons.injEq, Prod.mk.injEq, and_true] at h
      obtain ⟨⟨a1, a2, a3, a4⟩, ⟨b1, b2, b3, b4⟩, d1, d2, d3, d4⟩ := h
      exact ⟨⟨a, b, d, hu, by simpa using a1, by simpa using b1, by simpa using d1, a2, b2, d2, isIntT_some a3, isIntT_some b3, isBoolT_some d4⟩, hn, hg⟩
    · simp at h
  · cases h
end Go.Eng

/-! Strings; slices of slices. -/
namespace Go.Eng
open Go

def eqB (a b : ByteArray) : Bool := a.toList == b.toList
def leB (a b : ByteArray) : Bool := Op.bytesLess a.toList b.toList || a.toList == b.toList
theorem eqB_comm (a b : ByteArray) : eqB a b = eqB b a := by unfold eqB; rw [Bool.eq_iff_iff]; simp only [beq_iff_eq]; exact eq_comm
theorem eqB_refl (a : ByteArray) : eqB a a = true := by simp [eqB]

theorem run_str1 {P : Program} {t : TypeId} (hu : P.underlying t = some .string) {s : ByteArray} {hi : Nat} (h : hi ≤ s.size) (w : World) :
    (Instr.sliceAt t (.string s) none (some (vi hi)) none).run P w = .ok (.string (s.extract 0 hi)) w := by
  have c1 : (0 : Int) ≤ hi ∧ (hi : Int) ≤ s.size := by omega
  simp [Instr.sliceAt, Sem.run_bind', Eng.run_und hu, Instr.slice, Instr.sliceBounds, Instr.sliceBound, run_asInt, c1, run_pure']

section
variable {P : Program} {w : World} {k : Value → Prop} {a b : ByteArray}
theorem s_strHi {t : TypeId} (hu : P.underlying t = some .string) {hi : Nat} (hh : hi ≤ a.size) (h : k (.string (a.extract 0 hi))) : pureP P (Instr.sliceAt t (.string a) none (some (vi hi)) none) k := ⟨_, run_str1 hu hh, h⟩
theorem s_strIx {i : Nat} (hi : i < a.size) (h : k (.int .u8 (a[i]'hi).toNat)) : strIx (.string a) (vi i) k :=
  ⟨a[i]'hi, ⟨by omega, by rw [Int.toNat_natCast]; exact ByteArray.getElem?_lt' a i hi⟩, h⟩
theorem s_eqS (h : k (.bool (eqB a b))) : binP .eql (.string a) (.string b) k := ⟨_, rfl, h⟩
theorem s_neqS (h : k (.bool (!(eqB a b)))) : binP .neq (.string a) (.string b) k := ⟨_, rfl, h⟩
theorem s_leqS (h : k (.bool (leB a b))) : binP .leq (.string a) (.string b) k := ⟨_, rfl, h⟩
theorem s_lenS (h : k (vi a.size)) : lenStr (.string a) k := h
end

/-- slices of slices that are read -/
def S2 {α : Type} (D : Nat → Prop) (enc : α → List Value) (w : World) (v : Value) (ll : List (List α)) : Prop :=
  ∃ hs : List Value, hs.length = ll.length ∧ Sl D (fun h => [h]) w v hs ∧ ∀ (i : Nat) (h : Value) (l : List α), hs[i]? = some h → ll[i]? = some l → Sl D enc w h l

section
variable {α : Type} {D M : Nat → Prop} {enc : α → List Value} {w w' : World} {v : Value} {ll : List (List α)}
theorem S2.keep (h : S2 D enc w v ll) (k : Keep M w w') (hd : ∀ b, D b → ¬ M b) : S2 D enc w' v ll := by
  obtain ⟨hs, h1, h2, h3⟩ := h
  exact ⟨hs, h1, h2.keep k hd, fun i x l hx hl => (h3 i x l hx hl).keep k hd⟩
theorem S2.keep0 (h : S2 D enc w v ll) (k : Keep NoB w w') : S2 D enc w' v ll := h.keep k fun _ _ h => h
theorem S2.drew (h : S2 D enc w v ll) : S2 D enc w.drew v ll := h.keep0 (keep_drew _ _)
theorem S2.dom {D' : Nat → Prop} (h : S2 D enc w v ll) (hd : ∀ b, D b → D' b) : S2 D' enc w v ll := by
  obtain ⟨hs, h1, h2, h3⟩ := h
  exact ⟨hs, h1, h2.dom hd, fun i x l hx hl => (h3 i x l hx hl).dom hd⟩
theorem S2.lt (h : S2 D enc w v ll) : S2 (Old w) enc w v ll := by
  obtain ⟨hs, h1, h2, h3⟩ := h
  exact ⟨hs, h1, h2.lt, fun i x l hx hl => (h3 i x l hx hl).lt⟩
theorem S2.old (h : S2 D enc w v ll) : S2 (fun b => D b ∧ b < w.heap.size) enc w v ll := by
  obtain ⟨hs, h1, h2, h3⟩ := h
  exact ⟨hs, h1, h2.old, fun i x l hx hl => (h3 i x l hx hl).old⟩
theorem S2.nil : S2 D enc w (.slice none 0 0) ([] : List (List α)) := ⟨[], rfl, Sl.nil, fun i x l hx _ => by simp at hx⟩
theorem S2.bound (h : S2 D enc w v ll) : ll.length ≤ 281474976710656 := by
  obtain ⟨hs, h1, h2, _⟩ := h; rw [← h1]; exact h2.bound
theorem S2.len (h : S2 D enc w v ll) {k : Value → Prop} (hk : k (vi ll.length)) : lenP v k := by
  obtain ⟨hs, h1, h2, _⟩ := h
  exact h2.len (by rw [h1]; exact hk)
theorem S2.one (h : S2 D enc w v ll) : Eng.one v = true := by obtain ⟨hs, _, h2, _⟩ := h; exact h2.one
theorem S2.idx (h : S2 D enc w v ll) {i : Nat} {l : List α} (hl : ll[i]? = some l) {k : Value → Prop}
    (hk : ∀ b o hd, D b → b < w.heap.size → w.cell? ⟨b, o, none⟩ = some hd → Sl D enc w hd l → k (pb b o)) : idxP 1 v (vi i) k := by
  obtain ⟨hs, h1, h2, h3⟩ := h
  have hi := lt_of_idx hl
  have hx : hs[i]? = some (hs[i]'(by omega)) := List.getElem?_eq_getElem _
  refine h2.idx (sz := 1) (fun _ _ => rfl) hx fun b o hd hb hc => hk b o _ hd hb ?_ (h3 i _ l hx hl)
  have := hc 0 _ rfl
  simpa using this
theorem S2.get (h : S2 D enc w v ll) {i : Nat} {l : List α} (hl : ll[i]? = some l) {k : Value → Prop} (hk : ∀ hd, Sl D enc w hd l → k hd) : idxP 1 v (vi i) fun p => ld p w k :=
  h.idx hl fun _ _ hd _ _ hc hs => s_ld hc (hk hd hs)
theorem S2.dropL {P : Program} {t e : TypeId} {by_ : Nat} {z : List Value} (hT : SliceT P t e 1 by_ z) (h : S2 D enc w v ll) {lo : Nat} (hlo : lo ≤ ll.length) {k : Value → Prop} (hk : ∀ v', S2 D enc w v' (ll.drop lo) → k v') :
    pureP P (Instr.sliceAt t v (some (vi lo)) none none) k := by
  obtain ⟨hs, h1, h2, h3⟩ := h
  refine s_sliceLo hT h2 (fun _ _ => rfl) (by omega) fun v' hv' => hk v' ⟨hs.drop lo, by simp [h1], hv', fun i x l hx hl => ?_⟩
  rw [List.getElem?_drop] at hx hl
  exact h3 _ x l hx hl
end
end Go.Eng

