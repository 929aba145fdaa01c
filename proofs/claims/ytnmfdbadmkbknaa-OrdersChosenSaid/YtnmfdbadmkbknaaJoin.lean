/- The law OrdersChosen gives true for every list of integers and leaves its argument as it was; there are no conditions beyond those that the given row states. -/
import Derived.ProofKit
import Derived.SizedLaws
import Derived.Test.YtnmfdbadmkbknaaLib
import Derived.Test.YtnmfdbadmkbknaaSeat
import Derived.Test.YtnmfdbadmkbknaaRows
set_option linter.unusedVariables false
set_option linter.unusedSimpArgs false
/-! From a contract of a law to its row. -/
namespace Go.Eng
open Go Go.ChangeShapes Go.WideShapes Go.ChangeAt Go.RowKit

theorem lit_ok {n : Int} (h : (Lit.int .i64 n).wf = true) : -9223372036854775808 ≤ n ∧ n ≤ 9223372036854775807 := by
  have h1 : IntKind.i64.min = -9223372036854775808 := by decide
  have h2 : IntKind.i64.max = 9223372036854775807 := by decide
  simp only [Lit.wf, Bool.and_eq_true, decide_eq_true_eq, h1, h2] at h
  omega

theorem below_of_keep {w w' : World} (h : Keep NoB w w') : Below w.heap.size w w' :=
  ⟨h.os, h.tape, h.output, h.size, fun k hk => h.block k hk fun h => h⟩

/-- what a law's function does, whatever numbers it is handed -/
def LawRet (P : Program) (f : FuncId) : Prop := ∀ (D : Nat → Prop) (lv : Value) (l : List Int) (w : World), Sl D (fun n => [vi n]) w lv l → (∀ x ∈ l, -9223372036854775808 ≤ x ∧ x ≤ 9223372036854775807) →
  Ret P f #[lv] w fun u w' => u = .bool true ∧ Keep NoB w w'

theorem law_lifted {C : Checked} {f : FuncId} {fn : Func} {t e b : TypeId} {s : ChangeSpec}
    (own : ownKnob C.prog.godebug = none) (hlaid : laidOutB C.prog = true) (noInit : C.prog.inits.idxOf? f = none) (hfn : C.prog.funcs[f]? = some fn)
    (hbody : fn.body.isSome = true) (hname : (fn.name == "runtime.NumGoroutine") = false)
    (hp : fn.params = #[t]) (hr : fn.resultTypes = #[b]) (hu : C.prog.underlying t = some (.slice e)) (he : C.prog.underlying e = some (.int .i64)) (hb : C.prog.underlying b = some .bool) (hc : C.prog.cellsOf e = 1)
    (hby : C.prog.bytesOf e = 8) (hread : C.prog.readableRec t = true) (hrow : t < C.prog.types.size) (hsv : s.vars = [])
    (hs : ∀ (H : Type) (d : DataW H), s.fn H [d] = { results := [.lit (.bool true)], args := [d] })
    (law : LawRet C.prog f) (os : Os) (started : os.Started) (H : Type) (enc : TypeId × Value → H)
    (witness : ∃ (w : World) (tape : Tape) (i : Input), w.os = os ∧ (w.forCall tape i).Shaped C.prog ∧ i.vars = [] ∧ Input.okWide C.prog (w.forCall tape i) .any w.heap.size f i ∧
      s.pre6 enc C.prog fn [] false (w.forCall tape i).memory i.args ∧ ({} : Assume).holds C.prog (lone (Frame.enter C.prog f i.args .normal) [] (w.forCall tape i))) :
    ReturnsInHanded {} C os f .any (s.pre6 enc C.prog fn [] false) (s.post enc C.prog fn false true false false) := by
  refine returnsInHanded_of_change_sized (C := C) own started noInit hfn witness ?_
  intro W base args ds gs before hval0 hW _ hsz0 _
  have hW' := hW
  obtain ⟨p, q, hA, hV, rfl, hfz, hnd⟩ := hW
  rw [hp] at hA hval0
  rw [hsv] at hV
  obtain ⟨v0, d0, hva, rfl, h0⟩ := trodAll_one hA
  obtain ⟨rfl, rfl⟩ := trodVars_none hV
  have hargs : args = #[v0] := hva
  subst hargs
  simp only [List.append_nil] at hW'
  have hlt : ∀ x ∈ p, x.block < W.heap.size := fun x hx => by simpa using hW'.lt x hx
  obtain ⟨a0, len, cap, hv0⟩ := okWide_slice hu (hval0 0 t v0 rfl rfl)
  have hsz := hsz0
  rw [hp] at hsz
  obtain ⟨fuel0, hf⟩ := h0
  have h0' : DataW.Trod enc C.prog W 0 (fun _ => true) true t v0 d0 p := ⟨fuel0, hf⟩
  have hfin : ∀ l : List Int, Sl (fun _ => True) (fun n => [vi n]) W v0 l → (∀ x ∈ l, -9223372036854775808 ≤ x ∧ x ≤ 9223372036854775807) →
      Calls C.prog f #[v0] W fun e W' => ∃ v, e = .returned v ∧ s.post enc C.prog fn false true false false W #[v0] v W' := fun l hl hr' => by
    refine (calls_of_ret hfn hbody hname (law _ v0 l W hl hr')).mono ?_
    rintro e' W' ⟨v, rfl, rfl, hk⟩
    have hbel := below_of_keep hk
    have hk0 : Keep NoB W W' := hk
    have e1 : s.fn H ([d0] ++ []) = { results := [.lit (.bool true)], args := [d0] } := hs H d0
    refine ⟨_, rfl, [d0], [], p, [], p, [], ?_, ?_, ?_, ?_, ?_, fun h => by cases h⟩
    · exact hW'
    · rw [e1, hr]; exact trodAll_mk1 (shut_bool hb true)
    · rw [e1, hp]
      exact trodAll_mk1 (Below.trod hlaid hread hrow h0' hbel hlt)
    · rw [e1, hsv]; rfl
    · exact hbel.frame _
  rcases open_ints hu he hc hf with ⟨hcs, hx⟩ | ⟨a, len', cap', zs, hcs, _, hl, hm, hz, hx, hcell, hwz⟩
  · subst hv0
    simp [Value.cells] at hcs
    obtain ⟨rfl, rfl, rfl⟩ := hcs
    exact hfin [] Sl.nil (fun x hx => by cases hx)
  · subst hv0
    simp [Value.cells] at hcs
    obtain ⟨rfl, rfl, rfl⟩ := hcs
    simp only [if_true] at hz
    simp only [Prod.mk.injEq] at hx
    obtain ⟨rfl, rfl⟩ := hx
    have hsize := sized_slice (j := 0) (t := t) (e := e) hsz rfl rfl hu
    rw [hby] at hsize
    have hcap : cap * 8 ≤ reachBytes := by
      have : (lits (H := H) .i64 (zs.take len)).length + (lits (H := H) .i64 (zs.drop len)).length = cap := by
        simp [lits]; omega
      rw [this] at hsize; exact hsize
    have hrb := reachBytes_lt
    have htl : (zs.take len).length = len := by simp; omega
    refine hfin (zs.take len) ⟨some a, cap, by rw [htl], ⟨by omega, by omega⟩, fun hne => ?_⟩ (fun x hx => lit_ok (hwz x (List.mem_of_mem_take hx)))
    have hlen0 : 0 < len := by
      rcases Nat.eq_zero_or_pos len with h | h
      · subst h; exact absurd rfl hne
      · exact h
    obtain ⟨bb, off, spot⟩ := a
    have hspot : spot = none := by
      have := hcell 0 (by omega)
      simpa [Addr.add] using World.cell?_spot this
    subst hspot
    have hat : ∀ j : Nat, j < zs.length → W.cell? ⟨bb, off + j, none⟩ = some (vi (zs.getD j 0)) := fun j hj => by
      have := hcell j hj
      rw [addr_add] at this
      exact this
    refine ⟨bb, off, rfl, trivial, ?_, ?_⟩
    · exact cell_lt (hat 0 (by omega))
    · intro j v hj
      have hjl : j < len := by
        have := lt_of_idx hj
        rw [flat_len (sz := 1) _ (fun _ _ => rfl)] at this
        omega
      have e1 : ((zs.take len).flatMap fun n => [vi n]) = (zs.take len).map vi := by
        induction (zs.take len) with
        | nil => rfl
        | cons x r ih => simp [ih]
      rw [e1, List.getElem?_map, List.getElem?_take, if_pos hjl] at hj
      rw [hat j (by omega)]
      rw [List.getElem?_eq_getElem (by omega)] at hj
      simp only [Option.map_some, Option.some.injEq] at hj
      rw [← hj]
      simp [List.getD, List.getElem?_eq_getElem (show j < zs.length by omega)]

end Go.Eng

/-! The law, joined. -/
namespace Go.Proofs.Ytnmfdbadmkbknaa
open Go Go.Proofs Go.Eng Go.ChangeShapes Go.WideShapes Go.ChangeAt Go.RowKit

theorem law_ret : LawRet Try.checked.prog 3 := fun _ _ _ _ hl hr => ordersChosen_spec eqs ty hl hr

set_option maxRecDepth 100000 in
theorem law_lift (os : Os) (started : os.Started) (H : Type) (enc : TypeId × Value → H) :
    ReturnsInHanded {} Try.checked os 3 .any (Rows.ordersChosenSpec.pre6 enc Try.prog Try.f3 [] false) (Rows.ordersChosenSpec.post enc Try.prog Try.f3 false true false false) :=
  law_lifted (C := Try.checked) (t := 22) (e := 3) (b := 4) (s := Rows.ordersChosenSpec) (by kernel_rfl) (by kernel_rfl) (by kernel_rfl) Try.func3 (by kernel_rfl) (by kernel_rfl)
    (by kernel_rfl) (by kernel_rfl) (by kernel_rfl) (by kernel_rfl) (by kernel_rfl) (by kernel_rfl) (by kernel_rfl) (by kernel_rfl) (of_decide_eq_true (by kernel_rfl)) rfl (fun _ _ => rfl) law_ret os started H enc
    (ChangeSpec.witness6 (enc := enc) (C := Try.checked) false ⟨#[], #[.slice none 0 0], []⟩ 8 (by kernel_rfl) (by kernel_rfl) (by kernel_rfl) (by kernel_rfl))

theorem law_holds : Rows.OrdersChosenSaid :=
  OpenClaim.holds_of_wide 3 Try.f3 rfl rfl rfl rfl rfl rfl rfl ⟨rfl, rfl, rfl, rfl, rfl⟩ rfl rfl rfl rfl rfl (by kernel_rfl) Try.func3 (by kernel_rfl)
    (of_decide_eq_true (by kernel_rfl)) (by unfold Func.isWrapper; first | (rw [if_neg (of_decide_eq_false (by kernel_rfl))]; exact ⟨rfl, rfl⟩) | (rw [if_pos (of_decide_eq_true (by kernel_rfl))]; kernel_rfl))
    (fun os started H enc _ => law_lift os started H enc)
#print axioms law_holds
end Go.Proofs.Ytnmfdbadmkbknaa

