/- The law NoOrderTravelsLess gives true for every list of integers and leaves its argument as it was; there are no conditions beyond those that the given row states. -/
import Derived.ProofKit
import Derived.SizedLaws
import Derived.Test.YtjocebmjjakddaaGreatDoorLib
import Derived.Test.YtjocebmjjakddaaGreatDoorPb
import Derived.Test.YtjocebmjjakddaaGreatDoorSeat
import Derived.Test.YtjocebmjjakddaaGreatDoorTie
import Derived.Test.YtjocebmjjakddaaGreatDoorCards
import Derived.OpenShut
import Derived.LaidMore
import Derived.Lay
import Derived.SevenTiedAt
import Derived.Stop.Joined
set_option linter.unusedVariables false
set_option linter.unusedSimpArgs false
/-! From a contract of a law to its row. -/
namespace Go.Eng
open Go Go.ChangeShapes Go.WideShapes Go.ChangeAt Go.RowKit

theorem lit_ok {n : Int} (h : (Lit.int .i64 n).wf = true) : -9223372036854775808 ≤ n ∧ n ≤ 9223372036854775807 := by
  have h1 : IntKind.i64.min = -9223372036854775808 := by decide
  have h2 : IntKind.i64.max = 9223372036854775807 := by decide
  simp only [Lit.wf, Bool.and_eq_true, decide_eq_true_eq, h1, h2] at h
  omega

theorem below_of_keep {w w' : World} (h : Keep NoB w w') : Below w.heap.size w w' :=
  ⟨h.os, h.tape, h.output, h.size, fun k hk => h.block k hk fun h => h⟩

/-- what a law's function does, whatever numbers it is handed -/
def LawRet (P : Program) (f : FuncId) : Prop := ∀ (D : Nat → Prop) (lv : Value) (l : List Int) (w : World), Sl D (fun n => [vi n]) w lv l → (∀ x ∈ l, -9223372036854775808 ≤ x ∧ x ≤ 9223372036854775807) →
  Ret P f #[lv] w fun u w' => u = .bool true ∧ Keep NoB w w'

theorem law_contract {P : Program} {f : FuncId} {fn : Func} {t e b : TypeId} {s : ChangeSpec}
    (hlaid : laidOutB P = true) (hfn : P.funcs[f]? = some fn)
    (hbody : fn.body.isSome = true) (hname : (fn.name == "runtime.NumGoroutine") = false)
    (hp : fn.params = #[t]) (hr : fn.resultTypes = #[b]) (hu : P.underlying t = some (.slice e)) (he : P.underlying e = some (.int .i64)) (hb : P.underlying b = some .bool) (hc : P.cellsOf e = 1)
    (hby : P.bytesOf e = 8) (hread : P.readableRec t = true) (hrow : t < P.types.size) (hsv : s.vars = [])
    (hs : ∀ (H : Type) (d : DataW H), s.fn H [d] = { results := [.lit (.bool true)], args := [d] })
    (law : LawRet P f) {H : Type} (enc : TypeId × Value → H)
    (W : World) (base : Nat) (args : Array Value) (ds gs : List (DataW H)) (before : List MemPlace)
    (hval0 : ∀ (j : Nat) t v, fn.params[j]? = some t → args[j]? = some v → Value.okWide P W .any base t v)
    (hW : DataW.Whole enc P fn.params.toList s.vars false W args.toList ds gs before)
    (hsz0 : (DataW.weightsEach P (fn.params.toList ++ s.plain.varTypes P) (ds ++ gs)).all (· ≤ reachBytes) = true) :
    Calls P f args W fun e W' => ∃ v, e = .returned v ∧ s.post enc P fn false true false false W args v W' := by
  have hW' := hW
  obtain ⟨p, q, hA, hV, rfl, hfz, hnd⟩ := hW
  rw [hp] at hA hval0
  rw [hsv] at hV
  obtain ⟨v0, d0, hva, rfl, h0⟩ := trodAll_one hA
  obtain ⟨rfl, rfl⟩ := trodVars_none hV
  have hargs : args = #[v0] := hva
  subst hargs
  simp only [List.append_nil] at hW'
  have hlt : ∀ x ∈ p, x.block < W.heap.size := fun x hx => by simpa using hW'.lt x hx
  obtain ⟨a0, len, cap, hv0⟩ := okWide_slice hu (hval0 0 t v0 rfl rfl)
  have hsz := hsz0
  rw [hp] at hsz
  obtain ⟨fuel0, hf⟩ := h0
  have h0' : DataW.Trod enc P W 0 (fun _ => true) true t v0 d0 p := ⟨fuel0, hf⟩
  have hfin : ∀ l : List Int, Sl (fun _ => True) (fun n => [vi n]) W v0 l → (∀ x ∈ l, -9223372036854775808 ≤ x ∧ x ≤ 9223372036854775807) →
      Calls P f #[v0] W fun e W' => ∃ v, e = .returned v ∧ s.post enc P fn false true false false W #[v0] v W' := fun l hl hr' => by
    refine (calls_of_ret hfn hbody hname (law _ v0 l W hl hr')).mono ?_
    rintro e' W' ⟨v, rfl, rfl, hk⟩
    have hbel := below_of_keep hk
    have hk0 : Keep NoB W W' := hk
    have e1 : s.fn H ([d0] ++ []) = { results := [.lit (.bool true)], args := [d0] } := hs H d0
    refine ⟨_, rfl, [d0], [], p, [], p, [], ?_, ?_, ?_, ?_, ?_, fun h => by cases h⟩
    · exact hW'
    · rw [e1, hr]; exact trodAll_mk1 (shut_bool hb true)
    · rw [e1, hp]
      exact trodAll_mk1 (Below.trod hlaid hread hrow h0' hbel hlt)
    · rw [e1, hsv]; rfl
    · exact hbel.frame _
  rcases open_ints hu he hc hf with ⟨hcs, hx⟩ | ⟨a, len', cap', zs, hcs, _, hl, hm, hz, hx, hcell, hwz⟩
  · subst hv0
    simp [Value.cells] at hcs
    obtain ⟨rfl, rfl, rfl⟩ := hcs
    exact hfin [] Sl.nil (fun x hx => by cases hx)
  · subst hv0
    simp [Value.cells] at hcs
    obtain ⟨rfl, rfl, rfl⟩ := hcs
    simp only [if_true] at hz
    simp only [Prod.mk.injEq] at hx
    obtain ⟨rfl, rfl⟩ := hx
    have hsize := sized_slice (j := 0) (t := t) (e := e) hsz rfl rfl hu
    rw [hby] at hsize
    have hcap : cap * 8 ≤ reachBytes := by
      have : (lits (H := H) .i64 (zs.take len)).length + (lits (H := H) .i64 (zs.drop len)).length = cap := by
        simp [lits]; omega
      rw [this] at hsize; exact hsize
    have hrb := reachBytes_lt
    have htl : (zs.take len).length = len := by simp; omega
    refine hfin (zs.take len) ⟨some a, cap, by rw [htl], ⟨by omega, by omega⟩, fun hne => ?_⟩ (fun x hx => lit_ok (hwz x (List.mem_of_mem_take hx)))
    have hlen0 : 0 < len := by
      rcases Nat.eq_zero_or_pos len with h | h
      · subst h; exact absurd rfl hne
      · exact h
    obtain ⟨bb, off, spot⟩ := a
    have hspot : spot = none := by
      have := hcell 0 (by omega)
      simpa [Addr.add] using World.cell?_spot this
    subst hspot
    have hat : ∀ j : Nat, j < zs.length → W.cell? ⟨bb, off + j, none⟩ = some (vi (zs.getD j 0)) := fun j hj => by
      have := hcell j hj
      rw [addr_add] at this
      exact this
    refine ⟨bb, off, rfl, trivial, ?_, ?_⟩
    · exact cell_lt (hat 0 (by omega))
    · intro j v hj
      have hjl : j < len := by
        have := lt_of_idx hj
        rw [flat_len (sz := 1) _ (fun _ _ => rfl)] at this
        omega
      have e1 : ((zs.take len).flatMap fun n => [vi n]) = (zs.take len).map vi := by
        induction (zs.take len) with
        | nil => rfl
        | cons x r ih => simp [ih]
      rw [e1, List.getElem?_map, List.getElem?_take, if_pos hjl] at hj
      rw [hat j (by omega)]
      rw [List.getElem?_eq_getElem (by omega)] at hj
      simp only [Option.map_some, Option.some.injEq] at hj
      rw [← hj]
      simp [List.getD, List.getElem?_eq_getElem (show j < zs.length by omega)]


theorem law_lifted {C : Checked} {f : FuncId} {fn : Func} {t e b : TypeId} {s : ChangeSpec}
    (own : ownKnob C.prog.godebug = none) (hlaid : laidOutB C.prog = true) (noInit : C.prog.inits.idxOf? f = none) (hfn : C.prog.funcs[f]? = some fn)
    (hbody : fn.body.isSome = true) (hname : (fn.name == "runtime.NumGoroutine") = false)
    (hp : fn.params = #[t]) (hr : fn.resultTypes = #[b]) (hu : C.prog.underlying t = some (.slice e)) (he : C.prog.underlying e = some (.int .i64)) (hb : C.prog.underlying b = some .bool) (hc : C.prog.cellsOf e = 1)
    (hby : C.prog.bytesOf e = 8) (hread : C.prog.readableRec t = true) (hrow : t < C.prog.types.size) (hsv : s.vars = [])
    (hs : ∀ (H : Type) (d : DataW H), s.fn H [d] = { results := [.lit (.bool true)], args := [d] })
    (law : LawRet C.prog f) (os : Os) (started : os.Started) (H : Type) (enc : TypeId × Value → H)
    (witness : ∃ (w : World) (tape : Tape) (i : Input), w.os = os ∧ (w.forCall tape i).Shaped C.prog ∧ i.vars = [] ∧ Input.okWide C.prog (w.forCall tape i) .any w.heap.size f i ∧
      s.pre6 enc C.prog fn [] false (w.forCall tape i).memory i.args ∧ ({} : Assume).holds C.prog (lone (Frame.enter C.prog f i.args .normal) [] (w.forCall tape i))) :
    ReturnsInHanded {} C os f .any (s.pre6 enc C.prog fn [] false) (s.post enc C.prog fn false true false false) := by
  exact returnsInHanded_of_change_sized (C := C) own started noInit hfn witness fun W base args ds gs before hval0 hW _ hsz0 _ =>
    law_contract hlaid hfn hbody hname hp hr hu he hb hc hby hread hrow hsv hs law enc W base args ds gs before hval0 hW hsz0

theorem law_lifted_laid {C : Checked} {f : FuncId} {fn : Func} {t e b : TypeId} {s : ChangeSpec} {X : World → Array Value → Prop} (hX : ∀ (w w' : World) (args : Array Value), w.heap = w'.heap → X w args → X w' args)
    (own : ownKnob C.prog.godebug = none) (hlaid : laidOutB C.prog = true) (noInit : C.prog.inits.idxOf? f = none) (hfn : C.prog.funcs[f]? = some fn)
    (hbody : fn.body.isSome = true) (hname : (fn.name == "runtime.NumGoroutine") = false)
    (hp : fn.params = #[t]) (hr : fn.resultTypes = #[b]) (hu : C.prog.underlying t = some (.slice e)) (he : C.prog.underlying e = some (.int .i64)) (hb : C.prog.underlying b = some .bool) (hc : C.prog.cellsOf e = 1)
    (hby : C.prog.bytesOf e = 8) (hread : C.prog.readableRec t = true) (hrow : t < C.prog.types.size) (hsv : s.vars = [])
    (hs : ∀ (H : Type) (d : DataW H), s.fn H [d] = { results := [.lit (.bool true)], args := [d] })
    (law : LawRet C.prog f) (os : Os) (started : os.Started) (H : Type) (enc : TypeId × Value → H)
    (witness : ∃ (w : World) (tape : Tape) (i : Input), w.os = os ∧ (w.forCall tape i).Shaped C.prog ∧ i.vars = [] ∧ Input.okWide C.prog (w.forCall tape i) .any w.heap.size f i ∧
      ((s.pre enc C.prog fn [] false (w.forCall tape i).memory i.args ∧ X (w.forCall tape i).memory i.args) ∧ sizedMet enc C.prog fn (OpenSpec.ofChange s) false (w.forCall tape i).memory i.args) ∧ ({} : Assume).holds C.prog (lone (Frame.enter C.prog f i.args .normal) [] (w.forCall tape i))) :
    ReturnsInHanded {} C os f .any (fun w args => (s.pre enc C.prog fn [] false w args ∧ X w args) ∧ sizedMet enc C.prog fn (OpenSpec.ofChange s) false w args) (s.post enc C.prog fn false true false false) := by
  exact returnsInHanded_of_change_and (C := C) hX own started noInit hfn witness fun W base args ds gs before hval0 hW _ hsz0 _ _ =>
    law_contract hlaid hfn hbody hname hp hr hu he hb hc hby hread hrow hsv hs law enc W base args ds gs before hval0 hW hsz0

end Go.Eng

/-! The law, joined. -/
namespace Go.Proofs.YtjocebmjjakddaaGreatDoor
open Go Go.Proofs Go.Eng Go.ChangeShapes Go.WideShapes Go.ChangeAt Go.RowKit

set_option maxRecDepth 100000 in
theorem law_ret : LawRet Tryz.checked.prog 3 := fun _ _ _ _ hl hr => noOrder_spec eqs ext extR tyO hl hr

set_option maxRecDepth 100000 in
theorem law_lift (os : Os) (started : os.Started) (H : Type) (enc : TypeId × Value → H) :
    ReturnsInHanded {} Tryz.checked os 3 .any (fun w args => (Rows.noOrderTravelsLessSpec.pre enc Tryz.prog Tryz.f3 [] false w args ∧ laidMetH Tryz.prog Rows.noOrderTravelsLessRow.laid w) ∧ sizedMet enc Tryz.prog Tryz.f3 (OpenSpec.ofChange Rows.noOrderTravelsLessSpec) false w args)
      (Rows.noOrderTravelsLessSpec.post enc Tryz.prog Tryz.f3 false true false false) :=
  law_lifted_laid (C := Tryz.checked) (t := 22) (e := 3) (b := 4) (s := Rows.noOrderTravelsLessSpec) (X := fun w _ => laidMetH Tryz.prog Rows.noOrderTravelsLessRow.laid w) (fun _ _ _ hh h => h.of_heap hh) (by kernel_rfl) (by kernel_rfl) (by kernel_rfl) Tryz.func3 (by kernel_rfl) (by kernel_rfl)
    (by kernel_rfl) (by kernel_rfl) (by kernel_rfl) (by kernel_rfl) (by kernel_rfl) (by kernel_rfl) (by kernel_rfl) (by kernel_rfl) (of_decide_eq_true (by kernel_rfl)) rfl (fun _ _ => rfl) law_ret os started H enc
    (ChangeSpec.witness_shaped (enc := enc) (C := Tryz.checked) (os := os) (X := fun w _ => laidMetH Tryz.prog Rows.noOrderTravelsLessRow.laid w) false (World.laidAll Tryz.prog os Rows.noOrderTravelsLessRow.laid) #[.slice none 0 0] 8 (World.laidAll_os _ _ _)
      (World.shaped_of_ZipB (by kernel_rfl) (by kernel_rfl)) (by kernel_rfl) (by kernel_rfl) (by kernel_rfl)
      (by rw [MakeChecks.laidMetH_plain _ _ _ (by kernel_rfl)]; exact laidMet_laidAll _ (by kernel_rfl) (by kernel_rfl)))

theorem row_holds : Rows.NoOrderTravelsLessSaid :=
  OpenClaim.holds_of_wide 3 Tryz.f3 rfl rfl rfl rfl rfl rfl rfl ⟨rfl, rfl, rfl, rfl, rfl⟩ rfl rfl rfl rfl rfl (by kernel_rfl) Tryz.func3 (by kernel_rfl)
    (of_decide_eq_true (by kernel_rfl)) (by unfold Func.isWrapper; first | (rw [if_neg (of_decide_eq_false (by kernel_rfl))]; exact ⟨rfl, rfl⟩) | (rw [if_pos (of_decide_eq_true (by kernel_rfl))]; kernel_rfl))
    (fun os started H enc _ => law_lift os started H enc)

theorem law_holds : Rows.NoOrderTravelsLessCardSaid :=
  Claim7.holds_tied_plain_at .later [] [.data, .pinned] true (true, "76c431552fe2ba977914b8ea52219b771ccdd2a5dd514ccb7b6937cbea4c8e14") false row_holds (fun _ h => by cases h) (by kernel_rfl) (fun _ h => by cases h) noOrderTravelsLess_row_tie rfl ⟨rfl, rfl⟩ (by kernel_rfl) rfl
    (fun f fn hf hfn => by
      obtain rfl : f = 3 := Option.some.inj ((show Tryz.prog.funcNamed Rows.noOrderTravelsLessRow.func = some 3 by kernel_rfl).symm.trans hf) |>.symm
      obtain rfl : fn = Tryz.f3 := (Option.some.inj (Tryz.func3.symm.trans hfn)).symm
      exact ⟨by kernel_rfl, fun j t ht => by
        have hp : Tryz.f3.params = #[22] := by kernel_rfl
        rw [hp] at ht
        have hm : t ∈ [22] := by simpa using Array.mem_of_getElem? ht
        have hall : ([22].all fun u => !Tryz.prog.wantsStandIn u) = true := by kernel_rfl
        exact (show Tryz.prog.wantsStandIn t = false by simpa using List.all_eq_true.1 hall t hm)⟩)
    (by kernel_rfl)
#print axioms law_holds
end Go.Proofs.YtjocebmjjakddaaGreatDoor

