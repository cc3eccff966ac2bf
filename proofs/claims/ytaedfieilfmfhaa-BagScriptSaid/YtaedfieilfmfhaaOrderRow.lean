/- BagOrder is true for every input: the row. No condition. -/
import Derived.Test.YtaedfieilfmfhaaOnceRow
import Derived.Test.YtaedfieilfmfhaaOrder
import Derived.Deep.Slices
namespace Go.Proofs.Ytaedfieilfmfhaa
open Go.ChangeShapes Go.WideShapes Go.ChangeAt Go.RowKit
open Go.Deep (open_slice1)

theorem cells4 : Try.prog.cellsOf 4 = 1 := by kernel_rfl

theorem open_bools {H : Type} {enc : TypeId × Value → H} {W : World} {base : Nat} {v : Value} {d : DataW H} {p : List MemPlace} (hv : Value.okWide Try.prog W .any base 34 v)
    (h : DataW.Trod enc Try.prog W 0 (fun _ => true) true 34 v d p) :
    ∃ A n c bs, v = .slice A n c ∧ IsB W A n bs := by
  obtain ⟨a0, len, cap, rfl⟩ := okWide_slice Try.underlying34 hv
  obtain ⟨fuel, hf⟩ := h
  rcases open_slice1 Try.underlying34 cells4 hf with ⟨hcs, hx⟩ | ⟨a, len', cap', m, n, V, D, Pl, hcs, _, hl, hm, hmm, hx, hel⟩
  · simp [Value.cells] at hcs
    obtain ⟨rfl, rfl, rfl⟩ := hcs
    exact ⟨none, 0, 0, [], rfl, ⟨rfl, by simp⟩⟩
  · simp [Value.cells] at hcs
    obtain ⟨rfl, rfl, rfl⟩ := hcs
    simp only [if_true] at hmm
    subst hmm
    have each : ∀ i, ∃ b : Bool, i < m → W.cell? (a.add i) = some (.bool b) := by
      intro i
      by_cases hi : i < m
      · obtain ⟨hc, ht⟩ := hel i hi
        obtain ⟨b, hb, _⟩ := DataW.trod_bool Try.underlying4 ht
        simp only [List.cons.injEq, and_true] at hb
        exact ⟨b, fun _ => hb ▸ hc⟩
      · exact ⟨false, fun h => absurd h hi⟩
    let g : Nat → Bool := fun i => (each i).choose
    have hg : ∀ i, i < m → W.cell? (a.add i) = some (.bool (g i)) := fun i hi => (each i).choose_spec hi
    refine ⟨some a, len, m, (List.range len).map g, rfl, ⟨by simp, fun hn => ⟨a, rfl, ?_, fun j x hj => ?_⟩⟩⟩
    · have := World.block_lt_of_cell? W _ (hg 0 (by omega))
      rwa [block_of_add] at this
    · have hj' : j < len := by
        have := (List.getElem?_eq_some_iff.1 hj).1
        simpa using this
      rw [List.getElem?_map, List.getElem?_range hj'] at hj
      cases hj
      exact hg j (by omega)

set_option maxRecDepth 100000 in
theorem order_lifted (os : Os) (started : os.Started) (H : Type) (enc : TypeId × Value → H) :
    ReturnsInHanded {} Try.checked os 4 .any (Rows.bagOrderSpec.pre6 enc Try.prog Try.f4 Rows.bagOrderRow.domain false) (Rows.bagOrderSpec.post enc Try.prog Try.f4 false true false false) := by
  refine returnsInHanded_of_change (C := Try.checked) Try.own started (by kernel_rfl) Try.func4
    (ChangeSpec.witness6 (enc := enc) (C := Try.checked) false ⟨#[], #[.slice none 0 0, .slice none 0 0], []⟩ 8 (by kernel_rfl) (by kernel_rfl) (by kernel_rfl) (by kernel_rfl)) ?_
  intro W base args ds gs before hval0 hW hcnd _
  have hval : ∀ (j : Nat) t v, Try.f4.params[j]? = some t → args[j]? = some v → Value.okWide Try.prog W .any base t v := hval0
  have hW' := hW
  obtain ⟨p, q, hA0, hV, rfl, hfz, hnd⟩ := hW
  have hlt : ∀ x ∈ p, x.block < W.heap.size := fun x hx => by simpa using hW'.lt x (by simp [hx])
  have hA : DataW.TrodAll enc Try.prog W 0 (fun _ => true) true Try.f4.params.toList args.toList ds p := hA0
  rw [Try.params4] at hA hval
  obtain ⟨v0, v1, d0, d1, p0, p1, rfl, rfl, rfl, h0, h1⟩ := trodAll_two hA
  obtain ⟨rfl, rfl⟩ := trodVars_none hV
  obtain ⟨A, n, c, l, rfl, hI, hc⟩ := open_texts (hval 0 22 v0 rfl rfl) h0 (fun x hx => hlt x (by simp [hx]))
  obtain ⟨A2, n2, c2, bs, rfl, hB⟩ := open_bools (hval 1 34 v1 rfl rfl) h1
  refine (order_any A n c l A2 n2 c2 bs W hI hB).mono fun e W' ⟨he, hw⟩ => ?_
  subst he
  exact ⟨_, rfl, post_true rfl hW' rfl (of_decide_eq_true (by kernel_rfl)) rfl rfl rfl hw⟩

theorem order_holds : Rows.BagOrderSaid :=
  OpenClaim.holds_of_wide 4 Try.f4 rfl rfl rfl rfl rfl rfl rfl ⟨rfl, rfl, rfl, rfl, rfl⟩ rfl rfl rfl rfl rfl (by kernel_rfl) Try.func4 (by kernel_rfl)
    (of_decide_eq_true (by kernel_rfl)) (by unfold Func.isWrapper; first | (rw [if_pos (by decide +kernel)]; kernel_rfl) | (rw [if_neg (by decide +kernel)]; exact ⟨rfl, rfl⟩))
    (fun os started H enc _ => order_lifted os started H enc)
#print axioms order_holds
end Go.Proofs.Ytaedfieilfmfhaa
