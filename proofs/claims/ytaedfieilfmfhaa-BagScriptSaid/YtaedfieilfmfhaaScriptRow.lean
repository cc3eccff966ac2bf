/- BagScript is true for every input: the row. No condition. -/
import Derived.Test.YtaedfieilfmfhaaOrderRow
import Derived.Test.YtaedfieilfmfhaaScript
import Derived.Deep.Fields
import Derived.ChangeSame
namespace Go.Proofs.Ytaedfieilfmfhaa
open Go.ChangeShapes Go.WideShapes Go.ChangeAt Go.RowKit
open Go.Deep (open_slice)

theorem cells3 : Try.prog.cellsOf 3 = 1 := by kernel_rfl
theorem cells45 : Try.prog.cellsOf 45 = 2 := by kernel_rfl

theorem script_any (room : Int) (A : Option Addr) (n c : Nat) (l : List (Int × Int)) (w : World) (h : IsActs w A n l) :
    Calls Try.prog 5 #[.int .i64 room, .slice A n c] w fun e w' => e = .returned (.bool true) ∧ Below w.heap.size w w' := by
  by_cases h0 : room < 0 ∨ 2000 < room
  · exact script_bad room A n c w h0
  · by_cases hn : 200 < n
    · exact script_long room A n c w (by omega) (by omega) hn
    · have hl := h.1
      subst hl
      obtain ⟨k, rfl⟩ : ∃ k : Nat, room = k := ⟨room.toNat, by omega⟩
      exact script_main k A c l w (by omega) (by omega) h

theorem cell_pair {w : World} {a : Addr} {cs : List Value} (h : w.cells? 0 a 2 = some cs) : ∃ u v, cs = [u, v] ∧ w.cell? a = some u ∧ w.cell? (a.add 1) = some v := by
  obtain ⟨_, hlen, hat⟩ := World.cells?_some h
  match cs, hlen, hat with
  | [u, v], _, hat =>
    refine ⟨u, v, rfl, ?_, ?_⟩
    · have := hat 0 (by omega); simpa [Addr.add] using this
    · simpa using hat 1 (by omega)

theorem open_acts {H : Type} {enc : TypeId × Value → H} {W : World} {base : Nat} {v : Value} {d : DataW H} {p : List MemPlace} (hv : Value.okWide Try.prog W .any base 37 v)
    (h : DataW.Trod enc Try.prog W 0 (fun _ => true) true 37 v d p) :
    ∃ A n c l, v = .slice A n c ∧ IsActs W A n l := by
  obtain ⟨a0, len, cap, rfl⟩ := okWide_slice Try.underlying37 hv
  obtain ⟨fuel, hf⟩ := h
  rcases open_slice Try.underlying37 hf with ⟨hcs, hx⟩ | ⟨a, len', cap', m, n, D, Pl, hcs, _, hl, hm, hmm, hx, hel⟩
  · simp [Value.cells] at hcs
    obtain ⟨rfl, rfl, rfl⟩ := hcs
    exact ⟨none, 0, 0, [], rfl, ⟨rfl, by simp⟩⟩
  · simp [Value.cells] at hcs
    obtain ⟨rfl, rfl, rfl⟩ := hcs
    simp only [if_true] at hmm
    subst hmm
    have each : ∀ i, ∃ x : Int × Int, i < m → W.cell? (a.add (i * 2)) = some (.int .i64 x.1) ∧ W.cell? (a.add (i * 2 + 1)) = some (.int .i64 x.2) := by
      intro i
      by_cases hi : i < m
      · obtain ⟨cs', hc, ht⟩ := hel i hi
        rw [cells45] at hc
        obtain ⟨u, v, rfl, hu, hv⟩ := cell_pair hc
        rw [add_of_add] at hv
        obtain ⟨ys, n', hn', hy, hlen, hyl, hfs⟩ := DataW.trod_struct Try.underlying45 ht
        have hyl2 : ys.length = 2 := hyl
        have f0 := hfs 0 _ rfl
        have f1 := hfs 1 _ rfl
        rw [List.getElem?_eq_getElem (by omega)] at f0 f1
        replace f0 : DataW.trod enc Try.prog W 0 (fun _ => true) true n' 3 ([u, v].take (Try.prog.cellsOf 3)) = some ys[0] := f0
        replace f1 : DataW.trod enc Try.prog W 0 (fun _ => true) true n' 3 ([v].take (Try.prog.cellsOf 3)) = some ys[1] := f1
        rw [cells3] at f0 f1
        obtain ⟨x, hx0, _⟩ := DataW.trod_int Try.underlying3 f0
        obtain ⟨y, hy0, _⟩ := DataW.trod_int Try.underlying3 f1
        have hx1 : [u] = [Value.int .i64 x] := hx0
        have hy1 : [v] = [Value.int .i64 y] := hy0
        cases hx1
        cases hy1
        exact ⟨(x, y), fun _ => ⟨hu, hv⟩⟩
      · exact ⟨(0, 0), fun h => absurd h hi⟩
    let g : Nat → Int × Int := fun i => (each i).choose
    have hg : ∀ i, i < m → _ := fun i hi => (each i).choose_spec hi
    refine ⟨some a, len, m, (List.range len).map g, rfl, ⟨by simp, fun hn => ⟨a, rfl, ?_, fun j x hj => ?_⟩⟩⟩
    · have := World.block_lt_of_cell? W _ (hg 0 (by omega)).1
      rwa [block_of_add] at this
    · have hj' : j < len := by
        have := (List.getElem?_eq_some_iff.1 hj).1
        simpa using this
      rw [List.getElem?_map, List.getElem?_range hj'] at hj
      cases hj
      exact hg j (by omega)

set_option maxRecDepth 100000 in
theorem script_lifted (os : Os) (started : os.Started) (H : Type) (enc : TypeId × Value → H) :
    ReturnsInHanded {} Try.checked os 5 .any (Rows.bagScriptSpec.pre6 enc Try.prog Try.f5 Rows.bagScriptRow.domain false) (Rows.bagScriptSpec.post enc Try.prog Try.f5 false true false false) := by
  refine returnsInHanded_of_change (C := Try.checked) Try.own started (by kernel_rfl) Try.func5
    (ChangeSpec.witness6 (enc := enc) (C := Try.checked) false ⟨#[], #[.int .i64 0, .slice none 0 0], []⟩ 8 (by kernel_rfl) (by kernel_rfl) (by kernel_rfl) (by kernel_rfl)) ?_
  intro W base args ds gs before hval0 hW hcnd _
  have hval : ∀ (j : Nat) t v, Try.f5.params[j]? = some t → args[j]? = some v → Value.okWide Try.prog W .any base t v := hval0
  have hW' := hW
  obtain ⟨p, q, hA0, hV, rfl, hfz, hnd⟩ := hW
  have hA : DataW.TrodAll enc Try.prog W 0 (fun _ => true) true Try.f5.params.toList args.toList ds p := hA0
  rw [Try.params5] at hA hval
  obtain ⟨v0, v1, d0, d1, p0, p1, rfl, rfl, rfl, h0, h1⟩ := trodAll_two hA
  obtain ⟨rfl, rfl⟩ := trodVars_none hV
  obtain ⟨k, e1, _, _, wk⟩ := open_int Try.underlying3 (hval 0 3 v0 rfl rfl) h0
  obtain ⟨A, n, c, l, rfl, hI⟩ := open_acts (hval 1 37 v1 rfl rfl) h1
  subst e1
  refine (script_any k A n c l W hI).mono fun e W' ⟨he, hw⟩ => ?_
  subst he
  exact ⟨_, rfl, post_true rfl hW' rfl (of_decide_eq_true (by kernel_rfl)) rfl rfl rfl hw⟩

theorem script_holds : Rows.BagScriptSaid :=
  OpenClaim.holds_of_wide 5 Try.f5 rfl rfl rfl rfl rfl rfl rfl ⟨rfl, rfl, rfl, rfl, rfl⟩ rfl rfl rfl rfl rfl (by kernel_rfl) Try.func5 (by kernel_rfl)
    (of_decide_eq_true (by kernel_rfl)) (by unfold Func.isWrapper; first | (rw [if_pos (by decide +kernel)]; kernel_rfl) | (rw [if_neg (by decide +kernel)]; exact ⟨rfl, rfl⟩))
    (fun os started H enc _ => script_lifted os started H enc)
#print axioms script_holds
end Go.Proofs.Ytaedfieilfmfhaa
