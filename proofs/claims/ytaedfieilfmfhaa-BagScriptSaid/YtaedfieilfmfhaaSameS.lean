/- SameInts, SameTexts: are two lists the same? Whatever slices. -/
import Derived.Test.YtaedfieilfmfhaaHdS
import Derived.Test.YtaedfieilfmfhaaMem2
namespace Go.Proofs.Ytaedfieilfmfhaa
open Go.RowKit

/-- the slice value '.slice A n c' reads as xs -/
def IsS (w : World) (A : Option Addr) (n : Nat) (xs : List ByteArray) : Prop :=
  xs.length = n ∧ (0 < n → ∃ ad, A = some ad ∧ ad.block < w.heap.size ∧ ∀ j x, xs[j]? = some x → w.cell? (ad.add j) = some (Value.string x))
theorem IsS.keep {w w' : World} {A : Option Addr} {n : Nat} {xs : List ByteArray} (h : IsS w A n xs) (hs : w.heap.size ≤ w'.heap.size) (hk : ∀ ad : Addr, A = some ad → w'.heap[ad.block]? = w.heap[ad.block]?) : IsS w' A n xs :=
  ⟨h.1, fun hn => by
    obtain ⟨ad, e, hb, hc⟩ := h.2 hn
    exact ⟨ad, e, by omega, fun j x hx => (World.cell?_of_block (by rw [block_of_add]; exact hk ad e)).trans (hc j x hx)⟩⟩
theorem IsS.below {w w' : World} {A : Option Addr} {n : Nat} {xs : List ByteArray} (h : IsS w A n xs) (hb : Below w.heap.size w w') : IsS w' A n xs :=
  ⟨h.1, fun hn => by
    obtain ⟨ad, e, hl, hc⟩ := h.2 hn
    exact ⟨ad, e, by have := hb.size; omega, fun j x hx => (hb.cell (by rw [block_of_add]; exact hl)).trans (hc j x hx)⟩⟩
theorem IsS.of_own {w : World} {base c n : Nat} {A : Option Addr} {xs : List ByteArray} (h : w.ownsRow base 9 1 (.slice A n c) n (xs.map fun x => Value.string x)) : IsS w A n xs := by
  have hl : xs.length = n := by have := h.1; simpa using this
  refine ⟨hl, fun hn => ?_⟩
  obtain ⟨g, cap, hv, _, hlt⟩ := h.form hn
  have hA : A = some ⟨g, 0, none⟩ := by injection hv
  subst hA
  exact ⟨_, rfl, hlt, fun j x hx => h.cells (g := g) rfl j _ (by rw [List.getElem?_map, hx]; rfl)⟩

theorem eqbS (x y : ByteArray) : (x.toList == y.toList) = decide (x = y) := by
  by_cases h : x = y
  · subst h; simp
  · rw [decide_eq_false h]
    refine beq_eq_false_iff_ne.2 (fun e => h ?_)
    rw [ByteArray.toList_eq, ByteArray.toList_eq] at e
    exact ByteArray.ext (Array.toList_inj.1 e)

theorem take_succ_eqS {xs ys : List ByteArray} {k : Nat} (hx : k < xs.length) (hy : k < ys.length) (h : xs.take k = ys.take k) : (xs[k] = ys[k] → xs.take (k + 1) = ys.take (k + 1)) ∧ (¬ xs[k] = ys[k] → xs ≠ ys) := by
  refine ⟨fun he => ?_, fun he e => he ?_⟩
  · rw [List.take_succ_eq_append_getElem hx, List.take_succ_eq_append_getElem hy, h, he]
  · subst e; rfl

set_option maxHeartbeats 1000000 in
theorem Same_S (A A' : Option Addr) (n m c c' : Nat) (xs ys : List ByteArray) (w : World) (hx : IsS w A n xs) (hy : IsS w A' m ys) (hn : n ≤ 1000000) :
    Calls Try.prog 11 #[.slice A n c, .slice A' m c'] w fun e w' => e = .returned (.bool (decide (xs = ys))) ∧ ∃ q, w' = w.drewN q := by
  have HX := Lib.hid hx
  have HY := Lib.hid hy
  have hlx : xs.length = n := hx.1
  have hly : ys.length = m := hy.1
  have HLX := Lib.hid hlx
  have HLY := Lib.hid hly
  clear hx hy hlx hly
  obtain ⟨b0, hb0⟩ : ∃ b0 : Bool, decide (n = m) = b0 := ⟨_, rfl⟩
  have hb1 : ((n : Int) == (m : Int)) = b0 := by rw [← hb0]; by_cases h : n = m <;> simp [h]; omega
  have HB0 := Lib.hid hb0
  clear hb0
  go_enter Try.func11, Try.ntmps11
  go_wp2
  go_loopw [5, 6] (fun s i wr => ∃ (k : Nat) (bb : Bool), k ≤ n ∧ i = .int .i64 k ∧ s = .bool bb ∧ (∃ q, wr = w.drewN q) ∧ (bb = true → n = m ∧ xs.take k = ys.take k) ∧ (bb = false → xs ≠ ys)) (fun _ i _ => n - (intOf i).toNat)
  case atStart =>
    refine ⟨0, b0, by omega, rfl, rfl, ⟨0, rfl⟩, fun h => ⟨?_, by simp⟩, fun h e => ?_⟩
    · have h1 := HB0.out
      rw [h] at h1
      exact of_decide_eq_true h1
    · have h1 := HB0.out
      rw [h] at h1
      refine of_decide_eq_false h1 ?_
      have h2 := HLX.out
      have h3 := HLY.out
      rw [e] at h2
      omega
  case round =>
    obtain ⟨k, bb, hk, rfl, rfl, ⟨q, rfl⟩, ht, hf⟩ := hrel
    cases bb with
    | false =>
      have HF := Lib.hid (hf rfl)
      clear ht hf
      go_wp2
      go_ret
      exact ⟨by rw [decide_eq_false HF.out]; rfl, q, rfl⟩
    | true =>
      obtain ⟨hnm, htk⟩ := ht rfl
      have HT := Lib.hid htk
      clear ht hf htk
      by_cases hlt : k < n
      · obtain ⟨ad, hA, _, hc⟩ := HX.out.2 (by omega)
        obtain ⟨ad', hA', _, hc'⟩ := HY.out.2 (by omega)
        have hkx : k < xs.length := by have h2 : xs.length = n := HLX.out; omega
        have hky : k < ys.length := by have h2 : ys.length = m := HLY.out; omega
        have c1 := hc k xs[k] (List.getElem?_eq_getElem hkx)
        have c2 := hc' k ys[k] (List.getElem?_eq_getElem hky)
        have hltm : k < m := by omega
        have HNM := Lib.hid hnm
        clear hc hc' hnm
        go_wp2
        go_quiet (fail)
        go_wp2
        have h3 := take_succ_eqS hkx hky HT.out
        have h4 : n = m := by
          have := HNM.out
          exact this
        refine ⟨⟨k + 1, xs[k].toList == ys[k].toList, by omega, by go_num, rfl, ⟨_, rfl⟩, fun h => ⟨h4, h3.1 ?_⟩, fun h => h3.2 ?_⟩, by simp [intOf]; omega⟩
        · rw [eqbS] at h; exact of_decide_eq_true h
        · rw [eqbS] at h; exact of_decide_eq_false h
      · have hkn : k = n := by omega
        have hfin : xs = ys := by
          have h1 := HT.out
          have h2 : xs.length = n := HLX.out
          have h3 : ys.length = m := HLY.out
          rw [List.take_of_length_le (by omega), List.take_of_length_le (by omega)] at h1
          exact h1
        have HFin := Lib.hid hfin
        clear hfin hnm
        subst hkn
        go_wp2
        go_ret
        exact ⟨by rw [decide_eq_true HFin.out]; rfl, q, rfl⟩
end Go.Proofs.Ytaedfieilfmfhaa
