/- slices.Delete of one element, on a row of the call's own. -/
import Derived.Test.YtaedfieilfmfhaaPutS
import Derived.Lib.SliceRun
namespace Go.Proofs.Ytaedfieilfmfhaa
open Go.RowKit

theorem zeroVS (w : World) : (zeroValue 9).run Try.prog w = .ok (.string ByteArray.empty) w := by kernel_rfl

set_option maxHeartbeats 1000000 in
theorem delete_S (g p cap i base : Nat) (ys : List Value) (w : World) (hown : w.ownsRow base 9 1 (.slice (some ⟨g, 0, none⟩) (p + 1) cap) (p + 1) ys) (h1 : ∀ u ∈ ys, u.oneCell' = true) (hi : i ≤ p) (hn : p ≤ 4000) :
    Calls Try.prog 31 #[.slice (some ⟨g, 0, none⟩) (p + 1) cap, .int .i64 (i : Int), .int .i64 ((i : Int) + 1)] w fun e w' => e = .returned (.slice (some ⟨g, 0, none⟩) p cap) ∧
      w'.ownsRow base 9 1 (.slice (some ⟨g, 0, none⟩) p cap) p (ys.take i ++ ys.drop (i + 1)) ∧ w.grownBy w' (some g) := by
  obtain ⟨cur, hbk, hcs, hnc, hcm, hbg, _, hyl, hcell, htk⟩ := own_cells hown
  obtain ⟨i0, hi0, hz0, hz1, hz2⟩ := info_parts infoES
  have ho1 : w.ownsRow base 9 1 (.slice (some ⟨g, 0, none⟩) i cap) i (ys.take i) :=
    ⟨by simp; omega, .inr ⟨g, cap, cur, rfl, hbg, hbk, by omega, hcm, by omega, by rw [← htk, List.take_take, Nat.mul_one, Nat.min_eq_left (by omega)]⟩⟩
  have hsrc : ∀ ad : Addr, (if cap = i + 1 then some (⟨g, 0, none⟩ : Addr) else some ⟨g, i + 1, none⟩) = some ad → ∀ (j : Nat) (u : Value), (ys.drop (i + 1))[j]? = some u → w.cell? (ad.add j) = some u := by
    intro ad had j u hu
    have hjl := (List.getElem?_eq_some_iff.1 hu).1
    simp at hjl
    rw [if_neg (by omega)] at had
    obtain rfl := Option.some.inj had
    rw [Addr.add_lit, hbk.cell]
    rw [List.getElem?_drop] at hu
    exact hcell _ u hu
  have hdl : (ys.drop (i + 1)).length = (p - i) * 1 := by simp [hyl]
  have hdo : ∀ u ∈ ys.drop (i + 1), u.oneCell' = true := fun u hu => h1 u (List.mem_of_mem_drop hu)
  have HS := Lib.hid hsrc
  have HO := Lib.hid ho1
  have HD := Lib.hid hdl
  have HU := Lib.hid hdo
  have hi1 : (i : Int) ≤ p := by omega
  have hi2 : ((p : Int)) + 1 ≤ cap := by omega
  have hi4 : (i : Int) ≤ cap := by omega
  have hi5 : i ≤ cap := by omega
  have hi7 : i + 1 ≤ cap := by omega
  have hi8 : (0 : Int) ≤ (i : Int) + 1 := by omega
  have hi3 : (((i : Int) + 1).toNat) = i + 1 := by omega
  have hi9 : ¬ cap = p := by omega
  clear hsrc h1 ho1 hbk hyl hcell hown hcs htk hdl hdo
  go_enter Try.func31, Try.ntmps31
  go_wp2
  go_still_tail 6, (by kernel_rfl)
  change wpList _ _ _ _ _ w.drew
  refine wpList_append_fits_any _ rfl (.tmp 22) (.tmp 25) 22 rfl base 9 i0 1 Try.underlying22 hi0 hz1 g i cap (ys.take i) rfl HO.out _ (p - i) (cap - (i + 1)) (ys.drop (i + 1)) rfl HD.out (fun h => by exfalso; split at h <;> cases h) HS.out HU.out (by omega) ?_
  intro w1 hown1 hg1
  have hpe : i + (p - i) = p := by omega
  rw [hpe] at hown1 ⊢
  clear hpe
  obtain ⟨cur1, hbk1, hcs1, hnc1, hcm1, _, _, hyl1, hcell1, htk1⟩ := own_cells hown1
  have hpl : p < cur1.size := by omega
  have hclr := fun ty => Lib.run_clear_slice (P := Try.prog) w1 22 9 ty (.string ByteArray.empty) Try.underlying22 zeroVS rfl rfl g p 1 (cap - p) (by omega)
    (by intro j hj; obtain rfl : j = 0 := by omega
        rw [hbk1.cell, Nat.add_zero, Array.getElem?_eq_getElem hpl]; rfl)
    (fun j _ => hbk1.frozen _)
  have HB1 := Lib.hid hbk1
  have HT1 := Lib.hid htk1
  have HG1 := Lib.hid hg1
  have HL1 := Lib.hid hyl1
  have HC1 := Lib.hid hcs1
  clear hbk1 hcs1 hyl1 hcell1 htk1 hg1 hown1 HS
  generalize (if cap = i + 1 then (some (⟨g, 0, none⟩ : Addr)) else some ⟨g, i + 1, none⟩) = ao
  go_wp2
  go_ret
  refine ⟨rfl, ?_, ?_⟩
  · have hb := HB1.out.set_ p (.string ByteArray.empty)
    refine ⟨by simp [HL1.out], .inr ⟨g, cap, cur1.setIfInBounds p (.string ByteArray.empty), rfl, hbg, hb, hnc1, hcm1, by rw [Array.size_setIfInBounds, Nat.mul_one]; exact HC1.out, ?_⟩⟩
    rw [← HT1.out, Nat.mul_one]
    apply List.ext_getElem?
    intro j
    rw [List.getElem?_take, List.getElem?_take]
    split
    · rw [Array.getElem?_toList, Array.getElem?_toList, Array.getElem?_setIfInBounds_ne (by omega)]
    · rfl
  · have hg0 := HG1.out
    exact ⟨hg0.os, hg0.tape, hg0.output, by have := hg0.size; simpa [World.setCells, World.setCell] using this, fun k hk hne => (Below.heap_setCell w1 ⟨g, p, none⟩ _ k (fun e => hne (by rw [e]))).trans (hg0.block k hk hne)⟩
end Go.Proofs.Ytaedfieilfmfhaa
