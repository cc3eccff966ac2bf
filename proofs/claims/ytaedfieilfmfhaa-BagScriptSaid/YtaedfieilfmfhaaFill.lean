/- Pick, filled: whatever numbers, whatever texts. -/
import Derived.Test.YtaedfieilfmfhaaKnown
namespace Go.Proofs.Ytaedfieilfmfhaa
open Go.RowKit

/-- Pick tells a number below n -/
def Picked (n : Int) (w : World) (e : Ending) (w' : World) : Prop := ∃ k : Nat, (k : Int) < n ∧ e = .returned (.int .i64 k) ∧ w = w'

set_option maxHeartbeats 400000 in
theorem pick_any (x n : Int) (w : World) (hn : 1 ≤ n) (hn2 : n ≤ 1000000) : Calls Try.prog 8 #[.int .i64 x, .int .i64 n] w (Picked n w) := by
  have hb1 : x.tmod n < n := Int.tmod_lt_of_pos _ (by omega)
  have hb2 : -n < x.tmod n := Int.lt_tmod_of_pos _ (by omega)
  have hz : ¬ n < 1 := by omega
  have hz2 : ¬ n = 0 := by omega
  have hz3 : ¬ n = -1 := by omega
  by_cases h0 : 0 ≤ x
  · have hb0 : 0 ≤ x % n := Int.emod_nonneg _ (by omega)
    have hb3 : x % n < n := Int.emod_lt_of_pos _ (by omega)
    clear hb1 hb2
    go_enter Try.func8, Try.ntmps8
    go_wp2
    go_ret
    exact ⟨(x % n).toNat, by omega, by rw [Int.toNat_of_nonneg hb0]; rfl, rfl⟩
  · obtain ⟨r, hr⟩ : ∃ r, x.tmod n = r := ⟨_, rfl⟩
    rw [hr] at hb1 hb2
    by_cases h1 : r < 0
    · go_enter Try.func8, Try.ntmps8
      go_wp2
      go_ret
      exact ⟨(r + n).toNat, by omega, by rw [Int.toNat_of_nonneg (by omega)]; rfl, rfl⟩
    · go_enter Try.func8, Try.ntmps8
      go_wp2
      go_ret
      exact ⟨r.toNat, by omega, by rw [Int.toNat_of_nonneg (by omega)]; rfl, rfl⟩

set_option maxHeartbeats 1000000 in
theorem filled_any (A : Option Addr) (c : Nat) (l : List ByteArray) (w : World) (h : IsS w A l.length l) (hn : l.length ≤ 200) :
    Calls Try.prog 7 #[.int .i64 l.length, .slice A l.length c] w fun e w' => e = .returned (.pointer (some ⟨w.heap.size, 0, none⟩)) ∧ OwnS w.heap.size w' w.heap.size l l.length ∧ Below w.heap.size w w' := by
  have H := Lib.hid h
  clear h
  go_enter Try.func7, Try.ntmps7
  go_wp2_with fail
  refine (newO_S w.heap.size l.length w (by omega) (by omega) (Nat.le_refl _)).mono ?_
  rintro e w1 ⟨rfl, ho, hb⟩
  rw [Int.toNat_natCast] at ho
  have H1 := Lib.hid ho
  have B1 := Lib.hid hb
  clear ho hb
  go_wp2_with fail
  go_loopw [7] (fun i wr => ∃ k : Nat, k ≤ l.length ∧ i = .int .i64 k ∧ OwnS w.heap.size wr w.heap.size (l.take k) l.length ∧ Below w.heap.size w wr) (fun i _ => l.length - (intOf i).toNat)
  case atStart => exact ⟨0, by omega, rfl, by rw [List.take_zero]; exact H1.out, B1.out⟩
  case round =>
    obtain ⟨k, hk, rfl, ho, hb⟩ := hrel
    by_cases hlt : k < l.length
    · obtain ⟨ad, rfl, hbl, hc⟩ := H.out.2 (by omega)
      have c1 : wr.cell? (ad.add k) = some (.string l[k]) := (hb.cell (by rw [block_of_add]; exact hbl)).trans (hc k l[k] (List.getElem?_eq_getElem hlt))
      have HO := Lib.hid ho
      have HB := Lib.hid hb
      clear hc ho hb hbl
      go_wp2_with fail
      refine (putO_S w.heap.size w.heap.size _ _ l[k] wr HO.out (by rw [List.length_take]; omega)).mono ?_
      rintro e w2 ⟨rfl, ho2, hb2⟩
      rw [← List.take_succ_eq_append_getElem hlt] at ho2
      have H2 := Lib.hid ho2
      have B2 := Lib.hid hb2
      clear ho2 hb2
      go_wp2
      exact ⟨⟨k + 1, by omega, by go_num, H2.out, HB.out.trans B2.out⟩, by simp [intOf]; omega⟩
    · obtain rfl : k = l.length := by omega
      have HO := Lib.hid ho
      have HB := Lib.hid hb
      clear ho hb
      go_wp2
      go_ret
      refine ⟨rfl, ?_, HB.out⟩
      have h2 := HO.out
      rwa [List.take_of_length_le (Nat.le_refl _)] at h2
end Go.Proofs.Ytaedfieilfmfhaa
