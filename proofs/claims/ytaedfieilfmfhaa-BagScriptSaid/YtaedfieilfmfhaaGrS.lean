/- grow: behind it a slot is free; what the bag has is as it was. -/
import Derived.Test.YtaedfieilfmfhaaAllS
import Derived.Test.YtaedfieilfmfhaaMem2
namespace Go.Proofs.Ytaedfieilfmfhaa
open Go.RowKit

/-- a ring with a free slot -/
def RoomS (w : World) (b : Nat) (r : Option Nat) (xs : List ByteArray) (room : Nat) (w' : World) : Prop :=
  ∃ g n cap cur first, HeadS w' b (.slice (some ⟨g, 0, none⟩) n cap) first xs.length room ∧ Blk w' g 9 cur ∧ cur.size = cap ∧ n ≤ cap ∧ cap ≤ maxLen ∧ n ≤ 4001 ∧ first < n ∧ xs.length < n ∧
    (∀ i x, xs[i]? = some x → cur[(first + i) % n]? = some (Value.string x)) ∧ Fr [b] w w' ∧ (r = some g ∨ w.heap.size ≤ g)

set_option maxHeartbeats 400000 in
theorem grow_yes_S (b g n cap : Nat) (first many room : Nat) (w : World) (hh : HeadS w b (.slice (some ⟨g, 0, none⟩) n cap) first many room) (hlt : many < n) :
    Calls Try.prog 29 #[.pointer (some ⟨b, 0, none⟩)] w fun e w' => e = .returned (.tuple #[]) ∧ ∃ k, w' = w.drewN k := by
  have h0 := hh.c0
  have h2 := hh.c2
  go_enter Try.func29, Try.ntmps29
  go_wp2
  go_quiet (fail)
  go_wp2
  refine bodyPost_ret (results_none rfl _ _ _) rfl ?_
  exact ⟨rfl, _, rfl⟩

set_option maxHeartbeats 1000000 in
theorem grow_no_S (b : Nat) (A : Option Addr) (n cap : Nat) (r : Option Nat) (xs : List ByteArray) (first room : Nat) (w : World) (hB : BagS w b r xs room) (hh : HeadS w b (.slice A n cap) first xs.length room) (hlt : n ≤ xs.length) :
    Calls Try.prog 29 #[.pointer (some ⟨b, 0, none⟩)] w fun e w' => e = .returned (.tuple #[]) ∧ RoomS w b r xs room w' := by
  have h0 := hh.c0
  have h2 := hh.c2
  have hbl := Blk.lt hh
  have hlen : xs.length ≤ 2000 := by obtain ⟨_, _, _, _, h1, h2⟩ := hB; omega
  obtain ⟨i0, hi, hz0, hz1, hz2⟩ := info_parts infoES
  have HB := Lib.hid hB
  clear hB
  go_enter Try.func29, Try.ntmps29
  go_wp2
  go_quiet (fail)
  go_wp2_with fail
  refine (All_S b r xs room (w.drewN nq) (HB.out.kept fun k _ => rfl)).mono ?_
  rintro e w1 ⟨v, rfl, hown, hnil, hbelow⟩
  have hbelow' : Below w.heap.size w w1 := ⟨hbelow.os, hbelow.tape, hbelow.output, hbelow.size, hbelow.block⟩
  have hown' : w1.ownsRow w.heap.size 9 1 v xs.length (xs.map fun x => Value.string x) := hown
  clear hown hbelow
  have hh1 : HeadS w1 b (.slice A n cap) first xs.length room := (hbelow'.block b hbl).trans hh
  obtain ⟨vA, vc, rfl⟩ : ∃ vA vc, v = .slice vA xs.length vc := by
    rcases hown'.2 with ⟨rfl, hz⟩ | ⟨g, cap', cur, rfl, _⟩
    · exact ⟨none, 0, by rw [hz]⟩
    · exact ⟨_, _, rfl⟩
  have hrow : ∀ k, (Value.slice vA xs.length vc).ownBlock = some k → w.heap.size ≤ k := fun k hk => (hown'.lt k hk).1
  have HN := Lib.hid hnil
  have HH := Lib.hid hh1
  have HW := Lib.hid hown'
  have HL := Lib.hid hbelow'
  have HO := Lib.hid hrow
  have hsz := hbelow'.size
  clear h0 h2 hnil hh hh1 hown' hbelow' hrow
  go_wp2_with (at_builtin; refine wpList_append_zeros _ rfl (.tmp 17) (.tmp 20) 22 3 rfl w.heap.size 9 i0 (.string ByteArray.empty) 16 Try.underlying22 Try.underlying3 hi hz0 hz1 hz2 rfl rfl (.slice vA xs.length vc) xs.length (xs.map fun x => Value.string x) rfl HW.out (xs.length + 1) rfl (by omega) (by omega) (by omega) hsz ?_; intro v' w2 hown2 hg2 hat2; obtain ⟨g, gc, rfl⟩ := ownsRow_succ (k := xs.length + xs.length) hown2; have hh2 : HeadS w2 b (.slice A n cap) first xs.length room := (hg2.block b (by omega) (fun e => by have := HO.out b e.symm; omega)).trans HH.out; have c0 := hh2.c0; have c1 := hh2.c1; have f0 := Blk.frozen hh2 0; have f1 := Blk.frozen hh2 1; have hsz2 := hg2.size; have HW2 := Lib.hid hown2; have HG2 := Lib.hid hg2; have HA2 := Lib.hid hat2; have HH2 := Lib.hid hh2; clear hown2 hg2 hat2 hh2)
  go_end0
  refine ⟨rfl, ?_⟩
  obtain ⟨cur, hbk, hcs, hnc, hcm, hbg, _, _, hcell, _⟩ := own_cells HW2.out
  have hgb : g ≠ b := by omega
  refine ⟨g, xs.length + xs.length + 1, gc, cur, 0, ?_, ((hbk.far (p := ⟨b, 0, none⟩) hgb _).far (p := ⟨b, 1, none⟩) hgb _), hcs, hnc, hcm, by omega, by omega, by omega, ?_, ?_, .inr hbg⟩
  · exact Blk.set_ (Blk.set_ HH2.out 0 _) 1 _
  · intro i x hx
    have hil := (List.getElem?_eq_some_iff.1 hx).1
    rw [Nat.zero_add, Nat.mod_eq_of_lt (by omega)]
    refine hcell i _ ?_
    rw [List.getElem?_append_left (by simpa using hil), List.getElem?_map, hx]
    rfl
  · exact (((Fr.of_below HL.out).grown HG2.out (fun k hk => .inr (HO.out k hk))).setCell (p := ⟨b, 0, none⟩) (.inl (by simp)) _).setCell (p := ⟨b, 1, none⟩) (.inl (by simp)) _

theorem grow_S (b : Nat) (r : Option Nat) (xs : List ByteArray) (room : Nat) (w : World) (hB : BagS w b r xs room) :
    Calls Try.prog 29 #[.pointer (some ⟨b, 0, none⟩)] w fun e w' => e = .returned (.tuple #[]) ∧ RoomS w b r xs room w' := by
  obtain ⟨ring, first, hh, hr, h1, h2⟩ := id hB
  rcases hr with ⟨rfl, rfl, rfl, rfl⟩ | ⟨g, n, cap, cur, rfl, rfl, hg, hcs, hnc, hcm, hn, hf, hl, hx⟩
  · exact grow_no_S b none 0 0 none [] 0 room w hB hh (by simp)
  · by_cases hlt : xs.length < n
    · refine (grow_yes_S b g n cap first xs.length room w hh hlt).mono ?_
      rintro e w' ⟨rfl, k, rfl⟩
      exact ⟨rfl, g, n, cap, cur, first, hh, hg, hcs, hnc, hcm, hn, hf, hlt, hx, (Fr.refl _ _).drewN k, .inl rfl⟩
    · exact grow_no_S b _ n cap _ xs first room w hB hh (by omega)

end Go.Proofs.Ytaedfieilfmfhaa
