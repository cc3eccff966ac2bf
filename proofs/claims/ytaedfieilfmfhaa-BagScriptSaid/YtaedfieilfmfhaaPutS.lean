/- Put: every bag, every thing. -/
import Derived.Test.YtaedfieilfmfhaaGrS
import Derived.StillTailTactics
namespace Go.Proofs.Ytaedfieilfmfhaa
open Go.RowKit

set_option maxHeartbeats 400000 in
theorem Put_full_S (b : Nat) (r : Option Nat) (xs : List ByteArray) (room : Nat) (x : ByteArray) (w : World) (hB : BagS w b r xs room) (hlt : room ≤ xs.length) :
    Calls Try.prog 9 #[.pointer (some ⟨b, 0, none⟩), Value.string x] w fun e w' => e = .returned (.int .i64 8) ∧ ∃ k, w' = w.drewN k := by
  obtain ⟨ring, first, hh, hr, h1, h2⟩ := hB
  have c2 := hh.c2
  have c3 := hh.c3
  go_enter Try.func9, Try.ntmps9
  go_wp2_with (first | (go_at_call 28; refine (none_S _ _ _ _ _ _ hh).mono ?_; rintro e w' ⟨rfl, rfl⟩) | go_quiet (fail))
  go_ret
  exact ⟨rfl, _, rfl⟩

/-- behind a Put: the thing is in, at the end -/
def PutOkS (w : World) (b : Nat) (r : Option Nat) (xs : List ByteArray) (room : Nat) (w' : World) : Prop :=
  ∃ r', BagS w' b r' xs room ∧ Fr (b :: r.toList) w w' ∧ (r' = r ∨ ∃ g, r' = some g ∧ w.heap.size ≤ g)

set_option maxHeartbeats 1000000 in
theorem Put_ok_S (b : Nat) (r : Option Nat) (xs : List ByteArray) (room : Nat) (x : ByteArray) (w : World) (hB : BagS w b r xs room) (hlt : xs.length < room) :
    Calls Try.prog 9 #[.pointer (some ⟨b, 0, none⟩), Value.string x] w fun e w' => e = .returned (.int .i64 0) ∧ PutOkS w b r (xs ++ [x]) room w' := by
  obtain ⟨ring, first, hh, hr, h1, h2⟩ := id hB
  have c2 := hh.c2
  have c3 := hh.c3
  have hb0 := hB.lt
  have HB := Lib.hid hB
  have HB0 := Lib.hid hb0
  clear hB hr hb0
  go_enter Try.func9, Try.ntmps9
  go_wp2_with (first | (go_at_call 28; refine (none_S _ _ _ _ _ _ hh).mono ?_; rintro e w' ⟨rfl, rfl⟩) | go_quiet (fail) | fail)
  refine (grow_S b r xs room (w.drewN nq) (HB.out.kept fun k _ => rfl)).mono ?_
  rintro e w1 ⟨rfl, g, n, cap, cur, f, hh1, hg, hcs, hnc, hcm, hn, hf, hl, hx, hfr, hgr⟩
  have d0 := hh1.c0
  have d1 := hh1.c1
  have d2 := hh1.c2
  have fr2 := Blk.frozen hh1 2
  have hmlt : (f + xs.length) % n < n := Nat.mod_lt _ (by omega)
  have hclt : (f + xs.length) % n < cur.size := by omega
  obtain ⟨old, hold⟩ : ∃ old, cur[(f + xs.length) % n]? = some old := ⟨_, Array.getElem?_eq_getElem hclt⟩
  have dg : w1.cell? ⟨g, (f + xs.length) % n, none⟩ = some old := (hg.cell _).trans hold
  have fg := Blk.frozen hg ((f + xs.length) % n)
  have hgb : g ≠ b := Blk.ne_ hg hh1 (by decide)
  have hbg : b ≠ g := fun e => hgb e.symm
  have e1 : IntKind.i64.wrap ((f : Int) + xs.length) = f + xs.length := IntWalk.i64_in _ (by omega)
  have e2 : ((f : Int) + xs.length).tmod n = ((f : Int) + xs.length) % n := Int.tmod_eq_emod_of_nonneg (by omega)
  have e3 : 0 ≤ ((f : Int) + xs.length) % n := Int.emod_nonneg _ (by omega)
  have e4 : ((f : Int) + xs.length) % n < n := Int.emod_lt_of_pos _ (by omega)
  have e6 : ((f : Int) + xs.length) % n = (((f + xs.length) % n : Nat) : Int) := by simp
  have e5 : (((f : Int) + xs.length) % n).toNat = (f + xs.length) % n := by rw [e6]; exact Int.toNat_natCast _
  have e7 : ¬ n = 0 := by omega
  clear e6
  have HX := Lib.hid hx
  have HF := Lib.hid hfr
  have HG := Lib.hid hgr
  have HH := Lib.hid hh1
  have HC := Lib.hid hold
  have HK := Lib.hid hg
  have HS := Lib.hid hcs
  clear c2 c3 hh hx hfr hgr hh1 hold hg hcs
  go_wp2
  go_still_tail 21, (by kernel_rfl)
  change wpList _ _ _ _ _ w1.drew
  go_wp2
  go_ret
  refine ⟨rfl, some g, ?_, ?_, ?_⟩
  · refine ⟨.slice (some ⟨g, 0, none⟩) n cap, f, ?_, .inr ⟨g, n, cap, cur.setIfInBounds ((f + xs.length) % n) (Value.string x), rfl, rfl, ?_, by rw [Array.size_setIfInBounds]; exact HS.out, hnc, hcm, hn, hf, by simp; omega, ?_⟩, by simp; omega, h2⟩
    · have h := ((Blk.far HH.out (p := ⟨g, (f + xs.length) % n, none⟩) hbg (Value.string x)).set_ 2 (.int .i64 ((xs.length : Int) + 1)))
      unfold HeadS
      rw [show (((xs ++ [x]).length : Nat) : Int) = (xs.length : Int) + 1 by simp]
      exact h
    · exact ((HK.out.set_ ((f + xs.length) % n) (Value.string x)).far (p := ⟨b, 2, none⟩) hgb _)
    · intro i y hy
      have hil := (List.getElem?_eq_some_iff.1 hy).1
      simp only [List.length_append, List.length_cons, List.length_nil] at hil
      by_cases hi : i < xs.length
      · rw [List.getElem?_append_left hi] at hy
        rw [Array.getElem?_setIfInBounds_ne (by exact fun e => mod_ne hi hl e.symm)]
        exact HX.out i y hy
      · obtain rfl : i = xs.length := by omega
        rw [List.getElem?_append_right (Nat.le_refl _)] at hy
        simp at hy
        subst hy
        exact Array.getElem?_setIfInBounds_self_of_lt hclt
  · have hf0 : Fr [b] w w1 := ⟨HF.out.os, HF.out.tape, HF.out.output, HF.out.size, HF.out.block⟩
    have hfr := hf0.mono (ks' := b :: r.toList) (by simp)
    refine ((hfr.setCell (p := ⟨g, (f + xs.length) % n, none⟩) ?_ _).setCell (p := ⟨b, 2, none⟩) (.inl (by simp)) _).drew
    rcases HG.out with h | h
    · exact .inl (by simp [h])
    · exact .inr h
  · rcases HG.out with h | h
    · exact .inl h.symm
    · exact .inr ⟨g, rfl, h⟩
end Go.Proofs.Ytaedfieilfmfhaa
