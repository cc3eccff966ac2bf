/- A bag that lies from block 'base' on, by its contracts in short form; what lies below 'base' stays as it is. -/
import Derived.Test.YtaedfieilfmfhaaTakeI
import Derived.Test.YtaedfieilfmfhaaSameI
namespace Go.Proofs.Ytaedfieilfmfhaa
open Go.RowKit

def OwnI (base : Nat) (w : World) (b : Nat) (xs : List Int) (room : Nat) : Prop :=
  ∃ r, BagI w b r xs room ∧ base ≤ b ∧ (∀ k, r = some k → base ≤ k) ∧ base ≤ w.heap.size
theorem OwnI.below {base : Nat} {w w' : World} {b : Nat} {xs : List Int} {room : Nat} (h : OwnI base w b xs room) (hb : Below w.heap.size w w') : OwnI base w' b xs room := by
  obtain ⟨r, hB, h1, h2, h3⟩ := h
  exact ⟨r, hB.kept fun k hk => hb.block k (by
    rcases hk with rfl | hk
    · exact hB.lt.1
    · exact (hB.lt.2 k hk).1), h1, h2, Nat.le_trans h3 hb.size⟩
theorem OwnI.drewN {base : Nat} {w : World} {b : Nat} {xs : List Int} {room : Nat} (h : OwnI base w b xs room) (n : Nat) : OwnI base (w.drewN n) b xs room := h
theorem OwnI.size {base : Nat} {w : World} {b : Nat} {xs : List Int} {room : Nat} (h : OwnI base w b xs room) : base ≤ w.heap.size := by
  obtain ⟨_, _, _, _, h⟩ := h
  exact h
theorem OwnI.step {base : Nat} {w w' : World} {b : Nat} {r : Option Nat} {ys : List Int} {room : Nat} (h1 : base ≤ b) (h2 : ∀ k, r = some k → base ≤ k) (h3 : base ≤ w.heap.size) (h : TakeOkI w b r ys room w') : OwnI base w' b ys room ∧ Below base w w' := by
  obtain ⟨r', hB, hF, hr⟩ := h
  have hb : Below base w w' := hF.toBelow h3 (by
    intro i hi
    rcases List.mem_cons.1 hi with rfl | hi
    · exact h1
    · exact h2 i (by simpa [Option.mem_toList] using hi))
  refine ⟨⟨r', hB, h1, fun k hk => ?_, Nat.le_trans h3 hb.size⟩, hb⟩
  rcases hr with rfl | ⟨g, rfl, hg⟩
  · exact h2 k hk
  · cases hk; omega

theorem newO_I (base : Nat) (n : Int) (w : World) (h0 : 0 ≤ n) (h : n ≤ 2000) (hb : base ≤ w.heap.size) :
    Calls Try.prog 16 #[.int .i64 n] w fun e w' => e = .returned (.tuple #[.pointer (some ⟨w.heap.size, 0, none⟩), .int .i64 0]) ∧ OwnI base w' w.heap.size [] n.toNat ∧ Below base w w' := by
  refine (new_ok_I n w h0 h).mono ?_
  rintro e w' ⟨he, hB, hb'⟩
  exact ⟨he, ⟨none, hB, hb, by simp, Nat.le_trans hb hb'.size⟩, hb'.mono hb⟩
theorem putO_I (base b : Nat) (xs : List Int) (room : Nat) (x : Int) (w : World) (hO : OwnI base w b xs room) (hlt : xs.length < room) :
    Calls Try.prog 19 #[.pointer (some ⟨b, 0, none⟩), Value.int .i64 x] w fun e w' => e = .returned (.int .i64 0) ∧ OwnI base w' b (xs ++ [x]) room ∧ Below base w w' := by
  obtain ⟨r, hB, h1, h2, h3⟩ := hO
  exact (Put_ok_I b r xs room x w hB hlt).mono fun e w' ⟨he, h⟩ => ⟨he, OwnI.step h1 h2 h3 h⟩
theorem putFullO_I (base b : Nat) (xs : List Int) (room : Nat) (x : Int) (w : World) (hO : OwnI base w b xs room) (hlt : room ≤ xs.length) :
    Calls Try.prog 19 #[.pointer (some ⟨b, 0, none⟩), Value.int .i64 x] w fun e w' => e = .returned (.int .i64 8) ∧ ∃ q, w' = w.drewN q := by
  obtain ⟨r, hB, h1, h2, h3⟩ := hO
  exact Put_full_I b r xs room x w hB hlt
theorem takeO_I (base b i : Nat) (xs : List Int) (x : Int) (room : Nat) (w : World) (hO : OwnI base w b xs room) (hx : xs[i]? = some x) :
    Calls Try.prog 20 #[.pointer (some ⟨b, 0, none⟩), .int .i64 i] w fun e w' => e = .returned (.tuple #[Value.int .i64 x, .int .i64 0]) ∧ OwnI base w' b (xs.eraseIdx i) room ∧ Below base w w' := by
  obtain ⟨r, hB, h1, h2, h3⟩ := hO
  exact (Take_ok_I b i r xs x room w hB hx).mono fun e w' ⟨he, h⟩ => ⟨he, OwnI.step h1 h2 h3 h⟩
theorem takeOutO_I (base b : Nat) (xs : List Int) (room : Nat) (i : Int) (w : World) (hO : OwnI base w b xs room) (hi : i < 0 ∨ (xs.length : Int) ≤ i) :
    Calls Try.prog 20 #[.pointer (some ⟨b, 0, none⟩), .int .i64 i] w fun e w' => e = .returned (.tuple #[Value.int .i64 0, .int .i64 5]) ∧ ∃ n, w' = w.drewN n := by
  obtain ⟨r, hB, _⟩ := hO
  exact Take_out_I b r xs room i w hB hi
theorem atO_I (base b i : Nat) (xs : List Int) (x : Int) (room : Nat) (w : World) (hO : OwnI base w b xs room) (hx : xs[i]? = some x) :
    Calls Try.prog 33 #[.pointer (some ⟨b, 0, none⟩), .int .i64 i] w fun e w' => e = .returned (.tuple #[Value.int .i64 x, .int .i64 0]) ∧ ∃ n, w' = w.drewN n := by
  obtain ⟨r, hB, _⟩ := hO
  exact At_I b r xs room i x w hB hx
theorem atOutO_I (base b : Nat) (xs : List Int) (room : Nat) (i : Int) (w : World) (hO : OwnI base w b xs room) (hi : i < 0 ∨ (xs.length : Int) ≤ i) :
    Calls Try.prog 33 #[.pointer (some ⟨b, 0, none⟩), .int .i64 i] w fun e w' => e = .returned (.tuple #[Value.int .i64 0, .int .i64 5]) ∧ ∃ n, w' = w.drewN n := by
  obtain ⟨r, hB, _⟩ := hO
  exact At_out_I b r xs room i w hB hi
theorem lenO_I (base b : Nat) (xs : List Int) (room : Nat) (w : World) (hO : OwnI base w b xs room) :
    Calls Try.prog 24 #[.pointer (some ⟨b, 0, none⟩)] w fun e w' => e = .returned (.int .i64 xs.length) ∧ w = w' := by
  obtain ⟨r, hB, _⟩ := hO
  exact Len_I b r xs room w hB
theorem roomO_I (base b : Nat) (xs : List Int) (room : Nat) (w : World) (hO : OwnI base w b xs room) :
    Calls Try.prog 25 #[.pointer (some ⟨b, 0, none⟩)] w fun e w' => e = .returned (.int .i64 ((room : Int) - xs.length)) ∧ ∃ n, w' = w.drewN n := by
  obtain ⟨r, hB, _⟩ := hO
  exact Room_I b r xs room w hB
/-- a slice of the call's own that reads as xs -/
def FreshI (w w' : World) (xs : List Int) (v : Value) : Prop := ∃ A c, v = .slice A xs.length c ∧ IsI w' A xs.length xs ∧ w'.ownsRow w.heap.size 3 1 v xs.length (xs.map fun x => Value.int .i64 x)
theorem allO_I (base b : Nat) (xs : List Int) (room : Nat) (w : World) (hO : OwnI base w b xs room) :
    Calls Try.prog 22 #[.pointer (some ⟨b, 0, none⟩)] w fun e w' => ∃ A c, e = .returned (.slice A xs.length c) ∧ IsI w' A xs.length xs ∧ w'.ownsRow w.heap.size 3 1 (.slice A xs.length c) xs.length (xs.map fun x => Value.int .i64 x) ∧ Below w.heap.size w w' := by
  obtain ⟨r, hB, _⟩ := hO
  refine (All_I b r xs room w hB).mono ?_
  rintro e w' ⟨v, rfl, hown, _, hb⟩
  obtain ⟨A, c, rfl⟩ : ∃ A c, v = .slice A xs.length c := by
    rcases hown.2 with ⟨rfl, hz⟩ | ⟨g, cap', cur, rfl, _⟩
    · exact ⟨none, 0, by rw [hz]⟩
    · exact ⟨_, _, rfl⟩
  exact ⟨A, c, rfl, IsI.of_own hown, hown, hb⟩
theorem OwnI.le {base : Nat} {w : World} {b : Nat} {xs : List Int} {room : Nat} (h : OwnI base w b xs room) : xs.length ≤ room ∧ room ≤ 2000 := by
  obtain ⟨r, ⟨_, _, _, _, h1, h2⟩, _⟩ := h
  exact ⟨h1, h2⟩
end Go.Proofs.Ytaedfieilfmfhaa
