/- A bag and the document's one side by side: each call by one contract, whatever comes. -/
import Derived.Test.YtaedfieilfmfhaaRef
import Derived.Test.YtaedfieilfmfhaaCopy
import Derived.Test.YtaedfieilfmfhaaAllQ
namespace Go.Proofs.Ytaedfieilfmfhaa
open Go.RowKit

def putE (xs : List Int) (room : Nat) : Int := if xs.length < room then 0 else 8
def putL (xs : List Int) (room : Nat) (x : Int) : List Int := if xs.length < room then xs ++ [x] else xs
def inn (xs : List Int) (i : Int) : Prop := 0 ≤ i ∧ i < xs.length
instance (xs : List Int) (i : Int) : Decidable (inn xs i) := inferInstanceAs (Decidable (_ ∧ _))
def takeX (xs : List Int) (i : Int) : Int := if inn xs i then xs.getD i.toNat 0 else 0
def takeE (xs : List Int) (i : Int) : Int := if inn xs i then 0 else 5
def takeL (xs : List Int) (i : Int) : List Int := if inn xs i then xs.eraseIdx i.toNat else xs

def BagF (w : World) (b : Nat) (ks : List Nat) (xs : List Int) (room : Nat) : Prop := ∃ r, BagI w b r xs room ∧ ks = b :: r.toList
section
variable {w w' : World} {b room : Nat} {ks js : List Nat} {xs : List Int}
theorem BagF.lt (h : BagF w b ks xs room) : ∀ k ∈ ks, k < w.heap.size := by
  obtain ⟨r, hB, rfl⟩ := h
  intro k hk
  rcases List.mem_cons.1 hk with rfl | hk
  · exact hB.lt.1
  · exact (hB.lt.2 k (by simpa [Option.mem_toList] using hk)).1
theorem BagF.fr (h : BagF w b ks xs room) (hF : Fr js w w') (hd : ∀ k ∈ ks, k ∉ js) : BagF w' b ks xs room := by
  obtain ⟨r, hB, rfl⟩ := h
  exact ⟨r, hB.fr hF (hd b (by simp)) (fun k hk => hd k (by simp [hk])), rfl⟩
theorem BagF.le (h : BagF w b ks xs room) : xs.length ≤ room ∧ room ≤ 2000 := by
  obtain ⟨r, ⟨_, _, _, _, h1, h2⟩, _⟩ := h
  exact ⟨h1, h2⟩
end
theorem step_of_take {w w' : World} {b room : Nat} {r : Option Nat} {ys : List Int} (h : TakeOkI w b r ys room w') : ∃ ks', BagF w' b ks' ys room ∧ Step (b :: r.toList) ks' w w' := by
  obtain ⟨r', hB, hF, hr⟩ := h
  refine ⟨_, ⟨r', hB, rfl⟩, hF, fun k hk => ?_⟩
  rcases List.mem_cons.1 hk with rfl | hk
  · exact .inl (by simp)
  · rcases hr with rfl | ⟨g, rfl, hg⟩
    · exact .inl (by simp [hk])
    · refine .inr ?_
      have : k = g := by simpa using hk
      omega

theorem bput (b room : Nat) (ks : List Nat) (xs : List Int) (x : Int) (w : World) (h : BagF w b ks xs room) :
    Calls Try.prog 19 #[.pointer (some ⟨b, 0, none⟩), .int .i64 x] w fun e w' => e = .returned (.int .i64 (putE xs room)) ∧ ∃ ks', BagF w' b ks' (putL xs room x) room ∧ Step ks ks' w w' := by
  obtain ⟨r, hB, rfl⟩ := h
  by_cases hlt : xs.length < room
  · rw [putE, putL, if_pos hlt, if_pos hlt]
    exact (Put_ok_I b r xs room x w hB hlt).mono fun e w' ⟨he, h⟩ => ⟨he, step_of_take h⟩
  · rw [putE, putL, if_neg hlt, if_neg hlt]
    refine (Put_full_I b r xs room x w hB (by omega)).mono ?_
    rintro e w' ⟨he, n, rfl⟩
    exact ⟨he, _, ⟨r, hB.kept fun _ _ => rfl, rfl⟩, Step.drewN _ _ _⟩
theorem rput (a room : Nat) (ks : List Nat) (xs : List Int) (x : Int) (w : World) (h : RefF w a ks xs room) (hm : room ≤ 2000) :
    Calls Try.prog 38 #[.pointer (some ⟨a, 0, none⟩), .int .i64 x] w fun e w' => e = .returned (.int .i64 (putE xs room)) ∧ ∃ ks', RefF w' a ks' (putL xs room x) room ∧ Step ks ks' w w' := by
  by_cases hlt : xs.length < room
  · rw [putE, putL, if_pos hlt, if_pos hlt]
    exact refput_ok a ks xs room x w h hlt hm
  · rw [putE, putL, if_neg hlt, if_neg hlt]
    refine (refput_full a ks xs room x w h (by omega)).mono ?_
    rintro e w' ⟨he, n, rfl⟩
    exact ⟨he, _, h.fr ((Fr.refl [] w).drewN n) (by simp), Step.drewN _ _ _⟩
theorem inn_get {xs : List Int} {i : Int} (h : inn xs i) : xs[i.toNat]? = some (xs.getD i.toNat 0) := by
  obtain ⟨h1, h2⟩ := h
  rw [List.getD_eq_getElem?_getD, List.getElem?_eq_getElem (by omega)]; rfl
theorem inn_out {xs : List Int} {i : Int} (h : ¬ inn xs i) : i < 0 ∨ (xs.length : Int) ≤ i := by
  unfold inn at h; omega
theorem btake (b room : Nat) (ks : List Nat) (xs : List Int) (i : Int) (w : World) (h : BagF w b ks xs room) :
    Calls Try.prog 20 #[.pointer (some ⟨b, 0, none⟩), .int .i64 i] w fun e w' => e = .returned (.tuple #[.int .i64 (takeX xs i), .int .i64 (takeE xs i)]) ∧ ∃ ks', BagF w' b ks' (takeL xs i) room ∧ Step ks ks' w w' := by
  obtain ⟨r, hB, rfl⟩ := h
  by_cases hlt : inn xs i
  · rw [takeX, takeE, takeL, if_pos hlt, if_pos hlt, if_pos hlt]
    obtain ⟨k, rfl⟩ : ∃ k : Nat, i = k := ⟨i.toNat, by have := hlt.1; omega⟩
    exact (Take_ok_I b k r xs _ room w hB (inn_get hlt)).mono fun e w' ⟨he, h⟩ => ⟨he, step_of_take h⟩
  · rw [takeX, takeE, takeL, if_neg hlt, if_neg hlt, if_neg hlt]
    refine (Take_out_I b r xs room i w hB (inn_out hlt)).mono ?_
    rintro e w' ⟨he, n, rfl⟩
    exact ⟨he, _, ⟨r, hB.kept fun _ _ => rfl, rfl⟩, Step.drewN _ _ _⟩
theorem rtake (a room : Nat) (ks : List Nat) (xs : List Int) (i : Int) (w : World) (h : RefF w a ks xs room) (hm : xs.length ≤ 2000) :
    Calls Try.prog 39 #[.pointer (some ⟨a, 0, none⟩), .int .i64 i] w fun e w' => e = .returned (.tuple #[.int .i64 (takeX xs i), .int .i64 (takeE xs i)]) ∧ ∃ ks', RefF w' a ks' (takeL xs i) room ∧ Step ks ks' w w' := by
  by_cases hlt : inn xs i
  · rw [takeX, takeE, takeL, if_pos hlt, if_pos hlt, if_pos hlt]
    obtain ⟨k, rfl⟩ : ∃ k : Nat, i = k := ⟨i.toNat, by have := hlt.1; omega⟩
    exact reftake_ok a k ks xs _ room w h (inn_get hlt) hm
  · rw [takeX, takeE, takeL, if_neg hlt, if_neg hlt, if_neg hlt]
    refine (reftake_out a ks xs room i w h (inn_out hlt)).mono ?_
    rintro e w' ⟨he, rfl⟩
    exact ⟨he, _, h, Step.same _ _⟩
theorem bat (b room : Nat) (ks : List Nat) (xs : List Int) (i : Int) (w : World) (h : BagF w b ks xs room) :
    Calls Try.prog 33 #[.pointer (some ⟨b, 0, none⟩), .int .i64 i] w fun e w' => e = .returned (.tuple #[.int .i64 (takeX xs i), .int .i64 (takeE xs i)]) ∧ ∃ n, w' = w.drewN n := by
  obtain ⟨r, hB, rfl⟩ := h
  by_cases hlt : inn xs i
  · rw [takeX, takeE, if_pos hlt, if_pos hlt]
    obtain ⟨k, rfl⟩ : ∃ k : Nat, i = k := ⟨i.toNat, by have := hlt.1; omega⟩
    exact At_I b r xs room k _ w hB (inn_get hlt)
  · rw [takeX, takeE, if_neg hlt, if_neg hlt]
    exact At_out_I b r xs room i w hB (inn_out hlt)
theorem rat (a room : Nat) (ks : List Nat) (xs : List Int) (i : Int) (w : World) (h : RefF w a ks xs room) :
    Calls Try.prog 40 #[.pointer (some ⟨a, 0, none⟩), .int .i64 i] w fun e w' => e = .returned (.tuple #[.int .i64 (takeX xs i), .int .i64 (takeE xs i)]) ∧ w = w' := by
  by_cases hlt : inn xs i
  · rw [takeX, takeE, if_pos hlt, if_pos hlt]
    obtain ⟨k, rfl⟩ : ∃ k : Nat, i = k := ⟨i.toNat, by have := hlt.1; omega⟩
    exact refat_ok a k ks xs _ room w h (inn_get hlt)
  · rw [takeX, takeE, if_neg hlt, if_neg hlt]
    exact refat_out a ks xs room i w h (inn_out hlt)

/-- a bag with xs and the document's one with ys, apart from each other and from the blocks K, all from 'base' on -/
def Two (K : List Nat) (base : Nat) (w : World) (b a : Nat) (xs ys : List Int) (room : Nat) : Prop :=
  ∃ kb ka, BagF w b kb xs room ∧ RefF w a ka ys room ∧ (∀ k ∈ kb, k ∉ ka) ∧ (∀ k ∈ kb, base ≤ k) ∧ (∀ k ∈ ka, base ≤ k) ∧ base ≤ w.heap.size ∧ ∀ k ∈ K, k < w.heap.size ∧ k ∉ kb ∧ k ∉ ka
/-- below base, and at K, all is as it was -/
def Kept (K : List Nat) (base : Nat) (w w' : World) : Prop := Below base w w' ∧ ∀ k ∈ K, w'.heap[k]? = w.heap[k]?
theorem Kept.trans {K : List Nat} {base : Nat} {w w1 w2 : World} (h : Kept K base w w1) (h2 : Kept K base w1 w2) : Kept K base w w2 := ⟨h.1.trans h2.1, fun k hk => (h2.2 k hk).trans (h.2 k hk)⟩
section
variable {K : List Nat} {base : Nat} {w w' : World} {b a room : Nat} {xs ys xs' : List Int} {kb ka kb' ka' : List Nat}
theorem kept_of (hs : Step kb kb' w w') (hb : ∀ k ∈ kb, base ≤ k) (hsz : base ≤ w.heap.size) (hK : ∀ k ∈ K, k < w.heap.size ∧ k ∉ kb) : Kept K base w w' :=
  ⟨hs.1.toBelow hsz hb, fun k hk => hs.1.block k (hK k hk).1 (hK k hk).2⟩
theorem two_bag (hB' : BagF w' b kb' xs' room) (hs : Step kb kb' w w') (hR : RefF w a ka ys room) (hd : ∀ k ∈ kb, k ∉ ka) (hb : ∀ k ∈ kb, base ≤ k) (ha : ∀ k ∈ ka, base ≤ k) (hsz : base ≤ w.heap.size) (hK : ∀ k ∈ K, k < w.heap.size ∧ k ∉ kb ∧ k ∉ ka) :
    Two K base w' b a xs' ys room ∧ Kept K base w w' := by
  refine ⟨⟨kb', ka, hB', hR.fr hs.1 (fun k hk hm => hd k hm hk), ?_, ?_, ha, Nat.le_trans hsz hs.1.size, ?_⟩, kept_of hs hb hsz fun k hk => ⟨(hK k hk).1, (hK k hk).2.1⟩⟩
  · intro k hk hm
    rcases hs.2 k hk with h | h
    · exact hd k h hm
    · have := hR.lt k hm; omega
  · intro k hk
    rcases hs.2 k hk with h | h
    · exact hb k h
    · omega
  · intro k hk
    obtain ⟨h1, h2, h3⟩ := hK k hk
    refine ⟨Nat.lt_of_lt_of_le h1 hs.1.size, fun hm => ?_, h3⟩
    rcases hs.2 k hm with h | h
    · exact h2 h
    · omega
theorem two_ref (hB : BagF w b kb xs room) (hs : Step ka ka' w w') (hR' : RefF w' a ka' ys room) (hd : ∀ k ∈ kb, k ∉ ka) (hb : ∀ k ∈ kb, base ≤ k) (ha : ∀ k ∈ ka, base ≤ k) (hsz : base ≤ w.heap.size) (hK : ∀ k ∈ K, k < w.heap.size ∧ k ∉ kb ∧ k ∉ ka) :
    Two K base w' b a xs ys room ∧ Kept K base w w' := by
  refine ⟨⟨kb, ka', hB.fr hs.1 hd, hR', ?_, hb, ?_, Nat.le_trans hsz hs.1.size, ?_⟩, kept_of hs ha hsz fun k hk => ⟨(hK k hk).1, (hK k hk).2.2⟩⟩
  · intro k hk hm
    rcases hs.2 k hm with h | h
    · exact hd k hk h
    · have := hB.lt k hk; omega
  · intro k hk
    rcases hs.2 k hk with h | h
    · exact ha k h
    · omega
  · intro k hk
    obtain ⟨h1, h2, h3⟩ := hK k hk
    refine ⟨Nat.lt_of_lt_of_le h1 hs.1.size, h2, fun hm => ?_⟩
    rcases hs.2 k hm with h | h
    · exact h3 h
    · omega
theorem Two.le (h : Two K base w b a xs ys room) : xs.length ≤ room ∧ room ≤ 2000 := by
  obtain ⟨_, _, hB, _⟩ := h
  exact hB.le
theorem Two.size (h : Two K base w b a xs ys room) : base ≤ w.heap.size := by
  obtain ⟨_, _, _, _, _, _, _, h, _⟩ := h
  exact h
/-- a call that leaves all that lay as it lay -/
theorem Two.below (h : Two K base w b a xs ys room) (hb : Below w.heap.size w w') : Two K base w' b a xs ys room ∧ Kept K base w w' := by
  obtain ⟨kb, ka, hB, hR, hd, h1, h2, h3, hK⟩ := h
  have hF : Fr [] w w' := Fr.of_below hb
  refine ⟨⟨kb, ka, hB.fr hF (by simp), hR.fr hF (by simp), hd, h1, h2, Nat.le_trans h3 hb.size, fun k hk => ⟨Nat.lt_of_lt_of_le (hK k hk).1 hb.size, (hK k hk).2⟩⟩, hb.mono h3, fun k hk => hb.block k (hK k hk).1⟩
theorem Two.also (h : Two K base w b a xs ys room) (o : Obj) : Two (w.heap.size :: K) base (w.alloc o) b a xs ys room := by
  have hb : Below w.heap.size w (w.alloc o) := (Below.refl _ _).alloc (Nat.le_refl _) _
  obtain ⟨kb, ka, hB, hR, hd, h1, h2, h3, hK⟩ := h
  have hF : Fr [] w (w.alloc o) := Fr.of_below hb
  refine ⟨kb, ka, hB.fr hF (by simp), hR.fr hF (by simp), hd, h1, h2, Nat.le_trans h3 hb.size, fun k hk => ?_⟩
  rcases List.mem_cons.1 hk with rfl | hk
  · exact ⟨by simp, fun hm => by have := hB.lt _ hm; omega, fun hm => by have := hR.lt _ hm; omega⟩
  · exact ⟨Nat.lt_of_lt_of_le (hK k hk).1 hb.size, (hK k hk).2⟩
theorem Two.less {K' : List Nat} (h : Two K base w b a xs ys room) (hK' : ∀ k ∈ K', k ∈ K) : Two K' base w b a xs ys room := by
  obtain ⟨kb, ka, hB, hR, hd, h1, h2, h3, hK⟩ := h
  exact ⟨kb, ka, hB, hR, hd, h1, h2, h3, fun k hk => hK k (hK' k hk)⟩

theorem t_bput (x : Int) (h : Two K base w b a xs ys room) :
    Calls Try.prog 19 #[.pointer (some ⟨b, 0, none⟩), .int .i64 x] w fun e w' => e = .returned (.int .i64 (putE xs room)) ∧ Two K base w' b a (putL xs room x) ys room ∧ Kept K base w w' := by
  obtain ⟨kb, ka, hB, hR, hd, h1, h2, h3, hK⟩ := h
  refine (bput b room kb xs x w hB).mono ?_
  rintro e w' ⟨he, ks', hB', hs⟩
  exact ⟨he, two_bag hB' hs hR hd h1 h2 h3 hK⟩
theorem t_rput (x : Int) (h : Two K base w b a xs ys room) :
    Calls Try.prog 38 #[.pointer (some ⟨a, 0, none⟩), .int .i64 x] w fun e w' => e = .returned (.int .i64 (putE ys room)) ∧ Two K base w' b a xs (putL ys room x) room ∧ Kept K base w w' := by
  obtain ⟨kb, ka, hB, hR, hd, h1, h2, h3, hK⟩ := h
  refine (rput a room ka ys x w hR hB.le.2).mono ?_
  rintro e w' ⟨he, ks', hR', hs⟩
  exact ⟨he, two_ref hB hs hR' hd h1 h2 h3 hK⟩
theorem t_btake (i : Int) (h : Two K base w b a xs ys room) :
    Calls Try.prog 20 #[.pointer (some ⟨b, 0, none⟩), .int .i64 i] w fun e w' => e = .returned (.tuple #[.int .i64 (takeX xs i), .int .i64 (takeE xs i)]) ∧ Two K base w' b a (takeL xs i) ys room ∧ Kept K base w w' := by
  obtain ⟨kb, ka, hB, hR, hd, h1, h2, h3, hK⟩ := h
  refine (btake b room kb xs i w hB).mono ?_
  rintro e w' ⟨he, ks', hB', hs⟩
  exact ⟨he, two_bag hB' hs hR hd h1 h2 h3 hK⟩
theorem t_rtake (i : Int) (h : Two K base w b a xs ys room) (hm : ys.length ≤ 2000) :
    Calls Try.prog 39 #[.pointer (some ⟨a, 0, none⟩), .int .i64 i] w fun e w' => e = .returned (.tuple #[.int .i64 (takeX ys i), .int .i64 (takeE ys i)]) ∧ Two K base w' b a xs (takeL ys i) room ∧ Kept K base w w' := by
  obtain ⟨kb, ka, hB, hR, hd, h1, h2, h3, hK⟩ := h
  refine (rtake a room ka ys i w hR hm).mono ?_
  rintro e w' ⟨he, ks', hR', hs⟩
  exact ⟨he, two_ref hB hs hR' hd h1 h2 h3 hK⟩
theorem t_bat (i : Int) (h : Two K base w b a xs ys room) :
    Calls Try.prog 33 #[.pointer (some ⟨b, 0, none⟩), .int .i64 i] w fun e w' => e = .returned (.tuple #[.int .i64 (takeX xs i), .int .i64 (takeE xs i)]) ∧ Two K base w' b a xs ys room ∧ Kept K base w w' := by
  obtain ⟨kb, ka, hB, hR, hd, h1, h2, h3, hK⟩ := id h
  refine (bat b room kb xs i w hB).mono ?_
  rintro e w' ⟨he, n, rfl⟩
  exact ⟨he, h.below (below_drewN (Below.refl _ _) n)⟩
theorem t_rat (i : Int) (h : Two K base w b a xs ys room) :
    Calls Try.prog 40 #[.pointer (some ⟨a, 0, none⟩), .int .i64 i] w fun e w' => e = .returned (.tuple #[.int .i64 (takeX ys i), .int .i64 (takeE ys i)]) ∧ Two K base w' b a xs ys room ∧ Kept K base w w' := by
  obtain ⟨kb, ka, hB, hR, hd, h1, h2, h3, hK⟩ := id h
  refine (rat a room ka ys i w hR).mono ?_
  rintro e w' ⟨he, rfl⟩
  exact ⟨he, h, Below.refl _ _, fun _ _ => rfl⟩
end
end Go.Proofs.Ytaedfieilfmfhaa
