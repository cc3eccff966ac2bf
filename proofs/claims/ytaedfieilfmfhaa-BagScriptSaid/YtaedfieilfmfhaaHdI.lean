/- What a bag is in memory; its small methods New, none, Len, Room, At, as contracts: each for every bag. -/
import Derived.Test.YtaedfieilfmfhaaProg
import Derived.Test.YtaedfieilfmfhaaMem
import Derived.WalkKit
import Derived.WalkSpells
import Derived.WalkLawsBesides
import Derived.Deep.QuietTactic
import Derived.BigQuiet
import Derived.Lib.Hide
namespace Go.Proofs.Ytaedfieilfmfhaa
open Go.RowKit

/-- the bag's struct -/
def HeadI (w : World) (b : Nat) (ring : Value) (first many room : Nat) : Prop :=
  Blk w b 67 #[ring, .int .i64 first, .int .i64 many, .int .i64 room, .bool true]
section
variable {w : World} {b : Nat} {ring : Value} {first many room : Nat}
theorem HeadI.c0 (h : HeadI w b ring first many room) : w.cell? ⟨b, 0, none⟩ = some ring := Blk.cell h 0
theorem HeadI.c1 (h : HeadI w b ring first many room) : w.cell? ⟨b, 1, none⟩ = some (.int .i64 first) := Blk.cell h 1
theorem HeadI.c2 (h : HeadI w b ring first many room) : w.cell? ⟨b, 2, none⟩ = some (.int .i64 many) := Blk.cell h 2
theorem HeadI.c3 (h : HeadI w b ring first many room) : w.cell? ⟨b, 3, none⟩ = some (.int .i64 room) := Blk.cell h 3
theorem HeadI.c4 (h : HeadI w b ring first many room) : w.cell? ⟨b, 4, none⟩ = some (.bool true) := Blk.cell h 4
end

/-- the ring of slots, and what lies in it, from the first one on -/
def RingI (w : World) (ring : Value) (r : Option Nat) (first : Nat) (xs : List Int) : Prop :=
  (ring = .slice none 0 0 ∧ r = none ∧ first = 0 ∧ xs = []) ∨
  ∃ g n cap cur, ring = .slice (some ⟨g, 0, none⟩) n cap ∧ r = some g ∧ Blk w g 3 cur ∧ cur.size = cap ∧ n ≤ cap ∧ cap ≤ maxLen ∧ n ≤ 4001 ∧ first < n ∧ xs.length ≤ n ∧
    ∀ i x, xs[i]? = some x → cur[(first + i) % n]? = some (Value.int .i64 x)

/-- a bag of that room that has xs -/
def BagI (w : World) (b : Nat) (r : Option Nat) (xs : List Int) (room : Nat) : Prop :=
  ∃ ring first, HeadI w b ring first xs.length room ∧ RingI w ring r first xs ∧ xs.length ≤ room ∧ room ≤ 2000

theorem BagI.kept {w w' : World} {b : Nat} {r : Option Nat} {xs : List Int} {room : Nat} (h : BagI w b r xs room) (hk : ∀ k, k = b ∨ r = some k → w'.heap[k]? = w.heap[k]?) : BagI w' b r xs room := by
  obtain ⟨ring, first, hh, hr, h1, h2⟩ := h
  refine ⟨ring, first, (hk b (.inl rfl)).trans hh, ?_, h1, h2⟩
  rcases hr with hr | ⟨g, n, cap, cur, e, hg, hb, rest⟩
  · exact .inl hr
  · exact .inr ⟨g, n, cap, cur, e, hg, (hk g (.inr hg)).trans hb, rest⟩
theorem BagI.lt {w : World} {b : Nat} {r : Option Nat} {xs : List Int} {room : Nat} (h : BagI w b r xs room) : b < w.heap.size ∧ ∀ k, r = some k → k < w.heap.size ∧ k ≠ b := by
  obtain ⟨ring, first, hh, hr, _, _⟩ := h
  refine ⟨Blk.lt hh, fun k hk => ?_⟩
  rcases hr with ⟨_, hr, _⟩ | ⟨g, n, cap, cur, e, hg, hb, rest⟩
  · rw [hr] at hk; cases hk
  · rw [hg] at hk; cases hk
    exact ⟨hb.lt, Blk.ne_ hb hh (by decide)⟩
theorem BagI.fr {w w' : World} {b : Nat} {r : Option Nat} {xs : List Int} {room : Nat} {ks : List Nat} (h : BagI w b r xs room) (hf : Fr ks w w') (hb : b ∉ ks) (hr : ∀ k, r = some k → k ∉ ks) : BagI w' b r xs room :=
  h.kept fun k hk => by
    rcases hk with rfl | hk
    · exact hf.block k h.lt.1 hb
    · exact hf.block k (h.lt.2 k hk).1 (hr k hk)

set_option maxHeartbeats 400000 in
theorem new_bad_I (n : Int) (w : World) (h : n < 0 ∨ 2000 < n) :
    Calls Try.prog 16 #[.int .i64 n] w fun e w' => e = .returned (.tuple #[.pointer none, .int .i64 2]) ∧ w = w' := by
  rcases h with h | h
  · go_enter Try.func16, Try.ntmps16
    go_wp2
    go_ret2
    exact ⟨rfl, rfl⟩
  · have h0 : ¬ n < 0 := by omega
    go_enter Try.func16, Try.ntmps16
    go_wp2
    go_ret2
    exact ⟨rfl, rfl⟩

set_option maxHeartbeats 400000 in
theorem new0_I (n : Int) (w : World) (h0 : 0 ≤ n) (h : n ≤ 2000) :
    Calls Try.prog 16 #[.int .i64 n] w fun e w' => e = .returned (.tuple #[.pointer (some ⟨w.heap.size, 0, none⟩), .int .i64 0]) ∧
      w.alloc (.cells #[.slice none 0 0, .int .i64 0, .int .i64 0, .int .i64 n, .bool true] 67) = w' := by
  go_enter Try.func16, Try.ntmps16
  go_wp2
  go_ret2
  exact ⟨rfl, rfl⟩
theorem new_ok_I (n : Int) (w : World) (h0 : 0 ≤ n) (h : n ≤ 2000) :
    Calls Try.prog 16 #[.int .i64 n] w fun e w' => e = .returned (.tuple #[.pointer (some ⟨w.heap.size, 0, none⟩), .int .i64 0]) ∧
      BagI w' w.heap.size none [] n.toNat ∧ Below w.heap.size w w' := by
  refine (new0_I n w h0 h).mono ?_
  rintro e w' ⟨rfl, rfl⟩
  refine ⟨rfl, ⟨.slice none 0 0, 0, ?_, .inl ⟨rfl, rfl, rfl, rfl⟩, by simp, by omega⟩, (Below.refl _ _).alloc (Nat.le_refl _) _⟩
  have hb := Blk.new w 67 #[.slice none 0 0, .int .i64 0, .int .i64 0, .int .i64 n, .bool true]
  have e : ((n.toNat : Nat) : Int) = n := by omega
  unfold HeadI
  rw [e]
  exact hb

set_option maxHeartbeats 400000 in
theorem none_I (b : Nat) (ring : Value) (first many room : Nat) (w : World) (hh : HeadI w b ring first many room) :
    Calls Try.prog 34 #[.pointer (some ⟨b, 0, none⟩)] w fun e w' => e = .returned (.bool false) ∧ w = w' := by
  have h4 := hh.c4
  go_enter Try.func34, Try.ntmps34
  go_wp2
  go_ret
  exact ⟨rfl, rfl⟩

set_option maxHeartbeats 400000 in
theorem len_I (b : Nat) (ring : Value) (first many room : Nat) (w : World) (hh : HeadI w b ring first many room) :
    Calls Try.prog 24 #[.pointer (some ⟨b, 0, none⟩)] w fun e w' => e = .returned (.int .i64 many) ∧ w = w' := by
  have h2 := hh.c2
  go_enter Try.func24, Try.ntmps24
  go_wp2_with (go_at_call 34; refine (none_I _ _ _ _ _ _ hh).mono ?_; rintro e w' ⟨rfl, rfl⟩)
  go_ret
  exact ⟨rfl, rfl⟩
theorem Len_I (b : Nat) (r : Option Nat) (xs : List Int) (room : Nat) (w : World) (h : BagI w b r xs room) :
    Calls Try.prog 24 #[.pointer (some ⟨b, 0, none⟩)] w fun e w' => e = .returned (.int .i64 xs.length) ∧ w = w' := by
  obtain ⟨ring, first, hh, _⟩ := h
  exact len_I _ _ _ _ _ _ hh

set_option maxHeartbeats 400000 in
theorem room_I (b : Nat) (ring : Value) (first many room : Nat) (w : World) (hh : HeadI w b ring first many room) (hm : many ≤ room) (hr : room ≤ 2000) :
    Calls Try.prog 25 #[.pointer (some ⟨b, 0, none⟩)] w fun e w' => e = .returned (.int .i64 ((room : Int) - many)) ∧ ∃ n, w' = w.drewN n := by
  have h2 := hh.c2
  have h3 := hh.c3
  go_enter Try.func25, Try.ntmps25
  go_wp2_with (first | (go_at_call 34; refine (none_I _ _ _ _ _ _ hh).mono ?_; rintro e w' ⟨rfl, rfl⟩) | go_quiet (fail))
  go_ret
  exact ⟨rfl, _, rfl⟩
theorem Room_I (b : Nat) (r : Option Nat) (xs : List Int) (room : Nat) (w : World) (h : BagI w b r xs room) :
    Calls Try.prog 25 #[.pointer (some ⟨b, 0, none⟩)] w fun e w' => e = .returned (.int .i64 ((room : Int) - xs.length)) ∧ ∃ n, w' = w.drewN n := by
  obtain ⟨ring, first, hh, _, h1, h2⟩ := h
  exact room_I _ _ _ _ _ _ hh h1 h2

set_option maxHeartbeats 400000 in
theorem at0_I (b g i n cap : Nat) (cur : Array Value) (x : Int) (first many room : Nat) (w : World) (hh : HeadI w b (.slice (some ⟨g, 0, none⟩) n cap) first many room)
    (hg : Blk w g 3 cur) (hf : first < n) (hn : n ≤ 4001) (hi : i < many) (hmn : many ≤ n) (hx : cur[(first + i) % n]? = some (Value.int .i64 x)) :
    Calls Try.prog 33 #[.pointer (some ⟨b, 0, none⟩), .int .i64 i] w fun e w' => e = .returned (.tuple #[Value.int .i64 x, .int .i64 0]) ∧ ∃ n, w' = w.drewN n := by
  have h0 := hh.c0
  have h1 := hh.c1
  have h2 := hh.c2
  have hc : w.cell? ⟨g, (first + i) % n, none⟩ = some (Value.int .i64 x) := (hg.cell _).trans hx
  have hlt : (first + i) % n < n := Nat.mod_lt _ (by omega)
  clear hx
  go_enter Try.func33, Try.ntmps33
  go_wp2_with (first | (go_at_call 34; refine (none_I _ _ _ _ _ _ hh).mono ?_; rintro e w' ⟨rfl, rfl⟩))
  have s1 : 0 ≤ ((first : Int) + i) % n := Int.emod_nonneg _ (by omega)
  have s2 : ((first : Int) + i) % n < n := Int.emod_lt_of_pos _ (by omega)
  go_quiet (fail)
  go_wp2
  go_ret2
  exact ⟨rfl, _, rfl⟩
set_option maxHeartbeats 400000 in
theorem at_low_I (b : Nat) (i : Int) (ring : Value) (first many room : Nat) (w : World) (hh : HeadI w b ring first many room) (hi : i < 0) :
    Calls Try.prog 33 #[.pointer (some ⟨b, 0, none⟩), .int .i64 i] w fun e w' => e = .returned (.tuple #[Value.int .i64 0, .int .i64 5]) ∧ ∃ n, w' = w.drewN n := by
  go_enter Try.func33, Try.ntmps33
  go_wp2_with (first | (go_at_call 34; refine (none_I _ _ _ _ _ _ hh).mono ?_; rintro e w' ⟨rfl, rfl⟩))
  go_ret2
  exact ⟨rfl, 0, rfl⟩
set_option maxHeartbeats 400000 in
theorem at_high_I (b : Nat) (i : Int) (ring : Value) (first many room : Nat) (w : World) (hh : HeadI w b ring first many room) (h0 : 0 ≤ i) (hi : (many : Int) ≤ i) :
    Calls Try.prog 33 #[.pointer (some ⟨b, 0, none⟩), .int .i64 i] w fun e w' => e = .returned (.tuple #[Value.int .i64 0, .int .i64 5]) ∧ ∃ n, w' = w.drewN n := by
  have h2 := hh.c2
  go_enter Try.func33, Try.ntmps33
  go_wp2_with (first | (go_at_call 34; refine (none_I _ _ _ _ _ _ hh).mono ?_; rintro e w' ⟨rfl, rfl⟩))
  go_ret2
  exact ⟨rfl, 0, rfl⟩

theorem At_I (b : Nat) (r : Option Nat) (xs : List Int) (room : Nat) (i : Nat) (x : Int) (w : World) (h : BagI w b r xs room) (hi : xs[i]? = some x) :
    Calls Try.prog 33 #[.pointer (some ⟨b, 0, none⟩), .int .i64 i] w fun e w' => e = .returned (.tuple #[Value.int .i64 x, .int .i64 0]) ∧ ∃ n, w' = w.drewN n := by
  obtain ⟨ring, first, hh, hr, h1, h2⟩ := h
  have hlt : i < xs.length := (List.getElem?_eq_some_iff.1 hi).1
  rcases hr with ⟨_, _, _, rfl⟩ | ⟨g, n, cap, cur, rfl, _, hg, _, _, _, hn, hf, hl, hx⟩
  · simp at hi
  · exact at0_I b g i n cap cur x first xs.length room w hh hg hf hn hlt hl (hx i x hi)
theorem At_out_I (b : Nat) (r : Option Nat) (xs : List Int) (room : Nat) (i : Int) (w : World) (h : BagI w b r xs room) (hi : i < 0 ∨ (xs.length : Int) ≤ i) :
    Calls Try.prog 33 #[.pointer (some ⟨b, 0, none⟩), .int .i64 i] w fun e w' => e = .returned (.tuple #[Value.int .i64 0, .int .i64 5]) ∧ ∃ n, w' = w.drewN n := by
  obtain ⟨ring, first, hh, hr, h1, h2⟩ := h
  by_cases h0 : i < 0
  · exact at_low_I b i ring first xs.length room w hh h0
  · exact at_high_I b i ring first xs.length room w hh (by omega) (by omega)
end Go.Proofs.Ytaedfieilfmfhaa
