/- Words on memory that this seat's proofs share: a block known whole, what a call may have turned, what has come of an iterator. They speak of no program. -/
import Derived.Below
import Derived.Laws.OwnMore
import Derived.Deep.AppendLies
import Derived.Deep.Draws
import Derived.Laws.Rows
import Derived.OneCell
import Derived.Maps.AppendAt
import Derived.RegionTactic
import Derived.OwnWalk
namespace Go.Proofs.Ytaedfieilfmfhaa
open Go.RowKit

/-- what has come when k rounds are over -/
def upto {α : Type} (f : Nat → α) (k : Nat) : List α := (List.range k).map f
theorem upto_succ {α : Type} (f : Nat → α) (k : Nat) : upto f (k + 1) = upto f k ++ [f k] := by simp [upto, List.range_succ]
theorem upto_length {α : Type} (f : Nat → α) (k : Nat) : (upto f k).length = k := by simp [upto]
theorem upto_map {α β : Type} (f : Nat → α) (g : α → β) (k : Nat) : (upto f k).map g = upto (fun j => g (f j)) k := by simp [upto]
theorem upto_list {α : Type} (xs : List α) (d : α) : upto (fun j => xs.getD j d) xs.length = xs := by
  apply List.ext_getElem
  · simp [upto]
  · intro i h1 h2
    simp [upto, h2]

/-- a block that is known whole -/
def Blk (w : World) (g : Nat) (t : TypeId) (cs : Array Value) : Prop := w.heap[g]? = some (.cells cs t (0, 0))
section
variable {w w' : World} {g : Nat} {t : TypeId} {cs : Array Value}
theorem Blk.lt (h : Blk w g t cs) : g < w.heap.size := lt_of_block h
theorem Blk.cell (h : Blk w g t cs) (i : Nat) : w.cell? ⟨g, i, none⟩ = cs[i]? := cell_of_row w g i cs t (0, 0) h
theorem Blk.frozen (h : Blk w g t cs) (i : Nat) : w.frozen? ⟨g, i, none⟩ = false := by
  unfold Blk at h
  simp [World.frozen?, h]
theorem Blk.new (w : World) (t : TypeId) (cs : Array Value) : Blk (w.alloc (.cells cs t)) w.heap.size t cs := heap_alloc_new w _
theorem Blk.drewN (h : Blk w g t cs) (n : Nat) : Blk (w.drewN n) g t cs := h
theorem Blk.alloc (h : Blk w g t cs) (o : Obj) : Blk (w.alloc o) g t cs := (Below.heap_alloc w o g h.lt).trans h
theorem Blk.set_ (h : Blk w g t cs) (i : Nat) (u : Value) : Blk (w.setCell ⟨g, i, none⟩ u) g t (cs.setIfInBounds i u) := by
  unfold Blk at h ⊢
  simp [World.setCell, Array.getElem?_modify, h]
theorem Blk.far (h : Blk w g t cs) {p : Addr} (hp : g ≠ p.block) (u : Value) : Blk (w.setCell p u) g t cs := (Below.heap_setCell w p u g hp).trans h
theorem Blk.ne_ {g' : Nat} {t' : TypeId} {cs' : Array Value} (h : Blk w g t cs) (h' : Blk w g' t' cs') (hne : t ≠ t') : g ≠ g' := by
  rintro rfl
  unfold Blk at h h'
  rw [h] at h'
  injection h' with h'
  injection h' with _ ht
  exact hne ht
end
theorem own_blk_ne {w : World} {base g : Nat} {e t : TypeId} {size n : Nat} {v : Value} {xs : List Value} {cs : Array Value} (h : w.ownsRow base e size v n xs) (hg : Blk w g t cs) (hne : e ≠ t) : v.ownBlock ≠ some g := by
  rcases h.2 with ⟨rfl, _⟩ | ⟨g', cap, cur, rfl, _, hh, _⟩
  · simp [Value.ownBlock]
  · intro he
    have : g' = g := by simpa [Value.ownBlock] using he
    subst this
    exact Blk.ne_ (t := e) hh hg hne rfl

/-- Of what lay in w only the blocks ks may have turned. -/
structure Fr (ks : List Nat) (w w' : World) : Prop where
  os : w'.os = w.os
  tape : w'.tape = w.tape
  output : w'.output = w.output
  size : w.heap.size ≤ w'.heap.size
  block : ∀ k, k < w.heap.size → k ∉ ks → w'.heap[k]? = w.heap[k]?
section
variable {ks ks' : List Nat} {w w1 w2 : World}
theorem Fr.refl (ks : List Nat) (w : World) : Fr ks w w := ⟨rfl, rfl, rfl, Nat.le_refl _, fun _ _ _ => rfl⟩
theorem Fr.trans (h : Fr ks w w1) (k : Fr ks' w1 w2) (hk : ∀ i ∈ ks', i ∈ ks ∨ w.heap.size ≤ i) : Fr ks w w2 :=
  ⟨k.os.trans h.os, k.tape.trans h.tape, k.output.trans h.output, Nat.le_trans h.size k.size, fun i hi hn =>
    (k.block i (Nat.lt_of_lt_of_le hi h.size) (fun hm => by rcases hk i hm with h1 | h1; exact hn h1; omega)).trans (h.block i hi hn)⟩
theorem Fr.drewN (h : Fr ks w w1) (n : Nat) : Fr ks w (w1.drewN n) := ⟨h.os, h.tape, h.output, h.size, h.block⟩
theorem Fr.drew (h : Fr ks w w1) : Fr ks w w1.drew := ⟨h.os, h.tape, h.output, h.size, h.block⟩
theorem Fr.below {B : Nat} (h : Fr ks w w1) (hk : Below B w1 w2) (hB : w.heap.size ≤ B) : Fr ks w w2 :=
  ⟨hk.os.trans h.os, hk.tape.trans h.tape, hk.output.trans h.output, Nat.le_trans h.size hk.size, fun i hi hn => (hk.block i (by omega)).trans (h.block i hi hn)⟩
theorem Fr.of_below (h : Below w.heap.size w w1) : Fr ks w w1 := (Fr.refl ks w).below h (Nat.le_refl _)
theorem Fr.grown {row : Option Nat} (h : Fr ks w w1) (hg : w1.grownBy w2 row) (hr : ∀ k, row = some k → k ∈ ks ∨ w.heap.size ≤ k) : Fr ks w w2 :=
  ⟨hg.os.trans h.os, hg.tape.trans h.tape, hg.output.trans h.output, Nat.le_trans h.size hg.size, fun i hi hn =>
    (hg.block i (Nat.lt_of_lt_of_le hi h.size) (fun e => by rcases hr i e.symm with h1 | h1; exact hn h1; omega)).trans (h.block i hi hn)⟩
theorem Fr.alloc (h : Fr ks w w1) (o : Obj) : Fr ks w (w1.alloc o) := h.grown (World.grownBy_alloc w1 o none) (by simp)
theorem Fr.setCell (h : Fr ks w w1) {p : Addr} (hp : p.block ∈ ks ∨ w.heap.size ≤ p.block) (u : Value) : Fr ks w (w1.setCell p u) :=
  ⟨h.os, h.tape, h.output, by simpa [World.setCell] using h.size, fun i hi hn => (Below.heap_setCell w1 p u i (by
    rintro rfl
    rcases hp with hp | hp
    · exact hn hp
    · omega)).trans (h.block i hi hn)⟩
theorem Fr.mono (h : Fr ks w w1) (hk : ∀ i ∈ ks, i ∈ ks') : Fr ks' w w1 := ⟨h.os, h.tape, h.output, h.size, fun i hi hn => h.block i hi (fun hm => hn (hk i hm))⟩
theorem Fr.toBelow {B : Nat} (h : Fr ks w w1) (hB : B ≤ w.heap.size) (hk : ∀ i ∈ ks, B ≤ i) : Below B w w1 :=
  ⟨h.os, h.tape, h.output, h.size, fun i hi => h.block i (by omega) (fun hm => by have := hk i hm; omega)⟩
theorem Fr.blk {g : Nat} {t : TypeId} {cs : Array Value} (h : Fr ks w w1) (hb : Blk w g t cs) (hn : g ∉ ks) : Blk w1 g t cs := (h.block g hb.lt hn).trans hb
theorem Fr.cell {p : Addr} {v : Value} (h : Fr ks w w1) (hc : w.cell? p = some v) (hn : p.block ∉ ks) : w1.cell? p = some v :=
  (World.cell?_of_block (h.block p.block (World.block_lt_of_cell? w p hc) hn)).trans hc
end
end Go.Proofs.Ytaedfieilfmfhaa
