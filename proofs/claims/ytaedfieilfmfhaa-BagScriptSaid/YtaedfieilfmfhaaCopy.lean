/- slices.Clone of a ring; Copy: every bag of ints: a new bag that has the same. -/
import Derived.Test.YtaedfieilfmfhaaOwnI
namespace Go.Proofs.Ytaedfieilfmfhaa
open Go.RowKit

theorem wpList_append_new {P : Program} (w : World) {ops : Array Oper} {rest : List Oper} {o : Oper} {a : Act} {Q : Exit → Act → World → Prop} (hgd : o.guard = none) (s x : Operand) (t : TypeId)
    (ho : o.op = .call { callee := .builtin .append, args := #[s, x], argTypes := #[t, t] })
    (e : TypeId) (i : TypeInfo) (z : Value) (bytes : Nat) (ht : P.underlying t = some (.slice e)) (hi : P.info? e = some i) (hz : i.zero = some z) (hsize : i.size = 1) (hby : i.bytes = bytes) (hzs : z.cells = #[z])
    (b : Addr) (hs : a.eval s = .slice (some b) 0 0) (ad : Addr) (m c : Nat) (news : List Value) (hx : a.eval x = .slice (some ad) m c) (hm : 0 < m) (hl : news.length = m) (hnews : ∀ j u, news[j]? = some u → w.cell? (ad.add j) = some u)
    (h63 : m ≤ maxLen) (hbytes : m * bytes ≤ 140737488355328)
    (h : ∀ (cap : Nat) (cs : Array Value), cs.size = cap → m ≤ cap → cap ≤ maxLen → (∀ (j : Nat) (u : Value), news[j]? = some u → cs[j]? = some u) → wpList P ops Q rest (a.put o.dst (.slice (some ⟨w.heap.size, 0, none⟩) m cap)) (w.drew.alloc (.cells cs e))) :
    wpList P ops Q (o :: rest) a w :=
  wpList_plain hgd fun _ hK => by
    have hr := run_append_grow (P := P) w t o.type e i z ht hi hz b 0 0 [] (by simp) (by simp) ad m c news (by rw [hsize]; omega) hnews (by omega) (by simp only [maxLen] at h63; omega) (by rw [hby]; exact growslice_fits (by omega) (by simpa using hbytes))
    simp only [Nat.zero_add] at hr
    unfold Oper.wp execOp
    simp only [ho, resolve, invoke, builtin, Sem.run_bind, Sem.run_pure, Result.andThen_ok, List.map_toArray, List.map_cons, List.map_nil, hs, hx, hr]
    have hge := grownCap_ge w m 0 e
    refine hK _ _ (h _ _ ?_ hge (grownCap_le_maxLen w m 0 e h63) ?_)
    · rw [hzs]
      simp only [Array.size_append, List.size_toArray, size_zeroCells, List.length_nil, hl, List.size_toArray, List.length_cons]
      omega
    · intro j u hu
      have hj := (List.getElem?_eq_some_iff.1 hu).1
      simp only [Array.empty_append]
      rw [Array.getElem?_append_left (by simpa using hj)]
      simpa using hu

set_option maxHeartbeats 1000000 in
theorem clone_row (g n cap : Nat) (cur : Array Value) (w : World) (hb : Blk w g 3 cur) (hcs : cur.size = cap) (hnc : n ≤ cap) (hn0 : 0 < n) (hn : n ≤ 4001) :
    Calls Try.prog 35 #[.slice (some ⟨g, 0, none⟩) n cap] w fun e w' => ∃ (g' cap' : Nat) (cur' : Array Value), e = .returned (.slice (some ⟨g', 0, none⟩) n cap') ∧ w.heap.size ≤ g' ∧ Blk w' g' 3 cur' ∧ cur'.size = cap' ∧ n ≤ cap' ∧ cap' ≤ maxLen ∧ (∀ j u, j < n → cur[j]? = some u → cur'[j]? = some u) ∧ Below w.heap.size w w' := by
  obtain ⟨i0, hi, hz0, hz1, hz2⟩ := info_parts infoEI
  have hgl := hb.lt
  have hnews : ∀ j u, (cur.toList.take n)[j]? = some u → (w.alloc (.cells #[] 3)).cell? ((⟨g, 0, none⟩ : Addr).add j) = some u := by
    intro j u hu
    rw [Addr.add_lit, Nat.zero_add, (hb.alloc _).cell]
    rw [List.getElem?_take] at hu
    split at hu
    · simpa using hu
    · cases hu
  have hlen : (cur.toList.take n).length = n := by simp; omega
  have HN := Lib.hid hnews
  have HL := Lib.hid hlen
  clear hnews hlen hb
  have he := fun w => Lib.run_eql_slice_nil (P := Try.prog) w 51 3 (some ⟨g, 0, none⟩) n cap 0 0 Try.underlying51
  go_enter Try.func35, Try.ntmps35
  go_wp2_with (at_builtin; refine wpList_append_new _ rfl _ _ 51 rfl 3 i0 (.int .i64 0) 8 Try.underlying51 hi hz0 hz1 hz2 rfl _ rfl ⟨g, 0, none⟩ n cap (cur.toList.take n) rfl hn0 HL.out HN.out (by simp only [maxLen]; omega) (by omega) ?_; intro cap' cs hcs' hmc hcm hcc)
  go_ret
  refine ⟨_, cap', cs, rfl, by simp, (by have h := Blk.new (w.alloc (.cells #[] 3)) 3 cs; rw [World.size_alloc] at h; exact h), hcs', hmc, hcm, fun j u hj hu => hcc j u ?_, ((((Below.refl _ _).alloc (Nat.le_refl _) _).alloc (by simp) _).drew)⟩
  rw [List.getElem?_take, if_pos hj]
  simpa using hu

theorem clone_none (w : World) : Calls Try.prog 35 #[.slice none 0 0] w fun e w' => e = .returned (.slice none 0 0) ∧ w = w' := by
  have he := fun w => Lib.run_eql_slice_nil (P := Try.prog) w 51 3 none 0 0 0 0 Try.underlying51
  go_enter Try.func35, Try.ntmps35
  go_wp2
  go_ret
  exact ⟨rfl, rfl⟩

/-- behind a Copy: a bag in new blocks -/
def Copied (w : World) (xs : List Int) (room : Nat) (w' : World) : Prop := ∃ r, BagI w' w.heap.size r xs room ∧ (∀ k, r = some k → w.heap.size ≤ k) ∧ Below w.heap.size w w'

set_option maxHeartbeats 1000000 in
theorem copy_any (b : Nat) (r : Option Nat) (xs : List Int) (room : Nat) (w : World) (hB : BagI w b r xs room) :
    Calls Try.prog 18 #[.pointer (some ⟨b, 0, none⟩)] w fun e w' => e = .returned (.pointer (some ⟨w.heap.size, 0, none⟩)) ∧ Copied w xs room w' := by
  obtain ⟨ring, first, hh, hr, h1, h2⟩ := id hB
  have hbl := hB.lt.1
  rcases hr with ⟨rfl, rfl, rfl, rfl⟩ | ⟨g, n, cap, cur, rfl, rfl, hg, hcs, hnc, hcm, hn, hf, hl, hx⟩
  · have c0 := hh.c0
    have c1 := hh.c1
    have c2 := hh.c2
    have c3 := hh.c3
    have c4 := hh.c4
    have HH := Lib.hid hh
    clear hh hB
    go_enter Try.func18, Try.ntmps18
    go_wp2_with (first | (go_at_call 34; refine (none_I _ _ _ _ _ _ HH.out).mono ?_; rintro e w' ⟨rfl, rfl⟩) | (go_at_call 35; refine (clone_none _).mono ?_; rintro e w' ⟨rfl, rfl⟩))
    go_ret
    refine ⟨rfl, none, ⟨.slice none 0 0, 0, Blk.new _ _ _, .inl ⟨rfl, rfl, rfl, rfl⟩, h1, h2⟩, by simp, (Below.refl _ _).alloc (Nat.le_refl _) _⟩
  · have c0 := hh.c0
    have c1 := hh.c1
    have c2 := hh.c2
    have c3 := hh.c3
    have c4 := hh.c4
    have HH := Lib.hid hh
    have HG := Lib.hid hg
    have HX := Lib.hid hx
    have hgl := hg.lt
    clear hh hB hg hx
    go_enter Try.func18, Try.ntmps18
    go_wp2_with (first | (go_at_call 34; refine (none_I _ _ _ _ _ _ HH.out).mono ?_; rintro e w' ⟨rfl, rfl⟩) | fail)
    refine (clone_row g n cap cur _ (HG.out.alloc _) hcs hnc (by omega) hn).mono ?_
    rintro e w1 ⟨g', cap', cur', rfl, hg', hb', hcs', hnc', hcm', hcell', hbel⟩
    have hH1 : HeadI w1 w.heap.size (.slice (some ⟨g, 0, none⟩) n cap) first xs.length room := (hbel.block w.heap.size (by simp)).trans (Blk.new w 67 _)
    have d0 := hH1.c0
    have f0 := Blk.frozen hH1 0
    have H1 := Lib.hid hH1
    have B1 := Lib.hid hb'
    have C1 := Lib.hid hcell'
    have L1 := Lib.hid hbel
    have hgs : w.heap.size + 1 ≤ g' := by simpa using hg'
    clear hH1 hb' hcell' hbel hg'
    go_wp2_with fail
    go_ret
    have hne : g' ≠ w.heap.size := by omega
    refine ⟨rfl, some g', ⟨.slice (some ⟨g', 0, none⟩) n cap', first, Blk.set_ H1.out 0 _, .inr ⟨g', n, cap', cur', rfl, rfl, B1.out.far (p := ⟨w.heap.size, 0, none⟩) hne _, hcs', hnc', hcm', hn, hf, hl, ?_⟩, h1, h2⟩, ?_, ?_⟩
    · intro i x hi
      exact C1.out _ _ (Nat.mod_lt _ (by omega)) (HX.out i x hi)
    · intro k hk; cases hk; omega
    · refine (((Below.refl _ w).alloc (Nat.le_refl _) _).trans (L1.out.mono (by simp))).setCell (p := ⟨w.heap.size, 0, none⟩) (Nat.le_refl _) _
end Go.Proofs.Ytaedfieilfmfhaa
