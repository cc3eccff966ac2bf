/- What lies in a row's room behind its length: an owned row whose block is of one kind stays so when it is appended to. They speak of no program. -/
import Derived.Test.YtaedfieilfmfhaaAllI
namespace Go.Proofs.Ytaedfieilfmfhaa
open Go.RowKit Go.Shelf

/-- all that lies in the row's block is of the kind q -/
def RowQ (q : Value → Prop) (w : World) (e : TypeId) (v : Value) : Prop := ∀ g, v.ownBlock = some g → ∃ cs, Blk w g e cs ∧ ∀ u ∈ cs.toList, q u
theorem RowQ.kept {q : Value → Prop} {w w' : World} {e : TypeId} {v : Value} (h : RowQ q w e v) (hk : ∀ g cs, v.ownBlock = some g → Blk w g e cs → Blk w' g e cs) : RowQ q w' e v := fun g hg => by
  obtain ⟨cs, hb, hq⟩ := h g hg
  exact ⟨cs, hk g cs hg hb, hq⟩

section
variable {P : Program} (w : World)
theorem run_append_q (q : Value → Prop) (base : Nat) (t ty e : TypeId) (i : TypeInfo) (z : Value) (bytes : Nat) (ht : P.underlying t = some (.slice e)) (hi : P.info? e = some i) (hz : i.zero = some z)
    (hsize : i.size = 1) (hby : i.bytes = bytes) (hzs : z.cells = #[z]) (hqz : q z)
    (v : Value) (n : Nat) (xs : List Value) (hown : w.ownsRow base e 1 v n xs) (hq : RowQ q w e v)
    (a : Addr) (m c : Nat) (news : List Value) (hm : 0 < m) (hl : news.length = m) (hnews : ∀ j u, news[j]? = some u → w.cell? (a.add j) = some u) (h1 : ∀ u ∈ news, u.oneCell' = true) (hqn : ∀ u ∈ news, q u)
    (h63 : n + m ≤ maxLen) (hbytes : (n + m) * bytes ≤ 140737488355328) (hbase : base ≤ w.heap.size) :
    ∃ v' w', (Builtin.append_ #[t, t] ty #[v, .slice (some a) m c]).run P w = .ok v' w' ∧ w'.ownsRow base e 1 v' (n + m) (xs ++ news) ∧ w.grownBy w' v.ownBlock ∧ RowQ q w' e v' := by
  obtain ⟨v', w', hrun, h2, h3, _, _⟩ := run_append_own_at (P := P) w base t ty e i z 1 bytes ht hi hz hsize hby (by rw [hzs]; rfl) (by omega) v n xs hown a m c news (by omega) hnews h1 h63 hbytes hbase
  refine ⟨v', w', hrun, h2, h3, ?_⟩
  have hsmall : n + m ≤ 9223372036854775807 := by simp only [maxLen] at h63; omega
  have hz0 : ∀ k u, u ∈ (Builtin.zeroCells #[z] k).toList → q u := by
    intro k u hu
    have : Builtin.zeroCells #[z] k = (List.replicate k z).toArray := by
      apply Array.ext
      · simp [Builtin.zeroCells]
      · intro j h1 h2
        simp [Builtin.zeroCells, Nat.mod_one]
    rw [this] at hu
    rw [(List.mem_replicate.1 hu).2]; exact hqz
  rcases hown.2 with ⟨rfl, rfl⟩ | ⟨g, cap, cur, rfl, hbg, hg, hnc, hcm, hcs, htake⟩
  · have hr := run_append_nil (P := P) w t ty e i z ht hi hz a m c news (by rw [hsize]; omega) hnews hm (by omega) (by rw [hby]; have hb := hbytes; simp only [Nat.zero_add] at hb; omega)
    rw [hr] at hrun
    injection hrun with hv hw
    subst hv hw
    intro g hgg
    obtain rfl : w.heap.size = g := by simpa [Value.ownBlock] using hgg
    refine ⟨_, heap_alloc_new w.drew _, fun u hu => ?_⟩
    rw [hzs] at hu
    simp only [Array.toList_append, List.mem_append] at hu
    rcases hu with hu | hu
    · exact hqn u (by simpa using hu)
    · exact hz0 _ u hu
  · obtain ⟨cs, hb, hqc⟩ := hq g rfl
    have hce : cs = cur := by
      have := hb.symm.trans hg
      injection this with this
      injection this
    subst hce
    by_cases hroom : n + m ≤ cap
    · have hfit : n * i.size + news.length ≤ cs.size := by rw [hsize, hl, hcs]; omega
      have hr := run_append_room (P := P) w t ty e i ht hi g n cap cs hg a m c news (by rw [hsize]; omega) hnews h1 hroom hfit
      rw [hr] at hrun
      injection hrun with hv hw
      subst hv hw
      intro g' hgg
      obtain rfl : g = g' := by simpa [Value.ownBlock] using hgg
      refine ⟨_, setRow_heap w g cs _ e _ hg, fun u hu => ?_⟩
      simp only [List.mem_append] at hu
      rcases hu with (hu | hu) | hu
      · exact hqc u (List.mem_of_mem_take hu)
      · exact hqn u hu
      · exact hqc u (List.mem_of_mem_drop hu)
    · have holds : ∀ j u, xs[j]? = some u → w.cell? ((⟨g, 0, none⟩ : Addr).add j) = some u := hown.cells (g := g) rfl
      have hr := run_append_grow (P := P) w t ty e i z ht hi hz ⟨g, 0, none⟩ n cap xs (by rw [hsize]; exact hown.1) holds a m c news (by rw [hsize]; omega) hnews (by omega) (by omega) (by rw [hby]; exact growslice_fits (by omega) hbytes)
      rw [hr] at hrun
      injection hrun with hv hw
      subst hv hw
      intro g' hgg
      obtain rfl : w.heap.size = g' := by simpa [Value.ownBlock] using hgg
      refine ⟨_, heap_alloc_new w.drew _, fun u hu => ?_⟩
      rw [hzs] at hu
      simp only [Array.toList_append, List.mem_append] at hu
      rcases hu with (hu | hu) | hu
      · refine hqc u ?_
        have : xs = cs.toList.take (n * 1) := htake.symm
        rw [this] at hu
        exact List.mem_of_mem_take (by simpa using hu)
      · exact hqn u (by simpa using hu)
      · exact hz0 _ u hu
end

theorem wpListIn_append_q {F : Fence} {nF : Nat} {P : Program} (w : World) (q : Value → Prop) {ops : Array Oper} {rest : List Oper} {o : Oper} {a : Act} {Q : Exit → Act → World → Prop} (hgd : o.guard = none) (s x : Operand) (t : TypeId)
    (ho : o.op = .call { callee := .builtin .append, args := #[s, x], argTypes := #[t, t] })
    (base : Nat) (e : TypeId) (i : TypeInfo) (z : Value) (bytes : Nat) (ht : P.underlying t = some (.slice e)) (hi : P.info? e = some i) (hz : i.zero = some z)
    (hsize : i.size = 1) (hby : i.bytes = bytes) (hzs : z.cells = #[z]) (hqz : q z)
    (v : Value) (n : Nat) (xs : List Value) (hs : a.eval s = v) (hown : w.ownsRow base e 1 v n xs) (hq : RowQ q w e v)
    (ad : Addr) (m c : Nat) (news : List Value) (hx : a.eval x = .slice (some ad) m c) (hm : 0 < m) (hl : news.length = m) (hnews : ∀ j u, news[j]? = some u → w.cell? (ad.add j) = some u) (h1 : ∀ u ∈ news, u.oneCell' = true) (hqn : ∀ u ∈ news, q u)
    (h63 : n + m ≤ maxLen) (hbytes : (n + m) * bytes ≤ 140737488355328) (hbase : base ≤ w.heap.size)
    (h : ∀ v' w', w'.ownsRow base e 1 v' (n + m) (xs ++ news) → w.grownBy w' v.ownBlock → RowQ q w' e v' → wpListIn F nF P ops Q rest (a.put o.dst v') w') :
    wpListIn F nF P ops Q (o :: rest) a w := by
  refine wpListIn_plain hgd fun K hK => ?_
  obtain ⟨v', w', hr, h2, h3, h4⟩ := run_append_q (P := P) w q base t o.type e i z bytes ht hi hz hsize hby hzs hqz v n xs hown hq ad m c news hm hl hnews h1 hqn h63 hbytes hbase
  unfold Oper.wpIn
  refine ⟨by simp [Oper.about, ho, resolve, Target.leads, Sem.run_pure], ?_⟩
  rw [Oper.semAt_plain F _ _ (by rw [ho]; intro c hc'; cases hc')]
  simp [execOp, ho, resolve, invoke, builtin, hs, hx, hr, Result.andThen]
  exact hK _ _ (h v' w' h2 h3 h4)

theorem holdsRow_q {β : Type} (q : Value → Prop) (n₀ B : Nat) (t e : TypeId) (k : β → Nat) (f : β → List Value) : Own (fun s W => ∃ v, Boxed W B t v ∧ W.ownsRow n₀ e 1 v (k s) (f s) ∧ RowQ q W e v) := by
  rintro s X Y row ⟨v, hv, hr, hG⟩ hg hrow
  refine ⟨v, hv.kept hg (fun e' => ?_), hr.kept hg ?_, hG.kept fun g cs hgo hb => ?_⟩
  · obtain ⟨o, ho, hc⟩ := hrow B e'.symm
    rw [show X.heap[B]? = _ from hv] at ho; cases ho; cases hc
  · rcases hr.2 with ⟨rfl, _⟩ | ⟨g, cap, cur, rfl, _, hgb, _⟩
    · exact .inl rfl
    · refine .inr fun e' => ?_
      obtain ⟨o, ho, hc⟩ := hrow g (by simpa [Value.ownBlock] using e'.symm)
      rw [hgb] at ho; cases ho; cases hc
  · refine (hg.block g hb.lt (fun e' => ?_)).trans hb
    obtain ⟨o, ho, hc⟩ := hrow g e'.symm
    rw [show X.heap[g]? = _ from hb] at ho; cases ho; cases hc
end Go.Proofs.Ytaedfieilfmfhaa
