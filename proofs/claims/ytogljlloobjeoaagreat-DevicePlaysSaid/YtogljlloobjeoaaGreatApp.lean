/- append onto an own row, with what becomes of the old row. Nothing of the program stands here. -/
import Derived.Test.YtogljlloobjeoaaGreatBase
import Derived.Maps.AppendAt
import Derived.Deep.AppendLies
import Derived.OneCell
namespace Go.Proofs.YtogljlloobjeoaaGreat
open Go.RowKit

/-- Either the row has grown where it lies, or it lies anew and nothing that was there has turned. -/
theorem run_append_keep {P : Program} (w : World) (t ty : TypeId) (base : Nat) (e : TypeId) (i : TypeInfo) (z : Value) (size bytes : Nat) (ht : P.underlying t = some (.slice e)) (hi : P.info? e = some i) (hz : i.zero = some z)
    (hsize : i.size = size) (hby : i.bytes = bytes) (hzs : z.cells.size = size) (hsz : 0 < size)
    (v : Value) (n : Nat) (xs : List Value) (hown : w.ownsRow base e size v n xs)
    (ad : Addr) (m c : Nat) (news : List Value) (hl : news.length = m * size) (hnews : ∀ j u, news[j]? = some u → w.cell? (ad.add j) = some u) (h1 : ∀ u ∈ news, u.oneCell' = true)
    (hm : 0 < m) (h63 : n + m ≤ maxLen) (hbytes : (n + m) * bytes ≤ 140737488355328) (hbase : base ≤ w.heap.size) :
    ∃ g cap w', (Builtin.append_ #[t, t] ty #[v, .slice (some ad) m c]).run P w = .ok (.slice (some ⟨g, 0, none⟩) (n + m) cap) w' ∧
      w'.ownsRow base e size (.slice (some ⟨g, 0, none⟩) (n + m) cap) (n + m) (xs ++ news) ∧ w.grownBy w' v.ownBlock ∧ (v = .slice (some ⟨g, 0, none⟩) n cap ∨ (g = w.heap.size ∧ w.grownBy w' none)) ∧ g < w'.heap.size := by
  obtain ⟨g, cap, w', hr, h2, h3, h4, h5⟩ := run_append_lies (P := P) w t ty base e i z size bytes ht hi hz hsize hby hzs hsz v n xs hown ad m c news hl hnews h1 hm h63 hbytes hbase _ rfl
  refine ⟨g, cap, w', hr, h2, h3, ?_, h5⟩
  subst hsize
  have hsmall : n + m ≤ 9223372036854775807 := by simp only [maxLen] at h63; omega
  rcases hown.2 with ⟨rfl, rfl⟩ | ⟨g0, cap0, cur, rfl, hbg, hg, hnc, hcm, hcs, htake⟩
  · right
    rw [Nat.zero_add] at hr
    have hr2 := run_append_nil (P := P) w t ty e i z ht hi hz ad m c news hl hnews (by omega) (by omega) (by have hb := hbytes; rw [Nat.zero_add] at hb; rw [hby]; omega)
    rw [hr2] at hr
    injection hr with e1 e2
    injection e1 with e1
    injection e1 with e1
    injection e1 with e1
    subst e2
    exact ⟨e1.symm, rfl, rfl, rfl, by simp, fun k hk _ => Below.heap_alloc w.drew _ k hk⟩
  · by_cases hroom : n + m ≤ cap0
    · left
      have hfit : n * i.size + news.length ≤ cur.size := by rw [hl, hcs, ← Nat.add_mul]; exact Nat.mul_le_mul_right _ hroom
      have hr2 := run_append_room (P := P) w t ty e i ht hi g0 n cap0 cur hg ad m c news hl hnews h1 hroom hfit
      rw [hr2] at hr
      injection hr with e1 e2
      injection e1 with e1 _ e3
      rw [e1, e3]
    · right
      have holds : ∀ j u, xs[j]? = some u → w.cell? ((⟨g0, 0, none⟩ : Addr).add j) = some u := hown.cells (g := g0) rfl
      have hr2 := run_append_grow (P := P) w t ty e i z ht hi hz ⟨g0, 0, none⟩ n cap0 xs hown.1 holds ad m c news hl hnews (by omega) (by omega) (growslice_fits (by omega) (by rw [hby]; exact hbytes))
      rw [hr2] at hr
      injection hr with e1 e2
      injection e1 with e1
      injection e1 with e1
      injection e1 with e1
      subst e2
      exact ⟨e1.symm, rfl, rfl, rfl, by simp, fun k hk _ => Below.heap_alloc w.drew _ k hk⟩

theorem wp_append_keep {P : Program} {w : World} {o : Oper} {a : Act} {K : Act → World → Prop} {Q : Exit → Act → World → Prop} (s x : Operand) (t : TypeId)
    (ho : o.op = .call { callee := .builtin .append, args := #[s, x], argTypes := #[t, t] })
    (base : Nat) (e : TypeId) (i : TypeInfo) (z : Value) (size bytes : Nat) (ht : P.underlying t = some (.slice e)) (hi : P.info? e = some i) (hz : i.zero = some z)
    (hsize : i.size = size) (hby : i.bytes = bytes) (hzs : z.cells.size = size) (hsz : 0 < size)
    (v : Value) (n : Nat) (xs : List Value) (hs : a.eval s = v) (hown : w.ownsRow base e size v n xs)
    (ad : Addr) (m c : Nat) (news : List Value) (hx : a.eval x = .slice (some ad) m c) (hl : news.length = m * size) (hnews : ∀ j u, news[j]? = some u → w.cell? (ad.add j) = some u) (h1 : ∀ u ∈ news, u.oneCell' = true)
    (hm : 0 < m) (h63 : n + m ≤ maxLen) (hbytes : (n + m) * bytes ≤ 140737488355328) (hbase : base ≤ w.heap.size)
    (h : ∀ g cap w', w'.ownsRow base e size (.slice (some ⟨g, 0, none⟩) (n + m) cap) (n + m) (xs ++ news) → w.grownBy w' v.ownBlock → (v = .slice (some ⟨g, 0, none⟩) n cap ∨ (g = w.heap.size ∧ w.grownBy w' none)) → g < w'.heap.size → K (a.put o.dst (.slice (some ⟨g, 0, none⟩) (n + m) cap)) w') : o.wp P a w K Q := by
  obtain ⟨g, cap, w', hr, h2, h3, h4, h5⟩ := run_append_keep (P := P) w t o.type base e i z size bytes ht hi hz hsize hby hzs hsz v n xs hown ad m c news hl hnews h1 hm h63 hbytes hbase
  unfold Oper.wp execOp
  simp only [ho, resolve, invoke, builtin, Sem.run_bind, Sem.run_pure, Result.andThen_ok, List.map_toArray, List.map_cons, List.map_nil, hs, hx, hr]
  exact h g cap w' h2 h3 h4 h5

theorem step_append_keep {P : Program} (w : World) {ops : Array Oper} {o : Oper} {a : Act} {K : Act → World → Prop} {Q : Exit → Act → World → Prop} {E : Prop} (hgd : o.guard = none) (s x : Operand) (t : TypeId)
    (ho : o.op = .call { callee := .builtin .append, args := #[s, x], argTypes := #[t, t] })
    (base : Nat) (e : TypeId) (i : TypeInfo) (z : Value) (size bytes : Nat) (ht : P.underlying t = some (.slice e)) (hi : P.info? e = some i) (hz : i.zero = some z)
    (hsize : i.size = size) (hby : i.bytes = bytes) (hzs : z.cells.size = size) (hsz : 0 < size)
    (v : Value) (n : Nat) (xs : List Value) (hs : a.eval s = v) (hown : w.ownsRow base e size v n xs)
    (ad : Addr) (m c : Nat) (news : List Value) (hx : a.eval x = .slice (some ad) m c) (hl : news.length = m * size) (hnews : ∀ j u, news[j]? = some u → w.cell? (ad.add j) = some u) (h1 : ∀ u ∈ news, u.oneCell' = true)
    (hm : 0 < m) (h63 : n + m ≤ maxLen) (hbytes : (n + m) * bytes ≤ 140737488355328) (hbase : base ≤ w.heap.size)
    (h : ∀ g cap w', w'.ownsRow base e size (.slice (some ⟨g, 0, none⟩) (n + m) cap) (n + m) (xs ++ news) → w.grownBy w' v.ownBlock → (v = .slice (some ⟨g, 0, none⟩) n cap ∨ (g = w.heap.size ∧ w.grownBy w' none)) → g < w'.heap.size → K (a.put o.dst (.slice (some ⟨g, 0, none⟩) (n + m) cap)) w') :
    if Region.wanted o (yielded ops a.tmps) = true then Oper.wp P o a w K Q else E := by
  have hw : Region.wanted o (yielded ops a.tmps) = true := by simp [Region.wanted, hgd]
  rw [if_pos hw]
  exact wp_append_keep s x t ho base e i z size bytes ht hi hz hsize hby hzs hsz v n xs hs hown ad m c news hx hl hnews h1 hm h63 hbytes hbase h

/-- A call of a Go function at a step of a region that draws its order. -/
theorem step_call {P : Program} (w : World) {ops : Array Oper} {o : Oper} {a : Act} {K : Act → World → Prop} {Q : Exit → Act → World → Prop} {E : Prop} (hgd : o.guard = none) (g : Nat) (as : Array Operand) (ats : Array TypeId)
    (ho : o.op = .call { callee := .value (.func g), args := as, argTypes := ats }) (vl : List Value) (hvl : as.toList.map a.eval = vl) (he : ∀ vs w, (callFunc g vs).run P w = .ok (.enter g vs) w)
    (hc : Calls P g vl.toArray w fun e w' => ∃ v, e = .returned v ∧ K (a.put o.dst v) w') : if Region.wanted o (yielded ops a.tmps) = true then Oper.wp P o a w K Q else E := by
  have hw : Region.wanted o (yielded ops a.tmps) = true := by simp [Region.wanted, hgd]
  rw [if_pos hw]
  have hv : as.map a.eval = vl.toArray := by rw [← hvl]; apply Array.ext'; simp
  have hrun : (execOp a.eval o).run P w = .ok (.enter g vl.toArray) w := by
    simp [execOp, ho, resolve, Act.eval, invoke, Deferred.ofValue, hv, he]
  unfold Oper.wp
  rw [hrun, Oper.upon_enter]
  refine hc.mono ?_
  rintro e w' ⟨v, rfl, hK⟩
  exact hK

theorem ownsRow_fr {S : List Nat} {w w' : World} {base : Nat} {e : TypeId} {size : Nat} {v : Value} {n : Nat} {xs : List Value} (h : w.ownsRow base e size v n xs) (hf : Fr S w w') (hn : ∀ g, v.ownBlock = some g → g ∉ S) : w'.ownsRow base e size v n xs := by
  obtain ⟨hl, h2⟩ := h
  refine ⟨hl, ?_⟩
  rcases h2 with h2 | ⟨g, cap, cur, rfl, hb, hg, h3⟩
  · exact .inl h2
  · exact .inr ⟨g, cap, cur, rfl, hb, (hf.block g (Array.getElem?_eq_some_iff.1 hg).1 (hn g rfl)).trans hg, h3⟩

/-- What stands behind 'p.images = append(p.images, image)'. -/
theorem append_end {w W0 w2 w4 : World} {p g cap n base : Nat} {e T : TypeId} {v u x0 : Value} {xs ys : List Value} (hpl : p < w.heap.size) (hfr : Fr [] w W0) (hfr2 : Fr [] W0 w2) (hown : w.ownsRow base e 1 v n xs)
    (hsl : SlAt w2 (fun b => W0.heap.size ≤ b) u ys) (hgrow : (w2.alloc (.cells #[u] T)).grownBy w4 v.ownBlock)
    (hor : v = .slice (some ⟨g, 0, none⟩) n cap ∨ (g = (w2.alloc (.cells #[u] T)).heap.size ∧ (w2.alloc (.cells #[u] T)).grownBy w4 none)) (hg : ∀ g, v.ownBlock = some g → g ≠ p)
    (hc0 : w4.cell? ⟨p, 0, none⟩ = some x0) (hc1 : w4.cell? ⟨p, 1, none⟩ = some v) (hf : ∀ o, w4.frozen? ⟨p, o, none⟩ = false) (hown4 : w4.ownsRow base e 1 (.slice (some ⟨g, 0, none⟩) (n + 1) cap) (n + 1) (xs ++ [u]))
    (w5 : World) (h5 : w5 = w4.setCell ⟨p, 1, none⟩ (.slice (some ⟨g, 0, none⟩) (n + 1) cap)) :
    w5.cell? ⟨p, 0, none⟩ = some x0 ∧ w5.cell? ⟨p, 1, none⟩ = some (.slice (some ⟨g, 0, none⟩) (n + 1) cap) ∧ (∀ o, w5.frozen? ⟨p, o, none⟩ = false) ∧
      w5.ownsRow base e 1 (.slice (some ⟨g, 0, none⟩) (n + 1) cap) (n + 1) (xs ++ [u]) ∧ SlAt w5 (fun b => w.heap.size ≤ b ∧ b ≠ g) u ys ∧ Fr (p :: v.ownBlock.toList) w w5 ∧ (v = .slice (some ⟨g, 0, none⟩) n cap ∨ (w.heap.size ≤ g ∧ Fr [p] w w5)) := by
  subst h5
  have hs0 := hfr.size
  have hs2 := hfr2.size
  have hvl : ∀ k, v.ownBlock = some k → k < w.heap.size := fun k hk => (hown.lt k hk).2
  have hfw2 : Fr [] w w2 := hfr.then hfr2 (by simp)
  have hfwa : Fr [] w (w2.alloc (.cells #[u] T)) := hfw2.alloc _
  have hza : (w2.alloc (.cells #[u] T)).heap.size = w2.heap.size + 1 := by simp
  have hgp : g ≠ p := by
    rcases hor with rfl | ⟨h1, _⟩
    · exact hg g rfl
    · rw [h1, hza]; omega
  have hgb : ∀ b, w.heap.size ≤ b → b < w2.heap.size → b ≠ g := by
    intro b h1 h2
    rcases hor with rfl | ⟨h3, _⟩
    · have := hvl g rfl; omega
    · rw [h3, hza]; omega
  refine ⟨?_, ?_, fun o => (World.frozen?_setCell _ _ _ _).trans (hf o), ?_, ?_, ?_, ?_⟩
  · rw [World.cell?_setCell_other _ _ _ _ (addr_ne (by decide))]; exact hc0
  · exact World.cell?_setCell_same _ _ _ hc1
  · exact ownsRow_setCell_other hown4 (by simp [Value.ownBlock]; exact hgp) _
  · obtain ⟨a, c, rfl, hc, hx⟩ := hsl
    refine ⟨a, c, rfl, hc, fun h0 => ?_⟩
    obtain ⟨b, o, rfl, hb, hlt, hcell⟩ := hx h0
    have hb' : W0.heap.size ≤ b := hb
    have hbw : w.heap.size ≤ b := by omega
    refine ⟨b, o, rfl, ⟨hbw, hgb b hbw hlt⟩, ?_, fun j x hj => ?_⟩
    · have := hgrow.size
      rw [hza] at this
      have e : (w4.setCell ⟨p, 1, none⟩ (.slice (some ⟨g, 0, none⟩) (n + 1) cap)).heap.size = w4.heap.size := by simp [World.setCell]
      rw [e]; omega
    · rw [World.cell?_setCell_other _ _ _ _ (addr_ne_block (by omega))]
      rw [World.cell?_of_block (w := w2.alloc (.cells #[.slice (some ⟨b, o, none⟩) ys.length c] T)) (a := ⟨b, o + j, none⟩) (hgrow.block b (by rw [hza]; omega) (fun e => by have := hvl b e.symm; omega))]
      rw [World.cell?_alloc_lt _ _ _ (by exact hlt)]
      exact hcell j x hj
  · refine Fr.setCell ?_ (by simp) _
    refine Fr.grown (hfwa.weaken (by simp)) hgrow (fun k hk => .inl ?_)
    rw [hk]; simp
  · rcases hor with h1 | ⟨h1, h2⟩
    · exact .inl h1
    · refine .inr ⟨by rw [h1, hza]; omega, Fr.setCell ?_ (by simp) _⟩
      exact Fr.grown (hfwa.weaken (by simp)) h2 (fun k hk => by cases hk)

end Go.Proofs.YtogljlloobjeoaaGreat
