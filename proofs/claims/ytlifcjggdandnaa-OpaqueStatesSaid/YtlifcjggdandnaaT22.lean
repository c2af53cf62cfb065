/- The input, read as data. -/
import Derived.Test.YtlifcjggdandnaaT1
import Derived.Test.YtlifcjggdandnaaE33
import Derived.KernelRfl
namespace Go.Proofs.Ytlifcjggdandnaa
open Go.Ideal
section
variable {H : Type} {enc : TypeId × Value → H} {W : World} {sp : Nat → Bool} {held : Bool}

theorem u3 : Try.prog.underlying 3 = some (.int .i64) := by kernel_rfl
theorem u4 : Try.prog.underlying 4 = some .bool := by kernel_rfl
theorem u22 : Try.prog.underlying 22 = some (.slice 3) := by kernel_rfl
theorem u23 : Try.prog.underlying 23 = some (.slice 53) := by kernel_rfl
theorem u51 : Try.prog.underlying 51 = some (.slice 55) := by kernel_rfl
theorem c3 : Try.prog.cellsOf 3 = 1 := by kernel_rfl
theorem c53 : Try.prog.cellsOf 53 = 8 := by kernel_rfl
theorem c55 : Try.prog.cellsOf 55 = 2 := by kernel_rfl
theorem b3 : Try.prog.bytesOf 3 = 8 := by kernel_rfl
theorem b53 : Try.prog.bytesOf 53 ≥ 8 := of_decide_eq_true (by kernel_rfl)
theorem b55 : Try.prog.bytesOf 55 ≥ 8 := of_decide_eq_true (by kernel_rfl)
theorem ch53 : chkOne Try.prog 53 [3, 3, 3, 3, 4, 4, 51, 51] = true := by kernel_rfl
theorem ch55 : chkOne Try.prog 55 [3, 3] = true := by kernel_rfl

theorem open_i {fuel : Nat} {v : Value} {y : DataW H × List MemPlace} (h : DataW.trod enc Try.prog W 0 sp held fuel 3 [v] = some y) : ∃ n, v = .int .i64 n := by
  obtain ⟨n, h1, _⟩ := DataW.trod_int u3 h
  simp at h1
  exact ⟨n, h1⟩
theorem open_b {fuel : Nat} {v : Value} {y : DataW H × List MemPlace} (h : DataW.trod enc Try.prog W 0 sp held fuel 4 [v] = some y) : ∃ b, v = .bool b := by
  obtain ⟨b, h1, _⟩ := DataW.trod_bool u4 h
  simp at h1
  exact ⟨b, h1⟩

theorem list_of_len2 {α : Type} {l : List α} (h : l.length = 2) : ∃ a b, l = [a, b] := by
  match l, h with
  | [a, b], _ => exact ⟨a, b, rfl⟩
theorem list_of_len8 {α : Type} {l : List α} (h : l.length = 8) : ∃ a b c d e f g i, l = [a, b, c, d, e, f, g, i] := by
  match l, h with
  | [a, b, c, d, e, f, g, i], _ => exact ⟨a, b, c, d, e, f, g, i, rfl⟩

theorem open_pair {fuel : Nat} {r0 : List Value} {y : DataW H × List MemPlace} (h : DataW.trod enc Try.prog W 0 sp held fuel 55 r0 = some y) : ∃ p : Int × Int, imps W.heap.size r0 = some (prow p) := by
  obtain ⟨fs, ys, _, _, _, hl, hy, hg⟩ := open_fields ch55 h
  obtain ⟨a, b, rfl⟩ := list_of_len2 hl
  obtain ⟨v0, z0, e0, _, n0, t0⟩ := hg 0 3 rfl
  obtain ⟨v1, z1, e1, _, n1, t1⟩ := hg 1 3 rfl
  simp at e0 e1
  subst e0 e1
  obtain ⟨x, rfl⟩ := open_i t0
  obtain ⟨x', rfl⟩ := open_i t1
  exact ⟨(x, x'), by simp [imps, impV, prow]⟩

/-- How long what was read is. -/
theorem light_len {t e : TypeId} (ht : Try.prog.underlying t = some (.slice e)) (hb : Try.prog.bytesOf e ≥ 8) {d : DataW H} {n : Nat} {ys : List (DataW H × List MemPlace)} (hl : Light Try.prog t d) (hd : (d = .nil ∧ ys = []) ∨ ∃ rest, d = .slice (ys.map (·.1)) rest) (hn : n = ys.length) : n ≤ 140737488351232 := by
  rcases hd with ⟨_, rfl⟩ | ⟨rest, rfl⟩
  · simp at hn; omega
  · have := (hl.slice ht).1
    simp only [List.length_map, reachBytes] at this
    have h2 : ys.length * 8 ≤ (ys.length + rest.length) * Try.prog.bytesOf e := Nat.mul_le_mul (by omega) hb
    omega

theorem open_pairs {fuel : Nat} {v : Value} {y : DataW H × List MemPlace} (h : DataW.trod enc Try.prog W 0 sp held fuel 51 [v] = some y) (hl : Light Try.prog 51 y.1) :
    ∃ (v' : Value) (ps : List (Int × Int)), impV W.heap.size v = some v' ∧ leaf v' = true ∧ ps.length ≤ 140737488351232 ∧ ∀ h, Sl W h v' 2 (ps.map prow) := by
  obtain ⟨v1, v', e1, hi, hf, rows0, ys, hd, hlen, hrow, hsl⟩ := open_base u51 c55 (by omega) h
  simp at e1
  subst e1
  have := list_choose (p := fun (r0 : List Value) (p : Int × Int) => imps W.heap.size r0 = some (prow p)) rows0 fun i r0 hr => by
    have hlt := (List.getElem?_eq_some_iff.1 hr).1
    obtain ⟨_, n, ht⟩ := hrow i r0 _ hr (List.getElem?_eq_getElem (by omega))
    exact open_pair ht
  obtain ⟨ps, hpl, hps⟩ := this
  refine ⟨v', ps, hi, hf, light_len u51 b55 hl hd (by omega), fun h => hsl _ (by simp [hpl]) (fun i r0 r h1 h2 => ?_) h⟩
  rw [List.getElem?_map] at h2
  obtain ⟨p, hp, rfl⟩ := Option.map_eq_some_iff.1 h2
  exact hps i r0 p h1 hp

theorem open_ints' {fuel : Nat} {v : Value} {y : DataW H × List MemPlace} (h : DataW.trod enc Try.prog W 0 sp held fuel 22 [v] = some y) (hl : Light Try.prog 22 y.1) :
    ∃ (v' : Value) (ps : List Int), impV W.heap.size v = some v' ∧ leaf v' = true ∧ ps.length ≤ 140737488351232 ∧ ∀ h, Sl W h v' 1 (ps.map irow1) := by
  obtain ⟨v1, v', e1, hi, hf, rows0, ys, hd, hlen, hrow, hsl⟩ := open_base u22 c3 (by omega) h
  simp at e1
  subst e1
  have := list_choose (p := fun (r0 : List Value) (p : Int) => imps W.heap.size r0 = some (irow1 p)) rows0 fun i r0 hr => by
    have hlt := (List.getElem?_eq_some_iff.1 hr).1
    obtain ⟨hl1, n, ht⟩ := hrow i r0 _ hr (List.getElem?_eq_getElem (by omega))
    match r0, hl1, ht with
    | [u], _, ht =>
      obtain ⟨x, rfl⟩ := open_i ht
      exact ⟨x, by simp [imps, impV, irow1]⟩
  obtain ⟨ps, hpl, hps⟩ := this
  refine ⟨v', ps, hi, hf, light_len u22 (by rw [b3]; omega) hl hd (by omega), fun h => hsl _ (by simp [hpl]) (fun i r0 r h1 h2 => ?_) h⟩
  simp at h2
  obtain ⟨p, hp, rfl⟩ := h2
  exact hps i r0 p h1 hp

theorem open_tx {fuel : Nat} {r0 : List Value} {y : DataW H × List MemPlace} (h : DataW.trod enc Try.prog W 0 sp held fuel 53 r0 = some y) (hl : Light Try.prog 53 y.1) : ∃ t : Tx, imps W.heap.size r0 = some t.cells ∧ TxOk W t ∧ t.rs.length ≤ 140737488351232 ∧ t.ws.length ≤ 140737488351232 := by
  obtain ⟨fs, ys, hu, hts, hy1, hlen, hy, hg⟩ := open_fields ch53 h
  have := list_of_len8 hlen
  obtain ⟨a0, a1, a2, a3, a4, a5, a6, a7, rfl⟩ := this
  obtain ⟨v0, z0, e0, _, n0, t0⟩ := hg 0 3 rfl
  obtain ⟨v1, z1, e1, _, n1, t1⟩ := hg 1 3 rfl
  obtain ⟨v2, z2, e2, _, n2, t2⟩ := hg 2 3 rfl
  obtain ⟨v3, z3, e3, _, n3, t3⟩ := hg 3 3 rfl
  obtain ⟨v4, z4, e4, _, n4, t4⟩ := hg 4 4 rfl
  obtain ⟨v5, z5, e5, _, n5, t5⟩ := hg 5 4 rfl
  obtain ⟨v6, z6, e6, y6, n6, t6⟩ := hg 6 51 rfl
  obtain ⟨v7, z7, e7, y7, n7, t7⟩ := hg 7 51 rfl
  simp at e0 e1 e2 e3 e4 e5 e6 e7
  subst e0 e1 e2 e3 e4 e5 e6 e7
  obtain ⟨x0, rfl⟩ := open_i t0
  obtain ⟨x1, rfl⟩ := open_i t1
  obtain ⟨x2, rfl⟩ := open_i t2
  obtain ⟨x3, rfl⟩ := open_i t3
  obtain ⟨x4, rfl⟩ := open_b t4
  obtain ⟨x5, rfl⟩ := open_b t5
  rw [hy1] at hl
  have l6 : Light Try.prog 51 z6.1 := hl.agg hu (j := 6) (by rw [hts]; rfl) (by simp [y6])
  have l7 : Light Try.prog 51 z7.1 := hl.agg hu (j := 7) (by rw [hts]; rfl) (by simp [y7])
  obtain ⟨w6, p6, i6, f6, b6, s6⟩ := open_pairs t6 l6
  obtain ⟨w7, p7, i7, f7, b7, s7⟩ := open_pairs t7 l7
  exact ⟨⟨x0, x1, x2, x3, x4, x5, w6, w7, p6, p7⟩, by simp only [imps, i6, i7]; simp [impV, Tx.cells], ⟨s6, s7, f6, f7⟩, b6, b7⟩

theorem open_in {f0 f1 : Nat} {v0 v1 : Value} {y0 y1 : DataW H × List MemPlace} (h0 : DataW.trod enc Try.prog W 0 sp held f0 22 [v0] = some y0) (h1 : DataW.trod enc Try.prog W 0 sp held f1 23 [v1] = some y1) (l0 : Light Try.prog 22 y0.1) (l1 : Light Try.prog 23 y1.1) :
    ∃ fv tv first txs, impV W.heap.size v0 = some fv ∧ impV W.heap.size v1 = some tv ∧ In W fv tv first txs := by
  obtain ⟨fv, first, i0, _, b0, s0⟩ := open_ints' h0 l0
  obtain ⟨v1', tv, e1, hi, hf, rows0, ys, hd, hlen, hrow, hsl⟩ := open_base u23 c53 (by omega) h1
  simp at e1
  subst e1
  have hmem : ∀ (i : Nat) (y : DataW H × List MemPlace), ys[i]? = some y → Light Try.prog 53 y.1 := by
    intro i y hy
    rcases hd with ⟨_, rfl⟩ | ⟨rest, hr⟩
    · simp at hy
    · rw [hr] at l1
      exact (l1.slice u23).2 _ (List.mem_map.2 ⟨y, List.mem_of_getElem? hy, rfl⟩)
  have := list_choose (p := fun (r0 : List Value) (t : Tx) => imps W.heap.size r0 = some t.cells ∧ TxOk W t ∧ t.rs.length ≤ 140737488351232 ∧ t.ws.length ≤ 140737488351232) rows0 fun i r0 hr => by
    have hlt := (List.getElem?_eq_some_iff.1 hr).1
    have hy : ys[i]? = some (ys[i]'(by omega)) := List.getElem?_eq_getElem (by omega)
    obtain ⟨_, n, ht⟩ := hrow i r0 _ hr hy
    exact open_tx ht (hmem i _ hy)
  obtain ⟨txs, htl, htx⟩ := this
  have hall : ∀ t ∈ txs, TxOk W t ∧ t.rs.length ≤ 140737488351232 ∧ t.ws.length ≤ 140737488351232 := by
    intro t ht
    obtain ⟨i, hi⟩ := List.getElem?_of_mem ht
    have hlt := (List.getElem?_eq_some_iff.1 hi).1
    exact (htx i _ t (List.getElem?_eq_getElem (by omega)) hi).2
  refine ⟨fv, tv, first, txs, i0, hi, s0, fun h => hsl _ (by simp [htl]) (fun i r0 r h1 h2 => ?_) h, fun t ht => (hall t ht).1, b0, light_len u23 b53 l1 hd (by omega), fun t ht => (hall t ht).2⟩
  simp at h2
  obtain ⟨t, ht, rfl⟩ := h2
  exact (htx i r0 t h1 ht).1
end
end Go.Proofs.Ytlifcjggdandnaa
