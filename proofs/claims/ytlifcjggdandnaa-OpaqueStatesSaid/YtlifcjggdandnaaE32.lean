/- Slices that are read, wherever they lie. -/
import Derived.Test.YtlifcjggdandnaaE31
import Derived.IntWalk
namespace Go.Ideal
section
variable {w0 : World} {h h' : Heap}

def bAddr : Value → Addr
  | .slice (some a) _ _ => a
  | _ => ⟨0, 0, none⟩
def sAt (v : Value) (k i : Nat) : Addr := ush (bAddr v) (i * k)

/-- A slice's elements, each of k cells, as they read. -/
def Sl (w0 : World) (h : Heap) (v : Value) (k : Nat) (rows : List (List Value)) : Prop :=
  (v = .slice none 0 0 ∧ rows = []) ∨ ∃ a c, v = .slice (some a) rows.length c ∧ ∀ i r, rows[i]? = some r → r.length = k ∧ rdN w0 h (ush a (i * k)) k = some r

theorem rdBase_get : ∀ (n : Nat) (a : Addr) (l : List Value), rdBase w0 a n = some l → l.length = n ∧ ∀ j, j < n → (w0.cell? (ush a j)).bind (impV w0.heap.size) = l[j]?
  | 0, a, l, hr => by simp [rdBase] at hr; subst hr; exact ⟨rfl, fun j hj => by omega⟩
  | n + 1, a, l, hr => by
    simp only [rdBase] at hr
    obtain ⟨v, hv, hr⟩ := Option.bind_eq_some_iff.1 hr
    obtain ⟨l', hl', rfl⟩ := Option.map_eq_some_iff.1 hr
    obtain ⟨h1, h2⟩ := rdBase_get n _ _ hl'
    refine ⟨by simp [h1], fun j hj => ?_⟩
    cases j with
    | zero => simpa using hv
    | succ j => rw [List.getElem?_cons_succ, ← h2 j (by omega), ush_ush, Nat.add_comm 1 j]

theorem rd_of_rdN {a : Addr} {k : Nat} {r : List Value} (hr : rdN w0 h a k = some r) : r.length = k ∧ ∀ j, j < k → rd w0 h (ush a j) = r[j]? := by
  unfold rdN at hr
  cases hs : a.spot with
  | none =>
    rw [hs] at hr
    obtain ⟨h1, h2⟩ := rdBase_get k a r hr
    exact ⟨h1, fun j hj => by simp only [rd, ush_spot, hs]; exact h2 j hj⟩
  | some g =>
    rw [hs] at hr
    simp only at hr
    split at hr
    · rename_i cs e g' hb
      split at hr
      · rename_i hg
        split at hr
        · rename_i hl
          cases hr
          refine ⟨by simp; omega, fun j hj => ?_⟩
          simp only [rd, ush_spot, hs, ush_block, hb, hg, if_true, ush_off]
          rw [List.getElem?_take, if_pos hj, List.getElem?_drop]
        · cases hr
      · cases hr
    · cases hr

theorem Sl.len {v : Value} {k : Nat} {rows : List (List Value)} (hs : Sl w0 h v k rows) : lenS v = some (.int .i64 rows.length) := by
  rcases hs with ⟨rfl, rfl⟩ | ⟨a, c, rfl, _⟩ <;> simp [lenS]

theorem Sl.ix {v : Value} {k : Nat} {rows : List (List Value)} (hs : Sl w0 h v k rows) {i : Nat} (hi : i < rows.length) {kd : IntKind} : ixS k v (.int kd (i : Int)) = some (.pointer (some (sAt v k i))) := by
  rcases hs with ⟨rfl, rfl⟩ | ⟨a, c, rfl, _⟩
  · simp at hi
  · simp [sAt, bAddr, hi]

theorem Sl.load {v : Value} {k : Nat} {rows : List (List Value)} (hs : Sl w0 h v k rows) {i : Nat} {r : List Value} (hi : rows[i]? = some r) : rdN w0 h (sAt v k i) k = some r := by
  rcases hs with ⟨rfl, rfl⟩ | ⟨a, c, rfl, hr⟩
  · simp at hi
  · exact (hr i r hi).2

theorem Sl.cell {v : Value} {k : Nat} {rows : List (List Value)} (hs : Sl w0 h v k rows) {i : Nat} {r : List Value} (hi : rows[i]? = some r) {j : Nat} {x : Value} (hj : r[j]? = some x) : rd w0 h (ush (sAt v k i) j) = some x := by
  rw [← hj]
  have hl := hs.load hi
  obtain ⟨h1, h2⟩ := rd_of_rdN hl
  exact h2 j (by rw [← h1]; exact (List.getElem?_eq_some_iff.1 hj).1)

theorem Sl.cell0 {v : Value} {k : Nat} {rows : List (List Value)} (hs : Sl w0 h v k rows) {i : Nat} {r : List Value} (hi : rows[i]? = some r) {x : Value} (hj : r[0]? = some x) : rd w0 h (sAt v k i) = some x := hs.cell hi hj

/-- What lies in the first world reads the same in any heap. -/
theorem Sl.base {v : Value} {k : Nat} {rows : List (List Value)} (hs : Sl w0 h v k rows) (hb : (bAddr v).spot = none) : Sl w0 h' v k rows := by
  rcases hs with ⟨rfl, rfl⟩ | ⟨a, c, rfl, hr⟩
  · exact .inl ⟨rfl, rfl⟩
  · refine .inr ⟨a, c, rfl, fun i r hi => ⟨(hr i r hi).1, ?_⟩⟩
    have := (hr i r hi).2
    simp only [bAddr] at hb
    unfold rdN at this ⊢
    simpa [hb] using this

theorem rdN_fr {S : List Nat} (f : Fr S h h') {a : Addr} (hb : a.spot = none ∨ a.block ∉ S) {k : Nat} {r : List Value} (hr : rdN w0 h a k = some r) : rdN w0 h' a k = some r := by
  unfold rdN at hr ⊢
  cases hs : a.spot with
  | none => simpa [hs] using hr
  | some g =>
    rw [hs] at hr
    simp only at hr ⊢
    cases hb' : h[a.block]? with
    | none => simp [hb'] at hr
    | some o =>
      rw [hb'] at hr
      rw [f.same a.block o (by rcases hb with hb | hb; · rw [hs] at hb; cases hb
                               · exact hb) hb']
      exact hr

theorem Sl.fr {S : List Nat} (f : Fr S h h') {v : Value} (hb : (bAddr v).spot = none ∨ (bAddr v).block ∉ S) {k : Nat} {rows : List (List Value)} (hs : Sl w0 h v k rows) : Sl w0 h' v k rows := by
  rcases hs with ⟨rfl, rfl⟩ | ⟨a, c, rfl, hr⟩
  · exact .inl ⟨rfl, rfl⟩
  · exact .inr ⟨a, c, rfl, fun i r hi => ⟨(hr i r hi).1, rdN_fr f (by simpa [bAddr] using hb) (hr i r hi).2⟩⟩

theorem rdBase_add : ∀ (m k : Nat) (a : Addr) (l1 l2 : List Value), rdBase w0 a m = some l1 → rdBase w0 (ush a m) k = some l2 → rdBase w0 a (m + k) = some (l1 ++ l2)
  | 0, k, a, l1, l2, h1, h2 => by simp [rdBase] at h1; subst h1; simpa using h2
  | m + 1, k, a, l1, l2, h1, h2 => by
    simp only [rdBase] at h1
    obtain ⟨v, hv, h1⟩ := Option.bind_eq_some_iff.1 h1
    obtain ⟨l, hl, rfl⟩ := Option.map_eq_some_iff.1 h1
    have := rdBase_add m k (ush a 1) l l2 hl (by rw [ush_ush, Nat.add_comm 1 m]; exact h2)
    rw [show m + 1 + k = (m + k) + 1 by omega]
    simp [rdBase, hv, this]

theorem rdN_add {m k : Nat} {a : Addr} {l1 l2 : List Value} (h1 : rdN w0 h a m = some l1) (h2 : rdN w0 h (ush a m) k = some l2) : rdN w0 h a (m + k) = some (l1 ++ l2) := by
  obtain ⟨b, o, s⟩ := a
  cases s with
  | none => exact rdBase_add m k _ l1 l2 h1 h2
  | some g =>
    rw [ush_mk] at h2
    simp only [rdN] at h1 h2 ⊢
    split at h1
    · rename_i cs e g' hb
      rw [hb] at h2
      simp only at h2 ⊢
      by_cases hg : g = g'
      · rw [if_pos hg] at h1 h2 ⊢
        by_cases hl1 : o + m ≤ cs.length
        · rw [if_pos hl1] at h1
          cases h1
          by_cases hl : o + m + k ≤ cs.length
          · rw [if_pos hl] at h2
            cases h2
            rw [if_pos (by omega), ← List.drop_drop, List.take_add]
          · rw [if_neg hl] at h2; cases h2
        · rw [if_neg hl1] at h1; cases h1
      · rw [if_neg hg] at h1; cases h1
    · cases h1

theorem Sl.all {v : Value} {k : Nat} {rows : List (List Value)} (hs : Sl w0 h v k rows) : rows = [] ∨ rdN w0 h (bAddr v) (rows.length * k) = some rows.flatten := by
  rcases hs with ⟨rfl, rfl⟩ | ⟨a, c, rfl, hr⟩
  · exact .inl rfl
  · have key : ∀ m, m + 1 ≤ rows.length → rdN w0 h a ((m + 1) * k) = some (rows.take (m + 1)).flatten := by
      intro m
      induction m with
      | zero =>
        intro hm
        have h1 := (hr 0 _ (List.getElem?_eq_getElem (by omega))).2
        have e : rows.take 1 = [rows[0]] := by cases rows with | nil => simp at hm | cons x xs => simp
        simpa [e] using h1
      | succ m ih =>
        intro hm
        have h1 := (hr (m + 1) _ (List.getElem?_eq_getElem (by omega))).2
        have := rdN_add (ih (by omega)) h1
        rw [show (m + 1 + 1) * k = (m + 1) * k + k by rw [Nat.succ_mul], this]
        rw [List.take_succ_eq_append_getElem (l := rows) (i := m + 1) (by omega), List.flatten_append, List.flatten_singleton]
    by_cases hn : rows.length = 0
    · exact .inl (List.length_eq_zero_iff.1 hn)
    · right
      have := key (rows.length - 1) (by omega)
      rw [show rows.length - 1 + 1 = rows.length by omega, List.take_of_length_le (Nat.le_refl _)] at this
      exact this

theorem Sl.is {v : Value} {k : Nat} {rows : List (List Value)} (hs : Sl w0 h v k rows) (hn : rows ≠ []) : ∃ a c, v = .slice (some a) rows.length c := by
  rcases hs with ⟨rfl, rfl⟩ | ⟨a, c, rfl, hr⟩
  · exact absurd rfl hn
  · exact ⟨a, c, rfl⟩

/-- A row of the ideal heap, whole, as a slice. -/
theorem Sl.row {b e g k c : Nat} {rows : List (List Value)} {rest : List Value} (hb : h[b]? = some (.row (rows.flatten ++ rest) e g)) (hk : ∀ r ∈ rows, r.length = k) : Sl w0 h (.slice (some ⟨b, 0, some g⟩) rows.length c) k rows := by
  refine .inr ⟨_, _, rfl, fun i r hi => ⟨hk r (List.mem_of_getElem? hi), ?_⟩⟩
  have hlen : ∀ (l : List (List Value)), (∀ r ∈ l, r.length = k) → l.flatten.length = l.length * k := by
    intro l
    induction l with
    | nil => intro _; simp
    | cons x xs ih => intro hx; rw [List.flatten_cons, List.length_append, ih fun r hr => hx r (List.mem_cons_of_mem _ hr), hx x (List.mem_cons_self ..), List.length_cons, Nat.succ_mul, Nat.add_comm]
  have hlt := (List.getElem?_eq_some_iff.1 hi).1
  have hsplit : rows = rows.take i ++ r :: rows.drop (i + 1) := by
    have h1 := List.take_append_drop i rows
    rw [List.drop_eq_getElem_cons hlt, (List.getElem?_eq_some_iff.1 hi).2] at h1
    exact h1.symm
  have hti : (rows.take i).flatten.length = i * k := by rw [hlen _ fun r hr => hk r (List.mem_of_mem_take hr), List.length_take]; congr 1; omega
  have hr := hk r (List.mem_of_getElem? hi)
  simp only [rdN, ush_mk, hb, if_true, Nat.zero_add]
  have e1 : (rows.flatten ++ rest).drop (i * k) = r ++ ((rows.drop (i + 1)).flatten ++ rest) := by
    conv => lhs; rw [hsplit]
    rw [List.flatten_append, List.append_assoc, List.drop_append_of_le_length (by omega), List.drop_of_length_le (by omega)]
    simp
  rw [e1, List.take_append_of_le_length (by omega), List.take_of_length_le (by omega), if_pos]
  have := congrArg List.length e1
  simp only [List.length_drop, List.length_append] at this ⊢
  have h3 := hlen rows hk
  have h4 := Nat.mul_le_mul_right k (show i + 1 ≤ rows.length from hlt)
  rw [Nat.succ_mul] at h4
  omega

theorem i64_nat {n : Nat} (h : n < 9223372036854775808) : IntKind.i64.wrap ((n : Int)) = n := IntWalk.i64_in _ ⟨by omega, by omega⟩
theorem i64_succ {n : Nat} (h : n < 9223372036854775807) : IntKind.i64.wrap ((n : Int) + 1) = ((n + 1 : Nat) : Int) := IntWalk.i64_in _ ⟨by omega, by omega⟩

end
end Go.Ideal
