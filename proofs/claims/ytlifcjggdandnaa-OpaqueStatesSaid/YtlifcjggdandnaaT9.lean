/- The library's sorting: sorted parts are merged. -/
import Derived.Test.YtlifcjggdandnaaT8
namespace Go.Proofs.Ytlifcjggdandnaa
open Go.Ideal
variable {w0 : World} {hk : Hooks} {h : Heap}

structure SortHk (hk : Hooks) : Prop where
  h43 : hk 43 = none
  h44 : hk 44 = none
  h61 : hk 61 = none
  h62 : hk 62 = none
  h69 : hk 69 = none
  h70 : hk 70 = none
  h73 : hk 73 = none
  h74 : hk 74 = none

/-- What a merge comes to. -/
def Merged (b g : Nat) (P A B S : List En) (h : Heap) (r : IRet) (h' : Heap) : Prop :=
  r = .ret (.tuple #[]) ∧ (∃ C, C.length = A.length + B.length ∧ Sorted C ∧ Filt (A ++ B) C ∧ At h' b g (P ++ C ++ S)) ∧ Fr [b] h h'

def SymOk (w0 : World) (hk : Hooks) (b g n d : Nat) : Prop := ∀ (P A B S : List En) (h : Heap), At h b g (P ++ A ++ B ++ S) → (P ++ A ++ B ++ S).length = n → Sorted A → Sorted B → 0 < A.length → 0 < B.length → A.length + B.length < d →
  Ans Try.prog w0 hk 70 [dv b g n, .int .i64 (P.length : Nat), .int .i64 ((P.length + A.length : Nat) : Int), .int .i64 ((P.length + A.length + B.length : Nat) : Int), cmpV] h (Merged b g P A B S h)

/-- The parts that are exchanged, of which one may be empty. -/
theorem get_at {P A R : List En} {k : Nat} (hk : k < A.length) {i : Nat} (hi : i = P.length + k) : (P ++ A ++ R)[i]? = A[k]? := by
  subst hi
  rw [List.append_assoc, List.getElem?_append_right (by omega), Nat.add_sub_cancel_left, List.getElem?_append_left hk]

/-- The last part of a symmetric merge: two merges of what lies apart. -/
theorem sym_parts (H : SortHk hk) {b g n d : Nat} (ih : SymOk w0 hk b g n d) {P A1 A2 B1 B2 S : List En} (a : At h b g (P ++ A1 ++ B1 ++ A2 ++ B2 ++ S)) (hn : (P ++ A1 ++ B1 ++ A2 ++ B2 ++ S).length = n)
    (hA : Sorted (A1 ++ A2)) (hB : Sorted (B1 ++ B2)) (h1 : A1.length + B1.length < d) :
    ∃ C1, (C1.length = A1.length + B1.length ∧ Sorted C1 ∧ Filt (A1 ++ B1) C1) ∧ (A1 = [] ∨ B1 = [] → C1 = A1 ++ B1) ∧
      (0 < A1.length → 0 < B1.length → Ans Try.prog w0 hk 70 [dv b g n, .int .i64 (P.length : Nat), .int .i64 ((P.length + A1.length : Nat) : Int), .int .i64 ((P.length + A1.length + B1.length : Nat) : Int), cmpV] h
        (fun r h' => r = .ret (.tuple #[]) ∧ At h' b g (P ++ C1 ++ A2 ++ B2 ++ S) ∧ Fr [b] h h')) := by
  have sA := (List.pairwise_append.1 hA).1
  have sB := (List.pairwise_append.1 hB).1
  by_cases hA1 : A1 = []
  · subst hA1
    exact ⟨B1, ⟨by simp, sB, Filt.refl _⟩, fun _ => by simp, fun hh => by simp at hh⟩
  by_cases hB1 : B1 = []
  · subst hB1
    exact ⟨A1, ⟨by simp, sA, by simpa using Filt.refl A1⟩, fun _ => by simp, fun _ hh => by simp at hh⟩
  have l1 : 0 < A1.length := List.length_pos_iff.2 hA1
  have l2 : 0 < B1.length := List.length_pos_iff.2 hB1
  obtain ⟨r, h', he, hr, ⟨C, c1, c2, c3, c4⟩, hf⟩ := ih P A1 B1 (A2 ++ B2 ++ S) h (by simpa using a) (by simpa using hn) sA sB l1 l2 h1
  exact ⟨C, ⟨c1, c2, c3⟩, fun hh => by rcases hh with hh | hh <;> contradiction, fun _ _ => ⟨r, h', he, hr, by simpa using c4, hf⟩⟩


/-- The second merge, and the end. -/
theorem tail11 (H : SortHk hk) {b g n d : Nat} (ih : SymOk w0 hk b g n d) {P A2 B2 S : List En} {Ψ : IRet → Heap → Prop} {ρ : Nat → Value} {h3 : Heap} (a : At h3 b g (P ++ A2 ++ B2 ++ S)) (hn : (P ++ A2 ++ B2 ++ S).length = n) (hA : Sorted A2) (hB : Sorted B2) (hd : A2.length + B2.length < d) (hN : n ≤ 1000)
    {mid e q : Nat} (hm : P.length = mid) (he : mid + A2.length = e) (hq : e + B2.length = q) (r0 : ρ 0 = dv b g n) (r3 : ρ 3 = .int .i64 (q : Nat)) (r4 : ρ 4 = cmpV) (r18 : ρ 18 = .int .i64 (mid : Nat)) (r24 : ρ 24 = .int .i64 (e : Nat))
    (hΨ : ∀ C h', C.length = A2.length + B2.length → Sorted C → Filt (A2 ++ B2) C → At h' b g (P ++ C ++ S) → Fr [b] h3 h' → Ψ (.ret (.tuple #[])) h') : wp2 Try.prog w0 hk 220 tail_70_11 ρ h3 (retQ Try.prog w0 [] Ψ) := by
  obtain ⟨C, ⟨c1, c2, c3⟩, c4, c5⟩ := sym_parts (B1 := B2) (A1 := A2) (A2 := []) (B2 := []) (S := S) H ih (by simpa using a) (by simpa using hn) (by simpa using hA) (by simpa using hB) hd
  simp only [tail_70_11, tail_70_12]
  by_cases g1 : 0 < A2.length
  · by_cases g2 : 0 < B2.length
    · have e1 : mid < e := by omega
      have e2 : e < q := by omega
      simp [r0, r3, r4, r18, r24, e1, e2]
      have := c5 g1 g2
      rw [hm, he, hq] at this
      refine this.mono ?_
      rintro r h4 ⟨rfl, a4, f4⟩
      simp
      exact hΨ C h4 c1 c2 c3 (by simpa using a4) f4
    · have e1 : mid < e := by omega
      have e2 : ¬ e < q := by omega
      simp [r0, r3, r4, r18, r24, e1, e2]
      have hB0 : B2 = [] := List.length_eq_zero_iff.1 (by omega)
      have := c4 (.inr hB0)
      subst this
      exact hΨ _ h3 c1 c2 c3 (by simpa using a) (Fr.refl _ _)
  · have e1 : ¬ mid < e := by omega
    simp [r0, r3, r4, r18, r24, e1]
    have hA0 : A2 = [] := List.length_eq_zero_iff.1 (by omega)
    have := c4 (.inl hA0)
    subst this
    exact hΨ _ h3 c1 c2 c3 (by simpa using a) (Fr.refl _ _)

/-- Both merges. -/
theorem tail10 (H : SortHk hk) {b g n d : Nat} (ih : SymOk w0 hk b g n d) {P A1 A2 B1 B2 S : List En} {Ψ : IRet → Heap → Prop} {ρ : Nat → Value} {h3 : Heap} (a : At h3 b g (P ++ A1 ++ B1 ++ A2 ++ B2 ++ S)) (hn : (P ++ A1 ++ B1 ++ A2 ++ B2 ++ S).length = n)
    (hA : Sorted (A1 ++ A2)) (hB : Sorted (B1 ++ B2)) (hd1 : A1.length + B1.length < d) (hd2 : A2.length + B2.length < d) (hN : n ≤ 1000) (h1 : ∀ x ∈ A1, ∀ y ∈ B2, x.key ≤ y.key) (h2 : ∀ x ∈ A2, ∀ y ∈ B1, y.key < x.key)
    {p st mid e q : Nat} (hp : P.length = p) (hs : p + A1.length = st) (hm : st + B1.length = mid) (he : mid + A2.length = e) (hq : e + B2.length = q) (r0 : ρ 0 = dv b g n) (r1 : ρ 1 = .int .i64 (p : Nat)) (r3 : ρ 3 = .int .i64 (q : Nat)) (r4 : ρ 4 = cmpV) (r18 : ρ 18 = .int .i64 (mid : Nat)) (r20 : ρ 20 = .int .i64 (st : Nat)) (r24 : ρ 24 = .int .i64 (e : Nat))
    (hΨ : ∀ C h', C.length = A1.length + A2.length + (B1.length + B2.length) → Sorted C → Filt (A1 ++ A2 ++ (B1 ++ B2)) C → At h' b g (P ++ C ++ S) → Fr [b] h3 h' → Ψ (.ret (.tuple #[])) h') : wp2 Try.prog w0 hk 220 tail_70_10 ρ h3 (retQ Try.prog w0 [] Ψ) := by
  obtain ⟨C, ⟨c1, c2, c3⟩, c4, c5⟩ := sym_parts (S := S) H ih a hn hA hB hd1
  have nx : ∀ (ρ : Nat → Value) (h4 : Heap), At h4 b g (P ++ C ++ A2 ++ B2 ++ S) → Fr [b] h3 h4 → ρ 0 = dv b g n → ρ 3 = .int .i64 (q : Nat) → ρ 4 = cmpV → ρ 18 = .int .i64 (mid : Nat) → ρ 24 = .int .i64 (e : Nat) → wp2 Try.prog w0 hk 220 tail_70_11 ρ h4 (retQ Try.prog w0 [] Ψ) := by
    intro ρ h4 a4 f4 s0 s3 s4 s18 s24
    refine tail11 H ih (P := P ++ C) a4 (by simp at hn ⊢; omega) (List.pairwise_append.1 hA).2.1 (List.pairwise_append.1 hB).2.1 hd2 hN (by simp; omega) he hq s0 s3 s4 s18 s24 fun C2 h5 d1 d2 d3 d4 d5 => ?_
    obtain ⟨m1, m2⟩ := merge_core hA hB h1 h2 c2 c3 d2 d3
    exact hΨ (C ++ C2) h5 (by simp; omega) m1 m2 (by simpa using d4) (f4.trans d5)
  simp only [tail_70_10]
  by_cases g1 : 0 < A1.length
  · by_cases g2 : 0 < B1.length
    · have e1 : p < st := by omega
      have e2 : st < mid := by omega
      simp [r0, r1, r3, r4, r18, r20, r24, e1, e2]
      have := c5 g1 g2
      rw [hp, hs, hm] at this
      refine this.mono ?_
      rintro r h4 ⟨rfl, a4, f4⟩
      simp
      exact nx _ _ a4 f4 (by simp [r0]) (by simp [r3]) (by simp [r4]) (by simp [r18]) (by simp [r24])
    · have e1 : p < st := by omega
      have e2 : ¬ st < mid := by omega
      simp [r0, r1, r3, r4, r18, r20, r24, e1, e2]
      have := c4 (.inr (List.length_eq_zero_iff.1 (by omega)))
      subst this
      exact nx _ _ (by simpa using a) (Fr.refl _ _) (by simp [r0]) (by simp [r3]) (by simp [r4]) (by simp [r18]) (by simp [r24])
  · have e1 : ¬ p < st := by omega
    simp [r0, r1, r3, r4, r18, r20, r24, e1]
    have := c4 (.inl (List.length_eq_zero_iff.1 (by omega)))
    subst this
    exact nx _ _ (by simpa using a) (Fr.refl _ _) (by simp [r0]) (by simp [r3]) (by simp [r4]) (by simp [r18]) (by simp [r24])

/-- The turn, and both merges. -/
theorem tail8 (H : SortHk hk) {b g n d : Nat} (ih : SymOk w0 hk b g n d) {P A1 A2 B1 B2 S : List En} {Ψ : IRet → Heap → Prop} {ρ : Nat → Value} {h3 : Heap} (a : At h3 b g (P ++ A1 ++ A2 ++ B1 ++ B2 ++ S)) (hn : (P ++ A1 ++ A2 ++ B1 ++ B2 ++ S).length = n)
    (hA : Sorted (A1 ++ A2)) (hB : Sorted (B1 ++ B2)) (hd1 : A1.length + B1.length < d) (hd2 : A2.length + B2.length < d) (hN : n ≤ 1000) (h1 : ∀ x ∈ A1, ∀ y ∈ B2, x.key ≤ y.key) (h2 : ∀ x ∈ A2, ∀ y ∈ B1, y.key < x.key)
    {p st m mid e q nn : Nat} (hp : P.length = p) (hs : p + A1.length = st) (hm : st + A2.length = m) (hmid : st + B1.length = mid) (he : m + B1.length = e) (hq : e + B2.length = q) (hnn : nn = mid + m) (r0 : ρ 0 = dv b g n) (r1 : ρ 1 = .int .i64 (p : Nat)) (r2 : ρ 2 = .int .i64 (m : Nat)) (r3 : ρ 3 = .int .i64 (q : Nat)) (r4 : ρ 4 = cmpV) (r18 : ρ 18 = .int .i64 (mid : Nat))
    (r19 : ρ 19 = .int .i64 (nn : Nat)) (r20 : ρ 20 = .int .i64 (st : Nat))
    (hΨ : ∀ C h', C.length = A1.length + A2.length + (B1.length + B2.length) → Sorted C → Filt (A1 ++ A2 ++ (B1 ++ B2)) C → At h' b g (P ++ C ++ S) → Fr [b] h3 h' → Ψ (.ret (.tuple #[])) h') : wp2 Try.prog w0 hk 220 tail_70_8 ρ h3 (retQ Try.prog w0 [] Ψ) := by
  have hl : P.length + A1.length + A2.length + B1.length + B2.length + S.length = n := by simp at hn; omega
  have i1 : IntKind.i64.wrap ((nn : Int) - st) = (e : Int) := by rw [IntWalk.i64_in _ ⟨by omega, by omega⟩]; omega
  have nx : ∀ (ρ : Nat → Value) (h4 : Heap), At h4 b g (P ++ A1 ++ B1 ++ A2 ++ B2 ++ S) → Fr [b] h3 h4 → ρ 0 = dv b g n → ρ 1 = .int .i64 (p : Nat) → ρ 3 = .int .i64 (q : Nat) → ρ 4 = cmpV → ρ 18 = .int .i64 (mid : Nat) → ρ 20 = .int .i64 (st : Nat) → ρ 24 = .int .i64 (e : Nat) → wp2 Try.prog w0 hk 220 tail_70_10 ρ h4 (retQ Try.prog w0 [] Ψ) := by
    intro ρ h4 a4 f4 s0 s1 s3 s4 s18 s20 s24
    exact tail10 H ih a4 (by simp at hn ⊢; omega) hA hB hd1 hd2 hN h1 h2 hp hs hmid (by omega) hq s0 s1 s3 s4 s18 s20 s24 fun C h5 d1 d2 d3 d4 d5 => hΨ C h5 d1 d2 d3 d4 (f4.trans d5)
  simp only [tail_70_8, tail_70_9]
  by_cases g1 : 0 < A2.length
  · by_cases g2 : 0 < B1.length
    · have e1 : st < m := by omega
      have e2 : m < e := by omega
      simp [r0, r1, r2, r3, r4, r18, r19, r20, e1, e2, i1]
      refine (rotate_spec H.h73 H.h74 (P := P ++ A1) (U := A2) (W := B1) (S := B2 ++ S) (p := st) (m := m) (q := e) (by simpa using a) (by simpa using hn) (by simp; omega) hm he g1 g2 hN).mono ?_
      rintro r h4 ⟨rfl, a4, f4⟩
      simp
      exact nx _ _ (by simpa using a4) f4 (by simp [r0]) (by simp [r1]) (by simp [r3]) (by simp [r4]) (by simp [r18]) (by simp [r20]) (by simp)
    · have e1 : st < m := by omega
      have e2 : ¬ m < e := by omega
      simp [r0, r1, r2, r3, r4, r18, r19, r20, e1, e2, i1]
      have hB0 : B1 = [] := List.length_eq_zero_iff.1 (by omega)
      subst hB0
      exact nx _ _ (by simpa using a) (Fr.refl _ _) (by simp [r0]) (by simp [r1]) (by simp [r3]) (by simp [r4]) (by simp [r18]) (by simp [r20]) (by simp)
  · have e1 : ¬ st < m := by omega
    simp [r0, r1, r2, r3, r4, r18, r19, r20, e1, i1]
    have hA0 : A2 = [] := List.length_eq_zero_iff.1 (by omega)
    subst hA0
    exact nx _ _ (by simpa using a) (Fr.refl _ _) (by simp [r0]) (by simp [r1]) (by simp [r3]) (by simp [r4]) (by simp [r18]) (by simp [r20]) (by simp)

end Go.Proofs.Ytlifcjggdandnaa
