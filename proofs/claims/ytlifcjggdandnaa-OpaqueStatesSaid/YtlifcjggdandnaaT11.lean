/- The library's sorting: whole. -/
import Derived.Test.YtlifcjggdandnaaT10
namespace Go.Proofs.Ytlifcjggdandnaa
open Go.Ideal
variable {w0 : World} {hk : Hooks} {h : Heap}

/-- What a sorted range comes to. -/
def Ranged (b g : Nat) (X : List En) (p q : Nat) (h : Heap) (r : IRet) (h' : Heap) : Prop :=
  r = .ret (.tuple #[]) ∧ (∃ Y, At h' b g Y ∧ Out X Y p q ∧ Srt Y p q ∧ Filt X Y) ∧ Fr [b] h h'

theorem insertion_idx (H : SortHk hk) {b g n p q : Nat} {X : List En} (a : At h b g X) (hn : X.length = n) (hpq : p ≤ q) (hqn : q ≤ n) (hN : n ≤ 1000) :
    Ans Try.prog w0 hk 69 [dv b g n, .int .i64 (p : Nat), .int .i64 (q : Nat), cmpV] h (Ranged b g X p q h) := by
  obtain ⟨P, M, S, rfl, hP, hM⟩ := cut3 X hpq (hn ▸ hqn)
  refine (insertion_spec H.h69 H.h43 H.h44 H.h62 a hn hP (by omega) hN).mono ?_
  rintro r h' ⟨g1, ⟨C, c1, c2, c3, c4⟩, f⟩
  refine ⟨g1, ⟨_, c4, ?_, ?_, Filt.parts P S c3⟩, f⟩
  · have := Out.parts P M C S c1
    rwa [hP, show p + M.length = q by omega] at this
  · have := c2.srt (P := P) (S := S)
    rwa [hP, c1, show p + M.length = q by omega] at this

theorem sym_idx (H : SortHk hk) {b g n p m q : Nat} {X : List En} (a : At h b g X) (hn : X.length = n) (hpm : p < m) (hmq : m < q) (hqn : q ≤ n) (s1 : Srt X p m) (s2 : Srt X m q) (hN : n ≤ 1000) :
    Ans Try.prog w0 hk 70 [dv b g n, .int .i64 (p : Nat), .int .i64 (m : Nat), .int .i64 (q : Nat), cmpV] h (Ranged b g X p q h) := by
  obtain ⟨P, A, B, S, rfl, hP, hA, hB⟩ := cut4 X (Nat.le_of_lt hpm) (Nat.le_of_lt hmq) (hn ▸ hqn)
  have sA : Sorted A := by
    refine Srt.sorted (P := P) (S := B ++ S) ?_
    rw [hP, show p + A.length = m by omega]; simpa using s1
  have sB : Sorted B := by
    refine Srt.sorted (P := P ++ A) (S := S) ?_
    rw [show (P ++ A).length = m by simp; omega, show m + B.length = q by omega]; simpa using s2
  have := sym_ok (w0 := w0) H hN (A.length + B.length + 1) P A B S h a hn sA sB (by omega) (by omega) (by omega)
  rw [hP, show p + A.length = m by omega, show m + B.length = q by omega] at this
  refine this.mono ?_
  rintro r h' ⟨g1, ⟨C, c1, c2, c3, c4⟩, f⟩
  have e : P ++ A ++ B ++ S = P ++ (A ++ B) ++ S := by simp
  refine ⟨g1, ⟨_, c4, ?_, ?_, ?_⟩, f⟩
  · have := Out.parts P (A ++ B) C S (by simp; omega)
    rw [hP, show p + (A ++ B).length = q by simp; omega] at this
    rwa [e]
  · have := c2.srt (P := P) (S := S)
    rwa [hP, c1, show p + (A.length + B.length) = q by omega] at this
  · rw [e]; exact Filt.parts P S c3

theorem Srt.vac {X : List En} {a b : Nat} (h : X.length ≤ a) : Srt X a b := fun i j x y h1 h2 h3 hx hy => by
  have := (List.getElem?_eq_some_iff.1 hx).1; omega
theorem Srt.far {X : List En} {a b c : Nat} (hs : Srt X a b) (h : X.length ≤ b) : Srt X a c := fun i j x y h1 h2 h3 hx hy => by
  have := (List.getElem?_eq_some_iff.1 hy).1
  exact hs i j x y h1 h2 (by omega) hx hy

def Blks (X : List En) (s : Nat) : Prop := ∀ c, Srt X (c * s) ((c + 1) * s)

set_option maxHeartbeats 2000000 in
theorem stable_spec (H : SortHk hk) {b g n : Nat} {L : List En} (a : At h b g L) (hn : L.length = n) (hN : n ≤ 1000) :
    Ans Try.prog w0 hk 61 [dv b g n, .int .i64 (n : Nat), cmpV] h (fun r h' => r = .ret (.tuple #[]) ∧ (∃ Y, At h' b g Y ∧ Sorted Y ∧ Filt L Y) ∧ Fr [b] h h') := by
  refine Ans.run H.h61 cmp_61 (by simp) ?_
  simp only [code_61]
  simp
  refine wp_rounds (fun k ρ h' => ∃ (c0 : Nat) (X : List En), k = n - c0 * 20 ∧ ρ 0 = dv b g n ∧ ρ 1 = .int .i64 (n : Nat) ∧ ρ 2 = cmpV ∧ ρ 6 = .int .i64 20 ∧ ρ 7 = .int .i64 ((c0 * 20 : Nat) : Int) ∧ ρ 8 = .int .i64 ((c0 * 20 + 20 : Nat) : Int) ∧
      c0 * 20 ≤ n ∧ (∀ c, c < c0 → Srt X (c * 20) ((c + 1) * 20)) ∧ Filt L X ∧ At h' b g X ∧ Fr [b] h h') ?_ (k := n)
    ⟨0, L, by simp, by simp, by simp, by simp, by simp, by simp, by simp, by omega, fun c hc => by omega, Filt.refl _, a, Fr.refl _ _⟩
  rintro I hI k ρ h' ⟨c0, X, rfl, r0, r1, r2, r6, r7, r8, hc0, hblk, hfl, at', fr⟩
  have hXn : X.length = n := by rw [hfl.len, hn]
  by_cases hlt : c0 * 20 + 20 ≤ n
  · have e1 : ((c0 * 20 + 20 : Nat) : Int) ≤ n := by omega
    simp [r0, r1, r2, r6, r7, r8, e1, -Int.natCast_add, -Int.natCast_mul]
    refine (insertion_idx H at' hXn (by omega) hlt hN).mono ?_
    rintro r h2 ⟨rfl, ⟨Y, y1, y2, y3, y4⟩, f2⟩
    have i1 : IntKind.i64.wrap (((c0 * 20 + 20 : Nat) : Int) + 20) = (((c0 + 1) * 20 + 20 : Nat) : Int) := by rw [IntWalk.i64_in _ ⟨by omega, by omega⟩]; omega
    simp [r0, r1, r2, r6, r7, r8, i1, -Int.natCast_add, -Int.natCast_mul]
    subst hI
    refine ⟨n - (c0 + 1) * 20, by omega, c0 + 1, Y, rfl, by simp [r0], by simp [r1], by simp [r2], by simp [r6], by simp [show (c0 + 1) * 20 = c0 * 20 + 20 by omega], by simp, by omega, fun c hc => ?_, hfl.trans y4, y1, fr.trans f2⟩
    by_cases hcc : c < c0
    · exact (hblk c hcc).out y2 (by omega)
    · have : c = c0 := by omega
      subst this
      exact y3.mono (by omega) (by omega)
  · have e1 : ¬ ((c0 * 20 + 20 : Nat) : Int) ≤ n := by omega
    simp [r0, r1, r2, r6, r7, r8, e1, -Int.natCast_add, -Int.natCast_mul]
    refine (insertion_idx H at' hXn hc0 (Nat.le_refl _) hN).mono ?_
    rintro r h2 ⟨rfl, ⟨Y, y1, y2, y3, y4⟩, f2⟩
    have hYn : Y.length = n := by rw [y4.len, hXn]
    have hB : Blks Y 20 := fun c => by
      by_cases hcc : c < c0
      · exact (hblk c hcc).out y2 (by omega)
      · by_cases hce : c = c0
        · subst hce; exact (y3.far (by omega)).mono (by omega) (Nat.le_refl _)
        · exact Srt.vac (by omega)
    simp [r0, r1, r2, r6, r7, r8]
    refine wp_rounds (fun k ρ h' => ∃ (s : Nat) (X : List En), k = n - s ∧ 0 < s ∧ s ≤ 2000 ∧ ρ 0 = dv b g n ∧ ρ 1 = .int .i64 (n : Nat) ∧ ρ 2 = cmpV ∧ ρ 6 = .int .i64 (s : Nat) ∧ Blks X s ∧ Filt L X ∧ At h' b g X ∧ Fr [b] h h') ?_ (k := n - 20)
      ⟨20, Y, rfl, by omega, by omega, by simp [r0], by simp [r1], by simp [r2], by simp [r6], hB, hfl.trans y4, y1, fr.trans f2⟩
    clear hblk hfl at' fr y1 y2 y3 y4 hB hYn hXn r0 r1 r2 r6 r7 r8
    rintro J hJ k ρ h' ⟨s, X, rfl, hs0, hs1, r0, r1, r2, r6, hblk, hfl, at', fr⟩
    have hXn : X.length = n := by rw [hfl.len, hn]
    by_cases hsn : s < n
    · have i2 : IntKind.i64.wrap (2 * (s : Int)) = 2 * (s : Int) := IntWalk.i64_in _ ⟨by omega, by omega⟩
      simp [r0, r1, r2, r6, hsn]
      refine wp_rounds (fun k ρ h' => ∃ (c0 : Nat) (X : List En), k = n - c0 * (2 * s) ∧ ρ 0 = dv b g n ∧ ρ 1 = .int .i64 (n : Nat) ∧ ρ 2 = cmpV ∧ ρ 6 = .int .i64 (s : Nat) ∧ ρ 7 = .int .i64 ((c0 * (2 * s) : Nat) : Int) ∧ ρ 8 = .int .i64 ((c0 * (2 * s) + 2 * s : Nat) : Int) ∧
        c0 * (2 * s) ≤ n ∧ (∀ c, c < c0 → Srt X (c * (2 * s)) ((c + 1) * (2 * s))) ∧ (∀ c, 2 * c0 ≤ c → Srt X (c * s) ((c + 1) * s)) ∧ Filt L X ∧ At h' b g X ∧ Fr [b] h h') ?_ (k := n)
        ⟨0, X, by simp, by simp [r0], by simp [r1], by simp [r2], by simp [r6], by simp, by simp [i2], by omega, fun c hc => by omega, fun c _ => hblk c, hfl, at', fr⟩
      clear hblk hfl at' fr hXn r0 r1 r2 r6 i2
      rintro K hK k ρ h' ⟨c0, X, rfl, r0, r1, r2, r6, r7, r8, hc0, hblk, hblk2, hfl, at', fr⟩
      have hXn : X.length = n := by rw [hfl.len, hn]
      have ha : ∃ A : Nat, A = c0 * (2 * s) := ⟨_, rfl⟩
      obtain ⟨A, hA⟩ := ha
      have hA1 : (c0 + 1) * (2 * s) = A + 2 * s := by rw [Nat.succ_mul, hA]
      have hA2 : 2 * c0 * s = A := by rw [hA, Nat.mul_comm 2 c0, Nat.mul_assoc]
      have hA3 : (2 * c0 + 1) * s = A + s := by rw [Nat.succ_mul, hA2]
      have hA4 : (2 * c0 + 1 + 1) * s = A + s + s := by rw [Nat.succ_mul, hA3]
      rw [← hA] at r7 r8 hc0
      have sA : Srt X A (A + s) := by have := hblk2 (2 * c0) (Nat.le_refl _); rwa [hA2, hA3] at this
      have sB : Srt X (A + s) (A + s + s) := by have := hblk2 (2 * c0 + 1) (by omega); rwa [hA3, hA4] at this
      have iA : IntKind.i64.wrap ((A : Int) + s) = ((A + s : Nat) : Int) := IntWalk.i64_in _ ⟨by omega, by omega⟩
      by_cases hle : A + 2 * s ≤ n
      · have e1 : ((A + 2 * s : Nat) : Int) ≤ n := by omega
        simp [r0, r1, r2, r6, r7, r8, e1, iA, -Int.natCast_add, -Int.natCast_mul]
        refine (sym_idx H at' hXn (p := A) (m := A + s) (q := A + 2 * s) (by omega) (by omega) hle sA (by rw [show A + 2 * s = A + s + s by omega]; exact sB) hN).mono ?_
        rintro r h2 ⟨rfl, ⟨Y, y1, y2, y3, y4⟩, f2⟩
        have i2 : IntKind.i64.wrap (2 * (s : Int)) = ((2 * s : Nat) : Int) := by rw [IntWalk.i64_in _ ⟨by omega, by omega⟩]; omega
        have i3 : IntKind.i64.wrap (((A + 2 * s : Nat) : Int) + ((2 * s : Nat) : Int)) = ((A + 2 * s + 2 * s : Nat) : Int) := by rw [IntWalk.i64_in _ ⟨by omega, by omega⟩]; omega
        simp [r0, r1, r2, r6, r7, r8, i2, i3, -Int.natCast_add, -Int.natCast_mul]
        subst hK
        refine ⟨n - (c0 + 1) * (2 * s), by rw [hA1]; omega, c0 + 1, Y, rfl, by simp [r0], by simp [r1], by simp [r2], by simp [r6], by simp [hA1], by simp [hA1], by omega, fun c hc => ?_, fun c hc => ?_, hfl.trans y4, y1, fr.trans f2⟩
        · by_cases hcc : c < c0
          · refine (hblk c hcc).out y2 (.inl ?_)
            rw [hA]; exact Nat.mul_le_mul_right _ hcc
          · have : c = c0 := by omega
            subst this
            rw [← hA, hA1]; exact y3
        · refine (hblk2 c (by omega)).out y2 (.inr ?_)
          have := Nat.mul_le_mul_right s (show 2 * c0 + 1 + 1 ≤ c by omega)
          rw [hA4] at this
          omega
      · have e1 : ¬ ((A + 2 * s : Nat) : Int) ≤ n := by omega
        have i4 : IntKind.i64.wrap ((s : Int) * 2) = ((2 * s : Nat) : Int) := by rw [IntWalk.i64_in _ ⟨by omega, by omega⟩]; omega
        have nxt : ∀ (ρ : Nat → Value) (h4 : Heap) (Z : List En), At h4 b g Z → Filt L Z → Fr [b] h h4 → (∀ c, c < c0 → Srt Z (c * (2 * s)) ((c + 1) * (2 * s))) → Srt Z A (A + 2 * s) → ρ 0 = dv b g n → ρ 1 = .int .i64 (n : Nat) → ρ 2 = cmpV → ρ 6 = .int .i64 ((2 * s : Nat) : Int) → Again J (n - s) ρ h4 := by
          intro ρ h4 Z z1 z2 z3 z4 z5 t0 t1 t2 t6
          subst hJ
          refine ⟨n - 2 * s, by omega, 2 * s, Z, rfl, by omega, by omega, t0, t1, t2, t6, fun c => ?_, z2, z1, z3⟩
          by_cases hcc : c < c0
          · exact z4 c hcc
          · by_cases hce : c = c0
            · subst hce; rw [← hA, hA1]; exact z5
            · refine Srt.vac ?_
              have := Nat.mul_le_mul_right (2 * s) (show c0 + 1 ≤ c by omega)
              rw [hA1] at this
              have hZ : Z.length = n := by rw [z2.len, hn]
              omega
        by_cases hm : A + s < n
        · have e2 : ((A + s : Nat) : Int) < n := by omega
          simp [r0, r1, r2, r6, r7, r8, e1, e2, iA, -Int.natCast_add, -Int.natCast_mul]
          refine (sym_idx H at' hXn (p := A) (m := A + s) (q := n) (by omega) hm (Nat.le_refl _) sA (sB.mono (Nat.le_refl _) (by omega)) hN).mono ?_
          rintro r h2 ⟨rfl, ⟨Y, y1, y2, y3, y4⟩, f2⟩
          simp [r0, r1, r2, r6, r7, r8, i4, -Int.natCast_add, -Int.natCast_mul]
          refine nxt _ _ Y y1 (hfl.trans y4) (fr.trans f2) (fun c hc => (hblk c hc).out y2 (.inl ?_)) (y3.far (by rw [y4.len, hXn]; exact Nat.le_refl _)) (by simp [r0]) (by simp [r1]) (by simp [r2]) (by simp)
          rw [hA]; exact Nat.mul_le_mul_right _ hc
        · have e2 : ¬ ((A + s : Nat) : Int) < n := by omega
          simp [r0, r1, r2, r6, r7, r8, e1, e2, iA, i4, -Int.natCast_add, -Int.natCast_mul]
          exact nxt _ _ X at' hfl fr hblk (sA.far (by omega)) (by simp [r0]) (by simp [r1]) (by simp [r2]) (by simp)
    · simp [r0, r1, r2, r6, hsn]
      refine ⟨⟨X, at', ?_, hfl⟩, fr⟩
      have := (hblk 0).far (c := X.length) (by omega)
      rw [Nat.zero_mul] at this
      exact Srt.sorted (P := []) (S := []) (by simpa using this)

theorem sortStable_spec (hf : hk 42 = none) (H : SortHk hk) {b g n : Nat} {L : List En} (a : At h b g L) (hn : L.length = n) (hN : n ≤ 1000) :
    Ans Try.prog w0 hk 42 [dv b g n, cmpV] h (fun r h' => r = .ret (.tuple #[]) ∧ (∃ Y, At h' b g Y ∧ Sorted Y ∧ Filt L Y) ∧ Fr [b] h h') := by
  refine Ans.run hf cmp_42 (by simp) ?_
  simp only [code_42]
  have : lenS (dv b g n) = some (.int .i64 n) := rfl
  simp [this]
  refine (stable_spec H a hn hN).mono ?_
  rintro r h' ⟨rfl, g2⟩
  simp
  exact g2
end Go.Proofs.Ytlifcjggdandnaa
