/- The words up to a stamp, and whether pairs stand in words. -/
import Derived.Test.YtlifcjggdandnaaT2
namespace Go.Proofs.Ytlifcjggdandnaa
open Go.Ideal
variable {w0 : World} {hk : Hooks} {h : Heap}

def applyPs (w : List Int) (ps : List (Int × Int)) : List Int := ps.foldl (fun w p => w.set p.1.toNat p.2) w
def applyAll (w : List Int) (l : List En) : List Int := l.foldl (fun w e => applyPs w e.ps) w
theorem applyPs_len (ps : List (Int × Int)) : ∀ w, (applyPs w ps).length = w.length := by
  induction ps with
  | nil => intro w; rfl
  | cons p ps ih => intro w; exact (ih _).trans (by simp)
theorem applyAll_len (l : List En) : ∀ w, (applyAll w l).length = w.length := by
  induction l with
  | nil => intro w; rfl
  | cons e l ih => intro w; exact (ih _).trans (applyPs_len _ _)

def standsB (w : List Int) (l : List (Int × Int)) : Bool := l.all fun p => decide (0 ≤ p.1) && (w[p.1.toNat]? == some p.2)

/-- Entries that lie in a heap. -/
structure EnsAt (w0 : World) (h : Heap) (lv : Value) (L : List En) : Prop where
  l : Sl w0 h lv 3 (L.map En.cells)
  p : ∀ e ∈ L, Sl w0 h e.pv 2 (e.ps.map prow)
  lf : ∀ e ∈ L, leaf e.pv = true
  n : L.length ≤ 1000
  np : ∀ e ∈ L, e.ps.length ≤ 1000

theorem ens_at {h : Heap} {lv : Value} {L : List En} (hs : Sl w0 h lv 3 (L.map En.cells)) {i : Nat} {e : En} (he : L[i]? = some e) :
    ixS 3 lv (.int .i64 (i : Nat)) = some (.pointer (some (sAt lv 3 i))) ∧ rdN w0 h (sAt lv 3 i) 3 = some e.cells := by
  have hr : (L.map En.cells)[i]? = some e.cells := by simp [he]
  exact ⟨hs.ix (by simpa using (List.getElem?_eq_some_iff.1 he).1), hs.load hr⟩

theorem upTo_spec (hf : hk 24 = none) (hf2 : hk 45 = none) {fv lv lf : Value} {first : List Int} {L : List En} {c : Int → Bool} {g : FuncId} {cap : List Value} (hs : Sl w0 h fv 1 (first.map irow1)) (hn : first ≠ []) (hl : first.length ≤ 1000)
    (hL : EnsAt w0 h lv L) (hps : ∀ e ∈ L, ∀ p ∈ e.ps, 0 ≤ p.1 ∧ p.1 < first.length) (hlet : LetOk w0 hk h lf c g cap) :
    Ans Try.prog w0 hk 24 [fv, lv, lf] h (fun r h' => r = .ret (.slice (some ⟨h.length + 1, 0, some 0⟩) first.length 0) ∧ h'[h.length + 1]? = some (.row (ints (applyAll first (L.takeWhile fun e => c e.stamp))) 3 0) ∧ Fr [] h h') := by
  refine Ans.run hf cmp_24 (by simp) ?_
  simp only [code_24]
  simp
  refine (clone_spec hf2 hs hn (by omega)).mono ?_
  rintro r h1 ⟨rfl, rfl⟩
  have l2 := hL.l.len
  simp [l2]
  refine wp_rounds (fun k ρ h' => ∃ i, i ≤ L.length ∧ k = L.length - i ∧ ρ 2 = lf ∧ ρ 7 = .slice (some ⟨h.length + 1, 0, some 0⟩) first.length 0 ∧ ρ 14 = lv ∧ ρ 15 = .int .i64 (L.length : Nat) ∧ ρ 16 = .int .i64 (i : Nat) ∧ (L.take i).takeWhile (fun e => c e.stamp) = L.take i ∧
    h'[h.length + 1]? = some (.row (ints (applyAll first (L.take i))) 3 0) ∧ Fr [] h h') ?_ (k := L.length) ⟨0, by simp, by simp, by simp, by simp, by simp, by simp, by simp, by simp, by simp [applyAll], Fr.append _ _ _⟩
  rintro I hI k ρ h' ⟨i, hi1, rfl, r2, r7, r14, r15, r16, hall, hw, fr⟩
  by_cases hlt : i < L.length
  · have he := List.getElem?_eq_getElem hlt
    generalize L[i] = e at he
    have hem := List.mem_of_getElem? he
    obtain ⟨e1, e2⟩ := ens_at (hL.l.fr fr (.inr (by simp))) he
    have lfe := hL.lf e hem
    have hnx : L.take (i + 1) = L.take i ++ [e] := by rw [List.take_add_one, he]; rfl
    have htw : L.takeWhile (fun e => c e.stamp) = L.take i ++ (L.drop i).takeWhile (fun e => c e.stamp) := by
      conv => lhs; rw [← List.take_append_drop i L]
      rw [List.takeWhile_append, if_pos (by rw [hall])]
    have hdr : L.drop i = e :: L.drop (i + 1) := by rw [List.drop_eq_getElem_cons hlt, (List.getElem?_eq_some_iff.1 he).2]
    simp [r2, r7, r14, r15, r16, hlt, e1, e2, En.cells, lfe, hlet.ic]
    refine (hlet.ans _ _ (fr.trans (Fr.append _ _ _))).mono ?_
    rintro r h2 ⟨rfl, rfl⟩
    cases hc : c e.stamp with
    | false =>
      simp [hc, r7]
      rw [htw, hdr]
      refine ⟨by rw [List.getElem?_append_left (lt_of_get hw)]; simpa [hc] using hw, fr.trans (Fr.append _ _ _)⟩
    | true =>
      have lp := (hL.p e hem)
      have lpl := lp.len
      simp [hc, lpl]
      have htake : (L.take (i + 1)).takeWhile (fun e => c e.stamp) = L.take (i + 1) := by
        rw [hnx, List.takeWhile_append, if_pos (by rw [hall])]
        simp [hc]
      refine wp_rounds (fun k ρ' h2 => ∃ j, j ≤ e.ps.length ∧ k = e.ps.length - j ∧ ρ' 2 = lf ∧ ρ' 7 = .slice (some ⟨h.length + 1, 0, some 0⟩) first.length 0 ∧ ρ' 14 = lv ∧ ρ' 15 = .int .i64 (L.length : Nat) ∧ ρ' 16 = .int .i64 (i : Nat) ∧ ρ' 26 = e.pv ∧ ρ' 27 = .int .i64 (e.ps.length : Nat) ∧ ρ' 28 = .int .i64 (j : Nat) ∧
        h2[h.length + 1]? = some (.row (ints (applyPs (applyAll first (L.take i)) (e.ps.take j))) 3 0) ∧ Fr [] h h2) ?_ (k := e.ps.length) ⟨0, by simp, by simp, by simp [r2], by simp [r7], by simp [r14], by simp [r15], by simp [r16], by simp, by simp, by simp, by rw [List.getElem?_append_left (lt_of_get hw)]; simpa [applyPs] using hw, fr.trans (Fr.append _ _ _)⟩
      rintro J hJ k ρ' h2 ⟨j, hj1, rfl, s2, s7, s14, s15, s16, s26, s27, s28, hw2, fr2⟩
      by_cases hjl : j < e.ps.length
      · have hp := List.getElem?_eq_getElem hjl
        generalize e.ps[j] = p at hp
        obtain ⟨f1, f2, f3, f4⟩ := pair_at (lp.fr fr2 (.inr (by simp))) hp
        obtain ⟨hp0, hp1⟩ := hps e hem p (List.mem_of_getElem? hp)
        have hwX : ∀ X, (h2 ++ X)[h.length + 1]? = some (.row (ints (applyPs (applyAll first (L.take i)) (e.ps.take j))) 3 0) := fun X => by rw [List.getElem?_append_left (lt_of_get hw2)]; exact hw2
        have hlen : (applyPs (applyAll first (L.take i)) (e.ps.take j)).length = first.length := by rw [applyPs_len, applyAll_len]
        have hpn : p.1.toNat < first.length := by omega
        have i3 : IntKind.i64.wrap ((j : Int) + 1) = (j : Int) + 1 := IntWalk.i64_in _ ⟨by omega, by have := hL.np e hem; omega⟩
        simp [s2, s7, s14, s15, s16, s26, s27, s28, hjl, f1, f2, prow, hp0, hp1, hwX, hlen, hpn, i3]
        subst hJ
        refine ⟨_, by omega, j + 1, by omega, rfl, by simp [s2], by simp [s7], by simp [s14], by simp [s15], by simp [s16], by simp [s26], by simp [s27], by simp, ?_, ?_⟩
        · rw [List.take_add_one, hp]
          have : applyPs (applyAll first (L.take i)) (e.ps.take j ++ (some p).toList) = (applyPs (applyAll first (L.take i)) (e.ps.take j)).set p.1.toNat p.2 := by simp [applyPs]
          rw [this, List.getElem?_set_self (by have := lt_of_get hw2; simp; omega)]
        · exact (fr2.trans (Fr.append _ _ _)).setNew _ _ (by omega)
      · have i3 : IntKind.i64.wrap ((i : Int) + 1) = (i : Int) + 1 := IntWalk.i64_in _ ⟨by omega, by have := hL.n; omega⟩
        simp [s2, s7, s14, s15, s16, s26, s27, s28, hjl, i3]
        subst hI
        refine ⟨_, by omega, i + 1, by omega, rfl, by simp [s2], by simp [s7], by simp [s14], by simp [s15], by simp, htake, ?_, fr2⟩
        rw [List.take_of_length_le (l := e.ps) (by omega)] at hw2
        rw [hw2, hnx]
        simp [applyAll]
  · rw [List.take_of_length_le (by omega)] at hall hw
    simp [r2, r7, r14, r15, r16, hlt]
    exact ⟨by rw [hall]; exact hw, fr⟩
end Go.Proofs.Ytlifcjggdandnaa
namespace Go.Proofs.Ytlifcjggdandnaa
open Go.Ideal

def swp (l : List En) (i j : Nat) : List En :=
  match l[i]?, l[j]? with
  | some x, some y => (l.set i y).set j x
  | _, _ => l
theorem swp_eq {l : List En} {i j : Nat} {x y : En} (hx : l[i]? = some x) (hy : l[j]? = some y) : swp l i j = (l.set i y).set j x := by simp [swp, hx, hy]
theorem swp_len (l : List En) (i j : Nat) : (swp l i j).length = l.length := by unfold swp; split <;> simp
theorem swp_get {l : List En} {i j : Nat} (hi : i < l.length) (hj : j < l.length) (k : Nat) : (swp l i j)[k]? = if k = j then l[i]? else if k = i then l[j]? else l[k]? := by
  rw [swp_eq (List.getElem?_eq_getElem hi) (List.getElem?_eq_getElem hj), List.getElem?_set, List.getElem?_set]
  by_cases h1 : j = k
  · subst h1; simp [hj, hi]
  · rw [if_neg h1, if_neg (Ne.symm h1)]
    by_cases h2 : i = k
    · subst h2; simp [hi, hj]
    · rw [if_neg h2, if_neg (Ne.symm h2)]

def swapN (l : List En) (a b : Nat) : Nat → List En
  | 0 => l
  | n + 1 => swp (swapN l a b n) (a + n) (b + n)
theorem swapN_len (l : List En) (a b : Nat) : ∀ n, (swapN l a b n).length = l.length
  | 0 => rfl
  | n + 1 => by rw [swapN, swp_len, swapN_len l a b n]
theorem swapN_get {l : List En} {a b : Nat} : ∀ n, a + n ≤ b → b + n ≤ l.length → ∀ k, (swapN l a b n)[k]? = if a ≤ k ∧ k < a + n then l[k - a + b]? else if b ≤ k ∧ k < b + n then l[k - b + a]? else l[k]?
  | 0, _, _, k => by rw [if_neg (by omega), if_neg (by omega)]; rfl
  | n + 1, h1, h2, k => by
    have hl := swapN_len l a b n
    have ih := fun k => swapN_get (l := l) (a := a) (b := b) n (by omega) (by omega) k
    rw [swapN, swp_get (by omega) (by omega)]
    by_cases hb : k = b + n
    · rw [if_pos hb, ih, if_neg (by omega), if_neg (by omega), if_neg (by omega), if_pos (by omega)]
      congr 1; omega
    · rw [if_neg hb]
      by_cases ha : k = a + n
      · rw [if_pos ha, ih, if_neg (by omega), if_neg (by omega), if_pos (by omega)]
        congr 1; omega
      · rw [if_neg ha, ih]
        by_cases h3 : a ≤ k ∧ k < a + n
        · rw [if_pos h3, if_pos (by omega)]
        · rw [if_neg h3]
          by_cases h4 : b ≤ k ∧ k < b + n
          · rw [if_pos h4, if_neg (show ¬ (a ≤ k ∧ k < a + (n + 1)) by omega), if_pos (show b ≤ k ∧ k < b + (n + 1) by omega)]
          · rw [if_neg h4, if_neg (show ¬ (a ≤ k ∧ k < a + (n + 1)) by omega), if_neg (show ¬ (b ≤ k ∧ k < b + (n + 1)) by omega)]

/-- Two ranges of one length are exchanged. -/
theorem swapN_parts (P U M W S : List En) (n : Nat) (hU : U.length = n) (hW : W.length = n) : swapN (P ++ U ++ M ++ W ++ S) P.length (P.length + n + M.length) n = P ++ W ++ M ++ U ++ S := by
  refine List.ext_getElem? fun k => ?_
  rw [swapN_get n (by omega) (by simp; omega)]
  simp only [List.append_assoc]
  by_cases h1 : k < P.length
  · rw [if_neg (by omega), if_neg (by omega), List.getElem?_append_left h1, List.getElem?_append_left h1]
  · obtain ⟨k, rfl⟩ := Nat.exists_eq_add_of_le (Nat.le_of_not_lt h1)
    have shP : ∀ (X : List En) (i : Nat), (P ++ X)[P.length + i]? = X[i]? := fun X i => by rw [List.getElem?_append_right (by omega)]; congr 1; omega
    rw [shP, shP]
    by_cases h2 : k < n
    · rw [if_pos (by omega), show P.length + k - P.length + (P.length + n + M.length) = P.length + (n + M.length + k) by omega, shP,
        List.getElem?_append_right (l₁ := U) (by omega), List.getElem?_append_right (l₁ := M) (by omega), List.getElem?_append_left (l₁ := W) (by omega), List.getElem?_append_left (l₁ := W) (by omega)]
      congr 1; omega
    · rw [if_neg (by omega), List.getElem?_append_right (l₁ := W) (by omega)]
      by_cases h3 : k < n + M.length
      · rw [if_neg (by omega), List.getElem?_append_right (l₁ := U) (by omega), List.getElem?_append_left (l₁ := M) (by omega), List.getElem?_append_left (l₁ := M) (by omega)]
        congr 1; omega
      · rw [List.getElem?_append_right (l₁ := M) (by omega)]
        by_cases h4 : k < n + M.length + n
        · rw [if_pos (by omega), show P.length + k - (P.length + n + M.length) + P.length = P.length + (k - n - M.length) by omega, shP, List.getElem?_append_left (l₁ := U) (by omega), List.getElem?_append_left (l₁ := U) (by omega)]
          congr 1; omega
        · rw [if_neg (by omega), List.getElem?_append_right (l₁ := U) (by omega), List.getElem?_append_right (l₁ := M) (by omega), List.getElem?_append_right (l₁ := W) (by omega), List.getElem?_append_right (l₁ := U) (by omega)]
          congr 1; omega

theorem swp_adj (P : List En) (x y : En) (S : List En) : swp (P ++ x :: y :: S) P.length (P.length + 1) = P ++ y :: x :: S := by
  have := swapN_parts P [x] [] [y] S 1 rfl rfl
  simpa [swapN] using this

/-! ### Sorted, stable -/

def Srt (X : List En) (lo hi : Nat) : Prop := ∀ i j x y, lo ≤ i → i < j → j < hi → X[i]? = some x → X[j]? = some y → x.key ≤ y.key
def Filt (X Y : List En) : Prop := ∀ k : Int, Y.filter (fun e => e.key == k) = X.filter (fun e => e.key == k)
def Out (X Y : List En) (lo hi : Nat) : Prop := Y.length = X.length ∧ ∀ i, (i < lo ∨ hi ≤ i) → Y[i]? = X[i]?
theorem Filt.refl (X : List En) : Filt X X := fun _ => rfl
theorem Filt.trans {X Y Z : List En} (h1 : Filt X Y) (h2 : Filt Y Z) : Filt X Z := fun k => (h2 k).trans (h1 k)
theorem Filt.mem {X Y : List En} (h : Filt X Y) {e : En} (he : e ∈ Y) : e ∈ X := by
  have : e ∈ Y.filter (fun x => x.key == e.key) := List.mem_filter.2 ⟨he, by simp⟩
  rw [h] at this
  exact (List.mem_filter.1 this).1
theorem Out.refl (X : List En) (lo hi : Nat) : Out X X lo hi := ⟨rfl, fun _ _ => rfl⟩
theorem Out.trans {X Y Z : List En} {lo hi lo1 hi1 lo2 hi2 : Nat} (h1 : Out X Y lo1 hi1) (h2 : Out Y Z lo2 hi2) (a1 : lo ≤ lo1) (a2 : lo ≤ lo2) (b1 : hi1 ≤ hi) (b2 : hi2 ≤ hi) : Out X Z lo hi :=
  ⟨h2.1.trans h1.1, fun i hi => (h2.2 i (by omega)).trans (h1.2 i (by omega))⟩
theorem Srt.out {X Y : List En} {lo hi a b : Nat} (hs : Srt X a b) (ho : Out X Y lo hi) (hd : b ≤ lo ∨ hi ≤ a) : Srt Y a b := by
  intro i j x y h1 h2 h3 hx hy
  rw [ho.2 i (by omega)] at hx
  rw [ho.2 j (by omega)] at hy
  exact hs i j x y h1 h2 h3 hx hy
theorem Srt.mono {X : List En} {a b lo hi : Nat} (hs : Srt X a b) (h1 : a ≤ lo) (h2 : hi ≤ b) : Srt X lo hi :=
  fun i j x y a1 a2 a3 => hs i j x y (by omega) a2 (by omega)

def Sorted (A : List En) : Prop := A.Pairwise fun x y => x.key ≤ y.key
theorem Sorted.srt {P A S : List En} (h : Sorted A) : Srt (P ++ A ++ S) P.length (P.length + A.length) := by
  intro i j x y h1 h2 h3 hx hy
  rw [List.append_assoc, List.getElem?_append_right h1, List.getElem?_append_left (by omega)] at hx
  rw [List.append_assoc, List.getElem?_append_right (by omega), List.getElem?_append_left (by omega)] at hy
  obtain ⟨g1, rfl⟩ := List.getElem?_eq_some_iff.1 hx
  obtain ⟨g2, rfl⟩ := List.getElem?_eq_some_iff.1 hy
  exact List.pairwise_iff_getElem.1 h _ _ g1 g2 (by omega)
theorem Srt.sorted {P A S : List En} (h : Srt (P ++ A ++ S) P.length (P.length + A.length)) : Sorted A := by
  refine List.pairwise_iff_getElem.2 fun i j hi hj hij => ?_
  refine h (P.length + i) (P.length + j) _ _ (by omega) (by omega) (by omega) ?_ ?_
  · rw [List.append_assoc, List.getElem?_append_right (by omega), List.getElem?_append_left (by omega), ← List.getElem?_eq_getElem hi]; congr 1; omega
  · rw [List.append_assoc, List.getElem?_append_right (by omega), List.getElem?_append_left (by omega), ← List.getElem?_eq_getElem hj]; congr 1; omega
theorem Out.parts (P A C S : List En) (h : C.length = A.length) : Out (P ++ A ++ S) (P ++ C ++ S) P.length (P.length + A.length) := by
  refine ⟨by simp [h], fun i hi => ?_⟩
  simp only [List.append_assoc]
  rcases hi with hi | hi
  · rw [List.getElem?_append_left hi, List.getElem?_append_left hi]
  · rw [List.getElem?_append_right (by omega), List.getElem?_append_right (by omega), List.getElem?_append_right (by omega), List.getElem?_append_right (by omega), h]
theorem Filt.parts (P S : List En) {A C : List En} (h : Filt A C) : Filt (P ++ A ++ S) (P ++ C ++ S) := fun k => by simp [h k]

/-- A list, cut at two places. -/
theorem cut3 (X : List En) {a b : Nat} (h1 : a ≤ b) (h2 : b ≤ X.length) : ∃ P A S, X = P ++ A ++ S ∧ P.length = a ∧ A.length = b - a :=
  ⟨X.take a, (X.drop a).take (b - a), X.drop b, by rw [List.append_assoc, show X.drop b = (X.drop a).drop (b - a) by rw [List.drop_drop]; congr 1; omega, List.take_append_drop, List.take_append_drop], by simp; omega, by simp; omega⟩
theorem cut4 (X : List En) {a m b : Nat} (h1 : a ≤ m) (h2 : m ≤ b) (h3 : b ≤ X.length) : ∃ P A B S, X = P ++ A ++ B ++ S ∧ P.length = a ∧ A.length = m - a ∧ B.length = b - m := by
  obtain ⟨P, A, R, hX, hP, hA⟩ := cut3 X h1 (Nat.le_trans h2 h3)
  have hR : b - m ≤ R.length := by have := congrArg List.length hX; simp at this; omega
  exact ⟨P, A, R.take (b - m), R.drop (b - m), by rw [hX, List.append_assoc, List.append_assoc, List.append_assoc, List.take_append_drop], hP, hA, by simp; omega⟩

theorem Filt.len {X Y : List En} (h : Filt X Y) : Y.length = X.length := by
  have key : ∀ (n : Nat) (X Y : List En), X.length = n → Filt X Y → Y.length = X.length := by
    intro n
    induction n using Nat.strongRecOn with
    | ind n ih =>
      intro X Y hn h
      cases X with
      | nil =>
        cases Y with
        | nil => rfl
        | cons y Y => have := h.mem (e := y) (List.mem_cons_self ..); cases this
      | cons x X =>
        have h1 := h x.key
        have hsplit : ∀ (L : List En), L.length = (L.filter (fun e => e.key == x.key)).length + (L.filter (fun e => !(e.key == x.key))).length := fun L => by
          induction L with
          | nil => rfl
          | cons a L ihL => cases ha : (a.key == x.key) <;> simp [List.filter_cons, ha] <;> omega
        have h2 : Filt ((x :: X).filter (fun e => !(e.key == x.key))) (Y.filter (fun e => !(e.key == x.key))) := fun k => by
          rw [List.filter_filter, List.filter_filter]
          have : ∀ (L : List En), L.filter (fun e => e.key == k && !(e.key == x.key)) = (L.filter (fun e => e.key == k)).filter (fun e => !(e.key == x.key)) := fun L => by rw [List.filter_filter]; congr 1; funext e; rw [Bool.and_comm]
          rw [this, this, h k]
        have h3 := ih ((x :: X).filter (fun e => !(e.key == x.key))).length (by
          have := hsplit (x :: X)
          simp only [List.length_cons] at this hn
          have h4 : ((x :: X).filter (fun e => e.key == x.key)).length ≥ 1 := by simp
          omega) _ _ rfl h2
        rw [hsplit Y, hsplit (x :: X), h1, h3]
  exact key _ X Y rfl h

/-- Parts that are sorted, of which the first one lies below the second one. -/
theorem Sorted.append {A B : List En} (h1 : Sorted A) (h2 : Sorted B) (h3 : ∀ x ∈ A, ∀ y ∈ B, x.key ≤ y.key) : Sorted (A ++ B) := List.pairwise_append.2 ⟨h1, h2, h3⟩
theorem filt_swap {A B : List En} (h : ∀ x ∈ A, ∀ y ∈ B, y.key < x.key) : Filt (A ++ B) (B ++ A) := fun k => by
  rw [List.filter_append, List.filter_append]
  by_cases hA : A.filter (fun e => e.key == k) = []
  · rw [hA]; simp
  · have : B.filter (fun e => e.key == k) = [] := by
      obtain ⟨x, hx⟩ := List.exists_mem_of_ne_nil _ hA
      obtain ⟨hx1, hx2⟩ := List.mem_filter.1 hx
      refine List.filter_eq_nil_iff.2 fun y hy => ?_
      have := h x hx1 y hy
      simp at hx2 ⊢
      omega
    rw [this]; simp
theorem Filt.append {A B C D : List En} (h1 : Filt A C) (h2 : Filt B D) : Filt (A ++ B) (C ++ D) := fun k => by rw [List.filter_append, List.filter_append, h1 k, h2 k]

/-- What lies ahead of a place of a sorted list is at most what stands there, and so on. -/
theorem Sorted.last_le {A : List En} {x : En} (h : Sorted (A ++ [x])) : ∀ y ∈ A ++ [x], y.key ≤ x.key := by
  intro y hy
  rcases List.mem_append.1 hy with hy | hy
  · exact (List.pairwise_append.1 h).2.2 y hy x (by simp)
  · simp at hy; subst hy; omega
theorem Sorted.first_le {A : List En} {x : En} (h : Sorted (x :: A)) : ∀ y ∈ x :: A, x.key ≤ y.key := by
  intro y hy
  rcases List.mem_cons.1 hy with rfl | hy
  · omega
  · exact (List.pairwise_cons.1 h).1 y hy

/-- The heart of the symmetric merge. -/
theorem merge_core {A1 A2 B1 B2 C1 C2 : List En} (hA : Sorted (A1 ++ A2)) (hB : Sorted (B1 ++ B2)) (h1 : ∀ x ∈ A1, ∀ y ∈ B2, x.key ≤ y.key) (h2 : ∀ x ∈ A2, ∀ y ∈ B1, y.key < x.key)
    (c1 : Sorted C1) (f1 : Filt (A1 ++ B1) C1) (c2 : Sorted C2) (f2 : Filt (A2 ++ B2) C2) : Sorted (C1 ++ C2) ∧ Filt (A1 ++ A2 ++ (B1 ++ B2)) (C1 ++ C2) := by
  constructor
  · refine c1.append c2 fun x hx y hy => ?_
    have hx := f1.mem hx
    have hy := f2.mem hy
    rcases List.mem_append.1 hx with hx | hx <;> rcases List.mem_append.1 hy with hy | hy
    · exact (List.pairwise_append.1 hA).2.2 x hx y hy
    · exact h1 x hx y hy
    · have := h2 y hy x hx; omega
    · exact (List.pairwise_append.1 hB).2.2 x hx y hy
  · have e : A1 ++ A2 ++ (B1 ++ B2) = A1 ++ (A2 ++ B1) ++ B2 := by simp
    rw [e]
    refine Filt.trans (Filt.parts A1 B2 (filt_swap h2)) ?_
    have e2 : A1 ++ (B1 ++ A2) ++ B2 = (A1 ++ B1) ++ (A2 ++ B2) := by simp
    rw [e2]
    exact f1.append f2
end Go.Proofs.Ytlifcjggdandnaa
namespace Go.Proofs.Ytlifcjggdandnaa
open Go.Ideal
variable {w0 : World} {hk : Hooks} {h : Heap}

/-- The cells of entries, one behind another. -/
def fl (X : List En) : List Value := (X.map En.cells).flatten

/-- Entries lie in a row of the heap. -/
structure At (h : Heap) (b g : Nat) (X : List En) : Prop where
  row : h[b]? = some (.row (fl X) 74 g)
  lf : ∀ e ∈ X, leaf e.pv = true

def dv (b g n : Nat) : Value := .slice (some ⟨b, 0, some g⟩) n 0
def cmpV : Value := .func (.func 43) #[] #[]

theorem flat_len (X : List En) : (X.map En.cells).flatten.length = X.length * 3 := by
  induction X with
  | nil => rfl
  | cons x X ih => simp [ih]; omega

theorem splice_cells {X : List En} {i : Nat} (hi : i < X.length) (e : En) : Go.Ideal.splice (X.map En.cells).flatten (i * 3) e.cells = ((X.set i e).map En.cells).flatten := by
  have h1 : X = X.take i ++ X[i] :: X.drop (i + 1) := by
    have := List.take_append_drop i X
    rw [List.drop_eq_getElem_cons hi] at this
    exact this.symm
  have hl : ((X.take i).map En.cells).flatten.length = i * 3 := by rw [flat_len, List.length_take]; congr 1; omega
  have key : ∀ (Z : List En) (x : En) (W : List En), ((Z ++ x :: W).map En.cells).flatten = (Z.map En.cells).flatten ++ (x.cells ++ (W.map En.cells).flatten) := fun Z x W => by simp
  have h3 : ((X.set i e).map En.cells).flatten = ((X.take i).map En.cells).flatten ++ (e.cells ++ ((X.drop (i + 1)).map En.cells).flatten) := by
    rw [List.set_eq_take_append_cons_drop, if_pos hi]
    simp
  rw [h3]
  conv => lhs; rw [h1, key]
  generalize hA : ((X.take i).map En.cells).flatten = A at *
  generalize ((X.drop (i + 1)).map En.cells).flatten = B
  have hc : X[i].cells.length = 3 := rfl
  generalize X[i].cells = c at *
  have hd : e.cells.length = 3 := rfl
  unfold Go.Ideal.splice
  rw [List.take_append_of_le_length (by omega), List.take_of_length_le (by omega), hd, ← hl, ← List.drop_drop, List.drop_left, ← hc, List.drop_left, List.append_assoc]

theorem At.rd {b g : Nat} {X : List En} (a : At h b g X) {i : Nat} {e : En} (he : X[i]? = some e) : rdN w0 h ⟨b, i * 3, some g⟩ 3 = some e.cells := by
  have hs : Sl w0 h (dv b g (X.map En.cells).length) 3 (X.map En.cells) := Sl.row (rest := []) (by simpa [fl] using a.row) (by simp)
  have := hs.load (i := i) (r := e.cells) (by simp [he])
  simpa [sAt, bAddr, dv] using this

theorem At.wr {b g : Nat} {X : List En} (a : At h b g X) {i : Nat} (hi : i < X.length) {e : En} (he : leaf e.pv = true) : wrN h ⟨b, i * 3, some g⟩ e.cells = some (h.set b (.row (fl (X.set i e)) 74 g)) := by
  have hl : (fl X).length = X.length * 3 := flat_len X
  have h3 : e.cells.length = 3 := rfl
  rw [wrN_mk, a.row]
  simp only [if_true]
  rw [if_pos (by omega), if_pos (by simp [En.cells, he]), show Go.Ideal.splice (fl X) (i * 3) e.cells = fl (X.set i e) from splice_cells hi e]

theorem At.set {b g : Nat} {X : List En} (a : At h b g X) {i : Nat} {e : En} (he : leaf e.pv = true) : At (h.set b (.row (fl (X.set i e)) 74 g)) b g (X.set i e) :=
  ⟨by rw [List.getElem?_set_self (lt_of_get a.row)], fun x hx => (List.mem_or_eq_of_mem_set hx).elim (a.lf x) (fun hh => hh ▸ he)⟩

theorem At.fr {b g : Nat} {X : List En} {h' : Heap} (a : At h b g X) (f : Fr [] h h') : At h' b g X := ⟨f.same b _ (by simp) a.row, a.lf⟩

/-- Two are exchanged. -/
theorem At.swap {b g : Nat} {X : List En} (a : At h b g X) {i j : Nat} {x y : En} (hx : X[i]? = some x) (hy : X[j]? = some y) :
    rdN w0 h ⟨b, i * 3, some g⟩ 3 = some x.cells ∧ rdN w0 h ⟨b, j * 3, some g⟩ 3 = some y.cells ∧
    wrN h ⟨b, i * 3, some g⟩ y.cells = some (h.set b (.row (fl (X.set i y)) 74 g)) ∧
    wrN (h.set b (.row (fl (X.set i y)) 74 g)) ⟨b, j * 3, some g⟩ x.cells = some (h.set b (.row (fl (swp X i j)) 74 g)) ∧
    At (h.set b (.row (fl (swp X i j)) 74 g)) b g (swp X i j) := by
  have lx := a.lf x (List.mem_of_getElem? hx)
  have ly := a.lf y (List.mem_of_getElem? hy)
  have hi := (List.getElem?_eq_some_iff.1 hx).1
  have hj := (List.getElem?_eq_some_iff.1 hy).1
  have a2 := a.set (i := i) ly
  have a3 := a2.set (i := j) lx
  rw [swp_eq hx hy]
  refine ⟨a.rd hx, a.rd hy, a.wr hi ly, ?_, ?_⟩
  · rw [a2.wr (by simpa using hj) lx, List.set_set]
  · rw [List.set_set] at a3; exact a3

theorem swapRange_spec (hf : hk 74 = none) {b g n p q k : Nat} {X : List En} (a : At h b g X) (hn : X.length = n) (hp : p + k ≤ n) (hq : q + k ≤ n) (hN : n ≤ 1000) :
    Ans Try.prog w0 hk 74 [dv b g n, .int .i64 (p : Nat), .int .i64 (q : Nat), .int .i64 (k : Nat), cmpV] h (fun r h' => r = .ret (.tuple #[]) ∧ At h' b g (swapN X p q k) ∧ Fr [b] h h') := by
  refine Ans.run hf cmp_74 (by simp) ?_
  simp only [code_74]
  simp
  refine wp_rounds (fun m ρ h' => ∃ i, i ≤ k ∧ m = k - i ∧ ρ 0 = dv b g n ∧ ρ 1 = .int .i64 (p : Nat) ∧ ρ 2 = .int .i64 (q : Nat) ∧ ρ 3 = .int .i64 (k : Nat) ∧ ρ 10 = .int .i64 (i : Nat) ∧ At h' b g (swapN X p q i) ∧ Fr [b] h h') ?_ (k := k) ⟨0, by simp, by simp, by simp, by simp, by simp, by simp, by simp, a, Fr.refl _ _⟩
  rintro I hI m ρ h' ⟨i, hi1, rfl, r0, r1, r2, r3, r10, at', fr⟩
  by_cases hlt : i < k
  · have hl := swapN_len X p q i
    have hx := List.getElem?_eq_getElem (l := swapN X p q i) (i := p + i) (by omega)
    have hy := List.getElem?_eq_getElem (l := swapN X p q i) (i := q + i) (by omega)
    obtain ⟨s1, s2, s3, s4, s5⟩ := at'.swap (w0 := w0) hx hy
    generalize (swapN X p q i)[p + i] = x at *
    generalize (swapN X p q i)[q + i] = y at *
    have i1 : IntKind.i64.wrap ((p : Int) + i) = ((p + i : Nat) : Int) := IntWalk.i64_in _ ⟨by omega, by omega⟩
    have i2 : IntKind.i64.wrap ((q : Int) + i) = ((q + i : Nat) : Int) := IntWalk.i64_in _ ⟨by omega, by omega⟩
    have i3 : IntKind.i64.wrap ((i : Int) + 1) = (i : Int) + 1 := IntWalk.i64_in _ ⟨by omega, by omega⟩
    simp [r0, r1, r2, r3, r10, hlt, i1, i2, i3, dv, s1, s2, s3, s4, show p + i < n by omega, show q + i < n by omega, -rdN_mk, -wrN_mk, -Int.natCast_add]
    subst hI
    exact ⟨_, by omega, i + 1, by omega, rfl, by simp [r0, dv], by simp [r1], by simp [r2], by simp [r3], by simp, s5, fr.trans (Fr.set _ _ _ (by simp))⟩
  · have : i = k := by omega
    subst this
    simp [r0, r1, r2, r3, r10]
    exact ⟨at', fr⟩
end Go.Proofs.Ytlifcjggdandnaa
