/- What was stored up to a stamp, in the plain; the program's answers. -/
import Derived.Test.YtlifcjggdandnaaT14
namespace Go.Proofs.Ytlifcjggdandnaa
open Go.Ideal
variable {w0 : World} {hk : Hooks} {h : Heap}

/-- Entries are those of tries, by rising stamps. -/
def OkL (txs : List Tx) (L : List En) : Prop := Sorted L ∧ ∃ L0, Filt L0 L ∧ L0.map En.pl = allP txs

theorem key_stamp {x y : En} (h : x.key ≤ y.key) : x.stamp ≤ y.stamp := by
  unfold En.key at h
  split at h <;> split at h <;> omega

theorem Sorted.tail {x : En} {L : List En} (h : Sorted (x :: L)) : Sorted L := (List.pairwise_cons.1 h).2

theorem split_filter {L : List En} (hs : Sorted L) (p q : En → Bool) (hpq : ∀ x y, p x = true → q y = true → x.key < y.key) : L.filter (fun e => p e || q e) = L.filter p ++ L.filter q := by
  induction L with
  | nil => rfl
  | cons x L ih =>
    have ih := ih hs.tail
    simp only [List.filter_cons]
    cases hp : p x with
    | true =>
      have hq : q x = false := by
        cases hq : q x with
        | false => rfl
        | true => have := hpq x x hp hq; omega
      simp [hq, ih]
    | false =>
      cases hq : q x with
      | false => simp [ih]
      | true =>
        have : L.filter p = [] := by
          refine List.filter_eq_nil_iff.2 fun y hy hpy => ?_
          have := hpq y x hpy hq
          have := hs.first_le y (List.mem_cons_of_mem _ hy)
          omega
        simp [ih, this]

theorem takeWhile_filter {L : List En} (hs : Sorted L) (c : Int → Bool) (hc : ∀ x y : Int, x ≤ y → c y = true → c x = true) : L.takeWhile (fun e => c e.stamp) = L.filter (fun e => c e.stamp) := by
  induction L with
  | nil => rfl
  | cons x L ih =>
    simp only [List.takeWhile_cons, List.filter_cons]
    cases hx : c x.stamp with
    | true => simp [ih hs.tail]
    | false =>
      simp
      intro y hy
      cases hy' : c y.stamp with
      | false => rfl
      | true =>
        have := hc _ _ (key_stamp (hs.first_le y (List.mem_cons_of_mem _ hy))) hy'
        rw [hx] at this; cases this

theorem OkL.mem {txs : List Tx} {L : List En} (hL : OkL txs L) {e : En} (he : e ∈ L) : e.pl ∈ allP txs := by
  obtain ⟨hs, L0, hf, hp⟩ := hL
  rw [← hp]
  exact List.mem_map.2 ⟨e, hf.mem he, rfl⟩

theorem rightFrom_ok (n : Nat) : ∀ (r done : List Tx), rightFrom n done r = true → ∀ t ∈ r, storesB t = true → t.ws.all (inRange n) = true
  | [], _, _, t, ht, _ => by cases ht
  | u :: r, done, hr, t, ht, hst => by
    simp only [rightFrom] at hr
    rcases List.mem_cons.1 ht with rfl | ht
    · rw [if_pos hst] at hr
      simp only [Bool.and_eq_true] at hr
      exact hr.1.2
    · refine rightFrom_ok n r (done ++ [u]) ?_ t ht hst
      split at hr
      · simp only [Bool.and_eq_true] at hr; exact hr.2
      · exact hr

theorem allP_ok {first : List Int} {txs : List Tx} (hr : rightB first txs = true) {e : Int × Bool × List (Int × Int)} (he : e ∈ allP txs) : ∀ p ∈ e.2.2, 0 ≤ p.1 ∧ p.1 < (first.length : Int) := by
  simp only [rightB, Bool.and_eq_true, decide_eq_true_eq] at hr
  obtain ⟨h1, h2⟩ := hr
  obtain ⟨t, ht, he⟩ := List.mem_flatMap.1 he
  intro p hp
  rcases List.mem_append.1 he with he | he
  · split at he
    · simp at he; subst he; simp at hp; subst hp; simp; omega
    · cases he
  · split at he
    · rename_i hst
      simp at he; subst he
      have := List.all_eq_true.1 (rightFrom_ok _ _ _ h2 t ht hst) p hp
      simpa [inRange] using this
    · cases he

theorem allP_np {txs : List Tx} (hn : ∀ t ∈ txs, t.ws.length ≤ 100) {e : Int × Bool × List (Int × Int)} (he : e ∈ allP txs) : e.2.2.length ≤ 100 := by
  obtain ⟨t, ht, he⟩ := List.mem_flatMap.1 he
  rcases List.mem_append.1 he with he | he
  · split at he
    · simp at he; subst he; simp
    · cases he
  · split at he
    · simp at he; subst he; exact hn t ht
    · cases he

theorem allP_len (txs : List Tx) : (allP txs).length ≤ 2 * txs.length := by
  induction txs with
  | nil => simp [allP]
  | cons t r ih =>
    have : allP (t :: r) = entP t ++ allP r := by simp [allP]
    rw [this, List.length_append, List.length_cons]
    have : (entP t).length ≤ 2 := by unfold entP; split <;> split <;> simp
    omega

theorem OkL.len {txs : List Tx} {L : List En} (hL : OkL txs L) : L.length ≤ 2 * txs.length := by
  obtain ⟨hs, L0, hf, hp⟩ := hL
  rw [hf.len, ← List.length_map (f := En.pl), hp]
  exact allP_len txs

/-- The words of what was stored as long as it is let. -/
def stW (first : List Int) (L : List En) (c : Int → Bool) : List Int := applyAll first (L.filter fun e => c e.stamp)
theorem stW_len (first : List Int) (L : List En) (c : Int → Bool) : (stW first L c).length = first.length := applyAll_len _ _

structure OpHk (hk : Hooks) : Prop where
  s : SortHk hk
  h21 : hk 21 = none
  h22 : hk 22 = none
  h23 : hk 23 = none
  h24 : hk 24 = none
  h25 : hk 25 = none
  h28 : hk 28 = none
  h29 : hk 29 = none
  h41 : hk 41 = none
  h42 : hk 42 = none
  h45 : hk 45 = none

/-- What the tries are let to be. -/
structure Lim (first : List Int) (txs : List Tx) : Prop where
  f : first.length ≤ 300
  t : txs.length ≤ 40
  p : ∀ t ∈ txs, t.rs.length + t.ws.length ≤ 100

theorem LstAt.ens {n0 : Nat} {H : Heap} {v : Value} {L : List En} {first : List Int} {txs : List Tx} (a : LstAt w0 n0 H v L) (hL : OkL txs L) (hl : Lim first txs) : EnsAt w0 H v L := by
  have hn := hL.len
  have ht := hl.t
  have hnp : ∀ e ∈ L, e.ps.length ≤ 1000 := fun e he => by
    have := allP_np (txs := txs) (fun t ht => by have := hl.p t ht; omega) (hL.mem he)
    simp [En.pl] at this; omega
  rcases a with ⟨rfl, rfl⟩ | ⟨b, g, rfl, h2, h3, h4⟩
  · exact ⟨.inl ⟨rfl, rfl⟩, by simp, by simp, by simp, by simp⟩
  · refine ⟨?_, fun e he => h4 e he H (Fr.refl _ _), h3.lf, by omega, hnp⟩
    have := Sl.row (w0 := w0) (c := 0) (rows := L.map En.cells) (rest := []) (k := 3) (by simpa [fl] using h3.row) (by simp)
    simpa [dv] using this

theorem upTo_ok (O : OpHk hk) {fv tv lv lf : Value} {first : List Int} {txs : List Tx} {L : List En} {c : Int → Bool} {g : FuncId} {cap : List Value} {n0 : Nat} (hi : In w0 fv tv first txs) (hl : Lim first txs) (hr : rightB first txs = true)
    (ha : LstAt w0 n0 h lv L) (hL : OkL txs L) (hc : ∀ x y : Int, x ≤ y → c y = true → c x = true) (hlet : LetOk w0 hk h lf c g cap) :
    Ans Try.prog w0 hk 24 [fv, lv, lf] h (fun r h' => r = .ret (.slice (some ⟨h.length + 1, 0, some 0⟩) first.length 0) ∧ h'[h.length + 1]? = some (.row (ints (stW first L c)) 3 0) ∧ Fr [] h h') := by
  have hne : first ≠ [] := by
    intro hh; subst hh; simp [rightB] at hr
  refine (upTo_spec O.h24 O.h45 (hi.f h) hne (by have := hl.f; omega) (ha.ens hL hl) (fun e he p hp => allP_ok hr (hL.mem he) p hp) hlet).mono ?_
  rintro r h' ⟨rfl, h2, h3⟩
  exact ⟨rfl, by rw [h2, takeWhile_filter hL.1 c hc]; rfl, h3⟩

/-- The words behind a row of the heap. -/
theorem Sl.ints {h : Heap} {b e g : Nat} {w : List Int} (hb : h[b]? = some (.row (Go.Ideal.ints w) e g)) : Sl w0 h (.slice (some ⟨b, 0, some g⟩) w.length 0) 1 (w.map irow1) := by
  have := Sl.row (w0 := w0) (c := 0) (rows := w.map irow1) (rest := []) (k := 1) (b := b) (e := e) (g := g) (by rw [flatten_irow1]; simpa using hb) (by simp [irow1])
  simpa using this

/-- A state that is told: words and a number. -/
def Told2 (w0 : World) (first : List Int) (txs : List Tx) (c : Int → Bool) (r : IRet) (h' : Heap) (n0 : Nat) : Prop :=
  (rightB first txs = false ∧ r = .ret (.tuple #[.slice none 0 0, .int .i64 2])) ∨
  (rightB first txs = true ∧ ∃ L b, OkL txs L ∧ n0 ≤ b ∧ r = .ret (.tuple #[.slice (some ⟨b, 0, some 0⟩) first.length 0, .int .i64 0]) ∧ h'[b]? = some (.row (ints (stW first L c)) 3 0))

theorem state_spec (hf : hk 10 = none) (O : OpHk hk) {fv tv : Value} {first : List Int} {txs : List Tx} (hi : In w0 fv tv first txs) (hl : Lim first txs) (s : Int) :
    Ans Try.prog w0 hk 10 [fv, tv, .int .i64 s] h (fun r h' => Told2 w0 first txs (fun x => decide (x ≤ s)) r h' h.length ∧ Fr [] h h') := by
  refine Ans.run hf cmp_10 (by simp) ?_
  simp only [code_10]
  simp
  refine (right_spec O.h21 O.h41 hi).mono ?_
  rintro r h1 ⟨rfl, f1⟩
  have f1' := (Fr.append [] h [.row [.int .i64 s] 3 0]).trans f1
  cases hr : rightB first txs with
  | false =>
    simp
    exact ⟨.inl ⟨hr, rfl⟩, f1'⟩
  | true =>
    simp
    refine (all_spec O.h22 O.h41 O.h42 O.s hi hl.t).mono ?_
    rintro r h2 ⟨⟨lv, L, rfl, al⟩, f2⟩
    have hb := f2.same h.length _ (by simp) (f1.same h.length (.row [.int .i64 s] 3 0) (by simp) (by simp))
    simp
    have hL : OkL txs L := ⟨al.srt, al.flt⟩
    refine (upTo_ok O hi hl hr al.at' hL (c := fun x => decide (x ≤ s)) (fun x y h1 h2 => by simp at *; omega) (letState_ok O.h28 hb)).mono ?_
    rintro r h3 ⟨rfl, h4, f3⟩
    simp
    have hlen := (f1'.trans f2).len
    exact ⟨.inr ⟨hr, L, h2.length + 1, hL, by omega, rfl, h4⟩, (f1'.trans f2).trans f3⟩

theorem last_spec (hf : hk 12 = none) (O : OpHk hk) {fv tv : Value} {first : List Int} {txs : List Tx} (hi : In w0 fv tv first txs) (hl : Lim first txs) :
    Ans Try.prog w0 hk 12 [fv, tv] h (fun r h' => Told2 w0 first txs (fun _ => true) r h' h.length ∧ Fr [] h h') := by
  refine Ans.run hf cmp_12 (by simp) ?_
  simp only [code_12]
  simp
  refine (right_spec O.h21 O.h41 hi).mono ?_
  rintro r h1 ⟨rfl, f1⟩
  cases hr : rightB first txs with
  | false =>
    simp
    exact ⟨.inl ⟨hr, rfl⟩, f1⟩
  | true =>
    simp
    refine (all_spec O.h22 O.h41 O.h42 O.s hi hl.t).mono ?_
    rintro r h2 ⟨⟨lv, L, rfl, al⟩, f2⟩
    simp
    have hL : OkL txs L := ⟨al.srt, al.flt⟩
    refine (upTo_ok O hi hl hr al.at' hL (c := fun _ => true) (fun _ _ _ _ => rfl) (letLast_ok O.h29)).mono ?_
    rintro r h3 ⟨rfl, h4, f3⟩
    simp
    have hlen := (f1.trans f2).len
    exact ⟨.inr ⟨hr, L, h2.length + 1, hL, by omega, rfl, h4⟩, (f1.trans f2).trans f3⟩
end Go.Proofs.Ytlifcjggdandnaa
