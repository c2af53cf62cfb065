/- The reference's states; the checks. -/
import Derived.Test.YtlifcjggdandnaaT18
namespace Go.Proofs.Ytlifcjggdandnaa
open Go.Ideal
variable {w0 : World} {hk : Hooks} {h : Heap}

/-- What the reference tells of a state, where the program's answer is known. -/
def Told3 (w0 : World) (first : List Int) (txs : List Tx) (L : List En) (c : Int → Bool) (r : IRet) (h' : Heap) (n0 : Nat) : Prop :=
  (rightB first txs = false ∧ r = .ret (.tuple #[.slice none 0 0, .int .i64 2])) ∨
  (rightB first txs = true ∧ ∃ b, n0 ≤ b ∧ r = .ret (.tuple #[.slice (some ⟨b, 0, some 0⟩) first.length 0, .int .i64 0]) ∧ h'[b]? = some (.row (ints (stW first L c)) 3 0))

theorem cOf_false (s : Int) : cOf false s = fun x => decide (x ≤ s) := by funext x; simp [cOf]
theorem cOf_true (s : Int) : cOf true s = fun _ => true := by funext x; simp [cOf]

theorem rState_spec (hf : hk 11 = none) (R : RefHk hk) {fv tv : Value} {first : List Int} {txs : List Tx} (hi : In w0 fv tv first txs) (hl : first.length ≤ 300) {L : List En} (hL : rightB first txs = true → OkL txs L) (s : Int) :
    Ans Try.prog w0 hk 11 [fv, tv, .int .i64 s] h (fun r h' => Told3 w0 first txs L (fun x => decide (x ≤ s)) r h' h.length ∧ Fr [] h h') := by
  refine Ans.run hf cmp_11 (by simp) ?_
  simp only [code_11]
  simp
  refine (rright_spec R.h26 R.h46 hi).mono ?_
  rintro r h1 ⟨rfl, f1⟩
  cases hr : rightB first txs with
  | false => simp; exact ⟨.inl ⟨hr, rfl⟩, f1⟩
  | true =>
    simp
    refine (rstate_spec R hi hr hl (hL hr) s false).mono ?_
    rintro r h2 ⟨b, hb, rfl, h3, f2⟩
    simp
    rw [cOf_false] at h3
    exact ⟨.inr ⟨hr, b, by have := f1.len; omega, rfl, h3⟩, f1.trans f2⟩

theorem rLast_spec (hf : hk 13 = none) (R : RefHk hk) {fv tv : Value} {first : List Int} {txs : List Tx} (hi : In w0 fv tv first txs) (hl : first.length ≤ 300) {L : List En} (hL : rightB first txs = true → OkL txs L) :
    Ans Try.prog w0 hk 13 [fv, tv] h (fun r h' => Told3 w0 first txs L (fun _ => true) r h' h.length ∧ Fr [] h h') := by
  refine Ans.run hf cmp_13 (by simp) ?_
  simp only [code_13]
  simp
  refine (rright_spec R.h26 R.h46 hi).mono ?_
  rintro r h1 ⟨rfl, f1⟩
  cases hr : rightB first txs with
  | false => simp; exact ⟨.inl ⟨hr, rfl⟩, f1⟩
  | true =>
    simp
    refine (rstate_spec R hi hr hl (hL hr) 0 true).mono ?_
    rintro r h2 ⟨b, hb, rfl, h3, f2⟩
    simp
    rw [cOf_true] at h3
    exact ⟨.inr ⟨hr, b, by have := f1.len; omega, rfl, h3⟩, f1.trans f2⟩

def okT (first : List Int) (L : List En) (t : Tx) : Bool := standsB (stW first L fun x => decide (x ≤ t.seen)) t.rs
def chkV (first : List Int) (txs : List Tx) (L : List En) : Int := if txs.all (okT first L) then 0 else 19
theorem okT_nil {first : List Int} {L : List En} {t : Tx} (h : t.rs = []) : okT first L t = true := by simp [okT, h, standsB]
theorem chkV_bad {first : List Int} {txs : List Tx} {L : List En} {t : Tx} (ht : t ∈ txs) (hb : okT first L t = false) : chkV first txs L = 19 := by
  unfold chkV
  rw [List.all_eq_false.2 ⟨t, ht, by simp [hb]⟩]
  rfl

set_option maxHeartbeats 4000000 in
theorem check_spec (hf : hk 8 = none) (O : OpHk hk) {fv tv : Value} {first : List Int} {txs : List Tx} (hi : In w0 fv tv first txs) (hl : Lim first txs) :
    Ans Try.prog w0 hk 8 [fv, tv] h (fun r h' => ((rightB first txs = false ∧ r = .ret (.int .i64 2)) ∨ (rightB first txs = true ∧ ∃ L, OkL txs L ∧ r = .ret (.int .i64 (chkV first txs L)))) ∧ Fr [] h h') := by
  refine Ans.run hf cmp_8 (by simp) ?_
  simp only [code_8]
  simp
  refine (right_spec O.h21 O.h41 hi).mono ?_
  rintro r h1 ⟨rfl, f1⟩
  cases hr : rightB first txs with
  | false => simp; exact f1
  | true =>
    simp
    refine (all_spec O.h22 O.h41 O.h42 O.s hi hl.t).mono ?_
    rintro r h2 ⟨⟨lv, L, rfl, al⟩, f2⟩
    have hL : OkL txs L := ⟨al.srt, al.flt⟩
    have l2 := (hi.t h2).len
    simp [l2]
    have f12 := f1.trans f2
    refine wp_rounds (fun k ρ h' => ∃ (i : Nat), i ≤ txs.length ∧ k = txs.length - i ∧ ρ 0 = fv ∧ ρ 5 = lv ∧ ρ 14 = tv ∧ ρ 15 = .int .i64 (txs.length : Nat) ∧ ρ 16 = .int .i64 (i : Nat) ∧ (txs.take i).all (okT first L) = true ∧ Fr [] h2 h') ?_ (k := txs.length)
      ⟨0, by simp, by simp, by simp, by simp, by simp, by simp, by simp, by simp, Fr.refl _ _⟩
    rintro I hI k ρ h' ⟨i, hi1, rfl, r0, r5, r14, r15, r16, hall, fr⟩
    by_cases hlt : i < txs.length
    · have ht := List.getElem?_eq_getElem hlt
      generalize txs[i] = t at ht
      have htm := List.mem_of_getElem? ht
      have tx := hi.ok t htm
      obtain ⟨b1, b2, b3, b4⟩ := hi.lt htm
      obtain ⟨e2, e8, c0, c2, c3, c4, c5, c6, c7⟩ := hi.at ht h'
      have lv' := tx.lr
      have lw' := tx.lw
      have lr := (tx.r h').len
      have i3 : IntKind.i64.wrap ((i : Int) + 1) = (i : Int) + 1 := IntWalk.i64_in _ ⟨by omega, by omega⟩
      have good : okT first L t = true → ∀ (ρ : Nat → Value) (h4 : Heap), Fr [] h2 h4 → ρ 0 = fv → ρ 5 = lv → ρ 14 = tv → ρ 15 = .int .i64 (txs.length : Nat) → ρ 16 = .int .i64 ((i : Int) + 1) → Again I (txs.length - i) ρ h4 := by
        intro hg ρ h4 g4 t0 t5 t14 t15 t16
        subst hI
        exact ⟨txs.length - (i + 1), by omega, i + 1, by omega, rfl, t0, t5, t14, t15, by rw [t16]; simp, by rw [take_snoc ht, List.all_append, hall]; simp [hg], g4⟩
      have fr3 := fr.trans (Fr.append [] h' [.row t.cells 53 0])
      simp only [Tx.cells] at fr3
      by_cases hrs : t.rs = []
      · have hz : t.rs.length = 0 := by rw [hrs]; rfl
        simp [r0, r5, r14, r15, r16, hlt, e2, e8, lv', lw', Tx.cells]
        refine wpDraw_light (by kernel_rfl) (by kernel_rfl) ops_8_7 lit_8_7 ?_
        simp [light_8_7, lr, hz, hrs]
        refine ⟨?_, ?_⟩
        · intro p hp
          simp at hp
          subst hp
          refine ⟨_, rfl, _, rfl, _, rfl, _, rfl, ?_⟩
          exact ⟨fun hh => absurd hh (by decide), fun _ => ⟨fun hh => (by cases hh), fun _ => trivial⟩⟩
        · simp [r16, i3]
          exact good (okT_nil hrs) _ _ fr3 (by simp [r0]) (by simp [r5]) (by simp [r14]) (by simp [r15]) (by simp)
      · have hz : (0 : Int) < t.rs.length := by have := List.length_pos_iff.2 hrs; omega
        have hz' : 0 < t.rs.length := List.length_pos_iff.2 hrs
        simp [r0, r5, r14, r15, r16, hlt, e2, e8, lv', lw', Tx.cells]
        refine wpDraw_light (by kernel_rfl) (by kernel_rfl) ops_8_7 lit_8_7 ?_
        simp [light_8_7, lr, hz, hz', r0, r5]
        have hb : (h' ++ [IObj.row [.int .i64 t.worker, .int .i64 t.how, .int .i64 t.seen, .int .i64 t.stamp, .bool t.fall, .bool t.sure, t.rv, t.wv] 53 0])[h'.length]? = some (.row t.cells 53 0) := by simp [Tx.cells]
        refine (upTo_ok O hi hl hr (al.at'.fr fr3) hL (c := fun x => decide (x ≤ t.seen)) (fun x y h1 h2 => by simp at *; omega) (letCheck_ok O.h25 hb)).mono ?_
        rintro r h4 ⟨rfl, h5, f4⟩
        have hb4 := f4.same h'.length (.row [.int .i64 t.worker, .int .i64 t.how, .int .i64 t.seen, .int .i64 t.stamp, .bool t.fall, .bool t.sure, t.rv, t.wv] 53 0) (by simp) (by simp)
        simp [hb4]
        refine (stood_spec O.h23 (w := stW first L fun x => decide (x ≤ t.seen)) (l := t.rs) (fun h6 f6 => ?_) tx.r b1).mono ?_
        · have := f6.same _ _ (by simp) h5
          have := Sl.ints (w0 := w0) this
          rw [stW_len] at this
          simpa using this
        rintro r h6 ⟨rfl, f6⟩
        have fr6 := (fr3.trans f4).trans f6
        simp
        have opn : ∀ tr : List RecL, tr.length = 14 → True := fun _ _ => trivial
        refine ⟨?_, ?_⟩
        · intro p hp
          simp at hp
          subst hp
          refine ⟨_, rfl, _, rfl, _, rfl, _, rfl, ?_⟩
          refine ⟨fun hh => absurd hh (by decide), fun _ => ⟨fun _ => revalL_load (a := ⟨h'.length, 6, some 0⟩) (v := t.rv) rfl rfl ?_ ?_, fun _ => trivial⟩⟩
          · simp [hb4]
          · simp
        · cases hst : standsB (stW first L fun x => decide (x ≤ t.seen)) t.rs with
          | false =>
            simp
            exact ⟨⟨L, hL, (chkV_bad htm hst).symm⟩, f12.trans fr6⟩
          | true =>
            simp [r16, i3]
            exact good hst _ _ fr6 (by simp [r0]) (by simp [r5]) (by simp [r14]) (by simp [r15]) (by simp)
    · simp [r0, r5, r14, r15, r16, hlt]
      rw [List.take_of_length_le (by omega)] at hall
      exact ⟨⟨L, hL, by simp [chkV]; simpa using hall⟩, f12.trans fr⟩
end Go.Proofs.Ytlifcjggdandnaa
