/- Tries, as they are read. -/
import Derived.Test.YtlifcjggdandnaaFacts
import Derived.Test.YtlifcjggdandnaaCode
namespace Go.Proofs.Ytlifcjggdandnaa
open Go.Ideal

/-- A try: its numbers, and its lists, with the values that lead to them. -/
structure Tx where
  (worker how seen stamp : Int) (fall sure : Bool) (rv wv : Value) (rs ws : List (Int × Int))

def Tx.cells (t : Tx) : List Value := [.int .i64 t.worker, .int .i64 t.how, .int .i64 t.seen, .int .i64 t.stamp, .bool t.fall, .bool t.sure, t.rv, t.wv]
def prow (p : Int × Int) : List Value := [.int .i64 p.1, .int .i64 p.2]
def irow1 (x : Int) : List Value := [.int .i64 x]
@[simp] theorem prow_len (p : Int × Int) : (prow p).length = 2 := rfl
@[simp] theorem cells_len (t : Tx) : t.cells.length = 8 := rfl

structure TxOk (w0 : World) (t : Tx) : Prop where
  r : ∀ h, Sl w0 h t.rv 2 (t.rs.map prow)
  w : ∀ h, Sl w0 h t.wv 2 (t.ws.map prow)
  lr : leaf t.rv = true
  lw : leaf t.wv = true

structure In (w0 : World) (fv tv : Value) (first : List Int) (txs : List Tx) : Prop where
  f : ∀ h, Sl w0 h fv 1 (first.map irow1)
  t : ∀ h, Sl w0 h tv 8 (txs.map Tx.cells)
  ok : ∀ t ∈ txs, TxOk w0 t
  nf : first.length ≤ 140737488351232
  nt : txs.length ≤ 140737488351232
  np : ∀ t ∈ txs, t.rs.length ≤ 140737488351232 ∧ t.ws.length ≤ 140737488351232

theorem In.at {w0 : World} {fv tv : Value} {first : List Int} {txs : List Tx} (hi : In w0 fv tv first txs) {i : Nat} {t : Tx} (ht : txs[i]? = some t) (h : Heap) :
    ixS 8 tv (.int .i64 (i : Nat)) = some (.pointer (some (sAt tv 8 i))) ∧ rdN w0 h (sAt tv 8 i) 8 = some t.cells ∧ rd w0 h (sAt tv 8 i) = some (.int .i64 t.worker) ∧ rd w0 h (ush (sAt tv 8 i) 2) = some (.int .i64 t.seen) ∧
    rd w0 h (ush (sAt tv 8 i) 3) = some (.int .i64 t.stamp) ∧ rd w0 h (ush (sAt tv 8 i) 4) = some (.bool t.fall) ∧ rd w0 h (ush (sAt tv 8 i) 5) = some (.bool t.sure) ∧ rd w0 h (ush (sAt tv 8 i) 6) = some t.rv ∧ rd w0 h (ush (sAt tv 8 i) 7) = some t.wv := by
  have hr : (txs.map Tx.cells)[i]? = some t.cells := by simp [ht]
  have hs := hi.t h
  exact ⟨hs.ix (by simpa using (List.getElem?_eq_some_iff.1 ht).1), hs.load hr, hs.cell0 hr rfl, hs.cell hr rfl, hs.cell hr rfl, hs.cell hr rfl, hs.cell hr rfl, hs.cell hr rfl, hs.cell hr rfl⟩

theorem pair_at {w0 : World} {h : Heap} {v : Value} {l : List (Int × Int)} (hs : Sl w0 h v 2 (l.map prow)) {i : Nat} {p : Int × Int} (hp : l[i]? = some p) :
    ixS 2 v (.int .i64 (i : Nat)) = some (.pointer (some (sAt v 2 i))) ∧ rdN w0 h (sAt v 2 i) 2 = some (prow p) ∧ rd w0 h (sAt v 2 i) = some (.int .i64 p.1) ∧ rd w0 h (ush (sAt v 2 i) 1) = some (.int .i64 p.2) := by
  have hr : (l.map prow)[i]? = some (prow p) := by simp [hp]
  exact ⟨hs.ix (by simpa using (List.getElem?_eq_some_iff.1 hp).1), hs.load hr, hs.cell0 hr rfl, hs.cell hr rfl⟩

theorem int_at {w0 : World} {h : Heap} {v : Value} {l : List Int} (hs : Sl w0 h v 1 (l.map irow1)) {i : Nat} {x : Int} (hx : l[i]? = some x) :
    ixS 1 v (.int .i64 (i : Nat)) = some (.pointer (some (sAt v 1 i))) ∧ rd w0 h (sAt v 1 i) = some (.int .i64 x) := by
  have hr : (l.map irow1)[i]? = some (irow1 x) := by simp [hx]
  exact ⟨hs.ix (by simpa using (List.getElem?_eq_some_iff.1 hx).1), hs.cell0 hr rfl⟩

theorem In.lt {w0 : World} {fv tv : Value} {first : List Int} {txs : List Tx} (hi : In w0 fv tv first txs) {t : Tx} (ht : t ∈ txs) : t.rs.length < 9223372036854775000 ∧ t.ws.length < 9223372036854775000 ∧ txs.length < 9223372036854775000 ∧ first.length < 9223372036854775000 := by
  have := hi.np t ht; have := hi.nt; have := hi.nf; omega

def greatB (first : List Int) (txs : List Tx) : Bool := decide (first.length > 300) || decide (txs.length > 40) || txs.any fun t => decide (t.rs.length + t.ws.length > 100)

variable {w0 : World} {hk : Hooks} {h : Heap}

set_option maxHeartbeats 4000000 in


theorem great_spec (hf : hk 6 = none) {fv tv : Value} {first : List Int} {txs : List Tx} (hi : In w0 fv tv first txs) : Ans Try.prog w0 hk 6 [fv, tv] h (fun r h' => r = .ret (.bool (greatB first txs)) ∧ Fr [] h h') := by
  refine Ans.run hf cmp_6 (by simp) ?_
  simp only [code_6]
  have l1 := (hi.f h).len
  have l2 := (hi.t h).len
  by_cases h1 : 300 < first.length
  · have : (300 : Int) < first.length := by omega
    simp [l1, this, Fr.refl, greatB, h1]
  have h1' : ¬ (300 : Int) < first.length := by omega
  by_cases h2 : 40 < txs.length
  · have : (40 : Int) < txs.length := by omega
    simp [l1, l2, h1', this, Fr.refl, greatB, h2]
  have h2' : ¬ (40 : Int) < txs.length := by omega
  simp [l1, l2, h1', h2']
  refine wp_rounds (fun k ρ h' => ∃ i, i ≤ txs.length ∧ k = txs.length - i ∧ ρ 0 = fv ∧ ρ 1 = tv ∧ ρ 5 = .int .i64 (i : Nat) ∧ (∀ t ∈ txs.take i, ¬ 100 < t.rs.length + t.ws.length) ∧ Fr [] h h') ?_ (k := txs.length) ⟨0, by simp, by simp, by simp, by simp, by simp, by simp, Fr.refl _ _⟩
  rintro I hI k ρ h' ⟨i, hi1, rfl, r0, r1, r5, hall, fr⟩
  have l2 := (hi.t h').len
  by_cases hlt : i < txs.length
  · have ht := List.getElem?_eq_getElem hlt
    generalize txs[i] = t at ht
    have tx := hi.ok t (List.mem_of_getElem? ht)
    obtain ⟨e1, e8, c0, c2, c3, c4, c5, c6, c7⟩ := hi.at ht h'
    have lr := (tx.r h').len
    have lw := (tx.w h').len
    have := hi.np t (List.mem_of_getElem? ht)
    have e2 : IntKind.i64.wrap ((t.rs.length : Int) + t.ws.length) = (t.rs.length : Int) + t.ws.length := IntWalk.i64_in _ ⟨by omega, by omega⟩
    have e3 : IntKind.i64.wrap ((i : Int) + 1) = (i : Int) + 1 := IntWalk.i64_in _ ⟨by omega, by have := hi.nt; omega⟩
    by_cases hg : 100 < t.rs.length + t.ws.length
    · have : (100 : Int) < (t.rs.length : Int) + t.ws.length := by omega
      simp [r0, r1, r5, l2, hlt, e1, c6, c7, lr, lw, e2, this, greatB, h1, h2]
      exact ⟨⟨t, List.mem_of_getElem? ht, hg⟩, fr⟩
    · have : ¬ (100 : Int) < (t.rs.length : Int) + t.ws.length := by omega
      simp [r0, r1, r5, l2, hlt, e1, c6, c7, lr, lw, e2, e3, this]
      subst hI
      refine ⟨_, by omega, i + 1, by omega, rfl, by simp [r0], by simp [r1], by simp, fun t' ht' => ?_, fr⟩
      rw [List.take_add_one, ht] at ht'
      simp at ht'
      rcases ht' with ht' | rfl
      · have := hall t' ht'; omega
      · omega
  · simp [r0, r1, r5, l2, hlt, greatB, h1, h2]
    rw [List.take_of_length_le (by omega)] at hall
    exact ⟨fun t ht => by have := hall t ht; omega, fr⟩
end Go.Proofs.Ytlifcjggdandnaa
