/- append, copy, clear: related. -/
import Derived.Test.YtlifcjggdandnaaE5
import Derived.Laws.Append
import Derived.Laws.AppendOwn
namespace Go.Ideal
open Go.RowKit
section
variable {P : Program} {w0 w : World} {h h' h2 : Heap} {μ μ' μ2 : Mp} {B : Nat}

/-- A row that has grown, where it was or in a new block. -/
theorem RelW.renew (hw : RelW P w0 h μ w) {i : Nat} {cs cs' : List Value} {e : TypeId} {g : Nat} {p p' : Nat × Nat} {w' : World} (ho : h[i]? = some (.row cs e g)) (hp : μ[i]? = some p)
    (hnew : p'.1 = p.1 ∨ p'.1 ≥ w.heap.size) (hb : Below w0.heap.size w0 w') (hother : ∀ k, k < w.heap.size → k ≠ p.1 → w'.heap[k]? = w.heap[k]?)
    (hobj : RelO P w0.heap.size h μ w' (.row cs' e (g + 1)) p') :
    RelW P w0 (h.set i (.row cs' e (g + 1))) (μ.set i p') w' ∧ Ext h μ (h.set i (.row cs' e (g + 1))) (μ.set i p') := by
  have hi : i < h.length := (List.getElem?_eq_some_iff.1 ho).1
  have hi' : i < μ.length := by rw [hw.len]; exact hi
  have he : Ext h μ (h.set i (.row cs' e (g + 1))) (μ.set i p') := by
    intro j q hq
    by_cases hij : i = j
    · subst hij
      rw [ho] at hq
      cases hq
      exact ⟨.row cs' e (g + 1), by rw [List.getElem?_set_self hi], rfl, by simp [IObj.gen], fun hx => by simp [IObj.gen] at hx⟩
    · exact ⟨q, by rw [List.getElem?_set_ne hij]; exact hq, kin.refl q, Nat.le_refl _, fun _ => by rw [List.getElem?_set_ne hij]⟩
  have hbl : ∀ (j : Nat) (q : Nat × Nat), μ[j]? = some q → q.1 < w.heap.size := fun j q hq => by
    have hj : j < h.length := by rw [← hw.len]; exact (List.getElem?_eq_some_iff.1 hq).1
    exact hw.block_lt (List.getElem?_eq_getElem hj) hq
  have hne : ∀ (j : Nat) (q : Nat × Nat), j ≠ i → μ[j]? = some q → q.1 ≠ p'.1 := fun j q hj hq hx => by
    rcases hnew with h1 | h1
    · exact hj (hw.inj j i q p hq hp (by omega))
    · have := hbl j q hq; omega
  refine ⟨⟨by simpa using hw.len, fun a b q r hq hr hqr => ?_, fun a q hq => ?_, fun j o q hj hq => ?_, hb⟩, he⟩
  · by_cases ha : i = a <;> by_cases hb' : i = b
    · omega
    · subst ha
      rw [List.getElem?_set_self hi'] at hq
      rw [List.getElem?_set_ne hb'] at hr
      cases hq
      exact absurd hqr.symm (hne b r (Ne.symm hb') hr)
    · subst hb'
      rw [List.getElem?_set_self hi'] at hr
      rw [List.getElem?_set_ne ha] at hq
      cases hr
      exact absurd hqr (hne a q (Ne.symm ha) hq)
    · rw [List.getElem?_set_ne ha] at hq
      rw [List.getElem?_set_ne hb'] at hr
      exact hw.inj a b q r hq hr hqr
  · by_cases ha : i = a
    · subst ha
      rw [List.getElem?_set_self hi'] at hq
      cases hq
      have := hw.ge _ _ hp
      have := hw.below.size
      omega
    · rw [List.getElem?_set_ne ha] at hq
      exact hw.ge _ _ hq
  · by_cases hij : i = j
    · subst hij
      rw [List.getElem?_set_self hi] at hj
      rw [List.getElem?_set_self hi'] at hq
      cases hj
      cases hq
      exact hobj.mono he
    · rw [List.getElem?_set_ne hij] at hj hq
      have h1 := hbl j q hq
      exact ((hw.obj j o q hj hq).world (hother _ h1 fun hx => hij (hw.inj j i q p hq hp hx).symm)).mono he

/-- Append within the room, wherever the row begins. -/
theorem run_append_room' (t ty e : TypeId) (i : TypeInfo) (ht : P.underlying t = some (.slice e)) (hi : P.info? e = some i) (a0 : Addr) (sLen sCap : Nat)
    (a : Addr) (m c : Nat) (news : List Value) (hl : news.length = m * i.size) (hnews : ∀ j u, news[j]? = some u → w.cell? (a.add j) = some u)
    (hroom : sLen + m ≤ sCap) {w' : World} (hst : (storeCells (a0.add (sLen * i.size)) news).run P w = .ok () w') :
    (Builtin.append_ #[t, t] ty #[.slice (some a0) sLen sCap, .slice (some a) m c]).run P w = .ok (.slice (some a0) (sLen + m) sCap) w' := by
  have hf := run_firstCells_some (P := P) w i.size m a m c news hl hnews
  simp [Builtin.append_, run_underlying ht, sizeOf, typeInfo, hi, Builtin.lenOf, hroom, hf, hst]

theorem run_append_none (t ty e : TypeId) (i : TypeInfo) (ht : P.underlying t = some (.slice e)) (hi : P.info? e = some i) (s : Value) (a0 : Option Addr) (n cap : Nat) (hs : s = .slice a0 n cap) (hn : n ≤ cap)
    (x : Value) (b : Option Addr) (c : Nat) (hx : x = .slice b 0 c) : (Builtin.append_ #[t, t] ty #[s, x]).run P w = .ok s w := by
  subst hs; subst hx
  have hf : (Builtin.firstCells i.size 0 (.slice b 0 c)).run P w = .ok #[] w := by
    cases b with
    | none => simp [Builtin.firstCells]
    | some b => simp [Builtin.firstCells, loadCells, loadCellsFrom]
  cases a0 with
  | none => simp [Builtin.append_, run_underlying ht, sizeOf, typeInfo, hi, Builtin.lenOf, hn, hf]
  | some a0 => simp [Builtin.append_, run_underlying ht, sizeOf, typeInfo, hi, Builtin.lenOf, hn, hf, storeCells]

theorem relL_len {xs ys : List Value} (hl : RelL P B h μ xs ys) : ys.length = xs.length := hl.1.symm

/-- What a moved row holds. -/
theorem moved_obj {l l' : List Value} {zs : Array Value} {e : TypeId} {g : Nat} (hl : RelL P B h μ l l') (W : World) :
    RelO P B h μ (W.alloc (.cells (l'.toArray ++ zs) e)) (.row l e g) (W.heap.size, (l'.toArray ++ zs).size) := by
  refine ⟨_, heap_alloc_new W _, rfl, by simp [hl.1], fun i v hv => ?_⟩
  have hi : i < l'.length := by rw [← hl.1]; exact (List.getElem?_eq_some_iff.1 hv).1
  refine ⟨l'[i], ?_, hl.2 i v _ hv (List.getElem?_eq_getElem hi)⟩
  rw [Array.getElem?_append_left (by simpa using hi)]
  simp [hi]

theorem ifirst_sim (hw : RelW P w0 h μ w) {e : TypeId} {x x' : Value} {n len k : Nat} {l : List Value} (hk : tsize P e = some k) (hx : RelV P w0.heap.size h μ x x') (hlen : ilen x = some len) (hnl : n ≤ len)
    (hr : ifirst P w0 h e x n = some l) :
    ∃ a' cap l', x' = .slice a' len cap ∧ RelL P w0.heap.size h μ l l' ∧ l'.length = n * k ∧ (Builtin.firstCells k n x').run P w = .ok l'.toArray w ∧
      (∀ b, a' = some b → ∀ (j : Nat) (u : Value), l'[j]? = some u → w.cell? (b.add j) = some u) ∧ (n ≠ 0 → a' ≠ none) := by
  unfold ifirst at hr
  rw [hk] at hr
  simp only [Option.bind_some] at hr
  split at hr
  · rename_i a ln c
    simp [ilen] at hlen
    subst hlen
    obtain ⟨a', cap, rfl, hA, _⟩ := hx.slice_addr
    split at hr
    · rename_i h0
      subst h0
      cases hr
      exact ⟨some a', cap, [], rfl, .nil, by simp, by simp [Builtin.firstCells, loadCells, loadCellsFrom], by simp, by simp⟩
    · rename_i h0
      obtain ⟨l', hl, hln, hc⟩ := rdN_sim hw (hA (by omega)) hr
      refine ⟨some a', cap, l', rfl, hl, by rw [← hl.1, hln], ?_, fun b hb => by cases hb; exact hc, by simp⟩
      have := run_loadCells_list (P := P) w a' l' hc
      rw [← hl.1, hln] at this
      simp [Builtin.firstCells, this]
  · rename_i ln c
    split at hr
    · rename_i h0
      subst h0
      cases hr
      obtain ⟨a', cap, rfl, ha⟩ := hx.slice_inv
      have : a' = none := by simpa using ha
      subst this
      simp [ilen] at hlen
      subst hlen
      exact ⟨none, cap, [], rfl, .nil, by simp, by simp [Builtin.firstCells], by simp, by simp⟩
    · cases hr
  · cases hr

theorem last_at {p : Nat × Nat} {n : Nat} (hl : μ.length = n) : (μ ++ [p])[n]? = some p := by
  subst hl; simp

theorem alloc_at_old (W : World) (O : Obj) {k : Nat} (hk : k < W.heap.size) : (W.alloc O).heap[k]? = W.heap[k]? := by
  show (W.heap.push O)[k]? = _
  rw [Array.getElem?_push_lt hk, Array.getElem?_eq_getElem hk]

theorem iappend_sim (hw : RelW P w0 h μ w) {t tx ty : TypeId} {s s' x x' : Value} {r : IRes} (hs : RelV P w0.heap.size h μ s s') (hx : RelV P w0.heap.size h μ x x')
    (hr : iappend P w0 h t tx s x = some r) : Sim P w0 h μ w r ((do pure (.value (← Builtin.append_ #[t, tx] ty #[s', x'])) : Sem Next).run P w) := by
  unfold iappend at hr
  split at hr
  · cases hr
  rename_i htx
  have htx : tx = t := by simpa using htx
  subst htx
  split at hr
  case h_2 => cases hr
  rename_i e ht
  rw [Option.bind_eq_some_iff] at hr; obtain ⟨z, hz, hr⟩ := hr
  rw [Option.bind_eq_some_iff] at hr; obtain ⟨i, hi, hr⟩ := hr
  obtain ⟨i', z0, hi', h0, hzc, hpl, hsz⟩ := izero_spec hz
  rw [hi] at hi'
  cases hi'
  rw [Option.bind_eq_some_iff] at hr; obtain ⟨m, hm, hr⟩ := hr
  have hxs : ∃ b c, x' = .slice b m c := by
    cases x <;> simp [ilen] at hm
    subst hm
    obtain ⟨a', cap, rfl, _⟩ := hx.slice_inv
    exact ⟨a', cap, rfl⟩
  split at hr
  · -- nothing is appended
    rename_i hm0
    subst hm0
    obtain ⟨b, c, hxb⟩ := hxs
    have fin : ∀ a0 n cap, s' = .slice a0 n cap → n ≤ cap → Sim P w0 h μ w (.val s h) ((do pure (.value (← Builtin.append_ #[tx, tx] ty #[s', x'])) : Sem Next).run P w) := fun a0 n cap h1 h2 => by
      refine sim_val hw ?_ hs
      simp [run_append_none (P := P) (w := w) tx ty e i ht hi s' a0 n cap h1 h2 x' b c hxb]
    split at hr
    · cases hr
      cases hs.plain_inv rfl
      exact fin none 0 0 rfl (Nat.le_refl _)
    · rename_i a n
      rw [Option.map_eq_some_iff] at hr; obtain ⟨cp, hcp, hr⟩ := hr
      cases hr
      cases hs with
      | plain _ hp => simp [plainV] at hp
      | grow _ a' _ cap hg =>
        refine fin (some a') n cap rfl ?_
        obtain ⟨g, cs, e1, g', h1, h2, h3, h4⟩ := hg
        simp only [icap, h1, h3] at hcp
        obtain ⟨s1, hs1, hcp⟩ := Option.bind_eq_some_iff.1 hcp
        split at hcp
        · rename_i hcond
          rcases h4 with h4 | ⟨_, _, _, _, _, _, _, _, hn, _⟩
          · omega
          · exact hn
        · cases hcp
    · rename_i a n c hne
      cases hr
      obtain ⟨a', cap, rfl, _, hc⟩ := hs.slice_addr
      exact fin (some a') n cap rfl (hc (fun hc0 => hne hc0))
    · cases hr
  · rename_i hm0
    rw [Option.bind_eq_some_iff] at hr; obtain ⟨new, hnew, hr⟩ := hr
    split at hr
    · cases hr
    rename_i hcond
    simp only [not_or, Decidable.not_not] at hcond
    obtain ⟨hz1, hleaf⟩ := hcond
    have hks : tsize P e = some i.size := tsize_of hi
    have hpos : i.size ≠ 0 := by rw [← hsz]; exact hz1
    obtain ⟨b', c, us, rfl, hus, husl, _, husc, hbn⟩ := ifirst_sim hw hks hx hm (Nat.le_refl _) hnew
    obtain ⟨b, rfl⟩ : ∃ b, b' = some b := by
      cases b' with
      | none => exact absurd rfl (hbn hm0)
      | some b => exact ⟨b, rfl⟩
    have husc' := husc b rfl
    split at hr
    · -- onto nil
      split at hr
      · cases hr
      rename_i hb
      cases hr
      cases hs.plain_inv rfl
      have hrun := run_append_nil (P := P) w tx ty e i z0 ht hi h0 b m c us husl husc' (by omega) (by omega) (by omega)
      have hge := grownCap_ge w m 0 e
      have hz0 : z0.cells.size = i.size := by rw [← hsz, ← hzc]; simp
      obtain ⟨h1, h2⟩ := hw.drew.push (moved_obj (P := P) (B := w0.heap.size) (h := h) (μ := μ) (e := e) (g := 0) (zs := Builtin.zeroCells z0.cells (grownCap w m 0 e - m)) hus w.drew)
      refine ⟨_, _, _, by rw [Sem.run_bind, hrun]; rfl, h1, h2, ?_⟩
      refine .grow _ _ _ _ ⟨0, new, e, 0, rfl, rfl, by simp, .inr ⟨rfl, _, i.size, last_at hw.len, rfl, hks, hpos, ?_, hge, grownCap_le_maxLen w m 0 e (by unfold maxLen; omega)⟩⟩
      simp only [Array.size_append, List.size_toArray, size_zeroCells, husl, hz0, ← Nat.add_mul]
      congr 1
      omega
    · rename_i a n c'
      split at hr
      · cases hr
      rename_i hb
      simp only [not_or, Nat.not_lt, gt_iff_lt] at hb
      have hz0 : z0.cells.size = i.size := by rw [← hsz, ← hzc]; simp
      -- a row of more room, anew
      have moved : ∀ (a' : Addr) (cap : Nat) (old old' : List Value), cap < n + m → RelL P w0.heap.size h μ old old' → old'.length = n * i.size →
          (∀ (j : Nat) (u : Value), old'[j]? = some u → w.cell? (a'.add j) = some u) →
          (Builtin.append_ #[tx, tx] ty #[.slice (some a') n cap, .slice (some b) m c]).run P w = .ok (.slice (some ⟨w.heap.size, 0, none⟩) (n + m) (grownCap w (n + m) cap e))
            (w.drew.alloc (.cells ((old' ++ us).toArray ++ Builtin.zeroCells z0.cells (grownCap w (n + m) cap e - (n + m))) e)) ∧
          ((old' ++ us).toArray ++ Builtin.zeroCells z0.cells (grownCap w (n + m) cap e - (n + m))).size = grownCap w (n + m) cap e * i.size ∧ n + m ≤ grownCap w (n + m) cap e ∧ grownCap w (n + m) cap e ≤ maxLen := by
        intro a' cap old old' hcap _ hol hoc
        have hfit := growslice_fits (need := n + m) (old := cap) (bytes := i.bytes) hcap (by omega)
        have hrun := run_append_grow (P := P) w tx ty e i z0 ht hi h0 a' n cap old' hol hoc b m c us husl husc' hcap (by omega) hfit
        have hge := grownCap_ge w (n + m) cap e
        refine ⟨by simpa using hrun, ?_, hge, grownCap_le_maxLen w (n + m) cap e (by unfold maxLen; omega)⟩
        simp only [Array.size_append, List.size_toArray, List.length_append, size_zeroCells, hol, husl, hz0, ← Nat.add_mul]
        congr 1
        omega
      split at hr
      · -- a row that grows
        split at hr
        case h_2 => cases hr
        rename_i g cs e' g' hspot ho
        split at hr
        case isFalse => cases hr
        rename_i hc
        obtain ⟨rfl, hoff, rfl⟩ := hc
        cases hs with
        | plain _ hp => simp [plainV] at hp
        | grow _ a' _ cap hg =>
        obtain ⟨g1, cs1, e1, g2, q1, q2, q3, q4⟩ := hg
        rw [hspot] at q1
        cases q1
        rw [ho] at q3
        cases q3
        rcases q4 with q4 | ⟨_, p, s1, hp, rfl, hs1, _, hcap, hn, hmx⟩
        · omega
        have hss : s1 = i.size := by rw [hks] at hs1; exact (Option.some.inj hs1).symm
        subst hss
        obtain ⟨C, hC1, hC2, hC3, hC4⟩ := hw.obj _ _ _ ho hp
        split at hr
        · rename_i hfull
          cases hr
          rw [hsz] at hfull
          have hold : RelL P w0.heap.size h μ cs (C.toList.take (n * i.size)) := by
            refine ⟨by simp; omega, fun j v u hv hu => ?_⟩
            obtain ⟨u', hu', hrel⟩ := hC4 j v hv
            rw [List.getElem?_take] at hu
            split at hu
            · rw [Array.getElem?_toList, hu'] at hu; cases hu; exact hrel
            · cases hu
          by_cases hroom : n + m ≤ cap
          · have hfit : n * i.size + us.length ≤ C.size := by rw [husl, hC2, ← hcap, ← Nat.add_mul]; exact Nat.mul_le_mul_right _ hroom
            have hrun := run_append_room (P := P) w tx ty e i ht hi p.1 n cap C hC1 b m c us husl husc' (hus.leafs hleaf) hroom hfit
            obtain ⟨h1, h2⟩ := hw.renew (p' := p) (cs' := cs ++ new) (w' := w.setRow p.1 (C.toList.take (n * i.size) ++ us ++ C.toList.drop (n * i.size + us.length)).toArray) ho hp (.inl rfl)
              (below_setRow hw.below (hw.ge _ _ hp) _) (fun k _ hk => setRow_other _ _ _ _ hk)
              ⟨_, setRow_heap w p.1 C _ e (0, 0) hC1, by simp; omega, by simp; rw [hus.1]; omega, fun j v hv => by
                rw [List.append_assoc] at *
                have hap := hold.append hus
                have hj : j < (C.toList.take (n * i.size) ++ us).length := by rw [← hap.1]; exact (List.getElem?_eq_some_iff.1 hv).1
                refine ⟨(C.toList.take (n * i.size) ++ us)[j], ?_, hap.2 j v _ hv (List.getElem?_eq_getElem hj)⟩
                rw [List.getElem?_toArray, ← List.append_assoc, List.getElem?_append_left hj, List.getElem?_eq_getElem hj]⟩
            refine ⟨_, _, _, by rw [Sem.run_bind, hrun]; rfl, h1, h2, ?_⟩
            have hbl : a.block < h.length := (List.getElem?_eq_some_iff.1 ho).1
            exact .grow _ _ _ _ ⟨g + 1, cs ++ new, e, g + 1, rfl, rfl, by simp [hbl], .inr ⟨rfl, p, i.size, by simp [hw.len, hbl], rfl, hks, hpos, hcap, hroom, hmx⟩⟩
          · have hoc : ∀ (j : Nat) (u : Value), (C.toList.take (n * i.size))[j]? = some u → w.cell? ((⟨p.1, 0, none⟩ : Addr).add j) = some u := fun j u hu => by
              rw [List.getElem?_take] at hu
              split at hu
              · rw [Array.getElem?_toList] at hu
                rw [Addr.add_lit, Nat.zero_add]
                simp [World.cell?, hC1, hu]
              · cases hu
            obtain ⟨hrun, hsize, hge, hmax⟩ := moved ⟨p.1, 0, none⟩ cap cs _ (by omega) hold (by simp; omega) hoc
            obtain ⟨h1, h2⟩ := hw.drew.renew (p' := (w.heap.size, grownCap w (n + m) cap e * i.size)) (cs' := cs ++ new)
              (w' := w.drew.alloc (.cells ((C.toList.take (n * i.size) ++ us).toArray ++ Builtin.zeroCells z0.cells (grownCap w (n + m) cap e - (n + m))) e)) ho hp (.inr (Nat.le_refl _))
              (below_alloc' hw.drew.below _) (fun k hk _ => alloc_at_old w.drew _ hk)
              (by rw [← hsize]; exact moved_obj (P := P) (e := e) (g := g + 1) (hold.append hus) w.drew)
            refine ⟨_, _, _, by rw [Sem.run_bind, hrun]; rfl, h1, h2, ?_⟩
            have hbl : a.block < h.length := (List.getElem?_eq_some_iff.1 ho).1
            exact .grow _ _ _ _ ⟨g + 1, cs ++ new, e, g + 1, rfl, rfl, by simp [hbl], .inr ⟨rfl, _, i.size, by simp [hw.len, hbl]; rfl, rfl, hks, hpos, rfl, hge, hmax⟩⟩
        · rw [Option.map_eq_some_iff] at hr; obtain ⟨h3, hwr, hr⟩ := hr
          cases hr
          rw [hsz] at hwr
          have hA : RelA w0.heap.size h μ a ⟨p.1, 0, none⟩ := by
            unfold RelA
            simp only [hspot]
            exact ⟨_, ho, .inr ⟨rfl, p, hp, by rw [hoff]⟩⟩
          obtain ⟨w', hst, h1, h2⟩ := wrN_sim hw (hA.shift (n * i.size)) hus hwr
          -- the row has that many cells
          have hle : n * i.size + new.length ≤ cs.length := by
            unfold wrN at hwr
            simp only [ush, hspot, ho, if_true, hoff, Nat.zero_add] at hwr
            split at hwr
            · assumption
            · cases hwr
          have hroom : n + m ≤ cap := by
            have h4 : (n + m) * i.size ≤ cap * i.size := by
              rw [hcap, ← hC2, Nat.add_mul, ← husl, ← hus.1]; omega
            exact Nat.le_of_mul_le_mul_right h4 (by omega)
          have hrun := run_append_room' (P := P) (w := w) tx ty e i ht hi ⟨p.1, 0, none⟩ n cap b m c us husl husc' hroom hst
          refine ⟨_, _, _, by rw [Sem.run_bind, hrun]; rfl, h1, h2, ?_⟩
          exact (RelV.grow (B := w0.heap.size) a ⟨p.1, 0, none⟩ (n + m) cap ⟨g, cs, e, g, hspot, hoff, ho, .inr ⟨rfl, p, i.size, hp, rfl, hks, hpos, hcap, hroom, hmx⟩⟩).mono h2
      · cases hr
      · -- a row of exact room
        rename_i k
        obtain ⟨a', cap, hse, hA, hcc⟩ := hs.slice_addr
        have hck : cap = k ∧ (k ≠ 0 → RelA w0.heap.size h μ a a') := by
          cases hs with
          | plain _ hp => simp [plainV] at hp
          | exact _ a2 _ k2 ha2 _ => simp at hse; obtain ⟨h1, h2⟩ := hse; subst h1; subst h2; exact ⟨rfl, ha2⟩
        obtain ⟨rfl, hA2⟩ := hck
        subst hse
        split at hr
        · rename_i hroom
          rw [Option.map_eq_some_iff] at hr; obtain ⟨h3, hwr, hr⟩ := hr
          cases hr
          rw [hsz] at hwr
          have hAA := hA2 (by omega)
          obtain ⟨w', hst, h1, h2⟩ := wrN_sim hw (hAA.shift (n * i.size)) hus hwr
          have hrun := run_append_room' (P := P) (w := w) tx ty e i ht hi a' n cap b m c us husl husc' hroom hst
          refine ⟨_, _, _, by rw [Sem.run_bind, hrun]; rfl, h1, h2, ?_⟩
          exact .exact _ _ _ _ (fun _ => hAA.mono h2) hroom
        · rename_i hroom
          rw [Option.bind_eq_some_iff] at hr; obtain ⟨old, hold, hr⟩ := hr
          cases hr
          obtain ⟨a2, cap2, old', hse2, hor, hol, _, hoc, _⟩ := ifirst_sim hw hks hs rfl (Nat.le_refl _) hold
          simp at hse2
          obtain ⟨rfl, rfl⟩ := hse2
          obtain ⟨hrun, hsize, hge, hmax⟩ := moved a' cap old old' (by omega) hor hol (hoc a' rfl)
          obtain ⟨h1, h2⟩ := hw.drew.push (moved_obj (P := P) (B := w0.heap.size) (h := h) (μ := μ) (e := e) (g := 0) (zs := Builtin.zeroCells z0.cells (grownCap w (n + m) cap e - (n + m))) (hor.append hus) w.drew)
          refine ⟨_, _, _, by rw [Sem.run_bind, hrun]; rfl, h1, h2, ?_⟩
          exact .grow _ _ _ _ ⟨0, old ++ new, e, 0, rfl, rfl, by simp, .inr ⟨rfl, _, i.size, last_at hw.len, rfl, hks, hpos, hsize.symm, hge, hmax⟩⟩
    · cases hr

theorem icopy_sim (hw : RelW P w0 h μ w) {t tx ty : TypeId} {d d' s s' : Value} {r : IRes} (hd : RelV P w0.heap.size h μ d d') (hs : RelV P w0.heap.size h μ s s')
    (hr : icopy P w0 h t d s = some r) : Sim P w0 h μ w r ((do pure (.value (← Builtin.copy_ #[t, tx] ty #[d', s'])) : Sem Next).run P w) := by
  unfold icopy at hr
  split at hr
  case h_2 => cases hr
  rename_i e da dn dc ht
  rw [Option.bind_eq_some_iff] at hr; obtain ⟨sn, hsn, hr⟩ := hr
  rw [Option.bind_eq_some_iff] at hr; obtain ⟨cs, hcs, hr⟩ := hr
  obtain ⟨k, hk⟩ : ∃ k, tsize P e = some k := by
    unfold ifirst at hcs
    rw [Option.bind_eq_some_iff] at hcs; obtain ⟨k, hk, _⟩ := hcs; exact ⟨k, hk⟩
  obtain ⟨a', cap, us, rfl, hus, husl, hfc, _, _⟩ := ifirst_sim hw hk hs hsn (Nat.min_le_left sn dn) hcs
  split at hr
  case isFalse => cases hr
  rename_i hleaf
  have hlen : Builtin.lenOf (.slice a' sn cap) = pure sn := rfl
  split at hr
  · cases hr
    obtain ⟨d2, cap2, rfl, hd2⟩ := hd.slice_inv
    have : d2 = none := by simpa using hd2
    subst this
    refine sim_val hw (u := .int .i64 (Nat.min sn dn : Nat)) ?_ (.plain _ rfl)
    simp [Builtin.copy_, run_underlying ht, hlen, run_sizeOf hk, hfc, goInt]
  · rename_i a
    obtain ⟨d2, cap2, rfl, hA, _⟩ := hd.slice_addr
    split at hr
    · rename_i h0
      cases hr
      have : us = [] := by apply List.eq_nil_of_length_eq_zero; have h0' : min sn dn = 0 := h0; rw [husl, h0', Nat.zero_mul]
      subst this
      refine sim_val hw (u := .int .i64 (Nat.min sn dn : Nat)) ?_ (.plain _ rfl)
      simp [Builtin.copy_, run_underlying ht, hlen, run_sizeOf hk, hfc, goInt, storeCells]
    · rename_i h0
      rw [Option.map_eq_some_iff] at hr; obtain ⟨h3, hwr, rfl⟩ := hr
      have hdn : dn ≠ 0 := by intro hx; subst hx; simp at h0
      obtain ⟨w', hst, h1, h2⟩ := wrN_sim hw (hA hdn) hus hwr
      refine ⟨.int .i64 (Nat.min sn dn : Nat), w', μ, ?_, h1, h2, .plain _ rfl⟩
      simp [Builtin.copy_, run_underlying ht, hlen, run_sizeOf hk, hfc, goInt, hst]

theorem zeroCells_repl {z : Array Value} (hz : z.size ≠ 0) (n : Nat) : (Builtin.zeroCells z n).toList = repl n z.toList := repl_made z hz n

theorem iclear_sim (hw : RelW P w0 h μ w) {t ty : TypeId} {x x' : Value} {r : IRes} (hx : RelV P w0.heap.size h μ x x')
    (hr : iclear P h t x = some r) : Sim P w0 h μ w r ((do pure (.value (← Builtin.clear_ #[t] ty #[x'])) : Sem Next).run P w) := by
  unfold iclear at hr
  split at hr
  · rename_i e a n c ht
    rw [Option.bind_eq_some_iff] at hr; obtain ⟨z, hz, hr⟩ := hr
    obtain ⟨i, z0, hi, h0, hzc, hpl, hsz⟩ := izero_spec hz
    obtain ⟨a', cap, rfl, hA, _⟩ := hx.slice_addr
    split at hr
    · rename_i hn
      subst hn
      cases hr
      refine sim_val hw (u := .tuple #[]) ?_ (RelL.tuple (by simpa using RelL.nil))
      simp [Builtin.clear_, run_underlying ht]
    · rename_i hn
      rw [Option.map_eq_some_iff] at hr; obtain ⟨h3, hwr, rfl⟩ := hr
      by_cases hz0 : z0.cells.size = 0
      · have hznil : z = [] := by rw [← hzc]; simpa using hz0
        have e1 : (Builtin.zeroCells z0.cells n).toList = [] := by simp [Builtin.zeroCells, hz0, Array.range_zero']
        have hwr' : wrN h a [] = some h3 := by rw [hznil] at hwr; simpa [repl] using hwr
        obtain ⟨w', hst, h1, h2⟩ := wrN_sim hw (hA hn) RelL.nil hwr'
        refine ⟨.tuple #[], w', μ, ?_, h1, h2, RelL.tuple (by simpa using RelL.nil)⟩
        obtain ⟨m, rfl⟩ : ∃ m, n = m + 1 := ⟨n - 1, by omega⟩
        simp [Builtin.clear_, run_underlying ht, run_zeroValue hi h0, e1, hst]
      · have hrel : RelL P w0.heap.size h μ (repl n z) (Builtin.zeroCells z0.cells n).toList := by
          rw [zeroCells_repl hz0, hzc]; exact (RelL.plain hpl).repl n
        obtain ⟨w', hst, h1, h2⟩ := wrN_sim hw (hA hn) hrel hwr
        refine ⟨.tuple #[], w', μ, ?_, h1, h2, RelL.tuple (by simpa using RelL.nil)⟩
        obtain ⟨m, rfl⟩ : ∃ m, n = m + 1 := ⟨n - 1, by omega⟩
        simp [Builtin.clear_, run_underlying ht, run_zeroValue hi h0, hst]
  · rename_i e n c ht
    cases hr
    obtain ⟨a', cap, rfl, ha⟩ := hx.slice_inv
    have : a' = none := by simpa using ha
    subst this
    refine sim_val hw (u := .tuple #[]) ?_ (RelL.tuple (by simpa using RelL.nil))
    simp [Builtin.clear_, run_underlying ht]
  · cases hr

end
end Go.Ideal
