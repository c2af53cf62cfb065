/- Stores and new rows, related. -/
import Derived.Test.YtlifcjggdandnaaE2
import Derived.Laws.CopyOwn
namespace Go.Ideal
open Go.RowKit
section
variable {P : Program} {w0 w : World} {h h' h2 : Heap} {μ μ' μ2 : Mp}

theorem splice_get (cs : List Value) (off : Nat) (vs : List Value) (i : Nat) (hle : off + vs.length ≤ cs.length) :
    (splice cs off vs)[i]? = if i < off then cs[i]? else if i < off + vs.length then vs[i - off]? else cs[i]? := by
  unfold splice
  have ht : (cs.take off).length = off := by simp; omega
  by_cases h1 : i < off
  · rw [if_pos h1, List.append_assoc, List.getElem?_append_left (by omega), List.getElem?_take, if_pos h1]
  · rw [if_neg h1, List.append_assoc, List.getElem?_append_right (by omega), ht]
    by_cases h2 : i < off + vs.length
    · rw [if_pos h2, List.getElem?_append_left (by omega)]
    · rw [if_neg h2, List.getElem?_append_right (by omega), List.getElem?_drop]
      congr 1
      omega

theorem splice_length (cs : List Value) (off : Nat) (vs : List Value) (hle : off + vs.length ≤ cs.length) : (splice cs off vs).length = cs.length := by
  unfold splice; simp; omega

theorem splice_one (cs : List Value) (off : Nat) (v : Value) (h : off < cs.length) : splice cs off [v] = cs.set off v := by
  unfold splice
  rw [List.set_eq_take_append_cons_drop, if_pos h]
  simp

theorem wr1_eq (h : Heap) (a : Addr) (v : Value) : wr1 h a v = wrN h a [v] := by
  unfold wr1 wrN
  cases a.spot with
  | none => rfl
  | some g =>
    cases h[a.block]? with
    | none => rfl
    | some o =>
      cases o with
      | map es => rfl
      | row cs e g' =>
        by_cases hg : g = g'
        · by_cases hl : a.off < cs.length
          · have hl' : a.off + [v].length ≤ cs.length := by simp; omega
            cases hv : leaf v <;> simp [hg, hl, hv, splice_one _ _ _ hl] <;> omega
          · have hl' : ¬ a.off + [v].length ≤ cs.length := by simp; omega
            simp [hg, hl]
            omega
        · simp [hg]

theorem wrN_sim (hw : RelW P w0 h μ w) {a a' : Addr} (ha : RelA w0.heap.size h μ a a') {vs us : List Value} (hvs : RelL P w0.heap.size h μ vs us) (hr : wrN h a vs = some h') :
    ∃ w', (storeCells a' us).run P w = .ok () w' ∧ RelW P w0 h' μ w' ∧ Ext h μ h' μ := by
  unfold wrN at hr
  cases hs : a.spot with
  | none => simp [hs] at hr
  | some g =>
    simp only [hs] at hr
    cases ho : h[a.block]? with
    | none => simp [ho] at hr
    | some o =>
      cases o with
      | map es => simp [ho] at hr
      | row cs e g' =>
        simp only [ho] at hr
        split at hr
        case isFalse => cases hr
        rename_i hg
        subst hg
        split at hr
        case isFalse => cases hr
        rename_i hle
        split at hr
        case isFalse => cases hr
        rename_i hleaf
        cases hr
        obtain ⟨p, hp, rfl⟩ := ha.new_inv hs ho
        obtain ⟨c, hc, hsz, hcs, hcell⟩ := hw.obj _ _ _ ho hp
        have hul : us.length = vs.length := hvs.1.symm
        have hrun := run_storeCells_at P p.1 a.off e us 0 c w hc (by rw [hul]; omega) (hvs.leafs hleaf)
        rw [Nat.add_zero] at hrun
        have hsl := splice_length c.toList a.off us (by simp; omega)
        refine ⟨_, hrun, ?_⟩
        refine hw.setObj ho hp (o' := .row (splice cs a.off vs) e g) rfl rfl (below_setRow hw.below (hw.ge _ _ hp) _) (fun k hk => setRow_other _ _ _ _ hk) ?_
        refine ⟨_, setRow_heap w p.1 c _ e (0, 0) hc, ?_, ?_, fun i v hv => ?_⟩
        · have : (splice c.toList a.off us).length = c.size := by rw [hsl]; simp
          simpa [splice, hsz] using this
        · rw [splice_length _ _ _ hle]
          have : (splice c.toList a.off us).length = c.size := by rw [hsl]; simp
          simp only [splice] at this
          simpa using (by omega : cs.length ≤ (List.take a.off c.toList ++ us ++ List.drop (a.off + us.length) c.toList).length)
        · rw [splice_get _ _ _ _ hle] at hv
          show ∃ u, (splice c.toList a.off us).toArray[i]? = some u ∧ _
          rw [List.getElem?_toArray, splice_get _ _ _ _ (by simp; omega), hul]
          by_cases h1 : i < a.off
          · simp only [h1, if_true] at hv ⊢
            rw [Array.getElem?_toList]
            exact hcell i v hv
          · simp only [h1, if_false] at hv ⊢
            by_cases h2 : i < a.off + vs.length
            · simp only [h2, if_true] at hv ⊢
              have hi : i - a.off < us.length := by omega
              exact ⟨_, List.getElem?_eq_getElem hi, hvs.2 _ v _ hv (List.getElem?_eq_getElem hi)⟩
            · simp only [h2, if_false] at hv ⊢
              rw [Array.getElem?_toList]
              exact hcell i v hv

theorem istore_sim (hw : RelW P w0 h μ w) {a a' : Addr} (ha : RelA w0.heap.size h μ a a') {t : TypeId} {v u : Value} (hv : RelV P w0.heap.size h μ v u) (hr : istore P h t a v = some h') :
    ∃ w', (storeVar t a' u).run P w = .ok () w' ∧ RelW P w0 h' μ w' ∧ Ext h μ h' μ := by
  unfold istore at hr
  have key : ∀ n, tsize P t = some n → (vcells v).length = n → wrN h a (vcells v) = some h' → ∃ w', (storeVar t a' u).run P w = .ok () w' ∧ RelW P w0 h' μ w' ∧ Ext h μ h' μ := by
    intro n hn hl hwr
    obtain ⟨w', hrun, h1, h2⟩ := wrN_sim hw ha hv.cells hwr
    refine ⟨w', ?_, h1, h2⟩
    have hsz : u.cells.size = n := by rw [← hl, hv.cells.1]; simp [vcells]
    simp only [vcells] at hrun
    simp [storeVar, run_sizeOf hn, hsz, hrun]
  split at hr
  · rename_i cs
    obtain ⟨n, hn, hr⟩ := Option.bind_eq_some_iff.1 hr
    split at hr
    · rename_i hsz
      exact key n hn (by simp [vcells, Value.cells, hsz]) hr
    · cases hr
  · rename_i hna
    obtain ⟨n, hn, hr⟩ := Option.bind_eq_some_iff.1 hr
    split at hr
    · rename_i hsz
      have hvc : vcells v = [v] := by cases v <;> first | rfl | exact absurd rfl (hna _)
      rw [wr1_eq] at hr
      exact key n hn (by rw [hvc, hsz]; rfl) (by rw [hvc]; exact hr)
    · cases hr

theorem row_push (hw : RelW P w0 h μ w) {cells : List Value} {cs : Array Value} {e : TypeId} (hl : RelL P w0.heap.size h μ cells cs.toList) :
    RelW P w0 (h ++ [.row cells e 0]) (μ ++ [(w.heap.size, cs.size)]) (w.alloc (.cells cs e)) ∧ Ext h μ (h ++ [.row cells e 0]) (μ ++ [(w.heap.size, cs.size)]) := by
  refine hw.push ⟨cs, ?_, rfl, ?_, fun i v hv => ?_⟩
  · show (w.heap.push _)[w.heap.size]? = _
    simp
  · have := hl.1; simp at this; omega
  · have hi : i < cs.size := by have := hl.1; simp at this; have := (List.getElem?_eq_some_iff.1 hv).1; omega
    exact ⟨cs[i], by simp [hi], hl.2 i v _ hv (by simp [hi])⟩

/-- The address of a new row. -/
theorem new_addr {B : Nat} (o : IObj) (p : Nat × Nat) (hl : μ.length = h.length) (hg : o.gen = 0) : RelA B (h ++ [o]) (μ ++ [p]) ⟨h.length, 0, some 0⟩ ⟨p.1, 0, none⟩ := by
  refine ⟨o, by simp, .inr ⟨hg, p, by simp [← hl], rfl⟩⟩

theorem run_newRow (e : TypeId) (cs : Array Value) : (newRow e cs).run P w = .ok ⟨w.heap.size, 0, none⟩ (w.alloc (.cells cs e)) := by
  simp [newRow]

end
end Go.Ideal
