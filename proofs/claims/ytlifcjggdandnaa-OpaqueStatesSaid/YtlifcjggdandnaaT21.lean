/- The example of the document: told by a run. -/
import Derived.Test.YtlifcjggdandnaaT20
import Derived.KernelRfl
namespace Go.Proofs.Ytlifcjggdandnaa
open Go.Ideal
theorem mixed : Try.prog.follows .mixedOrders = true := by kernel_rfl
theorem no_hooks (w0 : World) : HooksOK Try.prog w0 (fun _ => none) := by
  intro f k hf
  cases hf

theorem lives7 (w0 : World) : (call Try.prog w0 (fun _ => none) 1000 50 7 [] []).map (·.1) = some (.ret (.bool true)) := by kernel_rfl

theorem lives_does (w0 : World) (h : Heap) : Does Try.prog w0 7 [] h (.ret (.bool true)) h :=
  Does.rebase rfl rfl fun w1 => by
    have := Option.map_eq_some_iff.1 (lives7 w1)
    obtain ⟨⟨r, h1⟩, hc, hr⟩ := this
    simp only at hr
    subst hr
    exact ⟨h1, does_call mixed (no_hooks w1) hc⟩

/-- The one told function. -/
def hkL : Hooks := fun f => if f = 7 then some (fun _ args h => if args.isEmpty then some (.ret (.bool true), h) else none) else none

theorem hkL_ok (w0 : World) : HooksOK Try.prog w0 hkL := by
  intro f k hf cl hcl args h r h' hr
  unfold hkL at hf
  split at hf
  · rename_i he
    subst he
    cases hf
    simp only at hr
    cases args with
    | nil =>
      simp at hr
      obtain ⟨rfl, rfl⟩ := hr
      exact lives_does w0 h
    | cons a bs => simp at hr
  · cases hf

theorem livesOk (w0 : World) : LivesOk w0 hkL 7 := fun h => Ans.hook (k := fun _ args h => if args.isEmpty then some (.ret (.bool true), h) else none) rfl ⟨0, fun n d _ _ => rfl⟩ ⟨rfl, rfl⟩
end Go.Proofs.Ytlifcjggdandnaa
