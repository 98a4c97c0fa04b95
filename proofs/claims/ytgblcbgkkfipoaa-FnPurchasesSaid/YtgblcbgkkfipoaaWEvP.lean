/-
  Rounds, by goals: what a printed function answers if it has enough rounds, and what is known of the answer. Plain Lean, no program.
-/
import Derived.Test.YtgblcbgkkfipoaaWEvs
namespace Go.Proofs.YtgblcbgkkfipoaaW.Evs
open Go.RowKit Go.Proofs.YtgblcbgkkfipoaaW.PrintWords
theorem Ev.pos {α : Type} {c : Prop} [Decidable c] {f g : Nat → Option α} {r : α} (h : c) (k : Ev f r) : Ev (fun n => if c then f n else g n) r := by simpa only [if_pos h] using k
theorem Ev.neg {α : Type} {c : Prop} [Decidable c] {f g : Nat → Option α} {r : α} (h : ¬ c) (k : Ev g r) : Ev (fun n => if c then f n else g n) r := by simpa only [if_neg h] using k
theorem Ev.bindS {α β : Type} {g : Option α} {f : Nat → α → Option β} {a : α} {r : β} (h : g = some a) (k : Ev (fun n => f n a) r) : Ev (fun n => g.bind (f n)) r := by subst h; exact k
/-- With enough rounds g answers, and P holds of the answer. -/
def EvP {α : Type} (g : Nat → Option α) (P : α → Prop) : Prop := ∃ v, Ev g v ∧ P v
theorem EvP.of {α : Type} {g : Nat → Option α} {P : α → Prop} {v : α} (h : Ev g v) (p : P v) : EvP g P := ⟨v, h, p⟩
theorem EvP.ev {α : Type} {g : Nat → Option α} {v : α} (h : EvP g (fun x => x = v)) : Ev g v := by obtain ⟨w, h, rfl⟩ := h; exact h
theorem EvP.now {α : Type} {P : α → Prop} {v : α} (p : P v) : EvP (fun _ => some v) P := ⟨v, Ev.now v, p⟩
theorem EvP.mono {α : Type} {g : Nat → Option α} {P Q : α → Prop} (h : EvP g P) (k : ∀ v, P v → Q v) : EvP g Q := by obtain ⟨v, h, p⟩ := h; exact ⟨v, h, k v p⟩
theorem EvP.bind {α β : Type} {g : Nat → Option α} {f : Nat → α → Option β} {P : α → Prop} {Q : β → Prop} (h : EvP g P) (k : ∀ v, P v → EvP (fun n => f n v) Q) : EvP (fun n => (g n).bind (f n)) Q := by
  obtain ⟨v, h, p⟩ := h
  obtain ⟨w, h2, q⟩ := k v p
  exact ⟨w, Ev.bind h h2, q⟩
theorem EvP.bindE {α β : Type} {g : Nat → Option α} {f : Nat → α → Option β} {v : α} {Q : β → Prop} (h : Ev g v) (k : EvP (fun n => f n v) Q) : EvP (fun n => (g n).bind (f n)) Q := by
  obtain ⟨w, h2, q⟩ := k
  exact ⟨w, Ev.bind h h2, q⟩
theorem EvP.bindS {α β : Type} {g : Option α} {f : Nat → α → Option β} {a : α} {Q : β → Prop} (h : g = some a) (k : EvP (fun n => f n a) Q) : EvP (fun n => g.bind (f n)) Q := by subst h; exact k
/-- A function without rounds. -/
theorem EvP.bindQ {α β : Type} {g : Option α} {f : Nat → α → Option β} {P : α → Prop} {Q : β → Prop} (h : ∃ a, g = some a ∧ P a) (k : ∀ a, P a → EvP (fun n => f n a) Q) : EvP (fun n => g.bind (f n)) Q := by
  obtain ⟨a, rfl, p⟩ := h
  exact k a p
theorem EvP.pos {α : Type} {c : Prop} [Decidable c] {f g : Nat → Option α} {P : α → Prop} (h : c) (k : EvP f P) : EvP (fun n => if c then f n else g n) P := by simpa only [if_pos h] using k
theorem EvP.neg {α : Type} {c : Prop} [Decidable c] {f g : Nat → Option α} {P : α → Prop} (h : ¬ c) (k : EvP g P) : EvP (fun n => if c then f n else g n) P := by simpa only [if_neg h] using k
theorem EvP.ite {α : Type} {c : Prop} [Decidable c] {f g : Nat → Option α} {P : α → Prop} (h : c → EvP f P) (k : ¬ c → EvP g P) : EvP (fun n => if c then f n else g n) P := by
  by_cases hc : c
  · exact EvP.pos hc (h hc)
  · exact EvP.neg hc (k hc)
theorem EvP.step {α : Type} {g f : Nat → Option α} {P : α → Prop} (h : ∀ k, g (k + 1) = f k) (k : EvP f P) : EvP g P := by
  obtain ⟨v, h2, p⟩ := k
  exact ⟨v, Ev.step h h2, p⟩
theorem EvP.succ {α : Type} {g : Nat → Option α} {P : α → Prop} (h : EvP (fun k => g (k + 1)) P) : EvP g P := EvP.step (fun _ => rfl) h
theorem EvP.rounds {α : Type} {g : Nat → Option α} {v : α} (h : EvP g (fun x => x = v)) : ∃ k, g k = some v := h.ev.rounds
end Go.Proofs.YtgblcbgkkfipoaaW.Evs
