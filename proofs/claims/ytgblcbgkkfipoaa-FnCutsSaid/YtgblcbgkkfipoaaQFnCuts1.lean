/-
  Plain lemmas for FnCuts: what the printed functions answer.
-/
import Derived.Test.YtgblcbgkkfipoaaXFnCutsx0
import Derived.Test.YtgblcbgkkfipoaaWEvP
import Derived.Test.YtgblcbgkkfipoaaWEvs
namespace Go.Proofs.Ytgblcbgkkfipoaa.Pure
open Go.RowKit Go.Proofs.YtgblcbgkkfipoaaW.PrintWords Go.Proofs.YtgblcbgkkfipoaaW.PrintLast Go.Proofs.YtgblcbgkkfipoaaW.PrintMore Go.Proofs.YtgblcbgkkfipoaaW.Evs Go.Proofs.Ytgblcbgkkfipoaa.XFnCuts
set_option linter.unusedVariables false
set_option linter.unusedSimpArgs false
-- the drawn numbers behind the end of the input: each of them comes, if one waits
def aff (p : Nat × Nat) (s : Nat) : Nat := (s * p.1 + p.2) % 18446744073709551616
def it {σ : Type} (f : σ → σ) : Nat → σ → σ
  | 0, s => s
  | n + 1, s => it f n (f s)
theorem it_add {σ : Type} (f : σ → σ) : ∀ m n s, it f (m + n) s = it f n (it f m s)
  | 0, n, s => by rw [Nat.zero_add]; rfl
  | m + 1, n, s => by rw [show m + 1 + n = (m + n) + 1 by omega]; exact it_add f m n (f s)
def thn (p q : Nat × Nat) : Nat × Nat := ((p.1 * q.1) % 18446744073709551616, (p.2 * q.1 + q.2) % 18446744073709551616)
theorem aff_thn (p q : Nat × Nat) (s : Nat) : aff q (aff p s) = aff (thn p q) s := by
  unfold aff thn
  have h1 : ∀ x q r M : Nat, (x % M * q + r) % M = (x * q + r) % M := fun x q r M => by rw [Nat.add_mod, Nat.mul_mod, Nat.mod_mod, ← Nat.mul_mod, ← Nat.add_mod]
  have h2 : ∀ s a b M : Nat, (s * (a % M) + b % M) % M = (s * a + b) % M := fun s a b M => by rw [Nat.add_mod, Nat.mod_mod, Nat.mul_mod, Nat.mod_mod, ← Nat.mul_mod, ← Nat.add_mod]
  simp only [h1, h2, Nat.add_mul, Nat.mul_assoc, Nat.add_assoc]
def dbl : Nat → Nat × Nat → Nat × Nat
  | 0, p => p
  | k + 1, p => dbl k (thn p p)
theorem it_dbl (g : Nat → Nat) : ∀ k n p, (∀ s, it g n s = aff p s) → ∀ s, it g (2 ^ k * n) s = aff (dbl k p) s
  | 0, n, p, h => by simpa [dbl] using h
  | k + 1, n, p, h => by
    have := it_dbl g k (n + n) (thn p p) (fun s => by rw [it_add, h, h, aff_thn])
    rw [show 2 ^ (k + 1) * n = 2 ^ k * (n + n) by rw [Nat.pow_succ, Nat.mul_assoc, Nat.two_mul]]
    exact this
theorem turn4 (s a b : Nat) (c : Nat) (ha : a % 4398046511104 = 1) (hb : b % 4398046511104 = c * 1099511627776) (hc : c = 1 ∨ c = 3) :
    (aff (a, b) s / 1099511627776) % 4 = (s / 1099511627776 % 4 + c) % 4 := by
  unfold aff
  obtain ⟨u, hu⟩ : ∃ u, a = 4398046511104 * u + 1 := ⟨a / 4398046511104, by omega⟩
  have e : s * a = 4398046511104 * (s * u) + s := by rw [hu, Nat.mul_add, Nat.mul_one, ← Nat.mul_assoc, ← Nat.mul_assoc, Nat.mul_comm s]
  simp only [e]
  generalize s * u = w
  rcases hc with rfl | rfl <;> omega
theorem hit (g : Nat → Nat) (p : Nat × Nat) (hg : ∀ s, g s = aff p s) (c : Nat) (ha : (dbl 40 p).1 % 4398046511104 = 1)
    (hb : (dbl 40 p).2 % 4398046511104 = c * 1099511627776) (hc : c = 1 ∨ c = 3) (s : Nat) : ∃ j, j ≤ 3298534883328 ∧ (it g j s / 1099511627776) % 4 = 0 := by
  have hF : ∀ s, it g 1099511627776 s = aff (dbl 40 p) s := fun s => by
    have := it_dbl g 40 1 p (fun s => hg s) s
    exact this
  have hT : ∀ s, (it g 1099511627776 s / 1099511627776) % 4 = (s / 1099511627776 % 4 + c) % 4 := fun s => by rw [hF]; exact turn4 s _ _ c ha hb hc
  have h0 : s / 1099511627776 % 4 < 4 := Nat.mod_lt _ (by omega)
  have h1 := hT s
  have h2 := hT (it g 1099511627776 s)
  have h3 := hT (it g 1099511627776 (it g 1099511627776 s))
  have e2 : it g 1099511627776 (it g 1099511627776 s) = it g 2199023255552 s := (it_add g 1099511627776 1099511627776 s).symm
  have e3 : it g 1099511627776 (it g 2199023255552 s) = it g 3298534883328 s := (it_add g 2199023255552 1099511627776 s).symm
  rw [e2] at h2 h3
  rw [e3] at h3
  generalize h4 : it g 1099511627776 s / 1099511627776 % 4 = x1 at *
  generalize h5 : it g 2199023255552 s / 1099511627776 % 4 = x2 at *
  generalize h6 : it g 3298534883328 s / 1099511627776 % 4 = x3 at *
  generalize h7 : s / 1099511627776 % 4 = x0 at *
  by_cases a0 : x0 = 0
  · exact ⟨0, by omega, by show s / 1099511627776 % 4 = 0; omega⟩
  by_cases a1 : x1 = 0
  · exact ⟨1099511627776, by omega, by omega⟩
  by_cases a2 : x2 = 0
  · exact ⟨2199023255552, by omega, by omega⟩
  · exact ⟨3298534883328, by omega, by rcases hc with rfl | rfl <;> omega⟩
def pL : Nat × Nat := (6364136223846793005, 1442695040888963407)
def lf (s : Nat) : Nat := aff pL s
/-- The pair of n steps. -/
def pn : Nat → Nat × Nat
  | 0 => (1, 0)
  | n + 1 => thn (pn n) pL
theorem it_snoc {σ : Type} (f : σ → σ) (n : Nat) (s : σ) : it f (n + 1) s = f (it f n s) := it_add f n 1 s
theorem it_lf : ∀ n s, s < 18446744073709551616 → it lf n s = aff (pn n) s
  | 0, s, h => by show s = (s * 1 + 0) % 18446744073709551616; omega
  | n + 1, s, h => by rw [it_snoc, it_lf n s h, pn, ← aff_thn]; rfl
theorem dbl_add : ∀ m n p, dbl (m + n) p = dbl n (dbl m p)
  | 0, n, p => by rw [Nat.zero_add]; rfl
  | m + 1, n, p => by rw [show m + 1 + n = (m + n) + 1 by omega]; exact dbl_add m n (thn p p)
theorem pn9 : pn 9 = (6584243485182795213, 8905969151499887831) := by decide +kernel
theorem dbl8_0 : dbl 8 (6584243485182795213, 8905969151499887831) = (2175474819262743553, 13381367393302686976) := by decide +kernel
theorem dbl8_1 : dbl 8 (2175474819262743553, 13381367393302686976) = (17033355110367100929, 13231940383156273152) := by decide +kernel
theorem dbl8_2 : dbl 8 (17033355110367100929, 13231940383156273152) = (8921685762307522561, 8955709345010548736) := by decide +kernel
theorem dbl8_3 : dbl 8 (8921685762307522561, 8955709345010548736) = (14425573332147503105, 12615201774584725504) := by decide +kernel
theorem dbl8_4 : dbl 8 (14425573332147503105, 12615201774584725504) = (3597958287850471425, 1311441394518196224) := by decide +kernel
theorem dbl40 : dbl 40 (pn 9) = (3597958287850471425, 1311441394518196224) := by
  rw [pn9, show (40 : Nat) = 8 + (8 + (8 + (8 + 8))) by rfl, dbl_add, dbl_add, dbl_add, dbl_add, dbl8_0, dbl8_1, dbl8_2, dbl8_3, dbl8_4]
theorem dbl40a : (dbl 40 (pn 9)).1 % 4398046511104 = 1 := by simp only [dbl40]
theorem dbl40b : (dbl 40 (pn 9)).2 % 4398046511104 = 1 * 1099511627776 := by simp only [dbl40]
theorem hit9_of (p : Nat × Nat) (hp : ∀ s, s < 18446744073709551616 → it lf 9 s = aff p s) (ha : (dbl 40 p).1 % 4398046511104 = 1) (hb : (dbl 40 p).2 % 4398046511104 = 1 * 1099511627776) (s : Nat) (hs : s < 18446744073709551616) :
    ∃ j, j ≤ 3298534883328 ∧ (it lf (9 * j) s / 1099511627776) % 4 = 0 := by
  obtain ⟨j, h1, h2⟩ := hit (aff p) p (fun _ => rfl) 1 ha hb (Or.inl rfl) s
  refine ⟨j, h1, ?_⟩
  have e : ∀ i s, s < 18446744073709551616 → it (aff p) i s = it lf (9 * i) s := by
    intro i
    induction i with
    | zero => intro s _; rw [Nat.mul_zero]; simp only [it]
    | succ i ih =>
      intro s hs
      rw [show 9 * (i + 1) = 9 + 9 * i by omega, it_add lf 9 (9 * i) s, hp s hs]
      exact ih (aff p s) (by unfold aff; omega)
  rw [← e j s hs]; exact h2
theorem hit9 (s : Nat) (hs : s < 18446744073709551616) : ∃ j, j ≤ 3298534883328 ∧ (it lf (9 * j) s / 1099511627776) % 4 = 0 :=
  hit9_of (pn 9) (fun s h => it_lf 9 s h) dbl40a dbl40b s hs
end Go.Proofs.Ytgblcbgkkfipoaa.Pure
