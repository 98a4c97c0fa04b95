/-
  Plain lemmas for FnPurchases: what the printed functions answer.
-/
import Derived.Test.YtgblcbgkkfipoaaXFnPurchasesx3
import Derived.Test.YtgblcbgkkfipoaaWEvP
import Derived.Test.YtgblcbgkkfipoaaWEvs
namespace Go.Proofs.Ytgblcbgkkfipoaa.Pure
open Go.RowKit Go.Proofs.YtgblcbgkkfipoaaW.PrintWords Go.Proofs.YtgblcbgkkfipoaaW.PrintLast Go.Proofs.YtgblcbgkkfipoaaW.PrintMore Go.Proofs.YtgblcbgkkfipoaaW.Evs Go.Proofs.Ytgblcbgkkfipoaa.XFnPurchases
set_option linter.unusedVariables false
set_option linter.unusedSimpArgs false
-- the drawn numbers behind the end of the input: each of them comes, if one waits
def aff (p : Nat × Nat) (s : Nat) : Nat := (s * p.1 + p.2) % 18446744073709551616
def it {σ : Type} (f : σ → σ) : Nat → σ → σ
  | 0, s => s
  | n + 1, s => it f n (f s)
theorem it_add {σ : Type} (f : σ → σ) : ∀ m n s, it f (m + n) s = it f n (it f m s)
  | 0, n, s => by rw [Nat.zero_add]; rfl
  | m + 1, n, s => by rw [show m + 1 + n = (m + n) + 1 by omega]; exact it_add f m n (f s)
def thn (p q : Nat × Nat) : Nat × Nat := ((p.1 * q.1) % 18446744073709551616, (p.2 * q.1 + q.2) % 18446744073709551616)
theorem aff_thn (p q : Nat × Nat) (s : Nat) : aff q (aff p s) = aff (thn p q) s := by
  unfold aff thn
  have h1 : ∀ x q r M : Nat, (x % M * q + r) % M = (x * q + r) % M := fun x q r M => by rw [Nat.add_mod, Nat.mul_mod, Nat.mod_mod, ← Nat.mul_mod, ← Nat.add_mod]
  have h2 : ∀ s a b M : Nat, (s * (a % M) + b % M) % M = (s * a + b) % M := fun s a b M => by rw [Nat.add_mod, Nat.mod_mod, Nat.mul_mod, Nat.mod_mod, ← Nat.mul_mod, ← Nat.add_mod]
  simp only [h1, h2, Nat.add_mul, Nat.mul_assoc, Nat.add_assoc]
def dbl : Nat → Nat × Nat → Nat × Nat
  | 0, p => p
  | k + 1, p => dbl k (thn p p)
theorem it_dbl (g : Nat → Nat) : ∀ k n p, (∀ s, it g n s = aff p s) → ∀ s, it g (2 ^ k * n) s = aff (dbl k p) s
  | 0, n, p, h => by simpa [dbl] using h
  | k + 1, n, p, h => by
    have := it_dbl g k (n + n) (thn p p) (fun s => by rw [it_add, h, h, aff_thn])
    rw [show 2 ^ (k + 1) * n = 2 ^ k * (n + n) by rw [Nat.pow_succ, Nat.mul_assoc, Nat.two_mul]]
    exact this
theorem turn4 (s a b : Nat) (c : Nat) (ha : a % 4398046511104 = 1) (hb : b % 4398046511104 = c * 1099511627776) (hc : c = 1 ∨ c = 3) :
    (aff (a, b) s / 1099511627776) % 4 = (s / 1099511627776 % 4 + c) % 4 := by
  unfold aff
  obtain ⟨u, hu⟩ : ∃ u, a = 4398046511104 * u + 1 := ⟨a / 4398046511104, by omega⟩
  have e : s * a = 4398046511104 * (s * u) + s := by rw [hu, Nat.mul_add, Nat.mul_one, ← Nat.mul_assoc, ← Nat.mul_assoc, Nat.mul_comm s]
  simp only [e]
  generalize s * u = w
  rcases hc with rfl | rfl <;> omega
theorem hit (g : Nat → Nat) (p : Nat × Nat) (hg : ∀ s, g s = aff p s) (c : Nat) (ha : (dbl 40 p).1 % 4398046511104 = 1)
    (hb : (dbl 40 p).2 % 4398046511104 = c * 1099511627776) (hc : c = 1 ∨ c = 3) (s : Nat) : ∃ j, j ≤ 3298534883328 ∧ (it g j s / 1099511627776) % 4 = 0 := by
  have hF : ∀ s, it g 1099511627776 s = aff (dbl 40 p) s := fun s => by
    have := it_dbl g 40 1 p (fun s => hg s) s
    exact this
  have hT : ∀ s, (it g 1099511627776 s / 1099511627776) % 4 = (s / 1099511627776 % 4 + c) % 4 := fun s => by rw [hF]; exact turn4 s _ _ c ha hb hc
  have h0 : s / 1099511627776 % 4 < 4 := Nat.mod_lt _ (by omega)
  have h1 := hT s
  have h2 := hT (it g 1099511627776 s)
  have h3 := hT (it g 1099511627776 (it g 1099511627776 s))
  have e2 : it g 1099511627776 (it g 1099511627776 s) = it g 2199023255552 s := (it_add g 1099511627776 1099511627776 s).symm
  have e3 : it g 1099511627776 (it g 2199023255552 s) = it g 3298534883328 s := (it_add g 2199023255552 1099511627776 s).symm
  rw [e2] at h2 h3
  rw [e3] at h3
  generalize h4 : it g 1099511627776 s / 1099511627776 % 4 = x1 at *
  generalize h5 : it g 2199023255552 s / 1099511627776 % 4 = x2 at *
  generalize h6 : it g 3298534883328 s / 1099511627776 % 4 = x3 at *
  generalize h7 : s / 1099511627776 % 4 = x0 at *
  by_cases a0 : x0 = 0
  · exact ⟨0, by omega, by show s / 1099511627776 % 4 = 0; omega⟩
  by_cases a1 : x1 = 0
  · exact ⟨1099511627776, by omega, by omega⟩
  by_cases a2 : x2 = 0
  · exact ⟨2199023255552, by omega, by omega⟩
  · exact ⟨3298534883328, by omega, by rcases hc with rfl | rfl <;> omega⟩
def pL : Nat × Nat := (6364136223846793005, 1442695040888963407)
def lf (s : Nat) : Nat := aff pL s
/-- The pair of n steps. -/
def pn : Nat → Nat × Nat
  | 0 => (1, 0)
  | n + 1 => thn (pn n) pL
theorem it_snoc {σ : Type} (f : σ → σ) (n : Nat) (s : σ) : it f (n + 1) s = f (it f n s) := it_add f n 1 s
theorem it_lf : ∀ n s, s < 18446744073709551616 → it lf n s = aff (pn n) s
  | 0, s, h => by show s = (s * 1 + 0) % 18446744073709551616; omega
  | n + 1, s, h => by rw [it_snoc, it_lf n s h, pn, ← aff_thn]; rfl
theorem dbl_add : ∀ m n p, dbl (m + n) p = dbl n (dbl m p)
  | 0, n, p => by rw [Nat.zero_add]; rfl
  | m + 1, n, p => by rw [show m + 1 + n = (m + n) + 1 by omega]; exact dbl_add m n (thn p p)
theorem pn9 : pn 9 = (6584243485182795213, 8905969151499887831) := by decide +kernel
theorem dbl8_0 : dbl 8 (6584243485182795213, 8905969151499887831) = (2175474819262743553, 13381367393302686976) := by decide +kernel
theorem dbl8_1 : dbl 8 (2175474819262743553, 13381367393302686976) = (17033355110367100929, 13231940383156273152) := by decide +kernel
theorem dbl8_2 : dbl 8 (17033355110367100929, 13231940383156273152) = (8921685762307522561, 8955709345010548736) := by decide +kernel
theorem dbl8_3 : dbl 8 (8921685762307522561, 8955709345010548736) = (14425573332147503105, 12615201774584725504) := by decide +kernel
theorem dbl8_4 : dbl 8 (14425573332147503105, 12615201774584725504) = (3597958287850471425, 1311441394518196224) := by decide +kernel
theorem dbl40 : dbl 40 (pn 9) = (3597958287850471425, 1311441394518196224) := by
  rw [pn9, show (40 : Nat) = 8 + (8 + (8 + (8 + 8))) by rfl, dbl_add, dbl_add, dbl_add, dbl_add, dbl8_0, dbl8_1, dbl8_2, dbl8_3, dbl8_4]
theorem dbl40a : (dbl 40 (pn 9)).1 % 4398046511104 = 1 := by simp only [dbl40]
theorem dbl40b : (dbl 40 (pn 9)).2 % 4398046511104 = 1 * 1099511627776 := by simp only [dbl40]
theorem hit9_of (p : Nat × Nat) (hp : ∀ s, s < 18446744073709551616 → it lf 9 s = aff p s) (ha : (dbl 40 p).1 % 4398046511104 = 1) (hb : (dbl 40 p).2 % 4398046511104 = 1 * 1099511627776) (s : Nat) (hs : s < 18446744073709551616) :
    ∃ j, j ≤ 3298534883328 ∧ (it lf (9 * j) s / 1099511627776) % 4 = 0 := by
  obtain ⟨j, h1, h2⟩ := hit (aff p) p (fun _ => rfl) 1 ha hb (Or.inl rfl) s
  refine ⟨j, h1, ?_⟩
  have e : ∀ i s, s < 18446744073709551616 → it (aff p) i s = it lf (9 * i) s := by
    intro i
    induction i with
    | zero => intro s _; rw [Nat.mul_zero]; simp only [it]
    | succ i ih =>
      intro s hs
      rw [show 9 * (i + 1) = 9 + 9 * i by omega, it_add lf 9 (9 * i) s, hp s hs]
      exact ih (aff p s) (by unfold aff; omega)
  rw [← e j s hs]; exact h2
theorem hit9 (s : Nat) (hs : s < 18446744073709551616) : ∃ j, j ≤ 3298534883328 ∧ (it lf (9 * j) s / 1099511627776) % 4 = 0 :=
  hit9_of (pn 9) (fun s h => it_lf 9 s h) dbl40a dbl40b s hs
-- the cursor: what the draws answer
def cb (c : List Int) (a : Nat) : Nat := if a < c.length then (c.getD a 0).toNat else 0
def sd (c : List Int) (p : Nat × Nat) : Nat := (p.2 * 6364136223846793005 + cb c p.1 + 1442695040888963407) % 18446744073709551616
def nx (c : List Int) (p : Nat × Nat) : Nat × Nat := (p.1 + 1, sd c p)
def nv (c : List Int) (p : Nat × Nat) : Nat := if p.1 < c.length then cb c p.1 else (sd c p / 1099511627776) % 256
def Bytes (c : List Int) : Prop := c.length ≤ 1048576 ∧ ∀ v ∈ c, 0 ≤ v ∧ v ≤ 255
def Ok (b : Nat) (p : Nat × Nat) : Prop := p.1 ≤ b ∧ p.2 < 18446744073709551616
theorem Ok.mono {b b' : Nat} {p : Nat × Nat} (h : Ok b p) (hb : b ≤ b') : Ok b' p := ⟨Nat.le_trans h.1 hb, h.2⟩
theorem sd_lt (c : List Int) (p : Nat × Nat) : sd c p < 18446744073709551616 := Nat.mod_lt _ (by omega)
theorem Ok.nx {c : List Int} {b : Nat} {p : Nat × Nat} (h : Ok b p) : Ok (b + 1) (nx c p) := ⟨Nat.succ_le_succ h.1, sd_lt c p⟩
theorem Ok.it {c : List Int} : ∀ {n b : Nat} {p : Nat × Nat}, Ok b p → Ok (b + n) (it (_root_.Go.Proofs.Ytgblcbgkkfipoaa.Pure.nx c) n p)
  | 0, b, p, h => h
  | n + 1, b, p, h => by
    have := Ok.it (c := c) (n := n) (h.nx (c := c))
    rw [show b + (n + 1) = b + 1 + n by omega]
    exact this
theorem cb_le {c : List Int} (hc : Bytes c) (a : Nat) : cb c a ≤ 255 := by
  unfold cb
  split
  · rename_i h
    have := hc.2 _ (List.getElem_mem h)
    simp only [List.getD_eq_getElem?_getD, List.getElem?_eq_getElem h, Option.getD_some]; omega
  · omega
theorem nv_le {c : List Int} (hc : Bytes c) (p : Nat × Nat) : nv c p ≤ 255 := by
  unfold nv
  split
  · exact cb_le hc _
  · omega
theorem cb_rd {c : List Int} (hc : Bytes c) {a : Nat} (h : a < c.length) : rd c (a : Int) = ((cb c a : Nat) : Int) := by
  rw [rd_at h]
  have := hc.2 _ (List.getElem_mem h)
  unfold cb
  rw [if_pos h]
  simp only [List.getD_eq_getElem?_getD, List.getElem?_eq_getElem h, Option.getD_some]; omega
theorem u64w (n : Int) : IntKind.u64.wrap n = n % 18446744073709551616 := by unfold IntKind.wrap; simp [IntKind.signed, IntKind.bits]
theorem and255 (a : Nat) (h : a < 18446744073709551616) : Go.bits .and .u64 (a : Int) 255 = ((a % 256 : Nat) : Int) := by
  have h1 := bits_and_u64_nat a 255 h (by omega)
  have h2 : a &&& 255 = a % 256 := Nat.and_two_pow_sub_one_eq_mod a 8
  rw [h2] at h1
  exact h1
theorem next_is {c : List Int} (hc : Bytes c) {p : Nat × Nat} {b : Nat} (hb : b ≤ 1152921504606846976) (hp : Ok b p) :
    spec_l1Cur_next.f c (p.1 : Int) (p.2 : Int) = some (((nv c p : Nat) : Int), (((nx c p).1 : Nat) : Int), (((nx c p).2 : Nat) : Int)) := by
  obtain ⟨a, s⟩ := p
  have h1 : a ≤ b := hp.1
  have h2 : s < 18446744073709551616 := hp.2
  have ea : wrap64 ((a : Int) + 1) = ((a + 1 : Nat) : Int) := by unfold wrap64; omega
  unfold spec_l1Cur_next.f
  simp only [ea, u64w]
  by_cases h : a < c.length
  · have hx := cb_le hc a
    have er := cb_rd hc h
    have ex : wrap64 ((cb c a : Nat) : Int) = ((cb c a : Nat) : Int) := by unfold wrap64; omega
    rw [if_pos (by omega), if_pos (by omega), if_pos (by omega), er, ex]
    have e1 : nv c (a, s) = cb c a := by unfold nv; exact if_pos h
    have e2 : (nx c (a, s)).2 = (s * 6364136223846793005 + cb c a + 1442695040888963407) % 18446744073709551616 := rfl
    rw [e1, e2]
    refine congrArg some (Prod.ext rfl (Prod.ext rfl ?_))
    simp only
    omega
  · have e0 : cb c a = 0 := by unfold cb; exact if_neg h
    have e2 : sd c (a, s) = (s * 6364136223846793005 + 1442695040888963407) % 18446744073709551616 := by simp only [sd, e0, Nat.add_zero]
    have hlt := sd_lt c (a, s)
    simp only [nx, nv, if_neg h]
    rw [if_neg (show ¬ (a : Int) < (c.length : Int) by omega), if_neg (show ¬ ((a + 1 : Nat) : Int) ≤ (c.length : Int) by omega)]
    generalize sd c (a, s) = S at *
    have e3 : (((s : Int) * 6364136223846793005 % 18446744073709551616 % 18446744073709551616 + 1442695040888963407) % 18446744073709551616) = (S : Int) := by omega
    have e4 : (S : Int) / 1099511627776 = ((S / 1099511627776 : Nat) : Int) := by omega
    rw [e3, e4, and255 _ (by omega), w64 (by omega) (by omega)]
theorem tmodN (a n : Nat) : Int.tmod (a : Int) (n : Int) = ((a % n : Nat) : Int) := by
  rw [Int.tmod_eq_emod_of_nonneg (by omega)]; exact (Int.natCast_emod a n).symm
theorem pick_is {c : List Int} (hc : Bytes c) {p : Nat × Nat} {b : Nat} (hb : b ≤ 1152921504606846976) (hp : Ok b p) {n : Nat} (h2 : 2 ≤ n) (h200 : n ≤ 200) :
    spec_l1Cur_pick.f c (p.1 : Int) (p.2 : Int) (n : Int) = some (((nv c p % n : Nat) : Int), (((nx c p).1 : Nat) : Int), (((nx c p).2 : Nat) : Int)) := by
  unfold spec_l1Cur_pick.f
  rw [if_neg (by omega), next_is hc hb hp, Option.bind_some, if_neg (by omega), if_neg (by omega), tmodN]
theorem pick2_is {c : List Int} (hc : Bytes c) {p : Nat × Nat} {b : Nat} (hb : b < 1152921504606846976) (hp : Ok b p) {n : Nat} (h200 : 200 < n) :
    spec_l1Cur_pick.f c (p.1 : Int) (p.2 : Int) (n : Int) = some ((((nv c p * 256 + nv c (nx c p)) % n : Nat) : Int), (((nx c (nx c p)).1 : Nat) : Int), (((nx c (nx c p)).2 : Nat) : Int)) := by
  have h1 := nv_le hc p
  have h2 := nv_le hc (nx c p)
  unfold spec_l1Cur_pick.f
  rw [if_neg (by omega), next_is hc (Nat.le_of_lt hb) hp, Option.bind_some, if_pos (by omega)]
  simp only
  rw [next_is hc (b := b + 1) (by omega) hp.nx, Option.bind_some, if_neg (by omega)]
  simp only
  have e : wrap64 (wrap64 (((nv c p : Nat) : Int) * 256) + ((nv c (nx c p) : Nat) : Int)) = ((nv c p * 256 + nv c (nx c p) : Nat) : Int) := by
    rw [w64 (n := ((nv c p : Nat) : Int) * 256) (by omega) (by omega), w64 (by omega) (by omega)]; omega
  rw [e, tmodN]
def After (b : Nat) (q : Int × Int) : Prop := ∃ p : Nat × Nat, q = ((p.1 : Int), (p.2 : Int)) ∧ Ok b p
theorem pickP {c : List Int} (hc : Bytes c) {p : Nat × Nat} {b : Nat} (hb : b < 1152921504606846976) (hp : Ok b p) (n : Int) :
    ∃ a, spec_l1Cur_pick.f c (p.1 : Int) (p.2 : Int) n = some a ∧ After (b + 2) a.2 ∧ 0 ≤ a.1 ∧ (a.1 < n ∨ a.1 = 0) := by
  by_cases h1 : n ≤ 1
  · refine ⟨(0, (p.1 : Int), (p.2 : Int)), ?_, ⟨p, rfl, hp.mono (by omega)⟩, by simp, .inr rfl⟩
    unfold spec_l1Cur_pick.f; rw [if_pos h1]
  · obtain ⟨m, rfl⟩ : ∃ m : Nat, n = (m : Int) := ⟨n.toNat, by omega⟩
    by_cases h2 : m ≤ 200
    · refine ⟨_, pick_is hc (Nat.le_of_lt hb) hp (by omega) h2, ⟨nx c p, rfl, hp.nx.mono (by omega)⟩, by simp only; omega, .inl ?_⟩
      have := Nat.mod_lt (nv c p) (show 0 < m by omega)
      simp only; omega
    · refine ⟨_, pick2_is hc hb hp (by omega), ⟨nx c (nx c p), rfl, hp.nx.nx⟩, by simp only; omega, .inl ?_⟩
      have := Nat.mod_lt (nv c p * 256 + nv c (nx c p)) (show 0 < m by omega)
      simp only; omega
theorem one_is {c : List Int} (hc : Bytes c) {p : Nat × Nat} {b : Nat} (hb : b ≤ 1152921504606846976) (hp : Ok b p) {n : Nat} (h2 : 2 ≤ n) (h200 : n ≤ 200) :
    spec_l1Cur_one.f c (p.1 : Int) (p.2 : Int) (n : Int) = some (decide (nv c p % n = 0), (((nx c p).1 : Nat) : Int), (((nx c p).2 : Nat) : Int)) := by
  unfold spec_l1Cur_one.f
  rw [pick_is hc hb hp h2 h200, Option.bind_some]
  refine congrArg some (Prod.ext ?_ rfl)
  simp only
  rw [Bool.eq_iff_iff, beq_iff_eq, decide_eq_true_iff]
  omega
theorem oneP {c : List Int} (hc : Bytes c) {p : Nat × Nat} {b : Nat} (hb : b < 1152921504606846976) (hp : Ok b p) (n : Int) : ∃ a, spec_l1Cur_one.f c (p.1 : Int) (p.2 : Int) n = some a ∧ After (b + 2) a.2 := by
  obtain ⟨⟨v, q⟩, h, ⟨p', hq, hp'⟩, _, _⟩ := pickP hc hb hp n
  simp only at hq
  subst hq
  unfold spec_l1Cur_one.f
  rw [h, Option.bind_some]
  exact ⟨_, rfl, p', rfl, hp'⟩
theorem amongX {c : List Int} (hc : Bytes c) {p : Nat × Nat} {b : Nat} (hb : b ≤ 1152921504606846976) (hp : Ok b p) {l : List Int} (h2 : 2 ≤ l.length) (h200 : l.length ≤ 200) :
    ∃ v, spec_l1Cur_among.f c (p.1 : Int) (p.2 : Int) l = some (v, (((nx c p).1 : Nat) : Int), (((nx c p).2 : Nat) : Int)) ∧ v ∈ l := by
  have hm := Nat.mod_lt (nv c p) (show 0 < l.length by omega)
  refine ⟨l[nv c p % l.length], ?_, List.getElem_mem _⟩
  unfold spec_l1Cur_among.f
  rw [pick_is hc hb hp h2 h200, Option.bind_some, if_pos (by simp only; omega), if_pos (by simp only; omega)]
  simp only
  rw [rd_at hm]
theorem amongP {c : List Int} (hc : Bytes c) {p : Nat × Nat} {b : Nat} (hb : b < 1152921504606846976) (hp : Ok b p) {l : List Int} (h2 : 2 ≤ l.length) (h200 : l.length ≤ 200) :
    ∃ a, spec_l1Cur_among.f c (p.1 : Int) (p.2 : Int) l = some a ∧ After (b + 2) a.2 ∧ a.1 ∈ l := by
  obtain ⟨v, h, hv⟩ := amongX hc (Nat.le_of_lt hb) hp h2 h200
  exact ⟨_, h, ⟨nx c p, rfl, hp.nx.mono (by omega)⟩, hv⟩
-- behind the input's end the cursor goes on as lf does
theorem it_succ {σ : Type} (f : σ → σ) (n : Nat) (s : σ) : it f (n + 1) s = it f n (f s) := rfl
theorem sd_end {c : List Int} {p : Nat × Nat} (h : c.length ≤ p.1) : sd c p = lf p.2 := by
  have h0 : cb c p.1 = 0 := by unfold cb; exact if_neg (by omega)
  simp only [sd, lf, aff, pL, h0, Nat.add_zero]
theorem it_end {c : List Int} : ∀ (n : Nat) (p : Nat × Nat), c.length ≤ p.1 → it (nx c) n p = (p.1 + n, it lf n p.2)
  | 0, p, h => rfl
  | n + 1, p, h => by
    have e : nx c p = (p.1 + 1, lf p.2) := by rw [nx, sd_end h]
    rw [it_succ, it_succ, e, it_end n _ (by simp only; omega), Prod.mk.injEq]
    exact ⟨by omega, rfl⟩
theorem it_fst {c : List Int} : ∀ (n : Nat) (p : Nat × Nat), (it (nx c) n p).1 = p.1 + n
  | 0, p => rfl
  | n + 1, p => by
    rw [it_succ, it_fst n, nx]
    simp only; omega
theorem it_snd_lt {c : List Int} (n : Nat) (p : Nat × Nat) (h : p.2 < 18446744073709551616) : (it (nx c) n p).2 < 18446744073709551616 := (Ok.it (c := c) (n := n) (b := p.1) (p := p) ⟨Nat.le_refl _, h⟩).2
theorem lf_lt (s : Nat) : lf s < 18446744073709551616 := by unfold lf aff; exact Nat.mod_lt _ (by omega)
theorem nv_end {c : List Int} {p : Nat × Nat} (h : c.length ≤ p.1) : nv c p = lf p.2 / 1099511627776 % 256 := by
  rw [nv, if_neg (by omega), sd_end h]
theorem hit_end (c : List Int) (q : Nat × Nat) (hq : c.length ≤ q.1) : ∃ j, j ≤ 3298534883328 ∧ nv c (it (nx c) (9 * j) q) % 4 = 0 := by
  obtain ⟨j, hj, hh⟩ := hit9 (lf q.2) (lf_lt _)
  refine ⟨j, hj, ?_⟩
  rw [it_end _ _ hq, nv_end (by simp only; omega)]
  have e : lf (it lf (9 * j) q.2) = it lf (9 * j) (lf q.2) := by rw [← it_snoc lf (9 * j) q.2, it_succ]
  simp only
  rw [e]
  generalize it lf (9 * j) (lf q.2) = x at *
  omega
theorem hit_ex (c : List Int) (p : Nat × Nat) : ∃ J, J ≤ c.length + 3298534883328 ∧ nv c (it (nx c) (9 * J + 7) p) % 4 = 0 := by
  have h0 := it_fst (c := c) (9 * c.length + 7) p
  obtain ⟨j, hj, hh⟩ := hit_end c (it (nx c) (9 * c.length + 7) p) (by omega)
  refine ⟨c.length + j, by omega, ?_⟩
  rw [show 9 * (c.length + j) + 7 = (9 * c.length + 7) + 9 * j by omega, it_add]
  exact hh
end Go.Proofs.Ytgblcbgkkfipoaa.Pure
