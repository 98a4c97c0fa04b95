/-
  What a law's argument reads as, whatever its type: integers, slices, structs, nested. Plain theorems over the print's kinds.
-/
import Derived.Test.YtbojcipcdefipaaWWords
import Derived.Deep.Slices
import Derived.Deep.Fields
import Derived.ChangeSame
import Derived.WideShapes
namespace Go.Proofs.YtbojcipcdefipaaW.Opn
open Go.ChangeShapes Go.WideShapes Go.Deep Go.Proofs.YtbojcipcdefipaaW.PrintWords

/-- Whatever reads as data of type t reads as some value of the kind d, which is good. -/
def Opens {α : Type} (P : Program) (t : TypeId) (d : Kd α) (good : α → Prop) : Prop :=
  ∀ (H : Type) (enc : TypeId × Value → H) (w : World) (base : Nat) (held : Bool) (fuel : Nat) (cs : List Value) (x : DataW H × List MemPlace),
    DataW.trod enc P w base (fun _ => true) held fuel t cs = some x → ∃ a : α, d.K w a cs ∧ good a

theorem opens_int {P : Program} {t : TypeId} {k : IntKind} (ht : P.underlying t = some (.int k)) : Opens P t (Kd.int k) (fun n => (Lit.int k n).wf = true) := by
  intro H enc w base held fuel cs x h
  obtain ⟨n, hcs, _, hw⟩ := DataW.trod_int ht h
  exact ⟨n, hcs, hw⟩

theorem opens_slice {α : Type} {P : Program} {t e : TypeId} {d : Kd α} {good : α → Prop} (ht : P.underlying t = some (.slice e)) (hc : P.cellsOf e = d.sz) (ho : Opens P e d good) :
    Opens P t (Kd.slice e d) (fun xs => xs.length ≤ maxLen ∧ ∀ y ∈ xs, good y) := by
  intro H enc w base held fuel cs x h
  rcases open_slice ht h with ⟨hcs, _⟩ | ⟨a, len, cap, m, n, D, Pl, hcs, hb, hl, hm, hmm, hx, hi⟩
  · subst hcs
    exact ⟨[], ⟨none, 0, rfl, Nat.le_refl _, rfl, by simp, fun h => absurd h (by simp)⟩, by simp, fun y hy => by simp at hy⟩
  · simp only [if_true] at hmm
    subst hmm
    have each : ∀ i : Fin len, ∃ y : α, (∃ c, c.length = d.sz ∧ d.K w y c ∧ ∀ j u, c[j]? = some u → w.cell? (a.add (i.1 * d.sz + j)) = some u) ∧ good y := by
      intro i
      obtain ⟨cs', hcl, htr⟩ := hi i.1 (by have := i.2; omega)
      obtain ⟨y, hk, hg⟩ := ho H enc w base held n cs' _ htr
      obtain ⟨_, hlen, hat⟩ := World.cells?_some hcl
      refine ⟨y, ⟨cs', d.K_len hk, hk, fun j u hu => ?_⟩, hg⟩
      have hj : j < cs'.length := (List.getElem?_eq_some_iff.1 hu).1
      have := hat j (by omega)
      rw [Go.Deep.add_add, hc] at this
      rw [this, hu]
    have hxl : (List.ofFn fun i : Fin len => Classical.choose (each i)).length = len := by simp
    refine ⟨List.ofFn fun i : Fin len => Classical.choose (each i), ⟨some a, m, ?_, ?_, hxl.symm ▸ ?_⟩, ?_, ?_⟩
    · rw [hcs, hxl]
    · rw [hxl]; exact hl
    · refine ⟨hxl, by unfold maxLen at hm; omega, fun _ => ⟨a, rfl, fun j p hj => ?_⟩⟩
      rw [List.getElem?_ofFn] at hj
      split at hj
      · rename_i hlt
        injection hj with hj
        subst hj
        exact (Classical.choose_spec (each ⟨j, hlt⟩)).1
      · cases hj
    · rw [hxl]; omega
    · intro y hy
      obtain ⟨i, rfl⟩ := List.mem_ofFn.1 hy
      exact (Classical.choose_spec (each i)).2

/-- The fields of a struct, from a cell on. -/
def OpensF {α : Type} (P : Program) (off : Nat) (fs : List Field) (d : Kd α) (good : α → Prop) : Prop :=
  ∀ (H : Type) (enc : TypeId × Value → H) (w : World) (base : Nat) (held : Bool) (fuel : Nat) (cs : List Value),
    (∀ f ∈ fs, ∃ y, DataW.trod enc P w base (fun _ => true) held fuel f.type ((cs.drop f.offset).take (P.cellsOf f.type)) = some y) → ∃ a : α, d.K w a ((cs.drop off).take d.sz) ∧ good a

theorem opensF_one {α : Type} {P : Program} {off : Nat} {f : Field} {d : Kd α} {good : α → Prop} (hf : f.offset = off) (hc : P.cellsOf f.type = d.sz) (ho : Opens P f.type d good) : OpensF P off [f] d good := by
  intro H enc w base held fuel cs h
  obtain ⟨y, hy⟩ := h f (by simp)
  rw [hf, hc] at hy
  exact ho H enc w base held fuel _ _ hy

theorem opensF_cons {α β : Type} {P : Program} {off : Nat} {f : Field} {fs : List Field} {d : Kd α} {d' : Kd β} {good : α → Prop} {good' : β → Prop} (hf : f.offset = off) (hc : P.cellsOf f.type = d.sz) (ho : Opens P f.type d good)
    (hr : OpensF P (off + d.sz) fs d' good') : OpensF P off (f :: fs) (Kd.pair d d') (fun x => good x.1 ∧ good' x.2) := by
  intro H enc w base held fuel cs h
  obtain ⟨y, hy⟩ := h f (by simp)
  rw [hf, hc] at hy
  obtain ⟨a, ha, hga⟩ := ho H enc w base held fuel _ _ hy
  obtain ⟨b, hb, hgb⟩ := hr H enc w base held fuel cs (fun g hg => h g (by simp [hg]))
  refine ⟨(a, b), ⟨_, _, ?_, ha, hb⟩, hga, hgb⟩
  show (cs.drop off).take (d.sz + d'.sz) = _
  rw [List.take_add, List.drop_drop]

theorem opens_struct {α β : Type} {P : Program} {t : TypeId} {fs : Array Field} {d : Kd α} {good : α → Prop} {g : β → α} {mk : α → β} (ht : P.underlying t = some (.struct fs)) (hc : P.cellsOf t = d.sz) (hg : ∀ x, g (mk x) = x) (ho : OpensF P 0 fs.toList d good) :
    Opens P t (Kd.iso d g) (fun y => good (g y)) := by
  intro H enc w base held fuel cs x h
  obtain ⟨ys, n, _, _, hl, hyl, hf⟩ := DataW.trod_struct ht h
  obtain ⟨a, ha, hga⟩ := ho H enc w base held n cs (fun f hfm => by
    obtain ⟨j, hj⟩ := List.mem_iff_getElem?.1 hfm
    have hj' : fs[j]? = some f := by simpa using hj
    have hjl : j < fs.size := (Array.getElem?_eq_some_iff.1 hj').1
    have := hf j f hj'
    rw [List.getElem?_eq_getElem (by omega)] at this
    exact ⟨_, this⟩)
  refine ⟨mk a, ?_, ?_⟩
  · show d.K w (g (mk a)) cs
    rw [hg]
    rw [List.drop_zero, List.take_of_length_le (by omega)] at ha
    exact ha
  · show good (g (mk a))
    rw [hg]
    exact hga

/-- A slice argument. -/
theorem open_slice_arg {α H : Type} {enc : TypeId × Value → H} {P : Program} {w : World} {base : Nat} {held : Bool} {t e : TypeId} {d : Kd α} {good : List α → Prop} {a : Option Addr} {len cap : Nat} {x : DataW H} {p : List MemPlace}
    (ho : Opens P t (Kd.slice e d) good) (h : DataW.Trod enc P w base (fun _ => true) held t (.slice a len cap) x p) :
    ∃ xs : List α, len = xs.length ∧ xs.length ≤ cap ∧ d.C w a xs.length xs ∧ good xs := by
  obtain ⟨fuel, hf⟩ := h
  obtain ⟨xs, ⟨A, c, hcs, hle, hC⟩, hg⟩ := ho H enc w base held fuel _ _ hf
  have hcs' : [Value.slice a len cap] = [.slice A xs.length c] := hcs
  injection hcs' with h1 _
  injection h1 with h1 h2 h3
  subst h1; subst h3
  exact ⟨xs, h2, hle, hC, hg⟩

theorem flat_one : ∀ (l : List Value), (∀ u ∈ l, u.oneCell' = true) → l.flatMap (fun v => v.cells.toList) = l
  | [], _ => rfl
  | v :: l, h => by
    rw [List.flatMap_cons, flat_one l (fun u hu => h u (by simp [hu]))]
    have := h v (by simp)
    cases v <;> simp_all [Value.oneCell', Value.cells]

/-- A struct argument: its cells. -/
theorem open_struct_arg {α H : Type} {enc : TypeId × Value → H} {P : Program} {w : World} {base b0 : Nat} {held : Bool} {r : Reach} {t : TypeId} {fs : Array Field} {d : Kd α} {good : α → Prop} {v : Value} {x : DataW H} {p : List MemPlace}
    (ho : Opens P t d good) (hs : P.underlying t = some (.struct fs)) (hv : Value.okWide P w r b0 t v) (h : DataW.Trod enc P w base (fun _ => true) held t v x p) :
    ∃ (y : α) (cs : List Value), v = .agg cs.toArray ∧ d.K w y cs ∧ good y := by
  obtain ⟨cs, rfl, hsz⟩ := okWide_struct hs hv
  obtain ⟨fuel, hf⟩ := h
  obtain ⟨y, hk, hg⟩ := ho H enc w base held fuel _ _ hf
  refine ⟨y, cs.toList, by simp, ?_, hg⟩
  exact hk

end Go.Proofs.YtbojcipcdefipaaW.Opn
