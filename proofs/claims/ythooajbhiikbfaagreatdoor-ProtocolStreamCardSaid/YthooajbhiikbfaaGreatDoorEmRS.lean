/- A part of the proofs of the statements of emendatelaw55 (layer protocol): a slice of messages among the arguments. Conditions: those that stand in each theorem, no other. -/
import Derived.Test.YthooajbhiikbfaaGreatDoorEmRC
import Derived.Test.YthooajbhiikbfaaGreatDoorEmLS
namespace Go.Proofs.YthooajbhiikbfaaGreatDoor
open Go Go.ChangeShapes Go.WideShapes Go.ChangeAt Go.RowKit Go.Deep Em

theorem list_of {α : Type} {P : Nat → α → Prop} : ∀ n, (∀ i, i < n → ∃ x, P i x) → ∃ l : List α, l.length = n ∧ ∀ i x, l[i]? = some x → P i x
  | 0, _ => ⟨[], rfl, by simp⟩
  | n + 1, h => by
    obtain ⟨l, hl, hP⟩ := list_of n (fun i hi => h i (by omega))
    obtain ⟨y, hy⟩ := h n (by omega)
    refine ⟨l ++ [y], by simp [hl], fun i x hx => ?_⟩
    rcases Nat.lt_or_ge i n with hi | hi
    · rw [List.getElem?_append_left (by omega)] at hx
      exact hP i x hx
    · rw [List.getElem?_append_right (by omega)] at hx
      have : i - l.length = 0 := by
        have := (List.getElem?_eq_some_iff.1 hx).1
        simp at this
        omega
      rw [this] at hx
      simp only [List.getElem?_cons_zero, Option.some.injEq] at hx
      subst hx
      have hin : i = n := by omega
      subst hin
      exact hy

theorem cells24 : Tryz.prog.cellsOf 24 = 3 := by kernel_rfl
theorem bytes24 : Tryz.prog.bytesOf 24 = 48 := by kernel_rfl

section
variable {H : Type} {enc : TypeId × Value → H}
set_option maxRecDepth 100000 in
theorem open37 {W : World} {base : Nat} {v0 : Value} {d0 : DataW H} {p0 : List MemPlace} (hok : Value.okWide Tryz.prog W .any base 37 v0) (h0 : DataW.Trod enc Tryz.prog W 0 (fun _ => true) true 37 v0 d0 p0) (hw : ∀ n ∈ d0.weights Tryz.prog 37, n ≤ reachBytes) :
    ∃ (AA : Option Addr) (CC : Nat) (ms : List MD), v0 = .slice AA ms.length CC ∧ RdM W AA ms ∧ ms.length ≤ 140737488355328 := by
  obtain ⟨a0, len0, cap0, rfl⟩ := okWide_slice Tryz.underlying37 hok
  obtain ⟨fuel, hf⟩ := h0
  rcases open_slice Tryz.underlying37 hf with ⟨hcs, hx⟩ | ⟨a, len, cap, m, n, D, Pl, hcs, hb, hl, hm, hmm, hx, hi⟩
  · have e : a0 = none ∧ len0 = 0 ∧ cap0 = 0 := by simpa [Value.cells] using hcs
    obtain ⟨rfl, rfl, rfl⟩ := e
    exact ⟨none, 0, [], rfl, fun i x h => by simp at h, by simp⟩
  · have e : a0 = some a ∧ len0 = len ∧ cap0 = cap := by simpa [Value.cells] using hcs
    obtain ⟨rfl, rfl, rfl⟩ := e
    simp only [Prod.mk.injEq] at hx
    obtain ⟨rfl, -⟩ := hx
    have hlm : len0 ≤ m := by rw [hmm]; split <;> omega
    have key : ∀ i, i < len0 → ∃ x : MD, W.cell? (a.add (i * 3)) = some (.int .i64 x.id) ∧ W.cell? ⟨(a.add (i * 3)).block, (a.add (i * 3)).off + 1, none⟩ = some (.string x.m) ∧ W.cell? ⟨(a.add (i * 3)).block, (a.add (i * 3)).off + 2, none⟩ = some (.slice x.A x.ss.length x.c) ∧ MArg W x.id x.m x.A x.ss := by
      intro i hil
      obtain ⟨cs', hc, ht⟩ := hi i (by omega)
      rw [cells24] at hc
      have hin : D i ∈ (List.range len0).map D := List.mem_map.2 ⟨i, List.mem_range.2 hil, rfl⟩
      have hwt : ∀ q ∈ (D i).weights Tryz.prog 24, q ≤ reachBytes := by
        intro q hq
        refine hw q ?_
        have := weightsAll_in (P := Tryz.prog) (e := 24) hin q hq
        simp only [DataW.weights, Tryz.underlying37, List.mem_cons, List.mem_append, this, true_or, or_true]
      obtain ⟨id, mm, A, c, ss, rfl, hii, hmz, hr, hs, hlz⟩ := open_msg (te := 9) Tryz.underlying24 (by kernel_rfl) (by kernel_rfl) Tryz.underlying3 Tryz.underlying9 Tryz.underlying22 Tryz.underlying9 (by kernel_rfl) (by kernel_rfl) ht hwt
      rw [reach_le] at hmz hs hlz
      obtain ⟨_, _, hat⟩ := World.cells?_some hc
      refine ⟨⟨id, mm, A, c, ss⟩, ?_, ?_, ?_, hii, by show mm.size ≤ _; omega, by show ss.length ≤ _; omega, hr, fun s h => by have := hs s h; omega⟩
      · have := hat 0 (by omega)
        simpa [Addr.add] using this
      · exact hat 1 (by omega)
      · exact hat 2 (by omega)
    obtain ⟨ms, hml, hP⟩ := list_of len0 key
    have hlen : len0 * 48 ≤ reachBytes := by
      have h5 := hw ((((List.range len0).map D).length + ((List.range (m - len0)).map fun j => D (len0 + j)).length) * 48) (by
        simp only [DataW.weights, Tryz.underlying37, bytes24, List.mem_cons, true_or])
      have h6 : ((List.range len0).map D).length = len0 := by simp
      rw [h6] at h5
      exact Nat.le_trans (Nat.mul_le_mul_right _ (Nat.le_add_right _ _)) h5
    rw [reach_le] at hlen
    exact ⟨some a, cap0, ms, by rw [hml], fun i x hx => ⟨a, rfl, hP i x hx⟩, by omega⟩
end
end Go.Proofs.YthooajbhiikbfaaGreatDoor
