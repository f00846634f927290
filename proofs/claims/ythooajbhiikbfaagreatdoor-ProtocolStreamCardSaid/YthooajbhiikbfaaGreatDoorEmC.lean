/- A part of the proofs of the statements of emendatelaw55 (layer protocol): what the library reads; Itoa, Atoi, Cut, decimal. Conditions: those that stand in each theorem, no other. -/
import Derived.Test.YthooajbhiikbfaaGreatDoorEmW2
import Derived.Test.YthooajbhiikbfaaGreatDoorShelf
import Derived.WalkSmall
import Derived.Lib.FrozenHead
import Derived.Lib.CutLaws
namespace Go.Proofs.YthooajbhiikbfaaGreatDoor
open Go Go.RowKit Em

/-- What the library reads. -/
structure Env (w : World) : Prop where
  tab : Lib.TabIs Tryz.prog w "internal/strconv.uint64pow10" .u64 Lib.pow10Tab
  syn : ∃ tp p, w.var? Tryz.prog "strconv.ErrSyntax" = some #[.iface tp p]
  rng : ∃ tp p, w.var? Tryz.prog "strconv.ErrRange" = some #[.iface tp p]
  ml : ∃ m, w.cell? ⟨1, 0, none⟩ = some (.int .i64 m)

theorem g_tab : Tryz.prog.globalNamed "internal/strconv.uint64pow10" = some 0 := by kernel_rfl
theorem g_syn : Tryz.prog.globalNamed "strconv.ErrSyntax" = some 2 := by kernel_rfl
theorem g_rng : Tryz.prog.globalNamed "strconv.ErrRange" = some 3 := by kernel_rfl

theorem Env.size {w : World} (h : Env w) : 4 ≤ w.heap.size := by
  obtain ⟨tp, p, hv⟩ := h.rng
  unfold World.var? at hv
  rw [g_rng] at hv
  simp only [Option.bind_some] at hv
  rcases Nat.lt_or_ge 3 w.heap.size with h' | h'
  · exact h'
  · rw [Array.getElem?_eq_none h'] at hv; simp at hv

theorem Env.belowB {B : Nat} {w w' : World} (h : Env w) (hb : Below B w w') (hB : 4 ≤ B) : Env w' where
  tab := var?_below hb g_tab (by omega) h.tab
  syn := let ⟨tp, p, hv⟩ := h.syn; ⟨tp, p, var?_below hb g_syn (by omega) hv⟩
  rng := let ⟨tp, p, hv⟩ := h.rng; ⟨tp, p, var?_below hb g_rng (by omega) hv⟩
  ml := let ⟨m, hm⟩ := h.ml; ⟨m, by rw [hb.cell (p := ⟨1, 0, none⟩) (show (1:Nat) < B by omega)]; exact hm⟩

theorem Env.below {w w' : World} (h : Env w) (hb : Below w.heap.size w w') : Env w' := h.belowB hb h.size
theorem Env.alloc {w : World} (h : Env w) (o : Obj) : Env (w.alloc o) := h.below ((Below.refl _ _).alloc (Nat.le_refl _) _)

theorem below_grow (w : World) (os : Array Obj) : Below w.heap.size w (Sort.grow w os) :=
  ⟨rfl, rfl, rfl, by simp [Sort.grow], fun k hk => by
    show (w.heap ++ os)[k]? = _
    rw [Array.getElem?_append_left hk]⟩
theorem below_drews (w : World) (n : Nat) : Below w.heap.size w (w.drewN n) := below_drewN (Below.refl _ _) n

theorem itoa_c (n : Int) (hn : inR n) (w : World) (hE : Env w) :
    Calls Tryz.prog 20 #[.int .i64 n] w fun e w' => e = .returned (.string ⟨(Lib.itoa n).toArray⟩) ∧ Below w.heap.size w w' := by
  refine (Tryz.strconv_Itoa n hn.1 hn.2 w hE.tab).mono ?_
  rintro e w' ⟨rfl, k, os, rfl⟩
  exact ⟨rfl, (below_drews w k).trans ((below_grow (w.drewN k) os).mono (Nat.le_refl _))⟩

/-- strconv.Atoi: how it ends. -/
def AtoiEnds (s : ByteArray) (v : Value) : Prop :=
  match Lib.atoiAll s.data.toList with
  | .ok n => v = .tuple #[.int .i64 n, .nilIface]
  | _ => ∃ n N, v = .tuple #[.int .i64 n, .iface 129 (.pointer (some ⟨N, 0, none⟩))]

theorem atoi_ok (s : ByteArray) (n : Int) (h : Lib.atoiAll s.data.toList = .ok n) (hs : s.size ≤ 140737488355328) (w : World) :
    Calls Tryz.prog 48 #[.string s] w fun e w' => e = .returned (.tuple #[.int .i64 n, .nilIface]) ∧ Below w.heap.size w w' := by
  refine (Tryz.strconv_Atoi_ok s (by omega) n h w).mono ?_
  rintro e w' ⟨rfl, rfl | ⟨t, rfl⟩⟩
  · exact ⟨rfl, Below.refl _ _⟩
  · exact ⟨rfl, Lib.bytesWorld_below w 5 t⟩

def AtoiBad (w : World) (e : Ending) (w' : World) : Prop :=
  ∃ n N, e = .returned (.tuple #[.int .i64 n, .iface 129 (.pointer (some ⟨N, 0, none⟩))]) ∧ Below w.heap.size w w'

theorem atoi_bad (s : ByteArray) (h : ∀ n, Lib.atoiAll s.data.toList ≠ .ok n) (hs : s.size ≤ 140737488355328) (w : World) (hE : Env w) :
    Calls Tryz.prog 48 #[.string s] w (AtoiBad w) := by
  cases ha : Lib.atoiAll s.data.toList
  · exact absurd ha (h _)
  · obtain ⟨tp, p, hv⟩ := hE.syn
    refine (Tryz.strconv_Atoi_syntax_var s (by omega) (ha.trans rfl) tp p w hv).mono ?_
    rintro e w' ⟨N, rfl, _, _, hb⟩
    exact ⟨_, N, rfl, hb⟩
  · obtain ⟨tp, p, hv⟩ := hE.rng
    refine (Tryz.strconv_Atoi_range_var s (by omega) ha tp p w hv).mono ?_
    rintro e w' ⟨N, rfl, _, _, hb⟩
    exact ⟨_, N, rfl, hb⟩

theorem cut_c (s sep : ByteArray) (w : World) (hE : Env w) (hs : s.size < 4294967281) :
    Calls Tryz.prog 38 #[.string s, .string sep] w fun e w' => e = .returned (.tuple #[.string ⟨(Lib.cut s.data.toList sep.data.toList).1.toArray⟩, .string ⟨(Lib.cut s.data.toList sep.data.toList).2.1.toArray⟩, .bool (Lib.cut s.data.toList sep.data.toList).2.2]) ∧ Below w.heap.size w w' := by
  obtain ⟨m, hm⟩ := hE.ml
  refine (Tryz.strings_Cut s sep m w hs hm).mono ?_
  rintro e w' ⟨rfl, n, rfl⟩
  exact ⟨rfl, below_drews w n⟩

/-! ### protocol.decimal, protocol.number -/

/-- what decimal returns beside its word -/
def decN (s : Bytes) : Bool := (num? s).isSome

set_option maxHeartbeats 400000 in
theorem decimal_ok (s : ByteArray) (n : Int) (h : num? s.data.toList = some n) (hs : s.size ≤ 140737488355328) (w : World) (hE : Env w) :
    Calls Tryz.prog 36 #[.string s] w fun e w' => e = .returned (.tuple #[.int .i64 n, .bool true]) ∧ Below w.heap.size w w' := by
  obtain ⟨he, hn⟩ := num?_some.1 h
  have ha : Lib.atoiAll s.data.toList = .ok n := by rw [he]; exact atoiAll_itoa n hn
  have hse : (⟨(Lib.itoa n).toArray⟩ : ByteArray) = s := by rw [← he]
  have hI : ∀ W, Env W → Calls Tryz.prog 20 #[.int .i64 n] W fun e w' => e = .returned (.string s) ∧ Below W.heap.size W w' := by
    intro W hW
    have := itoa_c n hn W hW
    rw [hse] at this; exact this
  have HI := Lib.hid hI
  have HA := Lib.hid (atoi_ok s n ha hs w)
  clear hI ha hse he h
  go_enter Tryz.func36, Tryz.ntmps36
  go_wp2_with (go_at_call 48; refine HA.out.mono ?_; rintro e w1 ⟨rfl, hb1⟩; refine Hid.out ?_)
  have hE1 := hE.below hb1
  refine Lib.hid ?_
  go_wp2_with (go_at_call 20; refine (HI.out _ hE1).mono ?_; rintro e w2 ⟨rfl, hb2⟩)
  go_ret2
  exact ⟨rfl, hb1.trans (hb2.mono hb1.size)⟩

def DecBad (w : World) (e : Ending) (w' : World) : Prop :=
  ∃ n : Int, e = .returned (.tuple #[.int .i64 n, .bool false]) ∧ Below w.heap.size w w'

set_option maxHeartbeats 400000 in
theorem decimal_bad1 (s : ByteArray) (n : Int) (ha : Lib.atoiAll s.data.toList = .ok n) (hne : Lib.itoa n ≠ s.data.toList) (hs : s.size ≤ 140737488355328) (w : World) (hE : Env w) :
    Calls Tryz.prog 36 #[.string s] w (DecBad w) := by
  have hn := atoiAll_inR ha
  obtain ⟨t, ht⟩ : ∃ t : ByteArray, (⟨(Lib.itoa n).toArray⟩ : ByteArray) = t := ⟨_, rfl⟩
  have hte : (t.toList == s.toList) = false := by
    rw [← ht, Lib.toList_data, Lib.toList_data]
    simpa using hne
  have hI : ∀ W, Env W → Calls Tryz.prog 20 #[.int .i64 n] W fun e w' => e = .returned (.string t) ∧ Below W.heap.size W w' := by
    intro W hW
    have := itoa_c n hn W hW
    rw [ht] at this; exact this
  have HI := Lib.hid hI
  have HA := Lib.hid (atoi_ok s n ha hs w)
  clear hI ha ht hne
  go_enter Tryz.func36, Tryz.ntmps36
  go_wp2_with (go_at_call 48; refine HA.out.mono ?_; rintro e w1 ⟨rfl, hb1⟩; refine Hid.out ?_)
  have hE1 := hE.below hb1
  refine Lib.hid ?_
  go_wp2_with (go_at_call 20; refine (HI.out _ hE1).mono ?_; rintro e w2 ⟨rfl, hb2⟩)
  go_ret2
  exact ⟨n, rfl, hb1.trans (hb2.mono hb1.size)⟩

set_option maxHeartbeats 400000 in
theorem decimal_bad2 (s : ByteArray) (ha : ∀ n, Lib.atoiAll s.data.toList ≠ .ok n) (hs : s.size ≤ 140737488355328) (w : World) (hE : Env w) :
    Calls Tryz.prog 36 #[.string s] w (DecBad w) := by
  have HA := Lib.hid (atoi_bad s ha hs w hE)
  clear ha
  go_enter Tryz.func36, Tryz.ntmps36
  go_wp2_with (go_at_call 48; refine HA.out.mono ?_; rintro e w1 ⟨n, N, rfl, hb1⟩)
  go_ret2
  exact ⟨n, rfl, hb1⟩

theorem decimal_bad (s : ByteArray) (h : num? s.data.toList = none) (hs : s.size ≤ 140737488355328) (w : World) (hE : Env w) :
    Calls Tryz.prog 36 #[.string s] w (DecBad w) := by
  cases ha : Lib.atoiAll s.data.toList
  · rename_i n
    refine decimal_bad1 s n ha (fun e => ?_) hs w hE
    unfold num? at h; rw [ha] at h; simp only [if_pos e] at h; cases h
  · exact decimal_bad2 s (by rw [ha]; intro n h; cases h) hs w hE
  · exact decimal_bad2 s (by rw [ha]; intro n h; cases h) hs w hE
end Go.Proofs.YthooajbhiikbfaaGreatDoor
