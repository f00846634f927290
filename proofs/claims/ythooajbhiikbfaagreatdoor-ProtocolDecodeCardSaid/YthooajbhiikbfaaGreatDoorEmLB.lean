/- A part of the proofs of the statements of emendatelaw55 (layer protocol): the law ProtocolDecode is walked. Conditions: those that stand in each theorem, no other. -/
import Derived.Test.YthooajbhiikbfaaGreatDoorEmLA
namespace Go.Proofs.YthooajbhiikbfaaGreatDoor
open Go Go.RowKit Em

theorem valid_args {M : Msg} (h : valid M = true) : M.args.length ≤ 10 := by
  unfold valid at h
  simp only [Bool.and_eq_true, decide_eq_true_eq] at h
  exact h.1.2

/-- how a decoding ends, in one form -/
theorem dec_form (l : Bytes) : ∃ (id : Int) (m : ByteArray) (ss : List ByteArray) (n z : Int), ss.length ≤ 1000000 ∧ ∀ (w : World) (e : Ending) (w' : World), DecPost l w e w' →
    (∃ A c, e = .returned (.tuple #[.agg #[.int .i64 id, .string m, .slice A ss.length c], .int .i64 n, .int .i64 z]) ∧ RdS w' w'.heap.size A ss) ∧ Below w.heap.size w w' := by
  cases h : dec l with
  | more =>
    refine ⟨0, ⟨#[]⟩, [], 0, 6, by simp, ?_⟩
    intro w e w' hd
    unfold DecPost at hd
    rw [h] at hd
    exact ⟨⟨none, 0, hd.1, RdS.nil _ _ _⟩, hd.2⟩
  | bad =>
    refine ⟨0, ⟨#[]⟩, [], 0, 7, by simp, ?_⟩
    intro w e w' hd
    unfold DecPost at hd
    rw [h] at hd
    exact ⟨⟨none, 0, hd.1, RdS.nil _ _ _⟩, hd.2⟩
  | ok M n =>
    refine ⟨M.id, S M.meth, M.args.map S, n, 0, ?_, ?_⟩
    · have h2 := valid_args (dec_sound h).1
      rw [List.length_map]; omega
    · intro w e w' hd
      unfold DecPost at hd
      rw [h] at hd
      obtain ⟨v, rfl, ⟨A, c, rfl, -, hr⟩, hb⟩ := hd
      exact ⟨⟨A, c, rfl, hr⟩, hb⟩

set_option maxRecDepth 100000 in
set_option maxHeartbeats 2000000 in
theorem law_decode (s : ByteArray) (hs : s.size ≤ 140737488355328) (w : World) (hE : Env w) :
    Calls Tryz.prog 4 #[.string s] w fun e w' => e = .returned (.bool true) ∧ Below w.heap.size w w' := by
  have HE := Lib.hid hE
  clear hE
  by_cases h4 : s.size ≤ 400
  · obtain ⟨id, m, ss, n, z, hss, hF⟩ := dec_form s.data.toList
    have HD := Lib.hid ((decode_any s (by omega) w HE.out).mono (fun e w' => hF w e w'))
    have HR := Lib.hid (fun W => (decodeR_any s (by omega) W).mono (fun e w' => hF W e w'))
    have HSame := Lib.hid (fun A A' c c' W hr hr' => same_true id m A A' c c' ss W hss hr hr')
    obtain ⟨L, hL⟩ : ∃ L, ss.length = L := ⟨_, rfl⟩
    rw [hL] at HD HR HSame
    clear hF
    have hd : ¬ (400 : Int) < (s.size : Int) := by omega
    go_enter Tryz.func4, Tryz.ntmps4
    go_upto_region 3 with fail
    go_upto_region 4 with (go_at_call 12; refine HD.out.mono ?_; rintro e w1 ⟨⟨A, c, rfl, hr1⟩, hb1⟩)
    obtain ⟨W1, hW1⟩ : ∃ W1 : World, w1.alloc (.cells #[.int .i64 id, .string m, .slice A L c] 24) = W1 := ⟨_, rfl⟩
    rw [hW1]
    have HB1 := Lib.hid (show Below w.heap.size w W1 by rw [← hW1]; exact keep_trans hb1 (keep_alloc _ _))
    have HK1 := Lib.hid (show W1.heap[w1.heap.size]? = some (.cells #[.int .i64 id, .string m, .slice A L c] 24 (0, 0)) by rw [← hW1]; exact heap_alloc_new _ _)
    have HR1 := Lib.hid (show RdS W1 W1.heap.size A ss by rw [← hW1]; exact hr1.keepB (keep_alloc _ _))
    clear hb1 hr1 hW1 HD
    go_upto_region 5 with (go_at_call 13; refine (HR.out _).mono ?_; rintro e w2 ⟨⟨A2, c2, rfl, hr2⟩, hb2⟩)
    obtain ⟨W2, hW2⟩ : ∃ W2 : World, w2.alloc (.cells #[.int .i64 id, .string m, .slice A2 L c2] 24) = W2 := ⟨_, rfl⟩
    rw [hW2]
    have HB2 := Lib.hid (show Below W1.heap.size W1 W2 by rw [← hW2]; exact keep_trans hb2 (keep_alloc _ _))
    have HK2 := Lib.hid (show W2.heap[w2.heap.size]? = some (.cells #[.int .i64 id, .string m, .slice A2 L c2] 24 (0, 0)) by rw [← hW2]; exact heap_alloc_new _ _)
    have HR2 := Lib.hid (show RdS W2 W2.heap.size A2 ss by rw [← hW2]; exact hr2.keepB (keep_alloc _ _))
    clear hb2 hr2 hW2 HR
    go_wp2_with (go_at_call 9; refine (awake_any _ (HE.out.below (keep_trans HB1.out HB2.out))).mono ?_; rintro e w3 ⟨rfl, hb3⟩; refine Hid.out ?_)
    have HB3 := Lib.hid hb3
    obtain ⟨a0, a1, a2, -⟩ := three_keep HK1.out (keep_trans HB2.out HB3.out)
    obtain ⟨b0, b1, b2, -⟩ := three_keep HK2.out HB3.out
    have HS3 := Lib.hid (HSame.out A A2 c c2 w3 (HR1.out.keepB (keep_trans HB2.out HB3.out)) (HR2.out.keepB HB3.out))
    clear hb3
    refine Lib.hid ?_
    go_wp2_with (go_at_call 14; refine HS3.out.mono ?_; rintro e w4 ⟨rfl, hb4⟩)
    go_ret
    exact ⟨rfl, keep_trans HB1.out (keep_trans HB2.out (keep_trans HB3.out hb4))⟩
  · have hd : (400 : Int) < (s.size : Int) := by omega
    go_enter Tryz.func4, Tryz.ntmps4
    go_wp2_with (go_at_call 9; refine (awake_any _ HE.out).mono ?_; rintro e w1 ⟨rfl, hb1⟩)
    go_ret
    exact ⟨rfl, hb1⟩
end Go.Proofs.YthooajbhiikbfaaGreatDoor
