/- Walk: the reference's l1Num. -/
import Derived.Test.YteofafgleojmhaaDoorGetPlain
import Derived.Test.YteofafgleojmhaaDoorRange
import Derived.Test.YteofafgleojmhaaDoorLit
import Derived.Test.YteofafgleojmhaaDoorStr
namespace Go.Proofs.YteofafgleojmhaaDoor
open Go.RowKit

theorem digV_snoc : ∀ (s : Str) (b : UInt8) (n : Nat), digV (s ++ [b]) n = digV s n * 10 + (b.toNat - 48)
  | [], _, _ => rfl
  | c :: s, b, n => by
    rw [List.cons_append, digV, digV]
    exact digV_snoc s b _
theorem digV_lt : ∀ (s : Str) (n : Nat), s.all digB = true → digV s n < (n + 1) * 10 ^ s.length
  | [], n, _ => by simp [digV]
  | b :: s, n, h => by
    rw [List.all_cons, Bool.and_eq_true] at h
    have h1 := digV_lt s (n * 10 + (b.toNat - 48)) h.2
    have hb := h.1
    unfold digB at hb
    simp only [Bool.and_eq_true, decide_eq_true_eq] at hb
    rw [digV, List.length_cons, Nat.pow_succ]
    refine Nat.lt_of_lt_of_le h1 ?_
    have h2 : (n * 10 + (b.toNat - 48) + 1) ≤ (n + 1) * 10 := by omega
    calc (n * 10 + (b.toNat - 48) + 1) * 10 ^ s.length ≤ ((n + 1) * 10) * 10 ^ s.length := Nat.mul_le_mul_right _ h2
      _ = (n + 1) * (10 ^ s.length * 10) := by rw [Nat.mul_assoc, Nat.mul_comm 10]
theorem digV_small {s : Str} {k : Nat} (h : (s.take k).all digB = true) (hk : k ≤ 6) : digV (s.take k) 0 < 1000000 := by
  have h1 := digV_lt (s.take k) 0 h
  have h2 : 10 ^ (s.take k).length ≤ 10 ^ 6 := Nat.pow_le_pow_right (by omega) (by rw [List.length_take]; omega)
  omega
theorem numS_bad {s : Str} (h : s.all digB = false ∨ 6 < s.length) : numS s = -1 := by
  unfold numS
  rw [if_neg]
  intro h2
  simp only [Bool.and_eq_true, decide_eq_true_eq] at h2
  rcases h with h | h
  · rw [h2.1.1.1] at h; cases h
  · omega
theorem all_bad {s : Str} {k : Nat} {b : UInt8} (hb : s[k]? = some b) (h : digB b = false) : s.all digB = false := by
  cases e : s.all digB with
  | false => rfl
  | true =>
    rw [List.all_eq_true] at e
    rw [e b (List.mem_of_getElem? hb)] at h
    cases h
theorem all_nextD {s : Str} {k : Nat} {b : UInt8} (hb : s[k]? = some b) (h : (s.take k).all digB = true) (h2 : digB b = true) : (s.take (k + 1)).all digB = true := by
  rw [List.take_add_one, hb, List.all_append, h]
  simp [h2]

set_option maxHeartbeats 1000000 in
theorem spec_l1Num_any (s : Str) (w : World) (hs : s.length ≤ 1073741824) :
    Calls Tryd.prog 10 #[.string ⟨s.toArray⟩] w fun e w' => e = .returned (.int .i64 (numS s)) ∧ w = w' := by
  obtain ⟨v, hv⟩ : ∃ v, v = numS s := ⟨_, rfl⟩
  rw [← hv]
  have Hv := Lib.hid hv
  clear hv
  go_enter Tryd.func10, Tryd.ntmps10
  go_wp2
  go_loopw [3, 4] (fun n i wr => ∃ (k N : Nat), k ≤ s.length ∧ k ≤ 6 ∧ n = .int .i64 N ∧ i = .int .i64 k ∧ N < 1000000 ∧ Hid (N = digV (s.take k) 0) ∧ Hid ((s.take k).all digB = true) ∧ w = wr) (fun _ i _ => s.length - (intOf i).toNat)
  case atStart => exact ⟨0, 0, Nat.zero_le _, by omega, rfl, rfl, by omega, Lib.hid rfl, Lib.hid rfl, rfl⟩
  case round =>
    obtain ⟨k, N, hk, hk6, rfl, rfl, hN, HN, Hall, rfl⟩ := hrel
    by_cases hkn : k < s.length
    · have hkn' : (k : Int) < (s.length : Int) := by omega
      obtain ⟨b, hbk⟩ : ∃ b, s[k]? = some b := ⟨_, List.getElem?_eq_getElem hkn⟩
      have hbb := byte_at hbk (by rw [size_mk]; exact hkn)
      have Hbk := Lib.hid hbk
      have hb256 : b.toNat < 256 := b.toNat_lt
      clear hbk
      by_cases h1 : (b.toNat : Int) < 48
      · have Hr := Lib.hid (show v = -1 by rw [Hv.out]; exact numS_bad (.inl (all_bad Hbk.out (by unfold digB; simp; omega))))
        go_wp2
        go_ret
        exact ⟨ret_int (by rw [Hr.out]), rfl⟩
      · by_cases h2 : (57 : Int) < (b.toNat : Int)
        · have Hr := Lib.hid (show v = -1 by rw [Hv.out]; exact numS_bad (.inl (all_bad Hbk.out (by unfold digB; simp; omega))))
          go_wp2
          go_ret
          exact ⟨ret_int (by rw [Hr.out]), rfl⟩
        · by_cases h6 : (6 : Int) ≤ (k : Int)
          · have Hr := Lib.hid (show v = -1 by rw [Hv.out]; exact numS_bad (.inr (by omega)))
            go_wp2
            go_ret
            exact ⟨ret_int (by rw [Hr.out]), rfl⟩
          · have hd : digB b = true := by unfold digB; simp; omega
            have Ha2 := Lib.hid (all_nextD Hbk.out Hall.out hd)
            have hN2 : N * 10 + (b.toNat - 48) = digV (s.take (k + 1)) 0 := by rw [List.take_add_one, Hbk.out, Option.toList_some, digV_snoc, ← HN.out]
            have hs2 := digV_small Ha2.out (by omega)
            rw [← hN2] at hs2
            have HN2 := Lib.hid hN2
            have hw1 : IntKind.u8.wrap ((b.toNat : Int) - 48) = ((b.toNat - 48 : Nat) : Int) := by rw [IntKind.wrap_u8]; omega
            clear hN2 hd
            go_wp2
            go_roundw
            case rel => exact ⟨k + 1, N * 10 + (b.toNat - 48), by omega, by omega, by go_num, by go_num, hs2, HN2, Ha2, (by first | rfl | trivial)⟩
            case measure => simp [intOf]; omega
    · have hkl : k = s.length := by omega
      rw [hkl, List.take_length] at HN Hall
      have hkn' : ¬ (k : Int) < (s.length : Int) := by omega
      have h6 : s.length ≤ 6 := by omega
      have Hfin := Lib.hid (show numS s = if (decide (1 ≤ s.length) && !(decide (1 < s.length) && decide (s[0]? = some 48))) = true then (N : Int) else -1 by unfold numS; rw [Hall.out, HN.out]; simp [h6])
      clear hkl hk h6
      by_cases h0 : s.length = 0
      · have hb0 : ((s.length : Int) == 0) = true := by rw [h0]; rfl
        have Hr := Lib.hid (show v = -1 by rw [Hv.out, Hfin.out, h0]; rfl)
        clear h0
        go_wp2
        go_ret
        exact ⟨ret_int (by rw [Hr.out]), rfl⟩
      · have hb0 : ((s.length : Int) == 0) = false := by rw [beq_eq_false_iff_ne]; omega
        by_cases h1 : s.length = 1
        · have hb1 : ¬ (1 : Int) < (s.length : Int) := by omega
          have Hr := Lib.hid (show v = N by rw [Hv.out, Hfin.out, h1]; rfl)
          clear h0 h1
          go_wp2
          go_ret
          exact ⟨ret_int (by rw [Hr.out]), rfl⟩
        · have hb1 : (1 : Int) < (s.length : Int) := by omega
          have hb1' : 1 < s.length := by omega
          obtain ⟨b, hbk⟩ : ∃ b, s[0]? = some b := ⟨_, List.getElem?_eq_getElem (by omega)⟩
          have hbb := byte_at hbk (by rw [size_mk]; omega)
          have Hbk := Lib.hid hbk
          clear h0 h1 hbk
          by_cases h48 : b = 48
          · have hb48 : ((b.toNat : Int) == 48) = true := by rw [h48]; rfl
            have Hr := Lib.hid (show v = -1 by rw [Hv.out, Hfin.out, Hbk.out, h48]; simp; omega)
            clear h48
            go_wp2
            go_ret
            exact ⟨ret_int (by rw [Hr.out]), rfl⟩
          · have hb48 : ((b.toNat : Int) == 48) = false := by
              rw [beq_eq_false_iff_ne]
              intro e
              exact h48 (UInt8.toNat_inj.1 (by show b.toNat = 48; omega))
            have Hr := Lib.hid (show v = N by rw [Hv.out, Hfin.out, Hbk.out, show decide (some b = some (48 : UInt8)) = false by simp [h48], Bool.and_false, Bool.not_false, Bool.and_true, if_pos (by rw [decide_eq_true_eq]; omega)])
            clear h48
            go_wp2
            go_ret
            exact ⟨ret_int (by rw [Hr.out]), rfl⟩
end Go.Proofs.YteofafgleojmhaaDoor
