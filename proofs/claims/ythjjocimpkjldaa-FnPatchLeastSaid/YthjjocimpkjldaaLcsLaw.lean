/- In plain words: longest common subsequences: symmetry, the triangle, when nothing differs. -/
import Derived.Test.YthjjocimpkjldaaMany
namespace Go.Proofs.Ythjjocimpkjldaa
open Go.RowKit

theorem lcs_cons (x y : Str) (xs ys : List Str) : lcsLen (x :: xs) (y :: ys) = if x = y then lcsLen xs ys + 1 else max (lcsLen xs (y :: ys)) (lcsLen (x :: xs) ys) := by rw [lcsLen]
theorem lcs_nil_left (b : List Str) : lcsLen [] b = 0 := by simp [lcsLen]
theorem lcs_symm : ∀ a b : List Str, lcsLen a b = lcsLen b a
  | [], b => by rw [lcs_nil_left, lcsLen_nil_right]
  | _ :: _, [] => by rw [lcs_nil_left, lcsLen_nil_right]
  | x :: xs, y :: ys => by
    rw [lcs_cons, lcs_cons, lcs_symm xs ys, lcs_symm xs (y :: ys), lcs_symm (x :: xs) ys]
    by_cases h : x = y
    · rw [if_pos h, if_pos h.symm]
    · rw [if_neg h, if_neg (fun e => h e.symm), Nat.max_comm]
termination_by a b => a.length + b.length
theorem lcs_le_right (a b : List Str) : lcsLen a b ≤ b.length := by rw [lcs_symm]; exact lcsLen_le_left b a
theorem lcs_steps : ∀ k : Nat, ∀ (x y : Str) (xs ys : List Str), xs.length + ys.length ≤ k → lcsLen (x :: xs) ys ≤ lcsLen xs ys + 1 ∧ lcsLen xs ys ≤ lcsLen xs (y :: ys)
  | 0, x, y, xs, ys, h => by
    have h1 : xs = [] := List.eq_nil_of_length_eq_zero (by omega)
    have h2 : ys = [] := List.eq_nil_of_length_eq_zero (by omega)
    subst h1 h2
    rw [lcsLen_nil_right, lcs_nil_left, lcs_nil_left]
    omega
  | k + 1, x, y, xs, ys, h => by
    constructor
    · cases ys with
      | nil => rw [lcsLen_nil_right]; omega
      | cons z zs =>
        simp only [List.length_cons] at h
        have h1 := lcs_steps k x z xs zs (by omega)
        rw [lcs_cons]
        split <;> omega
    · cases xs with
      | nil => rw [lcs_nil_left]; omega
      | cons z zs =>
        simp only [List.length_cons] at h
        have h1 := (lcs_steps k z y zs ys (by omega)).1
        rw [lcs_cons z y]
        split <;> omega
theorem lcs_up_right (y : Str) (xs ys : List Str) : lcsLen xs ys ≤ lcsLen xs (y :: ys) := (lcs_steps _ y y xs ys (Nat.le_refl _)).2
theorem lcs_up_left (x : Str) (xs ys : List Str) : lcsLen xs ys ≤ lcsLen (x :: xs) ys := by rw [lcs_symm xs, lcs_symm (x :: xs)]; exact lcs_up_right x ys xs
theorem lcs_triangle : ∀ k : Nat, ∀ a b c : List Str, a.length + b.length + c.length ≤ k → lcsLen a c + lcsLen c b ≤ c.length + lcsLen a b
  | _, [], b, c, _ => by have := lcsLen_le_left c b; rw [lcs_nil_left, lcs_nil_left]; omega
  | _, a, [], c, _ => by have := lcs_le_right a c; rw [lcsLen_nil_right, lcsLen_nil_right]; omega
  | _, a, b, [], _ => by rw [lcs_nil_left, lcsLen_nil_right]; omega
  | 0, x :: xs, _, _, h => by simp at h
  | k + 1, x :: xs, y :: ys, z :: zs, h => by
    simp only [List.length_cons] at h
    have i1 := lcs_triangle k xs ys zs (by omega)
    have i2 := lcs_triangle k xs (y :: ys) zs (by simp only [List.length_cons]; omega)
    have i3 := lcs_triangle k (x :: xs) ys (z :: zs) (by simp only [List.length_cons]; omega)
    have i4 := lcs_triangle k (x :: xs) ys zs (by simp only [List.length_cons]; omega)
    have i5 := lcs_triangle k xs (y :: ys) (z :: zs) (by simp only [List.length_cons]; omega)
    have i6 := lcs_triangle k (x :: xs) (y :: ys) zs (by simp only [List.length_cons]; omega)
    have m1 := lcs_up_left x xs (y :: ys)
    have m2 := lcs_up_right y (x :: xs) ys
    have m3 := lcs_up_left x xs ys
    have m4 := lcs_up_right y xs ys
    simp only [List.length_cons] at *
    by_cases h1 : x = z
    · by_cases h2 : z = y
      · have h3 : x = y := h1.trans h2
        rw [lcs_cons x z, lcs_cons z y, lcs_cons x y, if_pos h1, if_pos h2, if_pos h3]
        omega
      · have e1 : lcsLen (x :: xs) (z :: zs) = lcsLen xs zs + 1 := by rw [lcs_cons, if_pos h1]
        have e2 : lcsLen (z :: zs) (y :: ys) = max (lcsLen zs (y :: ys)) (lcsLen (z :: zs) ys) := by rw [lcs_cons, if_neg h2]
        omega
    · have e1 : lcsLen (x :: xs) (z :: zs) = max (lcsLen xs (z :: zs)) (lcsLen (x :: xs) zs) := by rw [lcs_cons, if_neg h1]
      by_cases h2 : z = y
      · have e2 : lcsLen (z :: zs) (y :: ys) = lcsLen zs ys + 1 := by rw [lcs_cons, if_pos h2]
        omega
      · have e2 : lcsLen (z :: zs) (y :: ys) = max (lcsLen zs (y :: ys)) (lcsLen (z :: zs) ys) := by rw [lcs_cons, if_neg h2]
        omega
theorem lcs_self : ∀ a : List Str, lcsLen a a = a.length
  | [] => lcs_nil_left []
  | x :: xs => by rw [lcs_cons, if_pos rfl, lcs_self xs]; rfl
theorem lcs_full : ∀ a b : List Str, lcsLen a b = a.length → lcsLen a b = b.length → a = b
  | [], [], _, _ => rfl
  | [], y :: ys, _, h => by rw [lcs_nil_left] at h; simp at h
  | x :: xs, [], h, _ => by rw [lcsLen_nil_right] at h; simp at h
  | x :: xs, y :: ys, h, h' => by
    rw [lcs_cons] at h h'
    simp only [List.length_cons] at h h'
    by_cases e : x = y
    · rw [if_pos e] at h h'
      rw [e, lcs_full xs ys (by omega) (by omega)]
    · rw [if_neg e] at h h'
      have := lcsLen_le_left xs (y :: ys)
      have := lcs_le_right (x :: xs) ys
      omega

/-- What the law says, of texts that are ok. -/
theorem many_symm (a b : List Str) : diffMany b a = diffMany a b := by
  unfold diffMany
  rw [Bool.and_comm, lcs_symm b a]
  split <;> omega
theorem many_ok {a b : List Str} (h : 0 ≤ diffMany a b) : textOk a = true ∧ textOk b = true ∧ diffMany a b = (a.length : Int) + b.length - 2 * lcsLen a b := by
  unfold diffMany at *
  split at h
  · rename_i hk
    simp at hk
    rw [if_pos (by simp [hk])]
    exact ⟨hk.1, hk.2, rfl⟩
  · omega
theorem many_zero {a b : List Str} (h : 0 ≤ diffMany a b) : diffMany a b = 0 ↔ a = b := by
  obtain ⟨_, _, e⟩ := many_ok h
  have h1 := lcsLen_le_left a b
  have h2 := lcs_le_right a b
  constructor
  · intro h0
    exact lcs_full a b (by omega) (by omega)
  · intro h0
    subst h0
    rw [lcs_self] at e
    omega
theorem many_bounds {a b : List Str} (h : 0 ≤ diffMany a b) : (a.length : Int) - b.length ≤ diffMany a b ∧ (b.length : Int) - a.length ≤ diffMany a b ∧ diffMany a b ≤ (a.length : Int) + b.length := by
  obtain ⟨_, _, e⟩ := many_ok h
  have h1 := lcsLen_le_left a b
  have h2 := lcs_le_right a b
  omega
theorem many_triangle {a b c : List Str} (h : 0 ≤ diffMany a b) (hc : textOk c = true) : diffMany a b ≤ diffMany a c + diffMany c b := by
  obtain ⟨ha, hb, e⟩ := many_ok h
  have e1 : diffMany a c = (a.length : Int) + c.length - 2 * lcsLen a c := by unfold diffMany; rw [ha, hc]; rfl
  have e2 : diffMany c b = (c.length : Int) + b.length - 2 * lcsLen c b := by unfold diffMany; rw [hb, hc]; rfl
  have := lcs_triangle _ a b c (Nat.le_refl _)
  omega
theorem many_range (a b : List Str) : -1 ≤ diffMany a b ∧ diffMany a b ≤ (a.length : Int) + b.length := by
  unfold diffMany
  have h1 := lcsLen_le_left a b
  have h2 := lcs_le_right a b
  split <;> omega

set_option maxHeartbeats 400000 in
theorem smTexts_any (A1 A2 : Option Addr) (n1 c1 n2 c2 : Nat) (xs ys : List Str) (w : World) (lo hi lo' hi' : Nat) (h1 : Rep w lo hi (encText xs) (.slice A1 n1 c1)) (h2 : Rep w lo' hi' (encText ys) (.slice A2 n2 c2)) :
    Calls Try.prog 22 #[.slice A1 n1 c1, .slice A2 n2 c2] w fun e w' => e = .returned (.bool (decide (xs = ys))) ∧ ∃ k, w' = w.drewN k := by
  have hl1 := Text.n h1
  have hl2 := Text.n h2
  obtain ⟨hc1, hm1⟩ := Text.cap h1
  subst hl1 hl2
  by_cases hn : xs.length = ys.length
  · have hn' : ((xs.length : Int) != (ys.length : Int)) = false := by simp [hn]
    have Hn := Lib.hid hn
    clear hn
    go_enter Try.func22, Try.ntmps22
    go_wp2
    go_loopw [5] (fun i wr => ∃ k : Nat, k ≤ xs.length ∧ i = .int .i64 k ∧ Hid (xs.take k = ys.take k) ∧ ∃ m, wr = w.drewN m) (fun i _ => xs.length - (intOf i).toNat)
    case atStart => exact ⟨0, Nat.zero_le _, rfl, Lib.hid (by simp), 0, rfl⟩
    case round =>
      obtain ⟨k, hk, rfl, ht, m, rfl⟩ := hrel
      by_cases hlt : k < xs.length
      · obtain ⟨b1, o1, s1, rfl, _, _, hs1, hcell1⟩ := Text.at h1 hlt
        obtain ⟨b2, o2, s2, rfl, _, _, hs2, hcell2⟩ := Text.at h2 (k := k) (by have := Hn.out; omega)
        have hlt' : (k : Int) < (xs.length : Int) := by omega
        have hlt2 : (k : Int) < (ys.length : Int) := by have := Hn.out; omega
        have hkey : xs.take (k + 1) = ys.take (k + 1) ↔ s1 = s2 := by
          rw [List.take_add_one, List.take_add_one, hs1, hs2, ht.out]; simp
        have Hk := Lib.hid hkey
        have H1 := Lib.hid hs1
        have H2 := Lib.hid hs2
        clear hs1 hs2 hkey
        by_cases he : s1 = s2
        · subst he
          go_wp2
          go_quiet (fail)
          go_wp2
          go_roundw
          case rel => exact ⟨k + 1, by omega, by go_num, Lib.hid (Hk.out.2 (by simp)), m + nq, by simp⟩
          case measure => simp [intOf]; omega
        · have hb : (s1 == s2) = false := by simp [he]
          go_wp2
          go_quiet (fail)
          go_wp2
          go_ret
          refine ⟨?_, m + nq, by simp⟩
          have : xs ≠ ys := fun e => he (Hk.out.1 (by rw [e]))
          simp [this]
      · go_wp2
        go_ret
        refine ⟨?_, m, rfl⟩
        have : xs = ys := by
          have ht := ht.out
          have hn := Hn.out
          rwa [List.take_of_length_le (by omega), List.take_of_length_le (by omega)] at ht
        simp [this]
  · have hn' : ((xs.length : Int) != (ys.length : Int)) = true := by simp; omega
    go_enter Try.func22, Try.ntmps22
    go_wp2
    go_ret
    refine ⟨?_, 0, rfl⟩
    have : xs ≠ ys := fun e => hn (by rw [e])
    simp [this]

end Go.Proofs.Ythjjocimpkjldaa
