/- Walks: strings and texts: sz, to, eq of []string; lineOk, TextOk and the reference's. -/
import Derived.Test.YteofafgleojmhaaDoorRows
import Derived.Test.YteofafgleojmhaaDoorData
namespace Go.Proofs.YteofafgleojmhaaDoor
open Go.RowKit
def Small (xs : List Str) : Prop := ∀ s ∈ xs, s.length ≤ 1048576
def total (xs : List Str) : Nat := xs.length + (xs.map List.length).sum
theorem le_sum_of_mem : ∀ {l : List Nat} {a : Nat}, a ∈ l → a ≤ l.sum
  | b :: l, a, h => by
    rcases List.mem_cons.1 h with rfl | h
    · simp
    · have := le_sum_of_mem h
      simp; omega
theorem small_of_total {xs : List Str} (h : total xs ≤ 1048576) : xs.length ≤ 1048576 ∧ ∀ s ∈ xs, s.length ≤ 1048576 := by
  unfold total at h
  refine ⟨by omega, fun s hs => ?_⟩
  have : s.length ≤ (xs.map List.length).sum := le_sum_of_mem (List.mem_map_of_mem hs)
  omega


set_option maxHeartbeats 400000 in
theorem eqStringS_any (A1 A2 : Option Addr) (n1 c1 n2 c2 : Nat) (xs ys : List Str) (w : World) (lo hi lo' hi' : Nat) (h1 : Rep w lo hi (encText xs) (.slice A1 n1 c1)) (h2 : Rep w lo' hi' (encText ys) (.slice A2 n2 c2)) :
    Calls Tryd.prog 31 #[.slice A1 n1 c1, .slice A2 n2 c2] w fun e w' => e = .returned (.bool (decide (xs = ys))) ∧ ∃ k, w' = w.drewN k := by
  have hl1 := Text.n h1
  have hl2 := Text.n h2
  obtain ⟨hc1, hm1⟩ := Text.cap h1
  subst hl1 hl2
  by_cases hn : xs.length = ys.length
  · have hn' : ((xs.length : Int) != (ys.length : Int)) = false := by simp [hn]
    have Hn := Lib.hid hn
    clear hn
    go_enter Tryd.func31, Tryd.ntmps31
    go_wp2
    go_loopw [5] (fun i wr => ∃ k : Nat, k ≤ xs.length ∧ i = .int .i64 k ∧ Hid (xs.take k = ys.take k) ∧ ∃ m, wr = w.drewN m) (fun i _ => xs.length - (intOf i).toNat)
    case atStart => exact ⟨0, Nat.zero_le _, rfl, Lib.hid (by simp), 0, rfl⟩
    case round =>
      obtain ⟨k, hk, rfl, ht, m, rfl⟩ := hrel
      by_cases hlt : k < xs.length
      · obtain ⟨b1, o1, s1, rfl, _, _, hs1, hcell1⟩ := Text.at h1 hlt
        obtain ⟨b2, o2, s2, rfl, _, _, hs2, hcell2⟩ := Text.at h2 (k := k) (by have := Hn.out; omega)
        have hlt' : (k : Int) < (xs.length : Int) := by omega
        have hlt2 : (k : Int) < (ys.length : Int) := by have := Hn.out; omega
        have hkey : xs.take (k + 1) = ys.take (k + 1) ↔ s1 = s2 := by
          rw [List.take_add_one, List.take_add_one, hs1, hs2, ht.out]; simp
        have Hk := Lib.hid hkey
        have H1 := Lib.hid hs1
        have H2 := Lib.hid hs2
        clear hs1 hs2 hkey
        by_cases he : s1 = s2
        · subst he
          go_wp2
          go_quiet (fail)
          go_wp2
          go_roundw
          case rel => exact ⟨k + 1, by omega, by go_num, Lib.hid (Hk.out.2 (by simp)), m + nq, by simp⟩
          case measure => simp [intOf]; omega
        · have hb : (s1 == s2) = false := by simp [he]
          go_wp2
          go_quiet (fail)
          go_wp2
          go_ret
          refine ⟨?_, m + nq, by simp⟩
          have : xs ≠ ys := fun e => he (Hk.out.1 (by rw [e]))
          simp [this]
      · go_wp2
        go_ret
        refine ⟨?_, m, rfl⟩
        have : xs = ys := by
          have ht := ht.out
          have hn := Hn.out
          rwa [List.take_of_length_le (by omega), List.take_of_length_le (by omega)] at ht
        simp [this]
  · have hn' : ((xs.length : Int) != (ys.length : Int)) = true := by simp; omega
    go_enter Tryd.func31, Tryd.ntmps31
    go_wp2
    go_ret
    refine ⟨?_, 0, rfl⟩
    have : xs ≠ ys := fun e => hn (by rw [e])
    simp [this]


theorem Tryd.infoStr : (Tryd.prog.info? 9).map (fun i => (i.zero, i.size, i.bytes)) = some (some (.string ⟨#[]⟩), 1, 16) := by kernel_rfl
theorem Fresh.of_row {w : World} {base e z n : Nat} {v : Value} {us : List Value} {ps : List PV} (h : w.ownsRow base e z v n us) (ho : Owns w ps us []) : Fresh w base w.heap.size (.sl e z ps) v := by
  refine ⟨v.ownBlock.toList, ⟨n, us, [], ⟨h.1, ?_⟩, by simp, ho⟩, ?_, fun k hk => ?_⟩
  · rcases h.2 with h2 | ⟨g, cap, cur, r⟩
    · exact .inl h2
    · exact .inr ⟨g, cap, cur, r.1, Nat.zero_le _, r.2.2⟩
  · cases v.ownBlock <;> simp
  · exact h.lt k (by simpa using hk)
theorem owns_strs (w : World) : ∀ xs : List Str, Owns w (xs.flatMap cText) (xs.map fun s => .string ⟨s.toArray⟩) []
  | [] => ⟨rfl, rfl⟩
  | _ :: xs => ⟨_, _, [], [], rfl, rfl, ⟨rfl, rfl⟩, owns_strs w xs⟩


def byteOk (b : UInt8) : Bool := decide (32 ≤ b.toNat) && decide (b.toNat ≤ 126)
def lineOk (s : Str) : Bool := decide (s.length ≤ 12) && s.all byteOk
def textOk (t : List Str) : Bool := decide (t.length ≤ 10) && t.all lineOk
theorem textOk_len {a : List Str} (h : textOk a = true) : a.length ≤ 10 := by
  simp [textOk] at h; exact h.1


theorem byte_at {s : Str} {k : Nat} {c : UInt8} (h : s[k]? = some c) (hk : k < (⟨s.toArray⟩ : ByteArray).size) : (⟨s.toArray⟩ : ByteArray)[k] = c := by
  have h2 := (List.getElem?_eq_some_iff.1 h).2
  simpa [ByteArray.getElem_eq_getElem_data] using h2
theorem size_mk (s : Str) : (⟨s.toArray⟩ : ByteArray).size = s.length := by simp [ByteArray.size]
theorem all_take_succ {α : Type} {p : α → Bool} {xs : List α} {k : Nat} {c : α} (hc : xs[k]? = some c) (h : (xs.take k).all p = true) (hp : p c = true) : (xs.take (k + 1)).all p = true := by
  rw [List.take_add_one, hc, List.all_append, h]; simp [hp]
theorem all_false {α : Type} {p : α → Bool} {xs : List α} {k : Nat} {c : α} (hc : xs[k]? = some c) (hp : p c = false) : xs.all p = false := by
  have hm : c ∈ xs := List.mem_of_getElem? hc
  cases h : xs.all p with
  | false => rfl
  | true => rw [List.all_eq_true] at h; rw [h c hm] at hp; cases hp
theorem ret_bool {a b : Bool} (h : a = b) : Ending.returned (.bool a) = .returned (.bool b) := by rw [h]
theorem ret_int {k : IntKind} {a b : Int} (h : a = b) : Ending.returned (.int k a) = .returned (.int k b) := by rw [h]

set_option maxHeartbeats 400000 in
theorem impl_lineOk_any (s : Str) (w : World) :
    Calls Tryd.prog 38 #[.string ⟨s.toArray⟩] w fun e w' => e = .returned (.bool (lineOk s)) ∧ w = w' := by
  by_cases h12 : s.length ≤ 12
  · go_enter Tryd.func38, Tryd.ntmps38
    go_wp2
    go_loop [3] (fun i => ∃ k : Nat, k ≤ s.length ∧ i = .int .i64 k ∧ Hid ((s.take k).all byteOk = true)) (fun i => s.length - (intOf i).toNat)
    case atStart => exact ⟨0, Nat.zero_le _, rfl, Lib.hid (by simp)⟩
    case round =>
      obtain ⟨k, hk, rfl, ht⟩ := hrel
      by_cases hkn : k < s.length
      · have hkn' : (k : Int) < (s.length : Int) := by omega
        obtain ⟨c, hc⟩ : ∃ c, s[k]? = some c := ⟨_, List.getElem?_eq_getElem hkn⟩
        have hb := byte_at hc (by rw [size_mk]; exact hkn)
        have Hc := Lib.hid hc
        clear hc
        by_cases h1 : 32 ≤ c.toNat
        · by_cases h2 : c.toNat ≤ 126
          · have h2' : ¬ (126 : Int) < (c.toNat : Int) := by omega
            go_wp2
            go_round
            case rel => exact ⟨k + 1, by omega, by go_num, Lib.hid (all_take_succ Hc.out ht.out (by simp [byteOk, h1, h2]))⟩
            case measure => simp [intOf]; omega
          · have h2' : (126 : Int) < (c.toNat : Int) := by omega
            go_wp2
            go_ret
            exact ⟨ret_bool (by unfold lineOk; rw [all_false Hc.out (by simp [byteOk, h2])]; simp), rfl⟩
        · have h1' : (c.toNat : Int) < 32 := by omega
          go_wp2
          go_ret
          exact ⟨ret_bool (by unfold lineOk; rw [all_false Hc.out (by simp [byteOk, h1])]; simp), rfl⟩
      · go_wp2
        go_ret
        have ht := ht.out
        rw [List.take_of_length_le (by omega)] at ht
        exact ⟨ret_bool (by simp [lineOk, ht, h12]), rfl⟩
  · go_enter Tryd.func38, Tryd.ntmps38
    go_wp2
    go_ret
    exact ⟨ret_bool (by simp [lineOk]; omega), rfl⟩

set_option maxHeartbeats 400000 in
theorem spec_l1Line_any (s : Str) (w : World) (hs : s.length ≤ 9223372036854775807) :
    Calls Tryd.prog 33 #[.string ⟨s.toArray⟩] w fun e w' => e = .returned (.bool (lineOk s)) ∧ w = w' := by
  go_enter Tryd.func33, Tryd.ntmps33
  go_wp2
  go_loop [3] (fun i => ∃ k : Nat, k ≤ s.length ∧ i = .int .i64 k ∧ Hid ((s.take k).all byteOk = true)) (fun i => s.length - (intOf i).toNat)
  case atStart => exact ⟨0, Nat.zero_le _, rfl, Lib.hid (by simp)⟩
  case round =>
    obtain ⟨k, hk, rfl, ht⟩ := hrel
    by_cases hkn : k < s.length
    · have hkn' : (k : Int) < (s.length : Int) := by omega
      obtain ⟨c, hc⟩ : ∃ c, s[k]? = some c := ⟨_, List.getElem?_eq_getElem hkn⟩
      have hb := byte_at hc (by rw [size_mk]; exact hkn)
      have Hc := Lib.hid hc
      clear hc
      by_cases h1 : 32 ≤ c.toNat
      · by_cases h2 : c.toNat ≤ 126
        · have h2' : ¬ (126 : Int) < (c.toNat : Int) := by omega
          go_wp2
          go_round
          case rel => exact ⟨k + 1, by omega, by go_num, Lib.hid (all_take_succ Hc.out ht.out (by simp [byteOk, h1, h2]))⟩
          case measure => simp [intOf]; omega
        · have h2' : (126 : Int) < (c.toNat : Int) := by omega
          go_wp2
          go_ret
          exact ⟨ret_bool (by unfold lineOk; rw [all_false Hc.out (by simp [byteOk, h2])]; simp), rfl⟩
      · have h1' : (c.toNat : Int) < 32 := by omega
        go_wp2
        go_ret
        exact ⟨ret_bool (by unfold lineOk; rw [all_false Hc.out (by simp [byteOk, h1])]; simp), rfl⟩
    · have ht := ht.out
      rw [List.take_of_length_le (by omega)] at ht
      by_cases h12 : s.length ≤ 12
      all_goals
        go_wp2
        go_ret
        exact ⟨ret_bool (by simp [lineOk, ht]; omega), rfl⟩

set_option maxHeartbeats 400000 in
theorem impl_TextOk_any (A : Option Addr) (n c : Nat) (xs : List Str) (w : World) (lo hi : Nat) (h : Rep w lo hi (encText xs) (.slice A n c)) :
    Calls Tryd.prog 27 #[.slice A n c] w fun e w' => e = .returned (.bool (textOk xs)) ∧ w = w' := by
  have hl := Text.n h
  obtain ⟨hc, hm⟩ := Text.cap h
  subst hl
  by_cases h10 : xs.length ≤ 10
  · go_enter Tryd.func27, Tryd.ntmps27
    go_wp2
    go_loop [10] (fun i => ∃ k : Nat, k ≤ xs.length ∧ i = .int .i64 k ∧ Hid ((xs.take k).all lineOk = true)) (fun i => xs.length - (intOf i).toNat)
    case atStart => exact ⟨0, Nat.zero_le _, rfl, Lib.hid (by simp)⟩
    case round =>
      obtain ⟨k, hk, rfl, ht⟩ := hrel
      by_cases hkn : k < xs.length
      · have hkn' : (k : Int) < (xs.length : Int) := by omega
        obtain ⟨b1, o1, s1, rfl, _, _, hs1, hcell1⟩ := Text.at h hkn
        have Hc := Lib.hid hs1
        clear hs1
        cases hok : lineOk s1
        · go_wp2_with (go_at_call 38; refine (impl_lineOk_any _ _).mono ?_; rintro e w' ⟨rfl, rfl⟩)
          go_ret
          exact ⟨ret_bool (by unfold textOk; rw [all_false Hc.out hok]; simp), rfl⟩
        · go_wp2_with (go_at_call 38; refine (impl_lineOk_any _ _).mono ?_; rintro e w' ⟨rfl, rfl⟩)
          go_round
          case rel => exact ⟨k + 1, by omega, by go_num, Lib.hid (all_take_succ Hc.out ht.out hok)⟩
          case measure => simp [intOf]; omega
      · go_wp2
        go_ret
        have ht := ht.out
        rw [List.take_of_length_le (by omega)] at ht
        exact ⟨ret_bool (by simp [textOk, ht, h10]), rfl⟩
  · go_enter Tryd.func27, Tryd.ntmps27
    go_wp2
    go_ret
    exact ⟨ret_bool (by simp [textOk]; omega), rfl⟩

set_option maxHeartbeats 400000 in
theorem spec_l1Ok_any (A : Option Addr) (n c : Nat) (xs : List Str) (w : World) (lo hi : Nat) (h : Rep w lo hi (encText xs) (.slice A n c)) (hs : ∀ s ∈ xs, s.length ≤ 9223372036854775807) :
    Calls Tryd.prog 20 #[.slice A n c] w fun e w' => e = .returned (.bool (textOk xs)) ∧ w = w' := by
  have hl := Text.n h
  obtain ⟨hc, hm⟩ := Text.cap h
  subst hl
  go_enter Tryd.func20, Tryd.ntmps20
  go_wp2
  go_loop [3] (fun i => ∃ k : Nat, k ≤ xs.length ∧ i = .int .i64 k ∧ Hid ((xs.take k).all lineOk = true)) (fun i => xs.length - (intOf i).toNat)
  case atStart => exact ⟨0, Nat.zero_le _, rfl, Lib.hid (by simp)⟩
  case round =>
    obtain ⟨k, hk, rfl, ht⟩ := hrel
    by_cases hkn : k < xs.length
    · have hkn' : (k : Int) < (xs.length : Int) := by omega
      obtain ⟨b1, o1, s1, rfl, _, _, hs1, hcell1⟩ := Text.at h hkn
      have hsl := hs s1 (List.mem_of_getElem? hs1)
      have Hc := Lib.hid hs1
      clear hs1
      cases hok : lineOk s1
      · go_wp2_with (go_at_call 33; refine (spec_l1Line_any _ _ hsl).mono ?_; rintro e w' ⟨rfl, rfl⟩)
        go_ret
        exact ⟨ret_bool (by unfold textOk; rw [all_false Hc.out hok]; simp), rfl⟩
      · go_wp2_with (go_at_call 33; refine (spec_l1Line_any _ _ hsl).mono ?_; rintro e w' ⟨rfl, rfl⟩)
        go_round
        case rel => exact ⟨k + 1, by omega, by go_num, Lib.hid (all_take_succ Hc.out ht.out hok)⟩
        case measure => simp [intOf]; omega
    · have ht := ht.out
      rw [List.take_of_length_le (by omega)] at ht
      by_cases h10 : xs.length ≤ 10
      all_goals
        go_wp2
        go_ret
        exact ⟨ret_bool (by simp [textOk, ht]; omega), rfl⟩

end Go.Proofs.YteofafgleojmhaaDoor
