/- Plain: a patch read back from its lines; both ways to read. -/
import Derived.Test.YteofafgleojmhaaDoorWritePlain
import Derived.Test.YteofafgleojmhaaDoorPathPlain
import Derived.Lib.AtoiAll
namespace Go.Proofs.YteofafgleojmhaaDoor
open Go.RowKit

/-- One more line taken out (put in) by the last piece. -/
def lessL (d : List PHunk) (l : Str) : List PHunk := match d.getLast? with
  | none => []
  | some x => d.set (d.length - 1) { x with less := x.less ++ [l] }
def moreL (d : List PHunk) (l : Str) : List PHunk := match d.getLast? with
  | none => []
  | some x => d.set (d.length - 1) { x with more := x.more ++ [l] }
def stepG (num : Str → Option Int) (d : List PHunk) : Str → Option (List PHunk)
  | [] => none
  | b :: l => if b = 64 then (num l).map (fun a => d ++ [⟨a, [], []⟩]) else if d = [] then none else if b = 45 then some (lessL d l) else if b = 43 then some (moreL d l) else none
def parseG (num : Str → Option Int) : List PHunk → List Str → Option (List PHunk)
  | d, [] => some d
  | d, l :: ls => match stepG num d l with
    | none => none
    | some d' => parseG num d' ls
def okG (s : Str) (d : List PHunk) : Bool := patchOk d && decide (wPatch d = s)
def endG (s : Str) : Option (List PHunk) → Option (List PHunk)
  | none => none
  | some d => if okG s d = true then some d else none
/-- The reference's way. -/
def digB (b : UInt8) : Bool := decide (48 ≤ b.toNat) && decide (b.toNat ≤ 57)
def digV : Str → Nat → Nat
  | [], n => n
  | b :: s, n => digV s (n * 10 + (b.toNat - 48))
def numS (s : Str) : Int := if (s.all digB && decide (s.length ≤ 6) && decide (1 ≤ s.length) && !(decide (1 < s.length) && decide (s[0]? = some 48))) = true then (digV s 0 : Int) else -1
def linesS (s : Str) : List Str := (cutN 10 169 s).dropLast
def patchGet (s : Str) : Option (List PHunk) := endG s (parseG (fun l => some (numS l)) [] (linesS s))
/-- The program's way. -/
def numI (l : Str) : Option Int := match Lib.atoiAll l with
  | .ok v => if Lib.itoa v = l then some v else none
  | _ => none
def linesI (s : Str) : Option (List Str) := if s = [] then some [] else if (cutN 10 (s.count 10) s).getLast? = some [] then some (cutN 10 (s.count 10) s).dropLast else none
def patchGetI (s : Str) : Option (List PHunk) := match linesI s with
  | none => none
  | some ls => endG s (parseG numI [] ls)

theorem lessL_snoc (d : List PHunk) (x : PHunk) (l : Str) : lessL (d ++ [x]) l = d ++ [{ x with less := x.less ++ [l] }] := by
  unfold lessL
  rw [List.getLast?_concat]
  simp
theorem moreL_snoc (d : List PHunk) (x : PHunk) (l : Str) : moreL (d ++ [x]) l = d ++ [{ x with more := x.more ++ [l] }] := by
  unfold moreL
  rw [List.getLast?_concat]
  simp
theorem parseG_append (num : Str → Option Int) : ∀ (a b : List Str) (d : List PHunk), parseG num d (a ++ b) = (parseG num d a).bind fun d' => parseG num d' b
  | [], b, d => rfl
  | l :: a, b, d => by
    rw [List.cons_append, parseG, parseG]
    cases stepG num d l with
    | none => rfl
    | some d' => exact parseG_append num a b d'
theorem parseG_none {num : Str → Option Int} {d : List PHunk} {ls : List Str} {k : Nat} {l : Str} {d' : List PHunk} (hk : ls[k]? = some l) (h : parseG num d (ls.take k) = some d') (hs : stepG num d' l = none) : parseG num d ls = none := by
  have e : ls = ls.take k ++ l :: ls.drop (k + 1) := by
    rw [← (List.getElem?_eq_some_iff.1 hk).2, ← List.drop_eq_getElem_cons (List.getElem?_eq_some_iff.1 hk).1, List.take_append_drop]
  rw [e, parseG_append, h]
  show parseG num d' (l :: _) = none
  rw [parseG, hs]
theorem parseG_next {num : Str → Option Int} {d : List PHunk} {ls : List Str} {k : Nat} {l : Str} {d' : List PHunk} (hk : ls[k]? = some l) (h : parseG num d (ls.take k) = some d') : parseG num d (ls.take (k + 1)) = stepG num d' l := by
  rw [List.take_add_one, hk, parseG_append, h]
  show parseG num d' [l] = _
  rw [parseG]
  cases stepG num d' l <;> rfl
/-- The lines that a patch is written in. -/
def hunkLines (x : PHunk) : List Str := (64 :: Lib.decDigits x.at_.toNat) :: (x.less.map (45 :: ·) ++ x.more.map (43 :: ·))
def patchLines (d : List PHunk) : List Str := d.flatMap hunkLines
theorem parse_less (num : Str → Option Int) (d : List PHunk) : ∀ (ls : List Str) (x : PHunk), parseG num (d ++ [x]) (ls.map (45 :: ·)) = some (d ++ [{ x with less := x.less ++ ls }])
  | [], x => by simp [parseG]
  | l :: ls, x => by
    have e : stepG num (d ++ [x]) (45 :: l) = some (d ++ [{ x with less := x.less ++ [l] }]) := by
      rw [stepG, if_neg (by decide), if_neg (by simp), if_pos rfl, lessL_snoc]
    rw [List.map_cons, parseG, e]
    show parseG num (d ++ [{ x with less := x.less ++ [l] }]) (ls.map (45 :: ·)) = _
    rw [parse_less num d ls]
    simp
theorem parse_more (num : Str → Option Int) (d : List PHunk) : ∀ (ls : List Str) (x : PHunk), parseG num (d ++ [x]) (ls.map (43 :: ·)) = some (d ++ [{ x with more := x.more ++ ls }])
  | [], x => by simp [parseG]
  | l :: ls, x => by
    have e : stepG num (d ++ [x]) (43 :: l) = some (d ++ [{ x with more := x.more ++ [l] }]) := by
      rw [stepG, if_neg (by decide), if_neg (by simp), if_neg (by decide), if_pos rfl, moreL_snoc]
    rw [List.map_cons, parseG, e]
    show parseG num (d ++ [{ x with more := x.more ++ [l] }]) (ls.map (43 :: ·)) = _
    rw [parse_more num d ls]
    simp
theorem parse_hunk {num : Str → Option Int} (d : List PHunk) (x : PHunk) (h0 : 0 ≤ x.at_) (hn : num (Lib.decDigits x.at_.toNat) = some (x.at_.toNat : Int)) : parseG num d (hunkLines x) = some (d ++ [x]) := by
  have e : stepG num d (64 :: Lib.decDigits x.at_.toNat) = some (d ++ [⟨x.at_, [], []⟩]) := by
    rw [stepG, if_pos rfl, hn]
    simp
    omega
  unfold hunkLines
  rw [parseG, e]
  show parseG num (d ++ [⟨x.at_, [], []⟩]) _ = _
  rw [parseG_append, parse_less]
  show parseG num (d ++ [{ (⟨x.at_, [], []⟩ : PHunk) with less := [] ++ x.less }]) _ = _
  rw [parse_more]
  simp
theorem parse_patch {num : Str → Option Int} (hn : ∀ n : Nat, n ≤ 10 → num (Lib.decDigits n) = some (n : Int)) : ∀ (d acc : List PHunk), (∀ x ∈ d, hunkOk x = true) → parseG num acc (patchLines d) = some (acc ++ d)
  | [], acc, _ => by simp [patchLines, parseG]
  | x :: d, acc, h => by
    obtain ⟨h1, h2, _⟩ := hunkOk_facts (h x List.mem_cons_self)
    unfold patchLines
    rw [List.flatMap_cons, parseG_append, parse_hunk acc x h1 (hn _ (by omega))]
    show parseG num (acc ++ [x]) (patchLines d) = _
    rw [parse_patch hn d (acc ++ [x]) (fun y hy => h y (List.mem_cons_of_mem _ hy))]
    simp
theorem numS_dec (n : Nat) (h : n ≤ 10) : numS (Lib.decDigits n) = (n : Int) := by
  have : ∀ m : Nat, m < 10 → numS [UInt8.ofNat (48 + m)] = (m : Int) := by decide
  by_cases h9 : n < 10
  · rw [decDigits_lt h9]; exact this n h9
  · obtain rfl : n = 10 := by omega
    rw [decDigits_ge (by omega), decDigits_lt (by omega)]
    decide
theorem numI_dec (n : Nat) (h : n ≤ 10) : numI (Lib.decDigits n) = some (n : Int) := by
  have hi : Lib.itoa (n : Int) = Lib.decDigits n := by
    unfold Lib.itoa
    rw [if_neg (by omega)]
    rfl
  have ha : Lib.atoiAll (Lib.decDigits n) = .ok (n : Int) := by
    have : ∀ m : Nat, m < 10 → Lib.atoiAll [UInt8.ofNat (48 + m)] = .ok (m : Int) := by decide
    by_cases h9 : n < 10
    · rw [decDigits_lt h9]; exact this n h9
    · obtain rfl : n = 10 := by omega
      rw [decDigits_ge (by omega), decDigits_lt (by omega)]
      decide
  unfold numI
  rw [ha]
  show (if Lib.itoa (n : Int) = Lib.decDigits n then some (n : Int) else none) = _
  rw [if_pos hi]
/-- The written patch, cut at its line ends. -/
theorem wPatch_lines (d : List PHunk) : wPatch d = (patchLines d).flatMap (fun l => l ++ [10]) := by
  have e : ∀ (c : UInt8) (ls : List Str), (ls.map (c :: ·)).flatMap (fun l => l ++ [10]) = wLines c ls := by
    intro c ls
    unfold wLines
    rw [List.flatMap_map]
    rfl
  unfold wPatch patchLines
  rw [List.flatMap_assoc]
  congr 1
  funext x
  unfold wHunk wHead hunkLines
  rw [List.flatMap_cons, List.flatMap_append, e, e]
  simp
theorem cut_lines : ∀ (L : List Str) (k : Nat), (∀ l ∈ L, (10 : UInt8) ∉ l) → L.length ≤ k → cutN 10 k (L.flatMap (fun l => l ++ [10])) = L ++ [[]]
  | [], k, _, _ => cutN_none (by simp) k
  | l :: L, k, h, hk => by
    obtain ⟨j, rfl⟩ : ∃ j, k = j + 1 := ⟨k - 1, by simp at hk; omega⟩
    rw [List.flatMap_cons, show l ++ [10] ++ L.flatMap (fun l => l ++ [10]) = l ++ 10 :: L.flatMap (fun l => l ++ [10]) by simp, cutN_hit (h l List.mem_cons_self) j, cut_lines L j (fun x hx => h x (List.mem_cons_of_mem _ hx)) (by simpa using hk)]
    rfl
theorem count_lines : ∀ (L : List Str), (∀ l ∈ L, (10 : UInt8) ∉ l) → (L.flatMap (fun l => l ++ [10])).count 10 = L.length
  | [], _ => rfl
  | l :: L, h => by
    rw [List.flatMap_cons, List.count_append, List.count_append, count_lines L (fun x hx => h x (List.mem_cons_of_mem _ hx)), List.count_eq_zero_of_not_mem (h l List.mem_cons_self)]
    simp
    omega
theorem line_no10 {t : List Str} (h : textOk t = true) : ∀ s ∈ t, (10 : UInt8) ∉ s := fun s hs hm => by
  unfold textOk lineOk at h
  simp only [Bool.and_eq_true, decide_eq_true_eq, List.all_eq_true] at h
  have := (h.2 s hs).2 10 hm
  revert this
  decide
theorem dec_no10 (n : Nat) (h : n ≤ 10) : (10 : UInt8) ∉ Lib.decDigits n := by
  have : ∀ m : Nat, m < 10 → (10 : UInt8) ∉ [UInt8.ofNat (48 + m)] := by decide
  by_cases h9 : n < 10
  · rw [decDigits_lt h9]; exact this n h9
  · obtain rfl : n = 10 := by omega
    rw [decDigits_ge (by omega), decDigits_lt (by omega)]
    decide
theorem lines_no10 {d : List PHunk} (h : ∀ x ∈ d, hunkOk x = true) : ∀ l ∈ patchLines d, (10 : UInt8) ∉ l := by
  intro l hl hm
  obtain ⟨x, hx, hl⟩ := List.mem_flatMap.1 hl
  obtain ⟨h1, h2, h3, h4, _⟩ := hunkOk_facts (h x hx)
  unfold hunkLines at hl
  rcases List.mem_cons.1 hl with rfl | hl
  · rcases List.mem_cons.1 hm with e | hm
    · revert e; decide
    · exact dec_no10 _ (by omega) hm
  · rcases List.mem_append.1 hl with hl | hl
    · obtain ⟨s, hs, rfl⟩ := List.mem_map.1 hl
      rcases List.mem_cons.1 hm with e | hm
      · revert e; decide
      · exact line_no10 h3 s hs hm
    · obtain ⟨s, hs, rfl⟩ := List.mem_map.1 hl
      rcases List.mem_cons.1 hm with e | hm
      · revert e; decide
      · exact line_no10 h4 s hs hm
theorem patchLines_len {d : List PHunk} (h : ∀ x ∈ d, hunkOk x = true) : (patchLines d).length ≤ 21 * d.length := by
  induction d with
  | nil => simp [patchLines]
  | cons x d ih =>
    have h1 := ih (fun y hy => h y (List.mem_cons_of_mem _ hy))
    obtain ⟨_, _, _, _, h5, h6, _⟩ := hunkOk_facts (h x List.mem_cons_self)
    have h2 : (hunkLines x).length = 1 + (x.less.length + x.more.length) := by
      unfold hunkLines
      simp
      omega
    unfold patchLines at h1 ⊢
    rw [List.flatMap_cons, List.length_append, h2, List.length_cons]
    omega
theorem getS_of_ok {d : List PHunk} (h : patchOk d = true) : patchGet (wPatch d) = some d := by
  have hh := hunkOk_of_patchOk h
  have hl := patchLines_len hh
  have h8 := patchOk_len h
  unfold patchGet linesS
  rw [wPatch_lines, cut_lines _ 169 (lines_no10 hh) (by omega), List.dropLast_concat, parse_patch (fun n hn => by rw [numS_dec n hn]) d [] hh, ← wPatch_lines]
  unfold endG okG
  simp [h]
theorem getI_of_ok {d : List PHunk} (h : patchOk d = true) : patchGetI (wPatch d) = some d := by
  have hh := hunkOk_of_patchOk h
  have hcut : cutN 10 ((wPatch d).count 10) (wPatch d) = patchLines d ++ [[]] := by
    rw [wPatch_lines]
    exact cut_lines _ _ (lines_no10 hh) (by rw [count_lines _ (lines_no10 hh)]; exact Nat.le_refl _)
  have hend : endG (wPatch d) (parseG numI [] (patchLines d)) = some d := by
    rw [parse_patch (fun n hn => numI_dec n hn) d [] hh]
    unfold endG okG
    simp [h]
  unfold patchGetI linesI
  by_cases e : wPatch d = []
  · rw [if_pos e]
    have e2 : patchLines d = [] := by
      rw [wPatch_lines] at e
      cases hp : patchLines d with
      | nil => rfl
      | cons a b => rw [hp, List.flatMap_cons] at e; simp at e
    rw [e2] at hend
    exact hend
  · rw [if_neg e, hcut, List.getLast?_concat, if_pos rfl, List.dropLast_concat]
    exact hend
theorem endG_some {s : Str} {o : Option (List PHunk)} {d : List PHunk} (h : endG s o = some d) : patchOk d = true ∧ wPatch d = s := by
  unfold endG at h
  split at h
  · cases h
  · split at h
    · rename_i d' h9
      cases h
      unfold okG at h9
      simpa using h9
    · cases h
theorem getS_iff {s : Str} {d : List PHunk} : patchGet s = some d ↔ patchOk d = true ∧ wPatch d = s :=
  ⟨fun h => endG_some h, fun h => by rw [← h.2]; exact getS_of_ok h.1⟩
theorem getI_iff {s : Str} {d : List PHunk} : patchGetI s = some d ↔ patchOk d = true ∧ wPatch d = s := by
  refine ⟨fun h => ?_, fun h => by rw [← h.2]; exact getI_of_ok h.1⟩
  unfold patchGetI at h
  split at h
  · cases h
  · exact endG_some h
theorem getI_eq (s : Str) : patchGetI s = patchGet s := by
  cases h : patchGet s with
  | none =>
    cases h2 : patchGetI s with
    | none => rfl
    | some d => rw [getS_iff.2 (getI_iff.1 h2)] at h; cases h
  | some d => exact getI_iff.2 (getS_iff.1 h)
end Go.Proofs.YteofafgleojmhaaDoor
