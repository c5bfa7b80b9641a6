/- One element more behind a row that the call owns, beside other values that it owns: the append as one step. Any program. -/
import Derived.Test.YteofafgleojmhaaDoorRepL
import Derived.Test.YteofafgleojmhaaDoorLit
import Derived.Test.YteofafgleojmhaaDoorAppend
import Derived.Test.YteofafgleojmhaaDoorOnly
namespace Go.Proofs.YteofafgleojmhaaDoor
open Go.RowKit

theorem Own.row {w : World} {lo e z n c : Nat} {A : Option Addr} {ps : List PV} {F : List Nat} (h : Own w (.sl e z ps) (.slice A n c) F) (hb : ∀ k ∈ F, lo ≤ k) :
    ∃ us G, w.ownsRow lo e z (.slice A n c) n us ∧ Owns w ps us G ∧ F = (Value.slice A n c).ownBlock.toList ++ G := by
  obtain ⟨n', us, G, hr, hF, ho⟩ := h
  have e9 : n' = n := by
    rcases hr.2 with ⟨e1, e2⟩ | ⟨g, cap, cur, e1, _⟩
    · cases e1; exact e2
    · cases e1; rfl
  subst e9 hF
  refine ⟨us, G, ⟨hr.1, ?_⟩, ho, rfl⟩
  rcases hr.2 with h2 | ⟨g, cap, cur, e1, _, r⟩
  · exact .inl h2
  · exact .inr ⟨g, cap, cur, e1, hb g (by rw [e1]; simp [Value.ownBlock]), r⟩
theorem FreshL.fst {w : World} {lo hi : Nat} {p : PV} {v : Value} {Qs : List PV} {vs : List Value} (h : FreshL w lo hi (p :: Qs) (v :: vs)) : Fresh w lo hi p v := by
  obtain ⟨F, ⟨_, _, F1, F2, hu, hF, h1, _⟩, hn, hb⟩ := h
  obtain ⟨rfl, rfl⟩ := List.cons.inj hu
  subst hF
  exact ⟨F1, h1, (List.nodup_append.1 hn).1, fun k hk => hb k (List.mem_append_left _ hk)⟩
theorem FreshL.swap {w : World} {lo hi : Nat} {p q : PV} {u v : Value} (h : FreshL w lo hi [p, q] [u, v]) : FreshL w lo hi [q, p] [v, u] := by
  obtain ⟨F, ⟨_, _, F1, F2, hu, hF, h1, h2⟩, hn, hb⟩ := h
  obtain ⟨rfl, rfl⟩ := List.cons.inj hu
  obtain ⟨_, _, F3, F4, hu, hF2, h3, h4⟩ := h2
  obtain ⟨rfl, rfl⟩ := List.cons.inj hu
  have e4 : F4 = [] := h4.2
  subst e4
  rw [List.append_nil] at hF2
  subst hF2 hF
  refine ⟨F2 ++ F1, ⟨_, _, F2, F1, rfl, rfl, h3, _, _, F1, [], rfl, (List.append_nil _).symm, h1, rfl, rfl⟩, ?_, fun k hk => hb k ?_⟩
  · obtain ⟨n1, n2, n3⟩ := List.nodup_append.1 hn
    exact List.nodup_append.2 ⟨n2, n1, fun a ha b hb e => n3 b hb a ha e.symm⟩
  · exact (List.mem_append.1 hk).elim (List.mem_append_right _) (List.mem_append_left _)
/-- The first value's row has grown by cells whose blocks are fresh. -/
theorem FreshL.grewHead {wo W w w7 : World} {lo e z n' c' n7 c7 : Nat} {A' A7 : Option Addr} {ps qs Qs : List PV} {vals vs : List Value} {us : List Value} {G F2 : List Nat}
    (ho : Owns wo ps us G) (h2 : Owns wo Qs vs F2) (hn : (((Value.slice A' n' c').ownBlock.toList ++ G) ++ F2).Nodup) (hbd : ∀ k ∈ ((Value.slice A' n' c').ownBlock.toList ++ G) ++ F2, lo ≤ k ∧ k < wo.heap.size)
    (hb : Below wo.heap.size wo w) (hW : W.heap.size ≤ w.heap.size) (hkW : ∀ q, q < W.heap.size → w.heap[q]? = W.heap[q]?) (hnew : FreshL W wo.heap.size W.heap.size qs vals)
    (hown7 : w7.ownsRow lo e z (.slice A7 n7 c7) n7 (us ++ vals)) (hg7 : w.grownBy w7 (Value.slice A' n' c').ownBlock)
    (hat7 : (Value.slice A7 n7 c7).ownBlock = (Value.slice A' n' c').ownBlock ∨ (Value.slice A7 n7 c7).ownBlock = some w.heap.size) (hlo : lo ≤ wo.heap.size) :
    FreshL w7 lo w7.heap.size (.sl e z (ps ++ qs) :: Qs) (.slice A7 n7 c7 :: vs) := by
  obtain ⟨F', hO', hN', hB'⟩ := hnew
  have hsz := hg7.size
  have hwo := hb.size
  obtain ⟨hn1, hn2, hn3⟩ := List.nodup_append.1 hn
  obtain ⟨hn4, hn5, hn6⟩ := List.nodup_append.1 hn1
  have kG : ∀ q ∈ G, w7.heap[q]? = wo.heap[q]? := fun q hq => by
    have h9 := hbd q (List.mem_append_left _ (List.mem_append_right _ hq))
    exact (hg7.block q (by omega) (fun e9 => hn6 q (by rw [← e9]; simp) q hq rfl)).trans (hb.block q h9.2)
  have k2 : ∀ q ∈ F2, w7.heap[q]? = wo.heap[q]? := fun q hq => by
    have h9 := hbd q (List.mem_append_right _ hq)
    exact (hg7.block q (by omega) (fun e9 => hn3 q (List.mem_append_left _ (by rw [← e9]; simp)) q hq rfl)).trans (hb.block q h9.2)
  have kF : ∀ q ∈ F', w7.heap[q]? = W.heap[q]? := fun q hq => by
    have h9 := hB' q hq
    exact (hg7.block q (by omega) (fun e9 => by
      have := (hbd q (List.mem_append_left _ (List.mem_append_left _ (by rw [← e9]; simp)))).2
      omega)).trans (hkW q h9.2)
  have hv7 : ∀ g, (Value.slice A7 n7 c7).ownBlock = some g → g < w7.heap.size ∧ lo ≤ g := fun g hg => by
    have := hown7.lt g hg; exact ⟨this.2, this.1⟩
  have hap : ∀ g, (Value.slice A7 n7 c7).ownBlock = some g → g ∉ G ∧ g ∉ F2 ∧ g ∉ F' := fun g hg => by
    rcases hat7 with e9 | e9
    · rw [e9] at hg
      have hm : g ∈ (Value.slice A' n' c').ownBlock.toList := by rw [hg]; simp
      have := (hbd g (List.mem_append_left _ (List.mem_append_left _ hm))).2
      exact ⟨fun m => hn6 g hm g m rfl, fun m => hn3 g (List.mem_append_left _ hm) g m rfl, fun m => by have := (hB' g m).1; omega⟩
    · rw [e9] at hg
      have hg9 : w.heap.size = g := by simpa using hg
      refine ⟨fun m => ?_, fun m => ?_, fun m => ?_⟩
      · have := (hbd g (List.mem_append_left _ (List.mem_append_right _ m))).2; omega
      · have := (hbd g (List.mem_append_right _ m)).2; omega
      · have := (hB' g m).2; omega
  have hGF : ∀ a ∈ G ++ F', a ∉ F2 ∧ a < w7.heap.size ∧ lo ≤ a := fun a ha => by
    rcases List.mem_append.1 ha with m | m
    · have h9 := hbd a (List.mem_append_left _ (List.mem_append_right _ m))
      exact ⟨fun m2 => hn3 a (List.mem_append_right _ m) a m2 rfl, by omega, h9.1⟩
    · have h9 := hB' a m
      exact ⟨fun m2 => by have := (hbd a (List.mem_append_right _ m2)).2; omega, by omega, by omega⟩
  refine ⟨((Value.slice A7 n7 c7).ownBlock.toList ++ (G ++ F')) ++ F2, ⟨_, _, _, _, rfl, rfl, ⟨n7, us ++ vals, G ++ F', ⟨hown7.1, ?_⟩, rfl, (Owns.same _ _ _ ho kG).append (Owns.same _ _ _ hO' kF)⟩, Owns.same _ _ _ h2 k2⟩, ?_, ?_⟩
  · rcases hown7.2 with h9 | ⟨g, cap, cur, r⟩
    · exact .inl h9
    · exact .inr ⟨g, cap, cur, r.1, Nat.zero_le _, r.2.2⟩
  · refine List.nodup_append.2 ⟨List.nodup_append.2 ⟨by cases (Value.slice A7 n7 c7).ownBlock <;> simp, List.nodup_append.2 ⟨hn5, hN', fun a ha b hb9 e9 => ?_⟩, fun a ha b hb9 e9 => ?_⟩, hn2, fun a ha b hb9 e9 => ?_⟩
    · have := (hbd a (List.mem_append_left _ (List.mem_append_right _ ha))).2
      have := (hB' b hb9).1
      omega
    · subst e9
      have h9 := hap a (by simpa using ha)
      rcases List.mem_append.1 hb9 with m | m
      · exact h9.1 m
      · exact h9.2.2 m
    · subst e9
      rcases List.mem_append.1 ha with m | m
      · exact (hap a (by simpa using m)).2.1 hb9
      · exact (hGF a m).1 hb9
  · intro k hk
    rcases List.mem_append.1 hk with m | m
    · rcases List.mem_append.1 m with m | m
      · have := hv7 k (by simpa using m); omega
      · have := hGF k m; omega
    · have h9 := hbd k (List.mem_append_right _ m); omega

section
variable {P : Program}
theorem wp_push {o : Oper} {a : Act} {w : World} {K : Act → World → Prop} {Q : Exit → Act → World → Prop} (s x : Operand) (t : TypeId)
    (ho : o.op = .call { callee := .builtin .append, args := #[s, x], argTypes := #[t, t] })
    (base : Nat) (e : TypeId) (i : TypeInfo) (z : Value) (size bytes : Nat) (ht : P.underlying t = some (.slice e)) (hi : P.info? e = some i) (hz : i.zero = some z)
    (hsize : i.size = size) (hby : i.bytes = bytes) (hzs : z.cells.size = size) (hsz : 0 < size)
    (wo W : World) (ps Qs : List PV) (vs : List Value) (A' : Option Addr) (n' c' : Nat) (hF : FreshL wo base wo.heap.size (.sl e size ps :: Qs) (.slice A' n' c' :: vs)) (hB : base ≤ wo.heap.size) (hb : Below wo.heap.size wo W)
    (vals : List Value) (qs : List PV) (hnew : FreshL W wo.heap.size W.heap.size qs vals) (hlen : vals.length = 1 * size) (hw : w = W.alloc (.cells vals.toArray e))
    (hs : a.eval s = .slice A' n' c') (adr cx : Nat) (hx : a.eval x = .slice (some ⟨adr, 0, none⟩) 1 cx) (hadr : adr = W.heap.size)
    (h1 : ∀ u ∈ vals, u.oneCell' = true) (h63 : n' + 1 ≤ maxLen) (hbytes : (n' + 1) * bytes ≤ 140737488355328)
    (h : ∀ A7 c7 w7, FreshL w7 base w7.heap.size (.sl e size (ps ++ qs) :: Qs) (.slice A7 (n' + 1) c7 :: vs) → Below base wo w7 → Same wo.heap.size W.heap.size W w7 → W.heap.size < w7.heap.size → K (a.put o.dst (.slice A7 (n' + 1) c7)) w7) : o.wp P a w K Q := by
  subst hw hadr
  obtain ⟨F, ⟨_, _, F1, F2, hu, hFe, hO1, hO2⟩, hn, hbd⟩ := hF
  obtain ⟨rfl, rfl⟩ := List.cons.inj hu
  subst hFe
  obtain ⟨us, G, hrow, ho1, hFe⟩ := hO1.row (lo := base) (fun k hk => (hbd k (List.mem_append_left _ hk)).1)
  subst hFe
  have hsW := hb.size
  have hbw : Below wo.heap.size wo (W.alloc (.cells vals.toArray e)) := hb.alloc hsW _
  have hrow' : (W.alloc (.cells vals.toArray e)).ownsRow base e size (.slice A' n' c') n' us :=
    ownsRow_same hrow (fun k hk => hbw.block k (hbd k (List.mem_append_left _ (List.mem_append_left _ hk))).2)
  have hsa : (W.alloc (.cells vals.toArray e)).heap.size = W.heap.size + 1 := by simp
  refine wp_append_src _ s x t ho base e i z size bytes ht hi hz hsize hby hzs hsz _ n' us hs hrow' _ 1 cx vals hx (Src.lit W e vals size 1 hlen) h1 h63 hbytes (by omega) ?_
  intro A7 c7 w7 hown7 hg7 hat7
  have hz7 := hg7.size
  refine h A7 c7 w7 (FreshL.grewHead ho1 hO2 hn hbd hbw (by omega) (fun q hq => Below.heap_alloc W _ q hq) hnew hown7 hg7 hat7 hB) ?_ ?_ (by omega)
  · exact (hbw.mono hB).grown hg7 (by omega) (fun g hg => (hrow.lt g hg).1)
  · intro q h3 h4
    refine (hg7.block q (by omega) (fun e9 => ?_)).trans (Below.heap_alloc W _ q h4)
    have := (hbd q (List.mem_append_left _ (List.mem_append_left _ (by rw [← e9]; simp)))).2
    omega
theorem wpList_push {ops : Array Oper} {rest : List Oper} {o : Oper} {a : Act} {w : World} {Q : Exit → Act → World → Prop} (hgd : o.guard = none) (s x : Operand) (t : TypeId)
    (ho : o.op = .call { callee := .builtin .append, args := #[s, x], argTypes := #[t, t] })
    (base : Nat) (e : TypeId) (i : TypeInfo) (z : Value) (size bytes : Nat) (ht : P.underlying t = some (.slice e)) (hi : P.info? e = some i) (hz : i.zero = some z)
    (hsize : i.size = size) (hby : i.bytes = bytes) (hzs : z.cells.size = size) (hsz : 0 < size)
    (wo W : World) (ps Qs : List PV) (vs : List Value) (A' : Option Addr) (n' c' : Nat) (hF : FreshL wo base wo.heap.size (.sl e size ps :: Qs) (.slice A' n' c' :: vs)) (hB : base ≤ wo.heap.size) (hb : Below wo.heap.size wo W)
    (vals : List Value) (qs : List PV) (hnew : FreshL W wo.heap.size W.heap.size qs vals) (hlen : vals.length = 1 * size) (hw : w = W.alloc (.cells vals.toArray e))
    (hs : a.eval s = .slice A' n' c') (adr cx : Nat) (hx : a.eval x = .slice (some ⟨adr, 0, none⟩) 1 cx) (hadr : adr = W.heap.size)
    (h1 : ∀ u ∈ vals, u.oneCell' = true) (h63 : n' + 1 ≤ maxLen) (hbytes : (n' + 1) * bytes ≤ 140737488355328)
    (h : ∀ A7 c7 w7, FreshL w7 base w7.heap.size (.sl e size (ps ++ qs) :: Qs) (.slice A7 (n' + 1) c7 :: vs) → Below base wo w7 → Same wo.heap.size W.heap.size W w7 → W.heap.size < w7.heap.size → wpList P ops Q rest (a.put o.dst (.slice A7 (n' + 1) c7)) w7) :
    wpList P ops Q (o :: rest) a w :=
  wpList_plain hgd fun _ hK => wp_push s x t ho base e i z size bytes ht hi hz hsize hby hzs hsz wo W ps Qs vs A' n' c' hF hB hb vals qs hnew hlen hw hs adr cx hx hadr h1 h63 hbytes fun A7 c7 w7 h2 h3 h4 h5 => hK _ _ (h A7 c7 w7 h2 h3 h4 h5)
theorem step_push {ops : Array Oper} {o : Oper} {a : Act} {w : World} {K : Act → World → Prop} {Q : Exit → Act → World → Prop} {E : Prop} (hgd : o.guard = none) (s x : Operand) (t : TypeId)
    (ho : o.op = .call { callee := .builtin .append, args := #[s, x], argTypes := #[t, t] })
    (base : Nat) (e : TypeId) (i : TypeInfo) (z : Value) (size bytes : Nat) (ht : P.underlying t = some (.slice e)) (hi : P.info? e = some i) (hz : i.zero = some z)
    (hsize : i.size = size) (hby : i.bytes = bytes) (hzs : z.cells.size = size) (hsz : 0 < size)
    (wo W : World) (ps Qs : List PV) (vs : List Value) (A' : Option Addr) (n' c' : Nat) (hF : FreshL wo base wo.heap.size (.sl e size ps :: Qs) (.slice A' n' c' :: vs)) (hB : base ≤ wo.heap.size) (hb : Below wo.heap.size wo W)
    (vals : List Value) (qs : List PV) (hnew : FreshL W wo.heap.size W.heap.size qs vals) (hlen : vals.length = 1 * size) (hw : w = W.alloc (.cells vals.toArray e))
    (hs : a.eval s = .slice A' n' c') (adr cx : Nat) (hx : a.eval x = .slice (some ⟨adr, 0, none⟩) 1 cx) (hadr : adr = W.heap.size)
    (h1 : ∀ u ∈ vals, u.oneCell' = true) (h63 : n' + 1 ≤ maxLen) (hbytes : (n' + 1) * bytes ≤ 140737488355328)
    (h : ∀ A7 c7 w7, FreshL w7 base w7.heap.size (.sl e size (ps ++ qs) :: Qs) (.slice A7 (n' + 1) c7 :: vs) → Below base wo w7 → Same wo.heap.size W.heap.size W w7 → W.heap.size < w7.heap.size → K (a.put o.dst (.slice A7 (n' + 1) c7)) w7) :
    if Region.wanted o (yielded ops a.tmps) = true then Oper.wp P o a w K Q else E := by
  have hw' : Region.wanted o (yielded ops a.tmps) = true := by simp [Region.wanted, hgd]
  rw [if_pos hw']
  exact wp_push s x t ho base e i z size bytes ht hi hz hsize hby hzs hsz wo W ps Qs vs A' n' c' hF hB hb vals qs hnew hlen hw hs adr cx hx hadr h1 h63 hbytes h
end
end Go.Proofs.YteofafgleojmhaaDoor
