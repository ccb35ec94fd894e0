/- The start of the ring under way. No condition. -/
import Derived.Test.YtlckpgahijlmoaaQ25
import Derived.Test.YtlckpgahijlmoaaQ20
import Derived.Test.YtlckpgahijlmoaaQ06
import Derived.Deep.RegionLaw
/- skel.Ring of a valid gluing, a tetrahedron of it and a permutation. -/
namespace Go.Proofs.Ytlckpgahijlmoaa
open Go.RowKit Go.Shelf

theorem info160 : (Try.prog.info? 160).map (fun i => (i.zero, i.size, i.bytes)) = some (some (.agg #[.int .i64 0, .int .i64 0, .int .i64 0, .int .i64 0, .int .i64 0]), 5, 40) := by kernel_rfl
theorem und157 : Try.prog.underlying 157 = some (.slice 160) := by kernel_rfl
/-- the cells of a ring -/
def rcells (l : List RS) : List Value := l.flatMap fun u => (cellsR u).toList
theorem rcells_snoc (l : List RS) (u : RS) : rcells (l ++ [u]) = rcells l ++ (cellsR u).toList := by simp [rcells]
/-- bookkeeping spares all cells -/
theorem spare_put {R N : Nat} {W : World} {l : Nat} {r r' : Loop} (hN : N ≤ l) (h : W.heap[l]? = some (.loop r)) : Spare R N W (W.putObj l (.loop r')) := by
  have hlt : l < W.heap.size := (Array.getElem?_eq_some_iff.1 h).1
  have hg : W.grownBy (W.putObj l (.loop r')) (some l) := grownBy_putObj' W l _
  have far : ∀ i c t f, W.heap[i]? = some (.cells c t f) → some i ≠ some l := fun i c t f hi e => by
    cases e; rw [h] at hi; cases hi
  have cellR : ∀ v, (W.putObj l (.loop r')).cell? ⟨R, 0, none⟩ = some v → W.cell? ⟨R, 0, none⟩ = some v := fun v hv => by
    by_cases e : R = l
    · subst e
      obtain ⟨c, t, f, hc⟩ := cell_block hv
      rw [World.putObj_heap_same hlt] at hc; cases hc
    · rw [← hv]
      exact (World.cell?_of_block (w := W) (a := ⟨R, 0, none⟩) (World.putObj_heap_other (by show R ≠ l; exact e) : (W.putObj l (.loop r')).heap[R]? = W.heap[R]?)).symm
  refine ⟨(Below.refl N W).grown hg (by omega) (fun k e => by cases e; exact hN), fun i c t f hi _ => hg.block i (Array.getElem?_eq_some_iff.1 hi).1 (far i c t f hi), fun i _ hn => ⟨hn.1, fun v hv => hn.2 v (cellR v hv)⟩, fun hf v hv i hi => ?_⟩
  have := hf v (cellR v hv) i hi
  exact Nat.lt_of_lt_of_le this hg.size

/-- the ring under way: what has come lies in the row that R's cell names -/
structure RG (W0 : World) (R : Nat) (L : List RS → Prop) (pre : List RS) (W : World) : Prop where
  g : W0.grownBy W (some R)
  v : ∃ v, W.cell? ⟨R, 0, none⟩ = some v ∧ W.ownsRow W0.heap.size 160 5 v pre.length (rcells pre)
  f : W.frozen? ⟨R, 0, none⟩ = false
  lim : L pre
theorem RG.kept {W0 W W' : World} {R : Nat} {L : List RS → Prop} {pre : List RS} (hR : R < W0.heap.size) (h : RG W0 R L pre W) {row : Option Nat} (hg : W.grownBy W' row) (hr : ∀ r, row = some r → W0.heap.size ≤ r ∧ ∀ v, W.cell? ⟨R, 0, none⟩ = some v → v.ownBlock ≠ some r) : RG W0 R L pre W' := by
  obtain ⟨v, hv, ho⟩ := h.v
  have hne : some R ≠ row := fun e => by have := (hr R e.symm).1; omega
  refine ⟨⟨hg.os.trans h.g.os, hg.tape.trans h.g.tape, hg.output.trans h.g.output, Nat.le_trans h.g.size hg.size, fun k hk hk2 => ?_⟩, ⟨v, hg.cell hv hne, ho.kept hg ?_⟩, ?_, h.lim⟩
  · exact (hg.block k (Nat.lt_of_lt_of_le hk h.g.size) (fun e => by have := (hr k e.symm).1; omega)).trans (h.g.block k hk hk2)
  · cases hq : v.ownBlock with
    | none => exact .inl rfl
    | some j => exact .inr (fun e => (hr j e.symm).2 v hv hq)
  · exact (hg.frozen_far ⟨R, 0, none⟩ (Nat.lt_of_lt_of_le hR h.g.size) hne).trans h.f
theorem RG.abides {W0 : World} {R : Nat} {L : List RS → Prop} (hR : R < W0.heap.size) : AbidesOk (NotOwn R) (fun _ => False) W0.heap.size (RG W0 R L) :=
  fun pre W W' row h hg hr => h.kept hR hg (fun r e => ⟨(hr r e).1.resolve_right id, fun v hv => (hr r e).2.2 v hv⟩)
theorem RG.own {W0 : World} {R : Nat} {L : List RS → Prop} (hR : R < W0.heap.size) : OwnFrom W0.heap.size (RG W0 R L) :=
  fun pre W W' row h hg hr => h.kept hR hg (fun r e => ⟨(hr r e).1, fun v hv hq => by
    obtain ⟨o, ho, hc⟩ := (hr r e).2
    obtain ⟨v', hv', hown⟩ := h.v
    rw [hv] at hv'
    cases hv'
    rcases hown.2 with ⟨rfl, _⟩ | ⟨g, cap, cur, rfl, _, hgg, _⟩
    · simp [Value.ownBlock] at hq
    · simp [Value.ownBlock] at hq
      subst hq
      rw [hgg] at ho
      cases ho
      simp [Obj.isCells] at hc⟩)

theorem run_equal_ring (t u a0 a1 a2 a3 b0 b1 b2 b3 : Int) (w : World) :
    (Op.equalIn 10000 160 (.agg #[.int .i64 t, .int .i64 a0, .int .i64 a1, .int .i64 a2, .int .i64 a3]) (.agg #[.int .i64 u, .int .i64 b0, .int .i64 b1, .int .i64 b2, .int .i64 b3])).run Try.prog w = .ok (t == u && (a0 == b0 && (a1 == b1 && (a2 == b2 && a3 == b3)))) w := by
  have he := run_equal_P4'
  by_cases h : t = u
  · by_cases h0 : a0 = b0 <;> by_cases h1 : a1 = b1 <;> by_cases h2 : a2 = b2 <;> by_cases h3 : a3 = b3 <;>
      simp [go_sem, he, h, h0, h1, h2, h3]
  · simp [go_sem, he, h]
theorem ring_eq (x s : RS) : ((x.1 : Int) == (s.1 : Int) && ((x.2.1 : Int) == (s.2.1 : Int) && ((x.2.2.1 : Int) == (s.2.2.1 : Int) && ((x.2.2.2.1 : Int) == (s.2.2.2.1 : Int) && (x.2.2.2.2 : Int) == (s.2.2.2.2 : Int))))) = decide (x = s) := by
  have key : ∀ a b : Nat, ((a : Int) == (b : Int)) = decide (a = b) := fun a b => by
    by_cases h : a = b
    · subst h; simp
    · rw [natbeq_false h]; simp [h]
  obtain ⟨a, b, c, d, e⟩ := x
  obtain ⟨a', b', c', d', e'⟩ := s
  simp only [key, Prod.mk.injEq, Bool.decide_and]
theorem pth_get {G : Gl} {l : Nat} {s : RS} : ∀ {k : Nat}, (∀ i, i < k → itr G l s i ≠ none) → ∀ i, i < k → (pth G l s k)[i]? = itr G l s i := by
  intro k
  induction k with
  | zero => intro _ i hi; omega
  | succ k ih =>
    intro h i hi
    have hl : (pth G l s k).length = k := by
      clear hi
      have : ∀ j, j ≤ k → (pth G l s j).length = j := by
        intro j
        induction j with
        | zero => intro _; rfl
        | succ j ihj =>
          intro hj
          cases e : itr G l s j with
          | none => exact absurd e (h j (by omega))
          | some u => rw [pth_succ e, List.length_append, ihj (by omega)]; rfl
      exact this k (Nat.le_refl _)
    cases e : itr G l s k with
    | none => exact absurd e (h k (by omega))
    | some u =>
      rw [pth_succ e]
      by_cases q : i = k
      · subst q
        rw [List.getElem?_append_right (by omega), hl, Nat.sub_self, e]; rfl
      · rw [List.getElem?_append_left (by omega)]
        exact ih (fun j hj => h j (by omega)) i (by omega)
/-- the ring closed: the last that came is where it began -/
structure RX (w : World) (N K : Nat) (s : RS) (pre : List RS) (W : World) : Prop where
  ex : ∃ pre0 v, pre = pre0 ++ [s] ∧ 0 < pre0.length ∧ (∀ i, 0 < i → pre0[i]? ≠ some s) ∧ W.cell? ⟨N + 1 + 1, 0, none⟩ = some v ∧ W.ownsRow K 160 5 v pre0.length (rcells pre0)
  b : Below N w W
  c3 : W.cell? ⟨N + 1 + 1 + 1, 0, none⟩ = some (.bool true)
  c4 : W.cell? ⟨N + 1 + 1 + 1 + 1, 0, none⟩ = some (.int .i64 0)
theorem RX.kept {w W W' : World} {N K : Nat} {s : RS} {pre : List RS} (hN : N + 1 + 1 + 1 + 1 < K) (h : RX w N K s pre W) {row : Option Nat} (hg : W.grownBy W' row) (hr : ∀ r, row = some r → K ≤ r ∧ ∀ v, W.cell? ⟨N + 1 + 1, 0, none⟩ = some v → v.ownBlock ≠ some r) : RX w N K s pre W' := by
  obtain ⟨pre0, v, e, h0, hl, hv, ho⟩ := h.ex
  have ne : ∀ i, i < K → some i ≠ row := fun i hi e => by have := (hr i e.symm).1; omega
  have hs : N ≤ W.heap.size := by have := lt_of_cell hv; simp only at this; omega
  refine ⟨⟨pre0, v, e, h0, hl, hg.cell hv (ne _ (by simp only; omega)), ho.kept hg ?_⟩, h.b.grown hg hs (fun k hk => by have := (hr k hk).1; omega), hg.cell h.c3 (ne _ (by simp only; omega)), hg.cell h.c4 (ne _ (by simp only; omega))⟩
  cases hq : v.ownBlock with
  | none => exact .inl rfl
  | some j => exact .inr (fun e => (hr j e.symm).2 v hv hq)
theorem RX.abides {w : World} {N K : Nat} {s : RS} (hN : N + 1 + 1 + 1 + 1 < K) : AbidesOk (NotOwn (N + 1 + 1)) (fun _ => False) K (RX w N K s) :=
  fun pre W W' row h hg hr => h.kept hN hg (fun r e => ⟨(hr r e).1.resolve_right id, fun v hv => (hr r e).2.2 v hv⟩)
theorem RX.own {w : World} {N K : Nat} {s : RS} (hN : N + 1 + 1 + 1 + 1 < K) : OwnFrom K (RX w N K s) :=
  fun pre W W' row h hg hr => h.kept hN hg (fun r e => ⟨(hr r e).1, fun v hv hq => by
    obtain ⟨o, ho, hc⟩ := (hr r e).2
    obtain ⟨pre0, v', e0, h0, hl, hv', hown⟩ := h.ex
    rw [hv] at hv'
    cases hv'
    rcases hown.2 with ⟨rfl, _⟩ | ⟨g, cap, cur, rfl, _, hgg, _⟩
    · simp [Value.ownBlock] at hq
    · simp [Value.ownBlock] at hq
      subst hq
      rw [hgg] at ho
      cases ho
      simp [Obj.isCells] at hc⟩)
/-- the variable of a round -/
def RVar (A : Act) (p x : Nat) (K : Nat) (u : RS) (a' : Act) (W : World) : Prop :=
  ∃ b, C5 W b u ∧ K ≤ b ∧ a' = { tmps := (A.tmps.setIfInBounds p (.agg (cellsR u))).setIfInBounds x (.pointer (some ⟨b, 0, none⟩)), defers := [] }
theorem RVar.own {A : Act} {p x K : Nat} {u : RS} {a' : Act} : OwnFrom K (fun (_ : Unit) W => RVar A p x K u a' W) := fun _ X Y row h hg hr => by
  obtain ⟨b, hc, hb, e⟩ := h
  refine ⟨b, hc.kept hg (fun q => ?_), hb, e⟩
  obtain ⟨o, ho, hcs⟩ := (hr b q.symm).2
  obtain ⟨c, t, f, hh⟩ := cell_block hc.1
  rw [hh] at ho
  cases ho
  simp [Obj.isCells] at hcs

theorem spare_new {R N : Nat} {W W' : World} (hg : W.grownBy W' none) (hR : R < W.heap.size) (hN : N ≤ W.heap.size) : Spare R N W W' :=
  ⟨(Below.refl N W).grown hg hN (fun k e => by cases e), fun i c t f hi _ => hg.block i (Array.getElem?_eq_some_iff.1 hi).1 (by simp), fun i _ hn => hn.kept hg hR (by simp), fun hf => hf.kept hg hR (by simp)⟩
/-- append, in a round -/
theorem wpListIn_append_lies {n l : Nat} {P : Program} {ops : Array Oper} {rest : List Oper} {o : Oper} {a : Act} {Q : Exit → Act → World → Prop} (w : World) (hgd : o.guard = none) (s x : Operand) (t : TypeId)
    (ho : o.op = .call { callee := .builtin .append, args := #[s, x], argTypes := #[t, t] })
    (base : Nat) (e : TypeId) (i : TypeInfo) (z : Value) (size bytes : Nat) (ht : P.underlying t = some (.slice e)) (hi : P.info? e = some i) (hz : i.zero = some z)
    (hsize : i.size = size) (hby : i.bytes = bytes) (hzs : z.cells.size = size) (hsz : 0 < size)
    (v : Value) (k : Nat) (xs : List Value) (hs : a.eval s = v) (hown : w.ownsRow base e size v k xs)
    (ad : Addr) (m c : Nat) (news : List Value) (hx : a.eval x = .slice (some ad) m c) (hl : news.length = m * size) (hnews : ∀ j u, news[j]? = some u → w.cell? (ad.add j) = some u) (h1 : ∀ u ∈ news, u.oneCell' = true)
    (hm : 0 < m) (h63 : k + m ≤ maxLen) (hbytes : (k + m) * bytes ≤ 140737488355328) (hbase : base ≤ w.heap.size) (H : Nat) (hH : w.heap.size = H)
    (h : ∀ g cap w', w'.ownsRow base e size (.slice (some ⟨g, 0, none⟩) (k + m) cap) (k + m) (xs ++ news) → w.grownBy w' v.ownBlock → (v.ownBlock = some g ∨ g = H) → g < w'.heap.size → wpListIn (Fence.wide.inRound l) n P ops Q rest (a.put o.dst (.slice (some ⟨g, 0, none⟩) (k + m) cap)) w') :
    wpListIn (Fence.wide.inRound l) n P ops Q (o :: rest) a w :=
  wpListIn_plain hgd fun K hK => wpIn_of_wp_op l n (fun c e => by rw [ho] at e; cases e)
    (wp_append_lies w s x t ho base e i z size bytes ht hi hz hsize hby hzs hsz v k xs hs hown ad m c news hx hl hnews h1 hm h63 hbytes hbase H hH fun g cap w' h2 h3 h4 h5 => hK _ _ (h g cap w' h2 h3 h4 h5))

/-- one more has come -/
theorem RG.push {W0 W w1 : World} {R N : Nat} {L : List RS → Prop} {x : RS} {pre : List RS} {ga : Option Addr} {cp g cap : Nat} {o : Obj} (hR : R < W0.heap.size) (hN : N ≤ R) (h : RG W0 R L pre W) (hv : W.cell? ⟨R, 0, none⟩ = some (.slice ga pre.length cp)) (hx : L (pre ++ [x]))
    (hown : w1.ownsRow W0.heap.size 160 5 (.slice (some ⟨g, 0, none⟩) (pre.length + 1) cap) (pre.length + 1) (rcells pre ++ (cellsR x).toList))
    (hgrow : (W.alloc o).grownBy w1 (Value.slice ga pre.length cp).ownBlock) (hat : (Value.slice ga pre.length cp).ownBlock = some g ∨ g = W.heap.size + 1) (hlt : g < w1.heap.size) :
    KeepsFrom W0.heap.size W (w1.setCell ⟨R, 0, none⟩ (.slice (some ⟨g, 0, none⟩) (pre.length + 1) cap)) ∧ Spare R N W (w1.setCell ⟨R, 0, none⟩ (.slice (some ⟨g, 0, none⟩) (pre.length + 1) cap)) ∧ RG W0 R L (pre ++ [x]) (w1.setCell ⟨R, 0, none⟩ (.slice (some ⟨g, 0, none⟩) (pre.length + 1) cap)) := by
  have hal := World.grownBy_alloc W o none
  have hsc := grownBy_setCell w1 R 0 (.slice (some ⟨g, 0, none⟩) (pre.length + 1) cap)
  have hW := h.g.size
  have hal2 := hal.size
  have hgs := hgrow.size
  have hws : (w1.setCell ⟨R, 0, none⟩ (.slice (some ⟨g, 0, none⟩) (pre.length + 1) cap)).heap.size = w1.heap.size := by simp
  obtain ⟨v', hv', ho⟩ := h.v
  rw [hv] at hv'
  cases hv'
  have hob : ∀ k, (Value.slice ga pre.length cp).ownBlock = some k → W0.heap.size ≤ k ∧ k < W.heap.size ∧ ∃ c t f, W.heap[k]? = some (.cells c t f) := fun k hk => by
    rcases ho.2 with ⟨e, _⟩ | ⟨g', cap', cur, e, hb, hgg, _⟩
    · rw [e] at hk; simp [Value.ownBlock] at hk
    · rw [e] at hk
      simp [Value.ownBlock] at hk
      subst hk
      exact ⟨hb, (Array.getElem?_eq_some_iff.1 hgg).1, _, _, _, hgg⟩
  -- a block that is neither R nor the row's
  have far : ∀ i, i < W.heap.size → i ≠ R → (Value.slice ga pre.length cp).ownBlock ≠ some i → (w1.setCell ⟨R, 0, none⟩ (.slice (some ⟨g, 0, none⟩) (pre.length + 1) cap)).heap[i]? = W.heap[i]? := fun i hi hne hno =>
    (hsc.block i (by omega) (by simpa using hne)).trans ((hgrow.block i (by omega) (fun e => hno e.symm)).trans (hal.block i hi (by simp)))
  have hne1 : (some R : Option Nat) ≠ (Value.slice ga pre.length cp).ownBlock := fun e => by have := (hob R e.symm).1; omega
  have hcR : (w1.setCell ⟨R, 0, none⟩ (.slice (some ⟨g, 0, none⟩) (pre.length + 1) cap)).cell? ⟨R, 0, none⟩ = some (.slice (some ⟨g, 0, none⟩) (pre.length + 1) cap) :=
    World.cell?_setCell_same _ _ _ (hgrow.cell (hal.cell hv (by simp)) hne1)
  have hgR : g ≠ R := by
    rcases hat with e | e
    · have := (hob g e).1; omega
    · omega
  refine ⟨⟨by omega, fun k ob hk hob2 hc => ?_⟩, ⟨?_, fun i c t f hi hn => far i (Array.getElem?_eq_some_iff.1 hi).1 hn.1 (hn.2 _ hv), fun i hi hn => ⟨hn.1, fun u hu => ?_⟩, fun _ u hu i hi => ?_⟩, ⟨?_, ⟨_, hcR, ?_⟩, ?_, hx⟩⟩
  · rw [far k (Array.getElem?_eq_some_iff.1 hob2).1 (by omega) (fun e => ?_)]
    · exact hob2
    · obtain ⟨c, t, f, e2⟩ := (hob k e).2.2
      rw [e2] at hob2; cases hob2; simp [Obj.isCells] at hc
  · refine ((((Below.refl N W).alloc (by omega) o).grown hgrow (by omega) (fun k hk => by have := (hob k hk).1; omega))).setCell hN _
  · rw [hcR] at hu
    cases hu
    simp only [Value.ownBlock, ne_eq, Option.some.injEq]
    intro e
    rcases hat with q | q
    · subst e; exact hn.2 _ hv q
    · omega
  · rw [hcR] at hu
    cases hu
    simp only [Value.ownBlock, Option.some.injEq] at hi
    omega
  · refine ⟨hsc.os.trans (hgrow.os.trans (hal.os.trans h.g.os)), hsc.tape.trans (hgrow.tape.trans (hal.tape.trans h.g.tape)), hsc.output.trans (hgrow.output.trans (hal.output.trans h.g.output)), by omega, fun k hk hne => ?_⟩
    exact (far k (by omega) (fun e => hne (by rw [e])) (fun e => by have := (hob k e).1; omega)).trans (h.g.block k hk hne)
  · rw [List.length_append, rcells_snoc]
    exact hown.kept hsc (.inr (by simp [Value.ownBlock]; exact hgR))
  · rw [World.frozen?_setCell]
    exact (hgrow.frozen_far ⟨R, 0, none⟩ (by show R < _; omega) hne1).trans ((hal.frozen_far ⟨R, 0, none⟩ (by show R < _; omega) (by simp)).trans h.f)
/-- nothing but the first is where it began -/
def noRet (s : RS) (pre : List RS) : Prop := ∀ i, 0 < i → pre[i]? ≠ some s
theorem noRet.push {s x : RS} {pre : List RS} (h : noRet s pre) (hx : 0 < pre.length → x ≠ s) : noRet s (pre ++ [x]) := by
  intro i hi e
  rcases Nat.lt_or_ge i pre.length with q | q
  · rw [List.getElem?_append_left q] at e; exact h i hi e
  · rw [List.getElem?_append_right q] at e
    have : i - pre.length = 0 := by
      rcases Nat.eq_zero_or_pos (i - pre.length) with z | z
      · exact z
      · rw [List.getElem?_eq_none (by simp; omega)] at e; cases e
    rw [this] at e
    simp only [List.getElem?_cons_zero, Option.some.injEq] at e
    exact hx (by omega) e
theorem ownsRow_lower {w : World} {base base' : Nat} {e : TypeId} {size : Nat} {v : Value} {n : Nat} {xs : List Value} (h : w.ownsRow base e size v n xs) (hb : base' ≤ base) : w.ownsRow base' e size v n xs := by
  refine ⟨h.1, ?_⟩
  rcases h.2 with h | ⟨g, cap, cur, h1, h2, h3⟩
  · exact .inl h
  · exact .inr ⟨g, cap, cur, h1, Nat.le_trans hb h2, h3⟩
end Go.Proofs.Ytlckpgahijlmoaa
namespace Go.Proofs.Ytlckpgahijlmoaa
open Go.RowKit Go.Shelf

def lastR (s : RS) (pre : List RS) : RS := pre.getLast?.getD s
theorem lastR_snoc (s x : RS) (pre : List RS) : lastR s (pre ++ [x]) = x := by simp [lastR]
structure LS (W0 : World) (S : Nat) (s : RS) (pre : List RS) (W : World) : Prop where
  g : W0.grownBy W (some S)
  c : C5 W S (lastR s pre)
  f : ∀ o, W.frozen? ⟨S, o, none⟩ = false
theorem LS.kept {W0 W W' : World} {S : Nat} {s : RS} {pre : List RS} (hS : S < W0.heap.size) (h : LS W0 S s pre W) {row : Option Nat} (hg : W.grownBy W' row) (hr : ∀ r, row = some r → W0.heap.size ≤ r) : LS W0 S s pre W' := by
  have hne : some S ≠ row := fun e => by have := hr S e.symm; omega
  refine ⟨⟨hg.os.trans h.g.os, hg.tape.trans h.g.tape, hg.output.trans h.g.output, Nat.le_trans h.g.size hg.size, fun k hk hk2 => ?_⟩, h.c.kept hg hne, fun o => (hg.frozen_far ⟨S, o, none⟩ (Nat.lt_of_lt_of_le hS h.g.size) hne).trans (h.f o)⟩
  exact (hg.block k (Nat.lt_of_lt_of_le hk h.g.size) (fun e => by have := hr k e.symm; omega)).trans (h.g.block k hk hk2)
theorem LS.abides {W0 : World} {S : Nat} {s : RS} (hS : S < W0.heap.size) : AbidesOk (NotOwn S) (fun _ => False) W0.heap.size (LS W0 S s) := fun pre W W' row h hg hr => h.kept hS hg (fun r e => (hr r e).1.resolve_right id)
theorem LS.own {W0 : World} {S : Nat} {s : RS} (hS : S < W0.heap.size) : OwnFrom W0.heap.size (LS W0 S s) := fun pre W W' row h hg hr => h.kept hS hg (fun r e => (hr r e).1)
theorem LS.set {W0 W : World} {S N : Nat} {s : RS} {pre : List RS} (hN : N ≤ S) (hS : S < W0.heap.size) (h : LS W0 S s pre W) (x : RS) :
    KeepsFrom W0.heap.size W (((((W.setCell ⟨S, 0, none⟩ (.int .i64 (x.1 : Int))).setCell ⟨S, 1, none⟩ (.int .i64 (x.2.1 : Int))).setCell ⟨S, 2, none⟩ (.int .i64 (x.2.2.1 : Int))).setCell ⟨S, 3, none⟩ (.int .i64 (x.2.2.2.1 : Int))).setCell ⟨S, 4, none⟩ (.int .i64 (x.2.2.2.2 : Int))) ∧
    Spare S N W (((((W.setCell ⟨S, 0, none⟩ (.int .i64 (x.1 : Int))).setCell ⟨S, 1, none⟩ (.int .i64 (x.2.1 : Int))).setCell ⟨S, 2, none⟩ (.int .i64 (x.2.2.1 : Int))).setCell ⟨S, 3, none⟩ (.int .i64 (x.2.2.2.1 : Int))).setCell ⟨S, 4, none⟩ (.int .i64 (x.2.2.2.2 : Int))) ∧
    LS W0 S s (pre ++ [x]) (((((W.setCell ⟨S, 0, none⟩ (.int .i64 (x.1 : Int))).setCell ⟨S, 1, none⟩ (.int .i64 (x.2.1 : Int))).setCell ⟨S, 2, none⟩ (.int .i64 (x.2.2.1 : Int))).setCell ⟨S, 3, none⟩ (.int .i64 (x.2.2.2.1 : Int))).setCell ⟨S, 4, none⟩ (.int .i64 (x.2.2.2.2 : Int))) := by
  have hg := five_grown (grownBy_refl W (some S)) (.int .i64 (x.1 : Int)) (.int .i64 (x.2.1 : Int)) (.int .i64 (x.2.2.1 : Int)) (.int .i64 (x.2.2.2.1 : Int)) (.int .i64 (x.2.2.2.2 : Int))
  have hc := five_ds h.c x
  have hN0 : N ≤ W.heap.size := by have := h.g.size; omega
  refine ⟨keeps_setCell (keeps_setCell (keeps_setCell (keeps_setCell (keeps_setCell (KeepsFrom.refl _ _) _ _) _ _) _ _) _ _) _ _, ⟨(Below.refl N W).grown hg hN0 (fun k e => by cases e; exact hN), fun i c t f hi hn => hg.block i (Array.getElem?_eq_some_iff.1 hi).1 (fun e => hn.1 (by cases e; rfl)), fun i _ hn => ⟨hn.1, fun v hv => ?_⟩, fun _ v hv => ?_⟩, ⟨grownBy_trans h.g hg, by rw [lastR_snoc]; exact hc, fun o => ?_⟩⟩
  · rw [hc.1] at hv; cases hv; simp [Value.ownBlock]
  · rw [hc.1] at hv; cases hv; simp [Value.ownBlock]
  · simp only [World.frozen?_setCell]; exact h.f o

theorem walk126_facts (W : World) (a : Option Addr) (n cap : Nat) (s : RS) (lb : Nat) {W' : World} (e : W' = ((W.alloc (.cells #[.slice a n cap] 24)).alloc (.cells (cellsR s) 160)).alloc (.cells #[.int .i64 (lb : Int)] 3)) :
    W.grownBy W' none ∧ W'.heap.size = W.heap.size + 3 ∧ C5 W' (W.heap.size + 1) s ∧ W'.cell? ⟨W.heap.size, 0, none⟩ = some (.slice a n cap) ∧ W'.cell? ⟨W.heap.size + 2, 0, none⟩ = some (.int .i64 (lb : Int)) := by
  subst e
  have g1 := World.grownBy_alloc W (.cells #[.slice a n cap] 24) none
  have g2 := World.grownBy_alloc (W.alloc (.cells #[.slice a n cap] 24)) (.cells (cellsR s) 160) none
  have f2 := C5.new (W.alloc (.cells #[.slice a n cap] 24)) s 160
  have g3 := World.grownBy_alloc ((W.alloc (.cells #[.slice a n cap] 24)).alloc (.cells (cellsR s) 160)) (.cells #[.int .i64 (lb : Int)] 3) none
  rw [World.size_alloc] at f2
  exact ⟨grownBy_trans g1 (grownBy_trans g2 g3), by simp, f2.kept g3 (by simp), g3.cell (g2.cell (by simp [go_sem]) (by simp)) (by simp), by simp [go_sem]⟩
/-- the start's ring ends -/
theorem start_ends {G : Gl} (hok : checkB G = true) {s : RS} (hs : Rok G.n s) {k m : Nat} (hall : ∀ i, i < k → itr G 3 s i ≠ none) (hm : itr G 2 s m = none) :
    Rok G.n (lastR s (pth G 3 s k)) ∧ itr G 2 (lastR s (pth G 3 s k)) (k + m) = none := by
  cases k with
  | zero =>
    have e : lastR s (pth G 3 s 0) = s := rfl
    rw [e]
    exact ⟨hs, itr_none hm (by omega)⟩
  | succ k =>
    cases e : itr G 3 s k with
    | none => exact absurd e (hall k (by omega))
    | some u =>
      rw [pth_succ e, lastR_snoc]
      have hb := itr_back hok (.inr ⟨rfl, rfl⟩) hs e
      refine ⟨itr_ok hok hs e, ?_⟩
      have : itr G 2 u (k + m) = none := by rw [itr_add, hb]; exact hm
      exact itr_none this (by omega)
end Go.Proofs.Ytlckpgahijlmoaa
