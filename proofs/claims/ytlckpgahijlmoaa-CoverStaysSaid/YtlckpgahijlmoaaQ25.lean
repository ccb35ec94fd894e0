/- skel's walk: the iterator value. -/
import Derived.Test.YtlckpgahijlmoaaQ09
import Derived.Test.YtlckpgahijlmoaaQ11
import Derived.Test.YtlckpgahijlmoaaQ19
import Derived.Deep.RegionLaw
import Derived.Deep.LoopGhost
/- Around an edge: what a round spares, and the step's compositions. -/
namespace Go.Proofs.Ytlckpgahijlmoaa
open Go.RowKit Go.Shelf

def encR (u : RS) : Array Value := #[.agg #[.int .i64 (u.1 : Int), .int .i64 (u.2.1 : Int), .int .i64 (u.2.2.1 : Int), .int .i64 (u.2.2.2.1 : Int), .int .i64 (u.2.2.2.2 : Int)]]
def cellsR (u : RS) : Array Value := #[.int .i64 (u.1 : Int), .int .i64 (u.2.1 : Int), .int .i64 (u.2.2.1 : Int), .int .i64 (u.2.2.2.1 : Int), .int .i64 (u.2.2.2.2 : Int)]
/-- five cells of a block -/
def C5 (W : World) (b : Nat) (u : RS) : Prop :=
  W.cell? ⟨b, 0, none⟩ = some (.int .i64 (u.1 : Int)) ∧ W.cell? ⟨b, 1, none⟩ = some (.int .i64 (u.2.1 : Int)) ∧ W.cell? ⟨b, 2, none⟩ = some (.int .i64 (u.2.2.1 : Int)) ∧ W.cell? ⟨b, 3, none⟩ = some (.int .i64 (u.2.2.2.1 : Int)) ∧ W.cell? ⟨b, 4, none⟩ = some (.int .i64 (u.2.2.2.2 : Int))
def pth (G : Gl) (l : Nat) (s : RS) (k : Nat) : List RS := (List.range k).filterMap (itr G l s)
theorem pth_succ {G : Gl} {l : Nat} {s u : RS} {k : Nat} (h : itr G l s k = some u) : pth G l s (k + 1) = pth G l s k ++ [u] := by
  simp [pth, List.range_succ, List.filterMap_append, h]

theorem pth_len {G : Gl} {l : Nat} {s : RS} {k : Nat} (h : ∀ i, i < k → itr G l s i ≠ none) : (pth G l s k).length = k := by
  induction k with
  | zero => rfl
  | succ k ih =>
    cases e : itr G l s k with
    | none => exact absurd e (h k (by omega))
    | some u => rw [pth_succ e, List.length_append, ih (fun i hi => h i (by omega))]; rfl

/-- block i is neither R's nor the row that R's cell names -/
def NotOwn (R : Nat) (W : World) (i : Nat) : Prop := i ≠ R ∧ ∀ v, W.cell? ⟨R, 0, none⟩ = some v → v.ownBlock ≠ some i
def FrR (R : Nat) (W : World) : Prop := ∀ v, W.cell? ⟨R, 0, none⟩ = some v → ∀ i, v.ownBlock = some i → i < W.heap.size
/-- what a round keeps -/
structure Spare (R n₀ : Nat) (A B : World) : Prop where
  below : Below n₀ A B
  same : ∀ i c t f, A.heap[i]? = some (.cells c t f) → NotOwn R A i → B.heap[i]? = A.heap[i]?
  own : ∀ i, i < A.heap.size → NotOwn R A i → NotOwn R B i
  fr : FrR R A → FrR R B
theorem Spare.trans {R n₀ : Nat} {A B C : World} (h : Spare R n₀ A B) (k : Spare R n₀ B C) : Spare R n₀ A C :=
  ⟨h.below.trans k.below, fun i c t f hi hn => (k.same i c t f ((h.same i c t f hi hn).trans hi) (h.own i (Array.getElem?_eq_some_iff.1 hi).1 hn)).trans (h.same i c t f hi hn),
    fun i hi hn => k.own i (Nat.lt_of_lt_of_le hi h.below.size) (h.own i hi hn), fun f => k.fr (h.fr f)⟩
theorem cell_block {W : World} {b o : Nat} {v : Value} (h : W.cell? ⟨b, o, none⟩ = some v) : ∃ c t f, W.heap[b]? = some (.cells c t f) := by
  unfold World.cell? at h
  split at h
  · next c t f e => exact ⟨c, t, f, e⟩
  · cases h
theorem Spare.cell {R n₀ : Nat} {A B : World} (h : Spare R n₀ A B) {i o : Nat} {v : Value} (hc : A.cell? ⟨i, o, none⟩ = some v) (hn : NotOwn R A i) : B.cell? ⟨i, o, none⟩ = some v := by
  obtain ⟨c, t, f, e⟩ := cell_block hc
  exact (World.cell?_of_block (w := A) (a := ⟨i, o, none⟩) (h.same i c t f e hn)).trans hc
theorem Spare.frozen {R n₀ : Nat} {A B : World} (h : Spare R n₀ A B) {i o : Nat} {v : Value} (hc : A.cell? ⟨i, o, none⟩ = some v) (hn : NotOwn R A i) : B.frozen? ⟨i, o, none⟩ = A.frozen? ⟨i, o, none⟩ := by
  obtain ⟨c, t, f, e⟩ := cell_block hc
  exact World.frozen?_of_block (w := A) (a := ⟨i, o, none⟩) (h.same i c t f e hn)
/-- a step of the iterator's own -/
theorem NotOwn.kept {R : Nat} {A B : World} {row : Option Nat} (hg : A.grownBy B row) (hR : R < A.heap.size) (hr : row ≠ some R) {i : Nat} (h : NotOwn R A i) : NotOwn R B i :=
  ⟨h.1, fun v hv => h.2 v ((hg.cell_far ⟨R, 0, none⟩ hR (fun e => hr e.symm)).symm.trans hv)⟩
theorem FrR.kept {R : Nat} {A B : World} {row : Option Nat} (hg : A.grownBy B row) (hR : R < A.heap.size) (hr : row ≠ some R) (h : FrR R A) : FrR R B :=
  fun v hv i hi => Nat.lt_of_lt_of_le (h v ((hg.cell_far ⟨R, 0, none⟩ hR (fun e => hr e.symm)).symm.trans hv) i hi) hg.size
theorem NotOwn.new {R : Nat} {A : World} (hR : R < A.heap.size) (h : FrR R A) : NotOwn R A A.heap.size :=
  ⟨by omega, fun v hv e => by have := h v hv _ e; omega⟩
theorem C5.kept {W W' : World} {b : Nat} {u : RS} {row : Option Nat} (h : C5 W b u) (hg : W.grownBy W' row) (hne : some b ≠ row) : C5 W' b u :=
  ⟨hg.cell h.1 hne, hg.cell h.2.1 hne, hg.cell h.2.2.1 hne, hg.cell h.2.2.2.1 hne, hg.cell h.2.2.2.2 hne⟩
theorem C5.spare {R n₀ : Nat} {A B : World} {b : Nat} {u : RS} (h : C5 A b u) (hs : Spare R n₀ A B) (hn : NotOwn R A b) : C5 B b u :=
  ⟨hs.cell h.1 hn, hs.cell h.2.1 hn, hs.cell h.2.2.1 hn, hs.cell h.2.2.2.1 hn, hs.cell h.2.2.2.2 hn⟩
theorem C5.lt {W : World} {b : Nat} {u : RS} (h : C5 W b u) : b < W.heap.size := lt_of_cell h.1
theorem C5.new (w : World) (u : RS) (t : TypeId) : C5 (w.alloc (.cells (cellsR u) t)) w.heap.size u := by
  unfold cellsR
  exact ⟨by simp [go_sem], by simp [go_sem], by simp [go_sem], by simp [go_sem], by simp [go_sem]⟩

/-- all orders of a region meet in one frame -/
def meetPost (A : Act) (R : World → Prop) : Exit → Act → World → Prop
  | .normal, a, w => a = A ∧ R w
  | _, _, _ => False
theorem wp_meet {P : Program} {c : Code} {Q : Exit → Act → World → Prop} {a : Act} {w : World} {A : Act} {R : World → Prop} (h1 : c.wp P (meetPost A R) a w) (h2 : ∀ W, R W → Q .normal A W) : c.wp P Q a w :=
  Code.wp_mono (fun e a w h => by
    cases e with
    | normal => obtain ⟨rfl, hr⟩ := h; exact h2 _ hr
    | _ => exact (h : False).elim) h1
theorem five_far {W : World} {b c o : Nat} {x : Value} (h : W.cell? ⟨c, o, none⟩ = some x) (hne : c ≠ b) (v0 v1 v2 v3 v4 : Value) :
    (((((W.setCell ⟨b, 0, none⟩ v0).setCell ⟨b, 1, none⟩ v1).setCell ⟨b, 2, none⟩ v2).setCell ⟨b, 3, none⟩ v3).setCell ⟨b, 4, none⟩ v4).cell? ⟨c, o, none⟩ = some x := by
  have g : ∀ (W : World) o' v, W.cell? ⟨c, o, none⟩ = some x → (W.setCell ⟨b, o', none⟩ v).cell? ⟨c, o, none⟩ = some x := fun W o' v hw => (grownBy_setCell W b o' v).cell hw (by simp; omega)
  exact g _ _ _ (g _ _ _ (g _ _ _ (g _ _ _ (g _ _ _ h))))
theorem exit_named {Q : Exit → Act → World → Prop} {e : Exit} {a : Act} {w : World} (h : ∀ W, W = w → Q e a W) : Q e a w := h w rfl
def swF (i : Nat) : Int := if i = 2 then 3 else if i = 3 then 2 else (i : Int)
theorem valid_quad {a b c d : Nat} (ha : a < 4) (hb : b < 4) (hc : c < 4) (hd : d < 4) (h : a ≠ b ∧ a ≠ c ∧ a ≠ d ∧ b ≠ c ∧ b ≠ d ∧ c ≠ d) (p : Nat → Int) (p0 : p 0 = a) (p1 : p 1 = b) (p2 : p 2 = c) (p3 : p 3 = d) : validF p = true := by
  have key : ∀ a b c d : Fin 4, (a ≠ b ∧ a ≠ c ∧ a ≠ d ∧ b ≠ c ∧ b ≠ d ∧ c ≠ d) → (0 ||| 1 <<< a.val ||| 1 <<< b.val ||| 1 <<< c.val ||| 1 <<< d.val) = 15 := by decide +kernel
  have k := key ⟨a, ha⟩ ⟨b, hb⟩ ⟨c, hc⟩ ⟨d, hd⟩ (by simpa using h)
  simp only at k
  simp only [validF, Bool.and_eq_true, beq_iff_eq, maskF, all4, p0, p1, p2, p3, Int.toNat_natCast, k, inB, decide_eq_true_eq, and_true]
  omega
/-- the step's first composition -/
theorem comp_first (a b c d : Nat) (ha : a < 4) (hb : b < 4) (hc : c < 4) (hd : d < 4) (h : a ≠ b ∧ a ≠ c ∧ a ≠ d ∧ b ≠ c ∧ b ≠ d ∧ c ≠ d) (w : World) :
    Calls Try.prog 132 #[.agg #[.int .i64 (a : Int), .int .i64 (b : Int), .int .i64 (c : Int), .int .i64 (d : Int)], .agg #[.int .i64 0, .int .i64 1, .int .i64 3, .int .i64 2]] w fun e w' => e = .returned (.agg #[.int .i64 (a : Int), .int .i64 (b : Int), .int .i64 (d : Int), .int .i64 (c : Int)]) ∧ Below w.heap.size w w' := by
  have := Compose_walk (fun i => if i = 0 then (a : Int) else if i = 1 then (b : Int) else if i = 2 then (c : Int) else (d : Int)) swF w (valid_quad ha hb hc hd h _ rfl rfl rfl rfl) (by decide)
  exact this
theorem comp_second (p : Nat → Int) (P : Nat → Nat) (hp : validF p = true) (hP : ∀ i, i < 4 → p i = (P i : Int)) (a b c d : Nat) (ha : a < 4) (hb : b < 4) (hc : c < 4) (hd : d < 4) (h : a ≠ b ∧ a ≠ c ∧ a ≠ d ∧ b ≠ c ∧ b ≠ d ∧ c ≠ d) (w : World) :
    Calls Try.prog 132 #[.agg #[.int .i64 (p 0), .int .i64 (p 1), .int .i64 (p 2), .int .i64 (p 3)], .agg #[.int .i64 (a : Int), .int .i64 (b : Int), .int .i64 (d : Int), .int .i64 (c : Int)]] w fun e w' => e = .returned (.agg #[.int .i64 (P a : Int), .int .i64 (P b : Int), .int .i64 (P d : Int), .int .i64 (P c : Int)]) ∧ Below w.heap.size w w' := by
  have := Compose_walk p (fun i => if i = 0 then (a : Int) else if i = 1 then (b : Int) else if i = 2 then (d : Int) else (c : Int)) w hp (valid_quad ha hb hd hc ⟨h.1, h.2.2.1, h.2.1, h.2.2.2.2.1, h.2.2.2.1, h.2.2.2.2.2.symm⟩ _ rfl rfl rfl rfl)
  refine this.mono ?_
  rintro e w' ⟨rfl, hb'⟩
  refine ⟨?_, hb'⟩
  rw [← hP a ha, ← hP b hb, ← hP c hc, ← hP d hd]
  rfl
theorem five_ds {W : World} {b : Nat} {u : RS} (h : C5 W b u) (u' : RS) : C5 (((((W.setCell ⟨b, 0, none⟩ (.int .i64 (u'.1 : Int))).setCell ⟨b, 1, none⟩ (.int .i64 (u'.2.1 : Int))).setCell ⟨b, 2, none⟩ (.int .i64 (u'.2.2.1 : Int))).setCell ⟨b, 3, none⟩ (.int .i64 (u'.2.2.2.1 : Int))).setCell ⟨b, 4, none⟩ (.int .i64 (u'.2.2.2.2 : Int))) b u' := by
  obtain ⟨h0, h1, h2, h3, h4⟩ := h
  have s : ∀ (W : World) (o o' : Nat) (x v : Value), o ≠ o' → W.cell? ⟨b, o', none⟩ = some x → (W.setCell ⟨b, o, none⟩ v).cell? ⟨b, o', none⟩ = some x := fun W o o' x v hne h => ds_other h hne
  have t : ∀ (W : World) (o : Nat) (x v : Value), W.cell? ⟨b, o, none⟩ = some x → (W.setCell ⟨b, o, none⟩ v).cell? ⟨b, o, none⟩ = some v := fun W o x v h => World.cell?_setCell_same _ _ _ h
  refine ⟨?_, ?_, ?_, ?_, ?_⟩
  · exact s _ _ _ _ _ (by omega) (s _ _ _ _ _ (by omega) (s _ _ _ _ _ (by omega) (s _ _ _ _ _ (by omega) (t _ _ _ _ h0))))
  · exact s _ _ _ _ _ (by omega) (s _ _ _ _ _ (by omega) (s _ _ _ _ _ (by omega) (t _ _ _ _ (s _ _ _ _ _ (by omega) h1))))
  · exact s _ _ _ _ _ (by omega) (s _ _ _ _ _ (by omega) (t _ _ _ _ (s _ _ _ _ _ (by omega) (s _ _ _ _ _ (by omega) h2))))
  · exact s _ _ _ _ _ (by omega) (t _ _ _ _ (s _ _ _ _ _ (by omega) (s _ _ _ _ _ (by omega) (s _ _ _ _ _ (by omega) h3))))
  · exact t _ _ _ _ (s _ _ _ _ _ (by omega) (s _ _ _ _ _ (by omega) (s _ _ _ _ _ (by omega) (s _ _ _ _ _ (by omega) h4))))
theorem five_grown {A W : World} {b : Nat} (h : A.grownBy W (some b)) (v0 v1 v2 v3 v4 : Value) : A.grownBy (((((W.setCell ⟨b, 0, none⟩ v0).setCell ⟨b, 1, none⟩ v1).setCell ⟨b, 2, none⟩ v2).setCell ⟨b, 3, none⟩ v3).setCell ⟨b, 4, none⟩ v4) (some b) := by
  have g : ∀ (W : World) o v, A.grownBy W (some b) → A.grownBy (W.setCell ⟨b, o, none⟩ v) (some b) := fun W o v hw => grownBy_trans hw (grownBy_setCell W b o v)
  exact g _ _ _ (g _ _ _ (g _ _ _ (g _ _ _ (g _ _ _ h))))
theorem grown_row {A B : World} (h : A.grownBy B none) (row : Option Nat) : A.grownBy B row := ⟨h.os, h.tape, h.output, h.size, fun k hk _ => h.block k hk (by simp)⟩
end Go.Proofs.Ytlckpgahijlmoaa
namespace Go.Proofs.Ytlckpgahijlmoaa
open Go.RowKit Go.Shelf

set_option maxRecDepth 20000 in
set_option maxHeartbeats 1000000 in
theorem walkIter_walk (a : Option Addr) (n c : Nat) (s : RS) (lb : Nat) (w : World) :
    Calls Try.prog 126 #[.agg #[.slice a n c], .agg (cellsR s), .int .i64 (lb : Int)] w fun e w' =>
      e = .returned (.func (.func 131) #[] #[.pointer (some ⟨w.heap.size + 1, 0, none⟩), .pointer (some ⟨w.heap.size, 0, none⟩), .pointer (some ⟨w.heap.size + 2, 0, none⟩)]) ∧
      w' = ((w.alloc (.cells #[.slice a n c] 24)).alloc (.cells (cellsR s) 160)).alloc (.cells #[.int .i64 (lb : Int)] 3) := by
  unfold cellsR
  go_enter Try.func126, Try.ntmps126
  have hmf : ∀ (fn : Fn) (first cap : Array Value) (w : World), (Instr.makeFunc fn first cap).run Try.prog w = .ok (.func fn first cap) w := fun _ _ _ _ => rfl
  go_wp2
  go_ret
  exact ⟨rfl, rfl⟩
end Go.Proofs.Ytlckpgahijlmoaa
