/- The law CoverStays: what holds between its calls; the calls. -/
import Derived.Test.YtlckpgahijlmoaaQ49
import Derived.Test.YtlckpgahijlmoaaQ42
import Derived.Test.YtlckpgahijlmoaaQ50
import Derived.Test.YtlckpgahijlmoaaQ43
import Derived.Test.YtlckpgahijlmoaaQ51
import Derived.Test.YtlckpgahijlmoaaQ18
import Derived.Test.YtlckpgahijlmoaaQ24
namespace Go.Proofs.Ytlckpgahijlmoaa
open Go.RowKit Go.Shelf Go.Maps

theorem sameB_refl (n : Nat) (f : Nat → Int) : sameB n f n f = true := by simp [sameB]
theorem sameL_refl (n : Nat) (l : Nat → Nat) (f : Nat → Nat → Int) : sameL n l f n l f = true := by simp [sameL, sameB_refl]

/-- W' is W grown; of what was there the block D alone may have turned -/
def Kp (D : Nat) (W W' : World) : Prop := W.heap.size ≤ W'.heap.size ∧ ∀ b, b < W.heap.size → b ≠ D → W'.heap[b]? = W.heap[b]?
theorem Kp.refl (D : Nat) (W : World) : Kp D W W := ⟨Nat.le_refl _, fun _ _ _ => rfl⟩
theorem Kp.then {D : Nat} {W W1 W2 : World} (h : Kp D W W1) (k : Kp D W1 W2) : Kp D W W2 :=
  ⟨Nat.le_trans h.1 k.1, fun b hb hd => (k.2 b (Nat.lt_of_lt_of_le hb h.1) hd).trans (h.2 b hb hd)⟩
theorem Kp.below {D : Nat} {W W1 W2 : World} (h : Kp D W W1) (k : Below W1.heap.size W1 W2) : Kp D W W2 := h.then ⟨k.size, fun b hb _ => k.block b hb⟩
theorem Kp.al {D : Nat} {W W1 : World} (h : Kp D W W1) (o : Obj) : Kp D W (W1.alloc o) :=
  h.then ⟨(World.grownBy_alloc W1 o none).size, fun b hb _ => (World.grownBy_alloc W1 o none).block b hb (by simp)⟩
theorem Kp.dr {D : Nat} {W W1 : World} (h : Kp D W W1) : Kp D W W1.drew := h
theorem Kp.sc {D : Nat} {W W1 : World} (h : Kp D W W1) (o : Nat) (v : Value) : Kp D W (W1.setCell ⟨D, o, none⟩ v) :=
  h.then ⟨(grownBy_setCell W1 D o v).size, fun b hb hd => (grownBy_setCell W1 D o v).block b hb (fun e => hd (by simpa using e))⟩

theorem LLn_kp {K B D : Nat} {W W' : World} {v : Value} {n : Nat} {len : Nat → Nat} {f : Nat → Nat → Int} (h : LLn K B W v n len f) (hD : D < K ∨ B ≤ D) (hB : B ≤ W.heap.size) (hk : Kp D W W') : LLs W'.heap.size W' v n len f := by
  obtain ⟨a, b, off, cap, rfl, h1, h2⟩ := h
  have hs := hk.1
  refine ⟨a, b, off, cap, rfl, fun hn => ⟨(h1 hn).1, by have := (h1 hn).2.2; omega⟩, fun k hk1 => ?_⟩
  obtain ⟨ra, rb, ro, rc, q1, q2, q3⟩ := h2 k hk1
  have h0 := h1 (by omega)
  refine ⟨_, (World.cell?_of_block (w := W) (w' := W') (a := ⟨b, off + k, none⟩) (hk.2 b (by omega) (by omega))).trans q1, ra, rb, ro, rc, rfl, fun hp => ⟨(q2 hp).1, by have := (q2 hp).2.2; omega⟩, fun i hi => ?_⟩
  have h3 := q2 (by omega)
  exact (World.cell?_of_block (w := W) (w' := W') (a := ⟨rb, ro + i, none⟩) (hk.2 rb (by omega) (by omega))).trans (q3 i hi)
theorem GlAt.kp {K B D : Nat} {W W' : World} {u : Value} {G : Gl} (h : GlAt B W u G) (hf : ∀ a n c, u = .slice (some a) n c → K ≤ a.block) (hD : D < K ∨ B ≤ D) (hB : B ≤ W.heap.size) (hk : Kp D W W') : GlAt W'.heap.size W' u G := by
  obtain ⟨a, b, off, cap, rfl, h1, h2⟩ := h
  have hs := hk.1
  refine ⟨a, b, off, cap, rfl, fun hn => ⟨(h1 hn).1, by have := (h1 hn).2; omega⟩, fun k hk1 => ?_⟩
  obtain ⟨rfl, hb⟩ := h1 (by omega)
  have hK := hf _ _ _ rfl
  simp only at hK
  have hK2 := hk.2 b (by omega) (by omega)
  exact ⟨(World.cell?_of_block (w := W) (w' := W') (a := ⟨b, off + 5 * k, none⟩) hK2).trans (h2 k hk1).1, fun i hi => (World.cell?_of_block (w := W) (w' := W') (a := ⟨b, off + 5 * k + 1 + i, none⟩) hK2).trans ((h2 k hk1).2 i hi)⟩

/-- between the calls -/
structure KP (w : World) (G : Gl) (a : Option Addr) (cap : Nat) (sh : Int) (pa : Option Addr) (np pc : Nat) (sh2 : Int) (pa2 : Option Addr) (np2 pc2 : Nat) (ni : Nat) (len len2 li : Nat → Nat) (fp fp2 fi : Nat → Nat → Int) (b : Nat) (u x y z : Value) (W : World) : Prop where
  bel : Below w.heap.size w W
  c0 : W.cell? ⟨w.heap.size, 0, none⟩ = some (.slice a G.n cap)
  c10 : W.cell? ⟨w.heap.size + 1, 0, none⟩ = some (.int .i64 sh)
  c11 : W.cell? ⟨w.heap.size + 1, 1, none⟩ = some (.slice pa np pc)
  c20 : W.cell? ⟨w.heap.size + 1 + 1, 0, none⟩ = some (.int .i64 sh2)
  c21 : W.cell? ⟨w.heap.size + 1 + 1, 1, none⟩ = some (.slice pa2 np2 pc2)
  cu : W.cell? ⟨b, 0, none⟩ = some u
  gu : GlAt W.heap.size W u G
  lx : LLs W.heap.size W x np len fp
  ly : LLs W.heap.size W y np2 len2 fp2
  lz : LLs W.heap.size W z ni li fi
section
variable {w : World} {G : Gl} {a : Option Addr} {cap : Nat} {sh : Int} {pa : Option Addr} {np pc : Nat} {sh2 : Int} {pa2 : Option Addr} {np2 pc2 : Nat} {ni : Nat} {len len2 li : Nat → Nat} {fp fp2 fi : Nat → Nat → Int} {b : Nat} {u x y z : Value} {W W' : World}
theorem KP.below (h : KP w G a cap sh pa np pc sh2 pa2 np2 pc2 ni len len2 li fp fp2 fi b u x y z W) (hb : Below W.heap.size W W') : KP w G a cap sh pa np pc sh2 pa2 np2 pc2 ni len len2 li fp fp2 fi b u x y z W' :=
  ⟨h.bel.trans (hb.mono h.bel.size), (hb.cell (lt_of_cell h.c0)).trans h.c0, (hb.cell (lt_of_cell h.c10)).trans h.c10, (hb.cell (lt_of_cell h.c11)).trans h.c11, (hb.cell (lt_of_cell h.c20)).trans h.c20, (hb.cell (lt_of_cell h.c21)).trans h.c21, (hb.cell (lt_of_cell h.cu)).trans h.cu,
    (h.gu.below hb).mono hb.size, (h.lx.below hb).mono hb.size, (h.ly.below hb).mono hb.size, (h.lz.below hb).mono hb.size⟩
theorem KP.drew (h : KP w G a cap sh pa np pc sh2 pa2 np2 pc2 ni len len2 li fp fp2 fi b u x y z W) : KP w G a cap sh pa np pc sh2 pa2 np2 pc2 ni len len2 li fp fp2 fi b u x y z W.drew := h.below (below_dr (Below.refl _ _))
end
section
variable {w : World} {G : Gl} {a : Option Addr} {cap : Nat} {sh : Int} {pa : Option Addr} {np pc : Nat} {sh2 : Int} {pa2 : Option Addr} {np2 pc2 : Nat} {ia : Option Addr} {ni ic : Nat} {s0 : Int} {len len2 li : Nat → Nat} {fp fp2 fi : Nat → Nat → Int} {b : Nat} {u x y z : Value}
  (hG : GlAt w.heap.size w (.slice a G.n cap) G) (hn : G.n ≤ 12) (hpv : LLs w.heap.size w (.slice pa np pc) np len fp) (hlen : ∀ k, k < np → len k ≤ 17592186044416) (hnp : np ≤ 100) (hpv2 : LLs w.heap.size w (.slice pa2 np2 pc2) np2 len2 fp2) (hlen2 : ∀ k, k < np2 → len2 k ≤ 17592186044416) (hnp2 : np2 ≤ 400) (hiv : LLs w.heap.size w (.slice ia ni ic) ni li fi) (hli : ∀ k, k < ni → li k ≤ 17592186044416) (hni : ni ≤ 100)
include hG hn hpv hlen hnp hpv2 hlen2 hnp2 hiv hli hni
theorem stays_calls : ∀ W, KP w G a cap sh pa np pc sh2 pa2 np2 pc2 ni len len2 li fp fp2 fi b u x y z W →
    (Calls Try.prog 14 #[.agg #[.slice a G.n cap], .agg #[.int .i64 sh, .slice pa np pc]] W fun e W' => (∃ r, e = .returned r) ∧ KP w G a cap sh pa np pc sh2 pa2 np2 pc2 ni len len2 li fp fp2 fi b u x y z W') ∧
    (Calls Try.prog 11 #[.agg #[.slice a G.n cap], .agg #[.int .i64 sh, .slice pa np pc]] W fun e W' => (∃ r, e = .returned r) ∧ KP w G a cap sh pa np pc sh2 pa2 np2 pc2 ni len len2 li fp fp2 fi b u x y z W') ∧
    (Calls Try.prog 28 #[.agg #[.slice a G.n cap], .agg #[.int .i64 sh, .slice pa np pc]] W fun e W' => (∃ r, e = .returned r) ∧ KP w G a cap sh pa np pc sh2 pa2 np2 pc2 ni len len2 li fp fp2 fi b u x y z W') ∧
    (Calls Try.prog 19 #[.agg #[.slice a G.n cap], .agg #[.int .i64 sh, .slice pa np pc], .agg #[.int .i64 sh2, .slice pa2 np2 pc2]] W fun e W' => (∃ r, e = .returned r) ∧ KP w G a cap sh pa np pc sh2 pa2 np2 pc2 ni len len2 li fp fp2 fi b u x y z W') ∧
    (Calls Try.prog 34 #[.agg #[.slice a G.n cap], .int .i64 s0, .slice ia ni ic] W fun e W' => (∃ r, e = .returned r) ∧ KP w G a cap sh pa np pc sh2 pa2 np2 pc2 ni len len2 li fp fp2 fi b u x y z W') ∧
    (Calls Try.prog 10 #[.agg #[.slice a G.n cap]] W fun e W' => (∃ r, e = .returned r) ∧ KP w G a cap sh pa np pc sh2 pa2 np2 pc2 ni len len2 li fp fp2 fi b u x y z W') ∧
    (Calls Try.prog 29 #[.agg #[.slice a G.n cap], .agg #[.int .i64 sh, .slice pa np pc]] W fun e W' => (∃ r, e = .returned r) ∧ KP w G a cap sh pa np pc sh2 pa2 np2 pc2 ni len len2 li fp fp2 fi b u x y z W') ∧
    (Calls Try.prog 9 #[] W fun e W' => e = .returned (.bool true) ∧ KP w G a cap sh pa np pc sh2 pa2 np2 pc2 ni len len2 li fp fp2 fi b u x y z W') ∧
    (Calls Try.prog 15 #[.agg #[.slice a G.n cap], .agg #[u]] W fun e W' => e = .returned (.bool true) ∧ KP w G a cap sh pa np pc sh2 pa2 np2 pc2 ni len len2 li fp fp2 fi b u x y z W') ∧
    (Calls Try.prog 35 #[.slice pa np pc, x] W fun e W' => e = .returned (.bool true) ∧ KP w G a cap sh pa np pc sh2 pa2 np2 pc2 ni len len2 li fp fp2 fi b u x y z W') ∧
    (Calls Try.prog 35 #[.slice pa2 np2 pc2, y] W fun e W' => e = .returned (.bool true) ∧ KP w G a cap sh pa np pc sh2 pa2 np2 pc2 ni len len2 li fp fp2 fi b u x y z W') ∧
    (Calls Try.prog 35 #[.slice ia ni ic, z] W fun e W' => e = .returned (.bool true) ∧ KP w G a cap sh pa np pc sh2 pa2 np2 pc2 ni len len2 li fp fp2 fi b u x y z W') := by
  intro W h
  have g1 := (hG.below h.bel).mono h.bel.size
  have g2 := (hpv.below h.bel).mono h.bel.size
  have g3 := (hpv2.below h.bel).mono h.bel.size
  have g4 := (hiv.below h.bel).mono h.bel.size
  have l2 : ∀ k, k < np → len k < 4611686018427387904 := fun k hk => Nat.lt_of_le_of_lt (hlen k hk) (by decide)
  have l3 : ∀ k, k < np2 → len2 k < 4611686018427387904 := fun k hk => Nat.lt_of_le_of_lt (hlen2 k hk) (by decide)
  have l4 : ∀ k, k < ni → li k < 4611686018427387904 := fun k hk => Nat.lt_of_le_of_lt (hli k hk) (by decide)
  refine ⟨(coverCheck_walk G _ sh _ np len fp W g1 (by omega) g2 l2 (by omega)).mono ?_, (coverMake_walk G _ sh _ np len fp W g1 (by omega) g2 l2 (by omega)).mono ?_, (Project_walk G _ sh _ np len fp W g1 (by omega) g2 l2 (by omega)).mono ?_,
    (coverCompose_walk G _ sh _ np len fp sh2 _ np2 len2 fp2 W g1 (by omega) g2 l2 (by omega) g3 l3 (by omega)).mono ?_, (Image_walk G _ s0 _ ni li fi W g1 (by omega) g4 l4 (by omega)).mono ?_, (Orientation_walk G _ W g1 (by omega)).mono ?_,
    (Regular_walk G _ sh _ np len fp W g1 (by omega) g2 l2 (by omega)).mono ?_, (sane_walk W).mono ?_, (Same_walk G (by omega) W W.heap.size _ u (Nat.le_refl _) g1 h.gu).mono ?_, (SameLists_walk np np len len fp fp (by omega) l2 W.heap.size W (Nat.le_refl _) _ _ g2 h.lx).mono ?_,
    (SameLists_walk np2 np2 len2 len2 fp2 fp2 (by omega) l3 W.heap.size W (Nat.le_refl _) _ _ g3 h.ly).mono ?_, (SameLists_walk ni ni li li fi fi (by omega) l4 W.heap.size W (Nat.le_refl _) _ _ g4 h.lz).mono ?_⟩
  · rintro e W' ⟨hb, c, rfl, -⟩; exact ⟨⟨_, rfl⟩, h.below hb⟩
  · rintro e W' ⟨hb, c, r, rfl, -⟩; exact ⟨⟨_, rfl⟩, h.below hb⟩
  · rintro e W' ⟨hb, c, rfl⟩; exact ⟨⟨_, rfl⟩, h.below hb⟩
  · rintro e W' ⟨hb, c, rfl⟩; exact ⟨⟨_, rfl⟩, h.below hb⟩
  · rintro e W' ⟨hb, c, rfl⟩; exact ⟨⟨_, rfl⟩, h.below hb⟩
  · rintro e W' ⟨hb, c, rfl⟩; exact ⟨⟨_, rfl⟩, h.below hb⟩
  · rintro e W' ⟨hb, c, r, rfl⟩; exact ⟨⟨_, rfl⟩, h.below hb⟩
  · rintro e W' ⟨rfl, hb⟩; exact ⟨rfl, h.below hb⟩
  · rintro e W' ⟨rfl, hb⟩; exact ⟨rfl, h.below hb⟩
  · rintro e W' ⟨rfl, hb⟩; exact ⟨by rw [sameL_refl], h.below hb⟩
  · rintro e W' ⟨rfl, hb⟩; exact ⟨by rw [sameL_refl], h.below hb⟩
  · rintro e W' ⟨rfl, hb⟩; exact ⟨by rw [sameL_refl], h.below hb⟩
end
end Go.Proofs.Ytlckpgahijlmoaa
