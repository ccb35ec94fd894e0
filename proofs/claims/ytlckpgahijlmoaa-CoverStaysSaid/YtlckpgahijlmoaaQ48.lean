/- cover's deck: it answers, and turns nothing. -/
import Derived.Test.YtlckpgahijlmoaaQ47
namespace Go.Proofs.Ytlckpgahijlmoaa
open Go.RowKit Go.Shelf Go.Maps

theorem und181 : Try.prog.underlying 181 = some (.map 3 3) := by kernel_rfl
/-- a gluing whose tetrahedra lie above those of another with n0: faces behind faces above one face lie above one tetrahedron -/
structure Over (H : Gl) (n0 : Nat) : Prop where
  lt : ∀ K, K < 4 * H.n → ¬ H.tet K < 0 → (H.tet K).toNat < H.n
  sgn : ∀ a b f, a < H.n → b < H.n → f < 4 → a % n0 = b % n0 → (H.tet (4 * a + f) < 0 ↔ H.tet (4 * b + f) < 0)
  mod : ∀ a b f, a < H.n → b < H.n → f < 4 → a % n0 = b % n0 → ¬ H.tet (4 * a + f) < 0 → (H.tet (4 * a + f)).toNat % n0 = (H.tet (4 * b + f)).toNat % n0
def dkD (h : Nat → Int) (a : Nat) : Option Nat := if h a = 0 then none else some (h a - 1).toNat
structure DQ (w W : World) (N n n0 : Nat) (v qv : Value) (qs : List Nat) (h : Nat → Int) : Prop where
  own : W.ownsRow (N + 2) 3 1 qv qs.length (qs.map fun (q : Nat) => Value.int .i64 (q : Int))
  img : ∃ nn, MapIs W 3 okI mI mI (N + 1) nn (dkD h)
  qlt : ∀ q ∈ qs, q < n ∧ h q ≠ 0
  him : ∀ a, h a ≠ 0 → a < n ∧ 0 < h a ∧ (h a - 1).toNat < n ∧ a % n0 = (h a - 1).toNat % n0
  cnt : qs.length ≤ nzc h n
  c0 : W.cell? ⟨N, 0, none⟩ = some v
  bel : Below N w W
theorem DQ.kept {w W W' : World} {N n n0 : Nat} {v qv : Value} {qs : List Nat} {h : Nat → Int} (hq : DQ w W N n n0 v qv qs h) (hg : W.grownBy W' none) : DQ w W' N n n0 v qv qs h := by
  obtain ⟨n1, h1⟩ := hq.img
  exact ⟨hq.own.kept hg (by cases qv.ownBlock <;> simp), ⟨n1, h1.kept hg (by simp)⟩, hq.qlt, hq.him, hq.cnt, hg.cell hq.c0 (by simp), hq.bel.grown hg (by have := lt_of_cell hq.c0; simp only at this; omega) (fun k e => by cases e)⟩
theorem DQ.lo {w W : World} {N n n0 : Nat} {v qv : Value} {qs : List Nat} {h : Nat → Int} (hq : DQ w W N n n0 v qv qs h) : ∀ b, b < N + 2 → some b ≠ qv.ownBlock := fun b hb e => by have := (hq.own.lt b e.symm).1; omega
theorem DQ.qcell {w W : World} {N n n0 : Nat} {v qv : Value} {qs : List Nat} {h : Nat → Int} (hq : DQ w W N n n0 v qv qs h) {k q : Nat} (hk : qs[k]? = some q) : ∃ g cap, qv = .slice (some ⟨g, 0, none⟩) qs.length cap ∧ W.cell? ⟨g, k, none⟩ = some (.int .i64 ((q : Nat) : Int)) ∧ q < n ∧ h q ≠ 0 := by
  have hkl := (List.getElem?_eq_some_iff.1 hk).1
  obtain ⟨g, cap, hv, _⟩ := hq.own.form (by omega)
  refine ⟨g, cap, hv, ?_, hq.qlt _ (List.mem_of_getElem? hk)⟩
  have := hq.own.cells (g := g) (by rw [hv]; rfl) k (.int .i64 (q : Nat)) (by simp [hk])
  rwa [Addr.add_mid, Nat.zero_add] at this
theorem DQ.push {w W W1 W2 w3 : World} {N n n0 g cap nn : Nat} {v qv : Value} {qs : List Nat} {h : Nat → Int} (hq : DQ w W N n n0 v qv qs h) {x y : Nat} (hx : x < n) (hy : y < n) (hxy : x % n0 = y % n0) (h0 : h x = 0)
    (hm : MapIs W1 3 okI mI mI (N + 1) nn (fun a => if a = x then some y else dkD h a)) (hg1 : W.grownBy W1 (some (N + 1))) (hg2 : W1.grownBy W2 none)
    (a1 : w3.ownsRow (N + 2) 3 1 (.slice (some ⟨g, 0, none⟩) (qs.length + 1) cap) (qs.length + 1) ((qs.map fun (q : Nat) => Value.int .i64 (q : Int)) ++ [.int .i64 (x : Int)])) (a2 : W2.grownBy w3 qv.ownBlock) :
    DQ w w3 N n n0 v (.slice (some ⟨g, 0, none⟩) (qs.length + 1) cap) (qs ++ [x]) (fun i => if i = x then (y : Int) + 1 else h i) := by
  have hN := lt_of_cell hq.c0
  simp only at hN
  have hs1 := hg1.size
  have hs2 := hg2.size
  refine ⟨by simpa using a1, ⟨nn, (((hm.kept hg2 (by simp)).kept a2 (hq.lo (N + 1) (by omega))).congr (fun a => ?_))⟩, fun q hm => ?_, fun a ha => ?_, ?_, a2.cell (hg2.cell (hg1.cell hq.c0 (by simp)) (by simp)) (hq.lo N (by omega)), ?_⟩
  · by_cases e : a = x
    · have : (y : Int) + 1 ≠ 0 := by omega
      simp [dkD, e, this]
    · simp [dkD, e]
  · rcases List.mem_append.1 hm with q1 | q1
    · have := hq.qlt q q1
      refine ⟨this.1, ?_⟩
      show (if q = x then (y : Int) + 1 else h q) ≠ 0
      split
      · omega
      · exact this.2
    · simp at q1; subst q1; exact ⟨hx, by simp only [if_true]; omega⟩
  · by_cases e : a = x
    · subst e
      simp only [if_true]
      exact ⟨hx, by omega, by omega, by rw [show ((y : Int) + 1 - 1).toNat = y by omega]; exact hxy⟩
    · simp only [e, if_false] at ha ⊢
      exact hq.him a ha
  · rw [nzc_set hx h0 (by omega)]
    have := hq.cnt
    simp; omega
  · exact ((hq.bel.grown hg1 (by omega) (fun k e => by cases e; omega)).grown hg2 (by omega) (fun k e => by cases e)).grown a2 (by omega) (fun k e => by have := (hq.own.lt k e).1; omega)

set_option maxRecDepth 100000 in
set_option maxHeartbeats 2000000 in
theorem deck_walk (G : Gl) (n0 t1 : Nat) (hO : Over G n0) (hn : G.n ≤ 1000) (hto : t1 < G.n) (htm : t1 % n0 = 0) (v : Value) (w : World) (hG : GlAt w.heap.size w v G) :
    Calls Try.prog 68 #[.agg #[v], .int .i64 (t1 : Int)] w fun e w' => (∃ b, e = .returned (.bool b)) ∧ Below w.heap.size w w' := by
  have hmm := @run_makeMap Try.prog
  have HG := Lib.hid (And.intro hO (And.intro htm hG))
  obtain ⟨a, cap, rfl⟩ : ∃ a cap, v = .slice a G.n cap := by obtain ⟨a, _, _, cap, e, _⟩ := hG; exact ⟨a, cap, e⟩
  clear hO htm hG
  generalize hN : w.heap.size = N at *
  obtain ⟨n, hne⟩ : ∃ n, n = G.n := ⟨_, rfl⟩
  rw [← hne] at hn hto ⊢
  have HNN := Lib.hid (And.intro hN hne)
  clear hne
  have hmd : MapIs ((w.alloc (.cells #[.slice a n cap] 24)).alloc (.map #[] 0)) 3 okI mI mI (N + 1) 0 (fun _ => none) := by
    have := MapIs.made (k := 3) (ok := okI) (κ := mI) (ν := mI) (w.alloc (.cells #[.slice a n cap] 24))
    simpa [hN] using this
  have hcc : ((w.alloc (.cells #[.slice a n cap] 24)).alloc (.map #[] 0)).cell? ⟨N, 0, none⟩ = some (.slice a n cap) := cell_al (World.cell?_alloc_at _ _ _ _ hN.symm) _
  have hbb : Below N w ((w.alloc (.cells #[.slice a n cap] 24)).alloc (.map #[] 0)) := by subst hN; (repeat' (first | assumption | exact Below.refl _ _ | refine below_then ?_ (by assumption) | refine below_al ?_ _ | refine below_dr ?_ | refine below_sc ?_ (by simp <;> omega) _))
  have H0 := Lib.hid (And.intro hmd (And.intro hcc hbb))
  clear hmd hcc hbb
  go_enter Try.func68, Try.ntmps68
  go_wp2_with (first
    | (refine wpList_insert (a := (0 : Nat)) (c := t1) (κ := mI) (ν := mI) (D := fun _ => none) (ok := okI) (k := 3) rfl 181 (.tmp 14) (.const (.int .i64 0)) (.tmp 15) rfl codesI und181 H0.out.1 okI0 rfl rfl rfl ?_; intro W1 h1 h2 h3; have H1 := Lib.hid (And.intro h1 (And.intro h2 h3)); clear h1 h2 h3))
  obtain ⟨D, hD⟩ : ∃ D, D = W1.heap.size := ⟨_, rfl⟩
  rw [← hD]
  refine wp_named fun W2 hW2 => ?_
  have hQ : DQ w W2 N n n0 (.slice a n cap) (.slice (some ⟨D, 0, none⟩) 1 1) [0] (fun i => if i = 0 then (t1 : Int) + 1 else 0) := by
    obtain ⟨h1, h2, h3⟩ := H1.out
    obtain ⟨m1, cc, bb⟩ := H0.out
    have hs1 : W1.heap.size = N + 2 := by rw [h3]; simp [hN]
    have hal := World.grownBy_alloc W1 (.cells #[.int .i64 0] 3) none
    rw [← hW2] at hal
    have hown := World.ownsRow_lit (base := N + 2) (e := 3) (size := 1) W1 #[.int .i64 0] 1 (by omega) (by decide) rfl
    rw [← hW2, ← hD] at hown
    refine ⟨hown, ⟨_, (h1.kept hal (by simp)).congr (fun x => ?_)⟩, fun q hq => ?_, fun x hx => ?_, ?_, hal.cell (h2.cell cc (by simp)) (by simp), (bb.grown h2 (by simp; omega) (fun r e => by cases e; omega)).grown hal (by omega) (fun r e => by cases e)⟩
    · by_cases e : x = 0
      · have : (t1 : Int) + 1 ≠ 0 := by omega
        simp [dkD, e, this]
      · simp [dkD, e]
    · simp at hq; subst hq; exact ⟨by omega, by simp only [if_true]; omega⟩
    · by_cases e : x = 0
      · subst e
        simp only [if_true]
        exact ⟨by omega, by omega, by omega, by rw [show ((t1 : Int) + 1 - 1).toNat = t1 by omega, HG.out.2.1]; simp⟩
      · simp [e] at hx
    · have := nzc_set (s := fun _ => 0) (m := n) (j := 0) (x := (t1 : Int) + 1) (by omega) rfl (by omega)
      rw [this]; simp
  have HQ := Lib.hid hQ
  clear hQ hW2 hD
  go_loopw [6, 7] (fun lv i wr => ∃ (qs : List Nat) (h : Nat → Int) (j : Nat), j ≤ qs.length ∧ i = .int .i64 j ∧ DQ w wr N n n0 (.slice a n cap) lv qs h) (fun _ i _ => n - (intOf i).toNat)
  case atStart => exact ⟨_, _, 0, by omega, rfl, HQ.out⟩
  case round =>
    clear HQ
    obtain ⟨qs, h2, j, hj, rfl, hP⟩ := hrel
    obtain ⟨la, lc, rfl⟩ := ownsRow_form hP.own
    have HP := Lib.hid hP
    have hlk : qs.length ≤ n := Nat.le_trans hP.cnt (nzc_le _ _)
    rcases Nat.lt_or_ge j qs.length with hjl | hjl
    · obtain ⟨q, hq⟩ : ∃ q, qs[j]? = some q := ⟨_, List.getElem?_eq_getElem hjl⟩
      obtain ⟨g, gc, hge, hqc, hqk, -⟩ := hP.qcell hq
      obtain ⟨rfl, -, rfl⟩ : la = some ⟨g, 0, none⟩ ∧ qs.length = qs.length ∧ lc = gc := by simpa using hge
      obtain ⟨_, b, off, _, hve, hga, hgc⟩ := HG.out.2.2
      simp only [Value.slice.injEq, true_and] at hve
      obtain ⟨hva, hvc⟩ := hve
      obtain ⟨hN2, hne2⟩ := HNN.out
      obtain ⟨hab, hbB⟩ := hga (by omega)
      rw [hab] at hva
      subst hva
      have hrow : RowCells wr b (off + q * 20) G q := by
        have := rowCells (W := w) hgc q (by omega)
        intro jj hjj
        rw [← this jj hjj]
        exact hP.bel.cell (p := ⟨b, off + q * 20 + jj, none⟩) (by exact hbB)
      have hrg := RowCells.range hrow
      have c0 : wr.cell? ⟨N, 0, none⟩ = some (.slice (some ⟨b, off, none⟩) n cap) := hP.c0
      have j0 : 0 ≤ (j : Int) := by omega
      have jl : (j : Int) < (qs.length : Int) := by omega
      have q0 : 0 ≤ (q : Int) := by omega
      have qk : (q : Int) < (n : Int) := by omega
      have HGC := Lib.hid (And.intro hbB hgc)
      have H5 := Lib.hid (And.intro HP.out hq)
      clear HP hge hga hgc hvc hN2 hne2 hab hbB hrow hq hP
      go_wp2_with (refine wpList_load_row' rfl 88 (.tmp 31) rfl b (off + q * 20) rfl (rowA G q) _ hrg Try.underlying88 rfl (by kernel_rfl) ?_)
      clear hqc c0 hrg
      go_loopw [6, 33] (fun lv i wr => ∃ (qs : List Nat) (h : Nat → Int) (f : Nat), f ≤ 4 ∧ i = .int .i64 f ∧ qs[j]? = some q ∧ DQ w wr N n n0 (.slice (some ⟨b, off, none⟩) n cap) lv qs h) (fun _ i _ => 4 - (intOf i).toNat)
      case atStart => exact ⟨qs, h2, 0, by omega, rfl, H5.out.2, H5.out.1⟩
      case round =>
        clear H5
        obtain ⟨qs', h3, f, hf, rfl, hjq, hP⟩ := hrel
        obtain ⟨la', lc', rfl⟩ := ownsRow_form hP.own
        have HP := Lib.hid (And.intro hP hjq)
        have hlk' : qs'.length ≤ n := Nat.le_trans hP.cnt (nzc_le _ _)
        rcases Nat.lt_or_ge f 4 with hf4 | hf4
        · have hix := fun w => row_index G q f hf4 w
          unfold faceA at hix
          have hkk : 4 * q + f < 4 * G.n := by have := HNN.out.2; omega
          obtain ⟨T, hT⟩ : ∃ T, T = G.tet (4 * q + f) := ⟨_, rfl⟩
          rw [← hT] at hix
          rcases Int.lt_or_le T 0 with hT0 | hT0
          · have q1 : decide (T < 0) = true := by simpa using hT0
            clear hP hT hjq
            go_wp2
            exact ⟨⟨qs', h3, f + 1, by omega, by simp, HP.out.2, HP.out.1.kept (World.grownBy_alloc _ _ _)⟩, by simp [intOf]; omega⟩
          · have hnn := HNN.out.2
            obtain ⟨x, rfl⟩ : ∃ x : Nat, T = (x : Int) := ⟨T.toNat, by omega⟩
            have hxn : x < n := by have := HG.out.1.lt _ hkk (by omega); rw [← hT] at this; simp at this; omega
            obtain ⟨_, hqz⟩ := hP.qlt q (List.mem_of_getElem? hjq)
            obtain ⟨_, hq1, hq2, hq3⟩ := hP.him q hqz
            obtain ⟨bb, hbb⟩ : ∃ bb, bb = (h3 q - 1).toNat := ⟨_, rfl⟩
            rw [← hbb] at hq2 hq3
            have hsg := HG.out.1.sgn q bb f (by omega) (by omega) hf4 hq3
            have hmd := HG.out.1.mod q bb f (by omega) (by omega) hf4 hq3 (by omega)
            have hkb : 4 * bb + f < 4 * G.n := by omega
            obtain ⟨Y, hY⟩ : ∃ Y, Y = G.tet (4 * bb + f) := ⟨_, rfl⟩
            have hYp : ¬ Y < 0 := by rw [hY, ← hsg]; omega
            obtain ⟨y, rfl⟩ : ∃ y : Nat, Y = (y : Int) := ⟨Y.toNat, by omega⟩
            have hyn : y < n := by have := HG.out.1.lt _ hkb (by omega); rw [← hY] at this; simp at this; omega
            rw [← hT, ← hY] at hmd
            simp only [Int.toNat_natCast] at hmd
            have fb := HGC.out.2 (4 * bb + f) hkb
            rw [← hY] at fb
            have fw : ∀ o x, w.cell? ⟨b, o, none⟩ = some x → ∀ ob, (wr.alloc ob).cell? ⟨b, o, none⟩ = some x := fun o x hx => cell_al ((hP.bel.cell (p := ⟨b, o, none⟩) (by exact HGC.out.1)).trans hx)
            rw [show off + 5 * (4 * bb + f) = off + bb * 20 + f * 5 by omega] at fb
            have p0 := fw _ _ fb.1
            have p1 := fw _ _ (fb.2 0 (by omega))
            have p2 := fw _ _ (fb.2 1 (by omega))
            have p3 := fw _ _ (fb.2 2 (by omega))
            have p4 := fw _ _ (fb.2 3 (by omega))
            rw [Nat.add_zero] at p1
            have cN := cell_al hP.c0
            obtain ⟨nn, himg⟩ := hP.img
            have okx : okI x := by show x < 9223372036854775808; omega
            have okq : okI q := by show q < 9223372036854775808; omega
            have hl1 : ∀ o, (Instr.lookup 181 (.map (some (N + 1))) (.int .i64 (q : Int)) false).run Try.prog (wr.alloc o) = .ok (.int .i64 (bb : Int)) (wr.alloc o) := fun o => by
              have := (himg.kept (World.grownBy_alloc wr o none) (by simp)).look codesI und181 (zero3 _) false q okq
              unfold mI at this
              rw [this]
              simp [dkD, hqz, ← hbb]
            have hl2 : ∀ o o2, (Instr.lookup 181 (.map (some (N + 1))) (.int .i64 (x : Int)) true).run Try.prog ((wr.alloc o).alloc o2) = .ok (if h3 x = 0 then .tuple #[.int .i64 0, .bool false] else .tuple #[.int .i64 ((h3 x - 1).toNat : Nat), .bool true]) ((wr.alloc o).alloc o2) := fun o o2 => by
              have := ((himg.kept (World.grownBy_alloc wr o none) (by simp)).kept (World.grownBy_alloc _ o2 none) (by simp)).look codesI und181 (zero3 _) true x okx
              unfold mI at this
              rw [this]
              by_cases e : h3 x = 0 <;> simp [dkD, e]
            have HM := Lib.hid (And.intro (fun o o2 => (himg.kept (World.grownBy_alloc wr o none) (by simp)).kept (World.grownBy_alloc (wr.alloc o) o2 none) (by simp)) hmd)
            have q1 : decide ((x : Int) < 0) = false := by simp
            have b0 : 0 ≤ (bb : Int) := by omega
            have bn : (bb : Int) < (n : Int) := by omega
            have f0 : 0 ≤ (f : Int) := by omega
            have f4 : (f : Int) < 4 := by omega
            have hA1 : N + 1 < wr.heap.size := himg.lt
            clear hP hT hjq hnn hqz hq1 hq2 hq3 hbb hsg hmd hkb hY hYp fb fw himg okq
            by_cases hh : h3 x = 0
            · simp only [hh, if_true] at hl2
              have HH := Lib.hid hh
              clear hh
              obtain ⟨j0', hj0, hz30, hz31, hz32⟩ := info_parts info3
              have hown := HP.out.1.own
              have fa0 : ∀ o, ((wr.alloc (.cells #[.int .i64 (x : Int), .int .i64 (G.pm (4 * q + f) 0), .int .i64 (G.pm (4 * q + f) 1), .int .i64 (G.pm (4 * q + f) 2), .int .i64 (G.pm (4 * q + f) 3)] 87)).alloc o).cell? ⟨wr.heap.size, 0, none⟩ = some (.int .i64 (x : Int)) := fun o => cell_al ((World.cell?_alloc_at _ _ _ _ rfl).trans rfl) o
              have n1 : some wr.heap.size ≠ some (N + 1) := fun e => by have := Option.some.inj e; omega
              have HO := Lib.hid (And.intro hown (And.intro fa0 n1))
              clear hown fa0 n1
              go_wp2_with (first
                | (refine wpList_put (a := x) (c := y) (κ := mI) (ν := mI) rfl 181 (.tmp 58) (.tmp 60) (.tmp 62) rfl codesI und181 (HM.out.1 _ _) okx rfl rfl rfl ?_; intro W3 m1 m2 m3; have y3 := m2.cell (HO.out.2.1 _) HO.out.2.2; have H3 := Lib.hid (And.intro m1 (And.intro m2 m3)); clear m1 m2 m3)
                | (at_builtin; refine (wpList_append_lies _ rfl (.tmp 63) (.tmp 66) 35 rfl (N + 2) 3 j0' _ 1 8 und35 hj0 hz30 hz31 hz32 rfl (by omega) (.slice la' qs'.length lc') qs'.length _ rfl ((((HO.out.1.alloc _).alloc _).kept H3.out.2.1 (.inr (fun e => by have := (HO.out.1.lt _ e).1; omega))).alloc _) ⟨W3.heap.size, 0, none⟩ 1 1 [.int .i64 (x : Int)] rfl rfl (World.news_of_block (cs := #[.int .i64 (x : Int)]) (MapKept.heap_alloc W3 _).1) (by simp [Value.oneCell']) (by omega) (by unfold maxLen; omega) (by omega) (by have := H3.out.2.1.size; simp at this ⊢; omega) (W3.heap.size + 1) (by simp) ?_); intro g9 c9 w9 r1 r2 r3 r4; have H9 := Lib.hid (((HP.out.1.kept (World.grownBy_alloc wr _ none)).kept (World.grownBy_alloc _ _ none)).push hxn hyn HM.out.2 HH.out H3.out.1 H3.out.2.1 (World.grownBy_alloc W3 _ none) r1 r2); clear r1 r2 r3 r4))
              exact ⟨⟨qs' ++ [x], _, f + 1, by omega, by simp, by rw [List.getElem?_append_left (List.getElem?_eq_some_iff.1 HP.out.2).1]; exact HP.out.2, by simpa using H9.out⟩, by simp [intOf]; omega⟩
            · simp only [hh, if_false] at hl2
              obtain ⟨z, hz⟩ : ∃ z, z = (h3 x - 1).toNat := ⟨_, rfl⟩
              rw [← hz] at hl2
              clear hh hz
              by_cases hzy : z = y
              · have q2 : ((z : Int) != (y : Int)) = false := by simp; omega
                go_wp2
                exact ⟨⟨qs', h3, f + 1, by omega, by simp, HP.out.2, (HP.out.1.kept (World.grownBy_alloc _ _ _)).kept (World.grownBy_alloc _ _ _)⟩, by simp [intOf]; omega⟩
              · have q2 : ((z : Int) != (y : Int)) = true := by simp; omega
                go_wp2
                go_ret
                exact ⟨⟨_, rfl⟩, ((HP.out.1.kept (World.grownBy_alloc _ _ _)).kept (World.grownBy_alloc _ _ _)).bel⟩
        · obtain rfl : f = 4 := by omega
          clear hP hjq
          go_wp2
          have := (List.getElem?_eq_some_iff.1 HP.out.2).1
          exact ⟨⟨qs', h3, j + 1, by omega, by simp, HP.out.1⟩, by simp [intOf]; omega⟩
    · obtain rfl : j = qs.length := by omega
      clear hP
      go_wp2
      go_ret
      exact ⟨⟨_, rfl⟩, HP.out.bel⟩
end Go.Proofs.Ytlckpgahijlmoaa
