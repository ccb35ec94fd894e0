/- R01.Parse of the one text that sane reads. -/
import Derived.Test.YtlckpgahijlmoaaQ10
import Derived.Test.YtlckpgahijlmoaaQ21
import Derived.Test.YtlckpgahijlmoaaQ24
import Derived.Test.YtlckpgahijlmoaaQ20
import Derived.Test.YtlckpgahijlmoaaQ13
import Derived.Test.YtlckpgahijlmoaaQ22
import Derived.Great.Walk
/- R01.Sign. No condition. -/
namespace Go.Proofs.Ytlckpgahijlmoaa
open Go.RowKit Go.Shelf

def SignR (p : Nat → Int) : Int := if validR p then signF p else 0
set_option maxRecDepth 20000 in
set_option maxHeartbeats 1000000 in
theorem rsign_walk (p : Nat → Int) (w : World) : Calls Try.prog 47 #[.agg (P4 p)] w fun e w' => e = .returned (.int .i64 (SignR p)) ∧ Below w.heap.size w w' := by
  have hvl := fun W => validR_walk p W
  have HVL := Lib.hid hvl; clear hvl
  unfold P4 at *
  have hc0 : ∀ W : World, (∀ i, i < 4 → (W.alloc (.cells #[.int .i64 (p 0), .int .i64 (p 1), .int .i64 (p 2), .int .i64 (p 3)] 85)).cell? ⟨W.heap.size, i, none⟩ = some (.int .i64 (p i))) := fun W i hi => by
    match i, hi with
    | 0, _ => simp [go_sem]
    | 1, _ => simp [go_sem]
    | 2, _ => simp [go_sem]
    | 3, _ => simp [go_sem]
  have HC0 := Lib.hid hc0; clear hc0
  obtain ⟨N, hN⟩ : ∃ N, N = w.heap.size := ⟨_, rfl⟩
  go_enter Try.func47, Try.ntmps47
  go_wp2_with fail
  refine (HVL.out _).mono ?_
  rintro e w1 ⟨rfl, hb⟩
  have h1 : (∀ i, i < 4 → w1.cell? ⟨N, i, none⟩ = some (.int .i64 (p i))) ∧ Below N w w1 ∧ N < w1.heap.size := by
    have hs := hb.size
    simp only [World.size_alloc] at hs
    rw [hN]
    exact ⟨fun i hi => (hb.cell (p := ⟨w.heap.size, i, none⟩) (by simp)).trans (HC0.out w i hi), ((Below.refl _ w).alloc (Nat.le_refl _) _).trans (hb.mono (by simp)), by omega⟩
  rw [← hN]
  have H1 := Lib.hid h1
  have HN := Lib.hid hN
  clear h1 hb hN
  by_cases hv : validR p = true
  · have HX := Lib.hid (show SignR p = signF p from if_pos hv)
    go_wp2
    go_loopw [4, 3] (fun i s wr => ∃ k : Nat, k ≤ 4 ∧ i = .int .i64 k ∧ s = .int .i64 (lp (sgI p) 1 k) ∧ Below w1.heap.size w1 wr) (fun i _ _ => 4 - (intOf i).toNat)
    case atStart => exact ⟨0, by omega, rfl, rfl, Below.refl _ _⟩
    case round =>
      obtain ⟨k, hk, rfl, rfl, hb⟩ := hrel
      have HK := Lib.hid hb; clear hb
      rcases Nat.lt_or_ge k 4 with hlk | hge
      · have hpm := sg_pm (p := p) (m := k)
        have k4 : (k : Int) < 4 := by omega
        have HE := Lib.hid (show lp (sgI p) 1 (k + 1) = lp (sgJ p k) (lp (sgI p) 1 k) k from rfl)
        generalize lp (sgI p) 1 k = s0 at *
        go_wp2
        go_loopw [5, 3] (fun i s wr => ∃ j : Nat, j ≤ k ∧ i = .int .i64 j ∧ s = .int .i64 (lp (sgJ p k) s0 j) ∧ Below w1.heap.size w1 wr) (fun i _ _ => 4 - (intOf i).toNat)
        case atStart => exact ⟨0, by omega, rfl, rfl, HK.out⟩
        case round =>
          obtain ⟨j, hj, rfl, rfl, hb⟩ := hrel
          have hcj := (hb.cell (p := ⟨N, j, none⟩) H1.out.2.2).trans (H1.out.1 j (by omega))
          have hck := (hb.cell (p := ⟨N, k, none⟩) H1.out.2.2).trans (H1.out.1 k (by omega))
          have HK2 := Lib.hid hb; clear hb
          have hq := sgI_pm (p := p) (i := k) (m := j) hpm
          have HS := Lib.hid (show lp (sgJ p k) s0 (j + 1) = sgJ p k j (lp (sgJ p k) s0 j) from rfl)
          generalize hs1 : lp (sgJ p k) s0 j = s1 at *
          have HS1 := Lib.hid hs1; clear hs1
          rcases Nat.lt_or_ge j k with hlj | hgj
          · have j4 : (j : Int) < 4 := by omega
            have j0 : 0 ≤ (j : Int) := by omega
            have k0 : 0 ≤ (k : Int) := by omega
            rcases Int.lt_or_le (p k) (p j) with hlt | hle
            · have HX := Lib.hid (show sgJ p k j s1 = -s1 by simp [sgJ, hlt])
              generalize p j = pj at *
              generalize p k = pk at *
              rcases hq with rfl | rfl
              · go_wp2
                go_still (by kernel_rfl)
                go_wp2
                go_roundw
                case rel => exact ⟨j + 1, by omega, rfl, by rw [HS.out, HX.out], below_dr HK2.out⟩
                case measure => simp [intOf]; omega
              · go_wp2
                go_still (by kernel_rfl)
                go_wp2
                go_roundw
                case rel => exact ⟨j + 1, by omega, rfl, by rw [HS.out, HX.out]; rfl, below_dr HK2.out⟩
                case measure => simp [intOf]; omega
            · have HX := Lib.hid (show sgJ p k j s1 = s1 by simp [sgJ]; omega)
              generalize p j = pj at *
              generalize p k = pk at *
              go_wp2
              go_still (by kernel_rfl)
              go_wp2
              go_roundw
              case rel => exact ⟨j + 1, by omega, rfl, by rw [HS.out, HX.out], below_dr HK2.out⟩
              case measure => simp [intOf]; omega
          · obtain rfl : j = k := by omega
            go_wp2
            go_roundw
            case rel => exact ⟨j + 1, by omega, rfl, by rw [HE.out, HS1.out], HK2.out⟩
            case measure => simp [intOf]; omega
      · obtain rfl : k = 4 := by omega
        go_wp2
        go_ret
        rw [← HN.out]
        exact ⟨by rw [HX.out]; rfl, by have := H1.out; have hb := HK.out; exact this.2.1.trans (hb.mono (by omega))⟩
  · have hv : validR p = false := by simpa using hv
    have HX := Lib.hid (show SignR p = 0 by simp [SignR, hv])
    go_wp2
    go_ret
    rw [← HN.out]
    exact ⟨by rw [HX.out]; rfl, H1.out.2.1⟩
end Go.Proofs.Ytlckpgahijlmoaa
/- R02's orientable: it returns, and turns nothing. -/
namespace Go.Proofs.Ytlckpgahijlmoaa
open Go.RowKit Go.Shelf

/-- the box, some classes, the row's copy D -/
structure OT (w W : World) (N n : Nat) (a : Option Addr) (cap m D : Nat) (G : Gl) (t : Nat) : Prop where
  ft : ∃ r, FT w W N n a cap m r
  row : RowCells W D 0 G t
  lt : N + 1 < D
section
variable {w W W' : World} {N n : Nat} {a : Option Addr} {cap m D t : Nat} {G : Gl}
theorem OT.al (h : OT w W N n a cap m D G t) (o : Obj) : OT w (W.alloc o) N n a cap m D G t := by
  obtain ⟨r, hr⟩ := h.ft
  exact ⟨⟨r, hr.al o⟩, h.row.alloc o, h.lt⟩
theorem OT.below (h : OT w W N n a cap m D G t) (hb : Below W.heap.size W W') : OT w W' N n a cap m D G t := by
  obtain ⟨r, hr⟩ := h.ft
  have hl := hr.lt
  exact ⟨⟨r, hr.below hb (by omega)⟩, h.row.kept (row := none) ⟨hb.os, hb.tape, hb.output, hb.size, fun k hk _ => hb.block k hk⟩ (by simp), h.lt⟩
theorem OT.dr (h : OT w W N n a cap m D G t) : OT w W.drew N n a cap m D G t := h.below (below_dr (Below.refl _ _))
theorem OT.join (h : OT w W N n a cap m D G t) {r' : Nat → Nat} (hu : UR W' (N + 1) m r') (hg : W.grownBy W' (some (N + 1))) : OT w W' N n a cap m D G t := by
  obtain ⟨r, hr⟩ := h.ft
  exact ⟨⟨r', hr.join hu hg⟩, h.row.kept hg (fun e => by have := h.lt; have := Option.some.inj e; omega), h.lt⟩
end
/-- besides: a face's copy E -/
structure OE (w W : World) (N n : Nat) (a : Option Addr) (cap m D : Nat) (G : Gl) (t E : Nat) (T : Int) (q : Nat → Int) : Prop where
  ot : OT w W N n a cap m D G t
  e0 : W.cell? ⟨E, 0, none⟩ = some (.int .i64 T)
  e1 : ∀ i, i < 4 → W.cell? ⟨E, 1 + i, none⟩ = some (.int .i64 (q i))
  lt : N + 1 < E
section
variable {w W W' : World} {N n : Nat} {a : Option Addr} {cap m D t E : Nat} {T : Int} {q : Nat → Int} {G : Gl}
theorem OE.join (h : OE w W N n a cap m D G t E T q) {r' : Nat → Nat} (hu : UR W' (N + 1) m r') (hg : W.grownBy W' (some (N + 1))) : OE w W' N n a cap m D G t E T q :=
  ⟨h.ot.join hu hg, hg.cell h.e0 (fun e => by have := h.lt; have := Option.some.inj e; simp only at this; omega), fun i hi => hg.cell (h.e1 i hi) (fun e => by have := h.lt; have := Option.some.inj e; simp only at this; omega), h.lt⟩
theorem OE.below (h : OE w W N n a cap m D G t E T q) (hb : Below W.heap.size W W') : OE w W' N n a cap m D G t E T q :=
  ⟨h.ot.below hb, (hb.cell (lt_of_cell h.e0)).trans h.e0, fun i hi => (hb.cell (lt_of_cell (h.e1 i hi))).trans (h.e1 i hi), h.lt⟩
theorem OE.dr (h : OE w W N n a cap m D G t E T q) : OE w W.drew N n a cap m D G t E T q := h.below (below_dr (Below.refl _ _))
theorem OE.of (h : OT w W N n a cap m D G t) : OE w (W.alloc (.cells (fcells T q) 87)) N n a cap m D G t W.heap.size T q := by
  have hE : ∀ j v, (fcells T q)[j]? = some v → (W.alloc (.cells (fcells T q) 87)).cell? ⟨W.heap.size, j, none⟩ = some v := fun j v hv => (World.cell?_alloc_at _ _ _ _ rfl).trans hv
  obtain ⟨r, hr⟩ := h.ft
  exact ⟨h.al _, hE 0 _ rfl, fun i hi => hE _ _ (fcells_at T q i hi), hr.lt⟩
end
/-- a bool, and nothing turned -/
def RetBool (w : World) (e : Ending) (w' : World) : Prop := (∃ b, e = .returned (.bool b)) ∧ Below w.heap.size w w'
theorem eight_n (n : Nat) : ((8 * n : Nat) : Int) = 8 * (n : Int) := by omega
set_option maxRecDepth 20000 in
set_option maxHeartbeats 2000000 in
theorem rorientable_walk (G : Gl) (hok : checkB G = true) (w : World) (v : Value) (hv : GlAt w.heap.size w v G) (d : Nat) (vf : Nat → Int) (hd : IntRow w d (4 * G.n) vf) (x : Int) :
    Calls Try.prog 123 #[.agg #[v], .slice (some ⟨d, 0, none⟩) (4 * G.n) (4 * G.n), .int .i64 x] w (RetBool w) := by
  have hn : G.n ≤ 1000 := by simp only [checkB, Bool.and_eq_true, decide_eq_true_eq] at hok; exact hok.1
  have HO := Lib.hid (And.intro hok hd)
  have hdl := hd.lt
  clear hok hd
  obtain ⟨a, b, off, cap, rfl, ha, hc⟩ := hv
  have HGC := Lib.hid (And.intro ha hc); clear ha hc
  have hs := fun W => singles_walk (8 * G.n) (by omega) W
  rw [eight_n] at hs
  have HS := Lib.hid hs; clear hs
  go_enter Try.func123, Try.ntmps123
  go_wp2_with fail
  refine (HS.out _).mono ?_
  rintro e w1 ⟨rfl, hu, hb⟩
  have h1 : ∃ r, FT w w1 w.heap.size G.n a cap (8 * G.n) r := by
    simp only [World.size_alloc] at hu hb
    exact ⟨id, (hb.cell (p := ⟨w.heap.size, 0, none⟩) (by simp)).trans (World.cell?_alloc_at _ _ _ _ rfl), hu, ((Below.refl _ w).alloc (Nat.le_refl _) _).trans (hb.mono (by omega))⟩
  simp only [World.size_alloc] at *
  have H1 := Lib.hid h1
  obtain ⟨_, hr1⟩ := h1
  have c0 := hr1.c0
  clear hb hu hr1
  generalize hN : w.heap.size = N at *
  go_wp2
  go_loopw [25] (fun i wr => ∃ t : Nat, t ≤ G.n ∧ i = .int .i64 t ∧ ∃ r, FT w wr N G.n a cap (8 * G.n) r) (fun i _ => G.n - (intOf i).toNat)
  case atStart => exact ⟨0, by omega, rfl, H1.out⟩
  case round =>
    clear H1 c0
    obtain ⟨t, ht, rfl, hR⟩ := hrel
    have HR := Lib.hid hR
    obtain ⟨r0, hR⟩ := hR
    rcases Nat.lt_or_ge t G.n with htn | htn
    · obtain ⟨hga, hgc⟩ := HGC.out
      obtain ⟨rfl, hbB⟩ := hga (by omega)
      have hrow := rowCells (W := wr) (b := b) (off := off) (fun k hk => ⟨(hR.bel.cell (p := ⟨b, _, none⟩) (by show b < N; omega)).trans (hgc k hk).1, fun i hi => (hR.bel.cell (p := ⟨b, _, none⟩) (by show b < N; omega)).trans ((hgc k hk).2 i hi)⟩) t htn
      have hrg := hrow.range
      have t0 : 0 ≤ (t : Int) := by omega
      have tn : (t : Int) < (G.n : Int) := by omega
      have hNl := hR.lt
      clear hR hga hgc hrow
      go_wp2_with (first | (refine wpList_load_row' rfl 88 (.tmp 28) rfl b (off + t * 20) rfl (rowA G t) _ hrg Try.underlying88 rfl (by kernel_rfl) ?_) | (refine wpList_store_new (w := wr) rfl 88 (.tmp 9) (.tmp 29) rfl _ (rowA G t) rfl rfl (by kernel_rfl) rfl (rowA_one G t) ?_))
      refine wp_named fun W3 hW3 => ?_
      obtain ⟨D, hD⟩ : ∃ D, D = wr.heap.size := ⟨_, rfl⟩
      have h3 : OT w W3 N G.n (some ⟨b, off, none⟩) cap (8 * G.n) D G t := by
        rw [hW3, hD]
        obtain ⟨r, hr⟩ := HR.out
        exact ⟨⟨r, hr.al _⟩, fun j hj => by rw [Nat.zero_add]; exact World.cell?_alloc_at _ _ _ _ rfl, hNl⟩
      rw [← hD]
      have H3 := Lib.hid h3
      clear h3 hW3 HR hrg hD hNl
      go_loopw [10] (fun i wr => ∃ j : Nat, j ≤ 4 ∧ i = .int .i64 j ∧ OT w wr N G.n (some ⟨b, off, none⟩) cap (8 * G.n) D G t) (fun i _ => 4 - (intOf i).toNat)
      case atStart => exact ⟨0, by omega, rfl, H3.out⟩
      case round =>
        clear H3
        obtain ⟨i, hi, rfl, hR⟩ := hrel
        have HR := Lib.hid hR
        rcases Nat.lt_or_ge i 4 with hi4 | hi4
        · have hrg := hR.row.range
          have i0 : 0 ≤ (i : Int) := by omega
          have i4 : (i : Int) < 4 := by omega
          clear hR
          go_wp2_with (first | (refine wpList_load_row' rfl 88 (.tmp 9) rfl D 0 rfl (rowA G t) _ hrg Try.underlying88 rfl (by kernel_rfl) ?_))
          clear hrg
          go_loopw [35] (fun x wr => ∃ f : Nat, f ≤ 4 ∧ x = .int .i64 f ∧ OT w wr N G.n (some ⟨b, off, none⟩) cap (8 * G.n) D G t) (fun x _ => 4 - (intOf x).toNat)
          case atStart => exact ⟨0, by omega, rfl, HR.out⟩
          case round =>
            clear HR
            obtain ⟨f, hf, rfl, hR⟩ := hrel
            have HR := Lib.hid hR
            clear hR
            rcases Nat.lt_or_ge f 4 with hf4 | hf4
            · have hix := fun w => row_index G t f hf4 w
              unfold faceA at hix
              have hkk : 4 * t + f < 4 * G.n := by omega
              by_cases efi : f = i
              · have b1 := natbeq_true efi
                clear efi
                go_wp2
                go_roundw
                case rel => exact ⟨f + 1, by omega, rfl, HR.out.al _⟩
                case measure => simp [intOf]; omega
              · have b1 := natbeq_false efi
                by_cases hneg : G.tet (4 * t + f) < 0
                · have q1 : decide (G.tet (4 * t + f) < 0) = true := by simpa using hneg
                  clear hneg efi
                  generalize hT : G.tet (4 * t + f) = T at *
                  clear hT
                  go_wp2
                  go_roundw
                  case rel => exact ⟨f + 1, by omega, rfl, HR.out.al _⟩
                  case measure => simp [intOf]; omega
                · obtain ⟨e1, e2, e3⟩ := ok_face HO.out.1 hkk hneg
                  have q1 : decide (G.tet (4 * t + f) < 0) = false := by simpa using hneg
                  have HX := Lib.hid (And.intro hneg e3)
                  have hPi := (e3 i hi4).2
                  have hPe := (e3 i hi4).1
                  rw [e1] at q1 hix
                  have hoe := OE.of (T := ((G.T (4 * t + f) : Nat) : Int)) (q := G.pm (4 * t + f)) HR.out
                  have hob := (HR.out.al (.cells (fcells ((G.T (4 * t + f) : Nat) : Int) (G.pm (4 * t + f))) 87)).ft
                  obtain ⟨_, hob⟩ := hob
                  have cv := (hob.bel.cell (p := ⟨d, 4 * t + i, none⟩) (by show d < N; omega)).trans (HO.out.2.cell (i := 4 * t + i) (by omega))
                  have HE := Lib.hid hoe
                  unfold fcells at HE cv
                  clear hneg hoe e1 e3 hob efi
                  generalize hT : G.T (4 * t + f) = T at *
                  generalize hpm : G.pm (4 * t + f) = q at *
                  generalize hP : G.P (4 * t + f) i = P at *
                  clear hT hpm hP HR
                  obtain ⟨E, hEE⟩ : ∃ E, E = wr.heap.size := ⟨_, rfl⟩
                  rw [← hEE] at HE
                  obtain ⟨I, hI⟩ : ∃ I : Nat, I = 4 * t + i := ⟨_, rfl⟩
                  rw [← hI] at cv
                  have hIn : I < 4 * G.n := by omega
                  have hIe : 4 * (t : Int) + (i : Int) = (I : Int) := by omega
                  clear hI
                  generalize hvf : vf I = y at *
                  clear hvf
                  by_cases eyx : y = x
                  · have b2 : (y != x) = false := by simp [bne, eyx]
                    have hrs := fun W => rsign_walk q W
                    obtain ⟨sg, hsg⟩ : ∃ sg, sg = SignR q := ⟨_, rfl⟩
                    unfold P4 at hrs
                    rw [← hsg] at hrs
                    have HRS := Lib.hid hrs
                    clear eyx hrs hsg
                    go_wp2_with fail
                    refine (HRS.out _).mono ?_
                    rintro e w5 ⟨rfl, hb5⟩
                    have HE5 := Lib.hid (HE.out.below hb5)
                    clear hb5 HE cv
                    rw [← hEE]
                    clear hEE
                    obtain ⟨A, hA⟩ : ∃ A : Nat, A = 8 * t := ⟨_, rfl⟩
                    obtain ⟨B, hB⟩ : ∃ B : Nat, B = 2 * i := ⟨_, rfl⟩
                    obtain ⟨C, hC⟩ : ∃ C : Nat, C = A + B := ⟨_, rfl⟩
                    obtain ⟨C1, hC1⟩ : ∃ C1 : Nat, C1 = C + 1 := ⟨_, rfl⟩
                    obtain ⟨A', hA'⟩ : ∃ A : Nat, A = 8 * T := ⟨_, rfl⟩
                    obtain ⟨B', hB'⟩ : ∃ B : Nat, B = 2 * P := ⟨_, rfl⟩
                    obtain ⟨F, hF⟩ : ∃ C : Nat, C = A' + B' := ⟨_, rfl⟩
                    obtain ⟨F1, hF1⟩ : ∃ C1 : Nat, C1 = F + 1 := ⟨_, rfl⟩
                    have hC1n : C1 < 8 * G.n := by omega
                    have hF1n : F1 < 8 * G.n := by omega
                    have hCn : C < C1 := by omega
                    have hFn : F < F1 := by omega
                    have v1 : IntKind.i64.wrap (8 * (t : Int)) = (A : Int) := by rw [IntWalk.i64_in _ (by omega)]; omega
                    have v2 : IntKind.i64.wrap (2 * (i : Int)) = (B : Int) := by rw [IntWalk.i64_in _ (by omega)]; omega
                    have v3 : IntKind.i64.wrap ((A : Int) + (B : Int)) = (C : Int) := by rw [IntWalk.i64_in _ (by omega)]; omega
                    have v4 : IntKind.i64.wrap ((C : Int) + 1) = (C1 : Int) := by rw [IntWalk.i64_in _ (by omega)]; omega
                    have v5 : IntKind.i64.wrap (8 * (T : Int)) = (A' : Int) := by rw [IntWalk.i64_in _ (by omega)]; omega
                    have v6 : IntKind.i64.wrap (2 * (P : Int)) = (B' : Int) := by rw [IntWalk.i64_in _ (by omega)]; omega
                    have v7 : IntKind.i64.wrap ((A' : Int) + (B' : Int)) = (F : Int) := by rw [IntWalk.i64_in _ (by omega)]; omega
                    have v8 : IntKind.i64.wrap ((F : Int) + 1) = (F1 : Int) := by rw [IntWalk.i64_in _ (by omega)]; omega
                    have v9 : IntKind.i64.wrap (C : Int) = (C : Int) := by rw [IntWalk.i64_in _ (by omega)]
                    have v10 : IntKind.i64.wrap (F : Int) = (F : Int) := by rw [IntWalk.i64_in _ (by omega)]
                    have z0 : IntKind.i64.wrap 0 = 0 := by decide
                    have z1 : IntKind.i64.wrap 1 = 1 := by decide
                    have z2 : IntKind.i64.wrap 2 = 2 := by decide
                    have hP4 : (P : Int) < 4 := by omega
                    clear hA hB hC hC1 hA' hB' hF hF1
                    by_cases hsg : sg = 1
                    · have b3 : (sg == 1) = true := by simpa using hsg
                      clear hsg
                      go_wp2
                      refine wp_named fun W6 hW6 => ?_
                      have h6 : OE w W6 N G.n (some ⟨b, off, none⟩) cap (8 * G.n) D G t E (T : Nat) q := by rw [hW6]; exact HE5.out
                      have H6 := Lib.hid h6
                      clear h6 hW6 HE5
                      go_loopw [14] (fun x wr => ∃ s : Nat, s ≤ 2 ∧ x = .int .i64 s ∧ OE w wr N G.n (some ⟨b, off, none⟩) cap (8 * G.n) D G t E (T : Nat) q) (fun x _ => 2 - (intOf x).toNat)
                      case atStart => exact ⟨0, by omega, rfl, H6.out⟩
                      case round =>
                        clear H6
                        obtain ⟨s, hs, rfl, hR⟩ := hrel
                        have HR := Lib.hid hR
                        have d0 : wr.drew.cell? ⟨E, 0, none⟩ = some (.int .i64 ((T : Nat) : Int)) := hR.e0
                        have d1 : wr.drew.cell? ⟨E, 1 + i, none⟩ = some (.int .i64 ((P : Nat) : Int)) := by rw [← hPe]; exact hR.e1 i hi4
                        clear hR
                        rcases (show s = 0 ∨ s = 1 ∨ s = 2 by omega) with rfl | rfl | rfl
                        · go_wp2
                          refine region_tail 22 (by kernel_rfl) (by kernel_rfl) ?_
                          simp only [List.take_succ_cons, List.take_zero, List.drop_succ_cons, List.drop_zero]
                          repeat (refine wpStill_step (fun K hK => ?_); go_simp; refine hK _ ?_; clear hK K)
                          refine wpStill_nil ?_
                          clear d0 d1
                          go_wp2_with fail
                          obtain ⟨r6, h6⟩ := HR.out.dr.ot.ft
                          refine (identify_walk _ _ _ C F1 (by omega) (by omega) (by omega) _ h6.ur).mono ?_
                          rintro e w7 ⟨rfl, h7, g7⟩
                          have H7 := Lib.hid (HR.out.dr.join h7 g7)
                          clear h7 g7 h6
                          go_wp2
                          go_roundw
                          case rel => exact ⟨1, by omega, rfl, H7.out⟩
                          case measure => simp [intOf]
                        · go_wp2
                          refine region_tail 22 (by kernel_rfl) (by kernel_rfl) ?_
                          simp only [List.take_succ_cons, List.take_zero, List.drop_succ_cons, List.drop_zero]
                          repeat (refine wpStill_step (fun K hK => ?_); go_simp; refine hK _ ?_; clear hK K)
                          refine wpStill_nil ?_
                          clear d0 d1
                          go_wp2_with fail
                          obtain ⟨r6, h6⟩ := HR.out.dr.ot.ft
                          refine (identify_walk _ _ _ C1 F (by omega) (by omega) (by omega) _ h6.ur).mono ?_
                          rintro e w7 ⟨rfl, h7, g7⟩
                          have H7 := Lib.hid (HR.out.dr.join h7 g7)
                          clear h7 g7 h6
                          go_wp2
                          go_roundw
                          case rel => exact ⟨2, by omega, rfl, H7.out⟩
                          case measure => simp [intOf]
                        · clear d0 d1
                          go_wp2
                          go_roundw
                          case rel => exact ⟨f + 1, by omega, rfl, HR.out.ot⟩
                          case measure => simp [intOf]; omega
                    · have b3 : (sg == 1) = false := by simpa using hsg
                      clear hsg
                      go_wp2
                      refine wp_named fun W6 hW6 => ?_
                      have h6 : OE w W6 N G.n (some ⟨b, off, none⟩) cap (8 * G.n) D G t E (T : Nat) q := by rw [hW6]; exact HE5.out
                      have H6 := Lib.hid h6
                      clear h6 hW6 HE5
                      go_loopw [14] (fun x wr => ∃ s : Nat, s ≤ 2 ∧ x = .int .i64 s ∧ OE w wr N G.n (some ⟨b, off, none⟩) cap (8 * G.n) D G t E (T : Nat) q) (fun x _ => 2 - (intOf x).toNat)
                      case atStart => exact ⟨0, by omega, rfl, H6.out⟩
                      case round =>
                        clear H6
                        obtain ⟨s, hs, rfl, hR⟩ := hrel
                        have HR := Lib.hid hR
                        have d0 : wr.drew.cell? ⟨E, 0, none⟩ = some (.int .i64 ((T : Nat) : Int)) := hR.e0
                        have d1 : wr.drew.cell? ⟨E, 1 + i, none⟩ = some (.int .i64 ((P : Nat) : Int)) := by rw [← hPe]; exact hR.e1 i hi4
                        clear hR
                        rcases (show s = 0 ∨ s = 1 ∨ s = 2 by omega) with rfl | rfl | rfl
                        · go_wp2
                          refine region_tail 22 (by kernel_rfl) (by kernel_rfl) ?_
                          simp only [List.take_succ_cons, List.take_zero, List.drop_succ_cons, List.drop_zero]
                          repeat (refine wpStill_step (fun K hK => ?_); go_simp; refine hK _ ?_; clear hK K)
                          refine wpStill_nil ?_
                          clear d0 d1
                          go_wp2_with fail
                          obtain ⟨r6, h6⟩ := HR.out.dr.ot.ft
                          refine (identify_walk _ _ _ C F (by omega) (by omega) (by omega) _ h6.ur).mono ?_
                          rintro e w7 ⟨rfl, h7, g7⟩
                          have H7 := Lib.hid (HR.out.dr.join h7 g7)
                          clear h7 g7 h6
                          go_wp2
                          go_roundw
                          case rel => exact ⟨1, by omega, rfl, H7.out⟩
                          case measure => simp [intOf]
                        · go_wp2
                          refine region_tail 22 (by kernel_rfl) (by kernel_rfl) ?_
                          simp only [List.take_succ_cons, List.take_zero, List.drop_succ_cons, List.drop_zero]
                          repeat (refine wpStill_step (fun K hK => ?_); go_simp; refine hK _ ?_; clear hK K)
                          refine wpStill_nil ?_
                          clear d0 d1
                          go_wp2_with fail
                          obtain ⟨r6, h6⟩ := HR.out.dr.ot.ft
                          refine (identify_walk _ _ _ C1 F1 (by omega) (by omega) (by omega) _ h6.ur).mono ?_
                          rintro e w7 ⟨rfl, h7, g7⟩
                          have H7 := Lib.hid (HR.out.dr.join h7 g7)
                          clear h7 g7 h6
                          go_wp2
                          go_roundw
                          case rel => exact ⟨2, by omega, rfl, H7.out⟩
                          case measure => simp [intOf]
                        · clear d0 d1
                          go_wp2
                          go_roundw
                          case rel => exact ⟨f + 1, by omega, rfl, HR.out.ot⟩
                          case measure => simp [intOf]; omega
                  · have b2 : (y != x) = true := by simpa [bne] using eyx
                    clear eyx hEE
                    have HE2 := Lib.hid HE.out.ot
                    clear HE
                    go_wp2
                    go_roundw
                    case rel => exact ⟨f + 1, by omega, rfl, HE2.out⟩
                    case measure => simp [intOf]; omega
            · obtain rfl : f = 4 := by omega
              go_wp2
              go_roundw
              case rel => exact ⟨i + 1, by omega, rfl, HR.out⟩
              case measure => simp [intOf]; omega
        · obtain rfl : i = 4 := by omega
          clear hR
          go_wp2
          go_roundw
          case rel => exact ⟨t + 1, by omega, rfl, HR.out.ft⟩
          case measure => simp [intOf]; omega
    · obtain rfl : t = G.n := by omega
      clear hR
      obtain ⟨r, hr⟩ := HR.out
      have c0 := hr.c0
      have HR := Lib.hid hr
      clear hr
      go_wp2
      go_loop [94] (fun x => ∃ t : Nat, t ≤ G.n ∧ x = .int .i64 t) (fun x => G.n - (intOf x).toNat)
      case atStart => exact ⟨0, by omega, rfl⟩
      case round =>
        clear c0
        obtain ⟨t, ht, rfl⟩ := hrel
        rcases Nat.lt_or_ge t G.n with htn | htn
        · have t0 : 0 ≤ (t : Int) := by omega
          have tn : (t : Int) < (G.n : Int) := by omega
          go_wp2
          go_loop [16] (fun x => ∃ i : Nat, i ≤ 4 ∧ x = .int .i64 i) (fun x => 4 - (intOf x).toNat)
          case atStart => exact ⟨0, by omega, rfl⟩
          case round =>
            obtain ⟨i, hi, rfl⟩ := hrel
            rcases Nat.lt_or_ge i 4 with hi4 | hi4
            · have i4 : (i : Int) < 4 := by omega
              have hr1 := rroot_walk (N + 1) (8 * G.n) r (8 * t + 2 * i) (by omega) (by omega) wr HR.out.ur
              have hr2 := rroot_walk (N + 1) (8 * G.n) r (8 * t + 2 * i + 1) (by omega) (by omega) wr HR.out.ur
              rw [show ((8 * t + 2 * i + 1 : Nat) : Int) = 8 * (t : Int) + 2 * (i : Int) + 1 by omega] at hr2
              rw [show ((8 * t + 2 * i : Nat) : Int) = 8 * (t : Int) + 2 * (i : Int) by omega] at hr1
              generalize r (8 * t + 2 * i + 1) = y at *
              generalize r (8 * t + 2 * i) = z at *
              have HR1 := Lib.hid hr1
              have HR2 := Lib.hid hr2
              clear hr1 hr2
              go_wp2_with fail
              refine HR1.out.mono ?_
              rintro e w8 ⟨rfl, rfl⟩
              go_wp2_with fail
              refine HR2.out.mono ?_
              rintro e w9 ⟨rfl, rfl⟩
              by_cases e : z = y
              · have b1 := natbeq_true e
                clear e
                go_wp2
                go_ret
                exact ⟨⟨_, rfl⟩, hN ▸ HR.out.bel⟩
              · have b1 := natbeq_false e
                clear e
                go_wp2
                go_round
                case rel => exact ⟨i + 1, by omega, rfl⟩
                case measure => simp [intOf]; omega
            · obtain rfl : i = 4 := by omega
              go_wp2
              go_round
              case rel => exact ⟨t + 1, by omega, rfl⟩
              case measure => simp [intOf]; omega
        · obtain rfl : t = G.n := by omega
          go_wp2
          go_ret
          exact ⟨⟨_, rfl⟩, hN ▸ HR.out.bel⟩
end Go.Proofs.Ytlckpgahijlmoaa
namespace Go.Proofs.Ytlckpgahijlmoaa
open Go.RowKit Go.Shelf

theorem GlAt.setCell {B : Nat} {W : World} {g n cap : Nat} {G : Gl} {x o : Nat} {u : Value} (h : GlAt B W (.slice (some ⟨g, 0, none⟩) n cap) G) (hx : x ≠ g) : GlAt B (W.setCell ⟨x, o, none⟩ u) (.slice (some ⟨g, 0, none⟩) n cap) G := by
  obtain ⟨a, b, off, cp, e, ha, hc⟩ := h
  refine ⟨a, b, off, cp, e, ha, fun k hk => ?_⟩
  have e1 := (ha (by omega)).1
  simp only [Value.slice.injEq] at e
  have e2 : b = g := by
    have := e.1.trans e1
    simp at this; omega
  subst e2
  obtain ⟨h1, h2⟩ := hc k hk
  have oth : ∀ y, (W.setCell ⟨x, o, none⟩ u).cell? ⟨b, y, none⟩ = W.cell? ⟨b, y, none⟩ := fun y => World.cell?_setCell_other (a := ⟨x, o, none⟩) (b := ⟨b, y, none⟩) _ _ (by simp <;> omega)
  exact ⟨(oth _).trans h1, fun i hi => (oth _).trans (h2 i hi)⟩
/-- the row under way -/
structure PRw (W wr : World) (D c : Nat) : Prop where
  row : RowCells wr D 0 (GP c) 0
  fz : ∀ j, wr.frozen? ⟨D, j, none⟩ = false
  bel : Below D W wr
theorem PRw.cellAt {W wr : World} {D c j : Nat} (h : PRw W wr D c) (hj : j < 20) : ∃ v, wr.cell? ⟨D, j, none⟩ = some v := by
  have h1 := h.row j hj
  rw [rowA_get _ _ _ hj, Nat.zero_add] at h1
  exact ⟨_, h1⟩
theorem PRw.tet {W wr : World} {D c F : Nat} (hF : F < 4) (h : PRw W wr D c) : PRw W (wr.setCell ⟨D, F * 5, none⟩ (.int .i64 0)) D c :=
  ⟨GP_tet hF h.row, fun j => by rw [World.frozen?_setCell]; exact h.fz j, h.bel.setCell (Nat.le_refl _) _⟩
theorem PRw.pm {W wr : World} {D F i : Nat} (hF : F < 4) (hi : i < 4) (h : PRw W wr D (4 * F + i)) : PRw W (wr.setCell ⟨D, F * 5 + 1 + i, none⟩ (.int .i64 (pmS F i : Nat))) D (4 * F + i + 1) :=
  ⟨GP_pm hF hi h.row, fun j => by rw [World.frozen?_setCell]; exact h.fz j, h.bel.setCell (Nat.le_refl _) _⟩

/-- the words in memory -/
structure WS (B : Nat) (W : World) (g : Nat) : Prop where
  one : W.cell? ⟨g, 0, none⟩ = some (.string b1)
  tet : ∀ F, F < 4 → W.cell? ⟨g, 1 + 2 * F, none⟩ = some (.string b0)
  pm : ∀ F, F < 4 → W.cell? ⟨g, 1 + 2 * F + 1, none⟩ = some (.string (wrd F))
  lt : g < B
theorem WS.of {base : Nat} {W : World} {u : Value} (h : W.ownsRow base 9 1 u (wordsP txt).length (strs (wordsP txt))) : ∃ g cp, u = .slice (some ⟨g, 0, none⟩) 9 cp ∧ WS W.heap.size W g := by
  have hl : (wordsP txt).length = 9 := by rw [words_txt]; rfl
  rw [hl] at h
  obtain ⟨g, cp, rfl, _⟩ := h.form (by omega)
  have c : ∀ j x, (strs (wordsP txt))[j]? = some x → W.cell? ⟨g, j, none⟩ = some x := fun j x hx => by
    have := h.cells (g := g) rfl j x hx
    rwa [Addr.add_mid, Nat.zero_add] at this
  exact ⟨g, cp, rfl, c 0 _ txt_one, fun F hF => c _ _ (txt_tet F hF), fun F hF => c _ _ (txt_pm F hF), lt_of_cell (c 0 _ txt_one)⟩
theorem WS.below {B : Nat} {W W' : World} {g : Nat} (h : WS B W g) (hb : Below B W W') : WS B W' g :=
  ⟨(hb.cell (p := ⟨g, 0, none⟩) h.lt).trans h.one, fun F hF => (hb.cell (p := ⟨g, _, none⟩) h.lt).trans (h.tet F hF), fun F hF => (hb.cell (p := ⟨g, _, none⟩) h.lt).trans (h.pm F hF), h.lt⟩

set_option maxRecDepth 100000 in
set_option maxHeartbeats 4000000 in
theorem Parse_walk (w : World) :
    Calls Try.prog 40 #[.string txt] w fun e w' => ∃ u, e = .returned (.tuple #[.agg #[u], .int .i64 0]) ∧ GlAt w'.heap.size w' u GS ∧ Below w.heap.size w w' := by
  have hw80 : ∀ W, Calls Try.prog 80 #[.string txt] W fun e w' => ∃ g cp, e = .returned (.slice (some ⟨g, 0, none⟩) 9 cp) ∧ WS w'.heap.size w' g ∧ Below W.heap.size W w' := fun W => (Words_walk txt (by decide) W).mono fun e w' ⟨u, he, ho, hb⟩ => by
    obtain ⟨g, cp, rfl, hg⟩ := WS.of ho
    exact ⟨g, cp, he, hg, hb⟩
  have hn1 := fun W => number_walk b1 1 rfl (by omega) b1_byte W
  have hn0 := fun W => number_walk b0 0 rfl (by omega) b0_byte W
  have HC := Lib.hid (And.intro hw80 (And.intro hn1 hn0)); clear hw80 hn1 hn0
  have ht : txt.size = 29 := rfl
  obtain ⟨tx, htx⟩ : ∃ tx, tx = txt := ⟨_, rfl⟩
  rw [← htx] at HC ht ⊢
  clear htx
  generalize hN : w.heap.size = N at *
  go_enter Try.func40, Try.ntmps40
  go_wp2_with (first
    | (go_at_call 80; (with_reducible refine (HC.out.1 _).mono ?_); rintro e W1 ⟨g, cp, rfl, hws, hb1⟩; have x1 := hws.one; have HW := Lib.hid (And.intro hws hb1); clear hws hb1)
    | (go_at_call 81; (with_reducible refine (HC.out.2.1 _).mono ?_); rintro e W2 ⟨rfl, rfl⟩))
  obtain ⟨D, hD⟩ : ∃ D, D = W2.heap.size := ⟨_, rfl⟩
  rw [← hD]
  refine wp_named fun W3 hW => ?_
  have hND : N < D := by have := HW.out.2.size; simp only [World.size_alloc] at this; omega
  have h3 : WS D W3 g ∧ (W3.cell? ⟨D, 0, none⟩ = some (.slice none 0 0) ∧ W3.frozen? ⟨D, 0, none⟩ = false) ∧ (W3.cell? ⟨N, 0, none⟩ = some (.slice none 0 0) ∧ W3.frozen? ⟨N, 0, none⟩ = false) ∧ Below N w W3 ∧ W3.heap.size = D + 1 := by
    have hal := World.grownBy_alloc W2 (.cells #[.slice none 0 0] 24) none
    have cN : W2.cell? ⟨N, 0, none⟩ = some (.slice none 0 0) := (HW.out.2.cell (p := ⟨N, 0, none⟩) (by simp; omega)).trans (World.cell?_alloc_at _ _ _ _ hN.symm)
    have fN : W2.frozen? ⟨N, 0, none⟩ = false := ((below_grown HW.out.2 (Nat.le_refl _) none).frozen_far ⟨N, 0, none⟩ (by simp; omega) (by simp)).trans (World.frozen?_alloc_at _ _ _ _ hN.symm)
    rw [hW]
    refine ⟨?_, ⟨World.cell?_alloc_at _ _ _ _ hD, World.frozen?_alloc_at _ _ _ _ hD⟩, ⟨hal.cell cN (by simp), (hal.frozen_far ⟨N, 0, none⟩ (lt_of_cell cN) (by simp)).trans fN⟩, ?_, by simp; omega⟩
    · have := HW.out.1.below ((Below.refl _ W2).alloc (Nat.le_refl _) (.cells #[.slice none 0 0] 24))
      rw [hD]; exact this
    · have hb : Below N w (w.alloc (.cells #[.slice none 0 0] 24)) := by rw [← hN]; exact (Below.refl _ _).alloc (Nat.le_refl _) _
      exact (hb.trans (HW.out.2.mono (by simp; omega))).alloc (by omega) _
  have H3 := Lib.hid h3
  clear h3 hW x1 HW hD
  go_loopw [8, 9] (fun at_ t wr => (at_ = .int .i64 1 ∧ t = .int .i64 0 ∧ wr = W3) ∨ (at_ = .int .i64 9 ∧ t = .int .i64 1 ∧ ∃ ga gc, N < ga ∧ wr.cell? ⟨D, 0, none⟩ = some (.slice (some ⟨ga, 0, none⟩) 1 gc) ∧ GlAt wr.heap.size wr (.slice (some ⟨ga, 0, none⟩) 1 gc) GS ∧ (wr.cell? ⟨N, 0, none⟩ = some (.slice none 0 0) ∧ wr.frozen? ⟨N, 0, none⟩ = false) ∧ Below N w wr)) (fun _ t _ => 1 - (intOf t).toNat)
  case atStart => exact .inl ⟨rfl, rfl, rfl⟩
  case round =>
    rcases hrel with ⟨rfl, rfl, rfl⟩ | ⟨rfl, rfl, ga, gc, hga, cD, hgl, cN, hb⟩
    · go_wp2
      obtain ⟨E, hE⟩ : ∃ E, E = wr.heap.size := ⟨_, rfl⟩
      rw [← hE]
      refine wp_named fun W4 hW => ?_
      have h4 : PRw W4 W4 E 0 ∧ WS E W4 g ∧ (W4.cell? ⟨D, 0, none⟩ = some (.slice none 0 0) ∧ W4.frozen? ⟨D, 0, none⟩ = false) ∧ (W4.cell? ⟨N, 0, none⟩ = some (.slice none 0 0) ∧ W4.frozen? ⟨N, 0, none⟩ = false) ∧ Below N w W4 ∧ W4.heap.size = E + 1 ∧ E = D + 1 := by
        obtain ⟨q1, ⟨q2, q3⟩, ⟨q4, q5⟩, q6, q7⟩ := H3.out
        rw [← GP_zero] at hW
        have hal := World.grownBy_alloc wr (.cells (rowA (GP 0) 0) 88) none
        rw [← hW] at hal
        have hbe : Below D wr W4 := by rw [hW]; exact (Below.refl _ _).alloc (by omega) _
        have q1' := q1.below hbe
        refine ⟨⟨fun j hj => ?_, fun j => ?_, Below.refl _ _⟩, ⟨q1'.one, q1'.tet, q1'.pm, by have := q1.lt; omega⟩, ⟨hal.cell q2 (by simp), (hal.frozen_far ⟨D, 0, none⟩ (lt_of_cell q2) (by simp)).trans q3⟩, ⟨hal.cell q4 (by simp), (hal.frozen_far ⟨N, 0, none⟩ (lt_of_cell q4) (by simp)).trans q5⟩, q6.trans (hbe.mono (by omega)), by rw [hW]; simp; omega, by omega⟩
        · rw [hW, World.cell?_alloc_at _ _ _ _ hE, Nat.zero_add]
        · rw [hW]; exact World.frozen?_alloc_at _ _ _ _ hE
      have H4 := Lib.hid h4
      have h4b := H4.out.1
      clear h4 hW H3 hE
      go_loopw [8, 11] (fun at_ f wr => ∃ F : Nat, F ≤ 4 ∧ at_ = .int .i64 (1 + 2 * F : Nat) ∧ f = .int .i64 F ∧ PRw W4 wr E (4 * F)) (fun _ f _ => 4 - (intOf f).toNat)
      case atStart => exact ⟨0, by omega, rfl, rfl, h4b⟩
      case round =>
        clear h4b
        obtain ⟨F, hF, rfl, rfl, hP⟩ := hrel
        have HP := Lib.hid hP
        rcases Nat.lt_or_ge F 4 with hF4 | hF4
        · have hws := H4.out.2.1.below hP.bel
          have x0 := hws.tet F hF4
          have x1 := hws.pm F hF4
          obtain ⟨v0, hv0⟩ := hP.cellAt (j := F * 5) (by omega)
          have fv0 := hP.fz (F * 5)
          obtain ⟨A, hA⟩ : ∃ A, A = 1 + 2 * F := ⟨_, rfl⟩
          rw [← hA] at x0 x1 ⊢
          obtain ⟨c, hc⟩ : ∃ c, c = wrd F := ⟨_, rfl⟩
          have hcs : c.size = 4 := by rw [hc]; exact wrd_size F
          rw [← hc] at x1
          have q1 : IntKind.i64.wrap ((A : Int) + 1) = ((A + 1 : Nat) : Int) := by rw [IntWalk.i64_in _ (by omega)]; omega
          have q2 : decide ((9 : Int) ≤ (A : Int)) = false := by simp; omega
          have q3 : decide ((9 : Int) ≤ ((A + 1 : Nat) : Int)) = false := by simp; omega
          have F0 : 0 ≤ (F : Int) := by omega
          have A0 : 0 ≤ (A : Int) := by omega
          have A9 : (A : Int) < 9 := by omega
          have B0 : 0 ≤ ((A + 1 : Nat) : Int) := by omega
          have B9 : ((A + 1 : Nat) : Int) < 9 := by omega
          have Fi : (F : Int) < 4 := by omega
          have HF := Lib.hid (And.intro hA hc)
          have e45 : (b0.toList == [45]) = false := by kernel_rfl
          clear hP hws hA hc hF
          go_wp2_with (go_at_call 81; (with_reducible refine (HC.out.2.2 _).mono ?_); rintro e W2 ⟨rfl, rfl⟩)
          have h5 := HP.out.tet hF4
          go_loopw [14] (fun i wr => ∃ I : Nat, I ≤ 4 ∧ i = .int .i64 I ∧ PRw W4 wr E (4 * F + I)) (fun i _ => 4 - (intOf i).toNat)
          case atStart => exact ⟨0, by omega, rfl, h5⟩
          case round =>
            clear h5 HP
            obtain ⟨I, hI, rfl, hP⟩ := hrel
            have HP := Lib.hid hP
            rcases Nat.lt_or_ge I 4 with hI4 | hI4
            · have hws := H4.out.2.1.below hP.bel
              have x1 := hws.pm F hF4
              rw [← HF.out.1, ← HF.out.2] at x1
              obtain ⟨v1, hv1⟩ := hP.cellAt (j := F * 5 + 1 + I) (by omega)
              have fv1 := hP.fz (F * 5 + 1 + I)
              have hr := fun w => run_byte c (i := I) (by omega) w
              have hbb := wrd_byte F I hI4
              rw [← HF.out.2] at hbb
              obtain ⟨p, hp⟩ : ∃ p, p = pmS F I := ⟨_, rfl⟩
              have hp4 : p < 4 := by rw [hp]; unfold pmS; split <;> omega
              rw [← hp] at hbb
              rw [hbb] at hr
              have Hp := Lib.hid hp
              have I0 : 0 ≤ (I : Int) := by omega
              have Ii : (I : Int) < 4 := by omega
              have d1 : decide (48 + (p : Int) < 48) = false := by simp; omega
              have d2 : decide (57 < 48 + (p : Int)) = false := by simp; omega
              have d3 : IntKind.u8.wrap (48 + (p : Int) - 48) = (p : Int) := by
                have : p = 0 ∨ p = 1 ∨ p = 2 ∨ p = 3 := by omega
                rcases this with e | e | e | e <;> rw [e] <;> rfl
              have d4 : IntKind.i64.wrap (p : Int) = (p : Int) := by rw [IntWalk.i64_in _ (by omega)]
              clear hP hws hbb hp hI
              go_wp2
              have h6 := HP.out.pm hF4 hI4
              rw [← Hp.out] at h6
              exact ⟨⟨I + 1, by omega, by simp, h6⟩, by simp [intOf]; omega⟩
            · obtain rfl : I = 4 := by omega
              clear hP
              go_wp2
              have h6 := HP.out
              rw [show 4 * F + 4 = 4 * (F + 1) by omega] at h6
              exact ⟨⟨F + 1, by omega, by rw [HF.out.1]; simp; omega, by simp, h6⟩, by simp [intOf]; omega⟩
        · obtain rfl : F = 4 := by omega
          clear hF hF4
          have hrow : RowCells wr E 0 GS 0 := hP.row
          have hrg := RowCells.range hrow
          obtain ⟨q1, q2, ⟨q3, q4⟩, ⟨q5, q6⟩, q7, q8, q9⟩ := H4.out
          have hgb := hP.bel
          have hsz := hgb.size
          have cD := (hgb.cell (p := ⟨D, 0, none⟩) (by show D < E; omega)).trans q3
          have fD : wr.frozen? ⟨D, 0, none⟩ = false := by
            exact (hgb.frozen (p := ⟨D, 0, none⟩) (by show D < E; omega)).trans q4
          have newsA : ∀ (j : Nat) (u : Value), (rowA GS 0).toList[j]? = some u → (wr.alloc (.cells (rowA GS 0) 88)).cell? ((⟨wr.heap.size, 0, none⟩ : Addr).add j) = some u :=
            World.news_of_block (cs := rowA GS 0) (MapKept.heap_alloc wr _).1
          have oneA := fun u (hu : u ∈ (rowA GS 0).toList) => (Array.all_eq_true_iff_forall_mem.1 (rowA_one GS 0)) u (by simpa using hu)
          obtain ⟨i0, hi0, ⟨z0, hz0, hzs⟩, hz1, hz2⟩ := info88
          have cDa := cell_al cD (.cells (rowA GS 0) 88)
          have fDa : (wr.alloc (.cells (rowA GS 0) 88)).frozen? ⟨D, 0, none⟩ = false := ((World.grownBy_alloc wr _ none).frozen_far ⟨D, 0, none⟩ (lt_of_cell cD) (by simp)).trans fD
          have HA := Lib.hid (And.intro newsA (And.intro oneA (And.intro cDa fDa))); clear newsA oneA cDa fDa
          clear q1 q2 q3 q4 q5 q6 q7 q8 hgb hP hrow fD
          go_wp2_with (first | (refine wpList_load_row' rfl 88 (.tmp 10) rfl E 0 rfl (rowA GS 0) _ hrg Try.underlying88 rfl (by kernel_rfl) ?_) | (refine Go.Great.wpList_buildSliceTo rfl 22 88 1 _ rfl wr.heap.size rfl (.tmp 122) rfl und22 (rowA GS 0) (built88 _ _) ?_) | (at_builtin; rw [fold88]; refine (wpList_append_lies _ rfl (.tmp 120) (.tmp 122) 22 rfl (wr.heap.size + 1) 88 i0 z0 20 160 und22 hi0 hz0 hz1 hz2 hzs (by omega) (.slice none 0 0) 0 [] rfl (World.ownsRow_nil _ _ _ _) ⟨wr.heap.size, 0, none⟩ 1 1 (rowA GS 0).toList rfl rfl HA.out.1 HA.out.2.1 (by omega) (by unfold maxLen; omega) (by omega) (by simp) (wr.heap.size + 1) (by simp) ?_); intro g2 cp2 w1 r1 r2 r3 r4; have x2 := r2.cell HA.out.2.2.1 (by simp [Value.ownBlock]); have x3 := (r2.frozen_far ⟨D, 0, none⟩ (lt_of_cell HA.out.2.2.1) (by simp [Value.ownBlock])).trans HA.out.2.2.2; have HR := Lib.hid (And.intro r1 (And.intro r2 (And.intro r3 r4))); clear r1 r2 r3 r4))
          obtain ⟨r1, r2, r3, _⟩ := HR.out
          obtain ⟨q1, q2, ⟨q3, q4⟩, ⟨q5, q6⟩, q7, q8, _⟩ := H4.out
          have hP := HP.out
          have hg2 : g2 = wr.heap.size + 1 := by simpa [Value.ownBlock] using r3
          have r2' : (wr.alloc (.cells (rowA GS 0) 88)).grownBy w1 none := r2
          have hal := World.grownBy_alloc wr (.cells (rowA GS 0) 88) none
          have hsc := grownBy_setCell w1 D 0 (.slice (some ⟨g2, 0, none⟩) 1 cp2)
          have hDr := lt_of_cell cD
          simp only at hDr
          have hkept := r1.kept hsc (.inr (by simp [Value.ownBlock]; omega))
          have cN := r2'.cell (hal.cell ((hP.bel.cell (p := ⟨N, 0, none⟩) (by show N < E; omega)).trans q5) (by simp)) (by simp)
          have hNw := lt_of_cell q5
          simp only at hNw
          have fN : w1.frozen? ⟨N, 0, none⟩ = false := (r2'.frozen_far ⟨N, 0, none⟩ (by simp; omega) (by simp)).trans ((hal.frozen_far ⟨N, 0, none⟩ (by simp; omega) (by simp)).trans ((hP.bel.frozen (p := ⟨N, 0, none⟩) (by show N < E; omega)).trans q6))
          have hbel : Below N w w1 := ((q7.trans (hP.bel.mono (by omega))).alloc (by omega) _).grown r2' (by simp; omega) (fun k hk => by cases hk)
          refine ⟨.inr ⟨rfl, rfl, g2, cp2, by omega, World.cell?_setCell_same _ _ _ x2, ?_, ⟨hsc.cell cN (by simp; omega), by rw [World.frozen?_setCell]; exact fN⟩, hbel.setCell (by show N ≤ D; omega) _⟩, by simp [intOf]⟩
          have hgc : gcells GS = (rowA GS 0).toList := by simp [gcells, GS, GP]
          refine GlAt.of_cells (G := GS) (own_lt_size hkept rfl) (fun j u hu => ?_)
          rw [hgc] at hu
          have := hkept.cells (g := g2) rfl j u (by simpa using hu)
          rwa [Addr.add_mid, Nat.zero_add] at this
    · have HE := Lib.hid (And.intro hgl (And.intro cN hb))
      have hDr := lt_of_cell cD
      have hNr := lt_of_cell cN.1
      simp only at hDr hNr
      clear hgl cN hb
      go_wp2_with (go_at_call 24; (with_reducible refine (checkR_walk GS_ok _ _ HE.out.1).mono ?_); rintro e w5 ⟨rfl, hb5⟩; have y1 := (hb5.cell (p := ⟨D, 0, none⟩) (by exact hDr)).trans cD; have y2 := (hb5.cell (p := ⟨N, 0, none⟩) (by exact hNr)).trans HE.out.2.1.1; have y3 := (hb5.frozen (p := ⟨N, 0, none⟩) (by exact hNr)).trans HE.out.2.1.2; have H5 := Lib.hid hb5; clear hb5)
      refine bodyPost_ret (v := .tuple #[.agg #[.slice (some ⟨ga, 0, none⟩) 1 gc], .int .i64 0]) (by simp [results, Try.results40, go_sem, *]) rfl ⟨_, rfl, ?_, ?_⟩
      case refine_2 => exact (HE.out.2.2.trans (H5.out.mono (by omega))).setCell (by show N ≤ N; omega) _
      rw [World.size_setCell]
      exact ((HE.out.1.below H5.out).mono H5.out.size).setCell (by omega)
end Go.Proofs.Ytlckpgahijlmoaa
